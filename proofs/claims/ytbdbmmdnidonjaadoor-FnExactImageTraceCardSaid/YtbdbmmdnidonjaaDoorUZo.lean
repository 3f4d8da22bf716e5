/- The outcome of a run of an image: impl's outcome with the closure of runImage. -/
import Derived.Test.YtbdbmmdnidonjaaDoorUBu
import Derived.Test.YtbdbmmdnidonjaaDoorUJl
set_option linter.unusedVariables false
set_option linter.unusedSimpArgs false
set_option maxRecDepth 100000
namespace Go.Proofs.YtbdbmmdnidonjaaDoor
open Go.RowKit
theorem Fr2.setNew {fx : List Nat} {sv tv sv' tv' : Value} {w w' : World} (h : Fr2 fx sv tv w sv' tv' w') {a : Addr} (ha : w.heap.size ≤ a.block) (u : Value) : Fr2 fx sv tv w sv' tv' (w'.setCell a u) :=
 ⟨h.os, h.tape, h.output, by simpa using h.size, fun q hq hf h1 h2 => (Below.heap_setCell _ _ _ _ (by omega)).trans (h.block q hq hf h1 h2), h.row1, h.row2⟩
theorem Fr2.blk {fx : List Nat} {sv tv sv' tv' : Value} {w w' : World} (h : Fr2 fx sv tv w sv' tv' w') {k : Nat} {xs : List Value} (hk : Blk w k xs) (hf : k ∉ fx) (h1 : sv.ownBlock ≠ some k) (h2 : tv.ownBlock ≠ some k) : Blk w' k xs :=
 hk.same (h.block k hk.lt hf h1 h2)
set_option maxHeartbeats 1000000 in
/-- the closure of runImage -/
theorem im1_any (w : World) (B pm : Nat) (bv : Value) (lb ln lc : Nat) (tv : Value) (T : Nat) (s : Cm) (sv : Value) (r : Rs) (b off n cap : Nat) (bm bi : Nat) (hM : MacAt B w pm [bv, .slice (some ⟨lb, 0, none⟩) ln lc, tv] T s sv) (hs : CmOk s) (h1 : 1 ≤ ln) (hln : ln ≤ 1048576)
  (hcl : Calls Tryd.prog 95 #[.pointer (some ⟨pm, 0, none⟩), .int .i64 ((ln - 1 : Nat) : Int), .slice (some ⟨b, off, none⟩) n cap] w.drew (RunPost2 B pm bv (.slice (some ⟨lb, 0, none⟩) ln lc) T sv tv r w.drew))
  (c0 : w.cell? ⟨bm, 0, none⟩ = some (.pointer (some ⟨pm, 0, none⟩))) (c2 : w.cell? ⟨bi, 0, none⟩ = some (.slice (some ⟨b, off, none⟩) n cap)) :
  Calls Tryd.prog 94 #[.pointer (some ⟨bm, 0, none⟩), .pointer (some ⟨bi, 0, none⟩)] w
   (RunPost2 B pm bv (.slice (some ⟨lb, 0, none⟩) ln lc) T sv tv r w) := by
 have m20 := (hM.rest hs.cells).2.1
 have hfl1 : (ln : Int) - 1 = ((ln - 1 : Nat) : Int) := by omega
 rw [← hfl1] at hcl
 have HR := Lib.hid hcl
 have hf1 : (0 : Int) ≤ ln := by omega
 clear hM hs hfl1 hcl
 go_enter Tryd.func94, Tryd.ntmps94
 go_wp2_with (fail)
 go_still_tail 8, (by kernel_rfl)
 change wpList _ _ _ _ _ w.drew
 go_wp2_with (fail)
 go_at_call 95
 refine HR.out.mono ?_
 rintro e w2 ⟨sv', tv', he, hM2, hT2, hF0⟩
 have hF : Fr2 [pm] sv tv w sv' tv' w2 := (Fr2.below (Below.refl _ _).drew).trans hF0
 clear hF0
 cases r with
 |ret v s2 =>
  simp only at he
  subst he
  have HM := Lib.hid hM2; have HT := Lib.hid hT2; have HF := Lib.hid hF
  clear hM2 hT2 hF HR c0 c2 m20
  go_wp2_with (fail)
  go_ret
  exact ⟨sv', tv', rfl, HM.out, HT.out, HF.out⟩
 |stop en s2 =>
  simp only at he
  subst he
  have HM := Lib.hid hM2; have HT := Lib.hid hT2; have HF := Lib.hid hF
  clear hM2 hT2 hF HR c0 c2 m20
  go_wp2_with (fail)
  exact ⟨rfl, sv', tv', rfl, HM.out, HT.out, HF.out⟩
/-- what the closure of outcome leaves: the value lies in the outcome's block -/
def OcPost2 (B pm b5 : Nat) (bv lv : Value) (T : Nat) (sv tv : Value) (r : Rs) (w : World) (e : Ending) (w' : World) : Prop :=
 match r with
 |.ret v s2 => e = .returned (.tuple #[]) ∧ ∃ sv' tv' w2, w' = w2.setCell ⟨b5, 2, none⟩ (.int .i64 (v : Int)) ∧ MacAt B w2 pm [bv, lv, tv'] T s2 sv' ∧ TrAt B w2 pm sv' tv' s2.trace ∧ Fr2 [pm] sv tv w sv' tv' w2
 |.stop en s2 => e = .panicked (endChain en) ∧ ∃ sv' tv', MacAt B w' pm [bv, lv, tv'] T s2 sv' ∧ TrAt B w' pm sv' tv' s2.trace ∧ Fr2 [pm] sv tv w sv' tv' w'
set_option maxHeartbeats 1000000 in
theorem ioc1_any (w : World) (B pm : Nat) (bv lv : Value) (T : Nat) (sv tv : Value) (r : Rs) (bf b5 : Nat) (caps : Array Value) (y : Value)
  (hf : w.cell? ⟨bf, 0, none⟩ = some (.func (.func 94) #[] caps)) (hcl : Calls Tryd.prog 94 caps w (RunPost2 B pm bv lv T sv tv r w))
  (h5 : w.cell? ⟨b5, 2, none⟩ = some y) (hz : w.frozen? ⟨b5, 2, none⟩ = false) (hne : b5 ≠ pm) (hsn : sv.ownBlock ≠ some b5) (htn : tv.ownBlock ≠ some b5) :
  Calls Tryd.prog 103 #[.pointer (some ⟨bf, 0, none⟩), .pointer (some ⟨b5, 0, none⟩)] w (OcPost2 B pm b5 bv lv T sv tv r w) := by
 have HC := Lib.hid hcl
 have hl5 := World.block_lt_of_cell? _ _ h5
 clear hcl
 go_enter Tryd.func103, Tryd.ntmps103
 go_wp2_with (fail)
 go_at_call 94
 refine HC.out.mono ?_
 rintro e w2 ⟨sv', tv', he, hM2, hT2, hF⟩
 unfold OcPost2
 cases r with
 |ret v s2 =>
  simp only at he
  subst he
  have e5 : w2.cell? ⟨b5, 2, none⟩ = some y := by rw [World.cell?_of_block (w := w) (a := ⟨b5, 2, none⟩) (hF.block _ hl5 (by simpa using hne) hsn htn)]; exact h5
  have ez : w2.frozen? ⟨b5, 2, none⟩ = false := by rw [World.frozen?_of_block (w := w) (a := ⟨b5, 2, none⟩) (hF.block _ hl5 (by simpa using hne) hsn htn)]; exact hz
  have HM := Lib.hid hM2; have HT := Lib.hid hT2; have HF := Lib.hid hF
  clear hM2 hT2 hF HC hf h5 hz
  go_wp2_with (fail)
  go_end0
  exact ⟨rfl, sv', tv', w2, rfl, HM.out, HT.out, HF.out⟩
 |stop en s2 =>
  simp only at he
  subst he
  have HM := Lib.hid hM2; have HT := Lib.hid hT2; have HF := Lib.hid hF
  clear hM2 hT2 hF HC
  go_wp2_with (fail)
  exact ⟨rfl, rfl, sv', tv', HM.out, HT.out, HF.out⟩
def OutPost2 (B pm : Nat) (bv lv : Value) (T : Nat) (sv tv : Value) (r : Rs) (w : World) (e : Ending) (w' : World) : Prop :=
 ∃ sv' tv' cv, e = .returned (.agg #[sv', .int .i64 (r.en : Int), .int .i64 (r.val : Int), cv]) ∧ MacAt B w' pm [bv, lv, tv'] T r.cm sv' ∧ w'.ownsRow w.heap.size 3 1 cv 16 (nats r.cm.cells) ∧ Fr2 [pm] sv tv w sv' tv' w' ∧ Apart2 cv sv' ∧ Apart2 cv tv' ∧ TrAt B w' pm sv' tv' r.cm.trace
def MidAt2 (B pm b5 : Nat) (bv lv : Value) (T : Nat) (sv tv : Value) (r : Rs) (w1 : World) (w' : World) : Prop :=
 ∃ sv' tv', MacAt B w' pm [bv, lv, tv'] T r.cm sv' ∧ TrAt B w' pm sv' tv' r.cm.trace ∧ Fr2 ([pm] ++ [b5]) sv tv w1 sv' tv' w' ∧ Blk w' b5 [.slice none 0 0, .int .i64 0, .int .i64 (r.val : Int), .slice none 0 0]
theorem imid_of {B pm b5 : Nat} {bv lv : Value} {T : Nat} {sv tv : Value} {r : Rs} {w1 wa w2 : World} {e : Ending} (hb : Below w1.heap.size w1 wa) (hne : b5 ≠ pm) (hsn : sv.ownBlock ≠ some b5) (htn : tv.ownBlock ≠ some b5) (hpm : pm < w1.heap.size) (hsv : ∀ k, sv.ownBlock = some k → k < w1.heap.size) (htv : ∀ k, tv.ownBlock = some k → k < w1.heap.size)
  (hblk : Blk wa b5 [.slice none 0 0, .int .i64 0, .int .i64 0, .slice none 0 0]) {bc : Nat} (hbc : w1.heap.size ≤ bc) (hbl : bc < wa.heap.size) (hb5 : b5 ≠ bc)
  (h : OcPost2 B pm b5 bv lv T sv tv r wa e w2) : (∀ u, MidAt2 B pm b5 bv lv T sv tv r w1 (w2.setCell ⟨bc, 0, none⟩ u)) ∧ w2.cell? ⟨bc, 0, none⟩ = wa.cell? ⟨bc, 0, none⟩ ∧ w2.frozen? ⟨bc, 0, none⟩ = wa.frozen? ⟨bc, 0, none⟩ := by
 have hnc : bc ≠ pm := by omega
 have hsc : sv.ownBlock ≠ some bc := fun e => by have := hsv _ e; omega
 have htc : tv.ownBlock ≠ some bc := fun e => by have := htv _ e; omega
 have hm : ∀ x ∈ [pm], x ∈ [pm] ++ [b5] := fun x hx => List.mem_append_left _ hx
 cases r with
 |ret v s2 =>
  obtain ⟨_, sv', tv', w3, rfl, hM, hT, hF⟩ := h
  have hb3 : Blk w3 b5 [.slice none 0 0, .int .i64 0, .int .i64 0, .slice none 0 0] := hF.blk hblk (by simpa using hne) hsn htn
  have hs1 : sv'.ownBlock ≠ some b5 := hF.ne1 hblk.lt hsn
  have hs2 : sv'.ownBlock ≠ some bc := hF.ne1 hbl hsc
  have ht1 : tv'.ownBlock ≠ some b5 := hF.ne2 hblk.lt htn
  have ht2 : tv'.ownBlock ≠ some bc := hF.ne2 hbl htc
  have hbk : (w3.setCell ⟨b5, 2, none⟩ (.int .i64 (v : Int))).heap[bc]? = wa.heap[bc]? := by
   rw [Below.heap_setCell _ _ _ _ (fun e => hb5 e.symm)]; exact hF.block _ hbl (by simpa using hnc) hsc htc
  refine ⟨fun u => ⟨sv', tv', (hM.other (a := ⟨b5, 2, none⟩) hne hs1 _).other (a := ⟨bc, 0, none⟩) hnc hs2 u, (hT.set (a := ⟨b5, 2, none⟩) ht1 _).set (a := ⟨bc, 0, none⟩) ht2 u, (((Fr2.below hb : Fr2 ([pm] ++ [b5]) sv tv w1 sv tv wa).trans (hF.mono hm)).setIn (a := ⟨b5, 2, none⟩) (by simp) _).setNew (a := ⟨bc, 0, none⟩) hbc u, (hb3.set 2 (.int .i64 (v : Int))).other (a := ⟨bc, 0, none⟩) hb5 u⟩, World.cell?_of_block (a := ⟨bc, 0, none⟩) hbk, World.frozen?_of_block (a := ⟨bc, 0, none⟩) hbk⟩
 |stop en s2 =>
  obtain ⟨_, sv', tv', hM, hT, hF⟩ := h
  have hb3 : Blk w2 b5 [.slice none 0 0, .int .i64 0, .int .i64 0, .slice none 0 0] := hF.blk hblk (by simpa using hne) hsn htn
  have hs2 : sv'.ownBlock ≠ some bc := hF.ne1 hbl hsc
  have ht2 : tv'.ownBlock ≠ some bc := hF.ne2 hbl htc
  have hbk : w2.heap[bc]? = wa.heap[bc]? := hF.block _ hbl (by simpa using hnc) hsc htc
  exact ⟨fun u => ⟨sv', tv', hM.other (a := ⟨bc, 0, none⟩) hnc hs2 u, hT.set (a := ⟨bc, 0, none⟩) ht2 u, ((Fr2.below hb : Fr2 ([pm] ++ [b5]) sv tv w1 sv tv wa).trans (hF.mono hm)).setNew (a := ⟨bc, 0, none⟩) hbc u, hb3.other (a := ⟨bc, 0, none⟩) hb5 u⟩, World.cell?_of_block (a := ⟨bc, 0, none⟩) hbk, World.frozen?_of_block (a := ⟨bc, 0, none⟩) hbk⟩
/-- the closure's run, caught -/
theorem icaught_any (w1 : World) (B pm bf b5 : Nat) (bv lv : Value) (T : Nat) (sv tv : Value) (r : Rs) (caps : Array Value) (hne : b5 ≠ pm) (hsn : sv.ownBlock ≠ some b5) (htn : tv.ownBlock ≠ some b5) (hpm : pm < w1.heap.size) (hsv : ∀ k, sv.ownBlock = some k → k < w1.heap.size) (htv : ∀ k, tv.ownBlock = some k → k < w1.heap.size)
  (hblk : Blk w1 b5 [.slice none 0 0, .int .i64 0, .int .i64 0, .slice none 0 0]) (hf : w1.cell? ⟨bf, 0, none⟩ = some (.func (.func 94) #[] caps))
  (hcl : ∀ w', Below w1.heap.size w1 w' → Calls Tryd.prog 94 caps w' (RunPost2 B pm bv lv T sv tv r w')) :
  Calls Tryd.prog 102 #[.func (.func 103) #[] #[.pointer (some ⟨bf, 0, none⟩), .pointer (some ⟨b5, 0, none⟩)]] w1 fun e w' => e = .returned (.int .i64 (r.en : Int)) ∧ MidAt2 B pm b5 bv lv T sv tv r w1 w' := by
 have hlt := hblk.lt
 have hA := below1 w1 (.cells #[.int .i64 0] 3)
 have hbA : Blk (w1.alloc (.cells #[.int .i64 0] 3)) b5 [.slice none 0 0, .int .i64 0, .int .i64 0, .slice none 0 0] := hblk.alloc _
 have hOC := ioc1_any (w1.alloc (.cells #[.int .i64 0] 3)) B pm bv lv T sv tv r bf b5 caps (.int .i64 0) (by rw [World.cell?_alloc_past _ _ _ (World.block_lt_of_cell? _ _ hf)]; exact hf) (hcl _ hA) (by rw [hbA.cell]; rfl) (hbA.frozen 2) hne hsn htn
 have hcell : (w1.alloc (.cells #[.int .i64 0] 3)).cell? ⟨w1.heap.size, 0, none⟩ = some (.int .i64 0) := by rw [(Blk.new w1 #[.int .i64 0] 3).cell]; rfl
 have hfz : (w1.alloc (.cells #[.int .i64 0] 3)).frozen? ⟨w1.heap.size, 0, none⟩ = false := (Blk.new w1 #[.int .i64 0] 3).frozen 0
 have hmid : ∀ e w2, OcPost2 B pm b5 bv lv T sv tv r (w1.alloc (.cells #[.int .i64 0] 3)) e w2 → (∀ u, MidAt2 B pm b5 bv lv T sv tv r w1 (w2.setCell ⟨w1.heap.size, 0, none⟩ u)) ∧ w2.cell? ⟨w1.heap.size, 0, none⟩ = some (.int .i64 0) ∧ w2.frozen? ⟨w1.heap.size, 0, none⟩ = false := fun e w2 h => by
  obtain ⟨h1, h2, h3⟩ := imid_of (bc := w1.heap.size) hA hne hsn htn hpm hsv htv hbA (Nat.le_refl _) (by simp) (by omega) h
  exact ⟨h1, h2.trans hcell, h3.trans hfz⟩
 cases r with
 |ret v s2 =>
  refine (caught_ret w1 _ (fun w2 => OcPost2 B pm b5 bv lv T sv tv (.ret v s2) (w1.alloc (.cells #[.int .i64 0] 3)) (.returned (.tuple #[])) w2) (hOC.mono fun e w2 h => ⟨h.1, by have h1 := h.1; rw [h1] at h; exact h⟩) (fun w2 h => (hmid _ w2 h).2)).mono ?_
  rintro e w' ⟨rfl, w2, h, rfl⟩
  exact ⟨rfl, (hmid _ w2 h).1 _⟩
 |stop en s2 =>
  refine (caught_stop w1 en _ (fun w2 => OcPost2 B pm b5 bv lv T sv tv (.stop en s2) (w1.alloc (.cells #[.int .i64 0] 3)) (.panicked (endChain en)) w2) (hOC.mono fun e w2 h => ⟨h.1, by have h1 := h.1; rw [h1] at h; exact h⟩) (fun w2 h => (hmid _ w2 h).2)).mono ?_
  rintro e w' ⟨rfl, w2, h, rfl⟩
  exact ⟨rfl, (hmid _ w2 h).1 _⟩
set_option maxHeartbeats 2000000 in
theorem ioutcome_any (w : World) (B pm : Nat) (bv lv : Value) (T : Nat) (sv tv : Value) (r : Rs) (caps : Array Value) (hpm : pm < w.heap.size) (hsv : ∀ k, sv.ownBlock = some k → k < w.heap.size) (htv : ∀ k, tv.ownBlock = some k → k < w.heap.size) (hr : CmOk r.cm)
  (hcl : ∀ w', Below w.heap.size w w' → Calls Tryd.prog 94 caps w' (RunPost2 B pm bv lv T sv tv r w')) :
  Calls Tryd.prog 76 #[.pointer (some ⟨pm, 0, none⟩), .func (.func 94) #[] caps] w (OutPost2 B pm bv lv T sv tv r w) := by
 have HC := Lib.hid hcl
 have HSV := Lib.hid hsv
 have HTV := Lib.hid htv
 have HR := Lib.hid hr
 have hmf : ∀ (fn : Fn) (first cap : Array Value) (w : World), (Instr.makeFunc fn first cap).run Tryd.prog w = .ok (.func fn first cap) w := fun _ _ _ _ => rfl
 clear hcl hsv hr htv
 go_enter Tryd.func76, Tryd.ntmps76
 go_wp2_with (fail)
 go_at_call 102
 have hsz := HSV.out
 have htz := HTV.out
 refine (icaught_any _ B pm w.heap.size (w.heap.size + 1 + 1) bv lv T sv tv r caps (by omega) (fun e => by have := hsz _ e; omega) (fun e => by have := htz _ e; omega) (by simp; omega) (fun k hk => by have := hsz _ hk; simp; omega) (fun k hk => by have := htz _ hk; simp; omega) ?_ (by simp [go_sem]) (fun w' hb => HC.out w' ((below3 w _ _ _).trans (hb.mono (by simp; omega))))).mono ?_
 ·have h := Blk.new ((w.alloc (.cells #[.func (.func 94) #[] caps] 109)).alloc (.cells #[.slice none 0 0, .int .i64 0, .int .i64 0, .slice none 0 0] 31)) #[.slice none 0 0, .int .i64 0, .int .i64 0, .slice none 0 0] 31
  rw [show ((w.alloc (.cells #[.func (.func 94) #[] caps] 109)).alloc (.cells #[.slice none 0 0, .int .i64 0, .int .i64 0, .slice none 0 0] 31)).heap.size = w.heap.size + 1 + 1 by simp] at h
  exact h
 rintro e w4 ⟨rfl, sv', tv', hM, hT, hF, hB5⟩
 obtain ⟨rest, hrest⟩ : ∃ rest, rest = [bv, lv, tv'] := ⟨_, rfl⟩
 rw [← hrest] at hM
 have HREST := Lib.hid hrest
 clear hrest
 obtain ⟨sa, sc, hform⟩ := saidForm hM.said
 obtain ⟨sn, hsn⟩ : ∃ sn, sn = r.cm.said.length := ⟨_, rfl⟩
 rw [← hsn] at hform
 subst hform
 clear hsn
 have hB4 : Blk w4 (w.heap.size + 1) [.slice none 0 0, .int .i64 0, .int .i64 0, .slice none 0 0] := by
  have h := (Blk.new (w.alloc (.cells #[.func (.func 94) #[] caps] 109)) #[.slice none 0 0, .int .i64 0, .int .i64 0, .slice none 0 0] 31).alloc (.cells #[.slice none 0 0, .int .i64 0, .int .i64 0, .slice none 0 0] 31)
  rw [show (w.alloc (.cells #[.func (.func 94) #[] caps] 109)).heap.size = w.heap.size + 1 by simp] at h
  exact hF.blk h (by simp; omega) (fun e => by have := hsz _ e; omega) (fun e => by have := htz _ e; omega)
 have hFr : Fr2 [pm] sv tv w (.slice sa sn sc) tv' w4 := (Fr2.below (below3 w _ _ _) : Fr2 [pm] sv tv w sv tv _).transNew hF (fun x hx => by have := List.mem_singleton.1 hx; omega)
 have hszw : w.heap.size + 3 ≤ w4.heap.size := by have := hF.size; simp at this; omega
 have hsn4 : Value.ownBlock (.slice sa sn sc) ≠ some (w.heap.size + 1) := hF.ne1 (by simp) (fun e => by have := hsz _ e; omega)
 have hsn5 : Value.ownBlock (.slice sa sn sc) ≠ some (w.heap.size + 1 + 1) := hF.ne1 (by simp) (fun e => by have := hsz _ e; omega)
 have htn4 : tv'.ownBlock ≠ some (w.heap.size + 1) := hF.ne2 (by simp) (fun e => by have := htz _ e; omega)
 have htn5 : tv'.ownBlock ≠ some (w.heap.size + 1 + 1) := hF.ne2 (by simp) (fun e => by have := htz _ e; omega)
 have HT := Lib.hid hT
 have y1 : w4.cell? ⟨w.heap.size + 1 + 1, 1, none⟩ = some (.int .i64 0) := by rw [hB5.cell]; rfl
 have z1 := hB5.frozen 1
 have HM := Lib.hid hM; have HF := Lib.hid hFr; have HB5 := Lib.hid hB5; have HB4 := Lib.hid hB4
 clear hM hF hFr hB5 hB4 HC hT
 go_wp2_with (fail)
 generalize hw5 : w4.setCell _ _ = w5
 have hM5 : MacAt B w5 pm rest T r.cm (.slice sa sn sc) := by rw [← hw5]; exact HM.out.other (a := ⟨w.heap.size + 1 + 1, 1, none⟩) (by simp only []; omega) hsn5 _
 have hF5 : Fr2 [pm] sv tv w (.slice sa sn sc) tv' w5 := by rw [← hw5]; exact HF.out.setNew (a := ⟨w.heap.size + 1 + 1, 1, none⟩) (by simp only []; omega) _
 have hT5 : TrAt B w5 pm (.slice sa sn sc) tv' r.cm.trace := by rw [← hw5]; exact HT.out.set (a := ⟨w.heap.size + 1 + 1, 1, none⟩) htn5 _
 have hB5 : Blk w5 (w.heap.size + 1 + 1) [.slice none 0 0, .int .i64 (r.en : Int), .int .i64 (r.val : Int), .slice none 0 0] := by rw [← hw5]; exact HB5.out.set 1 _
 have hB4 : Blk w5 (w.heap.size + 1) [.slice none 0 0, .int .i64 0, .int .i64 0, .slice none 0 0] := by rw [← hw5]; exact HB4.out.other (by simp only []; omega) _
 have hsz5 : w.heap.size + 3 ≤ w5.heap.size := by rw [← hw5]; simpa using hszw
 have hsd : w5.cell? ⟨pm, 2, none⟩ = some (.slice sa sn sc) := (macCells hM5 HR.out.cells).2.2.2.1
 have HCL : Hid (∀ w', Below w5.heap.size w5 w' → Calls Tryd.prog 104 #[.slice (some ⟨pm, 3, none⟩) 16 16] w' (fun e w2 => ∃ a c, e = .returned (.slice a 16 c) ∧ w2.ownsRow w'.heap.size 3 1 (.slice a 16 c) 16 (nats r.cm.cells) ∧ Below w'.heap.size w' w2)) :=
  Lib.hid fun w' hb => clone_full HR.out.cells (by decide) (fun i hi => (macCells (hM5.below hb) HR.out.cells).1 i hi)
 have HT5 := Lib.hid hT5; have HM5 := Lib.hid hM5; have HF5 := Lib.hid hF5; have HB5' := Lib.hid hB5; have HB4' := Lib.hid hB4
 clear hM5 hT5 HT hF5 hB5 hB4 hw5 y1 z1 HM HF HB5 HB4 hszw
 refine wp_region_held (fun W => W.cell? ⟨pm, 2, none⟩ = some (.slice sa sn sc)) [(0, false), (1, false), (2, false), (3, true), (4, false), (5, false), (6, false), (7, false), (9, false)] [8, 10, 11, 12] 12 (by kernel_rfl) (by kernel_rfl) (fun d v c a w h => by cases d <;> exact h) hsd ?_
 simp only [pickO, List.map_cons, List.map_nil, List.getD_cons_zero, List.getD_cons_succ]
 refine heldO_stepY (v := ?_) rfl ?_ ?_
 rotate_left
 ·intro W
  go_simp
  try rfl
 simp only [Act.put, List.setIfInBounds_toArray, List.set_cons_zero, List.set_cons_succ]
 refine heldO_stepY (v := ?_) rfl ?_ ?_
 rotate_left
 ·intro W
  go_simp
  try rfl
 simp only [Act.put, List.setIfInBounds_toArray, List.set_cons_zero, List.set_cons_succ]
 refine heldO_stepY (v := ?_) rfl ?_ ?_
 rotate_left
 ·intro W
  go_simp
  try rfl
 simp only [Act.put, List.setIfInBounds_toArray, List.set_cons_zero, List.set_cons_succ]
 refine heldO_step (v := ?_) rfl ?_ ?_
 rotate_left
 ·intro W hS
  go_simp
  try rfl
 simp only [Act.put, List.setIfInBounds_toArray, List.set_cons_zero, List.set_cons_succ]
 refine heldO_stepY (v := ?_) rfl ?_ ?_
 rotate_left
 ·intro W
  go_simp
  try rfl
 simp only [Act.put, List.setIfInBounds_toArray, List.set_cons_zero, List.set_cons_succ]
 refine heldO_stepY (v := ?_) rfl ?_ ?_
 rotate_left
 ·intro W
  go_simp
  try rfl
 simp only [Act.put, List.setIfInBounds_toArray, List.set_cons_zero, List.set_cons_succ]
 refine heldO_stepY (v := ?_) rfl ?_ ?_
 rotate_left
 ·intro W
  go_simp
  try rfl
 simp only [Act.put, List.setIfInBounds_toArray, List.set_cons_zero, List.set_cons_succ]
 refine heldO_stepY (v := ?_) rfl ?_ ?_
 rotate_left
 ·intro W
  go_simp
  try rfl
 simp only [Act.put, List.setIfInBounds_toArray, List.set_cons_zero, List.set_cons_succ]
 refine heldO_stepY (v := ?_) rfl ?_ ?_
 rotate_left
 ·intro W
  go_simp
  try rfl
 simp only [Act.put, List.setIfInBounds_toArray, List.set_cons_zero, List.set_cons_succ]
 refine heldO_nil ?_
 refine tailO_step rfl (fun K hK => ?_)
 go_simp
 refine (HCL.out _ (Below.refl _ _).drew).mono ?_
 rintro e w6 ⟨va, vc, rfl, hown, hb⟩
 have hb6 : Below w5.heap.size w5 w6 := (Below.refl w5.heap.size w5).drew.trans hb
 have hM6 := HM5.out.below hb6
 have hF6 : Fr2 [pm] sv tv w (.slice sa sn sc) tv' w6 := HF5.out.trans (Fr2.below hb6)
 have hT6 := HT5.out.below hb6
 have hB5 := HB5'.out.below hb6
 have hB4 := HB4'.out.below hb6
 have s6 : w6.cell? ⟨pm, 2, none⟩ = some (.slice sa sn sc) := (macCells hM6 HR.out.cells).2.2.2.1
 have u0 : w6.cell? ⟨w.heap.size + 1 + 1, 0, none⟩ = some (.slice none 0 0) := by rw [hB5.cell]; rfl
 have u3 : w6.cell? ⟨w.heap.size + 1 + 1, 3, none⟩ = some (.slice none 0 0) := by rw [hB5.cell]; rfl
 have u1 : w6.cell? ⟨w.heap.size + 1 + 1, 1, none⟩ = some (.int .i64 (r.en : Int)) := by rw [hB5.cell]; rfl
 have u2 : w6.cell? ⟨w.heap.size + 1 + 1, 2, none⟩ = some (.int .i64 (r.val : Int)) := by rw [hB5.cell]; rfl
 have g0 := hB5.frozen 0
 have g3 := hB5.frozen 3
 have t0 : w6.cell? ⟨w.heap.size + 1, 0, none⟩ = some (.slice none 0 0) := by rw [hB4.cell]; rfl
 have t1 : w6.cell? ⟨w.heap.size + 1, 1, none⟩ = some (.int .i64 0) := by rw [hB4.cell]; rfl
 have t2 : w6.cell? ⟨w.heap.size + 1, 2, none⟩ = some (.int .i64 0) := by rw [hB4.cell]; rfl
 have t3 : w6.cell? ⟨w.heap.size + 1, 3, none⟩ = some (.slice none 0 0) := by rw [hB4.cell]; rfl
 have f0 := hB4.frozen 0
 have f1 := hB4.frozen 1
 have f2 := hB4.frozen 2
 have f3 := hB4.frozen 3
 have hl45 : w.heap.size + 1 + 1 < w6.heap.size := hB5.lt
 have hown5 : ∀ k, Value.ownBlock (.slice va 16 vc) = some k → w5.heap.size ≤ k := fun k hk => (World.ownsRow.lt hown k hk).1
 have HO5 := Lib.hid hown5
 have hap : Apart2 (.slice va 16 vc) (.slice sa sn sc) := fun k hk e => by have h1 := hown5 k hk; have h2 := (HM5.out.said.lt e).2; omega
 have HAP := Lib.hid hap
 have HAP2 : Hid (Apart2 (.slice va 16 vc) tv') := Lib.hid (fun k hk e => by have h1 := hown5 k hk; have h2 := (HT5.out.row.lt e).2; omega)
 have HT6 := Lib.hid hT6
 clear hap
 have HOW := Lib.hid hown; have HM6 := Lib.hid hM6; have HF6 := Lib.hid hF6
 refine hK _ _ (.inr s6) ?_
 clear hK K hown hb hb6 hM6 hT6 hF6 hB5 hB4 HM5 HF5 HB5' HB4' HCL hsd hown5 HT5
 refine tailO_step rfl (fun K hK => ?_)
 go_simp
 refine hK _ _ (.inr (by simp [go_sem, s6])) ?_
 clear hK K
 refine tailO_step rfl (fun K hK => ?_)
 go_simp
 refine hK _ _ (.inr (by simp [go_sem, s6])) ?_
 clear hK K
 refine tailO_step rfl (fun K hK => ?_)
 go_simp
 refine hK _ _ (.inl rfl) (tailO_nil ?_)
 clear hK K
 go_wp2_with (fail)
 refine bodyPost_ret (v := .agg #[.slice sa sn sc, .int .i64 (r.en : Int), .int .i64 (r.val : Int), .slice va 16 vc]) (by simp [results, Tryd.results76, go_sem, t0, t1, t2, t3]) rfl ?_
 have p5 : w.heap.size + 1 + 1 ≠ pm := by omega
 have p4 : w.heap.size + 1 ≠ pm := by omega
 refine ⟨_, tv', _, rfl, ?_, ?_, ?_, HAP.out, HAP2.out, ?_⟩
 ·rw [← HREST.out]
  exact (((((HM6.out.other (a := ⟨w.heap.size + 1 + 1, 0, none⟩) p5 hsn5 _).other (a := ⟨w.heap.size + 1 + 1, 3, none⟩) p5 hsn5 _).other (a := ⟨w.heap.size + 1, 0, none⟩) p4 hsn4 _).other (a := ⟨w.heap.size + 1, 1, none⟩) p4 hsn4 _).other (a := ⟨w.heap.size + 1, 2, none⟩) p4 hsn4 _).other (a := ⟨w.heap.size + 1, 3, none⟩) p4 hsn4 _
 ·refine ownsRow_mono (ownsRow_same HOW.out fun k hk => ?_) (by show w.heap.size ≤ w5.heap.size; omega)
  have := HO5.out k hk
  repeat rw [Below.heap_setCell _ _ _ _ (by simp only []; omega)]
 ·exact (((((HF6.out.setNew (a := ⟨w.heap.size + 1 + 1, 0, none⟩) (by simp only []; omega) _).setNew (a := ⟨w.heap.size + 1 + 1, 3, none⟩) (by simp only []; omega) _).setNew (a := ⟨w.heap.size + 1, 0, none⟩) (by simp only []; omega) _).setNew (a := ⟨w.heap.size + 1, 1, none⟩) (by simp only []; omega) _).setNew (a := ⟨w.heap.size + 1, 2, none⟩) (by simp only []; omega) _).setNew (a := ⟨w.heap.size + 1, 3, none⟩) (by simp only []; omega) _
 ·exact (((((HT6.out.set (a := ⟨w.heap.size + 1 + 1, 0, none⟩) htn5 _).set (a := ⟨w.heap.size + 1 + 1, 3, none⟩) htn5 _).set (a := ⟨w.heap.size + 1, 0, none⟩) htn4 _).set (a := ⟨w.heap.size + 1, 1, none⟩) htn4 _).set (a := ⟨w.heap.size + 1, 2, none⟩) htn4 _).set (a := ⟨w.heap.size + 1, 3, none⟩) htn4 _
end Go.Proofs.YtbdbmmdnidonjaaDoor
