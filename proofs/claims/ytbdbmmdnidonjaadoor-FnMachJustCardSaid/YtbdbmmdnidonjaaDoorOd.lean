/- The outcome of a run of the machine: impl's outcome. -/
import Derived.Test.YtbdbmmdnidonjaaDoorOc
set_option maxRecDepth 100000
namespace Go.Proofs.YtbdbmmdnidonjaaDoor
open Go.RowKit

def Rs.en : Rs → Nat
  | .ret _ _ => 0
  | .stop e _ => e
def Rs.val : Rs → Nat
  | .ret v _ => v
  | .stop _ _ => 0

/-- two rows lie apart -/
def Apart2 (a b : Value) : Prop := ∀ k, a.ownBlock = some k → b.ownBlock ≠ some k

def OutPost (B pm : Nat) (rest : List Value) (T : Nat) (sv : Value) (r : Rs) (w : World) (e : Ending) (w' : World) : Prop :=
  ∃ sv' cv, e = .returned (.agg #[sv', .int .i64 (r.en : Int), .int .i64 (r.val : Int), cv]) ∧ MacAt B w' pm rest T r.cm sv' ∧ w'.ownsRow w.heap.size 3 1 cv 16 (nats r.cm.cells) ∧ Fr [pm] sv w sv' w' ∧ Apart2 cv sv'

theorem clone_full {w : World} {b off n cap : Nat} {xs : List Nat} (hn : xs.length = n) (hm : n ≤ 1048576) (hc : ∀ i, i < n → w.cell? ⟨b, off + i, none⟩ = some (.int .i64 ((xs.getD i 0 : Nat) : Int))) :
    Calls Tryd.prog 104 #[.slice (some ⟨b, off, none⟩) n cap] w (fun e w2 => ∃ a c, e = .returned (.slice a n c) ∧ w2.ownsRow w.heap.size 3 1 (.slice a n c) n (nats xs) ∧ Below w.heap.size w w2) :=
  (clone_some w b off n cap xs hn hm hc).mono fun e w2 ⟨v, he, hown, hb⟩ => by
    obtain ⟨a, c, rfl⟩ : ∃ a c, v = .slice a n c := by
      rcases hown.2 with ⟨h1, h2⟩ | ⟨g, cp, cur, h1, _⟩
      · exact ⟨none, 0, by rw [h1, ← h2, hn]⟩
      · exact ⟨_, cp, by rw [h1, hn]⟩
    exact ⟨a, c, he, by rw [hn] at hown; exact hown, hb⟩

theorem saidForm {w : World} {B : Nat} {sv : Value} {xs : List Nat} (h : Said w B sv xs) : ∃ a c, sv = .slice a xs.length c := by
  rcases h.2 with ⟨h1, h2⟩ | ⟨g, cp, cur, h1, _⟩
  · exact ⟨none, 0, by rw [h1, ← h2]⟩
  · exact ⟨_, cp, h1⟩

/-- what is known behind the caught call: the machine's end, the outcome's block -/
def MidAt (B pm b5 : Nat) (rest : List Value) (T : Nat) (sv : Value) (r : Rs) (w1 : World) (w' : World) : Prop :=
  ∃ sv', MacAt B w' pm rest T r.cm sv' ∧ Fr ([pm] ++ [b5]) sv w1 sv' w' ∧ Blk w' b5 [.slice none 0 0, .int .i64 0, .int .i64 (r.val : Int), .slice none 0 0]

theorem mid_of {B pm b5 : Nat} {rest : List Value} {T : Nat} {sv : Value} {r : Rs} {w1 wa w2 : World} {e : Ending} (hb : Below w1.heap.size w1 wa) (hne : b5 ≠ pm) (hsn : sv.ownBlock ≠ some b5) (hpm : pm < w1.heap.size) (hsv : ∀ k, sv.ownBlock = some k → k < w1.heap.size)
    (hblk : Blk wa b5 [.slice none 0 0, .int .i64 0, .int .i64 0, .slice none 0 0]) {bc : Nat} (hbc : w1.heap.size ≤ bc) (hbl : bc < wa.heap.size) (hb5 : b5 ≠ bc)
    (h : OcPost B pm b5 rest T sv r wa e w2) : (∀ u, MidAt B pm b5 rest T sv r w1 (w2.setCell ⟨bc, 0, none⟩ u)) ∧ w2.cell? ⟨bc, 0, none⟩ = wa.cell? ⟨bc, 0, none⟩ ∧ w2.frozen? ⟨bc, 0, none⟩ = wa.frozen? ⟨bc, 0, none⟩ := by
  have hnc : bc ≠ pm := by omega
  have hsc : sv.ownBlock ≠ some bc := fun e => by have := hsv _ e; omega
  have hm : ∀ x ∈ [pm], x ∈ [pm] ++ [b5] := fun x hx => List.mem_append_left _ hx
  cases r with
  | ret v s2 =>
    obtain ⟨_, sv', w3, rfl, hM, hF⟩ := h
    have hb3 : Blk w3 b5 [.slice none 0 0, .int .i64 0, .int .i64 0, .slice none 0 0] := hF.blk hblk (by simpa using hne) hsn
    have hs1 : sv'.ownBlock ≠ some b5 := hF.ne hblk.lt hsn
    have hs2 : sv'.ownBlock ≠ some bc := hF.ne hbl hsc
    have hbk : (w3.setCell ⟨b5, 2, none⟩ (.int .i64 (v : Int))).heap[bc]? = wa.heap[bc]? := by
      rw [Below.heap_setCell _ _ _ _ (fun e => hb5 e.symm)]; exact hF.block hbl (by simpa using hnc) hsc
    refine ⟨fun u => ⟨sv', (hM.other (a := ⟨b5, 2, none⟩) hne hs1 _).other (a := ⟨bc, 0, none⟩) hnc hs2 u, (((Fr.below hb : Fr ([pm] ++ [b5]) sv w1 sv wa).trans (hF.mono hm)).setIn (a := ⟨b5, 2, none⟩) (by simp) _).setNew (a := ⟨bc, 0, none⟩) hbc u, (hb3.set 2 (.int .i64 (v : Int))).other (a := ⟨bc, 0, none⟩) hb5 u⟩, World.cell?_of_block (a := ⟨bc, 0, none⟩) hbk, World.frozen?_of_block (a := ⟨bc, 0, none⟩) hbk⟩
  | stop en s2 =>
    obtain ⟨_, sv', hM, hF⟩ := h
    have hb3 : Blk w2 b5 [.slice none 0 0, .int .i64 0, .int .i64 0, .slice none 0 0] := hF.blk hblk (by simpa using hne) hsn
    have hs2 : sv'.ownBlock ≠ some bc := hF.ne hbl hsc
    have hbk : w2.heap[bc]? = wa.heap[bc]? := hF.block hbl (by simpa using hnc) hsc
    exact ⟨fun u => ⟨sv', hM.other (a := ⟨bc, 0, none⟩) hnc hs2 u, ((Fr.below hb : Fr ([pm] ++ [b5]) sv w1 sv wa).trans (hF.mono hm)).setNew (a := ⟨bc, 0, none⟩) hbc u, hb3.other (a := ⟨bc, 0, none⟩) hb5 u⟩, World.cell?_of_block (a := ⟨bc, 0, none⟩) hbk, World.frozen?_of_block (a := ⟨bc, 0, none⟩) hbk⟩

/-- the closure's run, caught -/
theorem caught_any (w1 : World) (B pm bf b5 : Nat) (rest : List Value) (T : Nat) (sv : Value) (r : Rs) (caps : Array Value) (hne : b5 ≠ pm) (hsn : sv.ownBlock ≠ some b5) (hpm : pm < w1.heap.size) (hsv : ∀ k, sv.ownBlock = some k → k < w1.heap.size)
    (hblk : Blk w1 b5 [.slice none 0 0, .int .i64 0, .int .i64 0, .slice none 0 0]) (hf : w1.cell? ⟨bf, 0, none⟩ = some (.func (.func 77) #[] caps))
    (hcl : ∀ w', Below w1.heap.size w1 w' → Calls Tryd.prog 77 caps w' (RunPost B pm rest T sv r w')) :
    Calls Tryd.prog 102 #[.func (.func 103) #[] #[.pointer (some ⟨bf, 0, none⟩), .pointer (some ⟨b5, 0, none⟩)]] w1 fun e w' => e = .returned (.int .i64 (r.en : Int)) ∧ MidAt B pm b5 rest T sv r w1 w' := by
  have hlt := hblk.lt
  have hA := below1 w1 (.cells #[.int .i64 0] 3)
  have hbA : Blk (w1.alloc (.cells #[.int .i64 0] 3)) b5 [.slice none 0 0, .int .i64 0, .int .i64 0, .slice none 0 0] := hblk.alloc _
  have hOC := oc1_any (w1.alloc (.cells #[.int .i64 0] 3)) B pm rest T sv r bf b5 caps (.int .i64 0) (by rw [World.cell?_alloc_past _ _ _ (World.block_lt_of_cell? _ _ hf)]; exact hf) (hcl _ hA) (by rw [hbA.cell]; rfl) (hbA.frozen 2) hne hsn
  have hcell : (w1.alloc (.cells #[.int .i64 0] 3)).cell? ⟨w1.heap.size, 0, none⟩ = some (.int .i64 0) := by rw [(Blk.new w1 #[.int .i64 0] 3).cell]; rfl
  have hfz : (w1.alloc (.cells #[.int .i64 0] 3)).frozen? ⟨w1.heap.size, 0, none⟩ = false := (Blk.new w1 #[.int .i64 0] 3).frozen 0
  have hmid : ∀ e w2, OcPost B pm b5 rest T sv r (w1.alloc (.cells #[.int .i64 0] 3)) e w2 → (∀ u, MidAt B pm b5 rest T sv r w1 (w2.setCell ⟨w1.heap.size, 0, none⟩ u)) ∧ w2.cell? ⟨w1.heap.size, 0, none⟩ = some (.int .i64 0) ∧ w2.frozen? ⟨w1.heap.size, 0, none⟩ = false := fun e w2 h => by
    obtain ⟨h1, h2, h3⟩ := mid_of (bc := w1.heap.size) hA hne hsn hpm hsv hbA (Nat.le_refl _) (by simp) (by omega) h
    exact ⟨h1, h2.trans hcell, h3.trans hfz⟩
  cases r with
  | ret v s2 =>
    refine (caught_ret w1 _ (fun w2 => OcPost B pm b5 rest T sv (.ret v s2) (w1.alloc (.cells #[.int .i64 0] 3)) (.returned (.tuple #[])) w2) (hOC.mono fun e w2 h => ⟨h.1, by have h1 := h.1; rw [h1] at h; exact h⟩) (fun w2 h => (hmid _ w2 h).2)).mono ?_
    rintro e w' ⟨rfl, w2, h, rfl⟩
    exact ⟨rfl, (hmid _ w2 h).1 _⟩
  | stop en s2 =>
    refine (caught_stop w1 en _ (fun w2 => OcPost B pm b5 rest T sv (.stop en s2) (w1.alloc (.cells #[.int .i64 0] 3)) (.panicked (endChain en)) w2) (hOC.mono fun e w2 h => ⟨h.1, by have h1 := h.1; rw [h1] at h; exact h⟩) (fun w2 h => (hmid _ w2 h).2)).mono ?_
    rintro e w' ⟨rfl, w2, h, rfl⟩
    exact ⟨rfl, (hmid _ w2 h).1 _⟩

set_option maxHeartbeats 2000000 in
theorem outcome_any (w : World) (B pm : Nat) (rest : List Value) (T : Nat) (sv : Value) (r : Rs) (caps : Array Value) (hpm : pm < w.heap.size) (hsv : ∀ k, sv.ownBlock = some k → k < w.heap.size) (hr : CmOk r.cm)
    (hcl : ∀ w', Below w.heap.size w w' → Calls Tryd.prog 77 caps w' (RunPost B pm rest T sv r w')) :
    Calls Tryd.prog 76 #[.pointer (some ⟨pm, 0, none⟩), .func (.func 77) #[] caps] w (OutPost B pm rest T sv r w) := by
  have HC := Lib.hid hcl
  have HSV := Lib.hid hsv
  have HR := Lib.hid hr
  have hmf : ∀ (fn : Fn) (first cap : Array Value) (w : World), (Instr.makeFunc fn first cap).run Tryd.prog w = .ok (.func fn first cap) w := fun _ _ _ _ => rfl
  clear hcl hsv hr
  go_enter Tryd.func76, Tryd.ntmps76
  go_wp2_with (fail)
  go_at_call 102
  have hsz := HSV.out
  refine (caught_any _ B pm w.heap.size (w.heap.size + 1 + 1) rest T sv r caps (by omega) (fun e => by have := hsz _ e; omega) (by simp; omega) (fun k hk => by have := hsz _ hk; simp; omega) ?_ (by simp [go_sem]) (fun w' hb => HC.out w' ((below3 w _ _ _).trans (hb.mono (by simp; omega))))).mono ?_
  · have h := Blk.new ((w.alloc (.cells #[.func (.func 77) #[] caps] 109)).alloc (.cells #[.slice none 0 0, .int .i64 0, .int .i64 0, .slice none 0 0] 31)) #[.slice none 0 0, .int .i64 0, .int .i64 0, .slice none 0 0] 31
    rw [show ((w.alloc (.cells #[.func (.func 77) #[] caps] 109)).alloc (.cells #[.slice none 0 0, .int .i64 0, .int .i64 0, .slice none 0 0] 31)).heap.size = w.heap.size + 1 + 1 by simp] at h
    exact h
  rintro e w4 ⟨rfl, sv', hM, hF, hB5⟩
  obtain ⟨sa, sc, hform⟩ := saidForm hM.said
  obtain ⟨sn, hsn⟩ : ∃ sn, sn = r.cm.said.length := ⟨_, rfl⟩
  rw [← hsn] at hform
  subst hform
  clear hsn
  have hB4 : Blk w4 (w.heap.size + 1) [.slice none 0 0, .int .i64 0, .int .i64 0, .slice none 0 0] := by
    have h := (Blk.new (w.alloc (.cells #[.func (.func 77) #[] caps] 109)) #[.slice none 0 0, .int .i64 0, .int .i64 0, .slice none 0 0] 31).alloc (.cells #[.slice none 0 0, .int .i64 0, .int .i64 0, .slice none 0 0] 31)
    rw [show (w.alloc (.cells #[.func (.func 77) #[] caps] 109)).heap.size = w.heap.size + 1 by simp] at h
    exact hF.blk h (by simp; omega) (fun e => by have := hsz _ e; omega)
  have hFr : Fr [pm] sv w (.slice sa sn sc) w4 := (Fr.below (below3 w _ _ _) : Fr [pm] sv w sv _).transNew hF (fun x hx => by have := List.mem_singleton.1 hx; omega)
  have hszw : w.heap.size + 3 ≤ w4.heap.size := by have := hF.size; simp at this; omega
  have hsn4 : Value.ownBlock (.slice sa sn sc) ≠ some (w.heap.size + 1) := hF.ne (by simp) (fun e => by have := hsz _ e; omega)
  have hsn5 : Value.ownBlock (.slice sa sn sc) ≠ some (w.heap.size + 1 + 1) := hF.ne (by simp) (fun e => by have := hsz _ e; omega)
  have y1 : w4.cell? ⟨w.heap.size + 1 + 1, 1, none⟩ = some (.int .i64 0) := by rw [hB5.cell]; rfl
  have z1 := hB5.frozen 1
  have HM := Lib.hid hM; have HF := Lib.hid hFr; have HB5 := Lib.hid hB5; have HB4 := Lib.hid hB4
  clear hM hF hFr hB5 hB4 HC
  go_wp2_with (fail)
  generalize hw5 : w4.setCell _ _ = w5
  have hM5 : MacAt B w5 pm rest T r.cm (.slice sa sn sc) := by rw [← hw5]; exact HM.out.other (a := ⟨w.heap.size + 1 + 1, 1, none⟩) (by simp only []; omega) hsn5 _
  have hF5 : Fr [pm] sv w (.slice sa sn sc) w5 := by rw [← hw5]; exact HF.out.setNew (a := ⟨w.heap.size + 1 + 1, 1, none⟩) (by simp only []; omega) _
  have hB5 : Blk w5 (w.heap.size + 1 + 1) [.slice none 0 0, .int .i64 (r.en : Int), .int .i64 (r.val : Int), .slice none 0 0] := by rw [← hw5]; exact HB5.out.set 1 _
  have hB4 : Blk w5 (w.heap.size + 1) [.slice none 0 0, .int .i64 0, .int .i64 0, .slice none 0 0] := by rw [← hw5]; exact HB4.out.other (by simp only []; omega) _
  have hsz5 : w.heap.size + 3 ≤ w5.heap.size := by rw [← hw5]; simpa using hszw
  have hsd : w5.cell? ⟨pm, 2, none⟩ = some (.slice sa sn sc) := (macCells hM5 HR.out.cells).2.2.2.1
  have HCL : Hid (∀ w', Below w5.heap.size w5 w' → Calls Tryd.prog 104 #[.slice (some ⟨pm, 3, none⟩) 16 16] w' (fun e w2 => ∃ a c, e = .returned (.slice a 16 c) ∧ w2.ownsRow w'.heap.size 3 1 (.slice a 16 c) 16 (nats r.cm.cells) ∧ Below w'.heap.size w' w2)) :=
    Lib.hid fun w' hb => clone_full HR.out.cells (by decide) (fun i hi => (macCells (hM5.below hb) HR.out.cells).1 i hi)
  have HM5 := Lib.hid hM5; have HF5 := Lib.hid hF5; have HB5' := Lib.hid hB5; have HB4' := Lib.hid hB4
  clear hM5 hF5 hB5 hB4 hw5 y1 z1 HM HF HB5 HB4 hszw
  refine wp_region_held (fun W => W.cell? ⟨pm, 2, none⟩ = some (.slice sa sn sc)) [(0, false), (1, false), (2, false), (3, true), (4, false), (5, false), (6, false), (7, false), (9, false)] [8, 10, 11, 12] 12 (by kernel_rfl) (by kernel_rfl) (fun d v c a w h => by cases d <;> exact h) hsd ?_
  simp only [pickO, List.map_cons, List.map_nil, List.getD_cons_zero, List.getD_cons_succ]
  refine heldO_stepY (v := ?_) rfl ?_ ?_
  rotate_left
  · intro W
    go_simp
    try rfl
  simp only [Act.put, List.setIfInBounds_toArray, List.set_cons_zero, List.set_cons_succ]
  refine heldO_stepY (v := ?_) rfl ?_ ?_
  rotate_left
  · intro W
    go_simp
    try rfl
  simp only [Act.put, List.setIfInBounds_toArray, List.set_cons_zero, List.set_cons_succ]
  refine heldO_stepY (v := ?_) rfl ?_ ?_
  rotate_left
  · intro W
    go_simp
    try rfl
  simp only [Act.put, List.setIfInBounds_toArray, List.set_cons_zero, List.set_cons_succ]
  refine heldO_step (v := ?_) rfl ?_ ?_
  rotate_left
  · intro W hS
    go_simp
    try rfl
  simp only [Act.put, List.setIfInBounds_toArray, List.set_cons_zero, List.set_cons_succ]
  refine heldO_stepY (v := ?_) rfl ?_ ?_
  rotate_left
  · intro W
    go_simp
    try rfl
  simp only [Act.put, List.setIfInBounds_toArray, List.set_cons_zero, List.set_cons_succ]
  refine heldO_stepY (v := ?_) rfl ?_ ?_
  rotate_left
  · intro W
    go_simp
    try rfl
  simp only [Act.put, List.setIfInBounds_toArray, List.set_cons_zero, List.set_cons_succ]
  refine heldO_stepY (v := ?_) rfl ?_ ?_
  rotate_left
  · intro W
    go_simp
    try rfl
  simp only [Act.put, List.setIfInBounds_toArray, List.set_cons_zero, List.set_cons_succ]
  refine heldO_stepY (v := ?_) rfl ?_ ?_
  rotate_left
  · intro W
    go_simp
    try rfl
  simp only [Act.put, List.setIfInBounds_toArray, List.set_cons_zero, List.set_cons_succ]
  refine heldO_stepY (v := ?_) rfl ?_ ?_
  rotate_left
  · intro W
    go_simp
    try rfl
  simp only [Act.put, List.setIfInBounds_toArray, List.set_cons_zero, List.set_cons_succ]
  refine heldO_nil ?_
  refine tailO_step rfl (fun K hK => ?_)
  go_simp
  refine (HCL.out _ (Below.refl _ _).drew).mono ?_
  rintro e w6 ⟨va, vc, rfl, hown, hb⟩
  have hb6 : Below w5.heap.size w5 w6 := (Below.refl w5.heap.size w5).drew.trans hb
  have hM6 := HM5.out.below hb6
  have hF6 : Fr [pm] sv w (.slice sa sn sc) w6 := HF5.out.trans (Fr.below hb6)
  have hB5 := HB5'.out.below hb6
  have hB4 := HB4'.out.below hb6
  have s6 : w6.cell? ⟨pm, 2, none⟩ = some (.slice sa sn sc) := (macCells hM6 HR.out.cells).2.2.2.1
  have u0 : w6.cell? ⟨w.heap.size + 1 + 1, 0, none⟩ = some (.slice none 0 0) := by rw [hB5.cell]; rfl
  have u3 : w6.cell? ⟨w.heap.size + 1 + 1, 3, none⟩ = some (.slice none 0 0) := by rw [hB5.cell]; rfl
  have u1 : w6.cell? ⟨w.heap.size + 1 + 1, 1, none⟩ = some (.int .i64 (r.en : Int)) := by rw [hB5.cell]; rfl
  have u2 : w6.cell? ⟨w.heap.size + 1 + 1, 2, none⟩ = some (.int .i64 (r.val : Int)) := by rw [hB5.cell]; rfl
  have g0 := hB5.frozen 0
  have g3 := hB5.frozen 3
  have t0 : w6.cell? ⟨w.heap.size + 1, 0, none⟩ = some (.slice none 0 0) := by rw [hB4.cell]; rfl
  have t1 : w6.cell? ⟨w.heap.size + 1, 1, none⟩ = some (.int .i64 0) := by rw [hB4.cell]; rfl
  have t2 : w6.cell? ⟨w.heap.size + 1, 2, none⟩ = some (.int .i64 0) := by rw [hB4.cell]; rfl
  have t3 : w6.cell? ⟨w.heap.size + 1, 3, none⟩ = some (.slice none 0 0) := by rw [hB4.cell]; rfl
  have f0 := hB4.frozen 0
  have f1 := hB4.frozen 1
  have f2 := hB4.frozen 2
  have f3 := hB4.frozen 3
  have hl45 : w.heap.size + 1 + 1 < w6.heap.size := hB5.lt
  have hown5 : ∀ k, Value.ownBlock (.slice va 16 vc) = some k → w5.heap.size ≤ k := fun k hk => (World.ownsRow.lt hown k hk).1
  have HO5 := Lib.hid hown5
  have hap : Apart2 (.slice va 16 vc) (.slice sa sn sc) := fun k hk e => by have h1 := hown5 k hk; have h2 := (HM5.out.said.lt e).2; omega
  have HAP := Lib.hid hap
  clear hap
  have HOW := Lib.hid hown; have HM6 := Lib.hid hM6; have HF6 := Lib.hid hF6
  refine hK _ _ (.inr s6) ?_
  clear hK K hown hb hb6 hM6 hF6 hB5 hB4 HM5 HF5 HB5' HB4' HCL hsd hown5
  refine tailO_step rfl (fun K hK => ?_)
  go_simp
  refine hK _ _ (.inr (by simp [go_sem, s6])) ?_
  clear hK K
  refine tailO_step rfl (fun K hK => ?_)
  go_simp
  refine hK _ _ (.inr (by simp [go_sem, s6])) ?_
  clear hK K
  refine tailO_step rfl (fun K hK => ?_)
  go_simp
  refine hK _ _ (.inl rfl) (tailO_nil ?_)
  clear hK K
  go_wp2_with (fail)
  refine bodyPost_ret (v := .agg #[.slice sa sn sc, .int .i64 (r.en : Int), .int .i64 (r.val : Int), .slice va 16 vc]) (by simp [results, Tryd.results76, go_sem, t0, t1, t2, t3]) rfl ?_
  have p5 : w.heap.size + 1 + 1 ≠ pm := by omega
  have p4 : w.heap.size + 1 ≠ pm := by omega
  refine ⟨_, _, rfl, ?_, ?_, ?_, HAP.out⟩
  · exact (((((HM6.out.other (a := ⟨w.heap.size + 1 + 1, 0, none⟩) p5 hsn5 _).other (a := ⟨w.heap.size + 1 + 1, 3, none⟩) p5 hsn5 _).other (a := ⟨w.heap.size + 1, 0, none⟩) p4 hsn4 _).other (a := ⟨w.heap.size + 1, 1, none⟩) p4 hsn4 _).other (a := ⟨w.heap.size + 1, 2, none⟩) p4 hsn4 _).other (a := ⟨w.heap.size + 1, 3, none⟩) p4 hsn4 _
  · refine ownsRow_mono (ownsRow_same HOW.out fun k hk => ?_) (by show w.heap.size ≤ w5.heap.size; omega)
    have := HO5.out k hk
    repeat rw [Below.heap_setCell _ _ _ _ (by simp only []; omega)]
  · exact (((((HF6.out.setNew (a := ⟨w.heap.size + 1 + 1, 0, none⟩) (by simp only []; omega) _).setNew (a := ⟨w.heap.size + 1 + 1, 3, none⟩) (by simp only []; omega) _).setNew (a := ⟨w.heap.size + 1, 0, none⟩) (by simp only []; omega) _).setNew (a := ⟨w.heap.size + 1, 1, none⟩) (by simp only []; omega) _).setNew (a := ⟨w.heap.size + 1, 2, none⟩) (by simp only []; omega) _).setNew (a := ⟨w.heap.size + 1, 3, none⟩) (by simp only []; omega) _

end Go.Proofs.YtbdbmmdnidonjaaDoor
