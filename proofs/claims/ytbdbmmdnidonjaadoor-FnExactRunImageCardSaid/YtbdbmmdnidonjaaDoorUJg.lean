/- A call of a function of the machine begins: impl's newCall, slices.Clone. A call of a function of the machine begins: impl's newCall. A run of a function of the machine: impl's run. -/
import Derived.Test.YtbdbmmdnidonjaaDoorUJc
import Derived.Deep.RegionLaw
import Derived.Test.YtbdbmmdnidonjaaDoorUJe
set_option linter.unusedVariables false
set_option linter.unusedSimpArgs false
set_option maxRecDepth 100000
namespace Go.Proofs.YtbdbmmdnidonjaaDoor
open Go.RowKit
/-- a new row with these numbers (or nil, if there are none) -/
def CloPost (xs : List Nat) (w : World) (e : Ending) (w' : World) : Prop :=
 ∃ v, e = .returned v ∧ w'.ownsRow w.heap.size 3 1 v xs.length (nats xs) ∧ Below w.heap.size w w'
set_option maxHeartbeats 1000000 in
theorem clone_some (w : World) (b off n cap : Nat) (xs : List Nat) (hn : xs.length = n) (hm : n ≤ 1048576) (hc : ∀ i, i < n → w.cell? ⟨b, off + i, none⟩ = some (.int .i64 ((xs.getD i 0 : Nat) : Int))) :
  Calls Tryd.prog 104 #[.slice (some ⟨b, off, none⟩) n cap] w (CloPost xs w) := by
 have qT : ∀ (w : World) (a : Option Addr) (n c n' c' : Nat), (binOp .eql 26 (.slice a n c) (.slice none n' c')).run Tryd.prog w = .ok (.bool a.isNone) w := fun w a n c n' c' => Lib.run_eql_slice_nil w _ _ a n c n' c' Tryd.underlying26
 obtain ⟨i0, hi, hz0, hz1, hz2⟩ := info_parts info_int
 have HNEWS : Hid (∀ j u, (nats xs)[j]? = some u → (w.alloc (.cells #[] 3)).cell? ((⟨b, off, none⟩ : Addr).add j) = some u) := by
  apply Lib.hid
  intro j u hu
  have hj : j < xs.length := by
   rcases Nat.lt_or_ge j xs.length with h | h
   ·exact h
   ·rw [List.getElem?_eq_none (by rw [nats_len]; exact h)] at hu; cases hu
  rw [nats_get hj] at hu
  have h2 := hc j (by omega)
  rw [Arg.add_eq, World.cell?_alloc_past _ _ _ (World.block_lt_of_cell? _ _ h2), h2]
  exact hu
 have HN := Lib.hid hn
 clear hc hn
 go_enter Tryd.func104, Tryd.ntmps104
 go_wp2_with (at_builtin; refine wpList_append_own _ rfl _ _ 26 (by rfl) w.heap.size 3 i0 (.int .i64 0) 1 8 Tryd.underlying26 hi hz0 hz1 hz2 rfl (by decide) _ 0 [] (by rfl) (ownsRow_empty w 3 1) ⟨b, off, none⟩ n cap (nats xs) (by rfl) (by rw [nats_len, HN.out]; omega) HNEWS.out (by simp [nats, Value.oneCell']) (by unfold maxLen; omega) (by omega) (by simp) ?_; intro v w2 hown hg _; have HOW := Lib.hid hown; have HB := Lib.hid ((below1 w _).grown hg (by simp) (fun k hk => by simp [Value.ownBlock] at hk; omega)); clear hown hg)
 go_ret
 have h := HOW.out
 rw [Nat.zero_add, List.nil_append] at h
 exact ⟨_, rfl, by rw [HN.out]; exact h, HB.out⟩
theorem inAt_row {w : World} {B : Nat} {v : Value} {xs : List Nat} (h : w.ownsRow B 3 1 v xs.length (nats xs)) {P : Nat → Prop} (hP : ∀ g, v.ownBlock = some g → B ≤ g → g < w.heap.size → P g) : InAt w v xs P := by
 rcases h.2 with ⟨rfl, h0⟩ | ⟨g, cap, cur, rfl, hg, hh, _, _, _, ht⟩
 ·exact ⟨none, 0, by rw [h0], .inl (List.length_eq_zero_iff.1 h0)⟩
 ·refine ⟨_, _, rfl, .inr ⟨g, cur.toList.drop (xs.length * 1), rfl, ⟨cur, _, hh, ?_⟩, hP g rfl hg (Array.getElem?_eq_some_iff.1 hh).1⟩⟩
  rw [← ht, List.take_append_drop]
end Go.Proofs.YtbdbmmdnidonjaaDoor
set_option maxRecDepth 100000
namespace Go.Proofs.YtbdbmmdnidonjaaDoor
open Go.RowKit
/-- numbers that are handed in: a row of somebody's -/
structure SrcAt (w : World) (b off n cap : Nat) (inp : List Nat) : Prop where
 len : inp.length = n
 cap : n ≤ cap
 small : n ≤ 1048576
 cells : ∀ i, i < n → w.cell? ⟨b, off + i, none⟩ = some (.int .i64 ((inp.getD i 0 : Nat) : Int))
def NewPost (pm par slo : Nat) (inp : List Nat) (w : World) (e : Ending) (w' : World) : Prop :=
 ∃ pc pl, e = .returned (.pointer (some ⟨pc, 0, none⟩)) ∧ w.heap.size ≤ pc ∧ w.heap.size ≤ pl ∧ Below w.heap.size w w' ∧
  ∀ (K : Nat → Prop) sv, pm < w.heap.size → (∀ k, Value.ownBlock sv = some k → k < w.heap.size) → (∀ k, w.heap.size ≤ k → K k) → CallAt K w' pm sv pc pl par ⟨List.replicate 8 0, List.replicate slo 0, List.replicate 3 0, inp, 0⟩
theorem newPost_of {w w2 : World} {pm pl par slo : Nat} {inv : Value} {inp : List Nat} {t : TypeId} (hb : Below w.heap.size w w2) (hpl : w.heap.size ≤ pl) (hbl : Blk w2 pl (nats (List.replicate slo 0)))
  {B2 : Nat} (hB2 : w.heap.size ≤ B2) (hin : w2.ownsRow B2 3 1 inv (inp.take par).length (nats (inp.take par))) (hne : ∀ g, inv.ownBlock = some g → g ≠ pl) :
  NewPost pm par slo inp w (.returned (.pointer (some ⟨w2.heap.size, 0, none⟩))) (w2.alloc (.cells #[.pointer (some ⟨pm, 0, none⟩), .int .i64 0, .int .i64 0, .int .i64 0, .int .i64 0, .int .i64 0, .int .i64 0, .int .i64 0, .int .i64 0, .slice (some ⟨pl, 0, none⟩) slo slo, inv, .int .i64 0, .int .i64 0, .int .i64 0, .int .i64 0] t)) := by
 refine ⟨_, pl, rfl, hb.size, hpl, hb.alloc hb.size _, fun K sv hpm hsv hK => ?_⟩
 have hsz := hb.size
 have hlt := hbl.lt
 refine ⟨⟨inv, ?_, ?_⟩, hbl.alloc _, by omega, by omega, by omega, fun e => by have := hsv _ e; omega, fun e => by have := hsv _ e; omega, hK _ (by omega), hK _ (by omega)⟩
 ·have h := Blk.new w2 #[.pointer (some ⟨pm, 0, none⟩), .int .i64 0, .int .i64 0, .int .i64 0, .int .i64 0, .int .i64 0, .int .i64 0, .int .i64 0, .int .i64 0, .slice (some ⟨pl, 0, none⟩) slo slo, inv, .int .i64 0, .int .i64 0, .int .i64 0, .int .i64 0] t
  have e : mkCall pm (List.replicate 8 0) (.slice (some ⟨pl, 0, none⟩) slo slo) inv (List.replicate 3 0) 0 = (#[.pointer (some ⟨pm, 0, none⟩), .int .i64 0, .int .i64 0, .int .i64 0, .int .i64 0, .int .i64 0, .int .i64 0, .int .i64 0, .int .i64 0, .slice (some ⟨pl, 0, none⟩) slo slo, inv, .int .i64 0, .int .i64 0, .int .i64 0, .int .i64 0] : Array Value).toList := rfl
  simp only [List.length_replicate]
  rw [e]; exact h
 ·refine (inAt_row hin (P := fun g => B2 ≤ g ∧ g < w2.heap.size ∧ g ≠ pl) (fun g h0 h1 h2 => ⟨h1, h2, hne g h0⟩)).mono fun pi hpi ⟨h1, h2, h3⟩ => ⟨Below.heap_alloc _ _ _ hpi, by omega, by omega, h3, fun e => (by have := hsv _ e; omega), hK _ (by omega)⟩
set_option maxHeartbeats 2000000 in
theorem newCall_any (w : World) (pm par slo b off n cap : Nat) (inp : List Nat) (hs : SrcAt w b off n cap inp) (hpar : par ≤ n) (hslo : slo ≤ 64) :
  Calls Tryd.prog 105 #[.pointer (some ⟨pm, 0, none⟩), .int .i64 (par : Int), .int .i64 (slo : Int), .slice (some ⟨b, off, none⟩) n cap] w (NewPost pm par slo inp w) := by
 obtain ⟨i0, hi, hz0, hz1, hz2⟩ := info_parts info_int
 have hmk : ∀ w : World, (Instr.makeSlice 26 (.int .i64 (slo : Int)) (.int .i64 (slo : Int))).run Tryd.prog w = .ok (.slice (some ⟨w.heap.size, 0, none⟩) slo slo) (w.alloc (.cells (madeCells (Value.int .i64 0).cells slo) 3)) := fun w => by
  have h := run_make (P := Tryd.prog) w 26 3 i0 (.int .i64 0) Tryd.underlying26 hi hz0 .i64 .i64 (slo : Int) (slo : Int) (by omega) (by omega) (by rw [hz2]; omega) (by omega)
  rw [hz1, Nat.mul_one] at h
  simpa using h
 have HMB : Hid (∀ W : World, Blk (W.alloc (.cells (madeCells (Value.int .i64 0).cells slo) 3)) W.heap.size (nats (List.replicate slo 0))) := Lib.hid fun W => by
  have h := Blk.new W (madeCells (Value.int .i64 0).cells slo) 3
  rw [show (madeCells (Value.int .i64 0).cells slo).toList = nats (List.replicate slo 0) by rw [← nats_zeros]; exact toList_madeCells_one _ _] at h
  exact h
 have hlen : (inp.take par).length = par := by rw [List.length_take]; have := hs.len; omega
 have HCL : Hid (∀ w', Below w.heap.size w w' → Calls Tryd.prog 104 #[.slice (some ⟨b, off, none⟩) par cap] w' (fun e w2 => ∃ a c, e = .returned (.slice a par c) ∧ w2.ownsRow w'.heap.size 3 1 (.slice a par c) par (nats (inp.take par)) ∧ Below w'.heap.size w' w2)) := Lib.hid fun w' hb => by
  have hkey : Calls Tryd.prog 104 #[.slice (some ⟨b, off, none⟩) par cap] w' (CloPost (inp.take par) w') := by
   have h1 := hs.small
   refine clone_some w' b off par cap (inp.take par) hlen (by omega) (fun i hi => ?_)
   have h := hs.cells i (by omega)
   rw [hb.cell (p := ⟨b, off + i, none⟩) (World.block_lt_of_cell? _ _ h), h]
   simp [List.getD_eq_getElem?_getD, hi]
  refine hkey.mono fun e w2 ⟨v, he, hown, hb⟩ => ?_
  obtain ⟨a, c, rfl⟩ : ∃ a c, v = .slice a par c := by
   rcases hown.2 with ⟨h1, h2⟩ | ⟨g, cp, cur, h1, _⟩
   ·exact ⟨none, 0, by rw [h1, ← h2, hlen]⟩
   ·exact ⟨_, cp, by rw [h1, hlen]⟩
  exact ⟨a, c, he, by rw [hlen] at hown; exact hown, hb⟩
 have hp0 : (0 : Int) ≤ par := by omega
 have hp1 : (par : Int) ≤ cap := by have := hs.cap; omega
 have hs0 : (0 : Int) ≤ slo := by omega
 have HS := Lib.hid hs
 clear hi hz0 hz1 hz2 hs
 go_enter Tryd.func105, Tryd.ntmps105
 go_wp2_with (fail)
 have HB0 := Lib.hid (Below.refl w.heap.size w).drew
 go_region_law (first | (go_simp; go_at_call 104; refine (HCL.out _ (by first | exact (below1 _ _).drew | exact (Below.refl _ _).drew)).mono ?_; rintro e w' ⟨va, vc, rfl, hown, hb⟩; (try clear HCL); have HOW := Lib.hid hown; have HBB := Lib.hid hb; clear hown hb))
 ·have hb2 := HBB.out
  have hA := (below1 w (.cells (madeCells (Value.int .i64 0).cells slo) 3)).drew
  have hfin := newPost_of (pm := pm) (par := par) (slo := slo) (inp := inp) (t := 141) (hA.trans (hb2.mono hA.size)) (Nat.le_refl _) ((HMB.out w).drew.below hb2) hA.size (by rw [hlen]; exact HOW.out) (fun g h1 => by have := (World.ownsRow.lt HOW.out g h1).1; simp at this; omega)
  have HF := Lib.hid hfin
  clear hb2 hA hfin
  go_wp2_with (fail)
  go_ret
  exact HF.out
 ·have hb2 := HBB.out
  have hA : Below w.heap.size w w' := (Below.refl w.heap.size w).drew.trans hb2
  have hfin := newPost_of (pm := pm) (par := par) (slo := slo) (inp := inp) (t := 141) (hA.alloc hA.size (.cells (madeCells (Value.int .i64 0).cells slo) 3)) hA.size (HMB.out w') (Nat.le_refl _) (by rw [hlen]; exact (HOW.out).alloc _) (fun g h1 => by have := (World.ownsRow.lt HOW.out g h1).2; omega)
  rw [show (w'.alloc (.cells (madeCells (Value.int .i64 0).cells slo) 3)).heap.size = w'.heap.size + 1 by simp] at hfin
  have HF := Lib.hid hfin
  clear hb2 hA hfin
  go_wp2_with (fail)
  go_ret
  exact HF.out
end Go.Proofs.YtbdbmmdnidonjaaDoor
set_option maxRecDepth 100000
namespace Go.Proofs.YtbdbmmdnidonjaaDoor
open Go.RowKit
/-- all numbers of the program's instructions are plain -/
def MfsNat (fs : List Mf) : Prop := (∀ f ∈ fs, 0 ≤ f.params ∧ 0 ≤ f.slots) ∧ ∀ f ∈ fs, ∀ x ∈ f.ins, x.ni.mi = x
theorem plainOp_said {x : Ni} {l : Lc} {s : Cm} {l2 : Lc} {s2 : Cm} (h : plainOp x l s = .inl (l2, s2)) : s2.said.length + s2.left ≤ s.said.length + s.left + 1 ∧ s2.left = s.left := by
 unfold plainOp at h
 by_cases e1 : x.op = 1
 ·rw [if_pos e1] at h
  cases h; exact ⟨Nat.le_succ _, rfl⟩
 rw [if_neg e1] at h
 by_cases e2 : x.op = 2
 ·rw [if_pos e2] at h
  cases h; exact ⟨Nat.le_succ _, rfl⟩
 rw [if_neg e2] at h
 by_cases e10 : x.op = 10
 ·rw [if_pos e10] at h
  cases h; exact ⟨Nat.le_succ _, rfl⟩
 rw [if_neg e10] at h
 by_cases e11 : x.op = 11
 ·rw [if_pos e11] at h
  by_cases q : 16 ≤ l.reg x.b
  ·rw [if_pos q] at h; cases h
  ·rw [if_neg q] at h; cases h; exact ⟨Nat.le_succ _, rfl⟩
 rw [if_neg e11] at h
 by_cases e12 : x.op = 12
 ·rw [if_pos e12] at h
  by_cases q : 16 ≤ l.reg x.a
  ·rw [if_pos q] at h; cases h
  ·rw [if_neg q] at h; cases h; exact ⟨Nat.le_succ _, rfl⟩
 rw [if_neg e12] at h
 by_cases e13 : x.op = 13
 ·rw [if_pos e13] at h
  cases h; exact ⟨by simp; omega, rfl⟩
 rw [if_neg e13] at h
 by_cases e15 : x.op = 15
 ·rw [if_pos e15] at h
  cases h; exact ⟨Nat.le_succ _, rfl⟩
 rw [if_neg e15] at h
 by_cases e16 : x.op = 16
 ·rw [if_pos e16] at h
  cases h; exact ⟨Nat.le_succ _, rfl⟩
 rw [if_neg e16] at h
 by_cases e17 : x.op = 17
 ·rw [if_pos e17] at h
  cases h; exact ⟨Nat.le_succ _, rfl⟩
 rw [if_neg e17] at h
 by_cases e18 : x.op = 18
 ·rw [if_pos e18] at h
  cases h; exact ⟨Nat.le_succ _, rfl⟩
 rw [if_neg e18] at h
 by_cases e19 : x.op = 19
 ·rw [if_pos e19] at h
  cases h; exact ⟨Nat.le_succ _, rfl⟩
 rw [if_neg e19] at h
 cases q : arithN x.op (l.reg x.b) (l.reg x.c) with
 |none => rw [q] at h; cases h
 |some v => rw [q] at h; cases h; exact ⟨Nat.le_succ _, rfl⟩
/-- the said row grows within the steps -/
theorem loop_said {P : Pg} : ∀ g k at_ l s, (loop P g k at_ l s).cm.said.length + (loop P g k at_ l s).cm.left ≤ s.said.length + s.left := by
 intro g
 induction g with
 |zero => intro k at_ l s; exact Nat.le_refl _
 |succ g ih =>
  intro k at_ l s
  unfold loop
  have hst : ∀ p, s.left ≠ 0 → (s.step p).said.length + (s.step p).left + 1 ≤ s.said.length + s.left := fun p h => by
   show s.said.length + (s.left - 1) + 1 ≤ _
   omega
  have hst' := hst (P.base k + at_)
  generalize P.fet k at_ = x at *
  generalize s.step (P.base k + at_) = s1 at *
  split
  ·exact Nat.le_refl _
  rename_i h0
  have hs1 := hst' h0
  split
  ·show s1.said.length + s1.left ≤ _
   omega
  split
  ·exact Nat.le_trans (ih _ _ _ _) (by omega)
  split
  ·exact Nat.le_trans (ih _ _ _ _) (by omega)
  split
  ·have h1 := ih x.n 0 (newLc P x.n l.gives) s1
   generalize loop P g x.n 0 (newLc P x.n l.gives) s1 = r at *
   cases r with
   |ret v s2 => exact Nat.le_trans (ih _ _ _ _) (by have : s2.said.length + s2.left ≤ s1.said.length + s1.left := h1; omega)
   |stop e s2 => exact Nat.le_trans h1 (by omega)
  ·cases hp : plainOp x l s1 with
   |inl ls =>
    obtain ⟨l2, s2⟩ := ls
    refine Nat.le_trans (ih _ _ _ _) ?_
    have := plainOp_said hp
    omega
   |inr e => show s1.said.length + s1.left ≤ _; omega
end Go.Proofs.YtbdbmmdnidonjaaDoor
