/- A run of a function of the machine: impl's run. -/
import Derived.Test.YtbdbmmdnidonjaaDoorDd
import Derived.Test.YtbdbmmdnidonjaaDoorNd
set_option maxRecDepth 100000
namespace Go.Proofs.YtbdbmmdnidonjaaDoor
open Go.RowKit

def RunPost (B pm : Nat) (rest : List Value) (T : Nat) (sv : Value) (r : Rs) (w : World) (e : Ending) (w' : World) : Prop :=
  match r with
  | .ret v s2 => ∃ sv', e = .returned (.int .i64 (v : Int)) ∧ MacAt B w' pm rest T s2 sv' ∧ Fr [pm] sv w sv' w'
  | .stop en s2 => ∃ sv', e = .panicked (endChain en) ∧ MacAt B w' pm rest T s2 sv' ∧ Fr [pm] sv w sv' w'

/-- all numbers of the program's instructions are plain -/
def MfsNat (fs : List Mf) : Prop := (∀ f ∈ fs, 0 ≤ f.params ∧ 0 ≤ f.slots) ∧ ∀ f ∈ fs, ∀ x ∈ f.ins, x.ni.mi = x

theorem plainOp_said {x : Ni} {l : Lc} {s : Cm} {l2 : Lc} {s2 : Cm} (h : plainOp x l s = .inl (l2, s2)) : s2.said.length + s2.left ≤ s.said.length + s.left + 1 ∧ s2.left = s.left := by
  unfold plainOp at h
  by_cases e1 : x.op = 1
  · rw [if_pos e1] at h
    cases h; exact ⟨Nat.le_succ _, rfl⟩
  rw [if_neg e1] at h
  by_cases e2 : x.op = 2
  · rw [if_pos e2] at h
    cases h; exact ⟨Nat.le_succ _, rfl⟩
  rw [if_neg e2] at h
  by_cases e10 : x.op = 10
  · rw [if_pos e10] at h
    cases h; exact ⟨Nat.le_succ _, rfl⟩
  rw [if_neg e10] at h
  by_cases e11 : x.op = 11
  · rw [if_pos e11] at h
    by_cases q : 16 ≤ l.reg x.b
    · rw [if_pos q] at h; cases h
    · rw [if_neg q] at h; cases h; exact ⟨Nat.le_succ _, rfl⟩
  rw [if_neg e11] at h
  by_cases e12 : x.op = 12
  · rw [if_pos e12] at h
    by_cases q : 16 ≤ l.reg x.a
    · rw [if_pos q] at h; cases h
    · rw [if_neg q] at h; cases h; exact ⟨Nat.le_succ _, rfl⟩
  rw [if_neg e12] at h
  by_cases e13 : x.op = 13
  · rw [if_pos e13] at h
    cases h; exact ⟨by simp; omega, rfl⟩
  rw [if_neg e13] at h
  by_cases e15 : x.op = 15
  · rw [if_pos e15] at h
    cases h; exact ⟨Nat.le_succ _, rfl⟩
  rw [if_neg e15] at h
  by_cases e16 : x.op = 16
  · rw [if_pos e16] at h
    cases h; exact ⟨Nat.le_succ _, rfl⟩
  rw [if_neg e16] at h
  by_cases e17 : x.op = 17
  · rw [if_pos e17] at h
    cases h; exact ⟨Nat.le_succ _, rfl⟩
  rw [if_neg e17] at h
  by_cases e18 : x.op = 18
  · rw [if_pos e18] at h
    cases h; exact ⟨Nat.le_succ _, rfl⟩
  rw [if_neg e18] at h
  by_cases e19 : x.op = 19
  · rw [if_pos e19] at h
    cases h; exact ⟨Nat.le_succ _, rfl⟩
  rw [if_neg e19] at h
  cases q : arithN x.op (l.reg x.b) (l.reg x.c) with
  | none => rw [q] at h; cases h
  | some v => rw [q] at h; cases h; exact ⟨Nat.le_succ _, rfl⟩

/-- the said row grows within the steps -/
theorem loop_said {P : Pg} : ∀ g k at_ l s, (loop P g k at_ l s).cm.said.length + (loop P g k at_ l s).cm.left ≤ s.said.length + s.left := by
  intro g
  induction g with
  | zero => intro k at_ l s; exact Nat.le_refl _
  | succ g ih =>
    intro k at_ l s
    unfold loop
    have hst : ∀ p, s.left ≠ 0 → (s.step p).said.length + (s.step p).left + 1 ≤ s.said.length + s.left := fun p h => by
      show s.said.length + (s.left - 1) + 1 ≤ _
      omega
    have hst' := hst (P.base k + at_)
    generalize P.fet k at_ = x at *
    generalize s.step (P.base k + at_) = s1 at *
    split
    · exact Nat.le_refl _
    rename_i h0
    have hs1 := hst' h0
    split
    · show s1.said.length + s1.left ≤ _
      omega
    split
    · exact Nat.le_trans (ih _ _ _ _) (by omega)
    split
    · exact Nat.le_trans (ih _ _ _ _) (by omega)
    split
    · have h1 := ih x.n 0 (newLc P x.n l.gives) s1
      generalize loop P g x.n 0 (newLc P x.n l.gives) s1 = r at *
      cases r with
      | ret v s2 => exact Nat.le_trans (ih _ _ _ _) (by have : s2.said.length + s2.left ≤ s1.said.length + s1.left := h1; omega)
      | stop e s2 => exact Nat.le_trans h1 (by omega)
    · cases hp : plainOp x l s1 with
      | inl ls =>
        obtain ⟨l2, s2⟩ := ls
        refine Nat.le_trans (ih _ _ _ _) ?_
        have := plainOp_said hp
        omega
      | inr e => show s1.said.length + s1.left ≤ _; omega

end Go.Proofs.YtbdbmmdnidonjaaDoor
