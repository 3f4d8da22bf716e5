/- A valid program of the machine, in plain words. No program in sight. -/
import Derived.Test.YtbdbmmdnidonjaaDoorRu
import Derived.Test.YtbdbmmdnidonjaaDoorMv
set_option maxRecDepth 100000
namespace Go.Proofs.YtbdbmmdnidonjaaDoor
open Go.RowKit

theorem insOk_ok {k : Nat} {f : Mf} {x : Mi} (h : insOk k f x = true) (hp : 0 ≤ f.params) (hs : 0 ≤ f.slots) :
    NiOk k f.params.toNat f.slots.toNat x.ni ∧ x.ni.mi = x ∧ ((x.op = 20 ∨ x.op = 21) → x.ni.n < f.ins.length) := by
  obtain ⟨op, a, b, c, n⟩ := x
  unfold insOk formOk restOk at h
  simp only [Bool.and_eq_true, decide_eq_true_eq, inR_iff, Bool.or_eq_true, Bool.not_eq_true', beq_iff_eq] at h
  obtain ⟨⟨⟨⟨⟨⟨h1, h2⟩, ⟨_, hn0⟩⟩, ha⟩, hb⟩, hc⟩, hn⟩ := h
  have hN : hasF 3 op = true → 0 ≤ n ∧ n ≤ mostOf k f op := fun hf => hn.resolve_left (by simp [hf])
  have hn' : 0 ≤ n := by
    cases hf : hasF 3 op
    · rw [hf] at hn0
      have := hn0.resolve_left (by simp)
      omega
    · exact (hN hf).1
  simp only [Mi.ni]
  have e14 : op = 14 → n ≤ (k : Int) - 1 := fun e => by
    subst e; have := (hN (by decide)).2; simpa [mostOf] using this
  have e15 : op = 15 ∨ op = 16 → n ≤ f.slots - 1 := fun e => by
    rcases e with e | e <;> (subst e; have := (hN (by decide)).2; simpa [mostOf] using this)
  have e17 : op = 17 → n ≤ 2 := fun e => by
    subst e; have := (hN (by decide)).2; simpa [mostOf] using this
  have e18 : op = 18 → n ≤ f.params - 1 := fun e => by
    subst e; have := (hN (by decide)).2; simpa [mostOf] using this
  have e20 : op = 20 ∨ op = 21 → n ≤ (f.ins.length : Int) - 1 := fun e => by
    rcases e with e | e <;> (subst e; have := (hN (by decide)).2; simpa [mostOf] using this)
  have e1 : op = 1 → n ≤ 255 := fun e => by
    subst e; have := (hN (by decide)).2; simpa [mostOf] using this
  refine ⟨⟨⟨by simp only []; omega, by simp only []; omega⟩, by simp only []; omega, by simp only []; omega, by simp only []; omega, ?_, ?_, ?_, ?_, ?_⟩, ?_, ?_⟩
  · intro e; simp only [] at e ⊢; have := e1 (by omega); omega
  · intro e; simp only [] at e ⊢; have := e15 (by omega); omega
  · intro e; simp only [] at e ⊢; have := e17 (by omega); omega
  · intro e; simp only [] at e ⊢; have := e18 (by omega); omega
  · intro e; simp only [] at e ⊢; have := e14 (by omega); omega
  · simp only [Ni.mi, Mi.mk.injEq]; omega
  · intro e; have := e20 e; omega

theorem machPg_ok {fs : List Mf} (h : MachOk fs) : PgOk (machPg fs) fs.length ∧ MfsNat fs := by
  obtain ⟨h1, hf, h2⟩ := h
  have hfn : ∀ k f, fs[k]? = some f → (0 ≤ f.params ∧ f.params ≤ 3) ∧ (0 ≤ f.slots ∧ f.slots ≤ 64) ∧ 0 < f.ins.length ∧ (lastOp f = 20 ∨ lastOp f = 22) ∧ ∀ x ∈ f.ins, insOk k f x = true := fun k f hk => by
    have := hf k f hk
    unfold fnOk lastOk at this
    simp only [Bool.and_eq_true, inR_iff, decide_eq_true_eq, Bool.or_eq_true, Bool.not_eq_true'] at this
    obtain ⟨⟨⟨⟨a1, a2⟩, a3⟩, a4⟩, a5⟩ := this
    refine ⟨a1, a2, by omega, a4, fun x hx => ?_⟩
    have := List.any_eq_false.1 a5 x hx
    simpa using this
  have hat : ∀ k, k < fs.length → fs[k]? = some (mfAt fs k) := fun k hk => by
    unfold mfAt; rw [List.getElem?_eq_getElem hk]; rfl
  have hins : ∀ k at_, k < fs.length → at_ < (mfAt fs k).ins.length → (mfAt fs k).ins[at_]? = some (miAt fs k at_) := fun k at_ _ ha => by
    unfold miAt; rw [List.getElem?_eq_getElem ha]; rfl
  refine ⟨⟨fun k hk => ?_, fun k hk => ?_, fun k hk => ?_, fun k at_ hk hg => ?_, fun k at_ hk hg hj => ?_, fun k at_ hk hg hj hb => ?_⟩, fun f hfm => ?_, fun f hfm x hx => ?_⟩
  · have := (hfn k _ (hat k hk)).1
    show (mfAt fs k).params.toNat ≤ 3; omega
  · have := (hfn k _ (hat k hk)).2.1
    show (mfAt fs k).slots.toNat ≤ 64; omega
  · exact (hfn k _ (hat k hk)).2.2.1
  · obtain ⟨a1, a2, _, _, a5⟩ := hfn k _ (hat k hk)
    exact (insOk_ok (a5 _ (List.mem_of_getElem? (hins k at_ hk hg))) a1.1 a2.1).1
  · obtain ⟨a1, a2, _, _, a5⟩ := hfn k _ (hat k hk)
    have hok := insOk_ok (a5 _ (List.mem_of_getElem? (hins k at_ hk hg))) a1.1 a2.1
    refine hok.2.2 ?_
    have hm := hok.2.1
    have ho : ((miAt fs k at_).ni.op : Int) = (miAt fs k at_).op := congrArg Mi.op hm
    have hj' : (miAt fs k at_).ni.op = 20 ∨ (miAt fs k at_).ni.op = 21 := hj
    omega
  · obtain ⟨a1, a2, a3, a4, a5⟩ := hfn k _ (hat k hk)
    show at_ + 1 < (mfAt fs k).ins.length
    have hg' : at_ < (mfAt fs k).ins.length := hg
    rcases Nat.lt_or_ge (at_ + 1) (mfAt fs k).ins.length with hl | hl
    · exact hl
    · exfalso
      have hlast : (mfAt fs k).ins.length - 1 = at_ := by omega
      have hok := insOk_ok (a5 _ (List.mem_of_getElem? (hins k at_ hk hg))) a1.1 a2.1
      have ho : ((miAt fs k at_).ni.op : Int) = (miAt fs k at_).op := congrArg Mi.op hok.2.1
      have hlo : lastOp (mfAt fs k) = (miAt fs k at_).op := by
        unfold lastOp; rw [hlast, hins k at_ hk hg']; rfl
      have hj' : (miAt fs k at_).ni.op ≠ 20 := hj
      have hb' : (miAt fs k at_).ni.op ≠ 22 := hb
      rcases a4 with e | e <;> omega
  · obtain ⟨k, hk⟩ := List.getElem?_of_mem hfm
    have := hfn k f hk
    exact ⟨this.1.1, this.2.1.1⟩
  · obtain ⟨k, hk⟩ := List.getElem?_of_mem hfm
    obtain ⟨a1, a2, _, _, a5⟩ := hfn k f hk
    exact (insOk_ok (a5 x hx) a1.1 a2.1).2.1

end Go.Proofs.YtbdbmmdnidonjaaDoor
