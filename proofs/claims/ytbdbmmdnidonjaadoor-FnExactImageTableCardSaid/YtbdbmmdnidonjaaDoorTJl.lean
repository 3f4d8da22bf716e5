/- A valid program of the machine, in plain words. No program in sight. A run of a program of the machine: impl's runMach. impl.RunMach and impl.MachSteps. -/
import Derived.Test.YtbdbmmdnidonjaaDoorTJg
import Derived.Test.YtbdbmmdnidonjaaDoorTJk
import Derived.Test.YtbdbmmdnidonjaaDoorTJi
set_option linter.unusedVariables false
set_option linter.unusedSimpArgs false
set_option maxRecDepth 100000
namespace Go.Proofs.YtbdbmmdnidonjaaDoor
open Go.RowKit
theorem insOk_ok {k : Nat} {f : Mf} {x : Mi} (h : insOk k f x = true) (hp : 0 ≤ f.params) (hs : 0 ≤ f.slots) :
    NiOk k f.params.toNat f.slots.toNat x.ni ∧ x.ni.mi = x ∧ ((x.op = 20 ∨ x.op = 21) → x.ni.n < f.ins.length) := by
  obtain ⟨op, a, b, c, n⟩ := x
  unfold insOk formOk restOk at h
  simp only [Bool.and_eq_true, decide_eq_true_eq, inR_iff, Bool.or_eq_true, Bool.not_eq_true', beq_iff_eq] at h
  obtain ⟨⟨⟨⟨⟨⟨h1, h2⟩, ⟨_, hn0⟩⟩, ha⟩, hb⟩, hc⟩, hn⟩ := h
  have hN : hasF 3 op = true → 0 ≤ n ∧ n ≤ mostOf k f op := fun hf => hn.resolve_left (by simp [hf])
  have hn' : 0 ≤ n := by
    cases hf : hasF 3 op
    · rw [hf] at hn0
      have := hn0.resolve_left (by simp)
      omega
    · exact (hN hf).1
  simp only [Mi.ni]
  have e14 : op = 14 → n ≤ (k : Int) - 1 := fun e => by
    subst e; have := (hN (by decide)).2; simpa [mostOf] using this
  have e15 : op = 15 ∨ op = 16 → n ≤ f.slots - 1 := fun e => by
    rcases e with e | e <;> (subst e; have := (hN (by decide)).2; simpa [mostOf] using this)
  have e17 : op = 17 → n ≤ 2 := fun e => by
    subst e; have := (hN (by decide)).2; simpa [mostOf] using this
  have e18 : op = 18 → n ≤ f.params - 1 := fun e => by
    subst e; have := (hN (by decide)).2; simpa [mostOf] using this
  have e20 : op = 20 ∨ op = 21 → n ≤ (f.ins.length : Int) - 1 := fun e => by
    rcases e with e | e <;> (subst e; have := (hN (by decide)).2; simpa [mostOf] using this)
  have e1 : op = 1 → n ≤ 255 := fun e => by
    subst e; have := (hN (by decide)).2; simpa [mostOf] using this
  refine ⟨⟨⟨by simp only []; omega, by simp only []; omega⟩, by simp only []; omega, by simp only []; omega, by simp only []; omega, ?_, ?_, ?_, ?_, ?_⟩, ?_, ?_⟩
  · intro e; simp only [] at e ⊢; have := e1 (by omega); omega
  · intro e; simp only [] at e ⊢; have := e15 (by omega); omega
  · intro e; simp only [] at e ⊢; have := e17 (by omega); omega
  · intro e; simp only [] at e ⊢; have := e18 (by omega); omega
  · intro e; simp only [] at e ⊢; have := e14 (by omega); omega
  · simp only [Ni.mi, Mi.mk.injEq]; omega
  · intro e; have := e20 e; omega
end Go.Proofs.YtbdbmmdnidonjaaDoor
set_option maxRecDepth 100000
namespace Go.Proofs.YtbdbmmdnidonjaaDoor
open Go.RowKit
end Go.Proofs.YtbdbmmdnidonjaaDoor
set_option maxRecDepth 100000
namespace Go.Proofs.YtbdbmmdnidonjaaDoor
open Go.RowKit
/-- numbers that are handed in -/
structure InSrc (w : World) (b off n cap : Nat) (zs : List Int) : Prop where
  len : zs.length = n
  cap : n ≤ cap
  small : n ≤ 1048576
  cells : ∀ i, i < n → w.cell? ⟨b, off + i, none⟩ = some (.int .i64 (zs.getD i 0))
theorem InSrc.ints {w : World} {b off n cap : Nat} {zs : List Int} (h : InSrc w b off n cap zs) : IntsAt w (.slice (some ⟨b, off, none⟩) n cap) zs :=
  ⟨_, cap, by rw [h.len], fun i hi => ⟨b, off, rfl, h.cells i (by rw [← h.len]; exact hi)⟩⟩
theorem InSrc.below {w w' : World} {b off n cap : Nat} {zs : List Int} (h : InSrc w b off n cap zs) (hb : Below w.heap.size w w') : InSrc w' b off n cap zs :=
  ⟨h.len, h.cap, h.small, fun i hi => by rw [hb.cell (p := ⟨b, off + i, none⟩) (World.block_lt_of_cell? _ _ (h.cells i hi))]; exact h.cells i hi⟩
def OutAt (w : World) (B : Nat) (o : Option Rs) (v : Value) : Prop :=
  match o with
  | none => v = .agg #[.slice none 0 0, .int .i64 0, .int .i64 0, .slice none 0 0]
  | some r => ∃ sa sn sc ca cc, v = .agg #[.slice sa sn sc, .int .i64 (r.en : Int), .int .i64 (r.val : Int), .slice ca 16 cc] ∧ Said w B (.slice sa sn sc) r.cm.said ∧ w.ownsRow B 3 1 (.slice ca 16 cc) 16 (nats r.cm.cells) ∧ Apart2 (.slice ca 16 cc) (.slice sa sn sc)
theorem row_keep {w w' : World} {B B' : Nat} {e : TypeId} {size : Nat} {v : Value} {n : Nat} {xs : List Value} (h : w.ownsRow B' e size v n xs) (hB : B ≤ B') (hh : ∀ k, B' ≤ k → k < w.heap.size → w'.heap[k]? = w.heap[k]?) : w'.ownsRow B e size v n xs :=
  ownsRow_mono (ownsRow_same h fun k hk => hh k (World.ownsRow.lt h k hk).1 (World.ownsRow.lt h k hk).2) hB
end Go.Proofs.YtbdbmmdnidonjaaDoor
