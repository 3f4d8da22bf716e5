/- ImageSteps on both sides; the law of it, walked. Premises of the walk: the tables of forms and magic bytes read as laid (the card ties them). -/
import Derived.Test.YtbdbmmdnidonjaaDoorUJx
import Derived.Test.YtbdbmmdnidonjaaDoorUJm
import Derived.Test.YtbdbmmdnidonjaaDoorUJl
set_option linter.unusedVariables false
set_option linter.unusedSimpArgs false
set_option maxRecDepth 100000
namespace Go.Proofs.YtbdbmmdnidonjaaDoor
open Go.RowKit
theorem readI_le {b : List Nat} {l : List Sec} {fs : List Mf} (h : readI b = some (l, fs)) : MfsLe fs ∧ 0 < fs.length := by
 obtain ⟨h1, h2, h3⟩ := readI_some h
 have hb : 3 ≤ b.length := by
  unfold headN at h1
  simp only [Bool.and_eq_true, decide_eq_true_eq] at h1
  exact h1.1.1
 obtain ⟨a1, a2, a3, a4⟩ := imF_le hb h2
 have := (imF_sec h2).2.1
 have h4 := h3.1
 refine ⟨⟨?_, fun f hf => by have := a4 f hf; omega⟩, ?_⟩
 ·omega
 ·omega
theorem inSrc_own {w : World} {B g n cap : Nat} {zs : List Int} (h : w.ownsRow B 3 1 (.slice (some ⟨g, 0, none⟩) n cap) n (ints zs)) (hn : n = zs.length) (hs : n ≤ 1048576) : InSrc w g 0 n cap zs :=
 ⟨hn.symm, (ownsRow_lt h).2.2, hs, fun i hi => by
  rw [Nat.zero_add, h.cellAt i (by omega)]
  simp [ints, List.getD_eq_getElem?_getD, List.getElem?_eq_getElem (show i < zs.length by omega)]⟩
/-- functions of the call's own that are some lie in a block -/
theorem OwnFns.some_form {B : Nat} {w : World} {fv : Value} {fs : List Mf} (h : OwnFns B w fv fs) (h0 : 0 < fs.length) : ∃ g c, fv = .slice (some ⟨g, 0, none⟩) fs.length c := by
 obtain ⟨ys, h1, _⟩ := h
 obtain ⟨g, c, rfl⟩ := own_form h1 h0
 exact ⟨g, c, rfl⟩
end Go.Proofs.YtbdbmmdnidonjaaDoor
