/- ImageTable on both sides. Premises: the magic bytes and the table of forms read as laid. -/
import Derived.Test.YtbdbmmdnidonjaaDoorUTs
set_option linter.unusedVariables false
set_option linter.unusedSimpArgs false
set_option maxRecDepth 100000
namespace Go.Proofs.YtbdbmmdnidonjaaDoor
open Go.RowKit
theorem readI_tab {b : List Nat} {l : List Sec} {fs : List Mf} (h : readI b = some (l, fs)) : 3 ≤ b.length ∧ secF b (byteN b 2) = some (l, b.length) := by
 obtain ⟨h1, h2, _⟩ := readI_some h
 refine ⟨?_, (imF_sec h2).1⟩
 unfold headN at h1
 simp only [Bool.and_eq_true, decide_eq_true_eq] at h1
 exact h1.1.1
end Go.Proofs.YtbdbmmdnidonjaaDoor
