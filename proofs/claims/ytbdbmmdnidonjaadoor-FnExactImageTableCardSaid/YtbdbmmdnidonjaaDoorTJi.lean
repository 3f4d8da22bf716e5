/- A run of a function of the machine: impl's run, the walk. A run that ends by a panic of its own is caught: impl's caught. The outcome of a run of the machine: impl's outcome and its closures. The outcome of a run of the machine: impl's outcome. -/
import Derived.Test.YtbdbmmdnidonjaaDoorTJg
import Derived.Test.YtbdbmmdnidonjaaDoorTJh
import Derived.Test.YtbdbmmdnidonjaaDoorTJd
import Derived.Test.YtbdbmmdnidonjaaDoorTJc
import Derived.Recover
set_option linter.unusedVariables false
set_option linter.unusedSimpArgs false
set_option maxRecDepth 100000
namespace Go.Proofs.YtbdbmmdnidonjaaDoor
open Go.RowKit
theorem SrcAt.below {w w' : World} {b off n cap : Nat} {inp : List Nat} (h : SrcAt w b off n cap inp) (hb : Below w.heap.size w w') : SrcAt w' b off n cap inp :=
  ⟨h.len, h.cap, h.small, fun i hi => by rw [hb.cell (p := ⟨b, off + i, none⟩) (World.block_lt_of_cell? _ _ (h.cells i hi))]; exact h.cells i hi⟩
theorem MacAt.drewN {B : Nat} {w : World} {pm : Nat} {rest : List Value} {T : Nat} {s : Cm} {sv : Value} (h : MacAt B w pm rest T s sv) (n : Nat) : MacAt B (w.drewN n) pm rest T s sv := h.below (belowDr (Below.refl _ _) n)
theorem CallAt.drewN {K : Nat → Prop} {w : World} {pm : Nat} {sv : Value} {pc pl par : Nat} {l : Lc} (h : CallAt K w pm sv pc pl par l) (n : Nat) : CallAt K (w.drewN n) pm sv pc pl par l := h.below (belowDr (Below.refl _ _) n)
end Go.Proofs.YtbdbmmdnidonjaaDoor
set_option maxRecDepth 100000
namespace Go.Proofs.YtbdbmmdnidonjaaDoor
open Go.RowKit
end Go.Proofs.YtbdbmmdnidonjaaDoor
set_option maxRecDepth 100000
namespace Go.Proofs.YtbdbmmdnidonjaaDoor
open Go.RowKit
end Go.Proofs.YtbdbmmdnidonjaaDoor
set_option maxRecDepth 100000
namespace Go.Proofs.YtbdbmmdnidonjaaDoor
open Go.RowKit
def Rs.en : Rs → Nat
  | .ret _ _ => 0
  | .stop e _ => e
def Rs.val : Rs → Nat
  | .ret v _ => v
  | .stop _ _ => 0
/-- two rows lie apart -/
def Apart2 (a b : Value) : Prop := ∀ k, a.ownBlock = some k → b.ownBlock ≠ some k
theorem saidForm {w : World} {B : Nat} {sv : Value} {xs : List Nat} (h : Said w B sv xs) : ∃ a c, sv = .slice a xs.length c := by
  rcases h.2 with ⟨h1, h2⟩ | ⟨g, cp, cur, h1, _⟩
  · exact ⟨none, 0, by rw [h1, ← h2]⟩
  · exact ⟨_, cp, h1⟩
end Go.Proofs.YtbdbmmdnidonjaaDoor
