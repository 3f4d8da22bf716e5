/- An instruction that goes on behind it: impl's do, those that set a register. An instruction that goes on behind it: impl's do, those that call, store or say. An instruction that goes on behind it: impl's do: stops, say, arithmetic; and all of them. An instruction that goes on behind it: impl's do, arithmetic; and all of them. -/
import Derived.Test.YtbdbmmdnidonjaaDoorTJc
import Derived.Deep.RegionLaw
import Derived.BigRegion
import Derived.Test.YtbdbmmdnidonjaaDoorTJd
import Derived.Deep.AppendLies
set_option linter.unusedVariables false
set_option linter.unusedSimpArgs false
set_option maxRecDepth 100000
namespace Go.Proofs.YtbdbmmdnidonjaaDoor
open Go.RowKit
variable {K : Nat → Prop}
section
variable {B pm : Nat} {rest : List Value} {T pc pl par : Nat} {x : Ni} {l : Lc} {s : Cm} {sv : Value} {w w' : World}
end
variable {slo : Nat}
variable {slo : Nat}
variable {slo : Nat}
variable {slo : Nat}
variable {slo : Nat}
variable {slo : Nat}
variable {slo : Nat}
variable {slo : Nat}
variable {slo : Nat}
variable {slo : Nat}
variable {slo : Nat}
variable {slo : Nat}
variable {slo : Nat}
variable {slo : Nat}
variable {slo : Nat}
end Go.Proofs.YtbdbmmdnidonjaaDoor
set_option maxRecDepth 100000
namespace Go.Proofs.YtbdbmmdnidonjaaDoor
open Go.RowKit
variable {K : Nat → Prop}
section
variable {B pm : Nat} {rest : List Value} {T pc pl par : Nat} {x : Ni} {l : Lc} {s : Cm} {sv : Value} {w w' : World}
end
variable {slo : Nat}
end Go.Proofs.YtbdbmmdnidonjaaDoor
set_option maxRecDepth 100000
namespace Go.Proofs.YtbdbmmdnidonjaaDoor
open Go.RowKit
variable {K : Nat → Prop}
variable {slo : Nat}
/-- blocks that stood at w, but for the said row's, are as they were -/
def Keep (w : World) (sv : Value) (W : World) : Prop := w.heap.size ≤ W.heap.size ∧ ∀ q, q < w.heap.size → sv.ownBlock ≠ some q → W.heap[q]? = w.heap[q]?
theorem Keep.cell {w : World} {sv : Value} {W : World} (h : Keep w sv W) {b j : Nat} {v : Value} (hv : w.cell? ⟨b, j, none⟩ = some v) (hs : sv.ownBlock ≠ some b) : W.cell? ⟨b, j, none⟩ = some v :=
  (World.cell?_of_block (a := ⟨b, j, none⟩) (h.2 b (World.block_lt_of_cell? _ _ hv) hs)).trans hv
theorem Keep.frozen {w : World} {sv : Value} {W : World} (h : Keep w sv W) {b j : Nat} {f : Bool} (hv : w.frozen? ⟨b, j, none⟩ = f) (hlt : b < w.heap.size) (hs : sv.ownBlock ≠ some b) : W.frozen? ⟨b, j, none⟩ = f :=
  (World.frozen?_of_block (a := ⟨b, j, none⟩) (h.2 b hlt hs)).trans hv
theorem Keep.refl (w : World) (sv : Value) : Keep w sv w := ⟨Nat.le_refl _, fun _ _ _ => rfl⟩
theorem Keep.drew {w : World} {sv : Value} {W : World} (h : Keep w sv W) : Keep w sv W.drew := h
theorem Keep.alloc {w : World} {sv : Value} {W : World} (h : Keep w sv W) (o : Obj) : Keep w sv (W.alloc o) :=
  ⟨by have := h.1; simp; omega, fun q hq hs => by rw [Below.heap_alloc _ _ _ (by have := h.1; omega)]; exact h.2 q hq hs⟩
theorem Keep.grown {w : World} {sv : Value} {W W' : World} (h : Keep w sv W) (hg : W.grownBy W' sv.ownBlock) : Keep w sv W' :=
  ⟨Nat.le_trans h.1 hg.size, fun q hq hs => by rw [hg.block q (by have := h.1; omega) (fun e => hs e.symm)]; exact h.2 q hq hs⟩
end Go.Proofs.YtbdbmmdnidonjaaDoor
set_option maxRecDepth 100000
namespace Go.Proofs.YtbdbmmdnidonjaaDoor
open Go.RowKit
variable {K : Nat → Prop}
variable {slo : Nat}
theorem belowDr {B : Nat} {a w : World} (h : Below B a w) (n : Nat) : Below B a (w.drewN n) := h.trans ⟨rfl, rfl, rfl, Nat.le_refl _, fun _ _ => rfl⟩
end Go.Proofs.YtbdbmmdnidonjaaDoor
