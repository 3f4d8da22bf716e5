/- A call of a function of the machine begins: impl's newCall, slices.Clone. A call of a function of the machine begins: impl's newCall. A run of a function of the machine: impl's run. -/
import Derived.Test.YtbdbmmdnidonjaaDoorTJc
import Derived.Deep.RegionLaw
import Derived.Test.YtbdbmmdnidonjaaDoorTJe
set_option linter.unusedVariables false
set_option linter.unusedSimpArgs false
set_option maxRecDepth 100000
namespace Go.Proofs.YtbdbmmdnidonjaaDoor
open Go.RowKit
end Go.Proofs.YtbdbmmdnidonjaaDoor
set_option maxRecDepth 100000
namespace Go.Proofs.YtbdbmmdnidonjaaDoor
open Go.RowKit
/-- numbers that are handed in: a row of somebody's -/
structure SrcAt (w : World) (b off n cap : Nat) (inp : List Nat) : Prop where
  len : inp.length = n
  cap : n ≤ cap
  small : n ≤ 1048576
  cells : ∀ i, i < n → w.cell? ⟨b, off + i, none⟩ = some (.int .i64 ((inp.getD i 0 : Nat) : Int))
end Go.Proofs.YtbdbmmdnidonjaaDoor
set_option maxRecDepth 100000
namespace Go.Proofs.YtbdbmmdnidonjaaDoor
open Go.RowKit
end Go.Proofs.YtbdbmmdnidonjaaDoor
