/- A call of a function of the machine in spec: what its beginning makes. A call within a call of the machine, in spec: plain at op 14. And copy into a row. A call of a function of the machine in spec: the walk. -/
import Derived.Test.YtbdbmmdnidonjaaDoorTJc
import Derived.Test.YtbdbmmdnidonjaaDoorTJe
import Derived.Test.YtbdbmmdnidonjaaDoorTJg
import Derived.Test.YtbdbmmdnidonjaaDoorTJh
import Derived.Laws.CopyOwn
import Derived.Deep.CutRange
import Derived.Test.YtbdbmmdnidonjaaDoorTJi
import Derived.Deep.RegionLaw
set_option linter.unusedVariables false
set_option linter.unusedSimpArgs false
set_option maxRecDepth 100000
namespace Go.Proofs.YtbdbmmdnidonjaaDoor
open Go.RowKit
theorem Blk.setRow {w : World} {p : Nat} {xs : List Value} (h : Blk w p xs) (cs : Array Value) : Blk (w.setRow p cs) p cs.toList := by
  obtain ⟨cur, t, h, _⟩ := h
  exact ⟨cs, t, by simp [World.setRow, Array.getElem?_modify, h], rfl⟩
end Go.Proofs.YtbdbmmdnidonjaaDoor
set_option maxRecDepth 100000
namespace Go.Proofs.YtbdbmmdnidonjaaDoor
open Go.RowKit
end Go.Proofs.YtbdbmmdnidonjaaDoor
set_option maxRecDepth 100000
namespace Go.Proofs.YtbdbmmdnidonjaaDoor
open Go.RowKit
end Go.Proofs.YtbdbmmdnidonjaaDoor
