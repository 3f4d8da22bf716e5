/- One instruction of bytes, on impl's side: decoded. -/
import Derived.Test.YtbdbmmdnidonjaaDoorUDia
import Derived.Test.YtbdbmmdnidonjaaDoorUDib
import Derived.Test.YtbdbmmdnidonjaaDoorUDic
set_option linter.unusedVariables false
set_option linter.unusedSimpArgs false
set_option maxRecDepth 100000
namespace Go.Proofs.YtbdbmmdnidonjaaDoor
open Go.RowKit
theorem idec_any (w : World) (v : Value) (cs : List Nat) (at_ : Nat) (h : CsC w v cs) (hlt : at_ < cs.length) (hle : cs.length ≤ 1048576) :
  Calls Tryd.prog 119 #[v, .int .i64 (at_ : Int)] w (IdecP cs at_ w) := by
 cases hl : decide (128 ≤ byteN cs at_) with
 |true => exact idec_c w v cs at_ h hlt hle hl
 |false =>
  by_cases h5 : shN (byteN cs at_ % 128) = 5
  ·exact idec_a w v cs at_ h hlt hle ⟨hl, h5⟩
  ·exact idec_b w v cs at_ h hlt hle ⟨hl, h5⟩
end Go.Proofs.YtbdbmmdnidonjaaDoor
