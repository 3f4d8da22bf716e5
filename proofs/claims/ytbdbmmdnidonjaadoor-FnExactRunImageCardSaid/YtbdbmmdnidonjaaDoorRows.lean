/-
  NARROWER THAN 'FOR EVERY INPUT', by the rows' own cells (each row's printed sentence says how): FnMachJust: laid · FnExactMachSteps: laid · FnMachSteps: laid · FnExactRunMach: laid · FnExactImageValid: laid · FnExactImageTable: laid · FnExactImageSteps: laid · FnExactImageTrace: laid · FnExactRunImage: laid.
  DERIVED. THE GIVEN ROWS OF THIS SEAT. 9 by the template 'for every input the law returns true; each argument reads behind the call as it read before'; 0 by the template 'total and deterministic' (their statements: YtbdbmmdnidonjaaDoorTotals.lean).
  GIVEN WITH THE SEED: the statements are not yours to turn. If you find one false, say at which input.
  Laid BY PROGRAM, IN A SANDBOX (cutbox-rows.mjs): the forced cells as the released guide's own fill.sh prints them over the translation 3b98fb715fecf12f… (all of the seat's roots in one cut). By AI agents, Wed Nov 11 2026. No macro, syntax, notation, axiom, sorry.
-/
import Derived.Test.YtbdbmmdnidonjaaDoorChecked
import GoSem.Claim
import GoSem.ClaimJoined
import GoSem.ClaimMapViews
import Derived.JoinedTies
import Derived.KernelRfl
namespace Go.Proofs.YtbdbmmdnidonjaaDoor
/- THE CELL 'sum', in the pinned program and in every row, IS THE sha256 OF THE DUMP (.gsa) THAT YtbdbmmdnidonjaaDoorProg.lean LOADS. Nothing in Lean hashes anything: it is a label: what it is worth is what the hold of that sum in a sandbox is worth. -/
noncomputable def Tryd.pinned : Pinned := { name := "ytbdbmmdnidonjaadoor", sum := "3b98fb715fecf12fdd992362bc51e5b03734e4bd37959cc42f77ceca21c123cf", checked := Tryd.checked }
namespace Rows
def none {H : Type} : Left H := { results := [], args := [] }

/- WHAT THE LISTED PACKAGE-LEVEL VARIABLES READ AS WHEN THE CALL BEGINS. Each datum BY PROGRAM (the guide's laid-datum.mjs) off the statement by which the dump's own 'gosem.cut.vars' lays the variable. In a bare row this is a premise. The card (YtbdbmmdnidonjaaDoorCards.lean) ties it to the program's text. -/
def laid_loop_example_wholeway_impl_forms {H : Type} : DataW H := .agg [.agg [.lit (.string []), .lit (.int .i64 0)], .agg [.lit (.string [115, 101, 116]), .lit (.int .i64 9)], .agg [.lit (.string [109, 111, 118, 101]), .lit (.int .i64 3)], .agg [.lit (.string [97, 100, 100]), .lit (.int .i64 7)], .agg [.lit (.string [115, 117, 98]), .lit (.int .i64 7)], .agg [.lit (.string [109, 117, 108]), .lit (.int .i64 7)], .agg [.lit (.string [100, 105, 118]), .lit (.int .i64 7)], .agg [.lit (.string [114, 101, 109]), .lit (.int .i64 7)], .agg [.lit (.string [108, 101, 115, 115]), .lit (.int .i64 7)], .agg [.lit (.string [115, 97, 109, 101]), .lit (.int .i64 7)], .agg [.lit (.string [110, 111, 116]), .lit (.int .i64 3)], .agg [.lit (.string [108, 111, 97, 100]), .lit (.int .i64 3)], .agg [.lit (.string [115, 116, 111, 114, 101]), .lit (.int .i64 3)], .agg [.lit (.string [115, 97, 121]), .lit (.int .i64 1)], .agg [.lit (.string [99, 97, 108, 108]), .lit (.int .i64 8)], .agg [.lit (.string [107, 101, 101, 112]), .lit (.int .i64 9)], .agg [.lit (.string [116, 97, 107, 101]), .lit (.int .i64 9)], .agg [.lit (.string [103, 105, 118, 101]), .lit (.int .i64 9)], .agg [.lit (.string [102, 101, 116, 99, 104]), .lit (.int .i64 9)], .agg [.lit (.string [114, 101, 115, 117, 108, 116]), .lit (.int .i64 1)], .agg [.lit (.string [106, 117, 109, 112]), .lit (.int .i64 8)], .agg [.lit (.string [98, 114, 97, 110, 99, 104]), .lit (.int .i64 9)], .agg [.lit (.string [98, 97, 99, 107]), .lit (.int .i64 1)]]
def laid_loop_example_wholeway_impl_magic {H : Type} : DataW H := .slice [.lit (.int .u8 87), .lit (.int .u8 119)] []

/-- 'laws.FnMachJust': WHATEVER THE INPUT: true; the input reads as it did. -/
def fnMachJustSpec : ChangeSpec := { name := "fnMachJust", vars := ["loop.example/wholeway/impl.forms"], fn := fun _ => fun
  | [d, g1] => { results := [.lit (.bool true)], args := [d], vars := [g1] }
  | _ => none }
def fnMachJustRow : OpenClaim := { program := "ytbdbmmdnidonjaadoor", sum := "3b98fb715fecf12fdd992362bc51e5b03734e4bd37959cc42f77ceca21c123cf", func := "loop.example/wholeway/laws.FnMachJust", spec := "fnMachJust", unfollowed := true, recurses := true, named := ["loop.example/wholeway/impl.forms"], apart := false, laid := [("loop.example/wholeway/impl.forms", laid_loop_example_wholeway_impl_forms)] }
def FnMachJustSaid : Prop := fnMachJustRow.holds Tryd.pinned (OpenSpec.ofChange fnMachJustSpec)

/-- ITS FALSE NEIGHBOUR: 'it returns false'. Refute it at one input. -/
def fnMachJustWrong : ChangeSpec := { name := "fnMachJust", vars := ["loop.example/wholeway/impl.forms"], fn := fun _ => fun
  | [d, g1] => { results := [.lit (.bool false)], args := [d], vars := [g1] }
  | _ => none }
def FnMachJustWrongFalsely : Prop := fnMachJustRow.holds Tryd.pinned (OpenSpec.ofChange fnMachJustWrong)

/-- 'laws.FnExactMachSteps': WHATEVER THE INPUT: true; the input reads as it did. -/
def fnExactMachStepsSpec : ChangeSpec := { name := "fnExactMachSteps", vars := ["loop.example/wholeway/impl.forms"], fn := fun _ => fun
  | [d1, d2, g1] => { results := [.lit (.bool true)], args := [d1, d2], vars := [g1] }
  | _ => none }
def fnExactMachStepsRow : OpenClaim := { program := "ytbdbmmdnidonjaadoor", sum := "3b98fb715fecf12fdd992362bc51e5b03734e4bd37959cc42f77ceca21c123cf", func := "loop.example/wholeway/laws.FnExactMachSteps", spec := "fnExactMachSteps", unfollowed := true, recurses := true, named := ["loop.example/wholeway/impl.forms"], apart := false, laid := [("loop.example/wholeway/impl.forms", laid_loop_example_wholeway_impl_forms)] }
def FnExactMachStepsSaid : Prop := fnExactMachStepsRow.holds Tryd.pinned (OpenSpec.ofChange fnExactMachStepsSpec)

/-- ITS FALSE NEIGHBOUR: 'it returns false'. Refute it at one input. -/
def fnExactMachStepsWrong : ChangeSpec := { name := "fnExactMachSteps", vars := ["loop.example/wholeway/impl.forms"], fn := fun _ => fun
  | [d1, d2, g1] => { results := [.lit (.bool false)], args := [d1, d2], vars := [g1] }
  | _ => none }
def FnExactMachStepsWrongFalsely : Prop := fnExactMachStepsRow.holds Tryd.pinned (OpenSpec.ofChange fnExactMachStepsWrong)

/-- 'laws.FnMachSteps': WHATEVER THE INPUT: true; the input reads as it did. -/
def fnMachStepsSpec : ChangeSpec := { name := "fnMachSteps", vars := ["loop.example/wholeway/impl.forms"], fn := fun _ => fun
  | [d, g1] => { results := [.lit (.bool true)], args := [d], vars := [g1] }
  | _ => none }
def fnMachStepsRow : OpenClaim := { program := "ytbdbmmdnidonjaadoor", sum := "3b98fb715fecf12fdd992362bc51e5b03734e4bd37959cc42f77ceca21c123cf", func := "loop.example/wholeway/laws.FnMachSteps", spec := "fnMachSteps", unfollowed := true, recurses := true, named := ["loop.example/wholeway/impl.forms"], apart := false, laid := [("loop.example/wholeway/impl.forms", laid_loop_example_wholeway_impl_forms)] }
def FnMachStepsSaid : Prop := fnMachStepsRow.holds Tryd.pinned (OpenSpec.ofChange fnMachStepsSpec)

/-- ITS FALSE NEIGHBOUR: 'it returns false'. Refute it at one input. -/
def fnMachStepsWrong : ChangeSpec := { name := "fnMachSteps", vars := ["loop.example/wholeway/impl.forms"], fn := fun _ => fun
  | [d, g1] => { results := [.lit (.bool false)], args := [d], vars := [g1] }
  | _ => none }
def FnMachStepsWrongFalsely : Prop := fnMachStepsRow.holds Tryd.pinned (OpenSpec.ofChange fnMachStepsWrong)

/-- 'laws.FnExactRunMach': WHATEVER THE INPUT: true; the input reads as it did. -/
def fnExactRunMachSpec : ChangeSpec := { name := "fnExactRunMach", vars := ["loop.example/wholeway/impl.forms"], fn := fun _ => fun
  | [d1, d2, d3, g1] => { results := [.lit (.bool true)], args := [d1, d2, d3], vars := [g1] }
  | _ => none }
def fnExactRunMachRow : OpenClaim := { program := "ytbdbmmdnidonjaadoor", sum := "3b98fb715fecf12fdd992362bc51e5b03734e4bd37959cc42f77ceca21c123cf", func := "loop.example/wholeway/laws.FnExactRunMach", spec := "fnExactRunMach", unfollowed := true, recurses := true, named := ["loop.example/wholeway/impl.forms"], apart := false, laid := [("loop.example/wholeway/impl.forms", laid_loop_example_wholeway_impl_forms)] }
def FnExactRunMachSaid : Prop := fnExactRunMachRow.holds Tryd.pinned (OpenSpec.ofChange fnExactRunMachSpec)

/-- ITS FALSE NEIGHBOUR: 'it returns false'. Refute it at one input. -/
def fnExactRunMachWrong : ChangeSpec := { name := "fnExactRunMach", vars := ["loop.example/wholeway/impl.forms"], fn := fun _ => fun
  | [d1, d2, d3, g1] => { results := [.lit (.bool false)], args := [d1, d2, d3], vars := [g1] }
  | _ => none }
def FnExactRunMachWrongFalsely : Prop := fnExactRunMachRow.holds Tryd.pinned (OpenSpec.ofChange fnExactRunMachWrong)

/-- 'laws.FnExactImageValid': WHATEVER THE INPUT: true; the input reads as it did. -/
def fnExactImageValidSpec : ChangeSpec := { name := "fnExactImageValid", vars := ["loop.example/wholeway/impl.magic", "loop.example/wholeway/impl.forms"], fn := fun _ => fun
  | [d, g1, g2] => { results := [.lit (.bool true)], args := [d], vars := [g1, g2] }
  | _ => none }
def fnExactImageValidRow : OpenClaim := { program := "ytbdbmmdnidonjaadoor", sum := "3b98fb715fecf12fdd992362bc51e5b03734e4bd37959cc42f77ceca21c123cf", func := "loop.example/wholeway/laws.FnExactImageValid", spec := "fnExactImageValid", unfollowed := true, recurses := true, named := ["loop.example/wholeway/impl.magic", "loop.example/wholeway/impl.forms"], apart := false, laid := [("loop.example/wholeway/impl.forms", laid_loop_example_wholeway_impl_forms), ("loop.example/wholeway/impl.magic", laid_loop_example_wholeway_impl_magic)] }
def FnExactImageValidSaid : Prop := fnExactImageValidRow.holds Tryd.pinned (OpenSpec.ofChange fnExactImageValidSpec)

/-- ITS FALSE NEIGHBOUR: 'it returns false'. Refute it at one input. -/
def fnExactImageValidWrong : ChangeSpec := { name := "fnExactImageValid", vars := ["loop.example/wholeway/impl.magic", "loop.example/wholeway/impl.forms"], fn := fun _ => fun
  | [d, g1, g2] => { results := [.lit (.bool false)], args := [d], vars := [g1, g2] }
  | _ => none }
def FnExactImageValidWrongFalsely : Prop := fnExactImageValidRow.holds Tryd.pinned (OpenSpec.ofChange fnExactImageValidWrong)

/-- 'laws.FnExactImageTable': WHATEVER THE INPUT: true; the input reads as it did. -/
def fnExactImageTableSpec : ChangeSpec := { name := "fnExactImageTable", vars := ["loop.example/wholeway/impl.magic", "loop.example/wholeway/impl.forms"], fn := fun _ => fun
  | [d, g1, g2] => { results := [.lit (.bool true)], args := [d], vars := [g1, g2] }
  | _ => none }
def fnExactImageTableRow : OpenClaim := { program := "ytbdbmmdnidonjaadoor", sum := "3b98fb715fecf12fdd992362bc51e5b03734e4bd37959cc42f77ceca21c123cf", func := "loop.example/wholeway/laws.FnExactImageTable", spec := "fnExactImageTable", unfollowed := true, recurses := true, named := ["loop.example/wholeway/impl.magic", "loop.example/wholeway/impl.forms"], apart := false, laid := [("loop.example/wholeway/impl.forms", laid_loop_example_wholeway_impl_forms), ("loop.example/wholeway/impl.magic", laid_loop_example_wholeway_impl_magic)] }
def FnExactImageTableSaid : Prop := fnExactImageTableRow.holds Tryd.pinned (OpenSpec.ofChange fnExactImageTableSpec)

/-- ITS FALSE NEIGHBOUR: 'it returns false'. Refute it at one input. -/
def fnExactImageTableWrong : ChangeSpec := { name := "fnExactImageTable", vars := ["loop.example/wholeway/impl.magic", "loop.example/wholeway/impl.forms"], fn := fun _ => fun
  | [d, g1, g2] => { results := [.lit (.bool false)], args := [d], vars := [g1, g2] }
  | _ => none }
def FnExactImageTableWrongFalsely : Prop := fnExactImageTableRow.holds Tryd.pinned (OpenSpec.ofChange fnExactImageTableWrong)

/-- 'laws.FnExactImageSteps': WHATEVER THE INPUT: true; the input reads as it did. -/
def fnExactImageStepsSpec : ChangeSpec := { name := "fnExactImageSteps", vars := ["loop.example/wholeway/impl.magic", "loop.example/wholeway/impl.forms"], fn := fun _ => fun
  | [d1, d2, g1, g2] => { results := [.lit (.bool true)], args := [d1, d2], vars := [g1, g2] }
  | _ => none }
def fnExactImageStepsRow : OpenClaim := { program := "ytbdbmmdnidonjaadoor", sum := "3b98fb715fecf12fdd992362bc51e5b03734e4bd37959cc42f77ceca21c123cf", func := "loop.example/wholeway/laws.FnExactImageSteps", spec := "fnExactImageSteps", unfollowed := true, recurses := true, named := ["loop.example/wholeway/impl.magic", "loop.example/wholeway/impl.forms"], apart := false, laid := [("loop.example/wholeway/impl.forms", laid_loop_example_wholeway_impl_forms), ("loop.example/wholeway/impl.magic", laid_loop_example_wholeway_impl_magic)] }
def FnExactImageStepsSaid : Prop := fnExactImageStepsRow.holds Tryd.pinned (OpenSpec.ofChange fnExactImageStepsSpec)

/-- ITS FALSE NEIGHBOUR: 'it returns false'. Refute it at one input. -/
def fnExactImageStepsWrong : ChangeSpec := { name := "fnExactImageSteps", vars := ["loop.example/wholeway/impl.magic", "loop.example/wholeway/impl.forms"], fn := fun _ => fun
  | [d1, d2, g1, g2] => { results := [.lit (.bool false)], args := [d1, d2], vars := [g1, g2] }
  | _ => none }
def FnExactImageStepsWrongFalsely : Prop := fnExactImageStepsRow.holds Tryd.pinned (OpenSpec.ofChange fnExactImageStepsWrong)

/-- 'laws.FnExactImageTrace': WHATEVER THE INPUT: true; the input reads as it did. -/
def fnExactImageTraceSpec : ChangeSpec := { name := "fnExactImageTrace", vars := ["loop.example/wholeway/impl.magic", "loop.example/wholeway/impl.forms"], fn := fun _ => fun
  | [d1, d2, d3, g1, g2] => { results := [.lit (.bool true)], args := [d1, d2, d3], vars := [g1, g2] }
  | _ => none }
def fnExactImageTraceRow : OpenClaim := { program := "ytbdbmmdnidonjaadoor", sum := "3b98fb715fecf12fdd992362bc51e5b03734e4bd37959cc42f77ceca21c123cf", func := "loop.example/wholeway/laws.FnExactImageTrace", spec := "fnExactImageTrace", unfollowed := true, recurses := true, named := ["loop.example/wholeway/impl.magic", "loop.example/wholeway/impl.forms"], apart := false, laid := [("loop.example/wholeway/impl.forms", laid_loop_example_wholeway_impl_forms), ("loop.example/wholeway/impl.magic", laid_loop_example_wholeway_impl_magic)] }
def FnExactImageTraceSaid : Prop := fnExactImageTraceRow.holds Tryd.pinned (OpenSpec.ofChange fnExactImageTraceSpec)

/-- ITS FALSE NEIGHBOUR: 'it returns false'. Refute it at one input. -/
def fnExactImageTraceWrong : ChangeSpec := { name := "fnExactImageTrace", vars := ["loop.example/wholeway/impl.magic", "loop.example/wholeway/impl.forms"], fn := fun _ => fun
  | [d1, d2, d3, g1, g2] => { results := [.lit (.bool false)], args := [d1, d2, d3], vars := [g1, g2] }
  | _ => none }
def FnExactImageTraceWrongFalsely : Prop := fnExactImageTraceRow.holds Tryd.pinned (OpenSpec.ofChange fnExactImageTraceWrong)

/-- 'laws.FnExactRunImage': WHATEVER THE INPUT: true; the input reads as it did. -/
def fnExactRunImageSpec : ChangeSpec := { name := "fnExactRunImage", vars := ["loop.example/wholeway/impl.magic", "loop.example/wholeway/impl.forms"], fn := fun _ => fun
  | [d1, d2, d3, g1, g2] => { results := [.lit (.bool true)], args := [d1, d2, d3], vars := [g1, g2] }
  | _ => none }
def fnExactRunImageRow : OpenClaim := { program := "ytbdbmmdnidonjaadoor", sum := "3b98fb715fecf12fdd992362bc51e5b03734e4bd37959cc42f77ceca21c123cf", func := "loop.example/wholeway/laws.FnExactRunImage", spec := "fnExactRunImage", unfollowed := true, recurses := true, named := ["loop.example/wholeway/impl.magic", "loop.example/wholeway/impl.forms"], apart := false, laid := [("loop.example/wholeway/impl.forms", laid_loop_example_wholeway_impl_forms), ("loop.example/wholeway/impl.magic", laid_loop_example_wholeway_impl_magic)] }
def FnExactRunImageSaid : Prop := fnExactRunImageRow.holds Tryd.pinned (OpenSpec.ofChange fnExactRunImageSpec)

/-- ITS FALSE NEIGHBOUR: 'it returns false'. Refute it at one input. -/
def fnExactRunImageWrong : ChangeSpec := { name := "fnExactRunImage", vars := ["loop.example/wholeway/impl.magic", "loop.example/wholeway/impl.forms"], fn := fun _ => fun
  | [d1, d2, d3, g1, g2] => { results := [.lit (.bool false)], args := [d1, d2, d3], vars := [g1, g2] }
  | _ => none }
def FnExactRunImageWrongFalsely : Prop := fnExactRunImageRow.holds Tryd.pinned (OpenSpec.ofChange fnExactRunImageWrong)

/- THE SECOND FORM. 'bulk': how many values and letters a reading holds, each counted each time it is reached (what is shared counts as often as it is met; a slice's spare places count too). A statement '..UptoSaid' is the law's where the arguments, and the package variables that the reading takes, are together of bulk at most 1048576: NARROWER than '..Said'. Prove '..Said' where nothing that the law and all that it calls make is longer than what came in: it says more and counts as full. Else prove '..UptoSaid'. A law counts once. -/
mutual
def uptoBulk {H : Type} : DataW H → Nat
  | .lit (.string bytes) => bytes.length + 1
  | .lit _ => 1
  | .nil => 1
  | .ptr d => uptoBulk d + 1
  | .slice elems spare => uptoBulkAll elems + uptoBulkAll spare + 1
  | .agg parts => uptoBulkAll parts + 1
  | .iface _ d => uptoBulk d + 1
  | .map entries => uptoBulkEntries entries + 1
  | .held _ => 1
def uptoBulkAll {H : Type} : List (DataW H) → Nat
  | [] => 0
  | d :: r => uptoBulk d + uptoBulkAll r
def uptoBulkEntries {H : Type} : List (Lit × DataW H) → Nat
  | [] => 0
  | x :: r => uptoBulkEntry x + uptoBulkEntries r
def uptoBulkEntry {H : Type} : Lit × DataW H → Nat
  | (.string bytes, d) => bytes.length + uptoBulk d + 1
  | (_, d) => uptoBulk d + 1
 end
def uptoSmall : (H : Type) → List (DataW H) → Bool := fun _ ds => decide (uptoBulkAll ds ≤ 1048576)
def OpenSpec.upto (s : _root_.Go.ChangeSpec) : _root_.Go.OpenSpec := { _root_.Go.OpenSpec.ofChange s with cond := some uptoSmall }

/-- 'laws.FnMachJust', WHERE WHAT IT READS IS OF BULK AT MOST 1048576: true; the input reads as it did. -/
def fnMachJustUptoRow : OpenClaim := { program := "ytbdbmmdnidonjaadoor", sum := "3b98fb715fecf12fdd992362bc51e5b03734e4bd37959cc42f77ceca21c123cf", func := "loop.example/wholeway/laws.FnMachJust", spec := "fnMachJust", unfollowed := true, recurses := true, named := ["loop.example/wholeway/impl.forms"], apart := false, laid := [("loop.example/wholeway/impl.forms", laid_loop_example_wholeway_impl_forms)], narrowed := true }
def FnMachJustUptoSaid : Prop := fnMachJustUptoRow.holds Tryd.pinned (OpenSpec.upto fnMachJustSpec)

/-- 'laws.FnExactMachSteps', WHERE WHAT IT READS IS OF BULK AT MOST 1048576: true; the input reads as it did. -/
def fnExactMachStepsUptoRow : OpenClaim := { program := "ytbdbmmdnidonjaadoor", sum := "3b98fb715fecf12fdd992362bc51e5b03734e4bd37959cc42f77ceca21c123cf", func := "loop.example/wholeway/laws.FnExactMachSteps", spec := "fnExactMachSteps", unfollowed := true, recurses := true, named := ["loop.example/wholeway/impl.forms"], apart := false, laid := [("loop.example/wholeway/impl.forms", laid_loop_example_wholeway_impl_forms)], narrowed := true }
def FnExactMachStepsUptoSaid : Prop := fnExactMachStepsUptoRow.holds Tryd.pinned (OpenSpec.upto fnExactMachStepsSpec)

/-- 'laws.FnMachSteps', WHERE WHAT IT READS IS OF BULK AT MOST 1048576: true; the input reads as it did. -/
def fnMachStepsUptoRow : OpenClaim := { program := "ytbdbmmdnidonjaadoor", sum := "3b98fb715fecf12fdd992362bc51e5b03734e4bd37959cc42f77ceca21c123cf", func := "loop.example/wholeway/laws.FnMachSteps", spec := "fnMachSteps", unfollowed := true, recurses := true, named := ["loop.example/wholeway/impl.forms"], apart := false, laid := [("loop.example/wholeway/impl.forms", laid_loop_example_wholeway_impl_forms)], narrowed := true }
def FnMachStepsUptoSaid : Prop := fnMachStepsUptoRow.holds Tryd.pinned (OpenSpec.upto fnMachStepsSpec)

/-- 'laws.FnExactRunMach', WHERE WHAT IT READS IS OF BULK AT MOST 1048576: true; the input reads as it did. -/
def fnExactRunMachUptoRow : OpenClaim := { program := "ytbdbmmdnidonjaadoor", sum := "3b98fb715fecf12fdd992362bc51e5b03734e4bd37959cc42f77ceca21c123cf", func := "loop.example/wholeway/laws.FnExactRunMach", spec := "fnExactRunMach", unfollowed := true, recurses := true, named := ["loop.example/wholeway/impl.forms"], apart := false, laid := [("loop.example/wholeway/impl.forms", laid_loop_example_wholeway_impl_forms)], narrowed := true }
def FnExactRunMachUptoSaid : Prop := fnExactRunMachUptoRow.holds Tryd.pinned (OpenSpec.upto fnExactRunMachSpec)

/-- 'laws.FnExactImageValid', WHERE WHAT IT READS IS OF BULK AT MOST 1048576: true; the input reads as it did. -/
def fnExactImageValidUptoRow : OpenClaim := { program := "ytbdbmmdnidonjaadoor", sum := "3b98fb715fecf12fdd992362bc51e5b03734e4bd37959cc42f77ceca21c123cf", func := "loop.example/wholeway/laws.FnExactImageValid", spec := "fnExactImageValid", unfollowed := true, recurses := true, named := ["loop.example/wholeway/impl.magic", "loop.example/wholeway/impl.forms"], apart := false, laid := [("loop.example/wholeway/impl.forms", laid_loop_example_wholeway_impl_forms), ("loop.example/wholeway/impl.magic", laid_loop_example_wholeway_impl_magic)], narrowed := true }
def FnExactImageValidUptoSaid : Prop := fnExactImageValidUptoRow.holds Tryd.pinned (OpenSpec.upto fnExactImageValidSpec)

/-- 'laws.FnExactImageTable', WHERE WHAT IT READS IS OF BULK AT MOST 1048576: true; the input reads as it did. -/
def fnExactImageTableUptoRow : OpenClaim := { program := "ytbdbmmdnidonjaadoor", sum := "3b98fb715fecf12fdd992362bc51e5b03734e4bd37959cc42f77ceca21c123cf", func := "loop.example/wholeway/laws.FnExactImageTable", spec := "fnExactImageTable", unfollowed := true, recurses := true, named := ["loop.example/wholeway/impl.magic", "loop.example/wholeway/impl.forms"], apart := false, laid := [("loop.example/wholeway/impl.forms", laid_loop_example_wholeway_impl_forms), ("loop.example/wholeway/impl.magic", laid_loop_example_wholeway_impl_magic)], narrowed := true }
def FnExactImageTableUptoSaid : Prop := fnExactImageTableUptoRow.holds Tryd.pinned (OpenSpec.upto fnExactImageTableSpec)

/-- 'laws.FnExactImageSteps', WHERE WHAT IT READS IS OF BULK AT MOST 1048576: true; the input reads as it did. -/
def fnExactImageStepsUptoRow : OpenClaim := { program := "ytbdbmmdnidonjaadoor", sum := "3b98fb715fecf12fdd992362bc51e5b03734e4bd37959cc42f77ceca21c123cf", func := "loop.example/wholeway/laws.FnExactImageSteps", spec := "fnExactImageSteps", unfollowed := true, recurses := true, named := ["loop.example/wholeway/impl.magic", "loop.example/wholeway/impl.forms"], apart := false, laid := [("loop.example/wholeway/impl.forms", laid_loop_example_wholeway_impl_forms), ("loop.example/wholeway/impl.magic", laid_loop_example_wholeway_impl_magic)], narrowed := true }
def FnExactImageStepsUptoSaid : Prop := fnExactImageStepsUptoRow.holds Tryd.pinned (OpenSpec.upto fnExactImageStepsSpec)

/-- 'laws.FnExactImageTrace', WHERE WHAT IT READS IS OF BULK AT MOST 1048576: true; the input reads as it did. -/
def fnExactImageTraceUptoRow : OpenClaim := { program := "ytbdbmmdnidonjaadoor", sum := "3b98fb715fecf12fdd992362bc51e5b03734e4bd37959cc42f77ceca21c123cf", func := "loop.example/wholeway/laws.FnExactImageTrace", spec := "fnExactImageTrace", unfollowed := true, recurses := true, named := ["loop.example/wholeway/impl.magic", "loop.example/wholeway/impl.forms"], apart := false, laid := [("loop.example/wholeway/impl.forms", laid_loop_example_wholeway_impl_forms), ("loop.example/wholeway/impl.magic", laid_loop_example_wholeway_impl_magic)], narrowed := true }
def FnExactImageTraceUptoSaid : Prop := fnExactImageTraceUptoRow.holds Tryd.pinned (OpenSpec.upto fnExactImageTraceSpec)

/-- 'laws.FnExactRunImage', WHERE WHAT IT READS IS OF BULK AT MOST 1048576: true; the input reads as it did. -/
def fnExactRunImageUptoRow : OpenClaim := { program := "ytbdbmmdnidonjaadoor", sum := "3b98fb715fecf12fdd992362bc51e5b03734e4bd37959cc42f77ceca21c123cf", func := "loop.example/wholeway/laws.FnExactRunImage", spec := "fnExactRunImage", unfollowed := true, recurses := true, named := ["loop.example/wholeway/impl.magic", "loop.example/wholeway/impl.forms"], apart := false, laid := [("loop.example/wholeway/impl.forms", laid_loop_example_wholeway_impl_forms), ("loop.example/wholeway/impl.magic", laid_loop_example_wholeway_impl_magic)], narrowed := true }
def FnExactRunImageUptoSaid : Prop := fnExactRunImageUptoRow.holds Tryd.pinned (OpenSpec.upto fnExactRunImageSpec)

end Rows
end Go.Proofs.YtbdbmmdnidonjaaDoor
