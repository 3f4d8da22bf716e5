/-
  DERIVED. GIVEN WITH THE SEED: THE CARDS: each row of YtbdbmmdnidonjaaDoorRows.lean that lists a variable, with what it lists TIED to the program's text (the seventh form; the later family's looks); each row that meets fmt, with fmt's text TOLD by the authors' own Lean function (tested against real Go, not proved from fmt's source: count such statements apart). THE CARD IS WHAT COUNTS. Prove the row's statement (the work); the ties are given (YtbdbmmdnidonjaaDoorTie.lean); close each card by the builder's one call (the guide's Derived/Test/ToyasCard.lean, 'card_holds'). Laid BY PROGRAM, IN A SANDBOX (cutbox-door.mjs). By AI agents, Wed Nov 11 2026. No macro, syntax, notation, axiom, sorry.
-/
import Derived.Test.YtbdbmmdnidonjaaDoorRows
import GoSem.ClaimSeven
namespace Go.Proofs.YtbdbmmdnidonjaaDoor
namespace Rows

/-- THE TIED CARD OF 'laws.FnMachJust'. -/
def fnMachJustCard : Claim7 := { stood := { row := fnMachJustRow, standIns := [], harness := (true, "95a4a117c23d12056f0e46122ccb0f6b90c759873b6cd9ee44719d8aa4ecb56a"), looks := true }, kinds := [], alts := [], laidByText := true, laidKinds := [.widerDeep], laidTests := true, laidLooks := .later }
def FnMachJustCardSaid : Prop := Claim7.holds Tryd.pinned (.plain (OpenSpec.ofChange fnMachJustSpec)) fnMachJustCard

/-- THE TIED CARD OF 'laws.FnExactMachSteps'. -/
def fnExactMachStepsCard : Claim7 := { stood := { row := fnExactMachStepsRow, standIns := [], harness := (true, "95a4a117c23d12056f0e46122ccb0f6b90c759873b6cd9ee44719d8aa4ecb56a"), looks := true }, kinds := [], alts := [], laidByText := true, laidKinds := [.widerDeep], laidTests := true, laidLooks := .later }
def FnExactMachStepsCardSaid : Prop := Claim7.holds Tryd.pinned (.plain (OpenSpec.ofChange fnExactMachStepsSpec)) fnExactMachStepsCard

/-- THE TIED CARD OF 'laws.FnMachSteps'. -/
def fnMachStepsCard : Claim7 := { stood := { row := fnMachStepsRow, standIns := [], harness := (true, "95a4a117c23d12056f0e46122ccb0f6b90c759873b6cd9ee44719d8aa4ecb56a"), looks := true }, kinds := [], alts := [], laidByText := true, laidKinds := [.widerDeep], laidTests := true, laidLooks := .later }
def FnMachStepsCardSaid : Prop := Claim7.holds Tryd.pinned (.plain (OpenSpec.ofChange fnMachStepsSpec)) fnMachStepsCard

/-- THE TIED CARD OF 'laws.FnExactRunMach'. -/
def fnExactRunMachCard : Claim7 := { stood := { row := fnExactRunMachRow, standIns := [], harness := (true, "95a4a117c23d12056f0e46122ccb0f6b90c759873b6cd9ee44719d8aa4ecb56a"), looks := true }, kinds := [], alts := [], laidByText := true, laidKinds := [.widerDeep], laidTests := true, laidLooks := .later }
def FnExactRunMachCardSaid : Prop := Claim7.holds Tryd.pinned (.plain (OpenSpec.ofChange fnExactRunMachSpec)) fnExactRunMachCard

/-- THE TIED CARD OF 'laws.FnExactImageValid'. -/
def fnExactImageValidCard : Claim7 := { stood := { row := fnExactImageValidRow, standIns := [], harness := (true, "95a4a117c23d12056f0e46122ccb0f6b90c759873b6cd9ee44719d8aa4ecb56a"), looks := true }, kinds := [], alts := [], laidByText := true, laidKinds := [.widerDeep, .widerDeep], laidTests := true, laidLooks := .later }
def FnExactImageValidCardSaid : Prop := Claim7.holds Tryd.pinned (.plain (OpenSpec.ofChange fnExactImageValidSpec)) fnExactImageValidCard

/-- THE TIED CARD OF 'laws.FnExactImageTable'. -/
def fnExactImageTableCard : Claim7 := { stood := { row := fnExactImageTableRow, standIns := [], harness := (true, "95a4a117c23d12056f0e46122ccb0f6b90c759873b6cd9ee44719d8aa4ecb56a"), looks := true }, kinds := [], alts := [], laidByText := true, laidKinds := [.widerDeep, .widerDeep], laidTests := true, laidLooks := .later }
def FnExactImageTableCardSaid : Prop := Claim7.holds Tryd.pinned (.plain (OpenSpec.ofChange fnExactImageTableSpec)) fnExactImageTableCard

/-- THE TIED CARD OF 'laws.FnExactImageSteps'. -/
def fnExactImageStepsCard : Claim7 := { stood := { row := fnExactImageStepsRow, standIns := [], harness := (true, "95a4a117c23d12056f0e46122ccb0f6b90c759873b6cd9ee44719d8aa4ecb56a"), looks := true }, kinds := [], alts := [], laidByText := true, laidKinds := [.widerDeep, .widerDeep], laidTests := true, laidLooks := .later }
def FnExactImageStepsCardSaid : Prop := Claim7.holds Tryd.pinned (.plain (OpenSpec.ofChange fnExactImageStepsSpec)) fnExactImageStepsCard

/-- THE TIED CARD OF 'laws.FnExactImageTrace'. -/
def fnExactImageTraceCard : Claim7 := { stood := { row := fnExactImageTraceRow, standIns := [], harness := (true, "95a4a117c23d12056f0e46122ccb0f6b90c759873b6cd9ee44719d8aa4ecb56a"), looks := true }, kinds := [], alts := [], laidByText := true, laidKinds := [.widerDeep, .widerDeep], laidTests := true, laidLooks := .later }
def FnExactImageTraceCardSaid : Prop := Claim7.holds Tryd.pinned (.plain (OpenSpec.ofChange fnExactImageTraceSpec)) fnExactImageTraceCard

/-- THE TIED CARD OF 'laws.FnExactRunImage'. -/
def fnExactRunImageCard : Claim7 := { stood := { row := fnExactRunImageRow, standIns := [], harness := (true, "95a4a117c23d12056f0e46122ccb0f6b90c759873b6cd9ee44719d8aa4ecb56a"), looks := true }, kinds := [], alts := [], laidByText := true, laidKinds := [.widerDeep, .widerDeep], laidTests := true, laidLooks := .later }
def FnExactRunImageCardSaid : Prop := Claim7.holds Tryd.pinned (.plain (OpenSpec.ofChange fnExactRunImageSpec)) fnExactRunImageCard

/-- THE SECOND FORM's CARD OF 'laws.FnMachJust'. -/
def fnMachJustUptoCard : Claim7 := { stood := { row := fnMachJustUptoRow, standIns := [], harness := (true, "95a4a117c23d12056f0e46122ccb0f6b90c759873b6cd9ee44719d8aa4ecb56a"), looks := true }, kinds := [], alts := [], laidByText := true, laidKinds := [.widerDeep], laidTests := true, laidLooks := .later }
def FnMachJustUptoCardSaid : Prop := Claim7.holds Tryd.pinned (.plain (OpenSpec.upto fnMachJustSpec)) fnMachJustUptoCard

/-- THE SECOND FORM's CARD OF 'laws.FnExactMachSteps'. -/
def fnExactMachStepsUptoCard : Claim7 := { stood := { row := fnExactMachStepsUptoRow, standIns := [], harness := (true, "95a4a117c23d12056f0e46122ccb0f6b90c759873b6cd9ee44719d8aa4ecb56a"), looks := true }, kinds := [], alts := [], laidByText := true, laidKinds := [.widerDeep], laidTests := true, laidLooks := .later }
def FnExactMachStepsUptoCardSaid : Prop := Claim7.holds Tryd.pinned (.plain (OpenSpec.upto fnExactMachStepsSpec)) fnExactMachStepsUptoCard

/-- THE SECOND FORM's CARD OF 'laws.FnMachSteps'. -/
def fnMachStepsUptoCard : Claim7 := { stood := { row := fnMachStepsUptoRow, standIns := [], harness := (true, "95a4a117c23d12056f0e46122ccb0f6b90c759873b6cd9ee44719d8aa4ecb56a"), looks := true }, kinds := [], alts := [], laidByText := true, laidKinds := [.widerDeep], laidTests := true, laidLooks := .later }
def FnMachStepsUptoCardSaid : Prop := Claim7.holds Tryd.pinned (.plain (OpenSpec.upto fnMachStepsSpec)) fnMachStepsUptoCard

/-- THE SECOND FORM's CARD OF 'laws.FnExactRunMach'. -/
def fnExactRunMachUptoCard : Claim7 := { stood := { row := fnExactRunMachUptoRow, standIns := [], harness := (true, "95a4a117c23d12056f0e46122ccb0f6b90c759873b6cd9ee44719d8aa4ecb56a"), looks := true }, kinds := [], alts := [], laidByText := true, laidKinds := [.widerDeep], laidTests := true, laidLooks := .later }
def FnExactRunMachUptoCardSaid : Prop := Claim7.holds Tryd.pinned (.plain (OpenSpec.upto fnExactRunMachSpec)) fnExactRunMachUptoCard

/-- THE SECOND FORM's CARD OF 'laws.FnExactImageValid'. -/
def fnExactImageValidUptoCard : Claim7 := { stood := { row := fnExactImageValidUptoRow, standIns := [], harness := (true, "95a4a117c23d12056f0e46122ccb0f6b90c759873b6cd9ee44719d8aa4ecb56a"), looks := true }, kinds := [], alts := [], laidByText := true, laidKinds := [.widerDeep, .widerDeep], laidTests := true, laidLooks := .later }
def FnExactImageValidUptoCardSaid : Prop := Claim7.holds Tryd.pinned (.plain (OpenSpec.upto fnExactImageValidSpec)) fnExactImageValidUptoCard

/-- THE SECOND FORM's CARD OF 'laws.FnExactImageTable'. -/
def fnExactImageTableUptoCard : Claim7 := { stood := { row := fnExactImageTableUptoRow, standIns := [], harness := (true, "95a4a117c23d12056f0e46122ccb0f6b90c759873b6cd9ee44719d8aa4ecb56a"), looks := true }, kinds := [], alts := [], laidByText := true, laidKinds := [.widerDeep, .widerDeep], laidTests := true, laidLooks := .later }
def FnExactImageTableUptoCardSaid : Prop := Claim7.holds Tryd.pinned (.plain (OpenSpec.upto fnExactImageTableSpec)) fnExactImageTableUptoCard

/-- THE SECOND FORM's CARD OF 'laws.FnExactImageSteps'. -/
def fnExactImageStepsUptoCard : Claim7 := { stood := { row := fnExactImageStepsUptoRow, standIns := [], harness := (true, "95a4a117c23d12056f0e46122ccb0f6b90c759873b6cd9ee44719d8aa4ecb56a"), looks := true }, kinds := [], alts := [], laidByText := true, laidKinds := [.widerDeep, .widerDeep], laidTests := true, laidLooks := .later }
def FnExactImageStepsUptoCardSaid : Prop := Claim7.holds Tryd.pinned (.plain (OpenSpec.upto fnExactImageStepsSpec)) fnExactImageStepsUptoCard

/-- THE SECOND FORM's CARD OF 'laws.FnExactImageTrace'. -/
def fnExactImageTraceUptoCard : Claim7 := { stood := { row := fnExactImageTraceUptoRow, standIns := [], harness := (true, "95a4a117c23d12056f0e46122ccb0f6b90c759873b6cd9ee44719d8aa4ecb56a"), looks := true }, kinds := [], alts := [], laidByText := true, laidKinds := [.widerDeep, .widerDeep], laidTests := true, laidLooks := .later }
def FnExactImageTraceUptoCardSaid : Prop := Claim7.holds Tryd.pinned (.plain (OpenSpec.upto fnExactImageTraceSpec)) fnExactImageTraceUptoCard

/-- THE SECOND FORM's CARD OF 'laws.FnExactRunImage'. -/
def fnExactRunImageUptoCard : Claim7 := { stood := { row := fnExactRunImageUptoRow, standIns := [], harness := (true, "95a4a117c23d12056f0e46122ccb0f6b90c759873b6cd9ee44719d8aa4ecb56a"), looks := true }, kinds := [], alts := [], laidByText := true, laidKinds := [.widerDeep, .widerDeep], laidTests := true, laidLooks := .later }
def FnExactRunImageUptoCardSaid : Prop := Claim7.holds Tryd.pinned (.plain (OpenSpec.upto fnExactRunImageSpec)) fnExactRunImageUptoCard
end Rows
end Go.Proofs.YtbdbmmdnidonjaaDoor
