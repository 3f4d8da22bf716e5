/-
  DERIVED. GIVEN WITH THE SEED: THE CARDS: each row of YtkpkgengdcleiaaDoorRows.lean that lists a variable, with what it lists TIED to the program's text (the seventh form; the later family's looks); each row that meets fmt, with fmt's text TOLD by the authors' own Lean function (tested against real Go, not proved from fmt's source: count such statements apart). THE CARD IS WHAT COUNTS. Prove the row's statement (the work); the ties are given (YtkpkgengdcleiaaDoorTie.lean); close each card by the builder's one call (the guide's Derived/Test/ToyasCard.lean, 'card_holds'). Laid BY PROGRAM, IN A SANDBOX (cutbox-door.mjs). By AI agents, Wed Nov 11 2026. No macro, syntax, notation, axiom, sorry.
-/
import Derived.Test.YtkpkgengdcleiaaDoorRows
import GoSem.ClaimSeven
namespace Go.Proofs.YtkpkgengdcleiaaDoor
namespace Rows

/-- THE TIED CARD OF 'laws.FnExactIntsText'. -/
def fnExactIntsTextCard : Claim7 := { stood := { row := fnExactIntsTextRow, standIns := [], harness := (true, "e295272d7bd03a811b3d19cd8bb5fe8775226409de26cdebea9dadb16051a1a4"), looks := true }, kinds := [], alts := [], laidByText := true, laidKinds := [.data, .data, .data], laidTests := true, laidLooks := .later }
def FnExactIntsTextCardSaid : Prop := Claim7.holds Tryd.pinned (.plain (OpenSpec.ofChange fnExactIntsTextSpec)) fnExactIntsTextCard

/-- THE TIED CARD OF 'laws.FnExactReadInts'. -/
def fnExactReadIntsCard : Claim7 := { stood := { row := fnExactReadIntsRow, standIns := [], harness := (true, "e295272d7bd03a811b3d19cd8bb5fe8775226409de26cdebea9dadb16051a1a4"), looks := true }, kinds := [], alts := [], laidByText := true, laidKinds := [.data, .data, .data, .data, .sentinel, .sentinel, .pinned], laidTests := true, laidLooks := .later }
def FnExactReadIntsCardSaid : Prop := Claim7.holds Tryd.pinned (.plain (OpenSpec.ofChange fnExactReadIntsSpec)) fnExactReadIntsCard

/-- THE TIED CARD OF 'laws.FnReadInts'. -/
def fnReadIntsCard : Claim7 := { stood := { row := fnReadIntsRow, standIns := [], harness := (true, "e295272d7bd03a811b3d19cd8bb5fe8775226409de26cdebea9dadb16051a1a4"), looks := true }, kinds := [], alts := [], laidByText := true, laidKinds := [.data, .data, .data, .data, .sentinel, .sentinel, .pinned], laidTests := true, laidLooks := .later }
def FnReadIntsCardSaid : Prop := Claim7.holds Tryd.pinned (.plain (OpenSpec.ofChange fnReadIntsSpec)) fnReadIntsCard

/-- THE SECOND FORM's CARD OF 'laws.FnExactIntsText'. -/
def fnExactIntsTextUptoCard : Claim7 := { stood := { row := fnExactIntsTextUptoRow, standIns := [], harness := (true, "e295272d7bd03a811b3d19cd8bb5fe8775226409de26cdebea9dadb16051a1a4"), looks := true }, kinds := [], alts := [], laidByText := true, laidKinds := [.data, .data, .data], laidTests := true, laidLooks := .later }
def FnExactIntsTextUptoCardSaid : Prop := Claim7.holds Tryd.pinned (.plain (OpenSpec.upto fnExactIntsTextSpec)) fnExactIntsTextUptoCard

/-- THE SECOND FORM's CARD OF 'laws.FnExactReadInts'. -/
def fnExactReadIntsUptoCard : Claim7 := { stood := { row := fnExactReadIntsUptoRow, standIns := [], harness := (true, "e295272d7bd03a811b3d19cd8bb5fe8775226409de26cdebea9dadb16051a1a4"), looks := true }, kinds := [], alts := [], laidByText := true, laidKinds := [.data, .data, .data, .data, .sentinel, .sentinel, .pinned], laidTests := true, laidLooks := .later }
def FnExactReadIntsUptoCardSaid : Prop := Claim7.holds Tryd.pinned (.plain (OpenSpec.upto fnExactReadIntsSpec)) fnExactReadIntsUptoCard

/-- THE SECOND FORM's CARD OF 'laws.FnReadInts'. -/
def fnReadIntsUptoCard : Claim7 := { stood := { row := fnReadIntsUptoRow, standIns := [], harness := (true, "e295272d7bd03a811b3d19cd8bb5fe8775226409de26cdebea9dadb16051a1a4"), looks := true }, kinds := [], alts := [], laidByText := true, laidKinds := [.data, .data, .data, .data, .sentinel, .sentinel, .pinned], laidTests := true, laidLooks := .later }
def FnReadIntsUptoCardSaid : Prop := Claim7.holds Tryd.pinned (.plain (OpenSpec.upto fnReadIntsSpec)) fnReadIntsUptoCard
end Rows
end Go.Proofs.YtkpkgengdcleiaaDoor
