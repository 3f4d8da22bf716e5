/-
  DERIVED. GIVEN WITH THE SEED: THE CARDS: each row of YtpnliencahnmoaaGreatDoorRows.lean that lists a variable, with what it lists TIED to the program's text (the seventh form; the later family's looks); each row that meets fmt, with fmt's text TOLD by the authors' own Lean function (tested against real Go, not proved from fmt's source: count such statements apart). THE CARD IS WHAT COUNTS. Prove the row's statement (the work); the ties are given (YtpnliencahnmoaaGreatDoorTie.lean); close each card by the builder's one call (the guide's Derived/Test/ToyasCard.lean, 'card_holds'). Laid BY PROGRAM, IN A SANDBOX (cutbox-door.mjs). By AI agents, Wed Nov 11 2026. No macro, syntax, notation, axiom, sorry.
-/
import Derived.Test.YtpnliencahnmoaaGreatDoorRows
import GoSem.ClaimSeven
namespace Go.Proofs.YtpnliencahnmoaaGreatDoor
namespace Rows

/-- THE TIED CARD OF 'laws.FnExactApartOn'. -/
def fnExactApartOnCard : Claim7 := { stood := { row := fnExactApartOnRow, standIns := [], harness := (true, "d0223a8f9802ce7b01bcf64268b6c22737cde0d3a8c181b3eb91f9865c5a57b0"), looks := true }, kinds := [], alts := [], laidByText := true, laidKinds := [.widerDeep, .mapped, .data], laidTests := true, laidLooks := .later }
def FnExactApartOnCardSaid : Prop := Claim7.holds Tryz.pinned (.plain (OpenSpec.ofChange fnExactApartOnSpec)) fnExactApartOnCard

/-- THE TIED CARD OF 'laws.FnApart'. -/
def fnApartCard : Claim7 := { stood := { row := fnApartRow, standIns := [], harness := (true, "d0223a8f9802ce7b01bcf64268b6c22737cde0d3a8c181b3eb91f9865c5a57b0"), looks := true }, kinds := [], alts := [], laidByText := true, laidKinds := [.widerDeep, .mapped, .data], laidTests := true, laidLooks := .later }
def FnApartCardSaid : Prop := Claim7.holds Tryz.pinned (.plain (OpenSpec.ofChange fnApartSpec)) fnApartCard

/-- THE SECOND FORM's CARD OF 'laws.FnExactApartOn'. -/
def fnExactApartOnUptoCard : Claim7 := { stood := { row := fnExactApartOnUptoRow, standIns := [], harness := (true, "d0223a8f9802ce7b01bcf64268b6c22737cde0d3a8c181b3eb91f9865c5a57b0"), looks := true }, kinds := [], alts := [], laidByText := true, laidKinds := [.widerDeep, .mapped, .data], laidTests := true, laidLooks := .later }
def FnExactApartOnUptoCardSaid : Prop := Claim7.holds Tryz.pinned (.plain (OpenSpec.upto fnExactApartOnSpec)) fnExactApartOnUptoCard

/-- THE SECOND FORM's CARD OF 'laws.FnApart'. -/
def fnApartUptoCard : Claim7 := { stood := { row := fnApartUptoRow, standIns := [], harness := (true, "d0223a8f9802ce7b01bcf64268b6c22737cde0d3a8c181b3eb91f9865c5a57b0"), looks := true }, kinds := [], alts := [], laidByText := true, laidKinds := [.widerDeep, .mapped, .data], laidTests := true, laidLooks := .later }
def FnApartUptoCardSaid : Prop := Claim7.holds Tryz.pinned (.plain (OpenSpec.upto fnApartSpec)) fnApartUptoCard
end Rows
end Go.Proofs.YtpnliencahnmoaaGreatDoor
