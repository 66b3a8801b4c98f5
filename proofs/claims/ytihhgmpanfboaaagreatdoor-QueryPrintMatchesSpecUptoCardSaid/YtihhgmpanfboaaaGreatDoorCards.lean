/-
  DERIVED. GIVEN WITH THE SEED: THE CARDS: each row of YtihhgmpanfboaaaGreatDoorRows.lean that lists a variable, with what it lists TIED to the program's text (the seventh form; the later family's looks); each row that meets fmt, with fmt's text TOLD by the authors' own Lean function (tested against real Go, not proved from fmt's source: count such statements apart). THE CARD IS WHAT COUNTS. Prove the row's statement (the work); the ties are given (YtihhgmpanfboaaaGreatDoorTie.lean); close each card by the builder's one call (the guide's Derived/Test/ToyasCard.lean, 'card_holds'). Laid BY PROGRAM, IN A SANDBOX (cutbox-door.mjs). By AI agents, Wed Nov 11 2026. No macro, syntax, notation, axiom, sorry.
-/
import Derived.Test.YtihhgmpanfboaaaGreatDoorRows
import GoSem.ClaimSeven
namespace Go.Proofs.YtihhgmpanfboaaaGreatDoor
namespace Rows

/-- THE TIED CARD OF 'posthouselaw7.QueryPrintMatchesSpec'. -/
def queryPrintMatchesSpecCard : Claim7 := { stood := { row := queryPrintMatchesSpecRow, standIns := [], harness := (true, "89383236fd5bbe47cf000178080edc513a015b3d8fb01062b3e82a3577bc3e56"), looks := true }, kinds := [], alts := [], laidByText := true, laidKinds := [.data, .data, .data, .data, .sentinel, .sentinel, .data, .pinned, .pinned, .pinned, .pinned, .pinned], laidTests := true, laidLooks := .later }
def QueryPrintMatchesSpecCardSaid : Prop := Claim7.holds Tryz.pinned (.plain (OpenSpec.ofChange queryPrintMatchesSpecSpec)) queryPrintMatchesSpecCard

/-- THE TIED CARD OF 'posthouselaw7.QueryParseMatchesSpec'. -/
def queryParseMatchesSpecCard : Claim7 := { stood := { row := queryParseMatchesSpecRow, standIns := [], harness := (true, "89383236fd5bbe47cf000178080edc513a015b3d8fb01062b3e82a3577bc3e56"), looks := true }, kinds := [], alts := [], laidByText := true, laidKinds := [.data, .data, .data, .data, .sentinel, .sentinel, .data, .pinned, .pinned, .pinned, .pinned, .pinned], laidTests := true, laidLooks := .later }
def QueryParseMatchesSpecCardSaid : Prop := Claim7.holds Tryz.pinned (.plain (OpenSpec.ofChange queryParseMatchesSpecSpec)) queryParseMatchesSpecCard

/-- THE TIED CARD OF 'posthouselaw7.QueryPrintedIsRead'. -/
def queryPrintedIsReadCard : Claim7 := { stood := { row := queryPrintedIsReadRow, standIns := [], harness := (true, "89383236fd5bbe47cf000178080edc513a015b3d8fb01062b3e82a3577bc3e56"), looks := true }, kinds := [], alts := [], laidByText := true, laidKinds := [.data, .data, .data, .data, .sentinel, .sentinel, .data, .pinned, .pinned, .pinned, .pinned, .pinned], laidTests := true, laidLooks := .later }
def QueryPrintedIsReadCardSaid : Prop := Claim7.holds Tryz.pinned (.plain (OpenSpec.ofChange queryPrintedIsReadSpec)) queryPrintedIsReadCard

/-- THE TIED CARD OF 'posthouselaw7.QueryReadIsPrinted'. -/
def queryReadIsPrintedCard : Claim7 := { stood := { row := queryReadIsPrintedRow, standIns := [], harness := (true, "89383236fd5bbe47cf000178080edc513a015b3d8fb01062b3e82a3577bc3e56"), looks := true }, kinds := [], alts := [], laidByText := true, laidKinds := [.data, .data, .data, .data, .sentinel, .sentinel, .data, .pinned, .pinned, .pinned, .pinned, .pinned], laidTests := true, laidLooks := .later }
def QueryReadIsPrintedCardSaid : Prop := Claim7.holds Tryz.pinned (.plain (OpenSpec.ofChange queryReadIsPrintedSpec)) queryReadIsPrintedCard

/-- THE SECOND FORM's CARD OF 'posthouselaw7.QueryPrintMatchesSpec'. -/
def queryPrintMatchesSpecUptoCard : Claim7 := { stood := { row := queryPrintMatchesSpecUptoRow, standIns := [], harness := (true, "89383236fd5bbe47cf000178080edc513a015b3d8fb01062b3e82a3577bc3e56"), looks := true }, kinds := [], alts := [], laidByText := true, laidKinds := [.data, .data, .data, .data, .sentinel, .sentinel, .data, .pinned, .pinned, .pinned, .pinned, .pinned], laidTests := true, laidLooks := .later }
def QueryPrintMatchesSpecUptoCardSaid : Prop := Claim7.holds Tryz.pinned (.plain (OpenSpec.upto queryPrintMatchesSpecSpec)) queryPrintMatchesSpecUptoCard

/-- THE SECOND FORM's CARD OF 'posthouselaw7.QueryParseMatchesSpec'. -/
def queryParseMatchesSpecUptoCard : Claim7 := { stood := { row := queryParseMatchesSpecUptoRow, standIns := [], harness := (true, "89383236fd5bbe47cf000178080edc513a015b3d8fb01062b3e82a3577bc3e56"), looks := true }, kinds := [], alts := [], laidByText := true, laidKinds := [.data, .data, .data, .data, .sentinel, .sentinel, .data, .pinned, .pinned, .pinned, .pinned, .pinned], laidTests := true, laidLooks := .later }
def QueryParseMatchesSpecUptoCardSaid : Prop := Claim7.holds Tryz.pinned (.plain (OpenSpec.upto queryParseMatchesSpecSpec)) queryParseMatchesSpecUptoCard

/-- THE SECOND FORM's CARD OF 'posthouselaw7.QueryPrintedIsRead'. -/
def queryPrintedIsReadUptoCard : Claim7 := { stood := { row := queryPrintedIsReadUptoRow, standIns := [], harness := (true, "89383236fd5bbe47cf000178080edc513a015b3d8fb01062b3e82a3577bc3e56"), looks := true }, kinds := [], alts := [], laidByText := true, laidKinds := [.data, .data, .data, .data, .sentinel, .sentinel, .data, .pinned, .pinned, .pinned, .pinned, .pinned], laidTests := true, laidLooks := .later }
def QueryPrintedIsReadUptoCardSaid : Prop := Claim7.holds Tryz.pinned (.plain (OpenSpec.upto queryPrintedIsReadSpec)) queryPrintedIsReadUptoCard

/-- THE SECOND FORM's CARD OF 'posthouselaw7.QueryReadIsPrinted'. -/
def queryReadIsPrintedUptoCard : Claim7 := { stood := { row := queryReadIsPrintedUptoRow, standIns := [], harness := (true, "89383236fd5bbe47cf000178080edc513a015b3d8fb01062b3e82a3577bc3e56"), looks := true }, kinds := [], alts := [], laidByText := true, laidKinds := [.data, .data, .data, .data, .sentinel, .sentinel, .data, .pinned, .pinned, .pinned, .pinned, .pinned], laidTests := true, laidLooks := .later }
def QueryReadIsPrintedUptoCardSaid : Prop := Claim7.holds Tryz.pinned (.plain (OpenSpec.upto queryReadIsPrintedSpec)) queryReadIsPrintedUptoCard
end Rows
end Go.Proofs.YtihhgmpanfboaaaGreatDoor
