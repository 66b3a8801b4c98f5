/-
  DERIVED. GIVEN WITH THE SEED: THE CARDS: each row of YtnlhocbaighedaaGreatDoorRows.lean that lists a variable, with what it lists TIED to the program's text (the seventh form; the later family's looks); each row that meets fmt, with fmt's text TOLD by the authors' own Lean function (tested against real Go, not proved from fmt's source: count such statements apart). THE CARD IS WHAT COUNTS. Prove the row's statement (the work); the ties are given (YtnlhocbaighedaaGreatDoorTie.lean); close each card by the builder's one call (the guide's Derived/Test/ToyasCard.lean, 'card_holds'). Laid BY PROGRAM, IN A SANDBOX (cutbox-door.mjs). By AI agents, Wed Nov 11 2026. No macro, syntax, notation, axiom, sorry.
-/
import Derived.Test.YtnlhocbaighedaaGreatDoorRows
import GoSem.ClaimSeven
namespace Go.Proofs.YtnlhocbaighedaaGreatDoor
namespace Rows

/-- THE TIED CARD OF 'posthouselaw7.RankMatchesSpec'. -/
def rankMatchesSpecCard : Claim7 := { stood := { row := rankMatchesSpecRow, standIns := [], harness := (true, "af5d8e0593e6124dc59f0c2851daf8ee2a9eb98b9af2242d59cac613f92b1714"), looks := false }, kinds := [], alts := [], laidByText := true, laidKinds := [.data, .data, .pinned, .pinned, .pinned, .pinned, .pinned], laidTests := true, laidLooks := .later }
def RankMatchesSpecCardSaid : Prop := Claim7.holds Tryz.pinned (.plain (OpenSpec.ofChange rankMatchesSpecSpec)) rankMatchesSpecCard

/-- THE TIED CARD OF 'posthouselaw7.RankOrdersWhatIsFound'. -/
def rankOrdersWhatIsFoundCard : Claim7 := { stood := { row := rankOrdersWhatIsFoundRow, standIns := [], harness := (true, "af5d8e0593e6124dc59f0c2851daf8ee2a9eb98b9af2242d59cac613f92b1714"), looks := false }, kinds := [], alts := [], laidByText := true, laidKinds := [.data, .data, .pinned, .pinned, .pinned, .pinned, .pinned], laidTests := true, laidLooks := .later }
def RankOrdersWhatIsFoundCardSaid : Prop := Claim7.holds Tryz.pinned (.plain (OpenSpec.ofChange rankOrdersWhatIsFoundSpec)) rankOrdersWhatIsFoundCard

/-- THE TIED CARD OF 'posthouselaw7.RankMoreWordsAreBetter'. -/
def rankMoreWordsAreBetterCard : Claim7 := { stood := { row := rankMoreWordsAreBetterRow, standIns := [], harness := (true, "af5d8e0593e6124dc59f0c2851daf8ee2a9eb98b9af2242d59cac613f92b1714"), looks := false }, kinds := [], alts := [], laidByText := true, laidKinds := [.data, .data, .pinned, .pinned, .pinned, .pinned, .pinned], laidTests := true, laidLooks := .later }
def RankMoreWordsAreBetterCardSaid : Prop := Claim7.holds Tryz.pinned (.plain (OpenSpec.ofChange rankMoreWordsAreBetterSpec)) rankMoreWordsAreBetterCard

/-- THE SECOND FORM's CARD OF 'posthouselaw7.RankMatchesSpec'. -/
def rankMatchesSpecUptoCard : Claim7 := { stood := { row := rankMatchesSpecUptoRow, standIns := [], harness := (true, "af5d8e0593e6124dc59f0c2851daf8ee2a9eb98b9af2242d59cac613f92b1714"), looks := false }, kinds := [], alts := [], laidByText := true, laidKinds := [.data, .data, .pinned, .pinned, .pinned, .pinned, .pinned], laidTests := true, laidLooks := .later }
def RankMatchesSpecUptoCardSaid : Prop := Claim7.holds Tryz.pinned (.plain (OpenSpec.upto rankMatchesSpecSpec)) rankMatchesSpecUptoCard

/-- THE SECOND FORM's CARD OF 'posthouselaw7.RankOrdersWhatIsFound'. -/
def rankOrdersWhatIsFoundUptoCard : Claim7 := { stood := { row := rankOrdersWhatIsFoundUptoRow, standIns := [], harness := (true, "af5d8e0593e6124dc59f0c2851daf8ee2a9eb98b9af2242d59cac613f92b1714"), looks := false }, kinds := [], alts := [], laidByText := true, laidKinds := [.data, .data, .pinned, .pinned, .pinned, .pinned, .pinned], laidTests := true, laidLooks := .later }
def RankOrdersWhatIsFoundUptoCardSaid : Prop := Claim7.holds Tryz.pinned (.plain (OpenSpec.upto rankOrdersWhatIsFoundSpec)) rankOrdersWhatIsFoundUptoCard

/-- THE SECOND FORM's CARD OF 'posthouselaw7.RankMoreWordsAreBetter'. -/
def rankMoreWordsAreBetterUptoCard : Claim7 := { stood := { row := rankMoreWordsAreBetterUptoRow, standIns := [], harness := (true, "af5d8e0593e6124dc59f0c2851daf8ee2a9eb98b9af2242d59cac613f92b1714"), looks := false }, kinds := [], alts := [], laidByText := true, laidKinds := [.data, .data, .pinned, .pinned, .pinned, .pinned, .pinned], laidTests := true, laidLooks := .later }
def RankMoreWordsAreBetterUptoCardSaid : Prop := Claim7.holds Tryz.pinned (.plain (OpenSpec.upto rankMoreWordsAreBetterSpec)) rankMoreWordsAreBetterUptoCard
end Rows
end Go.Proofs.YtnlhocbaighedaaGreatDoor
