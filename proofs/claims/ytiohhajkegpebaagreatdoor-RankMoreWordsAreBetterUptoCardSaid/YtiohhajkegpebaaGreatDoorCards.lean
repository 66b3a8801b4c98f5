/-
  DERIVED. GIVEN WITH THE SEED: THE CARDS: each row of YtiohhajkegpebaaGreatDoorRows.lean that lists a variable, with what it lists TIED to the program's text (the seventh form; the later family's looks); each row that meets fmt, with fmt's text TOLD by the authors' own Lean function (tested against real Go, not proved from fmt's source: count such statements apart). THE CARD IS WHAT COUNTS. Prove the row's statement (the work); the ties are given (YtiohhajkegpebaaGreatDoorTie.lean); close each card by the builder's one call (the guide's Derived/Test/ToyasCard.lean, 'card_holds'). Laid BY PROGRAM, IN A SANDBOX (cutbox-door.mjs). By AI agents, Wed Nov 11 2026. No macro, syntax, notation, axiom, sorry.
-/
import Derived.Test.YtiohhajkegpebaaGreatDoorRows
import GoSem.ClaimSeven
namespace Go.Proofs.YtiohhajkegpebaaGreatDoor
namespace Rows

/-- THE TIED CARD OF 'posthouselaw7.RankMoreWordsAreBetter'. -/
def rankMoreWordsAreBetterCard : Claim7 := { stood := { row := rankMoreWordsAreBetterRow, standIns := [], harness := (true, "49ac318e6cb4e1f25bb24bdcd570693537c5fd1df149273059bdbaa2e1fba7d3"), looks := false }, kinds := [], alts := [], laidByText := true, laidKinds := [.data, .data, .pinned, .pinned, .pinned, .pinned, .pinned], laidTests := true, laidLooks := .later }
def RankMoreWordsAreBetterCardSaid : Prop := Claim7.holds Tryz.pinned (.plain (OpenSpec.ofChange rankMoreWordsAreBetterSpec)) rankMoreWordsAreBetterCard

/-- THE SECOND FORM's CARD OF 'posthouselaw7.RankMoreWordsAreBetter'. -/
def rankMoreWordsAreBetterUptoCard : Claim7 := { stood := { row := rankMoreWordsAreBetterUptoRow, standIns := [], harness := (true, "49ac318e6cb4e1f25bb24bdcd570693537c5fd1df149273059bdbaa2e1fba7d3"), looks := false }, kinds := [], alts := [], laidByText := true, laidKinds := [.data, .data, .pinned, .pinned, .pinned, .pinned, .pinned], laidTests := true, laidLooks := .later }
def RankMoreWordsAreBetterUptoCardSaid : Prop := Claim7.holds Tryz.pinned (.plain (OpenSpec.upto rankMoreWordsAreBetterSpec)) rankMoreWordsAreBetterUptoCard
end Rows
end Go.Proofs.YtiohhajkegpebaaGreatDoor
