/-
  DERIVED. GIVEN WITH THE SEED: THE CARDS: each row of YtjamjkjmlckgeaaGreatDoorRows.lean that lists a variable, with what it lists TIED to the program's text (the seventh form; the later family's looks); each row that meets fmt, with fmt's text TOLD by the authors' own Lean function (tested against real Go, not proved from fmt's source: count such statements apart). THE CARD IS WHAT COUNTS. Prove the row's statement (the work); the ties are given (YtjamjkjmlckgeaaGreatDoorTie.lean); close each card by the builder's one call (the guide's Derived/Test/ToyasCard.lean, 'card_holds'). Laid BY PROGRAM, IN A SANDBOX (cutbox-door.mjs). By AI agents, Wed Nov 11 2026. No macro, syntax, notation, axiom, sorry.
-/
import Derived.Test.YtjamjkjmlckgeaaGreatDoorRows
import GoSem.ClaimSeven
namespace Go.Proofs.YtjamjkjmlckgeaaGreatDoor
namespace Rows

/-- THE TIED CARD OF 'posthousetop.TopCompactionIsInvisible'. -/
def topCompactionIsInvisibleCard : Claim7 := { stood := { row := topCompactionIsInvisibleRow, standIns := [], harness := (true, "bb19988ade68b4a673af2cde935134913d23d34530de4f2a44cea0640059d327"), looks := true }, kinds := [], alts := [], laidByText := true, laidKinds := [.data, .data, .data, .sentinel, .sentinel], laidTests := true, laidLooks := .later }
def TopCompactionIsInvisibleCardSaid : Prop := Claim7.holds Tryz.pinned (.plain (OpenSpec.ofChange topCompactionIsInvisibleSpec)) topCompactionIsInvisibleCard

/-- THE TIED CARD OF 'posthousetop.TopThreadsSurviveReplay'. -/
def topThreadsSurviveReplayCard : Claim7 := { stood := { row := topThreadsSurviveReplayRow, standIns := [], harness := (true, "bb19988ade68b4a673af2cde935134913d23d34530de4f2a44cea0640059d327"), looks := true }, kinds := [], alts := [], laidByText := true, laidKinds := [.data, .data, .data, .sentinel, .sentinel], laidTests := true, laidLooks := .later }
def TopThreadsSurviveReplayCardSaid : Prop := Claim7.holds Tryz.pinned (.plain (OpenSpec.ofChange topThreadsSurviveReplaySpec)) topThreadsSurviveReplayCard

/-- THE SECOND FORM's CARD OF 'posthousetop.TopCompactionIsInvisible'. -/
def topCompactionIsInvisibleUptoCard : Claim7 := { stood := { row := topCompactionIsInvisibleUptoRow, standIns := [], harness := (true, "bb19988ade68b4a673af2cde935134913d23d34530de4f2a44cea0640059d327"), looks := true }, kinds := [], alts := [], laidByText := true, laidKinds := [.data, .data, .data, .sentinel, .sentinel], laidTests := true, laidLooks := .later }
def TopCompactionIsInvisibleUptoCardSaid : Prop := Claim7.holds Tryz.pinned (.plain (OpenSpec.upto topCompactionIsInvisibleSpec)) topCompactionIsInvisibleUptoCard

/-- THE SECOND FORM's CARD OF 'posthousetop.TopThreadsSurviveReplay'. -/
def topThreadsSurviveReplayUptoCard : Claim7 := { stood := { row := topThreadsSurviveReplayUptoRow, standIns := [], harness := (true, "bb19988ade68b4a673af2cde935134913d23d34530de4f2a44cea0640059d327"), looks := true }, kinds := [], alts := [], laidByText := true, laidKinds := [.data, .data, .data, .sentinel, .sentinel], laidTests := true, laidLooks := .later }
def TopThreadsSurviveReplayUptoCardSaid : Prop := Claim7.holds Tryz.pinned (.plain (OpenSpec.upto topThreadsSurviveReplaySpec)) topThreadsSurviveReplayUptoCard
end Rows
end Go.Proofs.YtjamjkjmlckgeaaGreatDoor
