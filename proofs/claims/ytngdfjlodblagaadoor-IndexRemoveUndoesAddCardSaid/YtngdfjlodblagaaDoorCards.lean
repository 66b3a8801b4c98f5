/-
  DERIVED. GIVEN WITH THE SEED: THE CARDS: each row of YtngdfjlodblagaaDoorRows.lean that lists a variable, with what it lists TIED to the program's text (the seventh form; the later family's looks); each row that meets fmt, with fmt's text TOLD by the authors' own Lean function (tested against real Go, not proved from fmt's source: count such statements apart). THE CARD IS WHAT COUNTS. Prove the row's statement (the work); the ties are given (YtngdfjlodblagaaDoorTie.lean); close each card by the builder's one call (the guide's Derived/Test/ToyasCard.lean, 'card_holds'). Laid BY PROGRAM, IN A SANDBOX (cutbox-door.mjs). By AI agents, Wed Nov 11 2026. No macro, syntax, notation, axiom, sorry.
-/
import Derived.Test.YtngdfjlodblagaaDoorRows
import GoSem.ClaimSeven
namespace Go.Proofs.YtngdfjlodblagaaDoor
namespace Rows

/-- THE TIED CARD OF 'posthouselaw7.IndexRemoveUndoesAdd'. -/
def indexRemoveUndoesAddCard : Claim7 := { stood := { row := indexRemoveUndoesAddRow, standIns := [], harness := (true, "52eb3c4fc32cad98e2c159dca9e760a32d800a9ecbb2151a5e966c0b9bac20f1"), looks := false }, kinds := [], alts := [], laidByText := true, laidKinds := [.data, .data, .pinned, .pinned, .pinned, .pinned, .pinned], laidTests := true, laidLooks := .later }
def IndexRemoveUndoesAddCardSaid : Prop := Claim7.holds Tryd.pinned (.plain (OpenSpec.ofChange indexRemoveUndoesAddSpec)) indexRemoveUndoesAddCard

/-- THE TIED CARD OF 'posthouselaw7.IndexOrderDoesNotMatter'. -/
def indexOrderDoesNotMatterCard : Claim7 := { stood := { row := indexOrderDoesNotMatterRow, standIns := [], harness := (true, "52eb3c4fc32cad98e2c159dca9e760a32d800a9ecbb2151a5e966c0b9bac20f1"), looks := false }, kinds := [], alts := [], laidByText := true, laidKinds := [.data, .data, .pinned, .pinned, .pinned, .pinned, .pinned], laidTests := true, laidLooks := .later }
def IndexOrderDoesNotMatterCardSaid : Prop := Claim7.holds Tryd.pinned (.plain (OpenSpec.ofChange indexOrderDoesNotMatterSpec)) indexOrderDoesNotMatterCard

/-- THE SECOND FORM's CARD OF 'posthouselaw7.IndexRemoveUndoesAdd'. -/
def indexRemoveUndoesAddUptoCard : Claim7 := { stood := { row := indexRemoveUndoesAddUptoRow, standIns := [], harness := (true, "52eb3c4fc32cad98e2c159dca9e760a32d800a9ecbb2151a5e966c0b9bac20f1"), looks := false }, kinds := [], alts := [], laidByText := true, laidKinds := [.data, .data, .pinned, .pinned, .pinned, .pinned, .pinned], laidTests := true, laidLooks := .later }
def IndexRemoveUndoesAddUptoCardSaid : Prop := Claim7.holds Tryd.pinned (.plain (OpenSpec.upto indexRemoveUndoesAddSpec)) indexRemoveUndoesAddUptoCard

/-- THE SECOND FORM's CARD OF 'posthouselaw7.IndexOrderDoesNotMatter'. -/
def indexOrderDoesNotMatterUptoCard : Claim7 := { stood := { row := indexOrderDoesNotMatterUptoRow, standIns := [], harness := (true, "52eb3c4fc32cad98e2c159dca9e760a32d800a9ecbb2151a5e966c0b9bac20f1"), looks := false }, kinds := [], alts := [], laidByText := true, laidKinds := [.data, .data, .pinned, .pinned, .pinned, .pinned, .pinned], laidTests := true, laidLooks := .later }
def IndexOrderDoesNotMatterUptoCardSaid : Prop := Claim7.holds Tryd.pinned (.plain (OpenSpec.upto indexOrderDoesNotMatterSpec)) indexOrderDoesNotMatterUptoCard
end Rows
end Go.Proofs.YtngdfjlodblagaaDoor
