/-
  DERIVED. GIVEN WITH THE SEED: THE CARDS: each row of YtinmpjhmbciapaaDoorRows.lean that lists a variable, with what it lists TIED to the program's text (the seventh form; the later family's looks); each row that meets fmt, with fmt's text TOLD by the authors' own Lean function (tested against real Go, not proved from fmt's source: count such statements apart). THE CARD IS WHAT COUNTS. Prove the row's statement (the work); the ties are given (YtinmpjhmbciapaaDoorTie.lean); close each card by the builder's one call (the guide's Derived/Test/ToyasCard.lean, 'card_holds'). Laid BY PROGRAM, IN A SANDBOX (cutbox-door.mjs). By AI agents, Wed Nov 11 2026. No macro, syntax, notation, axiom, sorry.
-/
import Derived.Test.YtinmpjhmbciapaaDoorRows
import GoSem.ClaimSeven
namespace Go.Proofs.YtinmpjhmbciapaaDoor
namespace Rows

/-- THE TIED CARD OF 'posthouselaw7.StemMatchesSpec'. -/
def stemMatchesSpecCard : Claim7 := { stood := { row := stemMatchesSpecRow, standIns := [], harness := (true, "40d25cf351b9793e7e6298dd84bb42641ebbff334759827cfb34159243c837c3"), looks := false }, kinds := [], alts := [], laidByText := true, laidKinds := [.data, .data, .pinned, .pinned, .pinned, .pinned, .pinned], laidTests := true, laidLooks := .later }
def StemMatchesSpecCardSaid : Prop := Claim7.holds Tryd.pinned (.plain (OpenSpec.ofChange stemMatchesSpecSpec)) stemMatchesSpecCard

/-- THE TIED CARD OF 'posthouselaw7.StemIsIdempotent'. -/
def stemIsIdempotentCard : Claim7 := { stood := { row := stemIsIdempotentRow, standIns := [], harness := (true, "40d25cf351b9793e7e6298dd84bb42641ebbff334759827cfb34159243c837c3"), looks := false }, kinds := [], alts := [], laidByText := true, laidKinds := [.data, .data, .pinned, .pinned, .pinned, .pinned, .pinned], laidTests := true, laidLooks := .later }
def StemIsIdempotentCardSaid : Prop := Claim7.holds Tryd.pinned (.plain (OpenSpec.ofChange stemIsIdempotentSpec)) stemIsIdempotentCard

/-- THE TIED CARD OF 'posthouselaw7.StemWordsAreStable'. -/
def stemWordsAreStableCard : Claim7 := { stood := { row := stemWordsAreStableRow, standIns := [], harness := (true, "40d25cf351b9793e7e6298dd84bb42641ebbff334759827cfb34159243c837c3"), looks := false }, kinds := [], alts := [], laidByText := true, laidKinds := [.data, .data, .pinned, .pinned, .pinned, .pinned, .pinned], laidTests := true, laidLooks := .later }
def StemWordsAreStableCardSaid : Prop := Claim7.holds Tryd.pinned (.plain (OpenSpec.ofChange stemWordsAreStableSpec)) stemWordsAreStableCard

/-- THE TIED CARD OF 'posthouselaw7.StemTextsJoin'. -/
def stemTextsJoinCard : Claim7 := { stood := { row := stemTextsJoinRow, standIns := [], harness := (true, "40d25cf351b9793e7e6298dd84bb42641ebbff334759827cfb34159243c837c3"), looks := false }, kinds := [], alts := [], laidByText := true, laidKinds := [.data, .data, .pinned, .pinned, .pinned, .pinned, .pinned], laidTests := true, laidLooks := .later }
def StemTextsJoinCardSaid : Prop := Claim7.holds Tryd.pinned (.plain (OpenSpec.ofChange stemTextsJoinSpec)) stemTextsJoinCard

/-- THE TIED CARD OF 'posthouselaw7.FoldersStayValid'. -/
def foldersStayValidCard : Claim7 := { stood := { row := foldersStayValidRow, standIns := [], harness := (true, "40d25cf351b9793e7e6298dd84bb42641ebbff334759827cfb34159243c837c3"), looks := false }, kinds := [], alts := [], laidByText := true, laidKinds := [.data, .pinned], laidTests := true, laidLooks := .later }
def FoldersStayValidCardSaid : Prop := Claim7.holds Tryd.pinned (.plain (OpenSpec.ofChange foldersStayValidSpec)) foldersStayValidCard

/-- THE TIED CARD OF 'posthouselaw7.FoldersRenameBackYieldsAll'. -/
def foldersRenameBackYieldsAllCard : Claim7 := { stood := { row := foldersRenameBackYieldsAllRow, standIns := [], harness := (true, "40d25cf351b9793e7e6298dd84bb42641ebbff334759827cfb34159243c837c3"), looks := false }, kinds := [], alts := [], laidByText := true, laidKinds := [.data, .pinned], laidTests := true, laidLooks := .later }
def FoldersRenameBackYieldsAllCardSaid : Prop := Claim7.holds Tryd.pinned (.plain (OpenSpec.ofChange foldersRenameBackYieldsAllSpec)) foldersRenameBackYieldsAllCard

/-- THE TIED CARD OF 'posthouselaw7.FoldersDeleteUndoesCreate'. -/
def foldersDeleteUndoesCreateCard : Claim7 := { stood := { row := foldersDeleteUndoesCreateRow, standIns := [], harness := (true, "40d25cf351b9793e7e6298dd84bb42641ebbff334759827cfb34159243c837c3"), looks := false }, kinds := [], alts := [], laidByText := true, laidKinds := [.data, .pinned], laidTests := true, laidLooks := .later }
def FoldersDeleteUndoesCreateCardSaid : Prop := Claim7.holds Tryd.pinned (.plain (OpenSpec.ofChange foldersDeleteUndoesCreateSpec)) foldersDeleteUndoesCreateCard

/-- THE SECOND FORM's CARD OF 'posthouselaw7.StemMatchesSpec'. -/
def stemMatchesSpecUptoCard : Claim7 := { stood := { row := stemMatchesSpecUptoRow, standIns := [], harness := (true, "40d25cf351b9793e7e6298dd84bb42641ebbff334759827cfb34159243c837c3"), looks := false }, kinds := [], alts := [], laidByText := true, laidKinds := [.data, .data, .pinned, .pinned, .pinned, .pinned, .pinned], laidTests := true, laidLooks := .later }
def StemMatchesSpecUptoCardSaid : Prop := Claim7.holds Tryd.pinned (.plain (OpenSpec.upto stemMatchesSpecSpec)) stemMatchesSpecUptoCard

/-- THE SECOND FORM's CARD OF 'posthouselaw7.StemIsIdempotent'. -/
def stemIsIdempotentUptoCard : Claim7 := { stood := { row := stemIsIdempotentUptoRow, standIns := [], harness := (true, "40d25cf351b9793e7e6298dd84bb42641ebbff334759827cfb34159243c837c3"), looks := false }, kinds := [], alts := [], laidByText := true, laidKinds := [.data, .data, .pinned, .pinned, .pinned, .pinned, .pinned], laidTests := true, laidLooks := .later }
def StemIsIdempotentUptoCardSaid : Prop := Claim7.holds Tryd.pinned (.plain (OpenSpec.upto stemIsIdempotentSpec)) stemIsIdempotentUptoCard

/-- THE SECOND FORM's CARD OF 'posthouselaw7.StemWordsAreStable'. -/
def stemWordsAreStableUptoCard : Claim7 := { stood := { row := stemWordsAreStableUptoRow, standIns := [], harness := (true, "40d25cf351b9793e7e6298dd84bb42641ebbff334759827cfb34159243c837c3"), looks := false }, kinds := [], alts := [], laidByText := true, laidKinds := [.data, .data, .pinned, .pinned, .pinned, .pinned, .pinned], laidTests := true, laidLooks := .later }
def StemWordsAreStableUptoCardSaid : Prop := Claim7.holds Tryd.pinned (.plain (OpenSpec.upto stemWordsAreStableSpec)) stemWordsAreStableUptoCard

/-- THE SECOND FORM's CARD OF 'posthouselaw7.StemTextsJoin'. -/
def stemTextsJoinUptoCard : Claim7 := { stood := { row := stemTextsJoinUptoRow, standIns := [], harness := (true, "40d25cf351b9793e7e6298dd84bb42641ebbff334759827cfb34159243c837c3"), looks := false }, kinds := [], alts := [], laidByText := true, laidKinds := [.data, .data, .pinned, .pinned, .pinned, .pinned, .pinned], laidTests := true, laidLooks := .later }
def StemTextsJoinUptoCardSaid : Prop := Claim7.holds Tryd.pinned (.plain (OpenSpec.upto stemTextsJoinSpec)) stemTextsJoinUptoCard

/-- THE SECOND FORM's CARD OF 'posthouselaw7.FoldersStayValid'. -/
def foldersStayValidUptoCard : Claim7 := { stood := { row := foldersStayValidUptoRow, standIns := [], harness := (true, "40d25cf351b9793e7e6298dd84bb42641ebbff334759827cfb34159243c837c3"), looks := false }, kinds := [], alts := [], laidByText := true, laidKinds := [.data, .pinned], laidTests := true, laidLooks := .later }
def FoldersStayValidUptoCardSaid : Prop := Claim7.holds Tryd.pinned (.plain (OpenSpec.upto foldersStayValidSpec)) foldersStayValidUptoCard

/-- THE SECOND FORM's CARD OF 'posthouselaw7.FoldersRenameBackYieldsAll'. -/
def foldersRenameBackYieldsAllUptoCard : Claim7 := { stood := { row := foldersRenameBackYieldsAllUptoRow, standIns := [], harness := (true, "40d25cf351b9793e7e6298dd84bb42641ebbff334759827cfb34159243c837c3"), looks := false }, kinds := [], alts := [], laidByText := true, laidKinds := [.data, .pinned], laidTests := true, laidLooks := .later }
def FoldersRenameBackYieldsAllUptoCardSaid : Prop := Claim7.holds Tryd.pinned (.plain (OpenSpec.upto foldersRenameBackYieldsAllSpec)) foldersRenameBackYieldsAllUptoCard

/-- THE SECOND FORM's CARD OF 'posthouselaw7.FoldersDeleteUndoesCreate'. -/
def foldersDeleteUndoesCreateUptoCard : Claim7 := { stood := { row := foldersDeleteUndoesCreateUptoRow, standIns := [], harness := (true, "40d25cf351b9793e7e6298dd84bb42641ebbff334759827cfb34159243c837c3"), looks := false }, kinds := [], alts := [], laidByText := true, laidKinds := [.data, .pinned], laidTests := true, laidLooks := .later }
def FoldersDeleteUndoesCreateUptoCardSaid : Prop := Claim7.holds Tryd.pinned (.plain (OpenSpec.upto foldersDeleteUndoesCreateSpec)) foldersDeleteUndoesCreateUptoCard
end Rows
end Go.Proofs.YtinmpjhmbciapaaDoor
