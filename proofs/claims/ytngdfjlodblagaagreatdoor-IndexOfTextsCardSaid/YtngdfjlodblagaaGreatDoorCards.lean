/-
  DERIVED. GIVEN WITH THE SEED: THE CARDS: each row of YtngdfjlodblagaaGreatDoorRows.lean that lists a variable, with what it lists TIED to the program's text (the seventh form; the later family's looks); each row that meets fmt, with fmt's text TOLD by the authors' own Lean function (tested against real Go, not proved from fmt's source: count such statements apart). THE CARD IS WHAT COUNTS. Prove the row's statement (the work); the ties are given (YtngdfjlodblagaaGreatDoorTie.lean); close each card by the builder's one call (the guide's Derived/Test/ToyasCard.lean, 'card_holds'). Laid BY PROGRAM, IN A SANDBOX (cutbox-door.mjs). By AI agents, Wed Nov 11 2026. No macro, syntax, notation, axiom, sorry.
-/
import Derived.Test.YtngdfjlodblagaaGreatDoorRows
import GoSem.ClaimSeven
namespace Go.Proofs.YtngdfjlodblagaaGreatDoor
namespace Rows

/-- THE TIED CARD OF 'posthouselaw7.IndexMatchesSpec'. -/
def indexMatchesSpecCard : Claim7 := { stood := { row := indexMatchesSpecRow, standIns := [], harness := (true, "edc42ee7a396a2e2800123563cd322c9cee1f84c197864c9eaf518ce7f34c3a1"), looks := false }, kinds := [], alts := [], laidByText := true, laidKinds := [.data, .data, .pinned, .pinned, .pinned, .pinned, .pinned], laidTests := true, laidLooks := .later }
def IndexMatchesSpecCardSaid : Prop := Claim7.holds Tryz.pinned (.plain (OpenSpec.ofChange indexMatchesSpecSpec)) indexMatchesSpecCard

/-- THE TIED CARD OF 'posthouselaw7.IndexOfTexts'. -/
def indexOfTextsCard : Claim7 := { stood := { row := indexOfTextsRow, standIns := [], harness := (true, "edc42ee7a396a2e2800123563cd322c9cee1f84c197864c9eaf518ce7f34c3a1"), looks := false }, kinds := [], alts := [], laidByText := true, laidKinds := [.data, .data, .pinned, .pinned, .pinned, .pinned, .pinned], laidTests := true, laidLooks := .later }
def IndexOfTextsCardSaid : Prop := Claim7.holds Tryz.pinned (.plain (OpenSpec.ofChange indexOfTextsSpec)) indexOfTextsCard

/-- THE TIED CARD OF 'posthouselaw7.SearchMatchesSpec'. -/
def searchMatchesSpecCard : Claim7 := { stood := { row := searchMatchesSpecRow, standIns := [], harness := (true, "edc42ee7a396a2e2800123563cd322c9cee1f84c197864c9eaf518ce7f34c3a1"), looks := false }, kinds := [], alts := [], laidByText := true, laidKinds := [.data, .data, .pinned, .pinned, .pinned, .pinned, .pinned], laidTests := true, laidLooks := .later }
def SearchMatchesSpecCardSaid : Prop := Claim7.holds Tryz.pinned (.plain (OpenSpec.ofChange searchMatchesSpecSpec)) searchMatchesSpecCard

/-- THE TIED CARD OF 'posthouselaw7.SearchObeysLogic'. -/
def searchObeysLogicCard : Claim7 := { stood := { row := searchObeysLogicRow, standIns := [], harness := (true, "edc42ee7a396a2e2800123563cd322c9cee1f84c197864c9eaf518ce7f34c3a1"), looks := false }, kinds := [], alts := [], laidByText := true, laidKinds := [.data, .data, .pinned, .pinned, .pinned, .pinned, .pinned], laidTests := true, laidLooks := .later }
def SearchObeysLogicCardSaid : Prop := Claim7.holds Tryz.pinned (.plain (OpenSpec.ofChange searchObeysLogicSpec)) searchObeysLogicCard

/-- THE TIED CARD OF 'posthouselaw7.SearchFindsWhatIsAdded'. -/
def searchFindsWhatIsAddedCard : Claim7 := { stood := { row := searchFindsWhatIsAddedRow, standIns := [], harness := (true, "edc42ee7a396a2e2800123563cd322c9cee1f84c197864c9eaf518ce7f34c3a1"), looks := false }, kinds := [], alts := [], laidByText := true, laidKinds := [.data, .data, .pinned, .pinned, .pinned, .pinned, .pinned], laidTests := true, laidLooks := .later }
def SearchFindsWhatIsAddedCardSaid : Prop := Claim7.holds Tryz.pinned (.plain (OpenSpec.ofChange searchFindsWhatIsAddedSpec)) searchFindsWhatIsAddedCard

/-- THE TIED CARD OF 'posthouselaw7.SearchOthersDoNotMatter'. -/
def searchOthersDoNotMatterCard : Claim7 := { stood := { row := searchOthersDoNotMatterRow, standIns := [], harness := (true, "edc42ee7a396a2e2800123563cd322c9cee1f84c197864c9eaf518ce7f34c3a1"), looks := false }, kinds := [], alts := [], laidByText := true, laidKinds := [.data, .data, .pinned, .pinned, .pinned, .pinned, .pinned], laidTests := true, laidLooks := .later }
def SearchOthersDoNotMatterCardSaid : Prop := Claim7.holds Tryz.pinned (.plain (OpenSpec.ofChange searchOthersDoNotMatterSpec)) searchOthersDoNotMatterCard

/-- THE SECOND FORM's CARD OF 'posthouselaw7.IndexMatchesSpec'. -/
def indexMatchesSpecUptoCard : Claim7 := { stood := { row := indexMatchesSpecUptoRow, standIns := [], harness := (true, "edc42ee7a396a2e2800123563cd322c9cee1f84c197864c9eaf518ce7f34c3a1"), looks := false }, kinds := [], alts := [], laidByText := true, laidKinds := [.data, .data, .pinned, .pinned, .pinned, .pinned, .pinned], laidTests := true, laidLooks := .later }
def IndexMatchesSpecUptoCardSaid : Prop := Claim7.holds Tryz.pinned (.plain (OpenSpec.upto indexMatchesSpecSpec)) indexMatchesSpecUptoCard

/-- THE SECOND FORM's CARD OF 'posthouselaw7.IndexOfTexts'. -/
def indexOfTextsUptoCard : Claim7 := { stood := { row := indexOfTextsUptoRow, standIns := [], harness := (true, "edc42ee7a396a2e2800123563cd322c9cee1f84c197864c9eaf518ce7f34c3a1"), looks := false }, kinds := [], alts := [], laidByText := true, laidKinds := [.data, .data, .pinned, .pinned, .pinned, .pinned, .pinned], laidTests := true, laidLooks := .later }
def IndexOfTextsUptoCardSaid : Prop := Claim7.holds Tryz.pinned (.plain (OpenSpec.upto indexOfTextsSpec)) indexOfTextsUptoCard

/-- THE SECOND FORM's CARD OF 'posthouselaw7.SearchMatchesSpec'. -/
def searchMatchesSpecUptoCard : Claim7 := { stood := { row := searchMatchesSpecUptoRow, standIns := [], harness := (true, "edc42ee7a396a2e2800123563cd322c9cee1f84c197864c9eaf518ce7f34c3a1"), looks := false }, kinds := [], alts := [], laidByText := true, laidKinds := [.data, .data, .pinned, .pinned, .pinned, .pinned, .pinned], laidTests := true, laidLooks := .later }
def SearchMatchesSpecUptoCardSaid : Prop := Claim7.holds Tryz.pinned (.plain (OpenSpec.upto searchMatchesSpecSpec)) searchMatchesSpecUptoCard

/-- THE SECOND FORM's CARD OF 'posthouselaw7.SearchObeysLogic'. -/
def searchObeysLogicUptoCard : Claim7 := { stood := { row := searchObeysLogicUptoRow, standIns := [], harness := (true, "edc42ee7a396a2e2800123563cd322c9cee1f84c197864c9eaf518ce7f34c3a1"), looks := false }, kinds := [], alts := [], laidByText := true, laidKinds := [.data, .data, .pinned, .pinned, .pinned, .pinned, .pinned], laidTests := true, laidLooks := .later }
def SearchObeysLogicUptoCardSaid : Prop := Claim7.holds Tryz.pinned (.plain (OpenSpec.upto searchObeysLogicSpec)) searchObeysLogicUptoCard

/-- THE SECOND FORM's CARD OF 'posthouselaw7.SearchFindsWhatIsAdded'. -/
def searchFindsWhatIsAddedUptoCard : Claim7 := { stood := { row := searchFindsWhatIsAddedUptoRow, standIns := [], harness := (true, "edc42ee7a396a2e2800123563cd322c9cee1f84c197864c9eaf518ce7f34c3a1"), looks := false }, kinds := [], alts := [], laidByText := true, laidKinds := [.data, .data, .pinned, .pinned, .pinned, .pinned, .pinned], laidTests := true, laidLooks := .later }
def SearchFindsWhatIsAddedUptoCardSaid : Prop := Claim7.holds Tryz.pinned (.plain (OpenSpec.upto searchFindsWhatIsAddedSpec)) searchFindsWhatIsAddedUptoCard

/-- THE SECOND FORM's CARD OF 'posthouselaw7.SearchOthersDoNotMatter'. -/
def searchOthersDoNotMatterUptoCard : Claim7 := { stood := { row := searchOthersDoNotMatterUptoRow, standIns := [], harness := (true, "edc42ee7a396a2e2800123563cd322c9cee1f84c197864c9eaf518ce7f34c3a1"), looks := false }, kinds := [], alts := [], laidByText := true, laidKinds := [.data, .data, .pinned, .pinned, .pinned, .pinned, .pinned], laidTests := true, laidLooks := .later }
def SearchOthersDoNotMatterUptoCardSaid : Prop := Claim7.holds Tryz.pinned (.plain (OpenSpec.upto searchOthersDoNotMatterSpec)) searchOthersDoNotMatterUptoCard
end Rows
end Go.Proofs.YtngdfjlodblagaaGreatDoor
