/-
  DERIVED. GIVEN WITH THE SEED: THE CARDS: each row of YtfjpedgddgbelaaGreatDoorRows.lean that lists a variable, with what it lists TIED to the program's text (the seventh form; the later family's looks); each row that meets fmt, with fmt's text TOLD by the authors' own Lean function (tested against real Go, not proved from fmt's source: count such statements apart). THE CARD IS WHAT COUNTS. Prove the row's statement (the work); the ties are given (YtfjpedgddgbelaaGreatDoorTie.lean); close each card by the builder's one call (the guide's Derived/Test/ToyasCard.lean, 'card_holds'). Laid BY PROGRAM, IN A SANDBOX (cutbox-door.mjs). By AI agents, Wed Nov 11 2026. No macro, syntax, notation, axiom, sorry.
-/
import Derived.Test.YtfjpedgddgbelaaGreatDoorRows
import GoSem.ClaimSeven
namespace Go.Proofs.YtfjpedgddgbelaaGreatDoor
namespace Rows

/-- THE TIED CARD OF 'posthouselaw7.IndexMatchesSpec'. -/
def indexMatchesSpecCard : Claim7 := { stood := { row := indexMatchesSpecRow, standIns := [], harness := (true, "53c5bdb6f06374f8ad34131f663ba92d800ec5a75b669e3b7151c2438e1a917a"), looks := true }, kinds := [], alts := [], laidByText := true, laidKinds := [.data, .data, .pinned, .pinned, .pinned, .pinned, .pinned], laidTests := true, laidLooks := .later }
def IndexMatchesSpecCardSaid : Prop := Claim7.holds Tryz.pinned (.plain (OpenSpec.ofChange indexMatchesSpecSpec)) indexMatchesSpecCard

/-- THE TIED CARD OF 'posthouselaw7.SearchMatchesSpec'. -/
def searchMatchesSpecCard : Claim7 := { stood := { row := searchMatchesSpecRow, standIns := [], harness := (true, "53c5bdb6f06374f8ad34131f663ba92d800ec5a75b669e3b7151c2438e1a917a"), looks := true }, kinds := [], alts := [], laidByText := true, laidKinds := [.data, .data, .pinned, .pinned, .pinned, .pinned, .pinned], laidTests := true, laidLooks := .later }
def SearchMatchesSpecCardSaid : Prop := Claim7.holds Tryz.pinned (.plain (OpenSpec.ofChange searchMatchesSpecSpec)) searchMatchesSpecCard

/-- THE TIED CARD OF 'posthouselaw7.SearchObeysLogic'. -/
def searchObeysLogicCard : Claim7 := { stood := { row := searchObeysLogicRow, standIns := [], harness := (true, "53c5bdb6f06374f8ad34131f663ba92d800ec5a75b669e3b7151c2438e1a917a"), looks := true }, kinds := [], alts := [], laidByText := true, laidKinds := [.data, .data, .pinned, .pinned, .pinned, .pinned, .pinned], laidTests := true, laidLooks := .later }
def SearchObeysLogicCardSaid : Prop := Claim7.holds Tryz.pinned (.plain (OpenSpec.ofChange searchObeysLogicSpec)) searchObeysLogicCard

/-- THE TIED CARD OF 'posthouselaw7.SearchFindsWhatIsAdded'. -/
def searchFindsWhatIsAddedCard : Claim7 := { stood := { row := searchFindsWhatIsAddedRow, standIns := [], harness := (true, "53c5bdb6f06374f8ad34131f663ba92d800ec5a75b669e3b7151c2438e1a917a"), looks := true }, kinds := [], alts := [], laidByText := true, laidKinds := [.data, .data, .pinned, .pinned, .pinned, .pinned, .pinned], laidTests := true, laidLooks := .later }
def SearchFindsWhatIsAddedCardSaid : Prop := Claim7.holds Tryz.pinned (.plain (OpenSpec.ofChange searchFindsWhatIsAddedSpec)) searchFindsWhatIsAddedCard

/-- THE TIED CARD OF 'posthouselaw7.SearchOthersDoNotMatter'. -/
def searchOthersDoNotMatterCard : Claim7 := { stood := { row := searchOthersDoNotMatterRow, standIns := [], harness := (true, "53c5bdb6f06374f8ad34131f663ba92d800ec5a75b669e3b7151c2438e1a917a"), looks := true }, kinds := [], alts := [], laidByText := true, laidKinds := [.data, .data, .pinned, .pinned, .pinned, .pinned, .pinned], laidTests := true, laidLooks := .later }
def SearchOthersDoNotMatterCardSaid : Prop := Claim7.holds Tryz.pinned (.plain (OpenSpec.ofChange searchOthersDoNotMatterSpec)) searchOthersDoNotMatterCard

/-- THE TIED CARD OF 'posthouselaw7.QueryPrintMatchesSpec'. -/
def queryPrintMatchesSpecCard : Claim7 := { stood := { row := queryPrintMatchesSpecRow, standIns := [], harness := (true, "53c5bdb6f06374f8ad34131f663ba92d800ec5a75b669e3b7151c2438e1a917a"), looks := true }, kinds := [], alts := [], laidByText := true, laidKinds := [.data, .data, .data, .data, .sentinel, .sentinel, .data, .pinned, .pinned, .pinned, .pinned, .pinned], laidTests := true, laidLooks := .later }
def QueryPrintMatchesSpecCardSaid : Prop := Claim7.holds Tryz.pinned (.plain (OpenSpec.ofChange queryPrintMatchesSpecSpec)) queryPrintMatchesSpecCard

/-- THE TIED CARD OF 'posthouselaw7.QueryParseMatchesSpec'. -/
def queryParseMatchesSpecCard : Claim7 := { stood := { row := queryParseMatchesSpecRow, standIns := [], harness := (true, "53c5bdb6f06374f8ad34131f663ba92d800ec5a75b669e3b7151c2438e1a917a"), looks := true }, kinds := [], alts := [], laidByText := true, laidKinds := [.data, .data, .data, .data, .sentinel, .sentinel, .data, .pinned, .pinned, .pinned, .pinned, .pinned], laidTests := true, laidLooks := .later }
def QueryParseMatchesSpecCardSaid : Prop := Claim7.holds Tryz.pinned (.plain (OpenSpec.ofChange queryParseMatchesSpecSpec)) queryParseMatchesSpecCard

/-- THE TIED CARD OF 'posthouselaw7.QueryPrintedIsRead'. -/
def queryPrintedIsReadCard : Claim7 := { stood := { row := queryPrintedIsReadRow, standIns := [], harness := (true, "53c5bdb6f06374f8ad34131f663ba92d800ec5a75b669e3b7151c2438e1a917a"), looks := true }, kinds := [], alts := [], laidByText := true, laidKinds := [.data, .data, .data, .data, .sentinel, .sentinel, .data, .pinned, .pinned, .pinned, .pinned, .pinned], laidTests := true, laidLooks := .later }
def QueryPrintedIsReadCardSaid : Prop := Claim7.holds Tryz.pinned (.plain (OpenSpec.ofChange queryPrintedIsReadSpec)) queryPrintedIsReadCard

/-- THE TIED CARD OF 'posthouselaw7.QueryReadIsPrinted'. -/
def queryReadIsPrintedCard : Claim7 := { stood := { row := queryReadIsPrintedRow, standIns := [], harness := (true, "53c5bdb6f06374f8ad34131f663ba92d800ec5a75b669e3b7151c2438e1a917a"), looks := true }, kinds := [], alts := [], laidByText := true, laidKinds := [.data, .data, .data, .data, .sentinel, .sentinel, .data, .pinned, .pinned, .pinned, .pinned, .pinned], laidTests := true, laidLooks := .later }
def QueryReadIsPrintedCardSaid : Prop := Claim7.holds Tryz.pinned (.plain (OpenSpec.ofChange queryReadIsPrintedSpec)) queryReadIsPrintedCard

/-- THE TIED CARD OF 'posthouselaw7.RankMatchesSpec'. -/
def rankMatchesSpecCard : Claim7 := { stood := { row := rankMatchesSpecRow, standIns := [], harness := (true, "53c5bdb6f06374f8ad34131f663ba92d800ec5a75b669e3b7151c2438e1a917a"), looks := true }, kinds := [], alts := [], laidByText := true, laidKinds := [.data, .data, .pinned, .pinned, .pinned, .pinned, .pinned], laidTests := true, laidLooks := .later }
def RankMatchesSpecCardSaid : Prop := Claim7.holds Tryz.pinned (.plain (OpenSpec.ofChange rankMatchesSpecSpec)) rankMatchesSpecCard

/-- THE TIED CARD OF 'posthouselaw7.RankOrdersWhatIsFound'. -/
def rankOrdersWhatIsFoundCard : Claim7 := { stood := { row := rankOrdersWhatIsFoundRow, standIns := [], harness := (true, "53c5bdb6f06374f8ad34131f663ba92d800ec5a75b669e3b7151c2438e1a917a"), looks := true }, kinds := [], alts := [], laidByText := true, laidKinds := [.data, .data, .pinned, .pinned, .pinned, .pinned, .pinned], laidTests := true, laidLooks := .later }
def RankOrdersWhatIsFoundCardSaid : Prop := Claim7.holds Tryz.pinned (.plain (OpenSpec.ofChange rankOrdersWhatIsFoundSpec)) rankOrdersWhatIsFoundCard

/-- THE TIED CARD OF 'posthouselaw7.RankMoreWordsAreBetter'. -/
def rankMoreWordsAreBetterCard : Claim7 := { stood := { row := rankMoreWordsAreBetterRow, standIns := [], harness := (true, "53c5bdb6f06374f8ad34131f663ba92d800ec5a75b669e3b7151c2438e1a917a"), looks := true }, kinds := [], alts := [], laidByText := true, laidKinds := [.data, .data, .pinned, .pinned, .pinned, .pinned, .pinned], laidTests := true, laidLooks := .later }
def RankMoreWordsAreBetterCardSaid : Prop := Claim7.holds Tryz.pinned (.plain (OpenSpec.ofChange rankMoreWordsAreBetterSpec)) rankMoreWordsAreBetterCard

/-- THE SECOND FORM's CARD OF 'posthouselaw7.IndexMatchesSpec'. -/
def indexMatchesSpecUptoCard : Claim7 := { stood := { row := indexMatchesSpecUptoRow, standIns := [], harness := (true, "53c5bdb6f06374f8ad34131f663ba92d800ec5a75b669e3b7151c2438e1a917a"), looks := true }, kinds := [], alts := [], laidByText := true, laidKinds := [.data, .data, .pinned, .pinned, .pinned, .pinned, .pinned], laidTests := true, laidLooks := .later }
def IndexMatchesSpecUptoCardSaid : Prop := Claim7.holds Tryz.pinned (.plain (OpenSpec.upto indexMatchesSpecSpec)) indexMatchesSpecUptoCard

/-- THE SECOND FORM's CARD OF 'posthouselaw7.SearchMatchesSpec'. -/
def searchMatchesSpecUptoCard : Claim7 := { stood := { row := searchMatchesSpecUptoRow, standIns := [], harness := (true, "53c5bdb6f06374f8ad34131f663ba92d800ec5a75b669e3b7151c2438e1a917a"), looks := true }, kinds := [], alts := [], laidByText := true, laidKinds := [.data, .data, .pinned, .pinned, .pinned, .pinned, .pinned], laidTests := true, laidLooks := .later }
def SearchMatchesSpecUptoCardSaid : Prop := Claim7.holds Tryz.pinned (.plain (OpenSpec.upto searchMatchesSpecSpec)) searchMatchesSpecUptoCard

/-- THE SECOND FORM's CARD OF 'posthouselaw7.SearchObeysLogic'. -/
def searchObeysLogicUptoCard : Claim7 := { stood := { row := searchObeysLogicUptoRow, standIns := [], harness := (true, "53c5bdb6f06374f8ad34131f663ba92d800ec5a75b669e3b7151c2438e1a917a"), looks := true }, kinds := [], alts := [], laidByText := true, laidKinds := [.data, .data, .pinned, .pinned, .pinned, .pinned, .pinned], laidTests := true, laidLooks := .later }
def SearchObeysLogicUptoCardSaid : Prop := Claim7.holds Tryz.pinned (.plain (OpenSpec.upto searchObeysLogicSpec)) searchObeysLogicUptoCard

/-- THE SECOND FORM's CARD OF 'posthouselaw7.SearchFindsWhatIsAdded'. -/
def searchFindsWhatIsAddedUptoCard : Claim7 := { stood := { row := searchFindsWhatIsAddedUptoRow, standIns := [], harness := (true, "53c5bdb6f06374f8ad34131f663ba92d800ec5a75b669e3b7151c2438e1a917a"), looks := true }, kinds := [], alts := [], laidByText := true, laidKinds := [.data, .data, .pinned, .pinned, .pinned, .pinned, .pinned], laidTests := true, laidLooks := .later }
def SearchFindsWhatIsAddedUptoCardSaid : Prop := Claim7.holds Tryz.pinned (.plain (OpenSpec.upto searchFindsWhatIsAddedSpec)) searchFindsWhatIsAddedUptoCard

/-- THE SECOND FORM's CARD OF 'posthouselaw7.SearchOthersDoNotMatter'. -/
def searchOthersDoNotMatterUptoCard : Claim7 := { stood := { row := searchOthersDoNotMatterUptoRow, standIns := [], harness := (true, "53c5bdb6f06374f8ad34131f663ba92d800ec5a75b669e3b7151c2438e1a917a"), looks := true }, kinds := [], alts := [], laidByText := true, laidKinds := [.data, .data, .pinned, .pinned, .pinned, .pinned, .pinned], laidTests := true, laidLooks := .later }
def SearchOthersDoNotMatterUptoCardSaid : Prop := Claim7.holds Tryz.pinned (.plain (OpenSpec.upto searchOthersDoNotMatterSpec)) searchOthersDoNotMatterUptoCard

/-- THE SECOND FORM's CARD OF 'posthouselaw7.QueryPrintMatchesSpec'. -/
def queryPrintMatchesSpecUptoCard : Claim7 := { stood := { row := queryPrintMatchesSpecUptoRow, standIns := [], harness := (true, "53c5bdb6f06374f8ad34131f663ba92d800ec5a75b669e3b7151c2438e1a917a"), looks := true }, kinds := [], alts := [], laidByText := true, laidKinds := [.data, .data, .data, .data, .sentinel, .sentinel, .data, .pinned, .pinned, .pinned, .pinned, .pinned], laidTests := true, laidLooks := .later }
def QueryPrintMatchesSpecUptoCardSaid : Prop := Claim7.holds Tryz.pinned (.plain (OpenSpec.upto queryPrintMatchesSpecSpec)) queryPrintMatchesSpecUptoCard

/-- THE SECOND FORM's CARD OF 'posthouselaw7.QueryParseMatchesSpec'. -/
def queryParseMatchesSpecUptoCard : Claim7 := { stood := { row := queryParseMatchesSpecUptoRow, standIns := [], harness := (true, "53c5bdb6f06374f8ad34131f663ba92d800ec5a75b669e3b7151c2438e1a917a"), looks := true }, kinds := [], alts := [], laidByText := true, laidKinds := [.data, .data, .data, .data, .sentinel, .sentinel, .data, .pinned, .pinned, .pinned, .pinned, .pinned], laidTests := true, laidLooks := .later }
def QueryParseMatchesSpecUptoCardSaid : Prop := Claim7.holds Tryz.pinned (.plain (OpenSpec.upto queryParseMatchesSpecSpec)) queryParseMatchesSpecUptoCard

/-- THE SECOND FORM's CARD OF 'posthouselaw7.QueryPrintedIsRead'. -/
def queryPrintedIsReadUptoCard : Claim7 := { stood := { row := queryPrintedIsReadUptoRow, standIns := [], harness := (true, "53c5bdb6f06374f8ad34131f663ba92d800ec5a75b669e3b7151c2438e1a917a"), looks := true }, kinds := [], alts := [], laidByText := true, laidKinds := [.data, .data, .data, .data, .sentinel, .sentinel, .data, .pinned, .pinned, .pinned, .pinned, .pinned], laidTests := true, laidLooks := .later }
def QueryPrintedIsReadUptoCardSaid : Prop := Claim7.holds Tryz.pinned (.plain (OpenSpec.upto queryPrintedIsReadSpec)) queryPrintedIsReadUptoCard

/-- THE SECOND FORM's CARD OF 'posthouselaw7.QueryReadIsPrinted'. -/
def queryReadIsPrintedUptoCard : Claim7 := { stood := { row := queryReadIsPrintedUptoRow, standIns := [], harness := (true, "53c5bdb6f06374f8ad34131f663ba92d800ec5a75b669e3b7151c2438e1a917a"), looks := true }, kinds := [], alts := [], laidByText := true, laidKinds := [.data, .data, .data, .data, .sentinel, .sentinel, .data, .pinned, .pinned, .pinned, .pinned, .pinned], laidTests := true, laidLooks := .later }
def QueryReadIsPrintedUptoCardSaid : Prop := Claim7.holds Tryz.pinned (.plain (OpenSpec.upto queryReadIsPrintedSpec)) queryReadIsPrintedUptoCard

/-- THE SECOND FORM's CARD OF 'posthouselaw7.RankMatchesSpec'. -/
def rankMatchesSpecUptoCard : Claim7 := { stood := { row := rankMatchesSpecUptoRow, standIns := [], harness := (true, "53c5bdb6f06374f8ad34131f663ba92d800ec5a75b669e3b7151c2438e1a917a"), looks := true }, kinds := [], alts := [], laidByText := true, laidKinds := [.data, .data, .pinned, .pinned, .pinned, .pinned, .pinned], laidTests := true, laidLooks := .later }
def RankMatchesSpecUptoCardSaid : Prop := Claim7.holds Tryz.pinned (.plain (OpenSpec.upto rankMatchesSpecSpec)) rankMatchesSpecUptoCard

/-- THE SECOND FORM's CARD OF 'posthouselaw7.RankOrdersWhatIsFound'. -/
def rankOrdersWhatIsFoundUptoCard : Claim7 := { stood := { row := rankOrdersWhatIsFoundUptoRow, standIns := [], harness := (true, "53c5bdb6f06374f8ad34131f663ba92d800ec5a75b669e3b7151c2438e1a917a"), looks := true }, kinds := [], alts := [], laidByText := true, laidKinds := [.data, .data, .pinned, .pinned, .pinned, .pinned, .pinned], laidTests := true, laidLooks := .later }
def RankOrdersWhatIsFoundUptoCardSaid : Prop := Claim7.holds Tryz.pinned (.plain (OpenSpec.upto rankOrdersWhatIsFoundSpec)) rankOrdersWhatIsFoundUptoCard

/-- THE SECOND FORM's CARD OF 'posthouselaw7.RankMoreWordsAreBetter'. -/
def rankMoreWordsAreBetterUptoCard : Claim7 := { stood := { row := rankMoreWordsAreBetterUptoRow, standIns := [], harness := (true, "53c5bdb6f06374f8ad34131f663ba92d800ec5a75b669e3b7151c2438e1a917a"), looks := true }, kinds := [], alts := [], laidByText := true, laidKinds := [.data, .data, .pinned, .pinned, .pinned, .pinned, .pinned], laidTests := true, laidLooks := .later }
def RankMoreWordsAreBetterUptoCardSaid : Prop := Claim7.holds Tryz.pinned (.plain (OpenSpec.upto rankMoreWordsAreBetterSpec)) rankMoreWordsAreBetterUptoCard
end Rows
end Go.Proofs.YtfjpedgddgbelaaGreatDoor
