/-
  NARROWER THAN 'FOR EVERY INPUT', by the rows' own cells (each row's printed sentence says how): IndexMatchesSpec: laid · IndexOfTexts: laid · SearchMatchesSpec: loops, laid · SearchObeysLogic: loops, laid · SearchFindsWhatIsAdded: laid · SearchOthersDoNotMatter: loops, laid.
  DERIVED. THE GIVEN ROWS OF THIS SEAT. 6 by the template 'for every input the law returns true; each argument reads behind the call as it read before'; 0 by the template 'total and deterministic' (their statements: YtngdfjlodblagaaGreatDoorTotals.lean).
  GIVEN WITH THE SEED: the statements are not yours to turn. If you find one false, say at which input.
  Laid BY PROGRAM, IN A SANDBOX (cutbox-rows.mjs): the forced cells as the released guide's own fill.sh prints them over the translation 5cdc9f691ca74c1a… (all of the seat's roots in one cut). By AI agents, Wed Nov 11 2026. No macro, syntax, notation, axiom, sorry.
-/
import Derived.Test.YtngdfjlodblagaaGreatDoorChecked
import GoSem.PinnedTables
import GoSem.Claim
import GoSem.ClaimJoined
import GoSem.ClaimMapViews
import Derived.JoinedTies
import Derived.KernelRfl
namespace Go.Proofs.YtngdfjlodblagaaGreatDoor
/- THE CELL 'sum', in the pinned program and in every row, IS THE sha256 OF THE DUMP (.gsa) THAT YtngdfjlodblagaaGreatDoorProg.lean LOADS. Nothing in Lean hashes anything: it is a label: what it is worth is what the hold of that sum in a sandbox is worth. -/
noncomputable def Tryz.pinned : Pinned := { name := "ytngdfjlodblagaagreatdoor", sum := "5cdc9f691ca74c1acf70e1dc4777dd3813653db4b3da33c82f01789b5154baad", checked := Tryz.checked }
namespace Rows
def none {H : Type} : Left H := { results := [], args := [] }

/- WHAT THE LISTED PACKAGE-LEVEL VARIABLES READ AS WHEN THE CALL BEGINS. Each datum BY PROGRAM (the guide's laid-datum.mjs) off the statement by which the dump's own 'gosem.cut.vars' lays the variable. In a bare row this is a premise. The card (YtngdfjlodblagaaGreatDoorCards.lean) ties it to the program's text. -/
def laid_unicode_utf8_acceptRanges {H : Type} : DataW H := .agg [.agg [.lit (.int .u8 128), .lit (.int .u8 191)], .agg [.lit (.int .u8 160), .lit (.int .u8 191)], .agg [.lit (.int .u8 128), .lit (.int .u8 159)], .agg [.lit (.int .u8 144), .lit (.int .u8 191)], .agg [.lit (.int .u8 128), .lit (.int .u8 143)], .agg [.lit (.int .u8 0), .lit (.int .u8 0)], .agg [.lit (.int .u8 0), .lit (.int .u8 0)], .agg [.lit (.int .u8 0), .lit (.int .u8 0)], .agg [.lit (.int .u8 0), .lit (.int .u8 0)], .agg [.lit (.int .u8 0), .lit (.int .u8 0)], .agg [.lit (.int .u8 0), .lit (.int .u8 0)], .agg [.lit (.int .u8 0), .lit (.int .u8 0)], .agg [.lit (.int .u8 0), .lit (.int .u8 0)], .agg [.lit (.int .u8 0), .lit (.int .u8 0)], .agg [.lit (.int .u8 0), .lit (.int .u8 0)], .agg [.lit (.int .u8 0), .lit (.int .u8 0)]]
def laid_unicode_properties {H : Type} : DataW H := .agg [.lit (.int .u8 1), .lit (.int .u8 1), .lit (.int .u8 1), .lit (.int .u8 1), .lit (.int .u8 1), .lit (.int .u8 1), .lit (.int .u8 1), .lit (.int .u8 1), .lit (.int .u8 1), .lit (.int .u8 1), .lit (.int .u8 1), .lit (.int .u8 1), .lit (.int .u8 1), .lit (.int .u8 1), .lit (.int .u8 1), .lit (.int .u8 1), .lit (.int .u8 1), .lit (.int .u8 1), .lit (.int .u8 1), .lit (.int .u8 1), .lit (.int .u8 1), .lit (.int .u8 1), .lit (.int .u8 1), .lit (.int .u8 1), .lit (.int .u8 1), .lit (.int .u8 1), .lit (.int .u8 1), .lit (.int .u8 1), .lit (.int .u8 1), .lit (.int .u8 1), .lit (.int .u8 1), .lit (.int .u8 1), .lit (.int .u8 144), .lit (.int .u8 130), .lit (.int .u8 130), .lit (.int .u8 130), .lit (.int .u8 136), .lit (.int .u8 130), .lit (.int .u8 130), .lit (.int .u8 130), .lit (.int .u8 130), .lit (.int .u8 130), .lit (.int .u8 130), .lit (.int .u8 136), .lit (.int .u8 130), .lit (.int .u8 130), .lit (.int .u8 130), .lit (.int .u8 130), .lit (.int .u8 132), .lit (.int .u8 132), .lit (.int .u8 132), .lit (.int .u8 132), .lit (.int .u8 132), .lit (.int .u8 132), .lit (.int .u8 132), .lit (.int .u8 132), .lit (.int .u8 132), .lit (.int .u8 132), .lit (.int .u8 130), .lit (.int .u8 130), .lit (.int .u8 136), .lit (.int .u8 136), .lit (.int .u8 136), .lit (.int .u8 130), .lit (.int .u8 130), .lit (.int .u8 160), .lit (.int .u8 160), .lit (.int .u8 160), .lit (.int .u8 160), .lit (.int .u8 160), .lit (.int .u8 160), .lit (.int .u8 160), .lit (.int .u8 160), .lit (.int .u8 160), .lit (.int .u8 160), .lit (.int .u8 160), .lit (.int .u8 160), .lit (.int .u8 160), .lit (.int .u8 160), .lit (.int .u8 160), .lit (.int .u8 160), .lit (.int .u8 160), .lit (.int .u8 160), .lit (.int .u8 160), .lit (.int .u8 160), .lit (.int .u8 160), .lit (.int .u8 160), .lit (.int .u8 160), .lit (.int .u8 160), .lit (.int .u8 160), .lit (.int .u8 160), .lit (.int .u8 130), .lit (.int .u8 130), .lit (.int .u8 130), .lit (.int .u8 136), .lit (.int .u8 130), .lit (.int .u8 136), .lit (.int .u8 192), .lit (.int .u8 192), .lit (.int .u8 192), .lit (.int .u8 192), .lit (.int .u8 192), .lit (.int .u8 192), .lit (.int .u8 192), .lit (.int .u8 192), .lit (.int .u8 192), .lit (.int .u8 192), .lit (.int .u8 192), .lit (.int .u8 192), .lit (.int .u8 192), .lit (.int .u8 192), .lit (.int .u8 192), .lit (.int .u8 192), .lit (.int .u8 192), .lit (.int .u8 192), .lit (.int .u8 192), .lit (.int .u8 192), .lit (.int .u8 192), .lit (.int .u8 192), .lit (.int .u8 192), .lit (.int .u8 192), .lit (.int .u8 192), .lit (.int .u8 192), .lit (.int .u8 130), .lit (.int .u8 136), .lit (.int .u8 130), .lit (.int .u8 136), .lit (.int .u8 1), .lit (.int .u8 1), .lit (.int .u8 1), .lit (.int .u8 1), .lit (.int .u8 1), .lit (.int .u8 1), .lit (.int .u8 1), .lit (.int .u8 1), .lit (.int .u8 1), .lit (.int .u8 1), .lit (.int .u8 1), .lit (.int .u8 1), .lit (.int .u8 1), .lit (.int .u8 1), .lit (.int .u8 1), .lit (.int .u8 1), .lit (.int .u8 1), .lit (.int .u8 1), .lit (.int .u8 1), .lit (.int .u8 1), .lit (.int .u8 1), .lit (.int .u8 1), .lit (.int .u8 1), .lit (.int .u8 1), .lit (.int .u8 1), .lit (.int .u8 1), .lit (.int .u8 1), .lit (.int .u8 1), .lit (.int .u8 1), .lit (.int .u8 1), .lit (.int .u8 1), .lit (.int .u8 1), .lit (.int .u8 1), .lit (.int .u8 16), .lit (.int .u8 130), .lit (.int .u8 136), .lit (.int .u8 136), .lit (.int .u8 136), .lit (.int .u8 136), .lit (.int .u8 136), .lit (.int .u8 130), .lit (.int .u8 136), .lit (.int .u8 136), .lit (.int .u8 224), .lit (.int .u8 130), .lit (.int .u8 136), .lit (.int .u8 0), .lit (.int .u8 136), .lit (.int .u8 136), .lit (.int .u8 136), .lit (.int .u8 136), .lit (.int .u8 132), .lit (.int .u8 132), .lit (.int .u8 136), .lit (.int .u8 192), .lit (.int .u8 130), .lit (.int .u8 130), .lit (.int .u8 136), .lit (.int .u8 132), .lit (.int .u8 224), .lit (.int .u8 130), .lit (.int .u8 132), .lit (.int .u8 132), .lit (.int .u8 132), .lit (.int .u8 130), .lit (.int .u8 160), .lit (.int .u8 160), .lit (.int .u8 160), .lit (.int .u8 160), .lit (.int .u8 160), .lit (.int .u8 160), .lit (.int .u8 160), .lit (.int .u8 160), .lit (.int .u8 160), .lit (.int .u8 160), .lit (.int .u8 160), .lit (.int .u8 160), .lit (.int .u8 160), .lit (.int .u8 160), .lit (.int .u8 160), .lit (.int .u8 160), .lit (.int .u8 160), .lit (.int .u8 160), .lit (.int .u8 160), .lit (.int .u8 160), .lit (.int .u8 160), .lit (.int .u8 160), .lit (.int .u8 160), .lit (.int .u8 136), .lit (.int .u8 160), .lit (.int .u8 160), .lit (.int .u8 160), .lit (.int .u8 160), .lit (.int .u8 160), .lit (.int .u8 160), .lit (.int .u8 160), .lit (.int .u8 192), .lit (.int .u8 192), .lit (.int .u8 192), .lit (.int .u8 192), .lit (.int .u8 192), .lit (.int .u8 192), .lit (.int .u8 192), .lit (.int .u8 192), .lit (.int .u8 192), .lit (.int .u8 192), .lit (.int .u8 192), .lit (.int .u8 192), .lit (.int .u8 192), .lit (.int .u8 192), .lit (.int .u8 192), .lit (.int .u8 192), .lit (.int .u8 192), .lit (.int .u8 192), .lit (.int .u8 192), .lit (.int .u8 192), .lit (.int .u8 192), .lit (.int .u8 192), .lit (.int .u8 192), .lit (.int .u8 192), .lit (.int .u8 136), .lit (.int .u8 192), .lit (.int .u8 192), .lit (.int .u8 192), .lit (.int .u8 192), .lit (.int .u8 192), .lit (.int .u8 192), .lit (.int .u8 192), .lit (.int .u8 192)]
/-- One of Go's own tables, pinned by name: the form's constant. -/
def laid_unicode_CaseRanges : DataW Unit := Go.Pinned.caseRanges
/-- One of Go's own tables, pinned by name: the form's constant. -/
def laid_unicode_Digit : DataW Unit := Go.Pinned.digit
/-- One of Go's own tables, pinned by name: the form's constant. -/
def laid_unicode_Letter : DataW Unit := Go.Pinned.letter
/-- One of Go's own tables, pinned by name: the form's constant. -/
def laid_unicode_Mark : DataW Unit := Go.Pinned.mark
/-- One of Go's own tables, pinned by name: the form's constant. -/
def laid_unicode_utf8_first : DataW Unit := Go.Pinned.utf8First

/-- 'posthouselaw7.IndexMatchesSpec': WHATEVER THE INPUT: true; the input reads as it did. -/
def indexMatchesSpecSpec : ChangeSpec := { name := "indexMatchesSpec", fn := fun _ => fun
  | [d1, d2, d3, d4] => { results := [.lit (.bool true)], args := [d1, d2, d3, d4] }
  | _ => none }
def indexMatchesSpecRow : OpenClaim := { program := "ytngdfjlodblagaagreatdoor", sum := "5cdc9f691ca74c1acf70e1dc4777dd3813653db4b3da33c82f01789b5154baad", func := "posthouse/posthouselaw7.IndexMatchesSpec", spec := "indexMatchesSpec", inPlace := ["internal/bytealg.IndexByteString", "slices.overlaps[int]", "internal/bytealg.abigen_runtime_cmpstring", "slices.overlaps[posthouse/api.Term]", "slices.overlaps[posthouse/api.Posting]"], unfollowed := true, recurses := true, named := ["unicode/utf8.first", "unicode/utf8.acceptRanges", "unicode.properties", "unicode.Letter", "unicode.Digit", "unicode.Mark", "unicode.CaseRanges"], apart := false, laid := [("unicode/utf8.acceptRanges", laid_unicode_utf8_acceptRanges), ("unicode.properties", laid_unicode_properties), ("unicode.CaseRanges", laid_unicode_CaseRanges), ("unicode.Digit", laid_unicode_Digit), ("unicode.Letter", laid_unicode_Letter), ("unicode.Mark", laid_unicode_Mark), ("unicode/utf8.first", laid_unicode_utf8_first)] }
def IndexMatchesSpecSaid : Prop := indexMatchesSpecRow.holds Tryz.pinned (OpenSpec.ofChange indexMatchesSpecSpec)

/-- ITS FALSE NEIGHBOUR: 'it returns false'. Refute it at one input. -/
def indexMatchesSpecWrong : ChangeSpec := { name := "indexMatchesSpec", fn := fun _ => fun
  | [d1, d2, d3, d4] => { results := [.lit (.bool false)], args := [d1, d2, d3, d4] }
  | _ => none }
def IndexMatchesSpecWrongFalsely : Prop := indexMatchesSpecRow.holds Tryz.pinned (OpenSpec.ofChange indexMatchesSpecWrong)

/-- 'posthouselaw7.IndexOfTexts': WHATEVER THE INPUT: true; the input reads as it did. -/
def indexOfTextsSpec : ChangeSpec := { name := "indexOfTexts", fn := fun _ => fun
  | [d] => { results := [.lit (.bool true)], args := [d] }
  | _ => none }
def indexOfTextsRow : OpenClaim := { program := "ytngdfjlodblagaagreatdoor", sum := "5cdc9f691ca74c1acf70e1dc4777dd3813653db4b3da33c82f01789b5154baad", func := "posthouse/posthouselaw7.IndexOfTexts", spec := "indexOfTexts", inPlace := ["internal/bytealg.IndexByteString", "slices.overlaps[int]", "internal/bytealg.abigen_runtime_cmpstring", "slices.overlaps[posthouse/api.Term]", "slices.overlaps[posthouse/api.Posting]"], unfollowed := true, recurses := true, named := ["unicode/utf8.first", "unicode/utf8.acceptRanges", "unicode.properties", "unicode.Letter", "unicode.Digit", "unicode.Mark", "unicode.CaseRanges"], apart := false, laid := [("unicode/utf8.acceptRanges", laid_unicode_utf8_acceptRanges), ("unicode.properties", laid_unicode_properties), ("unicode.CaseRanges", laid_unicode_CaseRanges), ("unicode.Digit", laid_unicode_Digit), ("unicode.Letter", laid_unicode_Letter), ("unicode.Mark", laid_unicode_Mark), ("unicode/utf8.first", laid_unicode_utf8_first)] }
def IndexOfTextsSaid : Prop := indexOfTextsRow.holds Tryz.pinned (OpenSpec.ofChange indexOfTextsSpec)

/-- ITS FALSE NEIGHBOUR: 'it returns false'. Refute it at one input. -/
def indexOfTextsWrong : ChangeSpec := { name := "indexOfTexts", fn := fun _ => fun
  | [d] => { results := [.lit (.bool false)], args := [d] }
  | _ => none }
def IndexOfTextsWrongFalsely : Prop := indexOfTextsRow.holds Tryz.pinned (OpenSpec.ofChange indexOfTextsWrong)

/-- 'posthouselaw7.SearchMatchesSpec': WHATEVER THE INPUT: true; the input reads as it did. -/
def searchMatchesSpecSpec : ChangeSpec := { name := "searchMatchesSpec", fn := fun _ => fun
  | [d1, d2] => { results := [.lit (.bool true)], args := [d1, d2] }
  | _ => none }
def searchMatchesSpecRow : OpenClaim := { program := "ytngdfjlodblagaagreatdoor", sum := "5cdc9f691ca74c1acf70e1dc4777dd3813653db4b3da33c82f01789b5154baad", func := "posthouse/posthouselaw7.SearchMatchesSpec", spec := "searchMatchesSpec", inPlace := ["internal/bytealg.CountString", "internal/bytealg.IndexByteString", "internal/bytealg.IndexString", "internal/bytealg.abigen_runtime_cmpstring"], unfollowed := true, recurses := true, named := ["unicode/utf8.first", "unicode/utf8.acceptRanges", "internal/bytealg.MaxLen", "unicode.properties", "unicode.Letter", "unicode.Digit", "unicode.Mark", "unicode.CaseRanges"], loops := true, apart := false, laid := [("unicode/utf8.acceptRanges", laid_unicode_utf8_acceptRanges), ("unicode.properties", laid_unicode_properties), ("unicode.CaseRanges", laid_unicode_CaseRanges), ("unicode.Digit", laid_unicode_Digit), ("unicode.Letter", laid_unicode_Letter), ("unicode.Mark", laid_unicode_Mark), ("unicode/utf8.first", laid_unicode_utf8_first)] }
def SearchMatchesSpecSaid : Prop := searchMatchesSpecRow.holds Tryz.pinned (OpenSpec.ofChange searchMatchesSpecSpec)

/-- ITS FALSE NEIGHBOUR: 'it returns false'. Refute it at one input. -/
def searchMatchesSpecWrong : ChangeSpec := { name := "searchMatchesSpec", fn := fun _ => fun
  | [d1, d2] => { results := [.lit (.bool false)], args := [d1, d2] }
  | _ => none }
def SearchMatchesSpecWrongFalsely : Prop := searchMatchesSpecRow.holds Tryz.pinned (OpenSpec.ofChange searchMatchesSpecWrong)

/-- 'posthouselaw7.SearchObeysLogic': WHATEVER THE INPUT: true; the input reads as it did. -/
def searchObeysLogicSpec : ChangeSpec := { name := "searchObeysLogic", fn := fun _ => fun
  | [d1, d2, d3] => { results := [.lit (.bool true)], args := [d1, d2, d3] }
  | _ => none }
def searchObeysLogicRow : OpenClaim := { program := "ytngdfjlodblagaagreatdoor", sum := "5cdc9f691ca74c1acf70e1dc4777dd3813653db4b3da33c82f01789b5154baad", func := "posthouse/posthouselaw7.SearchObeysLogic", spec := "searchObeysLogic", inPlace := ["internal/bytealg.CountString", "internal/bytealg.IndexByteString", "internal/bytealg.IndexString", "internal/bytealg.abigen_runtime_cmpstring"], unfollowed := true, recurses := true, named := ["unicode/utf8.first", "unicode/utf8.acceptRanges", "unicode.properties", "unicode.Letter", "unicode.Digit", "unicode.Mark", "unicode.CaseRanges", "internal/bytealg.MaxLen"], loops := true, apart := false, laid := [("unicode/utf8.acceptRanges", laid_unicode_utf8_acceptRanges), ("unicode.properties", laid_unicode_properties), ("unicode.CaseRanges", laid_unicode_CaseRanges), ("unicode.Digit", laid_unicode_Digit), ("unicode.Letter", laid_unicode_Letter), ("unicode.Mark", laid_unicode_Mark), ("unicode/utf8.first", laid_unicode_utf8_first)] }
def SearchObeysLogicSaid : Prop := searchObeysLogicRow.holds Tryz.pinned (OpenSpec.ofChange searchObeysLogicSpec)

/-- ITS FALSE NEIGHBOUR: 'it returns false'. Refute it at one input. -/
def searchObeysLogicWrong : ChangeSpec := { name := "searchObeysLogic", fn := fun _ => fun
  | [d1, d2, d3] => { results := [.lit (.bool false)], args := [d1, d2, d3] }
  | _ => none }
def SearchObeysLogicWrongFalsely : Prop := searchObeysLogicRow.holds Tryz.pinned (OpenSpec.ofChange searchObeysLogicWrong)

/-- 'posthouselaw7.SearchFindsWhatIsAdded': WHATEVER THE INPUT: true; the input reads as it did. -/
def searchFindsWhatIsAddedSpec : ChangeSpec := { name := "searchFindsWhatIsAdded", fn := fun _ => fun
  | [d1, d2, d3, d4] => { results := [.lit (.bool true)], args := [d1, d2, d3, d4] }
  | _ => none }
def searchFindsWhatIsAddedRow : OpenClaim := { program := "ytngdfjlodblagaagreatdoor", sum := "5cdc9f691ca74c1acf70e1dc4777dd3813653db4b3da33c82f01789b5154baad", func := "posthouse/posthouselaw7.SearchFindsWhatIsAdded", spec := "searchFindsWhatIsAdded", inPlace := ["internal/bytealg.CountString", "internal/bytealg.IndexByteString", "internal/bytealg.IndexString", "internal/bytealg.abigen_runtime_cmpstring", "slices.overlaps[int]", "slices.overlaps[posthouse/api.Term]", "slices.overlaps[posthouse/api.Posting]"], unfollowed := true, recurses := true, named := ["unicode/utf8.first", "unicode/utf8.acceptRanges", "unicode.properties", "unicode.Letter", "unicode.Digit", "unicode.Mark", "unicode.CaseRanges", "internal/bytealg.MaxLen"], apart := false, laid := [("unicode/utf8.acceptRanges", laid_unicode_utf8_acceptRanges), ("unicode.properties", laid_unicode_properties), ("unicode.CaseRanges", laid_unicode_CaseRanges), ("unicode.Digit", laid_unicode_Digit), ("unicode.Letter", laid_unicode_Letter), ("unicode.Mark", laid_unicode_Mark), ("unicode/utf8.first", laid_unicode_utf8_first)] }
def SearchFindsWhatIsAddedSaid : Prop := searchFindsWhatIsAddedRow.holds Tryz.pinned (OpenSpec.ofChange searchFindsWhatIsAddedSpec)

/-- ITS FALSE NEIGHBOUR: 'it returns false'. Refute it at one input. -/
def searchFindsWhatIsAddedWrong : ChangeSpec := { name := "searchFindsWhatIsAdded", fn := fun _ => fun
  | [d1, d2, d3, d4] => { results := [.lit (.bool false)], args := [d1, d2, d3, d4] }
  | _ => none }
def SearchFindsWhatIsAddedWrongFalsely : Prop := searchFindsWhatIsAddedRow.holds Tryz.pinned (OpenSpec.ofChange searchFindsWhatIsAddedWrong)

/-- 'posthouselaw7.SearchOthersDoNotMatter': WHATEVER THE INPUT: true; the input reads as it did. -/
def searchOthersDoNotMatterSpec : ChangeSpec := { name := "searchOthersDoNotMatter", fn := fun _ => fun
  | [d1, d2, d3, d4] => { results := [.lit (.bool true)], args := [d1, d2, d3, d4] }
  | _ => none }
def searchOthersDoNotMatterRow : OpenClaim := { program := "ytngdfjlodblagaagreatdoor", sum := "5cdc9f691ca74c1acf70e1dc4777dd3813653db4b3da33c82f01789b5154baad", func := "posthouse/posthouselaw7.SearchOthersDoNotMatter", spec := "searchOthersDoNotMatter", inPlace := ["internal/bytealg.CountString", "internal/bytealg.IndexByteString", "internal/bytealg.IndexString", "internal/bytealg.abigen_runtime_cmpstring", "slices.overlaps[int]", "slices.overlaps[posthouse/api.Term]", "slices.overlaps[posthouse/api.Posting]"], unfollowed := true, recurses := true, named := ["unicode/utf8.first", "unicode/utf8.acceptRanges", "unicode.properties", "unicode.Letter", "unicode.Digit", "unicode.Mark", "unicode.CaseRanges", "internal/bytealg.MaxLen"], loops := true, apart := false, laid := [("unicode/utf8.acceptRanges", laid_unicode_utf8_acceptRanges), ("unicode.properties", laid_unicode_properties), ("unicode.CaseRanges", laid_unicode_CaseRanges), ("unicode.Digit", laid_unicode_Digit), ("unicode.Letter", laid_unicode_Letter), ("unicode.Mark", laid_unicode_Mark), ("unicode/utf8.first", laid_unicode_utf8_first)] }
def SearchOthersDoNotMatterSaid : Prop := searchOthersDoNotMatterRow.holds Tryz.pinned (OpenSpec.ofChange searchOthersDoNotMatterSpec)

/-- ITS FALSE NEIGHBOUR: 'it returns false'. Refute it at one input. -/
def searchOthersDoNotMatterWrong : ChangeSpec := { name := "searchOthersDoNotMatter", fn := fun _ => fun
  | [d1, d2, d3, d4] => { results := [.lit (.bool false)], args := [d1, d2, d3, d4] }
  | _ => none }
def SearchOthersDoNotMatterWrongFalsely : Prop := searchOthersDoNotMatterRow.holds Tryz.pinned (OpenSpec.ofChange searchOthersDoNotMatterWrong)

/- THE SECOND FORM. 'bulk': how many values and letters a reading holds, each counted each time it is reached (what is shared counts as often as it is met; a slice's spare places count too). A statement '..UptoSaid' is the law's where the arguments, and the package variables that the reading takes, are together of bulk at most 1048576: NARROWER than '..Said'. Prove '..Said' where nothing that the law and all that it calls make is longer than what came in: it says more and counts as full. Else prove '..UptoSaid'. A law counts once. -/
mutual
def uptoBulk {H : Type} : DataW H → Nat
  | .lit (.string bytes) => bytes.length + 1
  | .lit _ => 1
  | .nil => 1
  | .ptr d => uptoBulk d + 1
  | .slice elems spare => uptoBulkAll elems + uptoBulkAll spare + 1
  | .agg parts => uptoBulkAll parts + 1
  | .iface _ d => uptoBulk d + 1
  | .map entries => uptoBulkEntries entries + 1
  | .held _ => 1
def uptoBulkAll {H : Type} : List (DataW H) → Nat
  | [] => 0
  | d :: r => uptoBulk d + uptoBulkAll r
def uptoBulkEntries {H : Type} : List (Lit × DataW H) → Nat
  | [] => 0
  | x :: r => uptoBulkEntry x + uptoBulkEntries r
def uptoBulkEntry {H : Type} : Lit × DataW H → Nat
  | (.string bytes, d) => bytes.length + uptoBulk d + 1
  | (_, d) => uptoBulk d + 1
 end
def uptoSmall : (H : Type) → List (DataW H) → Bool := fun _ ds => decide (uptoBulkAll ds ≤ 1048576)
def OpenSpec.upto (s : _root_.Go.ChangeSpec) : _root_.Go.OpenSpec := { _root_.Go.OpenSpec.ofChange s with cond := some uptoSmall }

/-- 'posthouselaw7.IndexMatchesSpec', WHERE WHAT IT READS IS OF BULK AT MOST 1048576: true; the input reads as it did. -/
def indexMatchesSpecUptoRow : OpenClaim := { program := "ytngdfjlodblagaagreatdoor", sum := "5cdc9f691ca74c1acf70e1dc4777dd3813653db4b3da33c82f01789b5154baad", func := "posthouse/posthouselaw7.IndexMatchesSpec", spec := "indexMatchesSpec", inPlace := ["internal/bytealg.IndexByteString", "slices.overlaps[int]", "internal/bytealg.abigen_runtime_cmpstring", "slices.overlaps[posthouse/api.Term]", "slices.overlaps[posthouse/api.Posting]"], unfollowed := true, recurses := true, named := ["unicode/utf8.first", "unicode/utf8.acceptRanges", "unicode.properties", "unicode.Letter", "unicode.Digit", "unicode.Mark", "unicode.CaseRanges"], apart := false, laid := [("unicode/utf8.acceptRanges", laid_unicode_utf8_acceptRanges), ("unicode.properties", laid_unicode_properties), ("unicode.CaseRanges", laid_unicode_CaseRanges), ("unicode.Digit", laid_unicode_Digit), ("unicode.Letter", laid_unicode_Letter), ("unicode.Mark", laid_unicode_Mark), ("unicode/utf8.first", laid_unicode_utf8_first)], narrowed := true }
def IndexMatchesSpecUptoSaid : Prop := indexMatchesSpecUptoRow.holds Tryz.pinned (OpenSpec.upto indexMatchesSpecSpec)

/-- 'posthouselaw7.IndexOfTexts', WHERE WHAT IT READS IS OF BULK AT MOST 1048576: true; the input reads as it did. -/
def indexOfTextsUptoRow : OpenClaim := { program := "ytngdfjlodblagaagreatdoor", sum := "5cdc9f691ca74c1acf70e1dc4777dd3813653db4b3da33c82f01789b5154baad", func := "posthouse/posthouselaw7.IndexOfTexts", spec := "indexOfTexts", inPlace := ["internal/bytealg.IndexByteString", "slices.overlaps[int]", "internal/bytealg.abigen_runtime_cmpstring", "slices.overlaps[posthouse/api.Term]", "slices.overlaps[posthouse/api.Posting]"], unfollowed := true, recurses := true, named := ["unicode/utf8.first", "unicode/utf8.acceptRanges", "unicode.properties", "unicode.Letter", "unicode.Digit", "unicode.Mark", "unicode.CaseRanges"], apart := false, laid := [("unicode/utf8.acceptRanges", laid_unicode_utf8_acceptRanges), ("unicode.properties", laid_unicode_properties), ("unicode.CaseRanges", laid_unicode_CaseRanges), ("unicode.Digit", laid_unicode_Digit), ("unicode.Letter", laid_unicode_Letter), ("unicode.Mark", laid_unicode_Mark), ("unicode/utf8.first", laid_unicode_utf8_first)], narrowed := true }
def IndexOfTextsUptoSaid : Prop := indexOfTextsUptoRow.holds Tryz.pinned (OpenSpec.upto indexOfTextsSpec)

/-- 'posthouselaw7.SearchMatchesSpec', WHERE WHAT IT READS IS OF BULK AT MOST 1048576: true; the input reads as it did. -/
def searchMatchesSpecUptoRow : OpenClaim := { program := "ytngdfjlodblagaagreatdoor", sum := "5cdc9f691ca74c1acf70e1dc4777dd3813653db4b3da33c82f01789b5154baad", func := "posthouse/posthouselaw7.SearchMatchesSpec", spec := "searchMatchesSpec", inPlace := ["internal/bytealg.CountString", "internal/bytealg.IndexByteString", "internal/bytealg.IndexString", "internal/bytealg.abigen_runtime_cmpstring"], unfollowed := true, recurses := true, named := ["unicode/utf8.first", "unicode/utf8.acceptRanges", "internal/bytealg.MaxLen", "unicode.properties", "unicode.Letter", "unicode.Digit", "unicode.Mark", "unicode.CaseRanges"], loops := true, apart := false, laid := [("unicode/utf8.acceptRanges", laid_unicode_utf8_acceptRanges), ("unicode.properties", laid_unicode_properties), ("unicode.CaseRanges", laid_unicode_CaseRanges), ("unicode.Digit", laid_unicode_Digit), ("unicode.Letter", laid_unicode_Letter), ("unicode.Mark", laid_unicode_Mark), ("unicode/utf8.first", laid_unicode_utf8_first)], narrowed := true }
def SearchMatchesSpecUptoSaid : Prop := searchMatchesSpecUptoRow.holds Tryz.pinned (OpenSpec.upto searchMatchesSpecSpec)

/-- 'posthouselaw7.SearchObeysLogic', WHERE WHAT IT READS IS OF BULK AT MOST 1048576: true; the input reads as it did. -/
def searchObeysLogicUptoRow : OpenClaim := { program := "ytngdfjlodblagaagreatdoor", sum := "5cdc9f691ca74c1acf70e1dc4777dd3813653db4b3da33c82f01789b5154baad", func := "posthouse/posthouselaw7.SearchObeysLogic", spec := "searchObeysLogic", inPlace := ["internal/bytealg.CountString", "internal/bytealg.IndexByteString", "internal/bytealg.IndexString", "internal/bytealg.abigen_runtime_cmpstring"], unfollowed := true, recurses := true, named := ["unicode/utf8.first", "unicode/utf8.acceptRanges", "unicode.properties", "unicode.Letter", "unicode.Digit", "unicode.Mark", "unicode.CaseRanges", "internal/bytealg.MaxLen"], loops := true, apart := false, laid := [("unicode/utf8.acceptRanges", laid_unicode_utf8_acceptRanges), ("unicode.properties", laid_unicode_properties), ("unicode.CaseRanges", laid_unicode_CaseRanges), ("unicode.Digit", laid_unicode_Digit), ("unicode.Letter", laid_unicode_Letter), ("unicode.Mark", laid_unicode_Mark), ("unicode/utf8.first", laid_unicode_utf8_first)], narrowed := true }
def SearchObeysLogicUptoSaid : Prop := searchObeysLogicUptoRow.holds Tryz.pinned (OpenSpec.upto searchObeysLogicSpec)

/-- 'posthouselaw7.SearchFindsWhatIsAdded', WHERE WHAT IT READS IS OF BULK AT MOST 1048576: true; the input reads as it did. -/
def searchFindsWhatIsAddedUptoRow : OpenClaim := { program := "ytngdfjlodblagaagreatdoor", sum := "5cdc9f691ca74c1acf70e1dc4777dd3813653db4b3da33c82f01789b5154baad", func := "posthouse/posthouselaw7.SearchFindsWhatIsAdded", spec := "searchFindsWhatIsAdded", inPlace := ["internal/bytealg.CountString", "internal/bytealg.IndexByteString", "internal/bytealg.IndexString", "internal/bytealg.abigen_runtime_cmpstring", "slices.overlaps[int]", "slices.overlaps[posthouse/api.Term]", "slices.overlaps[posthouse/api.Posting]"], unfollowed := true, recurses := true, named := ["unicode/utf8.first", "unicode/utf8.acceptRanges", "unicode.properties", "unicode.Letter", "unicode.Digit", "unicode.Mark", "unicode.CaseRanges", "internal/bytealg.MaxLen"], apart := false, laid := [("unicode/utf8.acceptRanges", laid_unicode_utf8_acceptRanges), ("unicode.properties", laid_unicode_properties), ("unicode.CaseRanges", laid_unicode_CaseRanges), ("unicode.Digit", laid_unicode_Digit), ("unicode.Letter", laid_unicode_Letter), ("unicode.Mark", laid_unicode_Mark), ("unicode/utf8.first", laid_unicode_utf8_first)], narrowed := true }
def SearchFindsWhatIsAddedUptoSaid : Prop := searchFindsWhatIsAddedUptoRow.holds Tryz.pinned (OpenSpec.upto searchFindsWhatIsAddedSpec)

/-- 'posthouselaw7.SearchOthersDoNotMatter', WHERE WHAT IT READS IS OF BULK AT MOST 1048576: true; the input reads as it did. -/
def searchOthersDoNotMatterUptoRow : OpenClaim := { program := "ytngdfjlodblagaagreatdoor", sum := "5cdc9f691ca74c1acf70e1dc4777dd3813653db4b3da33c82f01789b5154baad", func := "posthouse/posthouselaw7.SearchOthersDoNotMatter", spec := "searchOthersDoNotMatter", inPlace := ["internal/bytealg.CountString", "internal/bytealg.IndexByteString", "internal/bytealg.IndexString", "internal/bytealg.abigen_runtime_cmpstring", "slices.overlaps[int]", "slices.overlaps[posthouse/api.Term]", "slices.overlaps[posthouse/api.Posting]"], unfollowed := true, recurses := true, named := ["unicode/utf8.first", "unicode/utf8.acceptRanges", "unicode.properties", "unicode.Letter", "unicode.Digit", "unicode.Mark", "unicode.CaseRanges", "internal/bytealg.MaxLen"], loops := true, apart := false, laid := [("unicode/utf8.acceptRanges", laid_unicode_utf8_acceptRanges), ("unicode.properties", laid_unicode_properties), ("unicode.CaseRanges", laid_unicode_CaseRanges), ("unicode.Digit", laid_unicode_Digit), ("unicode.Letter", laid_unicode_Letter), ("unicode.Mark", laid_unicode_Mark), ("unicode/utf8.first", laid_unicode_utf8_first)], narrowed := true }
def SearchOthersDoNotMatterUptoSaid : Prop := searchOthersDoNotMatterUptoRow.holds Tryz.pinned (OpenSpec.upto searchOthersDoNotMatterSpec)

end Rows
end Go.Proofs.YtngdfjlodblagaaGreatDoor
