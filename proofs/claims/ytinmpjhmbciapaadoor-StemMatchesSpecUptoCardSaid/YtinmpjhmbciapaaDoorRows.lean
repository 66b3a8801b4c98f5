/-
  NARROWER THAN 'FOR EVERY INPUT', by the rows' own cells (each row's printed sentence says how): StemMatchesSpec: laid · StemIsIdempotent: laid · StemWordsAreStable: laid · StemTextsJoin: laid · FoldersStayValid: laid · FoldersRenameBackYieldsAll: laid · FoldersDeleteUndoesCreate: laid.
  DERIVED. THE GIVEN ROWS OF THIS SEAT. 7 by the template 'for every input the law returns true; each argument reads behind the call as it read before'; 0 by the template 'total and deterministic' (their statements: YtinmpjhmbciapaaDoorTotals.lean).
  GIVEN WITH THE SEED: the statements are not yours to turn. If you find one false, say at which input.
  Laid BY PROGRAM, IN A SANDBOX (cutbox-rows.mjs): the forced cells as the released guide's own fill.sh prints them over the translation 6e589e788d518190… (all of the seat's roots in one cut). By AI agents, Wed Nov 11 2026. No macro, syntax, notation, axiom, sorry.
-/
import Derived.Test.YtinmpjhmbciapaaDoorChecked
import GoSem.PinnedTables
import GoSem.Claim
import GoSem.ClaimJoined
import GoSem.ClaimMapViews
import Derived.JoinedTies
import Derived.KernelRfl
namespace Go.Proofs.YtinmpjhmbciapaaDoor
/- THE CELL 'sum', in the pinned program and in every row, IS THE sha256 OF THE DUMP (.gsa) THAT YtinmpjhmbciapaaDoorProg.lean LOADS. Nothing in Lean hashes anything: it is a label: what it is worth is what the hold of that sum in a sandbox is worth. -/
noncomputable def Tryd.pinned : Pinned := { name := "ytinmpjhmbciapaadoor", sum := "6e589e788d518190904f8f063c62cee2ec50f055087db889ad1995736fd75ac8", checked := Tryd.checked }
namespace Rows
def none {H : Type} : Left H := { results := [], args := [] }

/- WHAT THE LISTED PACKAGE-LEVEL VARIABLES READ AS WHEN THE CALL BEGINS. Each datum BY PROGRAM (the guide's laid-datum.mjs) off the statement by which the dump's own 'gosem.cut.vars' lays the variable. In a bare row this is a premise. The card (YtinmpjhmbciapaaDoorCards.lean) ties it to the program's text. -/
def laid_unicode_utf8_acceptRanges {H : Type} : DataW H := .agg [.agg [.lit (.int .u8 128), .lit (.int .u8 191)], .agg [.lit (.int .u8 160), .lit (.int .u8 191)], .agg [.lit (.int .u8 128), .lit (.int .u8 159)], .agg [.lit (.int .u8 144), .lit (.int .u8 191)], .agg [.lit (.int .u8 128), .lit (.int .u8 143)], .agg [.lit (.int .u8 0), .lit (.int .u8 0)], .agg [.lit (.int .u8 0), .lit (.int .u8 0)], .agg [.lit (.int .u8 0), .lit (.int .u8 0)], .agg [.lit (.int .u8 0), .lit (.int .u8 0)], .agg [.lit (.int .u8 0), .lit (.int .u8 0)], .agg [.lit (.int .u8 0), .lit (.int .u8 0)], .agg [.lit (.int .u8 0), .lit (.int .u8 0)], .agg [.lit (.int .u8 0), .lit (.int .u8 0)], .agg [.lit (.int .u8 0), .lit (.int .u8 0)], .agg [.lit (.int .u8 0), .lit (.int .u8 0)], .agg [.lit (.int .u8 0), .lit (.int .u8 0)]]
def laid_unicode_properties {H : Type} : DataW H := .agg [.lit (.int .u8 1), .lit (.int .u8 1), .lit (.int .u8 1), .lit (.int .u8 1), .lit (.int .u8 1), .lit (.int .u8 1), .lit (.int .u8 1), .lit (.int .u8 1), .lit (.int .u8 1), .lit (.int .u8 1), .lit (.int .u8 1), .lit (.int .u8 1), .lit (.int .u8 1), .lit (.int .u8 1), .lit (.int .u8 1), .lit (.int .u8 1), .lit (.int .u8 1), .lit (.int .u8 1), .lit (.int .u8 1), .lit (.int .u8 1), .lit (.int .u8 1), .lit (.int .u8 1), .lit (.int .u8 1), .lit (.int .u8 1), .lit (.int .u8 1), .lit (.int .u8 1), .lit (.int .u8 1), .lit (.int .u8 1), .lit (.int .u8 1), .lit (.int .u8 1), .lit (.int .u8 1), .lit (.int .u8 1), .lit (.int .u8 144), .lit (.int .u8 130), .lit (.int .u8 130), .lit (.int .u8 130), .lit (.int .u8 136), .lit (.int .u8 130), .lit (.int .u8 130), .lit (.int .u8 130), .lit (.int .u8 130), .lit (.int .u8 130), .lit (.int .u8 130), .lit (.int .u8 136), .lit (.int .u8 130), .lit (.int .u8 130), .lit (.int .u8 130), .lit (.int .u8 130), .lit (.int .u8 132), .lit (.int .u8 132), .lit (.int .u8 132), .lit (.int .u8 132), .lit (.int .u8 132), .lit (.int .u8 132), .lit (.int .u8 132), .lit (.int .u8 132), .lit (.int .u8 132), .lit (.int .u8 132), .lit (.int .u8 130), .lit (.int .u8 130), .lit (.int .u8 136), .lit (.int .u8 136), .lit (.int .u8 136), .lit (.int .u8 130), .lit (.int .u8 130), .lit (.int .u8 160), .lit (.int .u8 160), .lit (.int .u8 160), .lit (.int .u8 160), .lit (.int .u8 160), .lit (.int .u8 160), .lit (.int .u8 160), .lit (.int .u8 160), .lit (.int .u8 160), .lit (.int .u8 160), .lit (.int .u8 160), .lit (.int .u8 160), .lit (.int .u8 160), .lit (.int .u8 160), .lit (.int .u8 160), .lit (.int .u8 160), .lit (.int .u8 160), .lit (.int .u8 160), .lit (.int .u8 160), .lit (.int .u8 160), .lit (.int .u8 160), .lit (.int .u8 160), .lit (.int .u8 160), .lit (.int .u8 160), .lit (.int .u8 160), .lit (.int .u8 160), .lit (.int .u8 130), .lit (.int .u8 130), .lit (.int .u8 130), .lit (.int .u8 136), .lit (.int .u8 130), .lit (.int .u8 136), .lit (.int .u8 192), .lit (.int .u8 192), .lit (.int .u8 192), .lit (.int .u8 192), .lit (.int .u8 192), .lit (.int .u8 192), .lit (.int .u8 192), .lit (.int .u8 192), .lit (.int .u8 192), .lit (.int .u8 192), .lit (.int .u8 192), .lit (.int .u8 192), .lit (.int .u8 192), .lit (.int .u8 192), .lit (.int .u8 192), .lit (.int .u8 192), .lit (.int .u8 192), .lit (.int .u8 192), .lit (.int .u8 192), .lit (.int .u8 192), .lit (.int .u8 192), .lit (.int .u8 192), .lit (.int .u8 192), .lit (.int .u8 192), .lit (.int .u8 192), .lit (.int .u8 192), .lit (.int .u8 130), .lit (.int .u8 136), .lit (.int .u8 130), .lit (.int .u8 136), .lit (.int .u8 1), .lit (.int .u8 1), .lit (.int .u8 1), .lit (.int .u8 1), .lit (.int .u8 1), .lit (.int .u8 1), .lit (.int .u8 1), .lit (.int .u8 1), .lit (.int .u8 1), .lit (.int .u8 1), .lit (.int .u8 1), .lit (.int .u8 1), .lit (.int .u8 1), .lit (.int .u8 1), .lit (.int .u8 1), .lit (.int .u8 1), .lit (.int .u8 1), .lit (.int .u8 1), .lit (.int .u8 1), .lit (.int .u8 1), .lit (.int .u8 1), .lit (.int .u8 1), .lit (.int .u8 1), .lit (.int .u8 1), .lit (.int .u8 1), .lit (.int .u8 1), .lit (.int .u8 1), .lit (.int .u8 1), .lit (.int .u8 1), .lit (.int .u8 1), .lit (.int .u8 1), .lit (.int .u8 1), .lit (.int .u8 1), .lit (.int .u8 16), .lit (.int .u8 130), .lit (.int .u8 136), .lit (.int .u8 136), .lit (.int .u8 136), .lit (.int .u8 136), .lit (.int .u8 136), .lit (.int .u8 130), .lit (.int .u8 136), .lit (.int .u8 136), .lit (.int .u8 224), .lit (.int .u8 130), .lit (.int .u8 136), .lit (.int .u8 0), .lit (.int .u8 136), .lit (.int .u8 136), .lit (.int .u8 136), .lit (.int .u8 136), .lit (.int .u8 132), .lit (.int .u8 132), .lit (.int .u8 136), .lit (.int .u8 192), .lit (.int .u8 130), .lit (.int .u8 130), .lit (.int .u8 136), .lit (.int .u8 132), .lit (.int .u8 224), .lit (.int .u8 130), .lit (.int .u8 132), .lit (.int .u8 132), .lit (.int .u8 132), .lit (.int .u8 130), .lit (.int .u8 160), .lit (.int .u8 160), .lit (.int .u8 160), .lit (.int .u8 160), .lit (.int .u8 160), .lit (.int .u8 160), .lit (.int .u8 160), .lit (.int .u8 160), .lit (.int .u8 160), .lit (.int .u8 160), .lit (.int .u8 160), .lit (.int .u8 160), .lit (.int .u8 160), .lit (.int .u8 160), .lit (.int .u8 160), .lit (.int .u8 160), .lit (.int .u8 160), .lit (.int .u8 160), .lit (.int .u8 160), .lit (.int .u8 160), .lit (.int .u8 160), .lit (.int .u8 160), .lit (.int .u8 160), .lit (.int .u8 136), .lit (.int .u8 160), .lit (.int .u8 160), .lit (.int .u8 160), .lit (.int .u8 160), .lit (.int .u8 160), .lit (.int .u8 160), .lit (.int .u8 160), .lit (.int .u8 192), .lit (.int .u8 192), .lit (.int .u8 192), .lit (.int .u8 192), .lit (.int .u8 192), .lit (.int .u8 192), .lit (.int .u8 192), .lit (.int .u8 192), .lit (.int .u8 192), .lit (.int .u8 192), .lit (.int .u8 192), .lit (.int .u8 192), .lit (.int .u8 192), .lit (.int .u8 192), .lit (.int .u8 192), .lit (.int .u8 192), .lit (.int .u8 192), .lit (.int .u8 192), .lit (.int .u8 192), .lit (.int .u8 192), .lit (.int .u8 192), .lit (.int .u8 192), .lit (.int .u8 192), .lit (.int .u8 192), .lit (.int .u8 136), .lit (.int .u8 192), .lit (.int .u8 192), .lit (.int .u8 192), .lit (.int .u8 192), .lit (.int .u8 192), .lit (.int .u8 192), .lit (.int .u8 192), .lit (.int .u8 192)]
/-- One of Go's own tables, pinned by name: the form's constant. -/
def laid_unicode_CaseRanges : DataW Unit := Go.Pinned.caseRanges
/-- One of Go's own tables, pinned by name: the form's constant. -/
def laid_unicode_Digit : DataW Unit := Go.Pinned.digit
/-- One of Go's own tables, pinned by name: the form's constant. -/
def laid_unicode_Letter : DataW Unit := Go.Pinned.letter
/-- One of Go's own tables, pinned by name: the form's constant. -/
def laid_unicode_Mark : DataW Unit := Go.Pinned.mark
/-- One of Go's own tables, pinned by name: the form's constant. -/
def laid_unicode_utf8_first : DataW Unit := Go.Pinned.utf8First

/-- 'posthouselaw7.StemMatchesSpec': WHATEVER THE INPUT: true; the input reads as it did. -/
def stemMatchesSpecSpec : ChangeSpec := { name := "stemMatchesSpec", fn := fun _ => fun
  | [d] => { results := [.lit (.bool true)], args := [d] }
  | _ => none }
def stemMatchesSpecRow : OpenClaim := { program := "ytinmpjhmbciapaadoor", sum := "6e589e788d518190904f8f063c62cee2ec50f055087db889ad1995736fd75ac8", func := "posthouse/posthouselaw7.StemMatchesSpec", spec := "stemMatchesSpec", inPlace := ["internal/bytealg.IndexByteString"], unfollowed := true, recurses := true, named := ["unicode/utf8.first", "unicode/utf8.acceptRanges", "unicode.properties", "unicode.Letter", "unicode.Digit", "unicode.Mark", "unicode.CaseRanges"], apart := false, laid := [("unicode/utf8.acceptRanges", laid_unicode_utf8_acceptRanges), ("unicode.properties", laid_unicode_properties), ("unicode.CaseRanges", laid_unicode_CaseRanges), ("unicode.Digit", laid_unicode_Digit), ("unicode.Letter", laid_unicode_Letter), ("unicode.Mark", laid_unicode_Mark), ("unicode/utf8.first", laid_unicode_utf8_first)] }
def StemMatchesSpecSaid : Prop := stemMatchesSpecRow.holds Tryd.pinned (OpenSpec.ofChange stemMatchesSpecSpec)

/-- ITS FALSE NEIGHBOUR: 'it returns false'. Refute it at one input. -/
def stemMatchesSpecWrong : ChangeSpec := { name := "stemMatchesSpec", fn := fun _ => fun
  | [d] => { results := [.lit (.bool false)], args := [d] }
  | _ => none }
def StemMatchesSpecWrongFalsely : Prop := stemMatchesSpecRow.holds Tryd.pinned (OpenSpec.ofChange stemMatchesSpecWrong)

/-- 'posthouselaw7.StemIsIdempotent': WHATEVER THE INPUT: true; the input reads as it did. -/
def stemIsIdempotentSpec : ChangeSpec := { name := "stemIsIdempotent", fn := fun _ => fun
  | [d] => { results := [.lit (.bool true)], args := [d] }
  | _ => none }
def stemIsIdempotentRow : OpenClaim := { program := "ytinmpjhmbciapaadoor", sum := "6e589e788d518190904f8f063c62cee2ec50f055087db889ad1995736fd75ac8", func := "posthouse/posthouselaw7.StemIsIdempotent", spec := "stemIsIdempotent", inPlace := ["internal/bytealg.IndexByteString"], unfollowed := true, recurses := true, named := ["unicode/utf8.first", "unicode/utf8.acceptRanges", "unicode.properties", "unicode.Letter", "unicode.Digit", "unicode.Mark", "unicode.CaseRanges"], apart := false, laid := [("unicode/utf8.acceptRanges", laid_unicode_utf8_acceptRanges), ("unicode.properties", laid_unicode_properties), ("unicode.CaseRanges", laid_unicode_CaseRanges), ("unicode.Digit", laid_unicode_Digit), ("unicode.Letter", laid_unicode_Letter), ("unicode.Mark", laid_unicode_Mark), ("unicode/utf8.first", laid_unicode_utf8_first)] }
def StemIsIdempotentSaid : Prop := stemIsIdempotentRow.holds Tryd.pinned (OpenSpec.ofChange stemIsIdempotentSpec)

/-- ITS FALSE NEIGHBOUR: 'it returns false'. Refute it at one input. -/
def stemIsIdempotentWrong : ChangeSpec := { name := "stemIsIdempotent", fn := fun _ => fun
  | [d] => { results := [.lit (.bool false)], args := [d] }
  | _ => none }
def StemIsIdempotentWrongFalsely : Prop := stemIsIdempotentRow.holds Tryd.pinned (OpenSpec.ofChange stemIsIdempotentWrong)

/-- 'posthouselaw7.StemWordsAreStable': WHATEVER THE INPUT: true; the input reads as it did. -/
def stemWordsAreStableSpec : ChangeSpec := { name := "stemWordsAreStable", fn := fun _ => fun
  | [d] => { results := [.lit (.bool true)], args := [d] }
  | _ => none }
def stemWordsAreStableRow : OpenClaim := { program := "ytinmpjhmbciapaadoor", sum := "6e589e788d518190904f8f063c62cee2ec50f055087db889ad1995736fd75ac8", func := "posthouse/posthouselaw7.StemWordsAreStable", spec := "stemWordsAreStable", inPlace := ["internal/bytealg.IndexByteString"], unfollowed := true, recurses := true, named := ["unicode/utf8.first", "unicode/utf8.acceptRanges", "unicode.properties", "unicode.Letter", "unicode.Digit", "unicode.Mark", "unicode.CaseRanges"], apart := false, laid := [("unicode/utf8.acceptRanges", laid_unicode_utf8_acceptRanges), ("unicode.properties", laid_unicode_properties), ("unicode.CaseRanges", laid_unicode_CaseRanges), ("unicode.Digit", laid_unicode_Digit), ("unicode.Letter", laid_unicode_Letter), ("unicode.Mark", laid_unicode_Mark), ("unicode/utf8.first", laid_unicode_utf8_first)] }
def StemWordsAreStableSaid : Prop := stemWordsAreStableRow.holds Tryd.pinned (OpenSpec.ofChange stemWordsAreStableSpec)

/-- ITS FALSE NEIGHBOUR: 'it returns false'. Refute it at one input. -/
def stemWordsAreStableWrong : ChangeSpec := { name := "stemWordsAreStable", fn := fun _ => fun
  | [d] => { results := [.lit (.bool false)], args := [d] }
  | _ => none }
def StemWordsAreStableWrongFalsely : Prop := stemWordsAreStableRow.holds Tryd.pinned (OpenSpec.ofChange stemWordsAreStableWrong)

/-- 'posthouselaw7.StemTextsJoin': WHATEVER THE INPUT: true; the input reads as it did. -/
def stemTextsJoinSpec : ChangeSpec := { name := "stemTextsJoin", fn := fun _ => fun
  | [d1, d2] => { results := [.lit (.bool true)], args := [d1, d2] }
  | _ => none }
def stemTextsJoinRow : OpenClaim := { program := "ytinmpjhmbciapaadoor", sum := "6e589e788d518190904f8f063c62cee2ec50f055087db889ad1995736fd75ac8", func := "posthouse/posthouselaw7.StemTextsJoin", spec := "stemTextsJoin", inPlace := ["internal/bytealg.IndexByteString"], unfollowed := true, recurses := true, named := ["unicode/utf8.first", "unicode/utf8.acceptRanges", "unicode.properties", "unicode.Letter", "unicode.Digit", "unicode.Mark", "unicode.CaseRanges"], apart := false, laid := [("unicode/utf8.acceptRanges", laid_unicode_utf8_acceptRanges), ("unicode.properties", laid_unicode_properties), ("unicode.CaseRanges", laid_unicode_CaseRanges), ("unicode.Digit", laid_unicode_Digit), ("unicode.Letter", laid_unicode_Letter), ("unicode.Mark", laid_unicode_Mark), ("unicode/utf8.first", laid_unicode_utf8_first)] }
def StemTextsJoinSaid : Prop := stemTextsJoinRow.holds Tryd.pinned (OpenSpec.ofChange stemTextsJoinSpec)

/-- ITS FALSE NEIGHBOUR: 'it returns false'. Refute it at one input. -/
def stemTextsJoinWrong : ChangeSpec := { name := "stemTextsJoin", fn := fun _ => fun
  | [d1, d2] => { results := [.lit (.bool false)], args := [d1, d2] }
  | _ => none }
def StemTextsJoinWrongFalsely : Prop := stemTextsJoinRow.holds Tryd.pinned (OpenSpec.ofChange stemTextsJoinWrong)

/-- 'posthouselaw7.FoldersStayValid': WHATEVER THE INPUT: true; the input reads as it did. -/
def foldersStayValidSpec : ChangeSpec := { name := "foldersStayValid", fn := fun _ => fun
  | [d1, d2, d3] => { results := [.lit (.bool true)], args := [d1, d2, d3] }
  | _ => none }
def foldersStayValidRow : OpenClaim := { program := "ytinmpjhmbciapaadoor", sum := "6e589e788d518190904f8f063c62cee2ec50f055087db889ad1995736fd75ac8", func := "posthouse/posthouselaw7.FoldersStayValid", spec := "foldersStayValid", inPlace := ["internal/bytealg.CountString", "internal/bytealg.IndexByteString", "internal/bytealg.IndexString", "slices.overlaps[string]"], unfollowed := true, recurses := true, named := ["unicode/utf8.first", "unicode/utf8.acceptRanges", "internal/bytealg.MaxLen"], apart := false, laid := [("unicode/utf8.acceptRanges", laid_unicode_utf8_acceptRanges), ("unicode/utf8.first", laid_unicode_utf8_first)] }
def FoldersStayValidSaid : Prop := foldersStayValidRow.holds Tryd.pinned (OpenSpec.ofChange foldersStayValidSpec)

/-- ITS FALSE NEIGHBOUR: 'it returns false'. Refute it at one input. -/
def foldersStayValidWrong : ChangeSpec := { name := "foldersStayValid", fn := fun _ => fun
  | [d1, d2, d3] => { results := [.lit (.bool false)], args := [d1, d2, d3] }
  | _ => none }
def FoldersStayValidWrongFalsely : Prop := foldersStayValidRow.holds Tryd.pinned (OpenSpec.ofChange foldersStayValidWrong)

/-- 'posthouselaw7.FoldersRenameBackYieldsAll': WHATEVER THE INPUT: true; the input reads as it did. -/
def foldersRenameBackYieldsAllSpec : ChangeSpec := { name := "foldersRenameBackYieldsAll", fn := fun _ => fun
  | [d1, d2, d3] => { results := [.lit (.bool true)], args := [d1, d2, d3] }
  | _ => none }
def foldersRenameBackYieldsAllRow : OpenClaim := { program := "ytinmpjhmbciapaadoor", sum := "6e589e788d518190904f8f063c62cee2ec50f055087db889ad1995736fd75ac8", func := "posthouse/posthouselaw7.FoldersRenameBackYieldsAll", spec := "foldersRenameBackYieldsAll", inPlace := ["internal/bytealg.CountString", "internal/bytealg.IndexByteString", "internal/bytealg.IndexString", "slices.overlaps[string]"], unfollowed := true, recurses := true, named := ["unicode/utf8.first", "unicode/utf8.acceptRanges", "internal/bytealg.MaxLen"], apart := false, laid := [("unicode/utf8.acceptRanges", laid_unicode_utf8_acceptRanges), ("unicode/utf8.first", laid_unicode_utf8_first)] }
def FoldersRenameBackYieldsAllSaid : Prop := foldersRenameBackYieldsAllRow.holds Tryd.pinned (OpenSpec.ofChange foldersRenameBackYieldsAllSpec)

/-- ITS FALSE NEIGHBOUR: 'it returns false'. Refute it at one input. -/
def foldersRenameBackYieldsAllWrong : ChangeSpec := { name := "foldersRenameBackYieldsAll", fn := fun _ => fun
  | [d1, d2, d3] => { results := [.lit (.bool false)], args := [d1, d2, d3] }
  | _ => none }
def FoldersRenameBackYieldsAllWrongFalsely : Prop := foldersRenameBackYieldsAllRow.holds Tryd.pinned (OpenSpec.ofChange foldersRenameBackYieldsAllWrong)

/-- 'posthouselaw7.FoldersDeleteUndoesCreate': WHATEVER THE INPUT: true; the input reads as it did. -/
def foldersDeleteUndoesCreateSpec : ChangeSpec := { name := "foldersDeleteUndoesCreate", fn := fun _ => fun
  | [d1, d2] => { results := [.lit (.bool true)], args := [d1, d2] }
  | _ => none }
def foldersDeleteUndoesCreateRow : OpenClaim := { program := "ytinmpjhmbciapaadoor", sum := "6e589e788d518190904f8f063c62cee2ec50f055087db889ad1995736fd75ac8", func := "posthouse/posthouselaw7.FoldersDeleteUndoesCreate", spec := "foldersDeleteUndoesCreate", inPlace := ["internal/bytealg.CountString", "internal/bytealg.IndexByteString", "internal/bytealg.IndexString", "slices.overlaps[string]"], unfollowed := true, recurses := true, named := ["unicode/utf8.first", "unicode/utf8.acceptRanges", "internal/bytealg.MaxLen"], apart := false, laid := [("unicode/utf8.acceptRanges", laid_unicode_utf8_acceptRanges), ("unicode/utf8.first", laid_unicode_utf8_first)] }
def FoldersDeleteUndoesCreateSaid : Prop := foldersDeleteUndoesCreateRow.holds Tryd.pinned (OpenSpec.ofChange foldersDeleteUndoesCreateSpec)

/-- ITS FALSE NEIGHBOUR: 'it returns false'. Refute it at one input. -/
def foldersDeleteUndoesCreateWrong : ChangeSpec := { name := "foldersDeleteUndoesCreate", fn := fun _ => fun
  | [d1, d2] => { results := [.lit (.bool false)], args := [d1, d2] }
  | _ => none }
def FoldersDeleteUndoesCreateWrongFalsely : Prop := foldersDeleteUndoesCreateRow.holds Tryd.pinned (OpenSpec.ofChange foldersDeleteUndoesCreateWrong)

/- THE SECOND FORM. 'bulk': how many values and letters a reading holds, each counted each time it is reached (what is shared counts as often as it is met; a slice's spare places count too). A statement '..UptoSaid' is the law's where the arguments, and the package variables that the reading takes, are together of bulk at most 1048576: NARROWER than '..Said'. Prove '..Said' where nothing that the law and all that it calls make is longer than what came in: it says more and counts as full. Else prove '..UptoSaid'. A law counts once. -/
mutual
def uptoBulk {H : Type} : DataW H → Nat
  | .lit (.string bytes) => bytes.length + 1
  | .lit _ => 1
  | .nil => 1
  | .ptr d => uptoBulk d + 1
  | .slice elems spare => uptoBulkAll elems + uptoBulkAll spare + 1
  | .agg parts => uptoBulkAll parts + 1
  | .iface _ d => uptoBulk d + 1
  | .map entries => uptoBulkEntries entries + 1
  | .held _ => 1
def uptoBulkAll {H : Type} : List (DataW H) → Nat
  | [] => 0
  | d :: r => uptoBulk d + uptoBulkAll r
def uptoBulkEntries {H : Type} : List (Lit × DataW H) → Nat
  | [] => 0
  | x :: r => uptoBulkEntry x + uptoBulkEntries r
def uptoBulkEntry {H : Type} : Lit × DataW H → Nat
  | (.string bytes, d) => bytes.length + uptoBulk d + 1
  | (_, d) => uptoBulk d + 1
 end
def uptoSmall : (H : Type) → List (DataW H) → Bool := fun _ ds => decide (uptoBulkAll ds ≤ 1048576)
def OpenSpec.upto (s : _root_.Go.ChangeSpec) : _root_.Go.OpenSpec := { _root_.Go.OpenSpec.ofChange s with cond := some uptoSmall }

/-- 'posthouselaw7.StemMatchesSpec', WHERE WHAT IT READS IS OF BULK AT MOST 1048576: true; the input reads as it did. -/
def stemMatchesSpecUptoRow : OpenClaim := { program := "ytinmpjhmbciapaadoor", sum := "6e589e788d518190904f8f063c62cee2ec50f055087db889ad1995736fd75ac8", func := "posthouse/posthouselaw7.StemMatchesSpec", spec := "stemMatchesSpec", inPlace := ["internal/bytealg.IndexByteString"], unfollowed := true, recurses := true, named := ["unicode/utf8.first", "unicode/utf8.acceptRanges", "unicode.properties", "unicode.Letter", "unicode.Digit", "unicode.Mark", "unicode.CaseRanges"], apart := false, laid := [("unicode/utf8.acceptRanges", laid_unicode_utf8_acceptRanges), ("unicode.properties", laid_unicode_properties), ("unicode.CaseRanges", laid_unicode_CaseRanges), ("unicode.Digit", laid_unicode_Digit), ("unicode.Letter", laid_unicode_Letter), ("unicode.Mark", laid_unicode_Mark), ("unicode/utf8.first", laid_unicode_utf8_first)], narrowed := true }
def StemMatchesSpecUptoSaid : Prop := stemMatchesSpecUptoRow.holds Tryd.pinned (OpenSpec.upto stemMatchesSpecSpec)

/-- 'posthouselaw7.StemIsIdempotent', WHERE WHAT IT READS IS OF BULK AT MOST 1048576: true; the input reads as it did. -/
def stemIsIdempotentUptoRow : OpenClaim := { program := "ytinmpjhmbciapaadoor", sum := "6e589e788d518190904f8f063c62cee2ec50f055087db889ad1995736fd75ac8", func := "posthouse/posthouselaw7.StemIsIdempotent", spec := "stemIsIdempotent", inPlace := ["internal/bytealg.IndexByteString"], unfollowed := true, recurses := true, named := ["unicode/utf8.first", "unicode/utf8.acceptRanges", "unicode.properties", "unicode.Letter", "unicode.Digit", "unicode.Mark", "unicode.CaseRanges"], apart := false, laid := [("unicode/utf8.acceptRanges", laid_unicode_utf8_acceptRanges), ("unicode.properties", laid_unicode_properties), ("unicode.CaseRanges", laid_unicode_CaseRanges), ("unicode.Digit", laid_unicode_Digit), ("unicode.Letter", laid_unicode_Letter), ("unicode.Mark", laid_unicode_Mark), ("unicode/utf8.first", laid_unicode_utf8_first)], narrowed := true }
def StemIsIdempotentUptoSaid : Prop := stemIsIdempotentUptoRow.holds Tryd.pinned (OpenSpec.upto stemIsIdempotentSpec)

/-- 'posthouselaw7.StemWordsAreStable', WHERE WHAT IT READS IS OF BULK AT MOST 1048576: true; the input reads as it did. -/
def stemWordsAreStableUptoRow : OpenClaim := { program := "ytinmpjhmbciapaadoor", sum := "6e589e788d518190904f8f063c62cee2ec50f055087db889ad1995736fd75ac8", func := "posthouse/posthouselaw7.StemWordsAreStable", spec := "stemWordsAreStable", inPlace := ["internal/bytealg.IndexByteString"], unfollowed := true, recurses := true, named := ["unicode/utf8.first", "unicode/utf8.acceptRanges", "unicode.properties", "unicode.Letter", "unicode.Digit", "unicode.Mark", "unicode.CaseRanges"], apart := false, laid := [("unicode/utf8.acceptRanges", laid_unicode_utf8_acceptRanges), ("unicode.properties", laid_unicode_properties), ("unicode.CaseRanges", laid_unicode_CaseRanges), ("unicode.Digit", laid_unicode_Digit), ("unicode.Letter", laid_unicode_Letter), ("unicode.Mark", laid_unicode_Mark), ("unicode/utf8.first", laid_unicode_utf8_first)], narrowed := true }
def StemWordsAreStableUptoSaid : Prop := stemWordsAreStableUptoRow.holds Tryd.pinned (OpenSpec.upto stemWordsAreStableSpec)

/-- 'posthouselaw7.StemTextsJoin', WHERE WHAT IT READS IS OF BULK AT MOST 1048576: true; the input reads as it did. -/
def stemTextsJoinUptoRow : OpenClaim := { program := "ytinmpjhmbciapaadoor", sum := "6e589e788d518190904f8f063c62cee2ec50f055087db889ad1995736fd75ac8", func := "posthouse/posthouselaw7.StemTextsJoin", spec := "stemTextsJoin", inPlace := ["internal/bytealg.IndexByteString"], unfollowed := true, recurses := true, named := ["unicode/utf8.first", "unicode/utf8.acceptRanges", "unicode.properties", "unicode.Letter", "unicode.Digit", "unicode.Mark", "unicode.CaseRanges"], apart := false, laid := [("unicode/utf8.acceptRanges", laid_unicode_utf8_acceptRanges), ("unicode.properties", laid_unicode_properties), ("unicode.CaseRanges", laid_unicode_CaseRanges), ("unicode.Digit", laid_unicode_Digit), ("unicode.Letter", laid_unicode_Letter), ("unicode.Mark", laid_unicode_Mark), ("unicode/utf8.first", laid_unicode_utf8_first)], narrowed := true }
def StemTextsJoinUptoSaid : Prop := stemTextsJoinUptoRow.holds Tryd.pinned (OpenSpec.upto stemTextsJoinSpec)

/-- 'posthouselaw7.FoldersStayValid', WHERE WHAT IT READS IS OF BULK AT MOST 1048576: true; the input reads as it did. -/
def foldersStayValidUptoRow : OpenClaim := { program := "ytinmpjhmbciapaadoor", sum := "6e589e788d518190904f8f063c62cee2ec50f055087db889ad1995736fd75ac8", func := "posthouse/posthouselaw7.FoldersStayValid", spec := "foldersStayValid", inPlace := ["internal/bytealg.CountString", "internal/bytealg.IndexByteString", "internal/bytealg.IndexString", "slices.overlaps[string]"], unfollowed := true, recurses := true, named := ["unicode/utf8.first", "unicode/utf8.acceptRanges", "internal/bytealg.MaxLen"], apart := false, laid := [("unicode/utf8.acceptRanges", laid_unicode_utf8_acceptRanges), ("unicode/utf8.first", laid_unicode_utf8_first)], narrowed := true }
def FoldersStayValidUptoSaid : Prop := foldersStayValidUptoRow.holds Tryd.pinned (OpenSpec.upto foldersStayValidSpec)

/-- 'posthouselaw7.FoldersRenameBackYieldsAll', WHERE WHAT IT READS IS OF BULK AT MOST 1048576: true; the input reads as it did. -/
def foldersRenameBackYieldsAllUptoRow : OpenClaim := { program := "ytinmpjhmbciapaadoor", sum := "6e589e788d518190904f8f063c62cee2ec50f055087db889ad1995736fd75ac8", func := "posthouse/posthouselaw7.FoldersRenameBackYieldsAll", spec := "foldersRenameBackYieldsAll", inPlace := ["internal/bytealg.CountString", "internal/bytealg.IndexByteString", "internal/bytealg.IndexString", "slices.overlaps[string]"], unfollowed := true, recurses := true, named := ["unicode/utf8.first", "unicode/utf8.acceptRanges", "internal/bytealg.MaxLen"], apart := false, laid := [("unicode/utf8.acceptRanges", laid_unicode_utf8_acceptRanges), ("unicode/utf8.first", laid_unicode_utf8_first)], narrowed := true }
def FoldersRenameBackYieldsAllUptoSaid : Prop := foldersRenameBackYieldsAllUptoRow.holds Tryd.pinned (OpenSpec.upto foldersRenameBackYieldsAllSpec)

/-- 'posthouselaw7.FoldersDeleteUndoesCreate', WHERE WHAT IT READS IS OF BULK AT MOST 1048576: true; the input reads as it did. -/
def foldersDeleteUndoesCreateUptoRow : OpenClaim := { program := "ytinmpjhmbciapaadoor", sum := "6e589e788d518190904f8f063c62cee2ec50f055087db889ad1995736fd75ac8", func := "posthouse/posthouselaw7.FoldersDeleteUndoesCreate", spec := "foldersDeleteUndoesCreate", inPlace := ["internal/bytealg.CountString", "internal/bytealg.IndexByteString", "internal/bytealg.IndexString", "slices.overlaps[string]"], unfollowed := true, recurses := true, named := ["unicode/utf8.first", "unicode/utf8.acceptRanges", "internal/bytealg.MaxLen"], apart := false, laid := [("unicode/utf8.acceptRanges", laid_unicode_utf8_acceptRanges), ("unicode/utf8.first", laid_unicode_utf8_first)], narrowed := true }
def FoldersDeleteUndoesCreateUptoSaid : Prop := foldersDeleteUndoesCreateUptoRow.holds Tryd.pinned (OpenSpec.upto foldersDeleteUndoesCreateSpec)

end Rows
end Go.Proofs.YtinmpjhmbciapaaDoor
