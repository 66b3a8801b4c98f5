/-
  No cell of these rows narrows 'for every input' (looked for: loops, veiled, ifaces, maps, wideKeys, modest, calm, conditions, laid).
  DERIVED. THE GIVEN ROWS OF THIS SEAT. 8 by the template 'for every input the law returns true; each argument reads behind the call as it read before'; 0 by the template 'total and deterministic' (their statements: YtopldghfphgjoaaTotals.lean).
  GIVEN WITH THE SEED: the statements are not yours to turn. If you find one false, say at which input.
  Laid BY PROGRAM, IN A SANDBOX (cutbox-rows.mjs): the forced cells as the released guide's own fill.sh prints them over the translation 53a6b11260dbe8d1… (all of the seat's roots in one cut). By AI agents, Wed Nov 11 2026. No macro, syntax, notation, axiom, sorry.
-/
import Derived.Test.YtopldghfphgjoaaChecked
import GoSem.Claim
import GoSem.ClaimJoined
import GoSem.ClaimMapViews
import Derived.JoinedTies
import Derived.KernelRfl
namespace Go.Proofs.Ytopldghfphgjoaa
/- THE CELL 'sum', in the pinned program and in every row, IS THE sha256 OF THE DUMP (.gsa) THAT YtopldghfphgjoaaProg.lean LOADS. Nothing in Lean hashes anything: it is a label: what it is worth is what the hold of that sum in a sandbox is worth. -/
noncomputable def Try.pinned : Pinned := { name := "ytopldghfphgjoaa", sum := "53a6b11260dbe8d181b7d71d2d79168144aef96902726a57e2da824ddcc1ced6", checked := Try.checked }
namespace Rows
def none {H : Type} : Left H := { results := [], args := [] }

/-- 'posthouselaw7.RecordsMatchSpec': WHATEVER THE INPUT: true; the input reads as it did. -/
def recordsMatchSpecSpec : ChangeSpec := { name := "recordsMatchSpec", fn := fun _ => fun
  | [d1, d2] => { results := [.lit (.bool true)], args := [d1, d2] }
  | _ => none }
def recordsMatchSpecRow : OpenClaim := { program := "ytopldghfphgjoaa", sum := "53a6b11260dbe8d181b7d71d2d79168144aef96902726a57e2da824ddcc1ced6", func := "posthouse/posthouselaw7.RecordsMatchSpec", spec := "recordsMatchSpec", unfollowed := true, recurses := true, apart := false }
def RecordsMatchSpecSaid : Prop := recordsMatchSpecRow.holds Try.pinned (OpenSpec.ofChange recordsMatchSpecSpec)

/-- ITS FALSE NEIGHBOUR: 'it returns false'. Refute it at one input. -/
def recordsMatchSpecWrong : ChangeSpec := { name := "recordsMatchSpec", fn := fun _ => fun
  | [d1, d2] => { results := [.lit (.bool false)], args := [d1, d2] }
  | _ => none }
def RecordsMatchSpecWrongFalsely : Prop := recordsMatchSpecRow.holds Try.pinned (OpenSpec.ofChange recordsMatchSpecWrong)

/-- 'posthouselaw7.RecordsSurviveCuts': WHATEVER THE INPUT: true; the input reads as it did. -/
def recordsSurviveCutsSpec : ChangeSpec := { name := "recordsSurviveCuts", fn := fun _ => fun
  | [d1, d2, d3] => { results := [.lit (.bool true)], args := [d1, d2, d3] }
  | _ => none }
def recordsSurviveCutsRow : OpenClaim := { program := "ytopldghfphgjoaa", sum := "53a6b11260dbe8d181b7d71d2d79168144aef96902726a57e2da824ddcc1ced6", func := "posthouse/posthouselaw7.RecordsSurviveCuts", spec := "recordsSurviveCuts", unfollowed := true, recurses := true, apart := false }
def RecordsSurviveCutsSaid : Prop := recordsSurviveCutsRow.holds Try.pinned (OpenSpec.ofChange recordsSurviveCutsSpec)

/-- ITS FALSE NEIGHBOUR: 'it returns false'. Refute it at one input. -/
def recordsSurviveCutsWrong : ChangeSpec := { name := "recordsSurviveCuts", fn := fun _ => fun
  | [d1, d2, d3] => { results := [.lit (.bool false)], args := [d1, d2, d3] }
  | _ => none }
def RecordsSurviveCutsWrongFalsely : Prop := recordsSurviveCutsRow.holds Try.pinned (OpenSpec.ofChange recordsSurviveCutsWrong)

/-- 'posthouselaw7.RecordsRepairedGrow': WHATEVER THE INPUT: true; the input reads as it did. -/
def recordsRepairedGrowSpec : ChangeSpec := { name := "recordsRepairedGrow", fn := fun _ => fun
  | [d1, d2] => { results := [.lit (.bool true)], args := [d1, d2] }
  | _ => none }
def recordsRepairedGrowRow : OpenClaim := { program := "ytopldghfphgjoaa", sum := "53a6b11260dbe8d181b7d71d2d79168144aef96902726a57e2da824ddcc1ced6", func := "posthouse/posthouselaw7.RecordsRepairedGrow", spec := "recordsRepairedGrow", unfollowed := true, recurses := true, apart := false }
def RecordsRepairedGrowSaid : Prop := recordsRepairedGrowRow.holds Try.pinned (OpenSpec.ofChange recordsRepairedGrowSpec)

/-- ITS FALSE NEIGHBOUR: 'it returns false'. Refute it at one input. -/
def recordsRepairedGrowWrong : ChangeSpec := { name := "recordsRepairedGrow", fn := fun _ => fun
  | [d1, d2] => { results := [.lit (.bool false)], args := [d1, d2] }
  | _ => none }
def RecordsRepairedGrowWrongFalsely : Prop := recordsRepairedGrowRow.holds Try.pinned (OpenSpec.ofChange recordsRepairedGrowWrong)

/-- 'posthouselaw7.RecordsNoticeChanges': WHATEVER THE INPUT: true; the input reads as it did. -/
def recordsNoticeChangesSpec : ChangeSpec := { name := "recordsNoticeChanges", fn := fun _ => fun
  | [d1, d2, d3] => { results := [.lit (.bool true)], args := [d1, d2, d3] }
  | _ => none }
def recordsNoticeChangesRow : OpenClaim := { program := "ytopldghfphgjoaa", sum := "53a6b11260dbe8d181b7d71d2d79168144aef96902726a57e2da824ddcc1ced6", func := "posthouse/posthouselaw7.RecordsNoticeChanges", spec := "recordsNoticeChanges", unfollowed := true, recurses := true, apart := false }
def RecordsNoticeChangesSaid : Prop := recordsNoticeChangesRow.holds Try.pinned (OpenSpec.ofChange recordsNoticeChangesSpec)

/-- ITS FALSE NEIGHBOUR: 'it returns false'. Refute it at one input. -/
def recordsNoticeChangesWrong : ChangeSpec := { name := "recordsNoticeChanges", fn := fun _ => fun
  | [d1, d2, d3] => { results := [.lit (.bool false)], args := [d1, d2, d3] }
  | _ => none }
def RecordsNoticeChangesWrongFalsely : Prop := recordsNoticeChangesRow.holds Try.pinned (OpenSpec.ofChange recordsNoticeChangesWrong)

/-- 'posthouselaw7.RightsMatchSpec': WHATEVER THE INPUT: true; the input reads as it did. -/
def rightsMatchSpecSpec : ChangeSpec := { name := "rightsMatchSpec", fn := fun _ => fun
  | [d1, d2, d3, d4] => { results := [.lit (.bool true)], args := [d1, d2, d3, d4] }
  | _ => none }
def rightsMatchSpecRow : OpenClaim := { program := "ytopldghfphgjoaa", sum := "53a6b11260dbe8d181b7d71d2d79168144aef96902726a57e2da824ddcc1ced6", func := "posthouse/posthouselaw7.RightsMatchSpec", spec := "rightsMatchSpec", inPlace := ["internal/bytealg.abigen_runtime_cmpstring", "slices.overlaps[posthouse/api.Grant]"], unfollowed := true, recurses := true, apart := false }
def RightsMatchSpecSaid : Prop := rightsMatchSpecRow.holds Try.pinned (OpenSpec.ofChange rightsMatchSpecSpec)

/-- ITS FALSE NEIGHBOUR: 'it returns false'. Refute it at one input. -/
def rightsMatchSpecWrong : ChangeSpec := { name := "rightsMatchSpec", fn := fun _ => fun
  | [d1, d2, d3, d4] => { results := [.lit (.bool false)], args := [d1, d2, d3, d4] }
  | _ => none }
def RightsMatchSpecWrongFalsely : Prop := rightsMatchSpecRow.holds Try.pinned (OpenSpec.ofChange rightsMatchSpecWrong)

/-- 'posthouselaw7.RightsSetIsSeen': WHATEVER THE INPUT: true; the input reads as it did. -/
def rightsSetIsSeenSpec : ChangeSpec := { name := "rightsSetIsSeen", fn := fun _ => fun
  | [d1, d2, d3, d4, d5] => { results := [.lit (.bool true)], args := [d1, d2, d3, d4, d5] }
  | _ => none }
def rightsSetIsSeenRow : OpenClaim := { program := "ytopldghfphgjoaa", sum := "53a6b11260dbe8d181b7d71d2d79168144aef96902726a57e2da824ddcc1ced6", func := "posthouse/posthouselaw7.RightsSetIsSeen", spec := "rightsSetIsSeen", inPlace := ["internal/bytealg.abigen_runtime_cmpstring", "slices.overlaps[posthouse/api.Grant]"], unfollowed := true, recurses := true, apart := false }
def RightsSetIsSeenSaid : Prop := rightsSetIsSeenRow.holds Try.pinned (OpenSpec.ofChange rightsSetIsSeenSpec)

/-- ITS FALSE NEIGHBOUR: 'it returns false'. Refute it at one input. -/
def rightsSetIsSeenWrong : ChangeSpec := { name := "rightsSetIsSeen", fn := fun _ => fun
  | [d1, d2, d3, d4, d5] => { results := [.lit (.bool false)], args := [d1, d2, d3, d4, d5] }
  | _ => none }
def RightsSetIsSeenWrongFalsely : Prop := rightsSetIsSeenRow.holds Try.pinned (OpenSpec.ofChange rightsSetIsSeenWrong)

/-- 'posthouselaw7.RightsSetTwiceIsOnce': WHATEVER THE INPUT: true; the input reads as it did. -/
def rightsSetTwiceIsOnceSpec : ChangeSpec := { name := "rightsSetTwiceIsOnce", fn := fun _ => fun
  | [d1, d2] => { results := [.lit (.bool true)], args := [d1, d2] }
  | _ => none }
def rightsSetTwiceIsOnceRow : OpenClaim := { program := "ytopldghfphgjoaa", sum := "53a6b11260dbe8d181b7d71d2d79168144aef96902726a57e2da824ddcc1ced6", func := "posthouse/posthouselaw7.RightsSetTwiceIsOnce", spec := "rightsSetTwiceIsOnce", inPlace := ["internal/bytealg.abigen_runtime_cmpstring", "slices.overlaps[posthouse/api.Grant]"], unfollowed := true, recurses := true, apart := false }
def RightsSetTwiceIsOnceSaid : Prop := rightsSetTwiceIsOnceRow.holds Try.pinned (OpenSpec.ofChange rightsSetTwiceIsOnceSpec)

/-- ITS FALSE NEIGHBOUR: 'it returns false'. Refute it at one input. -/
def rightsSetTwiceIsOnceWrong : ChangeSpec := { name := "rightsSetTwiceIsOnce", fn := fun _ => fun
  | [d1, d2] => { results := [.lit (.bool false)], args := [d1, d2] }
  | _ => none }
def RightsSetTwiceIsOnceWrongFalsely : Prop := rightsSetTwiceIsOnceRow.holds Try.pinned (OpenSpec.ofChange rightsSetTwiceIsOnceWrong)

/-- 'posthouselaw7.RightsStrangersAreUnaffected': WHATEVER THE INPUT: true; the input reads as it did. -/
def rightsStrangersAreUnaffectedSpec : ChangeSpec := { name := "rightsStrangersAreUnaffected", fn := fun _ => fun
  | [d1, d2, d3, d4, d5] => { results := [.lit (.bool true)], args := [d1, d2, d3, d4, d5] }
  | _ => none }
def rightsStrangersAreUnaffectedRow : OpenClaim := { program := "ytopldghfphgjoaa", sum := "53a6b11260dbe8d181b7d71d2d79168144aef96902726a57e2da824ddcc1ced6", func := "posthouse/posthouselaw7.RightsStrangersAreUnaffected", spec := "rightsStrangersAreUnaffected", inPlace := ["internal/bytealg.abigen_runtime_cmpstring", "slices.overlaps[posthouse/api.Grant]"], unfollowed := true, recurses := true, apart := false }
def RightsStrangersAreUnaffectedSaid : Prop := rightsStrangersAreUnaffectedRow.holds Try.pinned (OpenSpec.ofChange rightsStrangersAreUnaffectedSpec)

/-- ITS FALSE NEIGHBOUR: 'it returns false'. Refute it at one input. -/
def rightsStrangersAreUnaffectedWrong : ChangeSpec := { name := "rightsStrangersAreUnaffected", fn := fun _ => fun
  | [d1, d2, d3, d4, d5] => { results := [.lit (.bool false)], args := [d1, d2, d3, d4, d5] }
  | _ => none }
def RightsStrangersAreUnaffectedWrongFalsely : Prop := rightsStrangersAreUnaffectedRow.holds Try.pinned (OpenSpec.ofChange rightsStrangersAreUnaffectedWrong)

/- THE SECOND FORM. 'bulk': how many values and letters a reading holds, each counted each time it is reached (what is shared counts as often as it is met; a slice's spare places count too). A statement '..UptoSaid' is the law's where the arguments, and the package variables that the reading takes, are together of bulk at most 1048576: NARROWER than '..Said'. Prove '..Said' where nothing that the law and all that it calls make is longer than what came in: it says more and counts as full. Else prove '..UptoSaid'. A law counts once. -/
mutual
def uptoBulk {H : Type} : DataW H → Nat
  | .lit (.string bytes) => bytes.length + 1
  | .lit _ => 1
  | .nil => 1
  | .ptr d => uptoBulk d + 1
  | .slice elems spare => uptoBulkAll elems + uptoBulkAll spare + 1
  | .agg parts => uptoBulkAll parts + 1
  | .iface _ d => uptoBulk d + 1
  | .map entries => uptoBulkEntries entries + 1
  | .held _ => 1
def uptoBulkAll {H : Type} : List (DataW H) → Nat
  | [] => 0
  | d :: r => uptoBulk d + uptoBulkAll r
def uptoBulkEntries {H : Type} : List (Lit × DataW H) → Nat
  | [] => 0
  | x :: r => uptoBulkEntry x + uptoBulkEntries r
def uptoBulkEntry {H : Type} : Lit × DataW H → Nat
  | (.string bytes, d) => bytes.length + uptoBulk d + 1
  | (_, d) => uptoBulk d + 1
 end
def uptoSmall : (H : Type) → List (DataW H) → Bool := fun _ ds => decide (uptoBulkAll ds ≤ 1048576)
def OpenSpec.upto (s : _root_.Go.ChangeSpec) : _root_.Go.OpenSpec := { _root_.Go.OpenSpec.ofChange s with cond := some uptoSmall }

/-- 'posthouselaw7.RecordsMatchSpec', WHERE WHAT IT READS IS OF BULK AT MOST 1048576: true; the input reads as it did. -/
def recordsMatchSpecUptoRow : OpenClaim := { program := "ytopldghfphgjoaa", sum := "53a6b11260dbe8d181b7d71d2d79168144aef96902726a57e2da824ddcc1ced6", func := "posthouse/posthouselaw7.RecordsMatchSpec", spec := "recordsMatchSpec", unfollowed := true, recurses := true, apart := false, narrowed := true }
def RecordsMatchSpecUptoSaid : Prop := recordsMatchSpecUptoRow.holds Try.pinned (OpenSpec.upto recordsMatchSpecSpec)

/-- 'posthouselaw7.RecordsSurviveCuts', WHERE WHAT IT READS IS OF BULK AT MOST 1048576: true; the input reads as it did. -/
def recordsSurviveCutsUptoRow : OpenClaim := { program := "ytopldghfphgjoaa", sum := "53a6b11260dbe8d181b7d71d2d79168144aef96902726a57e2da824ddcc1ced6", func := "posthouse/posthouselaw7.RecordsSurviveCuts", spec := "recordsSurviveCuts", unfollowed := true, recurses := true, apart := false, narrowed := true }
def RecordsSurviveCutsUptoSaid : Prop := recordsSurviveCutsUptoRow.holds Try.pinned (OpenSpec.upto recordsSurviveCutsSpec)

/-- 'posthouselaw7.RecordsRepairedGrow', WHERE WHAT IT READS IS OF BULK AT MOST 1048576: true; the input reads as it did. -/
def recordsRepairedGrowUptoRow : OpenClaim := { program := "ytopldghfphgjoaa", sum := "53a6b11260dbe8d181b7d71d2d79168144aef96902726a57e2da824ddcc1ced6", func := "posthouse/posthouselaw7.RecordsRepairedGrow", spec := "recordsRepairedGrow", unfollowed := true, recurses := true, apart := false, narrowed := true }
def RecordsRepairedGrowUptoSaid : Prop := recordsRepairedGrowUptoRow.holds Try.pinned (OpenSpec.upto recordsRepairedGrowSpec)

/-- 'posthouselaw7.RecordsNoticeChanges', WHERE WHAT IT READS IS OF BULK AT MOST 1048576: true; the input reads as it did. -/
def recordsNoticeChangesUptoRow : OpenClaim := { program := "ytopldghfphgjoaa", sum := "53a6b11260dbe8d181b7d71d2d79168144aef96902726a57e2da824ddcc1ced6", func := "posthouse/posthouselaw7.RecordsNoticeChanges", spec := "recordsNoticeChanges", unfollowed := true, recurses := true, apart := false, narrowed := true }
def RecordsNoticeChangesUptoSaid : Prop := recordsNoticeChangesUptoRow.holds Try.pinned (OpenSpec.upto recordsNoticeChangesSpec)

/-- 'posthouselaw7.RightsMatchSpec', WHERE WHAT IT READS IS OF BULK AT MOST 1048576: true; the input reads as it did. -/
def rightsMatchSpecUptoRow : OpenClaim := { program := "ytopldghfphgjoaa", sum := "53a6b11260dbe8d181b7d71d2d79168144aef96902726a57e2da824ddcc1ced6", func := "posthouse/posthouselaw7.RightsMatchSpec", spec := "rightsMatchSpec", inPlace := ["internal/bytealg.abigen_runtime_cmpstring", "slices.overlaps[posthouse/api.Grant]"], unfollowed := true, recurses := true, apart := false, narrowed := true }
def RightsMatchSpecUptoSaid : Prop := rightsMatchSpecUptoRow.holds Try.pinned (OpenSpec.upto rightsMatchSpecSpec)

/-- 'posthouselaw7.RightsSetIsSeen', WHERE WHAT IT READS IS OF BULK AT MOST 1048576: true; the input reads as it did. -/
def rightsSetIsSeenUptoRow : OpenClaim := { program := "ytopldghfphgjoaa", sum := "53a6b11260dbe8d181b7d71d2d79168144aef96902726a57e2da824ddcc1ced6", func := "posthouse/posthouselaw7.RightsSetIsSeen", spec := "rightsSetIsSeen", inPlace := ["internal/bytealg.abigen_runtime_cmpstring", "slices.overlaps[posthouse/api.Grant]"], unfollowed := true, recurses := true, apart := false, narrowed := true }
def RightsSetIsSeenUptoSaid : Prop := rightsSetIsSeenUptoRow.holds Try.pinned (OpenSpec.upto rightsSetIsSeenSpec)

/-- 'posthouselaw7.RightsSetTwiceIsOnce', WHERE WHAT IT READS IS OF BULK AT MOST 1048576: true; the input reads as it did. -/
def rightsSetTwiceIsOnceUptoRow : OpenClaim := { program := "ytopldghfphgjoaa", sum := "53a6b11260dbe8d181b7d71d2d79168144aef96902726a57e2da824ddcc1ced6", func := "posthouse/posthouselaw7.RightsSetTwiceIsOnce", spec := "rightsSetTwiceIsOnce", inPlace := ["internal/bytealg.abigen_runtime_cmpstring", "slices.overlaps[posthouse/api.Grant]"], unfollowed := true, recurses := true, apart := false, narrowed := true }
def RightsSetTwiceIsOnceUptoSaid : Prop := rightsSetTwiceIsOnceUptoRow.holds Try.pinned (OpenSpec.upto rightsSetTwiceIsOnceSpec)

/-- 'posthouselaw7.RightsStrangersAreUnaffected', WHERE WHAT IT READS IS OF BULK AT MOST 1048576: true; the input reads as it did. -/
def rightsStrangersAreUnaffectedUptoRow : OpenClaim := { program := "ytopldghfphgjoaa", sum := "53a6b11260dbe8d181b7d71d2d79168144aef96902726a57e2da824ddcc1ced6", func := "posthouse/posthouselaw7.RightsStrangersAreUnaffected", spec := "rightsStrangersAreUnaffected", inPlace := ["internal/bytealg.abigen_runtime_cmpstring", "slices.overlaps[posthouse/api.Grant]"], unfollowed := true, recurses := true, apart := false, narrowed := true }
def RightsStrangersAreUnaffectedUptoSaid : Prop := rightsStrangersAreUnaffectedUptoRow.holds Try.pinned (OpenSpec.upto rightsStrangersAreUnaffectedSpec)

end Rows
end Go.Proofs.Ytopldghfphgjoaa
