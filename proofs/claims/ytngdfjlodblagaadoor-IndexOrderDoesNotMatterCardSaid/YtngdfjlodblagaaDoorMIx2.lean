/-
  Contracts and plain facts, one after another: Words of a text: what the code and the reference compute, in plain lists of bytes; Contracts of the library's functions, laid at this program out of the shelf: what these proofs use of them; Faults and ranges: the small functions; The tables of the library's, and stem.Letter, inWord; From a row's listed variables to the tables; Sorted lists of keys and values: look-up, insertion, removal; two of the same look-ups are one. No program is named here.
-/
import Derived.Test.YtngdfjlodblagaaDoorMIx1
import Derived.Test.YtngdfjlodblagaaDoorProg
import Derived.Test.YtngdfjlodblagaaDoorRows
import Derived.Lib.MapU
import Derived.Lib.TrimUEq
import Derived.Lib.IsU
import Derived.Lib.CaseU
import Derived.Lib.FieldsU
import Derived.Shelf.LaysM
import Derived.Shelf.Slices.Empties
import Derived.Shelf.Slices.SearchI
import Derived.Shelf.Small.Strs
import Derived.Shelf.Small.Wraps
import Derived.Shelf.Strings.Prefix
import Derived.Shelf.Unicode.CaseLaid
import Derived.Shelf.Unicode.DecodeAny
import Derived.Shelf.Unicode.PredsGnPay
import Derived.Shelf.Unicode.PredsPay
import Derived.Shelf.Utf8.AppendRunePlain
import Derived.Deep.QuietTactic
import Derived.BigQuiet
import Derived.Deep.RegionHeld3
import Derived.StillTailTactics
import Derived.Outline
import Derived.PinnedBridge
import Derived.Lib.LaidU8
import Derived.Lib.LaidCase
import Derived.Lib.LaidRTab
/-
  Words of a text: what the code and the reference compute, in plain lists of bytes.
-/
namespace Go.Proofs.YtngdfjlodblagaaDoor
namespace Sm
open Go.Lib
/-- a character belongs to words -/
def isL (r : Nat) : Bool := isLetterU (r : Int) || isDigitU (r : Int) || isMarkU (r : Int)
/-- one character in lower case -/
def lowC (r : Nat) : List UInt8 := encodeRune (toLowerU (r : Int))
def lowGo : Nat → List UInt8 → List UInt8
  | 0, _ => []
  | n + 1, l => if l = [] then [] else lowC (decodeL l).1 ++ lowGo n (l.drop (decodeL l).2)
def lower (l : List UInt8) : List UInt8 := lowGo l.length l
def wordsGo : Nat → List UInt8 → List UInt8 → List (List UInt8)
  | 0, cur, _ => if cur = [] then [] else [cur]
  | f + 1, cur, l =>
    if l = [] then (if cur = [] then [] else [cur])
    else if isL (decodeL l).1 then wordsGo f (cur ++ l.take (decodeL l).2) (l.drop (decodeL l).2)
    else (if cur = [] then [] else [cur]) ++ wordsGo f [] (l.drop (decodeL l).2)
def rawWords (l : List UInt8) : List (List UInt8) := wordsGo l.length [] l
def words (l : List UInt8) : List (List UInt8) := (rawWords l).map lower
def stems (l : List UInt8) : List (List UInt8) := (words l).map stem

theorem width_le {l : List UInt8} (h : l ≠ []) : (decodeL l).2 ≤ l.length := by
  rw [decodeL_N]
  exact decodeN_le_n' _ _ _ _ _ (List.length_pos_iff.2 h)
theorem lowGo_nil (f : Nat) : lowGo f [] = [] := by cases f <;> simp [lowGo]
theorem wordsGo_nil (f : Nat) (cur : List UInt8) : wordsGo f cur [] = if cur = [] then [] else [cur] := by cases f <;> simp [wordsGo]
theorem lowGo_fuel : ∀ (f g : Nat) (l : List UInt8), l.length ≤ f → l.length ≤ g → lowGo f l = lowGo g l
  | 0, g, l, hf, _ => by rw [List.eq_nil_of_length_eq_zero (by omega : l.length = 0), lowGo_nil, lowGo_nil]
  | f + 1, 0, l, _, hg => by rw [List.eq_nil_of_length_eq_zero (by omega : l.length = 0), lowGo_nil, lowGo_nil]
  | f + 1, g + 1, l, hf, hg => by
    by_cases hne : l = []
    · rw [hne, lowGo_nil, lowGo_nil]
    · have hw := decodeL_width l
      simp only [lowGo, if_neg hne]
      rw [lowGo_fuel f g _ (by rw [List.length_drop]; omega) (by rw [List.length_drop]; omega)]
theorem wordsGo_fuel : ∀ (f g : Nat) (cur l : List UInt8), l.length ≤ f → l.length ≤ g → wordsGo f cur l = wordsGo g cur l
  | 0, g, cur, l, hf, _ => by rw [List.eq_nil_of_length_eq_zero (by omega : l.length = 0), wordsGo_nil, wordsGo_nil]
  | f + 1, 0, cur, l, _, hg => by rw [List.eq_nil_of_length_eq_zero (by omega : l.length = 0), wordsGo_nil, wordsGo_nil]
  | f + 1, g + 1, cur, l, hf, hg => by
    by_cases hne : l = []
    · rw [hne, wordsGo_nil, wordsGo_nil]
    · have hw := decodeL_width l
      simp only [wordsGo, if_neg hne]
      split
      · exact wordsGo_fuel f g _ _ (by rw [List.length_drop]; omega) (by rw [List.length_drop]; omega)
      · rw [wordsGo_fuel f g _ _ (by rw [List.length_drop]; omega) (by rw [List.length_drop]; omega)]
/-- what is left, from a state -/
def wordsFrom (cur l : List UInt8) : List (List UInt8) := wordsGo l.length cur l
theorem wordsFrom_nil (cur : List UInt8) : wordsFrom cur [] = if cur = [] then [] else [cur] := wordsGo_nil _ _
theorem wordsFrom_step {cur l : List UInt8} (h : l ≠ []) : wordsFrom cur l =
    if isL (decodeL l).1 then wordsFrom (cur ++ l.take (decodeL l).2) (l.drop (decodeL l).2)
    else (if cur = [] then [] else [cur]) ++ wordsFrom [] (l.drop (decodeL l).2) := by
  have hw := decodeL_width l
  have hl := List.length_pos_iff.2 h
  unfold wordsFrom
  rw [show l.length = (l.length - 1) + 1 by omega]
  simp only [wordsGo, if_neg h]
  rw [wordsGo_fuel (l.length - 1) (l.drop (decodeL l).2).length _ _ (by rw [List.length_drop]; omega) (Nat.le_refl _),
    wordsGo_fuel (l.length - 1) (l.drop (decodeL l).2).length _ _ (by rw [List.length_drop]; omega) (Nat.le_refl _)]
theorem lower_nil : lower [] = [] := rfl
theorem lower_step {l : List UInt8} (h : l ≠ []) : lower l = lowC (decodeL l).1 ++ lower (l.drop (decodeL l).2) := by
  have hw := decodeL_width l
  have hl := List.length_pos_iff.2 h
  unfold lower
  rw [show l.length = (l.length - 1) + 1 by omega]
  simp only [lowGo, if_neg h]
  rw [lowGo_fuel (l.length - 1) (l.drop (decodeL l).2).length _ (by rw [List.length_drop]; omega) (Nat.le_refl _)]
theorem lowC_len (r : Nat) : 1 ≤ (lowC r).length ∧ (lowC r).length ≤ 4 := by
  unfold lowC
  rw [← runeCells_length]
  exact runeCells_le _
theorem lower_len : ∀ (n : Nat) (l : List UInt8), l.length ≤ n → (lower l).length ≤ 4 * l.length
  | 0, l, h => by rw [List.eq_nil_of_length_eq_zero (by omega : l.length = 0)]; exact Nat.le_refl _
  | n + 1, l, h => by
    by_cases hne : l = []
    · rw [hne]; exact Nat.le_refl _
    · have hw := decodeL_width l
      have hwl := width_le hne
      have ih := lower_len n (l.drop (decodeL l).2) (by rw [List.length_drop]; omega)
      have hc := lowC_len (decodeL l).1
      rw [lower_step hne, List.length_append]
      rw [List.length_drop] at ih
      omega
/-- no word is empty, and together they are not longer than the text -/
theorem words_sum : ∀ (n : Nat) (cur l : List UInt8), l.length ≤ n → ((wordsFrom cur l).map List.length).sum ≤ cur.length + l.length ∧ ∀ x ∈ wordsFrom cur l, x ≠ []
  | 0, cur, l, h => by
    rw [List.eq_nil_of_length_eq_zero (by omega : l.length = 0), wordsFrom_nil]
    split <;> simp_all
  | n + 1, cur, l, h => by
    by_cases hne : l = []
    · rw [hne, wordsFrom_nil]
      split <;> simp_all
    · have hw := decodeL_width l
      have hwl := width_le hne
      rw [wordsFrom_step hne]
      split
      · have ih := words_sum n (cur ++ l.take (decodeL l).2) (l.drop (decodeL l).2) (by rw [List.length_drop]; omega)
        refine ⟨?_, ih.2⟩
        have := ih.1
        rw [List.length_append, List.length_take, List.length_drop] at this
        omega
      · have ih := words_sum n [] (l.drop (decodeL l).2) (by rw [List.length_drop]; omega)
        have h1 := ih.1
        rw [List.length_drop] at h1
        split
        · rename_i hc
          refine ⟨?_, ih.2⟩
          rw [List.nil_append, hc]
          simp only [List.length_nil] at h1 ⊢
          omega
        · rename_i hc
          refine ⟨?_, ?_⟩
          · simp only [List.singleton_append, List.map_cons, List.sum_cons]
            simp only [List.length_nil] at h1
            omega
          · intro x hx
            rcases List.mem_append.1 hx with hx | hx
            · simp at hx; rw [hx]; exact hc
            · exact ih.2 x hx
end Sm
end Go.Proofs.YtngdfjlodblagaaDoor
/-
  Contracts of the library's functions, laid at this program out of the shelf: what these proofs use of them.
-/
namespace Go.Proofs
open Go.Shelf
def Tryd.lays137_ren : Go.Shelf.Ren := ⟨fun | 137 => 63 | 217 => 76 | 266 => 88 | n => n, fun | 9 => 9 | 5 => 5 | 3 => 3 | n => n, fun | n => n⟩
theorem Tryd.lays137 : Go.Proofs.Lays.n137 Tryd.prog Tryd.lays137_ren := {
  mixed := by kernel_rfl
  f137 := Tryd.func63.trans (congrArg some (by kernel_rfl))
  f217 := Tryd.func76.trans (congrArg some (by kernel_rfl))
  f266 := Tryd.func88.trans (congrArg some (by kernel_rfl))
  t3 := Tryd.underlying3
  a3 := Tryd.isAgg3
  z3 := Tryd.sizeOf3
  v3 := Tryd.zeroValue3
  t5 := Tryd.underlying5
  a5 := Tryd.isAgg5
  z5 := Tryd.sizeOf5
  v5 := Tryd.zeroValue5
  t9 := Tryd.underlying9
  a9 := Tryd.isAgg9
  z9 := Tryd.sizeOf9
  v9 := Tryd.zeroValue9 }
open Go.RowKit in
theorem Tryd.strings_IndexByte (s : ByteArray) (c : Int) (w : World) :
    Calls Tryd.prog 63 #[.string s, .int .u8 c] w fun e w' => e = .returned (.int .i64 (Lib.indexByte s.data.toList c.toNat.toUInt8)) ∧ w' = w := Any.strings_IndexByte Tryd.lays137 s c w
def Tryd.lays104_ren : Go.Shelf.Ren := ⟨fun | 104 => 74 | 211 => 86 | 207 => 87 | n => n, fun | 9 => 9 | 4 => 4 | 24 => 101 | 3 => 3 | n => n, fun | n => n⟩
theorem Tryd.lays104 : Go.Proofs.Lays.n104 Tryd.prog Tryd.lays104_ren := {
  mixed := by kernel_rfl
  f104 := Tryd.func74.trans (congrArg some (by kernel_rfl))
  f207 := Tryd.func87.trans (congrArg some (by kernel_rfl))
  f211 := Tryd.func86.trans (congrArg some (by kernel_rfl))
  t3 := Tryd.underlying3
  a3 := Tryd.isAgg3
  z3 := Tryd.sizeOf3
  v3 := Tryd.zeroValue3
  t4 := Tryd.underlying4
  a4 := Tryd.isAgg4
  z4 := Tryd.sizeOf4
  v4 := Tryd.zeroValue4
  t9 := Tryd.underlying9
  a9 := Tryd.isAgg9
  z9 := Tryd.sizeOf9
  v9 := Tryd.zeroValue9
  t24 := Tryd.underlying101
  a24 := Tryd.isAgg101
  z24 := Tryd.sizeOf101
  v24 := Tryd.zeroValue101 }
open Go.RowKit in
theorem Tryd.strings_CutSuffix (s p : ByteArray) (w : World) (hs : s.size ≤ 9223372036854775807) :
    Calls Tryd.prog 74 #[.string s, .string p] w fun e w' => e = .returned (.tuple #[.string ⟨(Lib.trimSuffix s.data.toList p.data.toList).toArray⟩, .bool (Lib.hasSuffix s.data.toList p.data.toList)]) ∧ w' = w := Any.strings_CutSuffix Tryd.lays104 s p w hs
def Tryd.lays242_ren : Go.Shelf.Ren := ⟨fun | 242 => 48 | 278 => 64 | n => n, fun | 37 => 83 | 21 => 21 | 51 => 104 | 4 => 4 | 5 => 5 | 46 => 89 | n => n, fun | n => n⟩
theorem Tryd.lays242 : Go.Proofs.Lays.n242 Tryd.prog Tryd.lays242_ren := {
  mixed := by kernel_rfl
  f242 := Tryd.func48.trans (congrArg some (by kernel_rfl))
  f278 := Tryd.func64.trans (congrArg some (by kernel_rfl))
  t4 := Tryd.underlying4
  a4 := Tryd.isAgg4
  z4 := Tryd.sizeOf4
  v4 := Tryd.zeroValue4
  t5 := Tryd.underlying5
  a5 := Tryd.isAgg5
  z5 := Tryd.sizeOf5
  v5 := Tryd.zeroValue5
  t21 := Tryd.underlying21
  a21 := Tryd.isAgg21
  z21 := Tryd.sizeOf21
  v21 := Tryd.zeroValue21
  t37 := Tryd.underlying83
  a37 := Tryd.isAgg83
  z37 := Tryd.sizeOf83
  v37 := Tryd.zeroValue83
  t46 := Tryd.underlying89
  a46 := Tryd.isAgg89
  z46 := Tryd.sizeOf89
  v46 := Tryd.zeroValue89
  t51 := Tryd.underlying104
  a51 := Tryd.isAgg104
  z51 := Tryd.sizeOf104
  v51 := Tryd.zeroValue104 }
open Go.RowKit in
theorem Tryd.utf8_AppendRune_plain (B : Nat) (v : Value) (n : Nat) (xs : List Value) (r : Int) (hr0 : -2147483648 ≤ r) (hr1 : r ≤ 2147483647) (w : World) (hown : w.ownsRow B 5 1 v n xs) (hlen : n + 4 ≤ 140737488355328) (hBw : B ≤ w.heap.size) :
    Calls Tryd.prog 48 #[v, .int .i32 r] w fun e w' => ∃ v', e = .returned v' ∧ w'.ownsRow B 5 1 v' (n + (Lib.runeCells r).length) (xs ++ Lib.runeCells r) ∧ ∃ o, (w.alloc o).grownBy w' v.ownBlock := Any.utf8_AppendRune_plain Tryd.lays242 (by kernel_rfl) B v n xs r hr0 hr1 w hown hlen hBw
def Tryd.lays100_ren : Go.Shelf.Ren := ⟨fun | 100 => 75 | 207 => 87 | n => n, fun | 9 => 9 | 4 => 4 | 3 => 3 | n => n, fun | n => n⟩
theorem Tryd.lays100 : Go.Proofs.Lays.n100 Tryd.prog Tryd.lays100_ren := {
  mixed := by kernel_rfl
  f100 := Tryd.func75.trans (congrArg some (by kernel_rfl))
  f207 := Tryd.func87.trans (congrArg some (by kernel_rfl))
  t3 := Tryd.underlying3
  a3 := Tryd.isAgg3
  z3 := Tryd.sizeOf3
  v3 := Tryd.zeroValue3
  t4 := Tryd.underlying4
  a4 := Tryd.isAgg4
  z4 := Tryd.sizeOf4
  v4 := Tryd.zeroValue4
  t9 := Tryd.underlying9
  a9 := Tryd.isAgg9
  z9 := Tryd.sizeOf9
  v9 := Tryd.zeroValue9 }
open Go.RowKit Go.Lib in
theorem Tryd.strings_HasSuffix (s p : ByteArray) (w : World) (hs : s.size ≤ 9223372036854775807) :
    Calls Tryd.prog 75 #[.string s, .string p] w fun e w' => e = .returned (.bool (Lib.hasSuffix s.data.toList p.data.toList)) ∧ w' = w := Any.strings_HasSuffix Tryd.lays100 s p w hs
def Tryd.lays198_ren : Go.Shelf.Ren := ⟨fun | 198 => 81 | 261 => 92 | 311 => 93 | 312 => 94 | n => n, fun | 21 => 21 | 4 => 4 | 141 => 124 | 0 => 0 | 196 => 135 | 193 => 132 | 3 => 3 | 51 => 104 | 198 => 138 | 49 => 136 | 194 => 133 | 201 => 141 | 226 => 143 | 46 => 89 | 227 => 144 | n => n, fun | 5 => 4 | n => n⟩
theorem Tryd.lays198 : Go.Proofs.Lays.n198 Tryd.prog Tryd.lays198_ren := {
  mixed := by kernel_rfl
  f198 := Tryd.func81.trans (congrArg some (by kernel_rfl))
  f261 := Tryd.func92.trans (congrArg some (by kernel_rfl))
  f311 := Tryd.func93.trans (congrArg some (by kernel_rfl))
  f312 := Tryd.func94.trans (congrArg some (by kernel_rfl))
  t0 := Tryd.underlying0
  a0 := Tryd.isAgg0
  z0 := Tryd.sizeOf0
  v0 := Tryd.zeroValue0
  t3 := Tryd.underlying3
  a3 := Tryd.isAgg3
  z3 := Tryd.sizeOf3
  v3 := Tryd.zeroValue3
  t4 := Tryd.underlying4
  a4 := Tryd.isAgg4
  z4 := Tryd.sizeOf4
  v4 := Tryd.zeroValue4
  t21 := Tryd.underlying21
  a21 := Tryd.isAgg21
  z21 := Tryd.sizeOf21
  v21 := Tryd.zeroValue21
  t46 := Tryd.underlying89
  a46 := Tryd.isAgg89
  z46 := Tryd.sizeOf89
  v46 := Tryd.zeroValue89
  t49 := Tryd.underlying136
  a49 := Tryd.isAgg136
  z49 := Tryd.sizeOf136
  v49 := Tryd.zeroValue136
  t51 := Tryd.underlying104
  a51 := Tryd.isAgg104
  z51 := Tryd.sizeOf104
  v51 := Tryd.zeroValue104
  t141 := Tryd.underlying124
  a141 := Tryd.isAgg124
  z141 := Tryd.sizeOf124
  v141 := Tryd.zeroValue124
  t193 := Tryd.underlying132
  a193 := Tryd.isAgg132
  z193 := Tryd.sizeOf132
  v193 := Tryd.zeroValue132
  t194 := Tryd.underlying133
  a194 := Tryd.isAgg133
  z194 := Tryd.sizeOf133
  v194 := Tryd.zeroValue133
  t196 := Tryd.underlying135
  a196 := Tryd.isAgg135
  z196 := Tryd.sizeOf135
  v196 := Tryd.zeroValue135
  t198 := Tryd.underlying138
  a198 := Tryd.isAgg138
  z198 := Tryd.sizeOf138
  v198 := Tryd.zeroValue138
  t201 := Tryd.underlying141
  a201 := Tryd.isAgg141
  z201 := Tryd.sizeOf141
  v201 := Tryd.zeroValue141
  t226 := Tryd.underlying143
  a226 := Tryd.isAgg143
  z226 := Tryd.sizeOf143
  v226 := Tryd.zeroValue143
  t227 := Tryd.underlying144
  a227 := Tryd.isAgg144
  z227 := Tryd.sizeOf144
  v227 := Tryd.zeroValue144
  g5 := by kernel_rfl }
def Tryd.lays204_ren : Go.Shelf.Ren := ⟨fun | 204 => 49 | 262 => 65 | 313 => 77 | 274 => 89 | 275 => 90 | n => n, fun | 21 => 21 | 4 => 4 | 3 => 3 | 162 => 113 | 203 => 111 | 160 => 119 | 46 => 89 | 0 => 0 | 208 => 128 | 51 => 104 | 206 => 126 | n => n, fun | 13 => 0 | n => n⟩
theorem Tryd.lays204 : Go.Proofs.Lays.n204 Tryd.prog Tryd.lays204_ren := {
  mixed := by kernel_rfl
  f204 := Tryd.func49.trans (congrArg some (by kernel_rfl))
  f262 := Tryd.func65.trans (congrArg some (by kernel_rfl))
  f274 := Tryd.func89.trans (congrArg some (by kernel_rfl))
  f275 := Tryd.func90.trans (congrArg some (by kernel_rfl))
  f313 := Tryd.func77.trans (congrArg some (by kernel_rfl))
  t0 := Tryd.underlying0
  a0 := Tryd.isAgg0
  z0 := Tryd.sizeOf0
  v0 := Tryd.zeroValue0
  t3 := Tryd.underlying3
  a3 := Tryd.isAgg3
  z3 := Tryd.sizeOf3
  v3 := Tryd.zeroValue3
  t4 := Tryd.underlying4
  a4 := Tryd.isAgg4
  z4 := Tryd.sizeOf4
  v4 := Tryd.zeroValue4
  t21 := Tryd.underlying21
  a21 := Tryd.isAgg21
  z21 := Tryd.sizeOf21
  v21 := Tryd.zeroValue21
  t46 := Tryd.underlying89
  a46 := Tryd.isAgg89
  z46 := Tryd.sizeOf89
  v46 := Tryd.zeroValue89
  t51 := Tryd.underlying104
  a51 := Tryd.isAgg104
  z51 := Tryd.sizeOf104
  v51 := Tryd.zeroValue104
  t160 := Tryd.underlying119
  a160 := Tryd.isAgg119
  z160 := Tryd.sizeOf119
  v160 := Tryd.zeroValue119
  t162 := Tryd.underlying113
  a162 := Tryd.isAgg113
  z162 := Tryd.sizeOf113
  v162 := Tryd.zeroValue113
  t203 := Tryd.underlying111
  a203 := Tryd.isAgg111
  z203 := Tryd.sizeOf111
  v203 := Tryd.zeroValue111
  t206 := Tryd.underlying126
  a206 := Tryd.isAgg126
  z206 := Tryd.sizeOf126
  v206 := Tryd.zeroValue126
  t208 := Tryd.underlying128
  a208 := Tryd.isAgg128
  z208 := Tryd.sizeOf128
  v208 := Tryd.zeroValue128
  g13 := by kernel_rfl }
def Tryd.lays200_ren : Go.Shelf.Ren := ⟨fun | 200 => 80 | 261 => 92 | 311 => 93 | 312 => 94 | n => n, fun | 21 => 21 | 4 => 4 | 51 => 104 | 5 => 5 | 119 => 122 | 0 => 0 | 141 => 124 | 196 => 135 | 193 => 132 | 3 => 3 | 198 => 138 | 49 => 136 | 194 => 133 | 201 => 141 | 226 => 143 | 46 => 89 | 227 => 144 | n => n, fun | 7 => 2 | 8 => 3 | n => n⟩
theorem Tryd.lays200 : Go.Proofs.Lays.n200 Tryd.prog Tryd.lays200_ren := {
  mixed := by kernel_rfl
  f200 := Tryd.func80.trans (congrArg some (by kernel_rfl))
  f261 := Tryd.func92.trans (congrArg some (by kernel_rfl))
  f311 := Tryd.func93.trans (congrArg some (by kernel_rfl))
  f312 := Tryd.func94.trans (congrArg some (by kernel_rfl))
  t0 := Tryd.underlying0
  a0 := Tryd.isAgg0
  z0 := Tryd.sizeOf0
  v0 := Tryd.zeroValue0
  t3 := Tryd.underlying3
  a3 := Tryd.isAgg3
  z3 := Tryd.sizeOf3
  v3 := Tryd.zeroValue3
  t4 := Tryd.underlying4
  a4 := Tryd.isAgg4
  z4 := Tryd.sizeOf4
  v4 := Tryd.zeroValue4
  t5 := Tryd.underlying5
  a5 := Tryd.isAgg5
  z5 := Tryd.sizeOf5
  v5 := Tryd.zeroValue5
  t21 := Tryd.underlying21
  a21 := Tryd.isAgg21
  z21 := Tryd.sizeOf21
  v21 := Tryd.zeroValue21
  t46 := Tryd.underlying89
  a46 := Tryd.isAgg89
  z46 := Tryd.sizeOf89
  v46 := Tryd.zeroValue89
  t49 := Tryd.underlying136
  a49 := Tryd.isAgg136
  z49 := Tryd.sizeOf136
  v49 := Tryd.zeroValue136
  t51 := Tryd.underlying104
  a51 := Tryd.isAgg104
  z51 := Tryd.sizeOf104
  v51 := Tryd.zeroValue104
  t119 := Tryd.underlying122
  a119 := Tryd.isAgg122
  z119 := Tryd.sizeOf122
  t141 := Tryd.underlying124
  a141 := Tryd.isAgg124
  z141 := Tryd.sizeOf124
  v141 := Tryd.zeroValue124
  t193 := Tryd.underlying132
  a193 := Tryd.isAgg132
  z193 := Tryd.sizeOf132
  v193 := Tryd.zeroValue132
  t194 := Tryd.underlying133
  a194 := Tryd.isAgg133
  z194 := Tryd.sizeOf133
  v194 := Tryd.zeroValue133
  t196 := Tryd.underlying135
  a196 := Tryd.isAgg135
  z196 := Tryd.sizeOf135
  v196 := Tryd.zeroValue135
  t198 := Tryd.underlying138
  a198 := Tryd.isAgg138
  z198 := Tryd.sizeOf138
  v198 := Tryd.zeroValue138
  t201 := Tryd.underlying141
  a201 := Tryd.isAgg141
  z201 := Tryd.sizeOf141
  v201 := Tryd.zeroValue141
  t226 := Tryd.underlying143
  a226 := Tryd.isAgg143
  z226 := Tryd.sizeOf143
  v226 := Tryd.zeroValue143
  t227 := Tryd.underlying144
  a227 := Tryd.isAgg144
  z227 := Tryd.sizeOf144
  v227 := Tryd.zeroValue144
  g7 := by kernel_rfl
  g8 := by kernel_rfl }
def Tryd.lays197_ren : Go.Shelf.Ren := ⟨fun | 197 => 79 | 260 => 91 | n => n, fun | 9 => 9 | 21 => 21 | 3 => 3 | 4 => 4 | 5 => 5 | 105 => 115 | 119 => 122 | 0 => 0 | 46 => 89 | 139 => 131 | 138 => 130 | n => n, fun | 3 => 6 | 4 => 7 | n => n⟩
theorem Tryd.lays197 : Go.Proofs.Lays.n197 Tryd.prog Tryd.lays197_ren := {
  mixed := by kernel_rfl
  f197 := Tryd.func79.trans (congrArg some (by kernel_rfl))
  f260 := Tryd.func91.trans (congrArg some (by kernel_rfl))
  t0 := Tryd.underlying0
  a0 := Tryd.isAgg0
  z0 := Tryd.sizeOf0
  v0 := Tryd.zeroValue0
  t3 := Tryd.underlying3
  a3 := Tryd.isAgg3
  z3 := Tryd.sizeOf3
  v3 := Tryd.zeroValue3
  t4 := Tryd.underlying4
  a4 := Tryd.isAgg4
  z4 := Tryd.sizeOf4
  v4 := Tryd.zeroValue4
  t5 := Tryd.underlying5
  a5 := Tryd.isAgg5
  z5 := Tryd.sizeOf5
  v5 := Tryd.zeroValue5
  t9 := Tryd.underlying9
  a9 := Tryd.isAgg9
  z9 := Tryd.sizeOf9
  v9 := Tryd.zeroValue9
  t21 := Tryd.underlying21
  a21 := Tryd.isAgg21
  z21 := Tryd.sizeOf21
  v21 := Tryd.zeroValue21
  t46 := Tryd.underlying89
  a46 := Tryd.isAgg89
  z46 := Tryd.sizeOf89
  v46 := Tryd.zeroValue89
  t105 := Tryd.underlying115
  a105 := Tryd.isAgg115
  z105 := Tryd.sizeOf115
  v105 := Tryd.zeroValue115
  t119 := Tryd.underlying122
  a119 := Tryd.isAgg122
  z119 := Tryd.sizeOf122
  t138 := Tryd.underlying130
  a138 := Tryd.isAgg130
  z138 := Tryd.sizeOf130
  v138 := Tryd.zeroValue130
  t139 := Tryd.underlying131
  a139 := Tryd.isAgg131
  z139 := Tryd.sizeOf131
  v139 := Tryd.zeroValue131
  g3 := by kernel_rfl
  g4 := by kernel_rfl }
def Tryd.lays260_ren : Go.Shelf.Ren := ⟨fun | 260 => 91 | n => n, fun | 9 => 9 | 21 => 21 | 3 => 3 | 4 => 4 | 5 => 5 | 119 => 122 | 0 => 0 | 46 => 89 | 139 => 131 | 138 => 130 | n => n, fun | 3 => 6 | 4 => 7 | n => n⟩
theorem Tryd.lays260 : Go.Proofs.Lays.n260 Tryd.prog Tryd.lays260_ren := {
  mixed := by kernel_rfl
  f260 := Tryd.func91.trans (congrArg some (by kernel_rfl))
  t0 := Tryd.underlying0
  a0 := Tryd.isAgg0
  z0 := Tryd.sizeOf0
  v0 := Tryd.zeroValue0
  t3 := Tryd.underlying3
  a3 := Tryd.isAgg3
  z3 := Tryd.sizeOf3
  v3 := Tryd.zeroValue3
  t4 := Tryd.underlying4
  a4 := Tryd.isAgg4
  z4 := Tryd.sizeOf4
  v4 := Tryd.zeroValue4
  t5 := Tryd.underlying5
  a5 := Tryd.isAgg5
  z5 := Tryd.sizeOf5
  v5 := Tryd.zeroValue5
  t9 := Tryd.underlying9
  a9 := Tryd.isAgg9
  z9 := Tryd.sizeOf9
  v9 := Tryd.zeroValue9
  t21 := Tryd.underlying21
  a21 := Tryd.isAgg21
  z21 := Tryd.sizeOf21
  v21 := Tryd.zeroValue21
  t46 := Tryd.underlying89
  a46 := Tryd.isAgg89
  z46 := Tryd.sizeOf89
  v46 := Tryd.zeroValue89
  t119 := Tryd.underlying122
  a119 := Tryd.isAgg122
  z119 := Tryd.sizeOf122
  t138 := Tryd.underlying130
  a138 := Tryd.isAgg130
  z138 := Tryd.sizeOf130
  v138 := Tryd.zeroValue130
  t139 := Tryd.underlying131
  a139 := Tryd.isAgg131
  z139 := Tryd.sizeOf131
  v139 := Tryd.zeroValue131
  g3 := by kernel_rfl
  g4 := by kernel_rfl }
open Go.RowKit Go.Lib in
theorem Tryd.utf8_DecodeRuneInString (s : ByteArray) (w : World) (hT : Lib.Utf8Tabs 6 7 w) :
    Calls Tryd.prog 79 #[.string s] w fun e w' => e = .returned (.tuple #[.int .i32 (Lib.decodeGo s).1, .int .i64 (Lib.decodeGo s).2]) ∧ Below w.heap.size w w' := Any.utf8_DecodeRuneInString Tryd.lays197 s w hT
def Tryd.lays261_ren : Go.Shelf.Ren := ⟨fun | 261 => 92 | 311 => 93 | 312 => 94 | n => n, fun | 141 => 124 | 21 => 21 | 4 => 4 | 0 => 0 | 196 => 135 | 193 => 132 | 3 => 3 | 51 => 104 | 198 => 138 | 49 => 136 | 194 => 133 | 201 => 141 | 226 => 143 | 46 => 89 | 227 => 144 | n => n, fun | n => n⟩
theorem Tryd.lays261 : Go.Proofs.Lays.n261 Tryd.prog Tryd.lays261_ren := {
  mixed := by kernel_rfl
  f261 := Tryd.func92.trans (congrArg some (by kernel_rfl))
  f311 := Tryd.func93.trans (congrArg some (by kernel_rfl))
  f312 := Tryd.func94.trans (congrArg some (by kernel_rfl))
  t0 := Tryd.underlying0
  a0 := Tryd.isAgg0
  z0 := Tryd.sizeOf0
  v0 := Tryd.zeroValue0
  t3 := Tryd.underlying3
  a3 := Tryd.isAgg3
  z3 := Tryd.sizeOf3
  v3 := Tryd.zeroValue3
  t4 := Tryd.underlying4
  a4 := Tryd.isAgg4
  z4 := Tryd.sizeOf4
  v4 := Tryd.zeroValue4
  t21 := Tryd.underlying21
  a21 := Tryd.isAgg21
  z21 := Tryd.sizeOf21
  v21 := Tryd.zeroValue21
  t46 := Tryd.underlying89
  a46 := Tryd.isAgg89
  z46 := Tryd.sizeOf89
  v46 := Tryd.zeroValue89
  t49 := Tryd.underlying136
  a49 := Tryd.isAgg136
  z49 := Tryd.sizeOf136
  v49 := Tryd.zeroValue136
  t51 := Tryd.underlying104
  a51 := Tryd.isAgg104
  z51 := Tryd.sizeOf104
  v51 := Tryd.zeroValue104
  t141 := Tryd.underlying124
  a141 := Tryd.isAgg124
  z141 := Tryd.sizeOf124
  v141 := Tryd.zeroValue124
  t193 := Tryd.underlying132
  a193 := Tryd.isAgg132
  z193 := Tryd.sizeOf132
  v193 := Tryd.zeroValue132
  t194 := Tryd.underlying133
  a194 := Tryd.isAgg133
  z194 := Tryd.sizeOf133
  v194 := Tryd.zeroValue133
  t196 := Tryd.underlying135
  a196 := Tryd.isAgg135
  z196 := Tryd.sizeOf135
  v196 := Tryd.zeroValue135
  t198 := Tryd.underlying138
  a198 := Tryd.isAgg138
  z198 := Tryd.sizeOf138
  v198 := Tryd.zeroValue138
  t201 := Tryd.underlying141
  a201 := Tryd.isAgg141
  z201 := Tryd.sizeOf141
  v201 := Tryd.zeroValue141
  t226 := Tryd.underlying143
  a226 := Tryd.isAgg143
  z226 := Tryd.sizeOf143
  v226 := Tryd.zeroValue143
  t227 := Tryd.underlying144
  a227 := Tryd.isAgg144
  z227 := Tryd.sizeOf144
  v227 := Tryd.zeroValue144 }
def Tryd.lays274_ren : Go.Shelf.Ren := ⟨fun | 274 => 89 | n => n, fun | 21 => 21 | 162 => 113 | 160 => 119 | 3 => 3 | 4 => 4 | 46 => 89 | 0 => 0 | 208 => 128 | 51 => 104 | 206 => 126 | n => n, fun | n => n⟩
theorem Tryd.lays274 : Go.Proofs.Lays.n274 Tryd.prog Tryd.lays274_ren := {
  mixed := by kernel_rfl
  f274 := Tryd.func89.trans (congrArg some (by kernel_rfl))
  t0 := Tryd.underlying0
  a0 := Tryd.isAgg0
  z0 := Tryd.sizeOf0
  v0 := Tryd.zeroValue0
  t3 := Tryd.underlying3
  a3 := Tryd.isAgg3
  z3 := Tryd.sizeOf3
  v3 := Tryd.zeroValue3
  t4 := Tryd.underlying4
  a4 := Tryd.isAgg4
  z4 := Tryd.sizeOf4
  v4 := Tryd.zeroValue4
  t21 := Tryd.underlying21
  a21 := Tryd.isAgg21
  z21 := Tryd.sizeOf21
  v21 := Tryd.zeroValue21
  t46 := Tryd.underlying89
  a46 := Tryd.isAgg89
  z46 := Tryd.sizeOf89
  v46 := Tryd.zeroValue89
  t51 := Tryd.underlying104
  a51 := Tryd.isAgg104
  z51 := Tryd.sizeOf104
  v51 := Tryd.zeroValue104
  t160 := Tryd.underlying119
  a160 := Tryd.isAgg119
  z160 := Tryd.sizeOf119
  v160 := Tryd.zeroValue119
  t162 := Tryd.underlying113
  a162 := Tryd.isAgg113
  z162 := Tryd.sizeOf113
  v162 := Tryd.zeroValue113
  t208 := Tryd.underlying128
  a208 := Tryd.isAgg128
  z208 := Tryd.sizeOf128
  v208 := Tryd.zeroValue128 }
open Go.RowKit Go.Lib in
theorem Tryd.unicode_ToLower_laid (r : Int) (w : World) (hV : CaseVar 0 caseA w) :
    Calls Tryd.prog 49 #[.int .i32 r] w fun e w' => e = .returned (.int .i32 (toLowerU r)) ∧ ∃ q, w' = w.drewN q := Any.unicode_ToLower_laid Tryd.lays204 r w hV
open Go.RowKit Go.Lib in
theorem Tryd.unicode_IsLetter_all (r : Int) (w : World) (hlo : -2147483648 ≤ r) (hhi : r ≤ 2147483647) (htab : Lib.TabIs Tryd.prog w "unicode.properties" .u8 Lib.propertiesTab) (hV : RVar 3 letterT w) :
    Calls Tryd.prog 80 #[.int .i32 r] w fun e w' => e = .returned (.bool (isLetterU r)) ∧ Below w.heap.size w w' := Any.unicode_IsLetter_all Tryd.lays200 (by kernel_rfl) r w hlo hhi htab hV
open Go.RowKit Go.Lib in
theorem Tryd.unicode_IsDigit_all (r : Int) (w : World) (hlo : -2147483648 ≤ r) (hhi : r ≤ 2147483647) (hV : RVar 4 digitT w) :
    Calls Tryd.prog 81 #[.int .i32 r] w fun e w' => e = .returned (.bool (isDigitU r)) ∧ Below w.heap.size w w' := Any.unicode_IsDigit_all Tryd.lays198 r w hlo hhi hV
def Tryd.laysGn19_ren : Go.Shelf.Ren := ⟨fun | 19 => 82 | 27 => 92 | 25 => 93 | 26 => 94 | n => n, fun | 21 => 21 | 4 => 4 | 22 => 124 | 0 => 0 | 31 => 135 | 28 => 132 | 3 => 3 | 32 => 104 | 35 => 138 | 33 => 136 | 29 => 133 | 38 => 141 | 41 => 143 | 42 => 89 | 43 => 144 | n => n, fun | 3 => 5 | n => n⟩
theorem Tryd.laysGn19 : Go.Proofs.LaysGn.n19 Tryd.prog Tryd.laysGn19_ren := {
  mixed := by kernel_rfl
  f19 := Tryd.func82.trans (congrArg some (by kernel_rfl))
  f25 := Tryd.func93.trans (congrArg some (by kernel_rfl))
  f26 := Tryd.func94.trans (congrArg some (by kernel_rfl))
  f27 := Tryd.func92.trans (congrArg some (by kernel_rfl))
  t0 := Tryd.underlying0
  a0 := Tryd.isAgg0
  z0 := Tryd.sizeOf0
  v0 := Tryd.zeroValue0
  i0 := by kernel_rfl
  t3 := Tryd.underlying3
  a3 := Tryd.isAgg3
  z3 := Tryd.sizeOf3
  v3 := Tryd.zeroValue3
  i3 := by kernel_rfl
  t4 := Tryd.underlying4
  a4 := Tryd.isAgg4
  z4 := Tryd.sizeOf4
  v4 := Tryd.zeroValue4
  i4 := by kernel_rfl
  t21 := Tryd.underlying21
  a21 := Tryd.isAgg21
  z21 := Tryd.sizeOf21
  v21 := Tryd.zeroValue21
  i21 := by kernel_rfl
  t22 := Tryd.underlying124
  a22 := Tryd.isAgg124
  z22 := Tryd.sizeOf124
  v22 := Tryd.zeroValue124
  i22 := by kernel_rfl
  t28 := Tryd.underlying132
  a28 := Tryd.isAgg132
  z28 := Tryd.sizeOf132
  v28 := Tryd.zeroValue132
  i28 := by kernel_rfl
  t29 := Tryd.underlying133
  a29 := Tryd.isAgg133
  z29 := Tryd.sizeOf133
  v29 := Tryd.zeroValue133
  i29 := by kernel_rfl
  t31 := Tryd.underlying135
  a31 := Tryd.isAgg135
  z31 := Tryd.sizeOf135
  v31 := Tryd.zeroValue135
  i31 := by kernel_rfl
  t32 := Tryd.underlying104
  a32 := Tryd.isAgg104
  z32 := Tryd.sizeOf104
  v32 := Tryd.zeroValue104
  i32 := by kernel_rfl
  t33 := Tryd.underlying136
  a33 := Tryd.isAgg136
  z33 := Tryd.sizeOf136
  v33 := Tryd.zeroValue136
  i33 := by kernel_rfl
  t35 := Tryd.underlying138
  a35 := Tryd.isAgg138
  z35 := Tryd.sizeOf138
  v35 := Tryd.zeroValue138
  i35 := by kernel_rfl
  t38 := Tryd.underlying141
  a38 := Tryd.isAgg141
  z38 := Tryd.sizeOf141
  v38 := Tryd.zeroValue141
  i38 := by kernel_rfl
  t41 := Tryd.underlying143
  a41 := Tryd.isAgg143
  z41 := Tryd.sizeOf143
  v41 := Tryd.zeroValue143
  i41 := by kernel_rfl
  t42 := Tryd.underlying89
  a42 := Tryd.isAgg89
  z42 := Tryd.sizeOf89
  v42 := Tryd.zeroValue89
  i42 := by kernel_rfl
  t43 := Tryd.underlying144
  a43 := Tryd.isAgg144
  z43 := Tryd.sizeOf144
  v43 := Tryd.zeroValue144
  i43 := by kernel_rfl
  g3 := by kernel_rfl
  m3 := by kernel_rfl }
open Go.RowKit Go.Lib in
theorem Tryd.unicode_IsMark_all (r : Int) (w : World) (hlo : -2147483648 ≤ r) (hhi : r ≤ 2147483647) (hV : RVar 5 markT w) :
    Calls Tryd.prog 82 #[.int .i32 r] w fun e w' => e = .returned (.bool (isMarkU r)) ∧ Below w.heap.size w w' := Any.unicode_IsMark_all Tryd.laysGn19 r w hlo hhi hV
def Tryd.laysNm225_ren : Go.Shelf.Ren := ⟨fun | 25 => 32 | 31 => 51 | 32 => 52 | 37 => 69 | n => n, fun | 22 => 22 | 3 => 3 | 4 => 4 | 40 => 89 | 0 => 0 | n => n, fun | n => n⟩
theorem Tryd.laysNm225 : Go.Proofs.Lays2.n25 Tryd.prog Tryd.laysNm225_ren := {
  mixed := by kernel_rfl
  f25 := Tryd.func32.trans (congrArg some (by kernel_rfl))
  f31 := Tryd.func51.trans (congrArg some (by kernel_rfl))
  f32 := Tryd.func52.trans (congrArg some (by kernel_rfl))
  f37 := Tryd.func69.trans (congrArg some (by kernel_rfl))
  t0 := Tryd.underlying0
  a0 := Tryd.isAgg0
  z0 := Tryd.sizeOf0
  v0 := Tryd.zeroValue0
  t3 := Tryd.underlying3
  a3 := Tryd.isAgg3
  z3 := Tryd.sizeOf3
  v3 := Tryd.zeroValue3
  t4 := Tryd.underlying4
  a4 := Tryd.isAgg4
  z4 := Tryd.sizeOf4
  v4 := Tryd.zeroValue4
  t22 := Tryd.underlying22
  a22 := Tryd.isAgg22
  z22 := Tryd.sizeOf22
  v22 := Tryd.zeroValue22
  t40 := Tryd.underlying89
  a40 := Tryd.isAgg89
  z40 := Tryd.sizeOf89
  v40 := Tryd.zeroValue89 }
open Go.RowKit Go.Lib in
theorem Tryd.slices_BinarySearch_int (b off n c : Nat) (zs : List Int) (x : Int) (w : World) (hz : n ≤ zs.length) (hbig : n < 4611686018427387904) (hc : ∀ j, j < zs.length → w.cell? ⟨b, off + j, none⟩ = some (.int .i64 (zs.getD j 0))) (hs : (zs.take n).Pairwise (· ≤ ·)) :
    Calls Tryd.prog 32 #[.slice (some ⟨b, off, none⟩) n c, .int .i64 x] w fun e w' => e = .returned (.tuple #[.int .i64 ((zs.take n).countP (· < x) : Nat), .bool ((zs.take n).contains x)]) ∧ ∃ q, w' = w.drewN q := Any.slices_BinarySearch_int Tryd.laysNm225 b off n c zs x w hz hbig hc hs
open Go.RowKit Go.Lib in
theorem Tryd.slices_BinarySearch_int_empty (a : Option Addr) (c : Nat) (x : Int) (w : World) :
    Calls Tryd.prog 32 #[.slice a 0 c, .int .i64 x] w fun e w' => e = .returned (.tuple #[.int .i64 0, .bool false]) ∧ w' = w := Any.slices_BinarySearch_int_empty Tryd.laysNm225 a c x w
end Go.Proofs
/-
  Faults and ranges: the small functions.
-/
namespace Go.Proofs.YtngdfjlodblagaaDoor
open Go.RowKit

theorem ret_str {a b : ByteArray} (h : a = b) : Ending.returned (.string a) = .returned (.string b) := by rw [h]
theorem ret_bool {a b : Bool} (h : a = b) : Ending.returned (.bool a) = .returned (.bool b) := by rw [h]
/-! ### Faults -/
theorem none_ok (w : World) : Calls Tryd.prog 20 #[] w fun e w' => e = .returned (.agg #[.int .i64 0, .int .i64 0]) ∧ Below w.heap.size w w' := by
  go_enter Tryd.func20, Tryd.ntmps20
  go_wp2
  exact bodyPost_ret (v := .agg #[.int .i64 0, .int .i64 0]) (by simp [results, Tryd.results20, go_sem]) rfl ⟨rfl, (Below.refl _ _).alloc (Nat.le_refl _) _⟩
theorem fault_ok (a b : Int) (w : World) : Calls Tryd.prog 16 #[.int .i64 a, .int .i64 b] w fun e w' => e = .returned (.agg #[.int .i64 a, .int .i64 b]) ∧ Below w.heap.size w w' := by
  go_enter Tryd.func16, Tryd.ntmps16
  go_wp2
  exact bodyPost_ret (v := .agg #[.int .i64 a, .int .i64 b]) (by simp [results, Tryd.results16, go_sem]) rfl ⟨rfl, (Below.refl _ _).alloc (Nat.le_refl _) _⟩
theorem failed_ok (a b : Int) (w : World) : Calls Tryd.prog 13 #[.agg #[.int .i64 a, .int .i64 b]] w fun e w' => e = .returned (.bool (a != 0)) ∧ Below w.heap.size w w' := by
  go_enter Tryd.func13, Tryd.ntmps13
  go_wp2
  go_ret
  exact ⟨rfl, (Below.refl _ _).alloc (Nat.le_refl _) _⟩
theorem Blk.put2 {w : World} {g : Nat} {t : TypeId} {x y : Value} (h : Blk w g t #[x, y]) (a b : Value) :
    ((w.setCell ⟨g, 0, none⟩ a).setCell ⟨g, 1, none⟩ b).cell? ⟨g, 0, none⟩ = some a ∧ ((w.setCell ⟨g, 0, none⟩ a).setCell ⟨g, 1, none⟩ b).cell? ⟨g, 1, none⟩ = some b := by
  have h2 : Blk ((w.setCell ⟨g, 0, none⟩ a).setCell ⟨g, 1, none⟩ b) g t #[a, b] := by simpa using (h.set_ 0 a).set_ 1 b
  exact ⟨h2.two.1, h2.two.2.1⟩
theorem below2 {w : World} {w1 w2 : World} (h1 : Below w.heap.size w w1) (h2 : Below w1.heap.size w1 w2) : Below w.heap.size w w2 := h1.trans (h2.mono h1.size)
theorem below_set2 {B : Nat} {w w' : World} (h : Below B w w') {g : Nat} (hg : B ≤ g) (a b : Value) : Below B w ((w'.setCell ⟨g, 0, none⟩ a).setCell ⟨g, 1, none⟩ b) := Below.setCell (p := ⟨g, 1, none⟩) (Below.setCell (p := ⟨g, 0, none⟩) h hg a) hg b
theorem below_drew {B : Nat} {w w' : World} (h : Below B w w') : Below B w w'.drew := ⟨h.os, h.tape, h.output, h.size, h.block⟩
theorem ret_fault {a b c d : Int} (h : (c, d) = (a, b)) : Ending.returned (.agg #[.int .i64 a, .int .i64 b]) = .returned (.agg #[.int .i64 c, .int .i64 d]) := by injection h with h1 h2; rw [h1, h2]
theorem SlR.set2 {α : Type} {C : Codec α} {M : Nat → Prop} {w : World} {v : Value} {l : List α} (h : SlR C M w v l) {g : Nat} (hg : M g) (a b : Value) : SlR C M ((w.setCell ⟨g, 0, none⟩ a).setCell ⟨g, 1, none⟩ b) v l :=
  h.keep (fun k _ hk => (heap_setCell_other _ _ _ _ (fun e => hk (by rw [show k = g from e]; exact hg))).trans (heap_setCell_other _ _ _ _ (fun e => hk (by rw [show k = g from e]; exact hg)))) (by simp)
end Go.Proofs.YtngdfjlodblagaaDoor
/-
  The tables of the library's, and stem.Letter, inWord.
-/
namespace Go.Proofs.YtngdfjlodblagaaDoor
open Go.RowKit
set_option linter.unusedVariables false
/-- the tables lie as the library's text lays them -/
structure TabsU (w : World) : Prop where
  u8 : Lib.Utf8Tabs 6 7 w
  case : Lib.CaseVar 0 Lib.caseA w
  props : Lib.TabIs Tryd.prog w "unicode.properties" .u8 Lib.propertiesTab
  letter : Lib.RVar 3 Lib.letterT w
  digit : Lib.RVar 4 Lib.digitT w
  mark : Lib.RVar 5 Lib.markT w
theorem caseVar_ext {g : Nat} {T : Array Lib.CaseRow} {w w' : World} (h : Lib.CaseVar g T w) (hb : Below w.heap.size w w') : Lib.CaseVar g T w' := by
  have k : ∀ {a : Addr} {v : Value}, w.cell? a = some v → w'.cell? a = some v := fun {a v} hc => (hb.cell (World.block_lt_of_cell? w a hc)).trans hc
  obtain ⟨R, oR, cap, h1, h2⟩ := h
  exact ⟨R, oR, cap, k h1, fun i hi => ⟨k (h2 i hi).1, k (h2 i hi).2.1, k (h2 i hi).2.2.1, k (h2 i hi).2.2.2.1, k (h2 i hi).2.2.2.2⟩⟩
theorem TabsU.ext {w w' : World} (h : TabsU w) (hb : Below w.heap.size w w') : TabsU w' where
  u8 := Utf8Tabs_below h.u8 hb
  case := caseVar_ext h.case hb
  props := TabIs_below (g := 2) (by kernel_rfl) h.props hb
  letter := RVar_below h.letter hb
  digit := RVar_below h.digit hb
  mark := RVar_below h.mark hb
theorem chLetter_ok (r : Nat) (hr : r ≤ 1114111) (w : World) (hT : TabsU w) : Calls Tryd.prog 68 #[.int .i32 (r : Int)] w fun e w' => e = .returned (.bool (Sm.isL r)) ∧ Below w.heap.size w w' := by
  have h1 := Tryd.unicode_IsLetter_all (r : Int) w (by omega) (by omega) hT.props hT.letter
  have h2 := fun W hb => Tryd.unicode_IsDigit_all (r : Int) W (by omega) (by omega) (hT.ext hb).digit
  have h3 := fun W hb => Tryd.unicode_IsMark_all (r : Int) W (by omega) (by omega) (hT.ext hb).mark
  have hl : Sm.isL r = (Lib.isLetterU (r : Int) || Lib.isDigitU (r : Int) || Lib.isMarkU (r : Int)) := rfl
  clear hT
  generalize Lib.isLetterU (r : Int) = b1 at h1 hl
  generalize Lib.isDigitU (r : Int) = b2 at h2 hl
  generalize Lib.isMarkU (r : Int) = b3 at h3 hl
  have Hl := Lib.hid hl; have H1 := Lib.hid h1; have H2 := Lib.hid h2; have H3 := Lib.hid h3
  clear hl h1 h2 h3
  go_enter Tryd.func68, Tryd.ntmps68
  go_wp2_with fail
  refine H1.out.mono ?_
  rintro e w1 ⟨rfl, hb1⟩
  cases b1 with
  | true =>
    go_wp2
    go_ret
    exact ⟨ret_bool (by rw [Hl.out]; rfl), hb1⟩
  | false =>
    go_wp2_with fail
    refine (H2.out _ hb1).mono ?_
    rintro e w2 ⟨rfl, hb2⟩
    have hb12 := below2 hb1 hb2
    cases b2 with
    | true =>
      go_wp2
      go_ret
      exact ⟨ret_bool (by rw [Hl.out]; rfl), hb12⟩
    | false =>
      go_wp2_with fail
      refine (H3.out _ hb12).mono ?_
      rintro e w3 ⟨rfl, hb3⟩
      go_wp2
      go_ret
      exact ⟨ret_bool (by rw [Hl.out]; simp), below2 hb12 hb3⟩
theorem notL_ok (r : Nat) (hr : r ≤ 1114111) (w : World) (hT : TabsU w) : Calls Tryd.prog 67 #[.int .i32 (r : Int)] w fun e w' => e = .returned (.bool (!Sm.isL r)) ∧ Below w.heap.size w w' := by
  have h1 := chLetter_ok r hr w hT
  clear hT
  generalize Sm.isL r = b1 at h1 ⊢
  have H1 := Lib.hid h1
  clear h1
  go_enter Tryd.func67, Tryd.ntmps67
  go_wp2_with fail
  refine H1.out.mono ?_
  rintro e w1 ⟨rfl, hb1⟩
  go_wp2
  go_ret
  exact ⟨rfl, hb1⟩
theorem isL_bad : Sm.isL 65533 = false := by kernel_rfl
end Go.Proofs.YtngdfjlodblagaaDoor
/-
  From a row's listed variables to the tables.
-/
namespace Go.Proofs.YtngdfjlodblagaaDoor
open Go.RowKit Go.Lib Go.Shelf
set_option linter.unusedVariables false
theorem tabIs_of_reads {P : Program} {W : World} {name : String} {k : IntKind} {zs : List Int} {g : Nat} {t e : TypeId} {n : Nat}
    (hg : P.globalNamed name = some g) (hty : (P.globals[g]?).map (·.type) = some t) (ht : P.underlying t = some (.array n e)) (he : P.underlying e = some (.int k)) (hce : P.cellsOf e = 1) (hct : P.cellsOf t = n)
    (h : VarReads P W name (tabData k zs)) : TabIs P W name k zs := by
  obtain ⟨g', t', cs, fuel, p, hg', ht', hvar, hd⟩ := h
  obtain rfl := Option.some.inj (hg.symm.trans hg')
  obtain rfl := Option.some.inj (hty.symm.trans ht')
  unfold TabIs
  rw [hvar, ← cells_of_tab ht he hce hct hd]
theorem acc_eq : (Rows.laid_unicode_utf8_acceptRanges : DataW Unit) = acceptData := by kernel_rfl
theorem prop_eq : (Rows.laid_unicode_properties : DataW Unit) = tabData .u8 Lib.propertiesTab := by kernel_rfl
theorem case_eq : Rows.laid_unicode_CaseRanges = caseData := Pinned.caseRanges_eq
theorem letter_eq : Rows.laid_unicode_Letter = rtabData letterT := Pinned.letter_eq
theorem digit_eq : Rows.laid_unicode_Digit = rtabData digitT := Pinned.digit_eq
theorem mark_eq : Rows.laid_unicode_Mark = rtabData markT := Pinned.mark_eq
theorem first_eq : Rows.laid_unicode_utf8_first = firstData := Pinned.utf8First_eq
theorem tabs_of {l : List (String × DataW Unit)} {W : World} (hL : laidMet Tryd.prog l W)
    (m1 : ("unicode/utf8.first", Rows.laid_unicode_utf8_first) ∈ l) (m2 : ("unicode/utf8.acceptRanges", (Rows.laid_unicode_utf8_acceptRanges : DataW Unit)) ∈ l) (m3 : ("unicode.properties", (Rows.laid_unicode_properties : DataW Unit)) ∈ l)
    (m4 : ("unicode.CaseRanges", Rows.laid_unicode_CaseRanges) ∈ l) (m5 : ("unicode.Letter", Rows.laid_unicode_Letter) ∈ l) (m6 : ("unicode.Digit", Rows.laid_unicode_Digit) ∈ l) (m7 : ("unicode.Mark", Rows.laid_unicode_Mark) ∈ l) : TabsU W where
  u8 := utf8Tabs_of_reads Tryd.lays260 ⟨by kernel_rfl, by kernel_rfl, by kernel_rfl, by kernel_rfl, by kernel_rfl, by kernel_rfl, by kernel_rfl⟩ (first_eq ▸ Lib.laidMet.reads hL m1) (acc_eq ▸ Lib.laidMet.reads hL m2)
  case := caseVar_of_reads (ρ := Tryd.lays204_ren) { Tryd.lays204 with } (by kernel_rfl) ⟨by kernel_rfl, by kernel_rfl, by kernel_rfl, by kernel_rfl, by kernel_rfl, by kernel_rfl⟩ (case_eq ▸ Lib.laidMet.reads hL m4)
  props := tabIs_of_reads (g := 2) (t := 122) (e := 5) (n := 256) (by kernel_rfl) (by kernel_rfl) (by kernel_rfl) (by kernel_rfl) (by kernel_rfl) (by kernel_rfl) (prop_eq ▸ Lib.laidMet.reads hL m3)
  letter := rvar_of_reads Tryd.lays261 ⟨by kernel_rfl, by kernel_rfl, by kernel_rfl, by kernel_rfl, by kernel_rfl, by kernel_rfl, by kernel_rfl, by kernel_rfl⟩ (by kernel_rfl) (by kernel_rfl) (letter_eq ▸ Lib.laidMet.reads hL m5)
  digit := rvar_of_reads Tryd.lays261 ⟨by kernel_rfl, by kernel_rfl, by kernel_rfl, by kernel_rfl, by kernel_rfl, by kernel_rfl, by kernel_rfl, by kernel_rfl⟩ (by kernel_rfl) (by kernel_rfl) (digit_eq ▸ Lib.laidMet.reads hL m6)
  mark := rvar_of_reads Tryd.lays261 ⟨by kernel_rfl, by kernel_rfl, by kernel_rfl, by kernel_rfl, by kernel_rfl, by kernel_rfl, by kernel_rfl, by kernel_rfl⟩ (by kernel_rfl) (by kernel_rfl) (mark_eq ▸ Lib.laidMet.reads hL m7)
end Go.Proofs.YtngdfjlodblagaaDoor
/-
  Sorted lists of keys and values: look-up, insertion, removal; two of the same look-ups are one. No program is named here.
-/
namespace Go.Proofs.YtngdfjlodblagaaDoor
namespace Al
/-- a strict order in which any two keys are compared -/
structure Tot {K : Type} (lt : K → K → Bool) : Prop where
  irrefl : ∀ a, lt a a = false
  trans : ∀ a b c, lt a b = true → lt b c = true → lt a c = true
  total : ∀ a b, lt a b = false → lt b a = false → a = b
variable {K V : Type} {lt : K → K → Bool}
theorem Tot.asymm (h : Tot lt) {a b : K} (hab : lt a b = true) : lt b a = false := by
  cases hb : lt b a with
  | false => rfl
  | true => have := h.trans _ _ _ hab hb; rw [h.irrefl] at this; cases this
theorem Tot.ne (h : Tot lt) {a b : K} (hab : lt a b = true) : a ≠ b := by
  intro e
  subst e
  rw [h.irrefl] at hab
  cases hab
def Sorted (lt : K → K → Bool) (l : List (K × V)) : Prop := l.Pairwise fun a b => lt a.1 b.1 = true
theorem sorted_filter {l : List (K × V)} (hs : Sorted lt l) (p : K × V → Bool) : Sorted lt (l.filter p) := List.Pairwise.sublist List.filter_sublist hs
theorem sorted_map {W : Type} (g : V → W) {l : List (K × V)} (hs : Sorted lt l) : Sorted lt (l.map fun p => (p.1, g p.2)) := by
  unfold Sorted
  rw [List.pairwise_map]
  exact hs
variable [DecidableEq K]
def look : List (K × V) → K → Option V
  | [], _ => none
  | p :: l, k => if p.1 = k then some p.2 else look l k
theorem look_none {l : List (K × V)} {k : K} (h : ∀ p ∈ l, p.1 ≠ k) : look l k = none := by
  induction l with
  | nil => rfl
  | cons p l ih =>
    rw [look, if_neg (h p List.mem_cons_self)]
    exact ih fun q hq => h q (List.mem_cons_of_mem _ hq)
theorem look_mem {l : List (K × V)} {k : K} {v : V} (h : look l k = some v) : (k, v) ∈ l := by
  induction l with
  | nil => cases h
  | cons p l ih =>
    rw [look] at h
    split at h
    · rename_i e
      injection h with h
      have : p.1 = k := e
      rw [← this, ← h]
      exact List.mem_cons_self
    · exact List.mem_cons_of_mem _ (ih h)
theorem look_of_mem (ht : Tot lt) {l : List (K × V)} (hs : Sorted lt l) {k : K} {v : V} (h : (k, v) ∈ l) : look l k = some v := by
  induction l with
  | nil => cases h
  | cons p l ih =>
    unfold Sorted at hs
    rw [List.pairwise_cons] at hs
    rw [look]
    rcases List.mem_cons.1 h with e | e
    · subst e; simp
    · have := ht.ne (hs.1 _ e)
      rw [if_neg this]
      exact ih hs.2 e
theorem look_none_iff {l : List (K × V)} {k : K} : look l k = none ↔ ∀ p ∈ l, p.1 ≠ k := by
  refine ⟨fun h p hp e => ?_, look_none⟩
  induction l with
  | nil => cases hp
  | cons q l ih =>
    rw [look] at h
    split at h
    · cases h
    · rename_i e2
      rcases List.mem_cons.1 hp with e3 | e3
      · subst e3; exact e2 e
      · exact ih h e3
/-- one of the same look-ups -/
theorem ext (ht : Tot lt) : ∀ {l l' : List (K × V)}, Sorted lt l → Sorted lt l' → (∀ k, look l k = look l' k) → l = l'
  | [], [], _, _, _ => rfl
  | [], p :: l', _, _, h => by have := h p.1; simp [look] at this
  | p :: l, [], _, _, h => by have := h p.1; simp [look] at this
  | p :: l, q :: l', hs, hs', h => by
    have hs0 := hs
    have hs0' := hs'
    unfold Sorted at hs hs'
    rw [List.pairwise_cons] at hs hs'
    have hpq : p.1 = q.1 := by
      apply ht.total
      · cases hlt : lt p.1 q.1 with
        | false => rfl
        | true =>
          exfalso
          have h1 := h p.1
          rw [look_of_mem ht hs0 (show (p.1, p.2) ∈ p :: l from List.mem_cons_self)] at h1
          have h2 := look_mem h1.symm
          rcases List.mem_cons.1 h2 with e | e
          · exact ht.ne hlt (by rw [← e])
          · have := ht.asymm (hs'.1 _ e); simp only at this; rw [hlt] at this; cases this
      · cases hlt : lt q.1 p.1 with
        | false => rfl
        | true =>
          exfalso
          have h1 := h q.1
          rw [look_of_mem ht hs0' (show (q.1, q.2) ∈ q :: l' from List.mem_cons_self)] at h1
          have h2 := look_mem h1
          rcases List.mem_cons.1 h2 with e | e
          · exact ht.ne hlt (by rw [← e])
          · have := ht.asymm (hs.1 _ e); simp only at this; rw [hlt] at this; cases this
    have hv : p.2 = q.2 := by
      have h1 := h p.1
      rw [look, look, hpq] at h1
      simpa using h1
    have : p = q := Prod.ext hpq hv
    subst this
    congr 1
    refine ext ht hs.2 hs'.2 fun k => ?_
    have h1 := h k
    rw [look, look] at h1
    split at h1
    · rename_i e
      have e' : p.1 = k := e
      rw [look_none fun r hr e2 => ht.ne (hs.1 r hr) (e'.trans e2.symm), look_none fun r hr e2 => ht.ne (hs'.1 r hr) (e'.trans e2.symm)]
    · exact h1
/-- the value at a key is made anew -/
def upd (lt : K → K → Bool) (f : Option V → V) (k : K) : List (K × V) → List (K × V)
  | [] => [(k, f none)]
  | p :: l => if lt p.1 k then p :: upd lt f k l else if p.1 = k then (k, f (some p.2)) :: l else (k, f none) :: p :: l
theorem key_upd {f : Option V → V} {k : K} {l : List (K × V)} {q : K × V} (h : q ∈ upd lt f k l) : q.1 = k ∨ q ∈ l := by
  induction l with
  | nil => simp [upd] at h; subst h; exact .inl rfl
  | cons p l ih =>
    rw [upd] at h
    split at h
    · rcases List.mem_cons.1 h with e | e
      · exact .inr (e ▸ List.mem_cons_self)
      · exact (ih e).imp id fun h => List.mem_cons_of_mem _ h
    · split at h
      · rcases List.mem_cons.1 h with e | e
        · subst e; exact .inl rfl
        · exact .inr (List.mem_cons_of_mem _ e)
      · rcases List.mem_cons.1 h with e | e
        · subst e; exact .inl rfl
        · exact .inr e
theorem sorted_upd (ht : Tot lt) {f : Option V → V} {k : K} {l : List (K × V)} (hs : Sorted lt l) : Sorted lt (upd lt f k l) := by
  induction l with
  | nil => unfold Sorted; simp [upd]
  | cons p l ih =>
    have hs0 := hs
    unfold Sorted at hs
    rw [List.pairwise_cons] at hs
    rw [upd]
    unfold Sorted
    split
    · rename_i hlt
      refine List.pairwise_cons.2 ⟨fun q hq => ?_, ih hs.2⟩
      rcases key_upd hq with e | e
      · rw [e]; exact hlt
      · exact hs.1 _ e
    · rename_i hlt
      split
      · rename_i e
        have e' : p.1 = k := e
        exact List.pairwise_cons.2 ⟨fun q hq => by rw [← e']; exact hs.1 q hq, hs.2⟩
      · rename_i e
        have hkp : lt k p.1 = true := by
          cases h : lt k p.1 with
          | true => rfl
          | false => exact absurd (ht.total _ _ (by simpa using hlt) h) e
        refine List.pairwise_cons.2 ⟨fun q hq => ?_, hs0⟩
        rcases List.mem_cons.1 hq with e2 | e2
        · rw [e2]; exact hkp
        · exact ht.trans _ _ _ hkp (hs.1 _ e2)
theorem look_upd (ht : Tot lt) {f : Option V → V} {k : K} {l : List (K × V)} (hs : Sorted lt l) (k' : K) : look (upd lt f k l) k' = if k' = k then some (f (look l k)) else look l k' := by
  induction l with
  | nil =>
    rw [upd, look]
    by_cases h : k' = k
    · subst h; simp [look]
    · have : ¬ k = k' := fun e => h e.symm
      simp [look, h, this]
  | cons p l ih =>
    have hs0 := hs
    unfold Sorted at hs
    rw [List.pairwise_cons] at hs
    rw [upd]
    split
    · rename_i hlt
      have hne := ht.ne hlt
      have e1 : ¬ p.1 = k := hne
      rw [look, ih hs.2]
      by_cases h : k' = k
      · subst h
        simp [look, e1]
      · simp only [h, if_false, look]
    · rename_i hlt
      split
      · rename_i e
        have e' : p.1 = k := e
        rw [look]
        by_cases h : k' = k
        · subst h
          simp [look, e]
        · have h2 : ¬ k = k' := fun e => h e.symm
          have h3 : ¬ p.1 = k' := by rw [e']; exact h2
          simp [look, h, h2, h3]
      · rename_i e
        have hkp : lt k p.1 = true := by
          cases h : lt k p.1 with
          | true => rfl
          | false => exact absurd (ht.total _ _ (by simpa using hlt) h) e
        have hn : look (p :: l) k = none := look_none fun q hq e2 => by
          rcases List.mem_cons.1 hq with e3 | e3
          · subst e3; exact ht.ne hkp e2.symm
          · exact ht.ne (ht.trans _ _ _ hkp (hs.1 _ e3)) e2.symm
        rw [look, hn]
        by_cases h : k' = k
        · subst h; simp
        · have h2 : ¬ k = k' := fun e => h e.symm
          simp [h, h2]
theorem look_filter (ht : Tot lt) {l : List (K × V)} (hs : Sorted lt l) (p : K × V → Bool) (k : K) : look (l.filter p) k = (look l k).bind fun v => if p (k, v) then some v else none := by
  cases h : look l k with
  | none =>
    rw [look_none_iff] at h
    exact look_none fun q hq => h q (List.mem_filter.1 hq).1
  | some v =>
    have hm := look_mem h
    show _ = if p (k, v) then some v else none
    split
    · rename_i hp
      exact look_of_mem ht (sorted_filter hs p) (List.mem_filter.2 ⟨hm, hp⟩)
    · rename_i hp
      refine look_none fun q hq e => hp ?_
      obtain ⟨h1, h2⟩ := List.mem_filter.1 hq
      have h3 := look_of_mem ht hs (show (q.1, q.2) ∈ l from h1)
      rw [e, h] at h3
      injection h3 with h3
      rw [h3, ← e]
      exact h2
/-- values turned in place -/
theorem look_map {W : Type} (g : V → W) (l : List (K × V)) (k : K) : look (l.map fun p => (p.1, g p.2)) k = (look l k).map g := by
  induction l with
  | nil => rfl
  | cons p l ih =>
    rw [List.map_cons, look, look, ih]
    split <;> rfl
/-- upd by a position: what stands ahead of it is smaller, what stands there and behind is not -/
theorem upd_at (ht : Tot lt) {f : Option V → V} {k : K} : ∀ {l : List (K × V)}, Sorted lt l → ∀ (i : Nat), i ≤ l.length → (∀ (m : Nat) (h : m < l.length), m < i → lt l[m].1 k = true) → (∀ (h : i < l.length), lt l[i].1 k = false) →
    upd lt f k l = l.take i ++ (match l[i]? with | some p => if p.1 = k then (k, f (some p.2)) :: l.drop (i + 1) else (k, f none) :: l.drop i | none => [(k, f none)])
  | [], _, i, hi, _, _ => by
    have : i = 0 := by simpa using hi
    subst this
    simp [upd]
  | p :: l, hs, 0, _, _, h2 => by
    have h3 := h2 (by simp)
    simp only [List.getElem_cons_zero] at h3
    rw [upd, if_neg (by rw [h3]; simp)]
    simp
  | p :: l, hs, i + 1, hi, h1, h2 => by
    have h3 := h1 0 (by simp) (by omega)
    simp only [List.getElem_cons_zero] at h3
    unfold Sorted at hs
    rw [List.pairwise_cons] at hs
    rw [upd, if_pos h3, upd_at ht hs.2 i (by simpa using hi) (fun m hm hmi => h1 (m + 1) (by simpa using hm) (by omega)) (fun h => h2 (by simpa using h))]
    simp
end Al
theorem tot_int : Al.Tot (fun a b : Int => decide (a < b)) where
  irrefl a := by simp
  trans a b c h1 h2 := by simp at h1 h2 ⊢; omega
  total a b h1 h2 := by simp at h1 h2; omega
theorem tot_str : Al.Tot ltS where
  irrefl := ltS_irrefl
  trans a b c := ltS_trans
  total a b h1 h2 := by
    rcases ltS_total a b with h | h | h
    · rw [h] at h1; cases h1
    · exact h
    · rw [h] at h2; cases h2
end Go.Proofs.YtngdfjlodblagaaDoor
