/-
  Contracts and plain facts, one after another: The order of texts: plain Lean; Words of a text: what the code and the reference compute, in plain lists of bytes; Faults and ranges: the small functions; The tables of the library's, and stem.Letter, inWord; A store into a slice of the call's own. No program is named here; stem.Lower; strings.Compare; The reference's In; The reference's At.
-/
import Derived.Test.YtiohhajkegpebaaGreatDoorBase
import Derived.Test.YtiohhajkegpebaaGreatDoorSmPure
import Derived.Test.YtiohhajkegpebaaGreatDoorRows
import Derived.Test.YtiohhajkegpebaaGreatDoorShelf
import Derived.Sort.Walk0
import Derived.Lib.Bytealg
import Derived.Lib.MapU
import Derived.Lib.TrimUEq
import Derived.Lib.IsU
import Derived.Lib.CaseU
import Derived.Lib.FieldsU
import Derived.Deep.QuietTactic
import Derived.BigQuiet
import Derived.Deep.RegionHeld3
import Derived.StillTailTactics
import Derived.Outline
import Derived.Laws.IdiomStrings
import Derived.Shelf.Strings.CaseAny
import Derived.Lib.OthersKept
import Derived.IntWalk
namespace Go.Proofs.YtiohhajkegpebaaGreatDoor

abbrev Str := List UInt8
/-- One text is ahead of another. -/
def ltS (a b : Str) : Bool := Op.bytesLess a b
theorem ltS_iff (a b : Str) : ltS a b = true ↔ a < b := by rw [ltS, bytesLess_eq]; simp
theorem ltS_irrefl (a : Str) : ltS a a = false := by
  cases h : ltS a a with
  | false => rfl
  | true => exact absurd ((ltS_iff a a).1 h) (List.lt_irrefl a)
theorem ltS_trans {a b c : Str} (h : ltS a b = true) (k : ltS b c = true) : ltS a c = true := (ltS_iff _ _).2 (List.lt_trans ((ltS_iff _ _).1 h) ((ltS_iff _ _).1 k))
theorem ltS_total (a b : Str) : ltS a b = true ∨ a = b ∨ ltS b a = true := by
  rcases Std.Trichotomous.rel_or_eq_or_rel_swap (r := (· < · : Str → Str → Prop)) (a := a) (b := b) with h | h | h
  · exact .inl ((ltS_iff _ _).2 h)
  · exact .inr (.inl h)
  · exact .inr (.inr ((ltS_iff _ _).2 h))
theorem ltS_asymm {a b : Str} (h : ltS a b = true) : ltS b a = false := by
  cases k : ltS b a with
  | false => rfl
  | true => have := ltS_trans h k; rw [ltS_irrefl] at this; cases this
theorem ltS_ne {a b : Str} (h : ltS a b = true) : a ≠ b := fun e => by subst e; rw [ltS_irrefl] at h; cases h
theorem cmp_eqS : ∀ a b : Str, Lib.compareBytes a b = if ltS a b then -1 else if a = b then 0 else 1
  | [], [] => rfl
  | [], _ :: _ => rfl
  | _ :: _, [] => rfl
  | x :: a, y :: b => by
    have ih := cmp_eqS a b
    have e1 : ltS (x :: a) (y :: b) = (decide (x < y) || (x == y && ltS a b)) := rfl
    rw [Lib.compareBytes, ih, e1]
    by_cases h1 : x < y
    · simp [h1]
    · by_cases h2 : y < x
      · have : x ≠ y := fun e => by subst e; exact UInt8.lt_irrefl _ h2
        simp [h1, h2, this]
      · have : x = y := UInt8.le_antisymm (UInt8.not_lt.1 h2) (UInt8.not_lt.1 h1)
        subst this
        simp [UInt8.lt_irrefl]
end Go.Proofs.YtiohhajkegpebaaGreatDoor
namespace Go.Proofs.YtiohhajkegpebaaGreatDoor
namespace Sm
open Go.Lib
/-- a character belongs to words -/
def isL (r : Nat) : Bool := isLetterU (r : Int) || isDigitU (r : Int) || isMarkU (r : Int)
/-- one character in lower case -/
def lowC (r : Nat) : List UInt8 := encodeRune (toLowerU (r : Int))
def lowGo : Nat → List UInt8 → List UInt8
  | 0, _ => []
  | n + 1, l => if l = [] then [] else lowC (decodeL l).1 ++ lowGo n (l.drop (decodeL l).2)
def lower (l : List UInt8) : List UInt8 := lowGo l.length l
def wordsGo : Nat → List UInt8 → List UInt8 → List (List UInt8)
  | 0, cur, _ => if cur = [] then [] else [cur]
  | f + 1, cur, l =>
    if l = [] then (if cur = [] then [] else [cur])
    else if isL (decodeL l).1 then wordsGo f (cur ++ l.take (decodeL l).2) (l.drop (decodeL l).2)
    else (if cur = [] then [] else [cur]) ++ wordsGo f [] (l.drop (decodeL l).2)
def rawWords (l : List UInt8) : List (List UInt8) := wordsGo l.length [] l
def words (l : List UInt8) : List (List UInt8) := (rawWords l).map lower
def stems (l : List UInt8) : List (List UInt8) := (words l).map stem

theorem width_le {l : List UInt8} (h : l ≠ []) : (decodeL l).2 ≤ l.length := by
  rw [decodeL_N]
  exact decodeN_le_n' _ _ _ _ _ (List.length_pos_iff.2 h)
theorem lowGo_nil (f : Nat) : lowGo f [] = [] := by cases f <;> simp [lowGo]
theorem wordsGo_nil (f : Nat) (cur : List UInt8) : wordsGo f cur [] = if cur = [] then [] else [cur] := by cases f <;> simp [wordsGo]
theorem lowGo_fuel : ∀ (f g : Nat) (l : List UInt8), l.length ≤ f → l.length ≤ g → lowGo f l = lowGo g l
  | 0, g, l, hf, _ => by rw [List.eq_nil_of_length_eq_zero (by omega : l.length = 0), lowGo_nil, lowGo_nil]
  | f + 1, 0, l, _, hg => by rw [List.eq_nil_of_length_eq_zero (by omega : l.length = 0), lowGo_nil, lowGo_nil]
  | f + 1, g + 1, l, hf, hg => by
    by_cases hne : l = []
    · rw [hne, lowGo_nil, lowGo_nil]
    · have hw := decodeL_width l
      simp only [lowGo, if_neg hne]
      rw [lowGo_fuel f g _ (by rw [List.length_drop]; omega) (by rw [List.length_drop]; omega)]
theorem wordsGo_fuel : ∀ (f g : Nat) (cur l : List UInt8), l.length ≤ f → l.length ≤ g → wordsGo f cur l = wordsGo g cur l
  | 0, g, cur, l, hf, _ => by rw [List.eq_nil_of_length_eq_zero (by omega : l.length = 0), wordsGo_nil, wordsGo_nil]
  | f + 1, 0, cur, l, _, hg => by rw [List.eq_nil_of_length_eq_zero (by omega : l.length = 0), wordsGo_nil, wordsGo_nil]
  | f + 1, g + 1, cur, l, hf, hg => by
    by_cases hne : l = []
    · rw [hne, wordsGo_nil, wordsGo_nil]
    · have hw := decodeL_width l
      simp only [wordsGo, if_neg hne]
      split
      · exact wordsGo_fuel f g _ _ (by rw [List.length_drop]; omega) (by rw [List.length_drop]; omega)
      · rw [wordsGo_fuel f g _ _ (by rw [List.length_drop]; omega) (by rw [List.length_drop]; omega)]
/-- what is left, from a state -/
def wordsFrom (cur l : List UInt8) : List (List UInt8) := wordsGo l.length cur l
theorem wordsFrom_nil (cur : List UInt8) : wordsFrom cur [] = if cur = [] then [] else [cur] := wordsGo_nil _ _
theorem wordsFrom_step {cur l : List UInt8} (h : l ≠ []) : wordsFrom cur l =
    if isL (decodeL l).1 then wordsFrom (cur ++ l.take (decodeL l).2) (l.drop (decodeL l).2)
    else (if cur = [] then [] else [cur]) ++ wordsFrom [] (l.drop (decodeL l).2) := by
  have hw := decodeL_width l
  have hl := List.length_pos_iff.2 h
  unfold wordsFrom
  rw [show l.length = (l.length - 1) + 1 by omega]
  simp only [wordsGo, if_neg h]
  rw [wordsGo_fuel (l.length - 1) (l.drop (decodeL l).2).length _ _ (by rw [List.length_drop]; omega) (Nat.le_refl _),
    wordsGo_fuel (l.length - 1) (l.drop (decodeL l).2).length _ _ (by rw [List.length_drop]; omega) (Nat.le_refl _)]
theorem lower_nil : lower [] = [] := rfl
theorem lower_step {l : List UInt8} (h : l ≠ []) : lower l = lowC (decodeL l).1 ++ lower (l.drop (decodeL l).2) := by
  have hw := decodeL_width l
  have hl := List.length_pos_iff.2 h
  unfold lower
  rw [show l.length = (l.length - 1) + 1 by omega]
  simp only [lowGo, if_neg h]
  rw [lowGo_fuel (l.length - 1) (l.drop (decodeL l).2).length _ (by rw [List.length_drop]; omega) (Nat.le_refl _)]
theorem lowC_len (r : Nat) : 1 ≤ (lowC r).length ∧ (lowC r).length ≤ 4 := by
  unfold lowC
  rw [← runeCells_length]
  exact runeCells_le _
theorem lower_len : ∀ (n : Nat) (l : List UInt8), l.length ≤ n → (lower l).length ≤ 4 * l.length
  | 0, l, h => by rw [List.eq_nil_of_length_eq_zero (by omega : l.length = 0)]; exact Nat.le_refl _
  | n + 1, l, h => by
    by_cases hne : l = []
    · rw [hne]; exact Nat.le_refl _
    · have hw := decodeL_width l
      have hwl := width_le hne
      have ih := lower_len n (l.drop (decodeL l).2) (by rw [List.length_drop]; omega)
      have hc := lowC_len (decodeL l).1
      rw [lower_step hne, List.length_append]
      rw [List.length_drop] at ih
      omega
/-- no word is empty, and together they are not longer than the text -/
theorem words_sum : ∀ (n : Nat) (cur l : List UInt8), l.length ≤ n → ((wordsFrom cur l).map List.length).sum ≤ cur.length + l.length ∧ ∀ x ∈ wordsFrom cur l, x ≠ []
  | 0, cur, l, h => by
    rw [List.eq_nil_of_length_eq_zero (by omega : l.length = 0), wordsFrom_nil]
    split <;> simp_all
  | n + 1, cur, l, h => by
    by_cases hne : l = []
    · rw [hne, wordsFrom_nil]
      split <;> simp_all
    · have hw := decodeL_width l
      have hwl := width_le hne
      rw [wordsFrom_step hne]
      split
      · have ih := words_sum n (cur ++ l.take (decodeL l).2) (l.drop (decodeL l).2) (by rw [List.length_drop]; omega)
        refine ⟨?_, ih.2⟩
        have := ih.1
        rw [List.length_append, List.length_take, List.length_drop] at this
        omega
      · have ih := words_sum n [] (l.drop (decodeL l).2) (by rw [List.length_drop]; omega)
        have h1 := ih.1
        rw [List.length_drop] at h1
        split
        · rename_i hc
          refine ⟨?_, ih.2⟩
          rw [List.nil_append, hc]
          simp only [List.length_nil] at h1 ⊢
          omega
        · rename_i hc
          refine ⟨?_, ?_⟩
          · simp only [List.singleton_append, List.map_cons, List.sum_cons]
            simp only [List.length_nil] at h1
            omega
          · intro x hx
            rcases List.mem_append.1 hx with hx | hx
            · simp at hx; rw [hx]; exact hc
            · exact ih.2 x hx
end Sm
end Go.Proofs.YtiohhajkegpebaaGreatDoor
namespace Go.Proofs.YtiohhajkegpebaaGreatDoor
open Go.RowKit

theorem ret_str {a b : ByteArray} (h : a = b) : Ending.returned (.string a) = .returned (.string b) := by rw [h]
theorem ret_bool {a b : Bool} (h : a = b) : Ending.returned (.bool a) = .returned (.bool b) := by rw [h]
/-! ### Faults -/
theorem none_ok (w : World) : Calls Tryz.prog 25 #[] w fun e w' => e = .returned (.agg #[.int .i64 0, .int .i64 0]) ∧ Below w.heap.size w w' := by
  go_enter Tryz.func25, Tryz.ntmps25
  go_wp2
  exact bodyPost_ret (v := .agg #[.int .i64 0, .int .i64 0]) (by simp [results, Tryz.results25, go_sem]) rfl ⟨rfl, (Below.refl _ _).alloc (Nat.le_refl _) _⟩
theorem fault_ok (a b : Int) (w : World) : Calls Tryz.prog 22 #[.int .i64 a, .int .i64 b] w fun e w' => e = .returned (.agg #[.int .i64 a, .int .i64 b]) ∧ Below w.heap.size w w' := by
  go_enter Tryz.func22, Tryz.ntmps22
  go_wp2
  exact bodyPost_ret (v := .agg #[.int .i64 a, .int .i64 b]) (by simp [results, Tryz.results22, go_sem]) rfl ⟨rfl, (Below.refl _ _).alloc (Nat.le_refl _) _⟩
theorem failed_ok (a b : Int) (w : World) : Calls Tryz.prog 20 #[.agg #[.int .i64 a, .int .i64 b]] w fun e w' => e = .returned (.bool (a != 0)) ∧ Below w.heap.size w w' := by
  go_enter Tryz.func20, Tryz.ntmps20
  go_wp2
  go_ret
  exact ⟨rfl, (Below.refl _ _).alloc (Nat.le_refl _) _⟩
theorem Blk.put2 {w : World} {g : Nat} {t : TypeId} {x y : Value} (h : Blk w g t #[x, y]) (a b : Value) :
    ((w.setCell ⟨g, 0, none⟩ a).setCell ⟨g, 1, none⟩ b).cell? ⟨g, 0, none⟩ = some a ∧ ((w.setCell ⟨g, 0, none⟩ a).setCell ⟨g, 1, none⟩ b).cell? ⟨g, 1, none⟩ = some b := by
  have h2 : Blk ((w.setCell ⟨g, 0, none⟩ a).setCell ⟨g, 1, none⟩ b) g t #[a, b] := by simpa using (h.set_ 0 a).set_ 1 b
  exact ⟨h2.two.1, h2.two.2.1⟩
theorem below2 {w : World} {w1 w2 : World} (h1 : Below w.heap.size w w1) (h2 : Below w1.heap.size w1 w2) : Below w.heap.size w w2 := h1.trans (h2.mono h1.size)
theorem below_set2 {B : Nat} {w w' : World} (h : Below B w w') {g : Nat} (hg : B ≤ g) (a b : Value) : Below B w ((w'.setCell ⟨g, 0, none⟩ a).setCell ⟨g, 1, none⟩ b) := Below.setCell (p := ⟨g, 1, none⟩) (Below.setCell (p := ⟨g, 0, none⟩) h hg a) hg b
theorem below_drew {B : Nat} {w w' : World} (h : Below B w w') : Below B w w'.drew := ⟨h.os, h.tape, h.output, h.size, h.block⟩
theorem ret_fault {a b c d : Int} (h : (c, d) = (a, b)) : Ending.returned (.agg #[.int .i64 a, .int .i64 b]) = .returned (.agg #[.int .i64 c, .int .i64 d]) := by injection h with h1 h2; rw [h1, h2]
theorem SlR.set2 {α : Type} {C : Codec α} {M : Nat → Prop} {w : World} {v : Value} {l : List α} (h : SlR C M w v l) {g : Nat} (hg : M g) (a b : Value) : SlR C M ((w.setCell ⟨g, 0, none⟩ a).setCell ⟨g, 1, none⟩ b) v l :=
  h.keep (fun k _ hk => (heap_setCell_other _ _ _ _ (fun e => hk (by rw [show k = g from e]; exact hg))).trans (heap_setCell_other _ _ _ _ (fun e => hk (by rw [show k = g from e]; exact hg)))) (by simp)
end Go.Proofs.YtiohhajkegpebaaGreatDoor
namespace Go.Proofs.YtiohhajkegpebaaGreatDoor
open Go.RowKit
set_option linter.unusedVariables false
/-- the tables lie as the library's text lays them -/
structure TabsU (w : World) : Prop where
  u8 : Lib.Utf8Tabs 0 1 w
  case : Lib.CaseVar 6 Lib.caseA w
  props : Lib.TabIs Tryz.prog w "unicode.properties" .u8 Lib.propertiesTab
  letter : Lib.RVar 3 Lib.letterT w
  digit : Lib.RVar 4 Lib.digitT w
  mark : Lib.RVar 5 Lib.markT w
theorem caseVar_ext {g : Nat} {T : Array Lib.CaseRow} {w w' : World} (h : Lib.CaseVar g T w) (hb : Below w.heap.size w w') : Lib.CaseVar g T w' := by
  have k : ∀ {a : Addr} {v : Value}, w.cell? a = some v → w'.cell? a = some v := fun {a v} hc => (hb.cell (World.block_lt_of_cell? w a hc)).trans hc
  obtain ⟨R, oR, cap, h1, h2⟩ := h
  exact ⟨R, oR, cap, k h1, fun i hi => ⟨k (h2 i hi).1, k (h2 i hi).2.1, k (h2 i hi).2.2.1, k (h2 i hi).2.2.2.1, k (h2 i hi).2.2.2.2⟩⟩
theorem TabsU.ext {w w' : World} (h : TabsU w) (hb : Below w.heap.size w w') : TabsU w' where
  u8 := Utf8Tabs_below h.u8 hb
  case := caseVar_ext h.case hb
  props := TabIs_below (g := 2) (by kernel_rfl) h.props hb
  letter := RVar_below h.letter hb
  digit := RVar_below h.digit hb
  mark := RVar_below h.mark hb
theorem chLetter_ok (r : Nat) (hr : r ≤ 1114111) (w : World) (hT : TabsU w) : Calls Tryz.prog 134 #[.int .i32 (r : Int)] w fun e w' => e = .returned (.bool (Sm.isL r)) ∧ Below w.heap.size w w' := by
  have h1 := Tryz.unicode_IsLetter_all (r : Int) w (by omega) (by omega) hT.props hT.letter
  have h2 := fun W hb => Tryz.unicode_IsDigit_all (r : Int) W (by omega) (by omega) (hT.ext hb).digit
  have h3 := fun W hb => Tryz.unicode_IsMark_all (r : Int) W (by omega) (by omega) (hT.ext hb).mark
  have hl : Sm.isL r = (Lib.isLetterU (r : Int) || Lib.isDigitU (r : Int) || Lib.isMarkU (r : Int)) := rfl
  clear hT
  generalize Lib.isLetterU (r : Int) = b1 at h1 hl
  generalize Lib.isDigitU (r : Int) = b2 at h2 hl
  generalize Lib.isMarkU (r : Int) = b3 at h3 hl
  have Hl := Lib.hid hl; have H1 := Lib.hid h1; have H2 := Lib.hid h2; have H3 := Lib.hid h3
  clear hl h1 h2 h3
  go_enter Tryz.func134, Tryz.ntmps134
  go_wp2_with fail
  refine H1.out.mono ?_
  rintro e w1 ⟨rfl, hb1⟩
  cases b1 with
  | true =>
    go_wp2
    go_ret
    exact ⟨ret_bool (by rw [Hl.out]; rfl), hb1⟩
  | false =>
    go_wp2_with fail
    refine (H2.out _ hb1).mono ?_
    rintro e w2 ⟨rfl, hb2⟩
    have hb12 := below2 hb1 hb2
    cases b2 with
    | true =>
      go_wp2
      go_ret
      exact ⟨ret_bool (by rw [Hl.out]; rfl), hb12⟩
    | false =>
      go_wp2_with fail
      refine (H3.out _ hb12).mono ?_
      rintro e w3 ⟨rfl, hb3⟩
      go_wp2
      go_ret
      exact ⟨ret_bool (by rw [Hl.out]; simp), below2 hb12 hb3⟩
theorem isL_bad : Sm.isL 65533 = false := by kernel_rfl
theorem inWord_ok (r : Nat) (hr : r ≤ 1114111) (w : World) (hT : TabsU w) : Calls Tryz.prog 41 #[.int .i32 (r : Int)] w fun e w' => e = .returned (.bool (Sm.isL r)) ∧ Below w.heap.size w w' := by
  by_cases hbad : r = 65533
  · subst hbad
    rw [isL_bad]
    go_enter Tryz.func41, Tryz.ntmps41
    go_wp2
    go_ret
    exact ⟨rfl, Below.refl _ _⟩
  have hne : ((r : Int) != 65533) = true := by rw [bne_iff_ne]; omega
  have h1 := Tryz.unicode_IsLetter_all (r : Int) w (by omega) (by omega) hT.props hT.letter
  have h2 := fun W hb => Tryz.unicode_IsDigit_all (r : Int) W (by omega) (by omega) (hT.ext hb).digit
  have h3 := fun W hb => Tryz.unicode_IsMark_all (r : Int) W (by omega) (by omega) (hT.ext hb).mark
  have hl : Sm.isL r = (Lib.isLetterU (r : Int) || Lib.isDigitU (r : Int) || Lib.isMarkU (r : Int)) := rfl
  clear hT
  generalize Lib.isLetterU (r : Int) = b1 at h1 hl
  generalize Lib.isDigitU (r : Int) = b2 at h2 hl
  generalize Lib.isMarkU (r : Int) = b3 at h3 hl
  have Hl := Lib.hid hl; have H1 := Lib.hid h1; have H2 := Lib.hid h2; have H3 := Lib.hid h3
  clear hl h1 h2 h3
  go_enter Tryz.func41, Tryz.ntmps41
  go_wp2_with fail
  refine H1.out.mono ?_
  rintro e w1 ⟨rfl, hb1⟩
  cases b1 with
  | true =>
    go_wp2
    go_ret
    exact ⟨ret_bool (by rw [Hl.out]; rfl), hb1⟩
  | false =>
    go_wp2_with fail
    refine (H2.out _ hb1).mono ?_
    rintro e w2 ⟨rfl, hb2⟩
    have hb12 := below2 hb1 hb2
    cases b2 with
    | true =>
      go_wp2
      go_ret
      exact ⟨ret_bool (by rw [Hl.out]; rfl), hb12⟩
    | false =>
      go_wp2_with fail
      refine (H3.out _ hb12).mono ?_
      rintro e w3 ⟨rfl, hb3⟩
      go_wp2
      go_ret
      exact ⟨ret_bool (by rw [Hl.out]; simp), below2 hb12 hb3⟩
end Go.Proofs.YtiohhajkegpebaaGreatDoor
namespace Go.Proofs.YtiohhajkegpebaaGreatDoor
open Go.RowKit

theorem Own.blk {α : Type} {C : Codec α} {M : Nat → Prop} {w : World} {B : Nat} {e : TypeId} {v : Value} {l : List α} (h : Own C M w B e v l) (h0 : 0 < l.length) :
    ∃ g c cur, v = .slice (some ⟨g, 0, none⟩) l.length c ∧ l.length ≤ c ∧ c ≤ maxLen ∧ B ≤ g ∧ Blk w g e cur ∧ cur.size = c * C.n := by
  obtain ⟨xs, ho, _⟩ := h
  rcases ho.2 with ⟨rfl, h1⟩ | ⟨g, cap, cur, rfl, hb, hg, h1, h2, h3, _⟩
  · omega
  · exact ⟨g, cap, cur, rfl, h1, h2, hb, hg, h3⟩
/-- One cell of an element of one cell is turned. -/
theorem Own.put1 {α : Type} {C : Codec α} {M : Nat → Prop} {w : World} {B : Nat} {e : TypeId} {l : List α} {g n c : Nat} (hC : C.n = 1) (h : Own C M w B e (.slice (some ⟨g, 0, none⟩) n c) l) {k : Nat} (hk : k < l.length) {u : Value} {a : α}
    (hr : C.rd (fun b => M b ∨ b = g) w [u] a) : Own C M (w.setCell ⟨g, k, none⟩ u) B e (.slice (some ⟨g, 0, none⟩) n c) (l.set k a) := by
  obtain ⟨xs, ho, he⟩ := h
  have hxl : xs.length = l.length := by rw [he.1, hC, Nat.mul_one]
  rcases ho with ⟨hl, ⟨hv, _⟩ | ⟨g', cap, cur, hv, hb, hblk, h1, h2, hsz, htk⟩⟩
  · cases hv
  · injection hv with hv1 hv2 hv3
    injection hv1 with hv1
    injection hv1 with hv1
    subst hv1 hv2 hv3
    have hkc : k < cur.size := by rw [hsz, hC]; omega
    refine ⟨xs.set k u, ⟨by rw [List.length_set, List.length_set, hl], .inr ⟨g, c, cur.setIfInBounds k u, by rw [List.length_set], hb, ?_, by rw [List.length_set]; exact h1, h2, by rw [Array.size_setIfInBounds, hsz], ?_⟩⟩, ?_⟩
    · simp [World.setCell, Array.getElem?_modify, hblk]
    · rw [Array.toList_setIfInBounds, List.take_set, List.length_set, htk]
    · refine ⟨by rw [List.length_set, List.length_set, he.1], fun i hi => ?_⟩
      rw [List.length_set] at hi
      have keep : ∀ (cs : List Value) (x : α), C.rd (fun b => M b ∨ b = g) w cs x → C.rd (fun b => M b ∨ (Value.slice (some ⟨g, 0, none⟩) l.length c).ownBlock = some b) (w.setCell ⟨g, k, none⟩ u) cs x := fun cs x hx => by
        have h3 := C.keep (w' := w.setCell ⟨g, k, none⟩ u) hx (fun b _ hn => Below.heap_setCell w ⟨g, k, none⟩ u b fun e => hn (.inr e)) (by simp)
        exact C.sub h3 fun b _ hor => hor.imp id fun ho => by simp only [Value.ownBlock, Option.some.injEq] at ho; exact ho.symm
      by_cases hik : i = k
      · subst hik
        rw [List.getElem_set_self]
        have : ((xs.set i u).drop (i * C.n)).take C.n = [u] := by
          apply List.ext_getElem?
          intro j
          rw [hC]
          simp only [List.getElem?_take, List.getElem?_drop, Nat.mul_one]
          rcases j with _ | j
          · simp [List.getElem?_set_self (show i < xs.length by omega)]
          · simp
        rw [this]
        exact keep _ _ hr
      · rw [List.getElem_set_ne (by omega)]
        have : ((xs.set k u).drop (i * C.n)).take C.n = (xs.drop (i * C.n)).take C.n := by
          apply List.ext_getElem?
          intro j
          rw [hC]
          simp only [List.getElem?_take, List.getElem?_drop, Nat.mul_one]
          split
          · rw [List.getElem?_set_ne (by omega)]
          · rfl
        rw [this]
        refine keep _ _ (C.sub (he.2 i hi) fun b _ hor => hor.imp id fun e => by rw [e]; rfl)
/-- A codec of one cell that leads nowhere. -/
def Codec.Flat {α : Type} (C : Codec α) : Prop := C.n = 1 ∧ ∀ (M M' : Nat → Prop) (w w' : World) (cs : List Value) (a : α), C.rd M w cs a → C.rd M' w' cs a
theorem flat_byte : byteC.Flat := ⟨rfl, fun _ _ _ _ _ _ h => h⟩
theorem flat_int : intC.Flat := ⟨rfl, fun _ _ _ _ _ _ h => h⟩
theorem flat_bool : boolC.Flat := ⟨rfl, fun _ _ _ _ _ _ h => h⟩
theorem flat_str : strC.Flat := ⟨rfl, fun _ _ _ _ _ _ h => h⟩
/-- A store into a slice whose elements lead nowhere. -/
theorem SlR.set1 {α : Type} {C : Codec α} (hF : C.Flat) {M : Nat → Prop} {w : World} {l : List α} {b off n c k : Nat} (h : SlR C M w (.slice (some ⟨b, off, none⟩) n c) l) (hk : k < l.length) {u : Value} {a : α} (hu : C.rd M w [u] a) :
    SlR C M (w.setCell ⟨b, off + k, none⟩ u) (.slice (some ⟨b, off, none⟩) n c) (l.set k a) := by
  obtain ⟨A, n', c', xs, hv, rfl, hc, hm, he, ha⟩ := h
  injection hv with e1 e2 e3
  subst e1 e2 e3
  obtain ⟨hC, hfl⟩ := hF
  have hxl : xs.length = l.length := by rw [he.1, hC, Nat.mul_one]
  refine ⟨_, _, _, xs.set k u, rfl, by rw [List.length_set], hc, hm, ⟨by rw [List.length_set, List.length_set, he.1], fun i hi => ?_⟩, fun h0 => ?_⟩
  · rw [List.length_set] at hi
    refine hfl M M w _ _ _ ?_
    by_cases hik : i = k
    · subst hik
      rw [List.getElem_set_self]
      have : ((xs.set i u).drop (i * C.n)).take C.n = [u] := by
        apply List.ext_getElem?
        intro j
        rw [hC]
        simp only [List.getElem?_take, List.getElem?_drop, Nat.mul_one]
        rcases j with _ | j
        · simp [List.getElem?_set_self (show i < xs.length by omega)]
        · simp
      rw [this]
      exact hu
    · rw [List.getElem_set_ne (by omega)]
      have : ((xs.set k u).drop (i * C.n)).take C.n = (xs.drop (i * C.n)).take C.n := by
        apply List.ext_getElem?
        intro j
        rw [hC]
        simp only [List.getElem?_take, List.getElem?_drop, Nat.mul_one]
        split
        · rw [List.getElem?_set_ne (by omega)]
        · rfl
      rw [this]
      exact he.2 i hi
  · obtain ⟨b', off', hA, hM, hb, hcell⟩ := ha h0
    cases hA
    refine ⟨b, off, rfl, hM, by simpa using hb, fun j v hv => ?_⟩
    by_cases hjk : j = k
    · subst hjk
      rw [List.getElem?_set_self (by omega)] at hv
      injection hv with hv
      subst hv
      obtain ⟨v0, hv0⟩ : ∃ v0, xs[j]? = some v0 := ⟨_, List.getElem?_eq_getElem (show j < xs.length by omega)⟩
      exact World.cell?_setCell_same _ _ _ (hcell j v0 hv0)
    · rw [List.getElem?_set_ne (by omega)] at hv
      exact (World.cell?_setCell_other _ _ _ _ (by intro e; injection e with _ e; omega)).trans (hcell j v hv)
/-- A block with a mark. -/
def BlkM (w : World) (g : Nat) (t : TypeId) (n : Nat) : Prop := ∃ cs : Array Value, w.heap[g]? = some (.cells cs t (n, n + 1))
theorem BlkM.frozen {w : World} {g : Nat} {t : TypeId} {n i : Nat} (h : BlkM w g t n) (hi : i < n) : w.frozen? ⟨g, i, none⟩ = false := by
  obtain ⟨cs, h⟩ := h
  simp only [World.frozen?, h]
  simp; omega
theorem BlkM.set {w : World} {g : Nat} {t : TypeId} {n : Nat} (h : BlkM w g t n) (i : Nat) (u : Value) : BlkM (w.setCell ⟨g, i, none⟩ u) g t n := by
  obtain ⟨cs, h⟩ := h
  exact ⟨cs.setIfInBounds i u, by simp [World.setCell, Array.getElem?_modify, h]⟩
theorem BlkM.lt {w : World} {g : Nat} {t : TypeId} {n : Nat} (h : BlkM w g t n) : g < w.heap.size := by
  obtain ⟨cs, h⟩ := h
  exact (Array.getElem?_eq_some_iff.1 h).1
theorem lit_bytes (M : Nat → Prop) (w : World) : ∀ l : List UInt8, Els byteC M w (l.map fun b => .int .u8 (b.toNat : Int)) l
  | [] => Els.nil _ _ _
  | b :: l => (Els.single (C := byteC) (cs := [.int .u8 (b.toNat : Int)]) rfl).append (lit_bytes M w l)
/-- '[]byte(s)': what it leaves. -/
theorem run_bytes_of {P : Program} (w : World) (src dst e : TypeId) (s : List UInt8) (hn : s.length ≤ maxLen) (hs : P.underlying src = some .string) (hd : P.underlying dst = some (.slice e)) (he : P.underlying e = some (.int .u8)) :
    ∃ c w', (convert src dst (.string (bs s))).run P w = .ok (.slice (some ⟨w.heap.size, 0, none⟩) s.length c) w' ∧ s.length ≤ c ∧ c ≤ maxLen ∧ SlR byteC M0 w' (.slice (some ⟨w.heap.size, 0, none⟩) s.length c) s ∧ (∃ m, s.length ≤ m ∧ BlkM w' w.heap.size e m) ∧ Below w.heap.size w w' := by
  have h1 := run_bytes_of_string (P := P) w src dst e (bs s) hs hd he
  rw [bs_size] at h1
  have hge := grownCap_ge w s.length 0 e
  have hle := grownCap_le_maxLen w s.length 0 e (by simpa using hn)
  have hrow : bytesRow (bs s) (grownCap w s.length 0 e) = (s.map fun b => Value.int .u8 (b.toNat : Int)).toArray ++ Array.replicate (grownCap w s.length 0 e - s.length) (.int .u8 0) := by
    simp [bytesRow, bs, ByteArray.size]
  have hlen : (bytesRow (bs s) (grownCap w s.length 0 e)).size = grownCap w s.length 0 e := by rw [hrow]; simp; omega
  refine ⟨_, _, h1, hge, hle, ?_, ⟨(bytesRow (bs s) (grownCap w s.length 0 e)).size, by rw [hlen]; exact hge, ⟨_, heap_alloc_new _ _⟩⟩, ((Below.refl _ w).trans (below_drewN' _ w 1)).alloc (Nat.le_refl _) _⟩
  refine ⟨_, _, _, s.map fun b => Value.int .u8 (b.toNat : Int), rfl, rfl, hge, hle, lit_bytes _ _ s, fun _ => ⟨_, 0, rfl, fun h => h, by simp, fun j u hu => ?_⟩⟩
  rw [Nat.zero_add]
  have hb : (w.drew.alloc (.cells (bytesRow (bs s) (grownCap w s.length 0 e)) e ((bytesRow (bs s) (grownCap w s.length 0 e)).size, (bytesRow (bs s) (grownCap w s.length 0 e)).size + 1))).heap[w.heap.size]? = some _ := heap_alloc_new w.drew _
  simp only [World.cell?, hb]
  rw [hrow]
  have hj : j < s.length := by have := (List.getElem?_eq_some_iff.1 hu).1; simpa using this
  simpa [Array.getElem?_append, hj] using hu
/-! ### Elements, read -/
section
variable {M : Nat → Prop} {w : World} {A : Option Addr} {n c : Nat}
theorem SlR.byteAt {l : List UInt8} (h : SlR byteC M w (.slice A n c) l) {k : Nat} (hk : k < l.length) :
    ∃ b off, A = some ⟨b, off, none⟩ ∧ ¬ M b ∧ b < w.heap.size ∧ w.cell? ⟨b, off + k, none⟩ = some (.int .u8 (l[k].toNat : Int)) := by
  obtain ⟨b, off, cs, rfl, hM, hb, hr, hc⟩ := h.at_ hk
  refine ⟨b, off, rfl, hM, hb, ?_⟩
  have := hc 0 (.int .u8 (l[k].toNat : Int)) (by have : cs = _ := hr; rw [this]; rfl)
  simpa [byteC] using this
theorem SlR.strAt {l : List (List UInt8)} (h : SlR strC M w (.slice A n c) l) {k : Nat} (hk : k < l.length) :
    ∃ b off, A = some ⟨b, off, none⟩ ∧ ¬ M b ∧ b < w.heap.size ∧ w.cell? ⟨b, off + k, none⟩ = some (.string (bs l[k])) ∧ l[k].length ≤ maxLen := by
  obtain ⟨b, off, cs, rfl, hM, hb, hr, hc⟩ := h.at_ hk
  refine ⟨b, off, rfl, hM, hb, ?_, hr.2⟩
  have := hc 0 (.string (bs l[k])) (by have : cs = _ := hr.1; rw [this]; rfl)
  simpa [strC] using this
theorem SlR.intAt {l : List Int} (h : SlR intC M w (.slice A n c) l) {k : Nat} (hk : k < l.length) :
    ∃ b off, A = some ⟨b, off, none⟩ ∧ ¬ M b ∧ b < w.heap.size ∧ w.cell? ⟨b, off + k, none⟩ = some (.int .i64 l[k]) ∧ -9223372036854775808 ≤ l[k] ∧ l[k] ≤ 9223372036854775807 := by
  obtain ⟨b, off, cs, rfl, hM, hb, hr, hc⟩ := h.at_ hk
  refine ⟨b, off, rfl, hM, hb, ?_, hr.2⟩
  have := hc 0 (.int .i64 l[k]) (by have : cs = _ := hr.1; rw [this]; rfl)
  simpa [intC] using this
theorem SlR.sliceAt {α : Type} {C : Codec α} {l : List (List α)} (h : SlR (sliceC C) M w (.slice A n c) l) {k : Nat} (hk : k < l.length) :
    ∃ b off A2 c2, A = some ⟨b, off, none⟩ ∧ ¬ M b ∧ b < w.heap.size ∧ w.cell? ⟨b, off + k, none⟩ = some (.slice A2 (l[k]).length c2) ∧ SlR C M w (.slice A2 (l[k]).length c2) l[k] := by
  obtain ⟨b, off, cs, rfl, hM, hb, ⟨v, rfl, hv⟩, hc⟩ := h.at_ hk
  obtain ⟨A2, c2, rfl, _⟩ := hv.form
  refine ⟨b, off, A2, c2, rfl, hM, hb, ?_, hv⟩
  have := hc 0 _ rfl
  simpa [sliceC] using this
/-- The first z elements. -/
theorem SlR.firsts {α : Type} {C : Codec α} {l : List α} (h : SlR C M w (.slice A n c) l) {z : Nat} (hz : z ≤ l.length) : SlR C M w (.slice A z c) (l.take z) := by
  obtain ⟨A', n', c', xs, hv, rfl, hc, hm, he, ha⟩ := h
  injection hv with e1 e2 e3
  subst e1 e2 e3
  have hlen : (l.take z).length = z := by simp [Nat.min_eq_left hz]
  refine ⟨A, z, c, xs.take (z * C.n), rfl, hlen.symm, by omega, hm, he.take z, ?_⟩
  intro h0
  obtain ⟨b, off, hA, hM, hb, hcell⟩ := ha (by omega)
  refine ⟨b, off, hA, hM, hb, fun j u hu => hcell j u ?_⟩
  rw [List.getElem?_take] at hu
  split at hu
  · exact hu
  · cases hu
end
end Go.Proofs.YtiohhajkegpebaaGreatDoor
namespace Go.Proofs.YtiohhajkegpebaaGreatDoor
open Go.RowKit
set_option linter.unusedVariables false
theorem own_cells {w : World} {B : Nat} {e : TypeId} {v : Value} {l : List UInt8} (h : w.ownsRow B e 1 v l.length (Lib.byteCells l)) : Own byteC M0 w B e v l :=
  ⟨_, h, lit_bytes _ _ l⟩
theorem cells_own {w : World} {B : Nat} {e : TypeId} {v : Value} {l : List UInt8} (h : Own byteC M0 w B e v l) : w.ownsRow B e 1 v l.length (Lib.byteCells l) := by
  obtain ⟨xs, ho, he⟩ := h
  have hx : xs = Lib.byteCells l := by
    have h1 : xs.length = l.length := by rw [he.1]; simp [byteC]
    apply List.ext_getElem
    · rw [h1]; simp [Lib.byteCells]
    · intro i h2 h3
      have hi : i < l.length := by omega
      have hr := he.2 i hi
      have hr' : (xs.drop (i * 1)).take 1 = [Value.int .u8 (l[i].toNat : Int)] := hr
      rw [Nat.mul_one] at hr'
      have h4 := congrArg (fun z => z[0]?) hr'
      simp only [List.getElem?_take, List.getElem?_drop, Nat.add_zero, List.getElem?_eq_getElem h2] at h4
      simp at h4
      rw [h4]
      simp [Lib.byteCells]
  exact hx ▸ ho
theorem appendRune_ok (B : Nat) (v : Value) (L : Str) (r : Int) (h0 : -2147483648 ≤ r) (h1 : r ≤ 2147483647) (w : World) (hown : Own byteC M0 w B 5 v L) (hlen : L.length + 4 ≤ 140737488355328) (hB : B ≤ w.heap.size) :
    Calls Tryz.prog 158 #[v, .int .i32 r] w fun e w' => ∃ (A : Option Addr) (c : Nat) (L' : Str), e = .returned (.slice A L'.length c) ∧ Hid (L' = L ++ Lib.encodeRune r) ∧ Own byteC M0 w' B 5 (.slice A L'.length c) L' ∧
      Hid (∀ b, b < w.heap.size → some b ≠ v.ownBlock → w'.heap[b]? = w.heap[b]?) ∧ Below B w w' := by
  refine (Tryz.utf8_AppendRune_plain B v L.length (Lib.byteCells L) r h0 h1 w (cells_own hown) hlen hB).mono ?_
  rintro e w' ⟨v', rfl, ho, o, hg⟩
  have hl : L.length + (Lib.runeCells r).length = (L ++ Lib.encodeRune r).length := by rw [List.length_append, Lib.runeCells_length]
  rw [← Lib.byteCells_encodeRune, ← Lib.byteCells_append] at ho
  rw [Lib.byteCells_encodeRune, hl] at ho
  have hO := own_cells ho
  obtain ⟨A, c, rfl, _⟩ := hO.shape
  refine ⟨A, c, _, rfl, Lib.hid rfl, hO, Lib.hid fun b hb hne => ?_, ?_⟩
  · exact (hg.block b (by simp; omega) hne).trans (Below.heap_alloc w o b hb)
  · exact ((Below.refl B w).alloc hB o).grown hg (by simp; omega) fun k hk => hown.base k hk
theorem drop_ne {s : Str} {p : Nat} (h : p < s.length) : s.drop p ≠ [] := by
  intro h0
  have := congrArg List.length h0
  rw [List.length_drop] at this
  simp at this
  omega
set_option maxHeartbeats 2000000 in
theorem stemLower_ok (s : Str) (hs : s.length ≤ 4000000) (w : World) (hT : TabsU w) : Calls Tryz.prog 135 #[.string (bs s)] w fun e w' => e = .returned (.string (bs (Sm.lower s))) ∧ Below w.heap.size w w' := by
  have hlen := Sm.lower_len s.length s (Nat.le_refl _)
  have HT := Lib.hid hT
  clear hT
  go_enter Tryz.func135, Tryz.ntmps135
  go_wp2
  go_loopw [3] (fun v wr => ∃ (pos : Nat) (A : Option Addr) (c : Nat) (L : Str), v = .slice A L.length c ∧ pos ≤ s.length ∧ wr.heap[w.heap.size]? = some (.stringIter (bs s) pos) ∧ Own byteC M0 wr (w.heap.size + 1) 5 (.slice A L.length c) L ∧ Hid (L ++ Sm.lower (s.drop pos) = Sm.lower s) ∧ Below w.heap.size w wr) (fun _ wr => s.length - wr.iterPos w.heap.size)
  case atStart =>
    refine ⟨0, none, 0, [], rfl, Nat.zero_le _, ?_, Own.nil _ _ _ _ _, Lib.hid (by simp), ?_⟩
    · exact heap_alloc_new w _
    · exact (Below.refl _ _).alloc (Nat.le_refl _) _
  case round =>
    obtain ⟨pos, A, c, L, rfl, hpos, hit, hown, hL, hb⟩ := hrel
    have hpp0 := Lib.hid (iterPos_of hit)
    by_cases hp : pos < s.length
    · have hne := drop_ne hp
      have hst := Sm.lower_step hne
      have hdl := Lib.decodeL_drop (bs s) pos
      rw [bs_toList] at hdl
      have hw1 := Lib.decodeL_width (s.drop pos)
      have hw2 := Sm.width_le hne
      have hr := Lib.decodeL_rune (s.drop pos)
      rw [List.length_drop] at hw2
      have hnx := fun ty => Lib.run_next_any_at (P := Tryz.prog) wr w.heap.size (bs s) pos ty hit (by rw [bs_size]; exact hp)
      rw [← hdl] at hnx
      rw [List.drop_drop] at hst
      obtain ⟨r, hrr⟩ : ∃ r, (Lib.decodeL (s.drop pos)).1 = r := ⟨_, rfl⟩
      obtain ⟨n, hnn⟩ : ∃ n, (Lib.decodeL (s.drop pos)).2 = n := ⟨_, rfl⟩
      rw [hrr] at hst hr hnx
      rw [hnn] at hst hw1 hw2 hnx
      have hrg := Lib.toLowerU_range r hr
      have hlc : (L ++ Lib.encodeRune (Lib.toLowerU (r : Int))) ++ Sm.lower (s.drop (pos + n)) = Sm.lower s := by rw [← hL.out, hst, List.append_assoc]; rfl
      have hll : L.length + (Lib.encodeRune (Lib.toLowerU (r : Int))).length ≤ 16000000 := by
        have := congrArg List.length hlc
        rw [List.length_append, List.length_append] at this
        omega
      have hla : L.length + 4 ≤ 140737488355328 := by omega
      have Hlc := Lib.hid hlc
      clear hlc hst hdl hrr hnn hne
      have hit2 := Lib.iterAt_heap wr w.heap.size (bs s) pos (pos + n) hit
      have hb2 := Lib.below_iterAt hb (Nat.le_refl _) (bs s) (pos + n)
      have hsz := hb.size
      have hlt := (Array.getElem?_eq_some_iff.1 hit).1
      have hsz2 := Lib.iterAt_size wr w.heap.size (bs s) (pos + n)
      have hown2 : Own byteC M0 (wr.iterAt w.heap.size (bs s) (pos + n)) (w.heap.size + 1) 5 (.slice A L.length c) L := own_cells ((cells_own hown).kept (row := some w.heap.size)
        ⟨rfl, rfl, rfl, by rw [hsz2]; exact Nat.le_refl _, fun k hk hne => Lib.iterAt_other _ _ _ _ _ (fun e => hne (by rw [e]))⟩ (.inr fun e => by have := hown.base _ e; omega))
      obtain ⟨W, hW⟩ : ∃ W, wr.iterAt w.heap.size (bs s) (pos + n) = W := ⟨_, rfl⟩
      rw [hW] at hnx hit2 hb2 hown2 hsz2
      have HW := Lib.hid hW
      clear hW hown hb hit
      have hT := HT.out.ext hb2
      have hlow := Tryz.unicode_ToLower_laid (r : Int) W hT.case
      have Hlow := Lib.hid hlow
      clear hlow hT
      go_wp2_with fail
      refine Hlow.out.mono ?_
      rintro e w1 ⟨rfl, q, hw1q⟩
      have hbq : Below W.heap.size W w1 := hw1q ▸ below_drewN' _ _ _
      have hown3 := hown2.ext hbq
      have hit3 := (hbq.block _ (by omega)).trans hit2
      have hb3 := hb2.trans (hbq.mono (by omega))
      have hsz3 := hbq.size
      clear hw1q hown2 hit2 hb2 hbq
      have happ := appendRune_ok (w.heap.size + 1) _ L (Lib.toLowerU (r : Int)) (by omega) (by omega) w1 hown3 hla (by omega)
      generalize Lib.toLowerU (r : Int) = z at happ Hlc hll ⊢
      have Happ := Lib.hid happ
      have hnb : some w.heap.size ≠ (Value.slice A L.length c).ownBlock := fun e => by have := hown3.base _ e.symm; omega
      clear happ hown3
      go_wp2_with fail
      refine Happ.out.mono ?_
      rintro e w2 ⟨A2, c2, L2, rfl, hL2, hown4, hold, hb4⟩
      have hit4 := (hold.out _ (by omega) hnb).trans hit3
      have hb5 := hb3.trans (hb4.mono (by omega))
      have hpp := iterPos_of hit4
      clear Happ hold hb4 hit3
      go_wp2
      go_roundw
      case rel => exact ⟨pos + n, A2, c2, L2, rfl, by omega, hit4, hown4, Lib.hid (by rw [hL2.out, Hlc.out]), hb5⟩
      case measure => rw [hpp, hpp0.out]; omega
    · have hnx := fun ty => Lib.run_next_end_at (P := Tryz.prog) wr w.heap.size (bs s) pos ty hit (by rw [bs_size]; exact hp)
      have hres : L = Sm.lower s := by rw [← hL.out, List.drop_eq_nil_of_le (by omega), Sm.lower_nil, List.append_nil]
      have hcv := run_convert_SlR (P := Tryz.prog) (dst := 9) Tryz.underlying190 Tryz.underlying5 Tryz.underlying9 hown.read0
      have Hres := Lib.hid hres
      clear hres
      go_wp2
      go_ret
      exact ⟨ret_str (by rw [Hres.out]), hb⟩
end Go.Proofs.YtiohhajkegpebaaGreatDoor
namespace Go.Proofs.YtiohhajkegpebaaGreatDoor
open Go.RowKit

set_option maxRecDepth 20000 in
theorem compareString_ok (a b : Str) (w : World) : Calls Tryz.prog 109 #[.string (bs a), .string (bs b)] w fun e w' => e = .returned (.int .i64 (Lib.compareBytes a b)) ∧ w = w' := by
  go_enter Tryz.func109, Tryz.ntmps109
  go_wp2
  rw [run_callFunc_extern Tryz.func142 (by kernel_rfl) (by kernel_rfl) (by kernel_rfl) (e := Extern.BytealgCompare.compare) (by kernel_rfl), Lib.run_compareString]
  simp only [Result.andThen]
  rw [Oper.upon_value]
  go_wp2
  go_ret
  exact ⟨by simp, rfl⟩
theorem compare_ok (a b : Str) (w : World) : Calls Tryz.prog 83 #[.string (bs a), .string (bs b)] w fun e w' => e = .returned (.int .i64 (Lib.compareBytes a b)) ∧ w = w' := by
  have hp := compareString_ok a b w
  have Hp := Lib.hid hp
  clear hp
  go_enter Tryz.func83, Tryz.ntmps83
  go_wp2_with fail
  refine Hp.out.mono ?_
  rintro e w1 ⟨rfl, rfl⟩
  go_wp2
  go_ret
  exact ⟨rfl, rfl⟩
end Go.Proofs.YtiohhajkegpebaaGreatDoor
namespace Go.Proofs.YtiohhajkegpebaaGreatDoor
open Go.RowKit

theorem in_ok (a b c : Int) (w : World) : Calls Tryz.prog 13 #[.int .i64 a, .int .i64 b, .int .i64 c] w fun e w' => e = .returned (.bool (decide (b ≤ a) && decide (a ≤ c))) ∧ w = w' := by
  by_cases h1 : b ≤ a
  all_goals
    go_enter Tryz.func13, Tryz.ntmps13
    go_wp2
    all_goals go_ret
    all_goals simp [h1]
  all_goals omega
end Go.Proofs.YtiohhajkegpebaaGreatDoor
namespace Go.Proofs.YtiohhajkegpebaaGreatDoor
open Go.RowKit

theorem at_ok (a b : Int) (w : World) : Calls Tryz.prog 11 #[.int .i64 a, .int .i64 b] w fun e w' => e = .returned (.agg #[.int .i64 a, .int .i64 b]) ∧ Below w.heap.size w w' := by
  go_enter Tryz.func11, Tryz.ntmps11
  go_wp2
  exact bodyPost_ret (v := .agg #[.int .i64 a, .int .i64 b]) (by simp [results, Tryz.results11, go_sem]) rfl ⟨rfl, (Below.refl _ _).alloc (Nat.le_refl _) _⟩
end Go.Proofs.YtiohhajkegpebaaGreatDoor
