/-
  Contracts and plain facts, one after another: The order of texts: plain Lean; Words of a text: what the code and the reference compute, in plain lists of bytes; Faults and ranges: the small functions; The tables of the library's, and stem.Letter, inWord; From a row's listed variables to the tables.
-/
import Derived.Test.YtfjpedgddgbelaaGreatDoorBase
import Derived.Test.YtfjpedgddgbelaaGreatDoorSmPure
import Derived.Test.YtfjpedgddgbelaaGreatDoorRows
import Derived.Test.YtfjpedgddgbelaaGreatDoorShelf
import Derived.Sort.Walk0
import Derived.Lib.Bytealg
import Derived.Lib.MapU
import Derived.Lib.TrimUEq
import Derived.Lib.IsU
import Derived.Lib.CaseU
import Derived.Lib.FieldsU
import Derived.Deep.QuietTactic
import Derived.BigQuiet
import Derived.Deep.RegionHeld3
import Derived.StillTailTactics
import Derived.Outline
import Derived.PinnedBridge
import Derived.Lib.LaidU8
import Derived.Lib.LaidCase
import Derived.Lib.LaidRTab
namespace Go.Proofs.YtfjpedgddgbelaaGreatDoor

abbrev Str := List UInt8
/-- One text is ahead of another. -/
def ltS (a b : Str) : Bool := Op.bytesLess a b
theorem ltS_iff (a b : Str) : ltS a b = true ↔ a < b := by rw [ltS, bytesLess_eq]; simp
theorem ltS_irrefl (a : Str) : ltS a a = false := by
  cases h : ltS a a with
  | false => rfl
  | true => exact absurd ((ltS_iff a a).1 h) (List.lt_irrefl a)
theorem ltS_trans {a b c : Str} (h : ltS a b = true) (k : ltS b c = true) : ltS a c = true := (ltS_iff _ _).2 (List.lt_trans ((ltS_iff _ _).1 h) ((ltS_iff _ _).1 k))
theorem ltS_total (a b : Str) : ltS a b = true ∨ a = b ∨ ltS b a = true := by
  rcases Std.Trichotomous.rel_or_eq_or_rel_swap (r := (· < · : Str → Str → Prop)) (a := a) (b := b) with h | h | h
  · exact .inl ((ltS_iff _ _).2 h)
  · exact .inr (.inl h)
  · exact .inr (.inr ((ltS_iff _ _).2 h))
theorem ltS_asymm {a b : Str} (h : ltS a b = true) : ltS b a = false := by
  cases k : ltS b a with
  | false => rfl
  | true => have := ltS_trans h k; rw [ltS_irrefl] at this; cases this
theorem ltS_ne {a b : Str} (h : ltS a b = true) : a ≠ b := fun e => by subst e; rw [ltS_irrefl] at h; cases h
theorem cmp_eqS : ∀ a b : Str, Lib.compareBytes a b = if ltS a b then -1 else if a = b then 0 else 1
  | [], [] => rfl
  | [], _ :: _ => rfl
  | _ :: _, [] => rfl
  | x :: a, y :: b => by
    have ih := cmp_eqS a b
    have e1 : ltS (x :: a) (y :: b) = (decide (x < y) || (x == y && ltS a b)) := rfl
    rw [Lib.compareBytes, ih, e1]
    by_cases h1 : x < y
    · simp [h1]
    · by_cases h2 : y < x
      · have : x ≠ y := fun e => by subst e; exact UInt8.lt_irrefl _ h2
        simp [h1, h2, this]
      · have : x = y := UInt8.le_antisymm (UInt8.not_lt.1 h2) (UInt8.not_lt.1 h1)
        subst this
        simp [UInt8.lt_irrefl]
end Go.Proofs.YtfjpedgddgbelaaGreatDoor
namespace Go.Proofs.YtfjpedgddgbelaaGreatDoor
namespace Sm
open Go.Lib
/-- a character belongs to words -/
def isL (r : Nat) : Bool := isLetterU (r : Int) || isDigitU (r : Int) || isMarkU (r : Int)
/-- one character in lower case -/
def lowC (r : Nat) : List UInt8 := encodeRune (toLowerU (r : Int))
def lowGo : Nat → List UInt8 → List UInt8
  | 0, _ => []
  | n + 1, l => if l = [] then [] else lowC (decodeL l).1 ++ lowGo n (l.drop (decodeL l).2)
def lower (l : List UInt8) : List UInt8 := lowGo l.length l
def wordsGo : Nat → List UInt8 → List UInt8 → List (List UInt8)
  | 0, cur, _ => if cur = [] then [] else [cur]
  | f + 1, cur, l =>
    if l = [] then (if cur = [] then [] else [cur])
    else if isL (decodeL l).1 then wordsGo f (cur ++ l.take (decodeL l).2) (l.drop (decodeL l).2)
    else (if cur = [] then [] else [cur]) ++ wordsGo f [] (l.drop (decodeL l).2)
def rawWords (l : List UInt8) : List (List UInt8) := wordsGo l.length [] l
def words (l : List UInt8) : List (List UInt8) := (rawWords l).map lower
def stems (l : List UInt8) : List (List UInt8) := (words l).map stem

theorem width_le {l : List UInt8} (h : l ≠ []) : (decodeL l).2 ≤ l.length := by
  rw [decodeL_N]
  exact decodeN_le_n' _ _ _ _ _ (List.length_pos_iff.2 h)
theorem lowGo_nil (f : Nat) : lowGo f [] = [] := by cases f <;> simp [lowGo]
theorem wordsGo_nil (f : Nat) (cur : List UInt8) : wordsGo f cur [] = if cur = [] then [] else [cur] := by cases f <;> simp [wordsGo]
theorem lowGo_fuel : ∀ (f g : Nat) (l : List UInt8), l.length ≤ f → l.length ≤ g → lowGo f l = lowGo g l
  | 0, g, l, hf, _ => by rw [List.eq_nil_of_length_eq_zero (by omega : l.length = 0), lowGo_nil, lowGo_nil]
  | f + 1, 0, l, _, hg => by rw [List.eq_nil_of_length_eq_zero (by omega : l.length = 0), lowGo_nil, lowGo_nil]
  | f + 1, g + 1, l, hf, hg => by
    by_cases hne : l = []
    · rw [hne, lowGo_nil, lowGo_nil]
    · have hw := decodeL_width l
      simp only [lowGo, if_neg hne]
      rw [lowGo_fuel f g _ (by rw [List.length_drop]; omega) (by rw [List.length_drop]; omega)]
theorem wordsGo_fuel : ∀ (f g : Nat) (cur l : List UInt8), l.length ≤ f → l.length ≤ g → wordsGo f cur l = wordsGo g cur l
  | 0, g, cur, l, hf, _ => by rw [List.eq_nil_of_length_eq_zero (by omega : l.length = 0), wordsGo_nil, wordsGo_nil]
  | f + 1, 0, cur, l, _, hg => by rw [List.eq_nil_of_length_eq_zero (by omega : l.length = 0), wordsGo_nil, wordsGo_nil]
  | f + 1, g + 1, cur, l, hf, hg => by
    by_cases hne : l = []
    · rw [hne, wordsGo_nil, wordsGo_nil]
    · have hw := decodeL_width l
      simp only [wordsGo, if_neg hne]
      split
      · exact wordsGo_fuel f g _ _ (by rw [List.length_drop]; omega) (by rw [List.length_drop]; omega)
      · rw [wordsGo_fuel f g _ _ (by rw [List.length_drop]; omega) (by rw [List.length_drop]; omega)]
/-- what is left, from a state -/
def wordsFrom (cur l : List UInt8) : List (List UInt8) := wordsGo l.length cur l
theorem wordsFrom_nil (cur : List UInt8) : wordsFrom cur [] = if cur = [] then [] else [cur] := wordsGo_nil _ _
theorem wordsFrom_step {cur l : List UInt8} (h : l ≠ []) : wordsFrom cur l =
    if isL (decodeL l).1 then wordsFrom (cur ++ l.take (decodeL l).2) (l.drop (decodeL l).2)
    else (if cur = [] then [] else [cur]) ++ wordsFrom [] (l.drop (decodeL l).2) := by
  have hw := decodeL_width l
  have hl := List.length_pos_iff.2 h
  unfold wordsFrom
  rw [show l.length = (l.length - 1) + 1 by omega]
  simp only [wordsGo, if_neg h]
  rw [wordsGo_fuel (l.length - 1) (l.drop (decodeL l).2).length _ _ (by rw [List.length_drop]; omega) (Nat.le_refl _),
    wordsGo_fuel (l.length - 1) (l.drop (decodeL l).2).length _ _ (by rw [List.length_drop]; omega) (Nat.le_refl _)]
theorem lower_nil : lower [] = [] := rfl
theorem lower_step {l : List UInt8} (h : l ≠ []) : lower l = lowC (decodeL l).1 ++ lower (l.drop (decodeL l).2) := by
  have hw := decodeL_width l
  have hl := List.length_pos_iff.2 h
  unfold lower
  rw [show l.length = (l.length - 1) + 1 by omega]
  simp only [lowGo, if_neg h]
  rw [lowGo_fuel (l.length - 1) (l.drop (decodeL l).2).length _ (by rw [List.length_drop]; omega) (Nat.le_refl _)]
theorem lowC_len (r : Nat) : 1 ≤ (lowC r).length ∧ (lowC r).length ≤ 4 := by
  unfold lowC
  rw [← runeCells_length]
  exact runeCells_le _
theorem lower_len : ∀ (n : Nat) (l : List UInt8), l.length ≤ n → (lower l).length ≤ 4 * l.length
  | 0, l, h => by rw [List.eq_nil_of_length_eq_zero (by omega : l.length = 0)]; exact Nat.le_refl _
  | n + 1, l, h => by
    by_cases hne : l = []
    · rw [hne]; exact Nat.le_refl _
    · have hw := decodeL_width l
      have hwl := width_le hne
      have ih := lower_len n (l.drop (decodeL l).2) (by rw [List.length_drop]; omega)
      have hc := lowC_len (decodeL l).1
      rw [lower_step hne, List.length_append]
      rw [List.length_drop] at ih
      omega
/-- no word is empty, and together they are not longer than the text -/
theorem words_sum : ∀ (n : Nat) (cur l : List UInt8), l.length ≤ n → ((wordsFrom cur l).map List.length).sum ≤ cur.length + l.length ∧ ∀ x ∈ wordsFrom cur l, x ≠ []
  | 0, cur, l, h => by
    rw [List.eq_nil_of_length_eq_zero (by omega : l.length = 0), wordsFrom_nil]
    split <;> simp_all
  | n + 1, cur, l, h => by
    by_cases hne : l = []
    · rw [hne, wordsFrom_nil]
      split <;> simp_all
    · have hw := decodeL_width l
      have hwl := width_le hne
      rw [wordsFrom_step hne]
      split
      · have ih := words_sum n (cur ++ l.take (decodeL l).2) (l.drop (decodeL l).2) (by rw [List.length_drop]; omega)
        refine ⟨?_, ih.2⟩
        have := ih.1
        rw [List.length_append, List.length_take, List.length_drop] at this
        omega
      · have ih := words_sum n [] (l.drop (decodeL l).2) (by rw [List.length_drop]; omega)
        have h1 := ih.1
        rw [List.length_drop] at h1
        split
        · rename_i hc
          refine ⟨?_, ih.2⟩
          rw [List.nil_append, hc]
          simp only [List.length_nil] at h1 ⊢
          omega
        · rename_i hc
          refine ⟨?_, ?_⟩
          · simp only [List.singleton_append, List.map_cons, List.sum_cons]
            simp only [List.length_nil] at h1
            omega
          · intro x hx
            rcases List.mem_append.1 hx with hx | hx
            · simp at hx; rw [hx]; exact hc
            · exact ih.2 x hx
end Sm
end Go.Proofs.YtfjpedgddgbelaaGreatDoor
namespace Go.Proofs.YtfjpedgddgbelaaGreatDoor
open Go.RowKit

theorem ret_str {a b : ByteArray} (h : a = b) : Ending.returned (.string a) = .returned (.string b) := by rw [h]
theorem ret_bool {a b : Bool} (h : a = b) : Ending.returned (.bool a) = .returned (.bool b) := by rw [h]
/-! ### Faults -/
theorem none_ok (w : World) : Calls Tryz.prog 59 #[] w fun e w' => e = .returned (.agg #[.int .i64 0, .int .i64 0]) ∧ Below w.heap.size w w' := by
  go_enter Tryz.func59, Tryz.ntmps59
  go_wp2
  exact bodyPost_ret (v := .agg #[.int .i64 0, .int .i64 0]) (by simp [results, Tryz.results59, go_sem]) rfl ⟨rfl, (Below.refl _ _).alloc (Nat.le_refl _) _⟩
theorem fault_ok (a b : Int) (w : World) : Calls Tryz.prog 55 #[.int .i64 a, .int .i64 b] w fun e w' => e = .returned (.agg #[.int .i64 a, .int .i64 b]) ∧ Below w.heap.size w w' := by
  go_enter Tryz.func55, Tryz.ntmps55
  go_wp2
  exact bodyPost_ret (v := .agg #[.int .i64 a, .int .i64 b]) (by simp [results, Tryz.results55, go_sem]) rfl ⟨rfl, (Below.refl _ _).alloc (Nat.le_refl _) _⟩
theorem failed_ok (a b : Int) (w : World) : Calls Tryz.prog 52 #[.agg #[.int .i64 a, .int .i64 b]] w fun e w' => e = .returned (.bool (a != 0)) ∧ Below w.heap.size w w' := by
  go_enter Tryz.func52, Tryz.ntmps52
  go_wp2
  go_ret
  exact ⟨rfl, (Below.refl _ _).alloc (Nat.le_refl _) _⟩
theorem Blk.put2 {w : World} {g : Nat} {t : TypeId} {x y : Value} (h : Blk w g t #[x, y]) (a b : Value) :
    ((w.setCell ⟨g, 0, none⟩ a).setCell ⟨g, 1, none⟩ b).cell? ⟨g, 0, none⟩ = some a ∧ ((w.setCell ⟨g, 0, none⟩ a).setCell ⟨g, 1, none⟩ b).cell? ⟨g, 1, none⟩ = some b := by
  have h2 : Blk ((w.setCell ⟨g, 0, none⟩ a).setCell ⟨g, 1, none⟩ b) g t #[a, b] := by simpa using (h.set_ 0 a).set_ 1 b
  exact ⟨h2.two.1, h2.two.2.1⟩
theorem below2 {w : World} {w1 w2 : World} (h1 : Below w.heap.size w w1) (h2 : Below w1.heap.size w1 w2) : Below w.heap.size w w2 := h1.trans (h2.mono h1.size)
theorem below_set2 {B : Nat} {w w' : World} (h : Below B w w') {g : Nat} (hg : B ≤ g) (a b : Value) : Below B w ((w'.setCell ⟨g, 0, none⟩ a).setCell ⟨g, 1, none⟩ b) := Below.setCell (p := ⟨g, 1, none⟩) (Below.setCell (p := ⟨g, 0, none⟩) h hg a) hg b
theorem below_drew {B : Nat} {w w' : World} (h : Below B w w') : Below B w w'.drew := ⟨h.os, h.tape, h.output, h.size, h.block⟩
theorem ret_fault {a b c d : Int} (h : (c, d) = (a, b)) : Ending.returned (.agg #[.int .i64 a, .int .i64 b]) = .returned (.agg #[.int .i64 c, .int .i64 d]) := by injection h with h1 h2; rw [h1, h2]
theorem SlR.set2 {α : Type} {C : Codec α} {M : Nat → Prop} {w : World} {v : Value} {l : List α} (h : SlR C M w v l) {g : Nat} (hg : M g) (a b : Value) : SlR C M ((w.setCell ⟨g, 0, none⟩ a).setCell ⟨g, 1, none⟩ b) v l :=
  h.keep (fun k _ hk => (heap_setCell_other _ _ _ _ (fun e => hk (by rw [show k = g from e]; exact hg))).trans (heap_setCell_other _ _ _ _ (fun e => hk (by rw [show k = g from e]; exact hg)))) (by simp)
end Go.Proofs.YtfjpedgddgbelaaGreatDoor
namespace Go.Proofs.YtfjpedgddgbelaaGreatDoor
open Go.RowKit
set_option linter.unusedVariables false
/-- the tables lie as the library's text lays them -/
structure TabsU (w : World) : Prop where
  u8 : Lib.Utf8Tabs 0 1 w
  case : Lib.CaseVar 2 Lib.caseA w
  props : Lib.TabIs Tryz.prog w "unicode.properties" .u8 Lib.propertiesTab
  letter : Lib.RVar 4 Lib.letterT w
  digit : Lib.RVar 5 Lib.digitT w
  mark : Lib.RVar 6 Lib.markT w
theorem caseVar_ext {g : Nat} {T : Array Lib.CaseRow} {w w' : World} (h : Lib.CaseVar g T w) (hb : Below w.heap.size w w') : Lib.CaseVar g T w' := by
  have k : ∀ {a : Addr} {v : Value}, w.cell? a = some v → w'.cell? a = some v := fun {a v} hc => (hb.cell (World.block_lt_of_cell? w a hc)).trans hc
  obtain ⟨R, oR, cap, h1, h2⟩ := h
  exact ⟨R, oR, cap, k h1, fun i hi => ⟨k (h2 i hi).1, k (h2 i hi).2.1, k (h2 i hi).2.2.1, k (h2 i hi).2.2.2.1, k (h2 i hi).2.2.2.2⟩⟩
theorem TabsU.ext {w w' : World} (h : TabsU w) (hb : Below w.heap.size w w') : TabsU w' where
  u8 := Utf8Tabs_below h.u8 hb
  case := caseVar_ext h.case hb
  props := TabIs_below (g := 3) (by kernel_rfl) h.props hb
  letter := RVar_below h.letter hb
  digit := RVar_below h.digit hb
  mark := RVar_below h.mark hb
theorem chLetter_ok (r : Nat) (hr : r ≤ 1114111) (w : World) (hT : TabsU w) : Calls Tryz.prog 195 #[.int .i32 (r : Int)] w fun e w' => e = .returned (.bool (Sm.isL r)) ∧ Below w.heap.size w w' := by
  have h1 := Tryz.unicode_IsLetter_all (r : Int) w (by omega) (by omega) hT.props hT.letter
  have h2 := fun W hb => Tryz.unicode_IsDigit_all (r : Int) W (by omega) (by omega) (hT.ext hb).digit
  have h3 := fun W hb => Tryz.unicode_IsMark_all (r : Int) W (by omega) (by omega) (hT.ext hb).mark
  have hl : Sm.isL r = (Lib.isLetterU (r : Int) || Lib.isDigitU (r : Int) || Lib.isMarkU (r : Int)) := rfl
  clear hT
  generalize Lib.isLetterU (r : Int) = b1 at h1 hl
  generalize Lib.isDigitU (r : Int) = b2 at h2 hl
  generalize Lib.isMarkU (r : Int) = b3 at h3 hl
  have Hl := Lib.hid hl; have H1 := Lib.hid h1; have H2 := Lib.hid h2; have H3 := Lib.hid h3
  clear hl h1 h2 h3
  go_enter Tryz.func195, Tryz.ntmps195
  go_wp2_with fail
  refine H1.out.mono ?_
  rintro e w1 ⟨rfl, hb1⟩
  cases b1 with
  | true =>
    go_wp2
    go_ret
    exact ⟨ret_bool (by rw [Hl.out]; rfl), hb1⟩
  | false =>
    go_wp2_with fail
    refine (H2.out _ hb1).mono ?_
    rintro e w2 ⟨rfl, hb2⟩
    have hb12 := below2 hb1 hb2
    cases b2 with
    | true =>
      go_wp2
      go_ret
      exact ⟨ret_bool (by rw [Hl.out]; rfl), hb12⟩
    | false =>
      go_wp2_with fail
      refine (H3.out _ hb12).mono ?_
      rintro e w3 ⟨rfl, hb3⟩
      go_wp2
      go_ret
      exact ⟨ret_bool (by rw [Hl.out]; simp), below2 hb12 hb3⟩
theorem notL_ok (r : Nat) (hr : r ≤ 1114111) (w : World) (hT : TabsU w) : Calls Tryz.prog 194 #[.int .i32 (r : Int)] w fun e w' => e = .returned (.bool (!Sm.isL r)) ∧ Below w.heap.size w w' := by
  have h1 := chLetter_ok r hr w hT
  clear hT
  generalize Sm.isL r = b1 at h1 ⊢
  have H1 := Lib.hid h1
  clear h1
  go_enter Tryz.func194, Tryz.ntmps194
  go_wp2_with fail
  refine H1.out.mono ?_
  rintro e w1 ⟨rfl, hb1⟩
  go_wp2
  go_ret
  exact ⟨rfl, hb1⟩
theorem isL_bad : Sm.isL 65533 = false := by kernel_rfl
theorem inWord_ok (r : Nat) (hr : r ≤ 1114111) (w : World) (hT : TabsU w) : Calls Tryz.prog 83 #[.int .i32 (r : Int)] w fun e w' => e = .returned (.bool (Sm.isL r)) ∧ Below w.heap.size w w' := by
  by_cases hbad : r = 65533
  · subst hbad
    rw [isL_bad]
    go_enter Tryz.func83, Tryz.ntmps83
    go_wp2
    go_ret
    exact ⟨rfl, Below.refl _ _⟩
  have hne : ((r : Int) != 65533) = true := by rw [bne_iff_ne]; omega
  have h1 := Tryz.unicode_IsLetter_all (r : Int) w (by omega) (by omega) hT.props hT.letter
  have h2 := fun W hb => Tryz.unicode_IsDigit_all (r : Int) W (by omega) (by omega) (hT.ext hb).digit
  have h3 := fun W hb => Tryz.unicode_IsMark_all (r : Int) W (by omega) (by omega) (hT.ext hb).mark
  have hl : Sm.isL r = (Lib.isLetterU (r : Int) || Lib.isDigitU (r : Int) || Lib.isMarkU (r : Int)) := rfl
  clear hT
  generalize Lib.isLetterU (r : Int) = b1 at h1 hl
  generalize Lib.isDigitU (r : Int) = b2 at h2 hl
  generalize Lib.isMarkU (r : Int) = b3 at h3 hl
  have Hl := Lib.hid hl; have H1 := Lib.hid h1; have H2 := Lib.hid h2; have H3 := Lib.hid h3
  clear hl h1 h2 h3
  go_enter Tryz.func83, Tryz.ntmps83
  go_wp2_with fail
  refine H1.out.mono ?_
  rintro e w1 ⟨rfl, hb1⟩
  cases b1 with
  | true =>
    go_wp2
    go_ret
    exact ⟨ret_bool (by rw [Hl.out]; rfl), hb1⟩
  | false =>
    go_wp2_with fail
    refine (H2.out _ hb1).mono ?_
    rintro e w2 ⟨rfl, hb2⟩
    have hb12 := below2 hb1 hb2
    cases b2 with
    | true =>
      go_wp2
      go_ret
      exact ⟨ret_bool (by rw [Hl.out]; rfl), hb12⟩
    | false =>
      go_wp2_with fail
      refine (H3.out _ hb12).mono ?_
      rintro e w3 ⟨rfl, hb3⟩
      go_wp2
      go_ret
      exact ⟨ret_bool (by rw [Hl.out]; simp), below2 hb12 hb3⟩
end Go.Proofs.YtfjpedgddgbelaaGreatDoor
namespace Go.Proofs.YtfjpedgddgbelaaGreatDoor
open Go.RowKit Go.Lib Go.Shelf
set_option linter.unusedVariables false
theorem tabIs_of_reads {P : Program} {W : World} {name : String} {k : IntKind} {zs : List Int} {g : Nat} {t e : TypeId} {n : Nat}
    (hg : P.globalNamed name = some g) (hty : (P.globals[g]?).map (·.type) = some t) (ht : P.underlying t = some (.array n e)) (he : P.underlying e = some (.int k)) (hce : P.cellsOf e = 1) (hct : P.cellsOf t = n)
    (h : VarReads P W name (tabData k zs)) : TabIs P W name k zs := by
  obtain ⟨g', t', cs, fuel, p, hg', ht', hvar, hd⟩ := h
  obtain rfl := Option.some.inj (hg.symm.trans hg')
  obtain rfl := Option.some.inj (hty.symm.trans ht')
  unfold TabIs
  rw [hvar, ← cells_of_tab ht he hce hct hd]
theorem acc_eq : (Rows.laid_unicode_utf8_acceptRanges : DataW Unit) = acceptData := by kernel_rfl
theorem prop_eq : (Rows.laid_unicode_properties : DataW Unit) = tabData .u8 Lib.propertiesTab := by kernel_rfl
theorem case_eq : Rows.laid_unicode_CaseRanges = caseData := Pinned.caseRanges_eq
theorem letter_eq : Rows.laid_unicode_Letter = rtabData letterT := Pinned.letter_eq
theorem digit_eq : Rows.laid_unicode_Digit = rtabData digitT := Pinned.digit_eq
theorem mark_eq : Rows.laid_unicode_Mark = rtabData markT := Pinned.mark_eq
theorem first_eq : Rows.laid_unicode_utf8_first = firstData := Pinned.utf8First_eq
theorem tabs_of {l : List (String × DataW Unit)} {W : World} (hL : laidMet Tryz.prog l W)
    (m1 : ("unicode/utf8.first", Rows.laid_unicode_utf8_first) ∈ l) (m2 : ("unicode/utf8.acceptRanges", (Rows.laid_unicode_utf8_acceptRanges : DataW Unit)) ∈ l) (m3 : ("unicode.properties", (Rows.laid_unicode_properties : DataW Unit)) ∈ l)
    (m4 : ("unicode.CaseRanges", Rows.laid_unicode_CaseRanges) ∈ l) (m5 : ("unicode.Letter", Rows.laid_unicode_Letter) ∈ l) (m6 : ("unicode.Digit", Rows.laid_unicode_Digit) ∈ l) (m7 : ("unicode.Mark", Rows.laid_unicode_Mark) ∈ l) : TabsU W where
  u8 := utf8Tabs_of_reads Tryz.lays260 ⟨by kernel_rfl, by kernel_rfl, by kernel_rfl, by kernel_rfl, by kernel_rfl, by kernel_rfl, by kernel_rfl⟩ (first_eq ▸ Lib.laidMet.reads hL m1) (acc_eq ▸ Lib.laidMet.reads hL m2)
  case := caseVar_of_reads (ρ := Tryz.lays204_ren) { Tryz.lays204 with } (by kernel_rfl) ⟨by kernel_rfl, by kernel_rfl, by kernel_rfl, by kernel_rfl, by kernel_rfl, by kernel_rfl⟩ (case_eq ▸ Lib.laidMet.reads hL m4)
  props := tabIs_of_reads (g := 3) (t := 196) (e := 5) (n := 256) (by kernel_rfl) (by kernel_rfl) (by kernel_rfl) (by kernel_rfl) (by kernel_rfl) (by kernel_rfl) (prop_eq ▸ Lib.laidMet.reads hL m3)
  letter := rvar_of_reads Tryz.lays261 ⟨by kernel_rfl, by kernel_rfl, by kernel_rfl, by kernel_rfl, by kernel_rfl, by kernel_rfl, by kernel_rfl, by kernel_rfl⟩ (by kernel_rfl) (by kernel_rfl) (letter_eq ▸ Lib.laidMet.reads hL m5)
  digit := rvar_of_reads Tryz.lays261 ⟨by kernel_rfl, by kernel_rfl, by kernel_rfl, by kernel_rfl, by kernel_rfl, by kernel_rfl, by kernel_rfl, by kernel_rfl⟩ (by kernel_rfl) (by kernel_rfl) (digit_eq ▸ Lib.laidMet.reads hL m6)
  mark := rvar_of_reads Tryz.lays261 ⟨by kernel_rfl, by kernel_rfl, by kernel_rfl, by kernel_rfl, by kernel_rfl, by kernel_rfl, by kernel_rfl, by kernel_rfl⟩ (by kernel_rfl) (by kernel_rfl) (mark_eq ▸ Lib.laidMet.reads hL m7)
end Go.Proofs.YtfjpedgddgbelaaGreatDoor
