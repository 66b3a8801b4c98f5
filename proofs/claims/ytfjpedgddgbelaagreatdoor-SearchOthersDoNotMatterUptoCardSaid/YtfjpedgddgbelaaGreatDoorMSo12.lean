/-
  Contracts and plain facts, one after another: The tables of the library's, row by row: a binary search finds what a look at every row finds; Every letter's lower form is a letter and its own lower form: the rows of the case table, one after another; Every letter's lower form is a letter and its own lower form: the rows of the case table, one after another; Words of words, words of texts with a full stop between them: plain lists of bytes; index.Add: what it computes; plain; index.Add: the state in which places are added; index.Of: the postings of a term.
-/
import Derived.Test.YtfjpedgddgbelaaGreatDoorMSo1
import Derived.Test.YtfjpedgddgbelaaGreatDoorMSo9
import Derived.Test.YtfjpedgddgbelaaGreatDoorMSo11
import Derived.Test.YtfjpedgddgbelaaGreatDoorMSo6
import Derived.Test.YtfjpedgddgbelaaGreatDoorMSo10
import Derived.Shelf.Unicode.CaseTo
import Derived.Deep.QuietTactic
import Derived.BigQuiet
/-
  The tables of the library's, row by row: a binary search finds what a look at every row finds.
-/
namespace Go.Proofs.YtfjpedgddgbelaaGreatDoor
namespace Sm
open Go.Lib
set_option linter.unusedVariables false
/-- rows in order, apart from each other -/
def sortedL : List (Nat × Nat) → Bool
  | [] => true
  | [x] => decide (x.1 ≤ x.2)
  | x :: y :: t => decide (x.1 ≤ x.2) && decide (x.2 < y.1) && sortedL (y :: t)
theorem sorted_head : ∀ {x : Nat × Nat} {t : List (Nat × Nat)}, sortedL (x :: t) = true → x.1 ≤ x.2 ∧ sortedL t = true ∧ ∀ y ∈ t, x.2 < y.1
  | x, [], h => ⟨by simpa [sortedL] using h, rfl, fun y hy => by cases hy⟩
  | x, z :: t, h => by
    simp only [sortedL, Bool.and_eq_true, decide_eq_true_eq] at h
    obtain ⟨⟨h1, h2⟩, h3⟩ := h
    have ih := sorted_head h3
    refine ⟨h1, h3, fun y hy => ?_⟩
    rcases List.mem_cons.1 hy with rfl | hy
    · exact h2
    · have := ih.2.2 y hy
      omega
theorem sorted_at : ∀ {l : List (Nat × Nat)}, sortedL l = true → ∀ (i j : Nat) (hj : j < l.length) (hij : i < j), (l[i]'(by omega)).2 < l[j].1
  | x :: t, h, 0, j + 1, hj, _ => by
    have hj2 : j < t.length := by simpa using hj
    have := (sorted_head h).2.2 t[j] (List.getElem_mem hj2)
    simpa using this
  | x :: t, h, i + 1, j + 1, hj, hij => by
    have := sorted_at (sorted_head h).2.1 i j (by simpa using hj) (by omega)
    simpa using this
theorem sorted_self : ∀ {l : List (Nat × Nat)}, sortedL l = true → ∀ (i : Nat) (hi : i < l.length), l[i].1 ≤ l[i].2
  | x :: t, h, 0, _ => (sorted_head h).1
  | x :: t, h, i + 1, hi => by
    have := sorted_self (sorted_head h).2.1 i (by simpa using hi)
    simpa using this
/-- rows of a table of ranges -/
def rowsG (T : List Rg) : List (Nat × Nat) := T.map fun x => (x.1, x.2.1)
def inG (x : Rg) (r : Nat) : Bool := Nat.ble x.1 r && Nat.ble r x.2.1
def memG (T : List Rg) (r : Nat) : Bool := T.any fun x => inG x r && x.has r
theorem getD_at (T : Array Rg) (i : Nat) (h : i < T.size) : T.getD i (0, 0, 0) = T.toList[i]'(by simpa using h) := by simp [Array.getD, h]
theorem any_slice_none {T : List Rg} {r lo hi : Nat} (h : ∀ (i : Nat) (hi' : i < T.length), lo ≤ i → i < hi → (inG T[i] r && T[i].has r) = false) : memG ((T.take hi).drop lo) r = false := by
  unfold memG
  rw [List.any_eq_false]
  intro x hx
  obtain ⟨k, hk, rfl⟩ := List.mem_iff_getElem.1 hx
  rw [List.length_drop, List.length_take] at hk
  rw [List.getElem_drop, List.getElem_take]
  rw [h (lo + k) (by omega) (by omega) (by omega)]
  simp
theorem any_slice_some {T : List Rg} {r lo hi i : Nat} (hi' : i < T.length) (h1 : lo ≤ i) (h2 : i < hi) (hs : ∀ (j : Nat) (hj : j < T.length), j ≠ i → inG T[j] r = false) (hin : inG T[i] r = true) : memG ((T.take hi).drop lo) r = T[i].has r := by
  cases hh : T[i].has r with
  | true =>
    unfold memG
    rw [List.any_eq_true]
    refine ⟨T[i], ?_, by rw [hin, hh]; rfl⟩
    refine List.mem_iff_getElem.2 ⟨i - lo, by rw [List.length_drop, List.length_take]; omega, ?_⟩
    rw [List.getElem_drop, List.getElem_take]
    congr 1
    omega
  | false =>
    apply any_slice_none
    intro j hj _ _
    by_cases e : j = i
    · subst e; rw [hh]; simp
    · rw [hs j hj e]; rfl
theorem rows_at {T : List Rg} {i : Nat} (h : i < T.length) : (rowsG T)[i]'(by simpa [rowsG] using h) = (T[i].1, T[i].2.1) := by simp [rowsG]
theorem only {T : List Rg} (hs : sortedL (rowsG T) = true) {r i : Nat} (hi : i < T.length) (hin : inG T[i] r = true) (j : Nat) (hj : j < T.length) (hne : j ≠ i) : inG T[j] r = false := by
  have hl : (rowsG T).length = T.length := by simp [rowsG]
  simp only [inG, Bool.and_eq_true, Nat.ble_eq] at hin
  cases hc : inG T[j] r with
  | false => rfl
  | true =>
    simp only [inG, Bool.and_eq_true, Nat.ble_eq] at hc
    exfalso
    rcases Nat.lt_or_ge j i with h | h
    · have := sorted_at hs j i (by omega) h
      rw [rows_at hj, rows_at hi] at this
      simp only at this
      omega
    · have := sorted_at hs i j (by omega) (by omega)
      rw [rows_at hj, rows_at hi] at this
      simp only at this
      omega
/-- the binary search finds what a look at every row finds -/
theorem bin_eq (T : Array Rg) (hs : sortedL (rowsG T.toList) = true) (r : Nat) : ∀ (f lo hi : Nat), hi ≤ T.size → hi - lo < f → binGo T r f lo hi = memG ((T.toList.take hi).drop lo) r
  | 0, lo, hi, _, h => absurd h (by omega)
  | f + 1, lo, hi, hh, h => by
    unfold binGo
    by_cases hlt : lo < hi
    · rw [if_pos hlt]
      have hm : (lo + hi) / 2 < T.size := by omega
      have hml : (lo + hi) / 2 < T.toList.length := by simpa using hm
      have hl : (rowsG T.toList).length = T.toList.length := by simp [rowsG]
      have hself := sorted_self hs ((lo + hi) / 2) (by omega)
      rw [rows_at hml] at hself
      rw [getD_at T _ hm]
      obtain ⟨x, hx⟩ : ∃ x, T.toList[(lo + hi) / 2] = x := ⟨_, rfl⟩
      simp only [hx] at hself ⊢
      by_cases hin : x.1 ≤ r ∧ r ≤ x.2.1
      · rw [if_pos hin]
        have hin' : inG T.toList[(lo + hi) / 2] r = true := by rw [hx]; simp [inG, hin]
        rw [any_slice_some hml (by omega) (by omega) (fun j hj hne => only hs hml hin' j hj hne) hin', hx]
      · rw [if_neg hin]
        by_cases hr : r < x.1
        · rw [if_pos hr, bin_eq T hs r f lo _ (by omega) (by omega)]
          have key : ∀ (i : Nat) (hi' : i < T.toList.length), (lo + hi) / 2 ≤ i → inG T.toList[i] r = false := fun i hi' hge => by
            cases hc : inG T.toList[i] r with
            | false => rfl
            | true =>
              exfalso
              simp only [inG, Bool.and_eq_true, Nat.ble_eq] at hc
              rcases Nat.lt_or_ge ((lo + hi) / 2) i with h' | h'
              · have := sorted_at hs ((lo + hi) / 2) i (by omega) h'
                rw [rows_at hml, rows_at hi', hx] at this
                simp only at this
                omega
              · have e : i = (lo + hi) / 2 := by omega
                subst e
                rw [hx] at hc
                omega
          have : (T.toList.take hi).drop lo = (T.toList.take ((lo + hi) / 2)).drop lo ++ (T.toList.take hi).drop ((lo + hi) / 2) := by
            conv => lhs; rw [← List.take_append_drop ((lo + hi) / 2) (T.toList.take hi)]
            rw [List.take_take, Nat.min_eq_left (by omega), List.drop_append_of_le_length (by rw [List.length_take]; omega)]
          rw [this]
          unfold memG
          rw [List.any_append]
          have hz := any_slice_none (T := T.toList) (r := r) (lo := (lo + hi) / 2) (hi := hi) (fun i hi' h1 _ => by rw [key i hi' h1]; rfl)
          unfold memG at hz
          rw [hz, Bool.or_false]
        · rw [if_neg hr, bin_eq T hs r f _ hi (by omega) (by omega)]
          have key : ∀ (i : Nat) (hi' : i < T.toList.length), i < (lo + hi) / 2 + 1 → inG T.toList[i] r = false := fun i hi' hge => by
            cases hc : inG T.toList[i] r with
            | false => rfl
            | true =>
              exfalso
              simp only [inG, Bool.and_eq_true, Nat.ble_eq] at hc
              rcases Nat.lt_or_ge i ((lo + hi) / 2) with h' | h'
              · have := sorted_at hs i ((lo + hi) / 2) (by omega) h'
                rw [rows_at hml, rows_at hi', hx] at this
                simp only at this
                omega
              · have e : i = (lo + hi) / 2 := by omega
                subst e
                rw [hx] at hc
                omega
          have : (T.toList.take hi).drop lo = (T.toList.take ((lo + hi) / 2 + 1)).drop lo ++ (T.toList.take hi).drop ((lo + hi) / 2 + 1) := by
            conv => lhs; rw [← List.take_append_drop ((lo + hi) / 2 + 1) (T.toList.take hi)]
            rw [List.take_take, Nat.min_eq_left (by omega), List.drop_append_of_le_length (by rw [List.length_take]; omega)]
          rw [this]
          unfold memG
          rw [List.any_append]
          have hz := any_slice_none (T := T.toList) (r := r) (lo := lo) (hi := (lo + hi) / 2 + 1) (fun i hi' _ h2 => by rw [key i hi' h2]; rfl)
          unfold memG at hz
          rw [hz, Bool.false_or]
    · rw [if_neg hlt, List.drop_eq_nil_of_le (by rw [List.length_take]; omega)]
      rfl
theorem lin_eq (T : Array Rg) (hs : sortedL (rowsG T.toList) = true) (r : Nat) : ∀ (f i : Nat), T.size - i < f → linGo T r f i = memG (T.toList.drop i) r
  | 0, i, h => absurd h (by omega)
  | f + 1, i, h => by
    unfold linGo
    by_cases hlt : i < T.size
    · have hml : i < T.toList.length := by simpa using hlt
      have hl : (rowsG T.toList).length = T.toList.length := by simp [rowsG]
      rw [if_pos hlt, getD_at T _ hlt, List.drop_eq_getElem_cons hml]
      obtain ⟨x, hx⟩ : ∃ x, T.toList[i] = x := ⟨_, rfl⟩
      simp only [hx]
      have rest : ∀ z, (z < x.1 ∨ z ≤ x.2.1) → memG (T.toList.drop (i + 1)) z = false := fun z hz => by
        unfold memG
        rw [List.any_eq_false]
        intro y hy
        obtain ⟨k, hk, rfl⟩ := List.mem_iff_getElem.1 hy
        rw [List.length_drop] at hk
        rw [List.getElem_drop]
        have h1 := sorted_at hs i (i + 1 + k) (by omega) (by omega)
        rw [rows_at hml, rows_at (by omega), hx] at h1
        have h2 := sorted_self hs i (by omega)
        rw [rows_at hml, hx] at h2
        simp only at h1 h2
        have : inG T.toList[i + 1 + k] z = false := by
          cases hc : inG T.toList[i + 1 + k] z with
          | false => rfl
          | true =>
            simp only [inG, Bool.and_eq_true, Nat.ble_eq] at hc
            omega
        rw [this]
        simp
      by_cases h1 : r < x.1
      · rw [if_pos h1]
        have := rest r (.inl h1)
        unfold memG at this ⊢
        rw [List.any_cons, this]
        have : inG x r = false := by
            rw [Bool.eq_false_iff]
            intro hc
            simp only [inG, Bool.and_eq_true, Nat.ble_eq] at hc
            omega
        rw [this]; rfl
      · rw [if_neg h1]
        by_cases h2 : r ≤ x.2.1
        · rw [if_pos h2]
          have := rest r (.inr h2)
          unfold memG at this ⊢
          rw [List.any_cons, this]
          have : inG x r = true := by simp only [inG, Bool.and_eq_true, Nat.ble_eq]; omega
          rw [this]; simp
        · rw [if_neg h2, lin_eq T hs r f (i + 1) (by omega)]
          unfold memG
          rw [List.any_cons]
          have : inG x r = false := by
            rw [Bool.eq_false_iff]
            intro hc
            simp only [inG, Bool.and_eq_true, Nat.ble_eq] at hc
            omega
          rw [this]; rfl
    · rw [if_neg hlt, List.drop_eq_nil_of_le (by simpa using Nat.le_of_not_lt hlt)]
      rfl
theorem is16_eq (T : Array Rg) (hs : sortedL (rowsG T.toList) = true) (r : Nat) : is16Go T r = memG T.toList r := by
  unfold is16Go
  split
  · rw [lin_eq T hs r _ _ (by omega), List.drop_zero]
  · rw [bin_eq T hs r _ _ _ (Nat.le_refl _) (by omega), List.drop_zero, List.take_of_length_le (by simp)]
theorem is32_eq (T : Array Rg) (hs : sortedL (rowsG T.toList) = true) (r : Nat) : is32Go T r = memG T.toList r := by
  unfold is32Go
  split
  · rw [lin_eq T hs r _ _ (by omega), List.drop_zero]
  · rw [bin_eq T hs r _ _ _ (Nat.le_refl _) (by omega), List.drop_zero, List.take_of_length_le (by simp)]
/-- a rune against a table, row by row -/
def memT (T : RTab) (z : Nat) : Bool :=
  if T.off < T.r16.size ∧ z ≤ (T.r16.getD (T.r16.size - 1) (0, 0, 0)).2.1 then memG (T.r16.toList.drop T.off) z
  else if 0 < T.r32.size ∧ (T.r32.getD 0 (0, 0, 0)).1 ≤ z then memG T.r32.toList z
  else false
theorem excl_eq (T : RTab) (h16 : sortedL (rowsG (T.r16.toList.drop T.off)) = true) (h32 : sortedL (rowsG T.r32.toList) = true) (hl : (T.r16.getD (T.r16.size - 1) (0, 0, 0)).2.1 < 65536) (z : Nat) (hz : z < 2147483648) :
    exclGo T (z : Int) = memT T z := by
  have hu : u32Of (z : Int) = z := by unfold u32Of; omega
  unfold exclGo memT
  rw [hu]
  have e : (T.r16.extract T.off T.r16.size).toList = T.r16.toList.drop T.off := by simp [List.take_of_length_le]
  have c : (((T.r32.getD 0 (0, 0, 0)).1 : Int) ≤ (z : Int)) ↔ (T.r32.getD 0 (0, 0, 0)).1 ≤ z := by omega
  split
  · rename_i h
    rw [is16_eq _ (by rw [e]; exact h16), e, Nat.mod_eq_of_lt (by omega)]
  · simp only [c]
    split
    · rw [is32_eq _ h32]
    · rfl
def inC (x : CaseRow) (r : Nat) : Bool := Nat.ble x.1 r && Nat.ble r x.2.1
theorem inC_mk {x : CaseRow} {r : Nat} (h1 : x.1 ≤ r) (h2 : r ≤ x.2.1) : inC x r = true := by simp [inC, h1, h2]
def rowsC (T : List CaseRow) : List (Nat × Nat) := T.map fun x => (x.1, x.2.1)
theorem rowsC_at {T : List CaseRow} {i : Nat} (h : i < T.length) : (rowsC T)[i]'(by simpa [rowsC] using h) = (T[i].1, T[i].2.1) := by simp [rowsC]
theorem getC_at (T : Array CaseRow) (i : Nat) (h : i < T.size) : T.getD i (0, 0, 0, 0, 0) = T.toList[i]'(by simpa using h) := by simp [Array.getD, h]
theorem onlyC {T : List CaseRow} (hs : sortedL (rowsC T) = true) {r i : Nat} (hi : i < T.length) (hin : inC T[i] r = true) (j : Nat) (hj : j < T.length) (hc : inC T[j] r = true) : j = i := by
  have hl : (rowsC T).length = T.length := by simp [rowsC]
  simp only [inC, Bool.and_eq_true, Nat.ble_eq] at hin hc
  rcases Nat.lt_or_ge j i with h | h
  · have := sorted_at hs j i (by omega) h
    rw [rowsC_at hj, rowsC_at hi] at this
    simp only at this
    omega
  · rcases Nat.eq_or_lt_of_le h with h' | h'
    · exact h'.symm
    · have := sorted_at hs i j (by omega) h'
      rw [rowsC_at hj, rowsC_at hi] at this
      simp only at this
      omega
/-- the search for a row of the case table -/
theorem look_eq (T : Array CaseRow) (hs : sortedL (rowsC T.toList) = true) (r : Nat) : ∀ (f lo hi : Nat), hi ≤ T.size → hi - lo < f →
    (∀ (i : Nat) (h : i < T.toList.length), lo ≤ i → i < hi → inC T.toList[i] r = true → lookupIdx T (r : Int) f lo hi = some i)
  | 0, lo, hi, _, h => absurd h (by omega)
  | f + 1, lo, hi, hh, h => by
    intro i hil h1 h2 hin
    unfold lookupIdx
    rw [if_pos (by omega)]
    have hm : (lo + hi) / 2 < T.size := by omega
    have hml : (lo + hi) / 2 < T.toList.length := by simpa using hm
    have hl : (rowsC T.toList).length = T.toList.length := by simp [rowsC]
    rw [getC_at T _ hm]
    by_cases hc : inC T.toList[(lo + hi) / 2] r = true
    · have e := onlyC hs hil hin _ hml hc
      rw [if_pos (by simp only [inC, Bool.and_eq_true, Nat.ble_eq] at hc; omega), e]
    · have hne : i ≠ (lo + hi) / 2 := fun e => hc (by subst e; exact hin)
      have hc' : ¬ ((T.toList[(lo + hi) / 2].1 ≤ r) ∧ (r ≤ T.toList[(lo + hi) / 2].2.1)) := fun hh => hc (inC_mk hh.1 hh.2)
      rw [if_neg (by omega)]
      simp only [inC, Bool.and_eq_true, Nat.ble_eq] at hin
      have hsm := sorted_self hs ((lo + hi) / 2) (by omega)
      rw [rowsC_at hml] at hsm
      simp only at hsm
      rcases Nat.lt_or_ge i ((lo + hi) / 2) with hlt | hge
      · have := sorted_at hs i ((lo + hi) / 2) (by omega) hlt
        rw [rowsC_at hil, rowsC_at hml] at this
        simp only at this
        rw [if_pos (by omega)]
        exact look_eq T hs r f lo _ (by omega) (by omega) i hil h1 hlt (inC_mk hin.1 hin.2)
      · have hgt : (lo + hi) / 2 < i := by omega
        have := sorted_at hs ((lo + hi) / 2) i (by omega) hgt
        rw [rowsC_at hil, rowsC_at hml] at this
        simp only at this
        rw [if_neg (by omega)]
        exact look_eq T hs r f _ hi (by omega) (by omega) i hil (by omega) h2 (inC_mk hin.1 hin.2)
def isL2 (r : Nat) : Bool := (if r ≤ 255 then isLetterL (r : Int) else memT letterT r) || (if r ≤ 255 then isDigitL (r : Int) else memT digitT r) || memT markT r
def lower2 (r : Nat) : Int := if r ≤ 127 then (if 65 ≤ r ∧ r ≤ 90 then (r : Int) + 32 else (r : Int)) else match caseT.find? (fun x => inC x r) with
  | some x => convertR 1 (r : Int) x
  | none => (r : Int)
theorem sorted_letter16 : sortedL (rowsG (letterT.r16.toList.drop letterT.off)) = true := by decide +kernel
theorem sorted_letter32 : sortedL (rowsG letterT.r32.toList) = true := by decide +kernel
theorem sorted_digit16 : sortedL (rowsG (digitT.r16.toList.drop digitT.off)) = true := by decide +kernel
theorem sorted_digit32 : sortedL (rowsG digitT.r32.toList) = true := by decide +kernel
theorem sorted_mark16 : sortedL (rowsG (markT.r16.toList.drop markT.off)) = true := by decide +kernel
theorem sorted_mark32 : sortedL (rowsG markT.r32.toList) = true := by decide +kernel
theorem sorted_case : sortedL (rowsC caseA.toList) = true := by decide +kernel
theorem isL_eq (r : Nat) (hr : r < 2147483648) : isL r = isL2 r := by
  have h1 : isLetterU (r : Int) = if r ≤ 255 then isLetterL (r : Int) else memT letterT r := by
    unfold isLetterU latin1
    by_cases h : r ≤ 255
    · rw [if_pos h, if_pos (by simp; omega)]
    · rw [if_neg h, if_neg (by simp; omega), excl_eq letterT sorted_letter16 sorted_letter32 (by decide +kernel) r hr]
  have h2 : isDigitU (r : Int) = if r ≤ 255 then isDigitL (r : Int) else memT digitT r := by
    unfold isDigitU
    by_cases h : r ≤ 255
    · rw [if_pos h, if_pos (by omega)]
    · rw [if_neg h, if_neg (by omega), excl_eq digitT sorted_digit16 sorted_digit32 (by decide +kernel) r hr]
  have h3 : isMarkU (r : Int) = memT markT r := excl_eq markT sorted_mark16 sorted_mark32 (by decide +kernel) r hr
  unfold isL isL2
  rw [h1, h2, h3]
theorem lower_eq (r : Nat) : toLowerU (r : Int) = lower2 r := by
  unfold toLowerU lower2
  by_cases h : r ≤ 127
  · rw [if_pos h, if_pos (by omega)]
    by_cases h2 : 65 ≤ r ∧ r ≤ 90
    · rw [if_pos h2, if_pos (by omega)]
    · rw [if_neg h2, if_neg (by omega)]
  · rw [if_neg h, if_neg (by omega)]
    unfold toR lookupGo
    cases hf : caseT.find? (fun x => inC x r) with
    | some x =>
      have hx := List.find?_some hf
      obtain ⟨i, hi, he⟩ := List.mem_iff_getElem.1 (List.mem_of_find?_eq_some hf)
      have hi' : i < caseA.toList.length := by simpa [caseA] using hi
      have hei : caseA.toList[i] = x := by rw [← he]; simp [caseA]
      have hl := look_eq caseA sorted_case r (caseA.size + 1) 0 caseA.size (Nat.le_refl _) (by omega) i hi' (Nat.zero_le _) (by simpa using hi') (by rw [hei]; exact hx)
      rw [hl]
      simp only [Option.map_some]
      rw [getC_at caseA i (by simpa using hi'), hei]
    | none =>
      cases hl : lookupIdx caseA (r : Int) (caseA.size + 1) 0 caseA.size with
      | none => rfl
      | some i =>
        exfalso
        obtain ⟨h1, h2, h3⟩ := lookupIdx_some caseA _ _ _ _ _ hl
        rw [getC_at caseA i h1] at h2 h3
        have hm : caseA.toList[i]'(by simpa using h1) ∈ caseT := by
          have := List.getElem_mem (l := caseA.toList) (n := i) (by simpa using h1)
          exact (show caseA.toList = caseT by simp [caseA]) ▸ this
        have := List.find?_eq_none.1 hf _ hm
        exact this (inC_mk (by omega) (by omega))
def okR (r : Nat) (z : Int) : Bool := (decide (0 ≤ z) && decide (z.toNat < 55296 ∨ (57344 ≤ z.toNat ∧ z.toNat ≤ 1114111)) && isL2 z.toNat && lower2 z.toNat == z) || !isL2 r
def okRow (x : CaseRow) : Bool := (List.range (x.2.1 + 1 - x.1)).all fun k => okR (x.1 + k) (convertR 1 ((x.1 + k : Nat) : Int) x)

end Sm
end Go.Proofs.YtfjpedgddgbelaaGreatDoor
/-
  Every letter's lower form is a letter and its own lower form: the rows of the case table, one after another.
-/
namespace Go.Proofs.YtfjpedgddgbelaaGreatDoor
namespace Sm
open Go.Lib
set_option maxRecDepth 1000000
theorem ok0 : ((caseT.drop 0).take 23).all okRow = true := by decide +kernel
theorem ok1 : ((caseT.drop 23).take 107).all okRow = true := by decide +kernel
theorem ok2 : ((caseT.drop 130).take 31).all okRow = true := by decide +kernel
theorem ok3 : ((caseT.drop 161).take 10).all okRow = true := by decide +kernel
theorem ok4 : ((caseT.drop 171).take 19).all okRow = true := by decide +kernel
end Sm
end Go.Proofs.YtfjpedgddgbelaaGreatDoor
/-
  Every letter's lower form is a letter and its own lower form: the rows of the case table, one after another.
-/
namespace Go.Proofs.YtfjpedgddgbelaaGreatDoor
namespace Sm
open Go.Lib
set_option maxRecDepth 1000000
theorem ok5 : ((caseT.drop 190).take 35).all okRow = true := by decide +kernel
theorem ok6 : ((caseT.drop 225).take 48).all okRow = true := by decide +kernel
theorem ok7 : ((caseT.drop 273).take 27).all okRow = true := by decide +kernel
theorem ok8 : ((caseT.drop 300).take 15).all okRow = true := by decide +kernel
theorem ok9 : ((caseT.drop 315).take 13).all okRow = true := by decide +kernel
theorem ok10 : ((caseT.drop 328).take 8).all okRow = true := by decide +kernel
end Sm
end Go.Proofs.YtfjpedgddgbelaaGreatDoor
/-
  Words of words, words of texts with a full stop between them: plain lists of bytes.
-/
namespace Go.Proofs.YtfjpedgddgbelaaGreatDoor
namespace Sm
open Go.Lib
theorem isL_dot : isL 46 = false := by decide +kernel
theorem isL_space : isL 32 = false := by decide +kernel
theorem isL_bad' : isL 65533 = false := by decide +kernel
/-- an ASCII byte in front -/
theorem decode_ascii' (c : UInt8) (t : List UInt8) (h : c.toNat < 128) : decodeL (c :: t) = (c.toNat, 1) := by
  rw [decodeL_N]
  unfold decodeN
  rw [if_pos (by simpa using h)]
  rfl
/-- an ASCII byte behind does not change what is decoded in front of it -/
theorem decode_before (l : List UInt8) (c : UInt8) (t : List UInt8) (hne : l ≠ []) (hc : c.toNat < 128) : decodeL (l ++ c :: t) = decodeL l := by
  have hlen := List.length_pos_iff.2 hne
  have hc2 : c.toNat / 64 ≠ 2 := by omega
  have g : ∀ k, k < l.length → (l ++ c :: t).getD k 0 = l.getD k 0 := fun k hk => by simp [List.getD, List.getElem?_append_left hk]
  have gl : (l ++ c :: t).getD l.length 0 = c := by simp [List.getD]
  have hbig : l.length < (l ++ c :: t).length := by simp
  rw [decodeL_N, decodeL_N, g 0 hlen]
  generalize hn : (l ++ c :: t).length = n at hbig ⊢
  generalize hm : l.length = m at hlen hbig gl g ⊢
  unfold decodeN
  by_cases h1 : 1 < m
  · rw [g 1 h1]
    by_cases h2 : 2 < m
    · rw [g 2 h2]
      by_cases h3 : 3 < m
      · rw [g 3 h3]
        simp only [h1, h2, h3, show 1 < n by omega, show 2 < n by omega, show 3 < n by omega]
      · have e3 : 3 = m := by omega
        have g3 : (l ++ c :: t).getD 3 0 = c := by rw [e3]; exact gl
        rw [g3]
        simp only [h1, h2, h3, show 1 < n by omega, show 2 < n by omega, hc2, and_false, false_and, if_false]
    · have e2 : 2 = m := by omega
      have g2 : (l ++ c :: t).getD 2 0 = c := by rw [e2]; exact gl
      rw [g2]
      simp only [h1, h2, show ¬ 3 < m by omega, show 1 < n by omega, hc2, and_false, false_and, if_false]
  · have e1 : 1 = m := by omega
    have g1 : (l ++ c :: t).getD 1 0 = c := by rw [e1]; exact gl
    rw [g1]
    simp only [h1, hc2, and_false, false_and, if_false]
theorem drop_before (l : List UInt8) (c : UInt8) (t : List UInt8) {n : Nat} (h : n ≤ l.length) : (l ++ c :: t).drop n = l.drop n ++ c :: t := List.drop_append_of_le_length h
theorem take_before (l : List UInt8) (c : UInt8) (t : List UInt8) {n : Nat} (h : n ≤ l.length) : (l ++ c :: t).take n = l.take n := List.take_append_of_le_length h
/-- **a character between, that is no letter, parts the words** -/
theorem wordsFrom_sep (c : UInt8) (hc : c.toNat < 128) (hL : isL c.toNat = false) (t : List UInt8) : ∀ (n : Nat) (cur l : List UInt8), l.length ≤ n → wordsFrom cur (l ++ c :: t) = wordsFrom cur l ++ wordsFrom [] t
  | 0, cur, l, h => by
    rw [List.eq_nil_of_length_eq_zero (by omega : l.length = 0), List.nil_append, wordsFrom_step (by simp), decode_ascii' c t hc, wordsFrom_nil]
    simp [hL]
  | n + 1, cur, l, h => by
    by_cases hne : l = []
    · rw [hne, List.nil_append, wordsFrom_step (by simp), decode_ascii' c t hc, wordsFrom_nil]
      simp [hL]
    · have hw := decodeL_width l
      have hwl := width_le hne
      rw [wordsFrom_step (l := l ++ c :: t) (by simp), decode_before l c t hne hc, wordsFrom_step (l := l) hne, drop_before l c t hwl, take_before l c t hwl]
      have hd : (l.drop (decodeL l).2).length ≤ n := by rw [List.length_drop]; omega
      split
      · exact wordsFrom_sep c hc hL t n _ _ hd
      · rw [wordsFrom_sep c hc hL t n _ _ hd, List.append_assoc]
theorem words_join (a b : List UInt8) : words (a ++ 46 :: b) = words a ++ words b := by
  have h := wordsFrom_sep 46 (by decide) isL_dot b a.length [] a (Nat.le_refl _)
  unfold words rawWords
  unfold wordsFrom at h
  rw [h, List.map_append]

/-! ### runes -/
def validR (r : Nat) : Prop := r < 55296 ∨ (57344 ≤ r ∧ r ≤ 1114111)
/-- what was decoded, if not broken, stands there encoded -/
theorem u8_of {b : UInt8} {x : Int} (h : x = (b.toNat : Int)) : x.toNat.toUInt8 = b := by subst h; simp
theorem decode_encode (l : List UInt8) (hne : l ≠ []) (h : (decodeL l).1 ≠ 65533) : validR (decodeL l).1 ∧ l.take (decodeL l).2 = encodeRune ((decodeL l).1 : Int) := by
  rw [decodeL_N] at h ⊢
  match l, hne with
  | x0 :: l1, _ =>
    have h0 := x0.toNat_lt
    have e0 : (x0 :: l1).getD 0 0 = x0 := rfl
    rw [e0] at h ⊢
    by_cases c1 : x0.toNat < 128
    · have hd : ∀ n b1 b2 b3, decodeN n x0.toNat b1 b2 b3 = (x0.toNat, 1) := fun n b1 b2 b3 => by unfold decodeN; rw [if_pos c1]
      rw [hd]
      refine ⟨.inl (by show x0.toNat < 55296; omega), ?_⟩
      unfold encodeRune
      rw [encodeRuneZ_one (by simp) (by show (x0.toNat : Int) ≤ 127; omega)]
      simp
    · match l1 with
      | [] =>
        exfalso; apply h
        unfold decodeN
        simp [c1]
      | x1 :: l2 =>
        have h1 := x1.toNat_lt
        have e1 : (x0 :: x1 :: l2).getD 1 0 = x1 := rfl
        rw [e1] at h ⊢
        by_cases c2 : x0.toNat / 32 = 6 ∧ x1.toNat / 64 = 2
        · have hd : ∀ b2 b3, decodeN (x0 :: x1 :: l2).length x0.toNat x1.toNat b2 b3 = if x0.toNat % 32 * 64 + x1.toNat % 64 ≥ 128 then (x0.toNat % 32 * 64 + x1.toNat % 64, 2) else (65533, 1) := fun b2 b3 => by
            unfold decodeN
            rw [if_neg c1, if_pos ⟨c2.1, by simp, c2.2⟩]
          rw [hd] at h ⊢
          split at h
          · rename_i hg
            rw [if_pos hg]
            refine ⟨.inl (by show x0.toNat % 32 * 64 + x1.toNat % 64 < 55296; omega), ?_⟩
            unfold encodeRune
            rw [encodeRuneZ_two (by show (128 : Int) ≤ ((x0.toNat % 32 * 64 + x1.toNat % 64 : Nat) : Int); omega) (by show ((x0.toNat % 32 * 64 + x1.toNat % 64 : Nat) : Int) ≤ 2047; omega)]
            simp only [List.map_cons, List.map_nil, List.take_succ_cons, List.take_zero]
            rw [u8_of (b := x0) (by omega), u8_of (b := x1) (by omega)]
          · exact absurd rfl h
        · match l2 with
          | [] =>
            exfalso; apply h
            unfold decodeN
            rw [if_neg c1, if_neg (fun hh => c2 ⟨hh.1, hh.2.2⟩), if_neg (by simp), if_neg (by simp)]
          | x2 :: l3 =>
            have h2 := x2.toNat_lt
            have e2 : (x0 :: x1 :: x2 :: l3).getD 2 0 = x2 := rfl
            rw [e2] at h ⊢
            by_cases c3 : x0.toNat / 16 = 14 ∧ x1.toNat / 64 = 2 ∧ x2.toNat / 64 = 2
            · obtain ⟨r, hr⟩ : ∃ r, x0.toNat % 16 * 4096 + x1.toNat % 64 * 64 + x2.toNat % 64 = r := ⟨_, rfl⟩
              have hd : ∀ b3, decodeN (x0 :: x1 :: x2 :: l3).length x0.toNat x1.toNat x2.toNat b3 = if r ≥ 2048 ∧ (r < 55296 ∨ (57344 ≤ r ∧ r ≤ 1114111)) then (r, 3) else (65533, 1) := fun b3 => by
                unfold decodeN
                rw [if_neg c1, if_neg (fun hh => c2 ⟨hh.1, hh.2.2⟩), if_pos ⟨c3.1, ⟨by simp, c3.2.1⟩, by simp, c3.2.2⟩, hr]
              rw [hd] at h ⊢
              split at h
              · rename_i hg
                rw [if_pos hg]
                refine ⟨hg.2, ?_⟩
                unfold encodeRune
                rw [encodeRuneZ_three (by show (2048 ≤ (r : Int) ∧ (r : Int) < 55296) ∨ (57343 < (r : Int) ∧ (r : Int) ≤ 65535); omega)]
                simp only [List.map_cons, List.map_nil, List.take_succ_cons, List.take_zero]
                rw [u8_of (b := x0) (by omega), u8_of (b := x1) (by omega), u8_of (b := x2) (by omega)]
              · exact absurd rfl h
            · match l3 with
              | [] =>
                exfalso; apply h
                unfold decodeN
                rw [if_neg c1, if_neg (fun hh => c2 ⟨hh.1, hh.2.2⟩), if_neg (fun hh => c3 ⟨hh.1, hh.2.1.2, hh.2.2.2⟩), if_neg (by simp)]
              | x3 :: l4 =>
                have h3 := x3.toNat_lt
                have e3 : (x0 :: x1 :: x2 :: x3 :: l4).getD 3 0 = x3 := rfl
                rw [e3] at h ⊢
                by_cases c4 : x0.toNat / 8 = 30 ∧ x1.toNat / 64 = 2 ∧ x2.toNat / 64 = 2 ∧ x3.toNat / 64 = 2
                · obtain ⟨r, hr⟩ : ∃ r, x0.toNat % 8 * 262144 + x1.toNat % 64 * 4096 + x2.toNat % 64 * 64 + x3.toNat % 64 = r := ⟨_, rfl⟩
                  have hd : decodeN (x0 :: x1 :: x2 :: x3 :: l4).length x0.toNat x1.toNat x2.toNat x3.toNat = if r ≥ 65536 ∧ (r < 55296 ∨ (57344 ≤ r ∧ r ≤ 1114111)) then (r, 4) else (65533, 1) := by
                    unfold decodeN
                    rw [if_neg c1, if_neg (fun hh => c2 ⟨hh.1, hh.2.2⟩), if_neg (fun hh => c3 ⟨hh.1, hh.2.1.2, hh.2.2.2⟩), if_pos ⟨c4.1, ⟨by simp, c4.2.1⟩, ⟨by simp, c4.2.2.1⟩, by simp, c4.2.2.2⟩, hr]
                  rw [hd] at h ⊢
                  split at h
                  · rename_i hg
                    rw [if_pos hg]
                    refine ⟨hg.2, ?_⟩
                    unfold encodeRune
                    rw [encodeRuneZ_four (by show (65536 : Int) ≤ (r : Int); omega) (by show (r : Int) ≤ 1114111; omega)]
                    simp only [List.map_cons, List.map_nil, List.take_succ_cons, List.take_zero]
                    rw [u8_of (b := x0) (by omega), u8_of (b := x1) (by omega), u8_of (b := x2) (by omega), u8_of (b := x3) (by omega)]
                  · exact absurd rfl h
                · exfalso; apply h
                  unfold decodeN
                  rw [if_neg c1, if_neg (fun hh => c2 ⟨hh.1, hh.2.2⟩), if_neg (fun hh => c3 ⟨hh.1, hh.2.1.2, hh.2.2.2⟩), if_neg (fun hh => c4 ⟨hh.1, hh.2.1.2, hh.2.2.1.2, hh.2.2.2.2⟩)]
/-- what is encoded is decoded -/
theorem encode_decode (r : Nat) (h : validR r) (t : List UInt8) : decodeL (encodeRune (r : Int) ++ t) = (r, (encodeRune (r : Int)).length) := by
  unfold validR at h
  rw [decodeL_N]
  by_cases h1 : r ≤ 127
  · have e : encodeRune (r : Int) = [r.toUInt8] := by
      unfold encodeRune
      rw [encodeRuneZ_one (by omega) (by omega)]
      simp
    rw [e]
    unfold decodeN
    have hb : (([r.toUInt8] ++ t).getD 0 0).toNat = r := by simp [List.getD]; omega
    rw [hb, if_pos (by omega)]
    rfl
  · by_cases h2 : r ≤ 2047
    · have e : encodeRune (r : Int) = [(192 + r / 64).toUInt8, (128 + r % 64).toUInt8] := by
        unfold encodeRune
        rw [encodeRuneZ_two (by omega) (by omega)]
        simp only [List.map_cons, List.map_nil]
        rw [show (192 + (r : Int) / 64).toNat = 192 + r / 64 by omega, show (128 + (r : Int) % 64).toNat = 128 + r % 64 by omega]
      rw [e]
      have b0 : (([(192 + r / 64).toUInt8, (128 + r % 64).toUInt8] ++ t).getD 0 0).toNat = 192 + r / 64 := by simp [List.getD]; omega
      have b1 : (([(192 + r / 64).toUInt8, (128 + r % 64).toUInt8] ++ t).getD 1 0).toNat = 128 + r % 64 := by simp [List.getD]; omega
      have hl : ([(192 + r / 64).toUInt8, (128 + r % 64).toUInt8] ++ t).length = 2 + t.length := by simp; omega
      rw [b0, b1, hl]
      unfold decodeN
      rw [if_neg (by omega), if_pos (by omega), if_pos (by omega)]
      simp only [List.length_cons, List.length_nil, Prod.mk.injEq, and_true]
      omega
    · by_cases h3 : r ≤ 65535
      · have e : encodeRune (r : Int) = [(224 + r / 4096).toUInt8, (128 + r / 64 % 64).toUInt8, (128 + r % 64).toUInt8] := by
          unfold encodeRune
          rw [encodeRuneZ_three (by omega)]
          simp only [List.map_cons, List.map_nil]
          rw [show (224 + (r : Int) / 4096).toNat = 224 + r / 4096 by omega, show (128 + (r : Int) / 64 % 64).toNat = 128 + r / 64 % 64 by omega, show (128 + (r : Int) % 64).toNat = 128 + r % 64 by omega]
        rw [e]
        have b0 : (([(224 + r / 4096).toUInt8, (128 + r / 64 % 64).toUInt8, (128 + r % 64).toUInt8] ++ t).getD 0 0).toNat = 224 + r / 4096 := by simp [List.getD]; omega
        have b1 : (([(224 + r / 4096).toUInt8, (128 + r / 64 % 64).toUInt8, (128 + r % 64).toUInt8] ++ t).getD 1 0).toNat = 128 + r / 64 % 64 := by simp [List.getD]; omega
        have b2 : (([(224 + r / 4096).toUInt8, (128 + r / 64 % 64).toUInt8, (128 + r % 64).toUInt8] ++ t).getD 2 0).toNat = 128 + r % 64 := by simp [List.getD]; omega
        have hl : ([(224 + r / 4096).toUInt8, (128 + r / 64 % 64).toUInt8, (128 + r % 64).toUInt8] ++ t).length = 3 + t.length := by simp; omega
        rw [b0, b1, b2, hl]
        unfold decodeN
        rw [if_neg (by omega), if_neg (by omega), if_pos (by omega), if_pos (by omega)]
        simp only [List.length_cons, List.length_nil, Prod.mk.injEq, and_true]
        omega
      · have e : encodeRune (r : Int) = [(240 + r / 262144).toUInt8, (128 + r / 4096 % 64).toUInt8, (128 + r / 64 % 64).toUInt8, (128 + r % 64).toUInt8] := by
          unfold encodeRune
          rw [encodeRuneZ_four (by omega) (by omega)]
          simp only [List.map_cons, List.map_nil]
          rw [show (240 + (r : Int) / 262144).toNat = 240 + r / 262144 by omega, show (128 + (r : Int) / 4096 % 64).toNat = 128 + r / 4096 % 64 by omega, show (128 + (r : Int) / 64 % 64).toNat = 128 + r / 64 % 64 by omega, show (128 + (r : Int) % 64).toNat = 128 + r % 64 by omega]
        rw [e]
        have b0 : (([(240 + r / 262144).toUInt8, (128 + r / 4096 % 64).toUInt8, (128 + r / 64 % 64).toUInt8, (128 + r % 64).toUInt8] ++ t).getD 0 0).toNat = 240 + r / 262144 := by simp [List.getD]; omega
        have b1 : (([(240 + r / 262144).toUInt8, (128 + r / 4096 % 64).toUInt8, (128 + r / 64 % 64).toUInt8, (128 + r % 64).toUInt8] ++ t).getD 1 0).toNat = 128 + r / 4096 % 64 := by simp [List.getD]; omega
        have b2 : (([(240 + r / 262144).toUInt8, (128 + r / 4096 % 64).toUInt8, (128 + r / 64 % 64).toUInt8, (128 + r % 64).toUInt8] ++ t).getD 2 0).toNat = 128 + r / 64 % 64 := by simp [List.getD]; omega
        have b3 : (([(240 + r / 262144).toUInt8, (128 + r / 4096 % 64).toUInt8, (128 + r / 64 % 64).toUInt8, (128 + r % 64).toUInt8] ++ t).getD 3 0).toNat = 128 + r % 64 := by simp [List.getD]; omega
        have hl : ([(240 + r / 262144).toUInt8, (128 + r / 4096 % 64).toUInt8, (128 + r / 64 % 64).toUInt8, (128 + r % 64).toUInt8] ++ t).length = 4 + t.length := by simp; omega
        rw [b0, b1, b2, b3, hl]
        unfold decodeN
        rw [if_neg (by omega), if_neg (by omega), if_neg (by omega), if_pos (by omega), if_pos (by omega)]
        simp only [List.length_cons, List.length_nil, Prod.mk.injEq, and_true]
        omega
/-! ### every letter's lower form -/
def LetR (r : Nat) : Prop := validR r ∧ isL r = true
def encs (rs : List Nat) : List UInt8 := rs.flatMap fun (r : Nat) => encodeRune (r : Int)
theorem all_chain {α : Type} {p : α → Bool} {l : List α} {a k : Nat} (h1 : ((l.drop a).take k).all p = true) (h2 : (l.drop (a + k)).all p = true) : (l.drop a).all p = true := by
  rw [← List.take_append_drop k (l.drop a), List.all_append, h1, List.drop_drop, h2]; rfl
theorem rows_ok : caseT.all okRow = true := by
  have e : caseT.drop 336 = [] := by decide +kernel
  have h := all_chain ok0 (all_chain ok1 (all_chain ok2 (all_chain ok3 (all_chain ok4 (all_chain ok5 (all_chain ok6 (all_chain ok7 (all_chain ok8 (all_chain ok9 (all_chain ok10 (by rw [e]; rfl)))))))))))
  exact h
theorem ascii_ok : ((List.range 128).all fun r => okR r (lower2 r)) = true := by decide +kernel
theorem okR_good {r : Nat} {z : Int} (h : okR r z = true) (hl : isL2 r = true) : 0 ≤ z ∧ validR z.toNat ∧ isL2 z.toNat = true ∧ lower2 z.toNat = z := by
  unfold okR at h
  rw [hl] at h
  simp only [Bool.not_true, Bool.or_false, Bool.and_eq_true, decide_eq_true_eq, beq_iff_eq] at h
  exact ⟨h.1.1.1, h.1.1.2, h.1.2, h.2⟩
theorem low_good {r : Nat} (h : LetR r) : ∃ z : Nat, toLowerU (r : Int) = (z : Int) ∧ LetR z ∧ toLowerU (z : Int) = (z : Int) := by
  obtain ⟨hv, hl⟩ := h
  have hr : r ≤ 1114111 := by unfold validR at hv; omega
  have hl2 : isL2 r = true := by rw [← isL_eq r (by omega)]; exact hl
  have fin : ∀ z : Int, toLowerU (r : Int) = z → okR r z = true → ∃ z : Nat, toLowerU (r : Int) = (z : Int) ∧ LetR z ∧ toLowerU (z : Int) = (z : Int) := by
    intro z hz hok
    obtain ⟨h0, h1, h2, h3⟩ := okR_good hok hl2
    refine ⟨z.toNat, by rw [hz]; omega, ⟨h1, ?_⟩, ?_⟩
    · rw [isL_eq _ (by unfold validR at h1; omega)]; exact h2
    · rw [lower_eq, h3]; omega
  by_cases ha : r ≤ 127
  · have h := List.all_eq_true.1 ascii_ok r (List.mem_range.2 (by omega))
    exact fin _ (lower_eq r) h
  · cases hf : caseT.find? (fun x => inC x r) with
    | none =>
      have hlow : lower2 r = (r : Int) := by unfold lower2; rw [if_neg ha, hf]
      have e : toLowerU (r : Int) = (r : Int) := by rw [lower_eq, hlow]
      exact ⟨r, e, ⟨hv, hl⟩, e⟩
    | some x =>
      have hlow : lower2 r = convertR 1 (r : Int) x := by unfold lower2; rw [if_neg ha, hf]
      have hx := List.find?_some hf
      have hrow := List.all_eq_true.1 rows_ok x (List.mem_of_find?_eq_some hf)
      have hx' : x.1 ≤ r ∧ r ≤ x.2.1 := by simpa only [inC, Bool.and_eq_true, Nat.ble_eq] using hx
      unfold okRow at hrow
      have h := List.all_eq_true.1 hrow (r - x.1) (List.mem_range.2 (by omega))
      rw [show x.1 + (r - x.1) = r by omega] at h
      exact fin _ (by rw [lower_eq, hlow]) h
def lowN (r : Nat) : Nat := (toLowerU (r : Int)).toNat
theorem lowN_good {r : Nat} (h : LetR r) : toLowerU (r : Int) = ((lowN r : Nat) : Int) ∧ LetR (lowN r) ∧ lowN (lowN r) = lowN r := by
  obtain ⟨z, h1, h2, h3⟩ := low_good h
  have e : lowN r = z := by unfold lowN; rw [h1]; simp
  rw [e]
  exact ⟨h1, h2, by unfold lowN; rw [h3]; simp⟩
theorem encodeRune_ne (r : Int) : encodeRune r ≠ [] := fun e => by
  have := runeCells_le r
  rw [runeCells_length, e] at this
  simp at this
theorem encs_cons (r : Nat) (rs : List Nat) : encs (r :: rs) = encodeRune (r : Int) ++ encs rs := rfl
theorem lower_encs : ∀ rs : List Nat, (∀ r ∈ rs, LetR r) → lower (encs rs) = encs (rs.map lowN)
  | [], _ => rfl
  | r :: rs, h => by
    have hr := h r (.head _)
    have ih := lower_encs rs fun x hx => h x (.tail _ hx)
    have hd := encode_decode r hr.1 (encs rs)
    rw [encs_cons, lower_step (by simp [encodeRune_ne]), hd]
    simp only [List.drop_left, List.map_cons, encs_cons, ih]
    congr 1
    unfold lowC
    rw [(lowN_good hr).1]
/-- every word is made of letters -/
theorem words_encs : ∀ (n : Nat) (cs : List Nat) (l : List UInt8), l.length ≤ n → (∀ r ∈ cs, LetR r) → ∀ x ∈ wordsFrom (encs cs) l, ∃ rs : List Nat, x = encs rs ∧ ∀ r ∈ rs, LetR r
  | 0, cs, l, h, hc, x, hx => by
    rw [List.eq_nil_of_length_eq_zero (by omega : l.length = 0), wordsFrom_nil] at hx
    split at hx
    · cases hx
    · simp at hx
      exact ⟨cs, hx, hc⟩
  | n + 1, cs, l, h, hc, x, hx => by
    by_cases hne : l = []
    · rw [hne, wordsFrom_nil] at hx
      split at hx
      · cases hx
      · simp at hx
        exact ⟨cs, hx, hc⟩
    · have hw := decodeL_width l
      have hd : (l.drop (decodeL l).2).length ≤ n := by rw [List.length_drop]; omega
      rw [wordsFrom_step hne] at hx
      split at hx
      · rename_i hL
        have hb : (decodeL l).1 ≠ 65533 := fun e => by rw [e, isL_bad'] at hL; cases hL
        obtain ⟨hv, he⟩ := decode_encode l hne hb
        rw [he] at hx
        have e : encs cs ++ encodeRune ((decodeL l).1 : Int) = encs (cs ++ [(decodeL l).1]) := by simp [encs]
        rw [e] at hx
        refine words_encs n _ _ hd (fun r hr => ?_) x hx
        rcases List.mem_append.1 hr with hr | hr
        · exact hc r hr
        · simp at hr; rw [hr]; exact ⟨hv, hL⟩
      · rcases List.mem_append.1 hx with hx | hx
        · split at hx
          · cases hx
          · simp at hx
            exact ⟨cs, hx, hc⟩
        · exact words_encs n [] _ hd (fun r hr => by cases hr) x hx
/-- a word of letters, then a space -/
theorem wordsFrom_encs (t : List UInt8) : ∀ (zs : List Nat) (cur : List UInt8), (∀ r ∈ zs, LetR r) → wordsFrom cur (encs zs ++ 32 :: t) = (if cur ++ encs zs = [] then [] else [cur ++ encs zs]) ++ wordsFrom [] t
  | [], cur, _ => by
    have e : encs [] = [] := rfl
    rw [e, List.nil_append, List.append_nil, wordsFrom_step (by simp), decode_ascii' 32 t (by decide)]
    have : isL (UInt8.toNat 32, 1).1 = false := isL_space
    rw [if_neg (by rw [this]; simp)]
    rfl
  | z :: zs, cur, h => by
    have hz := h z (.head _)
    have ih := wordsFrom_encs t zs (cur ++ encodeRune (z : Int)) fun r hr => h r (.tail _ hr)
    have hd := encode_decode z hz.1 (encs zs ++ 32 :: t)
    rw [encs_cons, List.append_assoc, wordsFrom_step (by simp [encodeRune_ne]), hd]
    simp only [hz.2, if_true, List.take_left, List.drop_left]
    rw [ih, List.append_assoc]
theorem raw_join : ∀ L : List (List Nat), (∀ zs ∈ L, zs ≠ [] ∧ ∀ r ∈ zs, LetR r) → wordsFrom [] (L.flatMap fun zs => encs zs ++ [32]) = L.map encs
  | [], _ => rfl
  | zs :: L, h => by
    have hz := h zs (.head _)
    have ih := raw_join L fun x hx => h x (.tail _ hx)
    have hne : encs zs ≠ [] := by
      intro e
      match zs, hz.1 with
      | z :: zs, _ =>
        rw [encs_cons] at e
        exact encodeRune_ne _ (List.append_eq_nil_iff.1 e).1
    rw [List.flatMap_cons, List.append_assoc, List.singleton_append, wordsFrom_encs _ zs [] hz.2, ih, List.nil_append, if_neg hne]
    rfl
/-- **the words of the words are the same** -/
theorem words_stable (s : List UInt8) : words ((words s).flatMap fun w => w ++ [32]) = words s := by
  have h1 : ∀ x ∈ rawWords s, ∃ rs : List Nat, x = encs rs ∧ rs ≠ [] ∧ ∀ r ∈ rs, LetR r := fun x hx => by
    obtain ⟨rs, e, h⟩ := words_encs s.length [] s (Nat.le_refl _) (fun r hr => by cases hr) x hx
    refine ⟨rs, e, fun e' => ?_, h⟩
    have := (words_sum s.length [] s (Nat.le_refl _)).2 x hx
    subst e'
    exact this e
  obtain ⟨L, hL, hg⟩ : ∃ L : List (List Nat), rawWords s = L.map encs ∧ ∀ rs ∈ L, rs ≠ [] ∧ ∀ r ∈ rs, LetR r := by
    generalize rawWords s = R at h1
    induction R with
    | nil => exact ⟨[], rfl, fun _ h => by cases h⟩
    | cons x R ih =>
      obtain ⟨rs, e, h⟩ := h1 x (.head _)
      obtain ⟨L, e2, h2⟩ := ih fun y hy => h1 y (.tail _ hy)
      exact ⟨rs :: L, by rw [e, e2]; rfl, fun y hy => by
        rcases List.mem_cons.1 hy with rfl | hy
        · exact h
        · exact h2 y hy⟩
  have hw : words s = (L.map (List.map lowN)).map encs := by
    unfold words
    rw [hL, List.map_map, List.map_map]
    exact List.map_congr_left fun rs hrs => lower_encs rs (hg rs hrs).2
  have hg2 : ∀ zs ∈ L.map (List.map lowN), zs ≠ [] ∧ ∀ r ∈ zs, LetR r := by
    intro zs hzs
    obtain ⟨rs, hrs, rfl⟩ := List.mem_map.1 hzs
    refine ⟨by simpa using (hg rs hrs).1, fun r hr => ?_⟩
    obtain ⟨r0, hr0, rfl⟩ := List.mem_map.1 hr
    exact (lowN_good ((hg rs hrs).2 r0 hr0)).2.1
  have hj : (words s).flatMap (fun w => w ++ [32]) = (L.map (List.map lowN)).flatMap fun zs => encs zs ++ [32] := by
    rw [hw, List.flatMap_map]
  have hr := raw_join _ hg2
  conv => lhs; rw [hj]; unfold words rawWords
  unfold wordsFrom at hr
  rw [hr, hw, List.map_map, List.map_map, List.map_map]
  refine List.map_congr_left fun rs hrs => ?_
  have h2 := hg2 (rs.map lowN) (List.mem_map_of_mem hrs)
  show lower (encs (rs.map lowN)) = encs (rs.map lowN)
  rw [lower_encs _ h2.2, List.map_map]
  congr 1
  exact List.map_congr_left fun r hr => (lowN_good ((hg rs hrs).2 r hr)).2.2
end Sm
end Go.Proofs.YtfjpedgddgbelaaGreatDoor
/-
  index.Add: what it computes; plain.
-/
namespace Go.Proofs.YtfjpedgddgbelaaGreatDoor
open Go.RowKit
set_option linter.unusedVariables false
theorem rise_len : ∀ {l : List Int} {lo hi : Int}, l.Pairwise (· < ·) → (∀ n ∈ l, lo ≤ n ∧ n ≤ hi) → lo ≤ hi + 1 → (l.length : Int) ≤ hi - lo + 1
  | [], lo, hi, _, _, h => by simp; omega
  | n :: r, lo, hi, hp, hb, h => by
    rw [List.pairwise_cons] at hp
    have h1 := hb n List.mem_cons_self
    have := rise_len (l := r) (lo := n + 1) (hi := hi) hp.2 (fun m hm => ⟨by have := hp.1 m hm; omega, (hb m (.tail _ hm)).2⟩) (by omega)
    rw [List.length_cons]; omega
theorem posts_len {ps : List Ix.Post} (h : Al.Sorted Ix.ltI ps) (hr : ∀ p ∈ ps, 1 ≤ p.1 ∧ p.1 ≤ 1000000) : ps.length ≤ 1000000 := by
  have := rise_len (lo := 1) (hi := 1000000) ((Ix.pair_sorted ps).2 h) (fun n hn => by obtain ⟨p, hp, rfl⟩ := List.mem_map.1 hn; exact hr p hp) (by omega)
  rw [List.length_map] at this
  omega
theorem places_len {l : List Int} (h : l.Pairwise (· < ·)) (hr : ∀ n ∈ l, 0 ≤ n ∧ n ≤ 1000000) : l.length ≤ 1000001 := by
  have := rise_len (lo := 0) (hi := 1000000) h hr (by omega)
  omega
theorem Ix.Canon.small {x : Ix.Idx} (h : Ix.Canon x) : Small x.1 x.2 :=
  ⟨by have := h.few; omega, h.many, fun t ht => by
    obtain ⟨_, h2, h3⟩ := h.post t ht
    exact ⟨posts_len h2 fun p hp => h.idr _ (h3 p hp).1, fun p hp => places_len (h3 p hp).2.2.1 (h3 p hp).2.2.2⟩⟩
theorem Ix.Canon.sz {x : Ix.Idx} (h : Ix.Canon x) : SzIx x.2 := fun t ht => by have := (h.small.posts t ht).1; omega
theorem room_add {x : Ix.Idx} (h : Ix.Canon x) {id : Int} {s : List Str} (h1 : 1 ≤ id ∧ id ≤ 1000000) (hid : id ∉ x.1) (hsl : s.length ≤ 1000000) : Room (Ix.putAll id s 0 x.2) := by
  have hwf := h.wf
  have hw' := Ix.Wf.putAll id s 0 hwf
  have hc := Ix.cont_putAll id s 0 hwf
  have key : ∀ t ∈ Ix.putAll id s 0 x.2, ∀ p ∈ t.2, p.2.length ≤ 2000000 ∧ 1 ≤ p.1 ∧ p.1 ≤ 1000000 := by
    intro t ht p hp
    have e := Ix.cont_mem hw' ht hp
    have hne := (hw'.post t ht).2.2 p hp
    rw [hc] at e
    split at e
    · rename_i hi
      rw [Ix.strange h hid, List.nil_append] at e
      have ho := Ix.occ_range t.1 s 0
      rw [e] at ho
      have := places_len ho.1 fun n hn => by have := ho.2 n hn; omega
      exact ⟨by omega, by rw [hi]; exact h1⟩
    · rename_i hi
      rw [← e] at hne
      obtain ⟨t', ht', e1, p', hp', e2, e3⟩ := Ix.mem_cont hne
      have h2 := (h.post t' ht').2.2 p' hp'
      rw [e3, e, e2] at h2
      have := places_len h2.2.2.1 h2.2.2.2
      exact ⟨by omega, h.idr _ h2.1⟩
  have hl := Ix.putAll_len id x.2 s 0 [] hwf (fun w => by simp)
  have hf := Ix.fresh_le x.2 s []
  have hm := h.many
  refine ⟨by omega, fun t ht => ⟨?_, key t ht⟩⟩
  have := posts_len (hw'.post t ht).2.1 fun p hp => (key t ht p hp).2
  omega
theorem putAll_snoc (id : Int) (w : Str) : ∀ (s : List Str) (n : Nat) (ts : List Ix.Term), Ix.putAll id (s ++ [w]) n ts = Ix.putT id ((n + s.length : Nat) : Int) w (Ix.putAll id s n ts)
  | [], n, ts => rfl
  | a :: s, n, ts => by
    rw [List.cons_append, Ix.putAll, Ix.putAll, putAll_snoc id w s (n + 1), List.length_cons, show n + 1 + s.length = n + (s.length + 1) by omega]
theorem putAll_take (id : Int) (L : List Str) (ts : List Ix.Term) {k : Nat} (hk : k < L.length) : Ix.putAll id (L.take (k + 1)) 0 ts = Ix.putT id (k : Int) L[k] (Ix.putAll id (L.take k) 0 ts) := by
  rw [List.take_succ_eq_append_getElem hk, putAll_snoc, List.length_take, Nat.min_eq_left (by omega), Nat.zero_add]
theorem insId_countP {id : Int} : ∀ {ids : List Int}, ids.Pairwise (· < ·) → id ∉ ids → Ix.insId ids id = ids.take (ids.countP (· < id)) ++ id :: ids.drop (ids.countP (· < id))
  | [], _, _ => rfl
  | n :: r, hp, hn => by
    rw [List.pairwise_cons] at hp
    rw [List.mem_cons, not_or] at hn
    have ih := insId_countP hp.2 hn.2
    unfold Ix.insId at ih ⊢
    by_cases h : n < id
    · rw [List.countP_cons_of_pos (by simpa using h), List.take_succ_cons, List.drop_succ_cons, List.filter_cons_of_pos (by simpa using h), List.filter_cons_of_neg (by simp; omega), List.cons_append, List.cons_append, ih]
    · have h0 : ∀ m ∈ r, id < m := fun m hm => by have := hp.1 m hm; omega
      have hc : r.countP (· < id) = 0 := List.countP_eq_zero.2 fun m hm => by have := h0 m hm; simp; omega
      have hf : r.filter (fun m => decide (m < id)) = [] := List.filter_eq_nil_iff.2 fun m hm => by have := h0 m hm; simp; omega
      have hg : r.filter (fun m => decide (id < m)) = r := List.filter_eq_self.2 fun m hm => by have := h0 m hm; simpa using this
      rw [List.countP_cons_of_neg (by simpa using h), hc, List.filter_cons_of_neg (by simpa using h), hf, List.filter_cons_of_pos (by simp; omega), hg]
      rfl
theorem countP_le (ids : List Int) (id : Int) : ids.countP (· < id) ≤ ids.length := List.countP_le_length
/-! ### the words of a text -/
theorem lowN_ascii {r : Nat} (h : r < 128) : Sm.lowN r < 128 := by
  have h1 : (List.range 128).all (fun r => decide ((Sm.lower2 r).toNat < 128)) = true := by decide +kernel
  unfold Sm.lowN
  rw [Sm.lower_eq]
  exact of_decide_eq_true (List.all_eq_true.1 h1 r (List.mem_range.2 h))
theorem enc_small (r : Nat) : 1 ≤ (Go.Lib.encodeRune (r : Int)).length ∧ (Go.Lib.encodeRune (r : Int)).length ≤ 4 := by
  rw [← Go.Lib.runeCells_length]
  exact Go.Lib.runeCells_le _
theorem enc_low (r : Nat) : (Go.Lib.encodeRune (Sm.lowN r : Int)).length ≤ 2 * (Go.Lib.encodeRune (r : Int)).length := by
  by_cases h : r < 128
  · have h2 := lowN_ascii h
    have e : ∀ n : Nat, n < 128 → (Go.Lib.encodeRune (n : Int)).length = 1 := by
      intro n hn
      rw [show Go.Lib.encodeRune (n : Int) = (Go.Lib.encodeRuneZ (n : Int)).map fun x => x.toNat.toUInt8 from rfl, Go.Lib.encodeRuneZ_one (by omega) (by omega)]
      rfl
    rw [e r h, e _ h2]
    omega
  · have h1 := (enc_small (Sm.lowN r)).2
    have h2 : 2 ≤ (Go.Lib.encodeRune (r : Int)).length := by
      unfold Go.Lib.encodeRune
      rw [List.length_map]
      unfold Go.Lib.encodeRuneZ
      rw [if_neg (by omega)]
      split
      · simp
      · split
        · simp
        · split <;> simp
    omega
theorem encs_low : ∀ rs : List Nat, (Sm.encs (rs.map Sm.lowN)).length ≤ 2 * (Sm.encs rs).length
  | [] => Nat.le_refl _
  | r :: rs => by
    have := encs_low rs
    have := enc_low r
    rw [List.map_cons, Sm.encs_cons, Sm.encs_cons, List.length_append, List.length_append]
    omega
theorem rawWords_len {s x : Str} (hx : x ∈ Sm.rawWords s) : x.length ≤ s.length := by
  have h := (Sm.words_sum s.length [] s (Nat.le_refl _)).1
  have : ∀ (l : List Nat) (n : Nat), n ∈ l → n ≤ l.sum := by
    intro l
    induction l with
    | nil => intro n hn; cases hn
    | cons a l ih => intro n hn; rw [List.sum_cons]; rcases List.mem_cons.1 hn with e | e; · omega
                     · have := ih n e; omega
  have := this _ _ (List.mem_map_of_mem (f := List.length) hx)
  unfold Sm.rawWords at this
  unfold Sm.wordsFrom at h
  simp only [List.length_nil] at h
  omega
theorem word_len {s x : Str} (hx : x ∈ Sm.words s) : x ≠ [] ∧ x.length ≤ 2 * s.length := by
  unfold Sm.words at hx
  obtain ⟨y, hy, rfl⟩ := List.mem_map.1 hx
  have hl := rawWords_len hy
  have hne := (Sm.words_sum s.length [] s (Nat.le_refl _)).2 y hy
  obtain ⟨rs, rfl, hr⟩ := Sm.words_encs s.length [] s (Nat.le_refl _) (fun r h => by cases h) y hy
  rw [Sm.lower_encs rs hr]
  have := encs_low rs
  refine ⟨fun e => ?_, by omega⟩
  cases rs with
  | nil => exact hne rfl
  | cons r rs =>
    rw [List.map_cons, Sm.encs_cons] at e
    have := (List.append_eq_nil_iff.1 e).1
    have h2 := (enc_small (Sm.lowN r)).1
    rw [this] at h2
    simp at h2
theorem stems_word {s w : Str} (h : w ∈ Sm.stems s) : w ≠ [] ∧ w.length ≤ 2 * s.length := by
  unfold Sm.stems at h
  obtain ⟨y, hy, rfl⟩ := List.mem_map.1 h
  have := word_len hy
  have h2 := Sm.stem_len y
  exact ⟨Sm.stem_ne this.1, by omega⟩
theorem len_le_sum' : ∀ {l : List Nat}, (∀ x ∈ l, 0 < x) → l.length ≤ l.sum
  | [], _ => Nat.le_refl _
  | a :: l, h => by
    have := len_le_sum' fun x hx => h x (.tail _ hx)
    have := h a (.head _)
    rw [List.length_cons, List.sum_cons]; omega
theorem stems_count (s : Str) : (Sm.stems s).length ≤ s.length := by
  have h1 := Sm.words_sum s.length [] s (Nat.le_refl _)
  have h2 := len_le_sum' (l := (Sm.rawWords s).map List.length) (fun x hx => by
    obtain ⟨y, hy, rfl⟩ := List.mem_map.1 hx
    exact List.length_pos_iff.2 (h1.2 y hy))
  rw [List.length_map] at h2
  have h3 := h1.1
  simp only [List.length_nil, Nat.zero_add] at h3
  unfold Sm.stems Sm.words
  rw [List.length_map, List.length_map]
  unfold Sm.rawWords at h2 ⊢
  unfold Sm.wordsFrom at h3
  omega
/-! ### what Add computes -/
namespace Ix
def addR (x : Idx) (id : Int) (t : Str) : Idx × Int × Int :=
  if (indexF x).1 ≠ 0 then (([], []), indexF x)
  else if 4000 < t.length then (([], []), 1, -1)
  else if id < 1 then (([], []), 3, -3)
  else if 1000000 < id then (([], []), 3, -3)
  else if id ∈ x.1 then (([], []), 7, -3)
  else if x.1.length = 300 then (([], []), 2, -3)
  else if 1000000 < (putAll id (Sm.stems t) 0 x.2).length then (([], []), 2, -2)
  else (addF x id (Sm.stems t), 0, 0)
theorem addR_good {x : Idx} {id : Int} {t : Str} (h : (addR x id t).2.1 = 0) : addR x id t = (addF x id (Sm.stems t), 0, 0) ∧ Canon x ∧ (1 ≤ id ∧ id ≤ 1000000) ∧ id ∉ x.1 ∧ Canon (addF x id (Sm.stems t)) := by
  unfold addR at h ⊢
  split at h
  · rename_i h0; exact absurd h h0
  rename_i h0
  split at h
  · simp at h
  rename_i h1
  split at h
  · simp at h
  rename_i h2
  split at h
  · simp at h
  rename_i h3
  split at h
  · simp at h
  rename_i h4
  split at h
  · simp at h
  rename_i h5
  split at h
  · simp at h
  rename_i h6
  have hc := (indexF_zero x).1 (by simpa using h0)
  have hr : 1 ≤ id ∧ id ≤ 1000000 := by omega
  rw [if_neg h0, if_neg h1, if_neg h2, if_neg h3, if_neg h4, if_neg h5, if_neg h6]
  exact ⟨rfl, hc, hr, h4, canon_add hc hr h4 (by have := hc.few; omega) (fun w hw => by have := stems_word hw; exact ⟨this.1, by omega⟩) (by have := stems_count t; omega) (by omega)⟩
end Ix
end Go.Proofs.YtfjpedgddgbelaaGreatDoor
/-
  index.Add: the state in which places are added.
-/
namespace Go.Proofs.YtfjpedgddgbelaaGreatDoor
open Go.RowKit
set_option linter.unusedVariables false
/-- what lies in new blocks alone -/
def Old (n : Nat) : Nat → Prop := fun b => b < n
theorem PostsAt.readB {T : Tids} {o : Nat → Owner} {w : World} {B : Nat} {wd : Str} {v : Value} {ps : List RPost} (h : PostsAt T o w B wd v ps) : SlR postC (Old B) w v (ps.map pp) :=
  SlR.unraw (by simp) ((h.row.flatC (M' := Old B) flatC_rp fun _ _ => rfl).readB fun _ h => h) fun i h1 h2 => by
    have hi : i < ps.length := by simpa using h1
    simp only [List.getElem_map]
    exact ⟨rfl, ((h.pl _ (List.getElem_mem hi)).1.flatC (M' := Old B) flatC_int fun _ _ => rfl).readB fun _ h => h⟩
theorem SlR.weak {α : Type} {C : Codec α} {M : Nat → Prop} {w : World} {v : Value} {l : List α} (h : SlR C M w v l) : SlR C M0 w v l := h.sub fun _ _ h => h.elim
theorem SlR.older {α : Type} {C : Codec α} {w : World} {v : Value} {l : List α} {n m : Nat} (h : SlR C (Old n) w v l) (hm : m ≤ n) : SlR C (Old m) w v l := h.sub fun b _ hb => Nat.lt_of_lt_of_le (show b < m from hb) hm
theorem TreeAt.readB {T : Tids} {o : Nat → Owner} {w : World} {B : Nat} {v : Value} {X : List RTerm} (h : TreeAt T o w B v X) : SlR termC (Old B) w v (X.map pt) :=
  SlR.unraw (by simp) ((h.row.flatC (M' := Old B) flatC_rt fun _ _ => rfl).readB fun _ h => h) fun i h1 h2 => by
    have hi : i < X.length := by simpa using h1
    simp only [List.getElem_map]
    exact ⟨rfl, (h.posts _ (List.getElem_mem hi)).readB⟩
/-- the two results, an index under way, the words -/
structure AddSt (w0 : World) (o : Nat → Owner) (g3 g6 g7 : Nat) (a tv lv : Value) (ids : List Int) (X : List RTerm) (L : List Str) (W : World) : Prop where
  tree : TreeAt ixT o W w0.heap.size tv X
  k3 : Blk W g3 25 #[a, tv]
  k6 : Blk W g6 25 #[.slice none 0 0, .slice none 0 0]
  k7 : Blk W g7 27 #[.int .i64 0, .int .i64 0]
  ints : Own intC M0 W w0.heap.size 3 a ids
  intno : ∀ g, a.ownBlock = some g → o g = .no ∧ g ≠ g3 ∧ g ≠ g6 ∧ g ≠ g7
  list : Own strC M0 W w0.heap.size 9 lv L
  listno : ∀ g, lv.ownBlock = some g → o g = .no ∧ g ≠ g3
  n3 : o g3 = .no
  n6 : o g6 = .no ∧ g6 ≠ g3
  n7 : o g7 = .no ∧ g7 ≠ g3
  low : ∀ b, b < w0.heap.size → o b = .no
  base : w0.heap.size ≤ g3
  below : Below w0.heap.size w0 W
variable {w0 : World} {o : Nat → Owner} {g3 g6 g7 : Nat} {a tv lv : Value} {ids : List Int} {X : List RTerm} {L : List Str} {W : World}
theorem AddSt.step (h : AddSt w0 o g3 g6 g7 a tv lv ids X L W) {o' : Nat → Owner} {W' : World} {tv' : Value} {X' : List RTerm} (hT : TreeAt ixT o' W' w0.heap.size tv' X') (k3 : Blk W' g3 25 #[a, tv']) (ht : Turn o g3 W W') (ho : ∀ b, b < W.heap.size → o' b = o b) : AddSt w0 o' g3 g6 g7 a tv' lv ids X' L W' := by
  have hs := h.below.size
  refine ⟨hT, k3, h.k6.keep (ht.block g6 h.k6.lt h.n6.1 h.n6.2), h.k7.keep (ht.block g7 h.k7.lt h.n7.1 h.n7.2), h.ints.flatC flatC_int fun b hb => ?_, fun g hg => ?_, h.list.flatC flatC_str fun b hb => ?_, fun g hg => ?_, ?_, ?_, ?_, fun b hb => ?_, h.base, ?_⟩
  · exact ht.block b (h.ints.lt b hb) (h.intno b hb).1 (h.intno b hb).2.1
  · rw [ho g (h.ints.lt g hg)]; exact h.intno g hg
  · exact ht.block b (h.list.lt b hb) (h.listno b hb).1 (h.listno b hb).2
  · rw [ho g (h.list.lt g hg)]; exact h.listno g hg
  · rw [ho g3 h.k3.lt]; exact h.n3
  · rw [ho g6 h.k6.lt]; exact h.n6
  · rw [ho g7 h.k7.lt]; exact h.n7
  · rw [ho b (by omega)]; exact h.low b hb
  · exact ⟨ht.os.trans h.below.os, ht.tape.trans h.below.tape, ht.output.trans h.below.output, Nat.le_trans hs ht.size, fun b hb => (ht.block b (by omega) (h.low b hb) (by have := h.base; omega)).trans (h.below.block b hb)⟩
/-- behind the two stores of the copy -/
theorem AddSt.start {w5 w6 : World} {g6 g7 : Nat} {a0 b0 a tv : Value} (hal5 : Below w0.heap.size w0 w5) (hb6 : Below w5.heap.size w5 w6) (k3 : Blk w5 g3 25 #[a0, b0]) (k6 : Blk w5 g6 25 #[.slice none 0 0, .slice none 0 0]) (k7 : Blk w5 g7 27 #[.int .i64 0, .int .i64 0])
    (hl : Own strC M0 w5 w0.heap.size 9 lv L) (hln : ∀ g, lv.ownBlock = some g → g ≠ g3) (ha : Own intC M0 w6 w5.heap.size 3 a ids) (hano : ∀ g, a.ownBlock = some g → o g = .no) (hT : TreeAt ixT o w6 w5.heap.size tv X) (hlo : ∀ g, g < w5.heap.size → o g = .no) (h36 : g6 ≠ g3) (h37 : g7 ≠ g3) (hB : w0.heap.size ≤ g3)
    (hW : (w6.setCell ⟨g3, 0, none⟩ a).setCell ⟨g3, 1, none⟩ tv = W) : AddSt w0 o g3 g6 g7 a tv lv ids X L W := by
  have hs := hal5.size
  have two : ∀ b, b ≠ g3 → W.heap[b]? = w6.heap[b]? := fun b hb => by rw [← hW, heap_set_ne _ _ _ hb, heap_set_ne _ _ _ hb]
  have h3 := k3.lt
  refine ⟨(hT.lower hs).move (fun b _ _ hb => two b fun e => hb (by rw [e]; exact hlo g3 h3)) (fun _ _ => rfl) (fun b hb => hT.fresh b (by rw [← hW] at hb; simpa using hb)), hW ▸ (((k3.ext hb6).set_ 0 a).set_ 1 tv), (k6.ext hb6).keep (two g6 h36), (k7.ext hb6).keep (two g7 h37), (ha.lower hs).flatC flatC_int fun b hb => two b fun e => (by have := ha.base b hb; omega), fun g hg => ⟨hano g hg, fun e => (by have := ha.base g hg; omega), fun e => (by have := ha.base g hg; have := k6.lt; omega), fun e => (by have := ha.base g hg; have := k7.lt; omega)⟩, (hl.ext hb6).flatC flatC_str fun b hb => two b (hln b hb), fun g hg => ⟨hlo g (hl.lt g hg), hln g hg⟩, hlo g3 h3, ⟨hlo g6 k6.lt, h36⟩, ⟨hlo g7 k7.lt, h37⟩, fun b hb => hlo b (by omega), hB, ?_⟩
  rw [← hW]
  exact ((hal5.trans (hb6.mono hs)).setCell (p := ⟨g3, 0, none⟩) hB _).setCell (p := ⟨g3, 1, none⟩) hB _
/-- behind the new number -/
theorem AddSt.insert (h : AddSt w0 o g3 g6 g7 a tv lv ids X L W) {V w7 W8 : World} {a' : Value} {ids' : List Int} (hV : Below W.heap.size W V) (hgr : V.grownBy w7 a.ownBlock) (hown : Own intC M0 w7 w0.heap.size 3 a' ids') (hor : a'.ownBlock = a.ownBlock ∨ a'.ownBlock = some V.heap.size) (hap : ∀ g, a.ownBlock = some g → g6 ≠ g ∧ g7 ≠ g ∧ ∀ b, lv.ownBlock = some b → b ≠ g) (hW : w7.setCell ⟨g3, 0, none⟩ a' = W8) : AddSt w0 o g3 g6 g7 a' tv lv ids' X L W8 := by
  have hs := h.below.size
  have hsV := hV.size
  have same : ∀ b, b < W.heap.size → b ≠ g3 → (∀ g, a.ownBlock = some g → b ≠ g) → W8.heap[b]? = W.heap[b]? := fun b hb h3 hg => by
    rw [← hW, heap_set_ne _ _ _ h3]
    exact (hgr.block b (by omega) fun e => hg b e.symm rfl).trans (hV.block b hb)
  have hsz : W.heap.size ≤ W8.heap.size := by have := hgr.size; rw [← hW]; simp; omega
  have hn : ∀ b, a'.ownBlock = some b → o b = .no ∧ b ≠ g3 ∧ b ≠ g6 ∧ b ≠ g7 := fun b hb => by
    rcases hor with e | e
    · rw [e] at hb; exact h.intno b hb
    · rw [e] at hb; injection hb with hb; exact ⟨h.tree.fresh b (by omega), by have := h.k3.lt; omega, by have := h.k6.lt; omega, by have := h.k7.lt; omega⟩
  refine ⟨h.tree.move (fun b hb _ hno => same b hb (fun e => hno (by rw [e]; exact h.n3)) fun g hg e => hno (by rw [e]; exact (h.intno g hg).1)) (fun _ _ => rfl) (fun b hb => h.tree.fresh b (by omega)), ?_, h.k6.keep (same g6 h.k6.lt h.n6.2 fun g hg => (hap g hg).1), h.k7.keep (same g7 h.k7.lt h.n7.2 fun g hg => (hap g hg).2.1), hown.flatC flatC_int fun b hb => ?_, hn, h.list.flatC flatC_str fun b hb => same b (h.list.lt b hb) (h.listno b hb).2 fun g hg => (hap g hg).2.2 b hb, h.listno, h.n3, h.n6, h.n7, h.low, h.base, ?_⟩
  · rw [← hW]
    have k : Blk w7 g3 25 #[a, tv] := h.k3.keep ((hgr.block g3 (by have := h.k3.lt; omega) fun e => (h.intno g3 e.symm).2.1 rfl).trans (hV.block g3 h.k3.lt))
    exact k.set_ 0 a'
  · rw [← hW]; exact heap_set_ne _ _ _ (hn b hb).2.1
  · refine ⟨?_, ?_, ?_, Nat.le_trans hs hsz, fun b hb => (same b (by omega) (by have := h.base; omega) fun g hg e => ?_).trans (h.below.block b hb)⟩
    · rw [← hW]; exact (hgr.os.trans hV.os).trans h.below.os
    · rw [← hW]; exact (hgr.tape.trans hV.tape).trans h.below.tape
    · rw [← hW]; exact (hgr.output.trans hV.output).trans h.below.output
    · have := h.ints.base g hg; omega
/-- the word under way -/
theorem AddSt.word (h : AddSt w0 o g3 g6 g7 a tv lv ids X L W) {k : Nat} (hk : k < L.length) : ∃ g c, lv = .slice (some ⟨g, 0, none⟩) L.length c ∧ L.length ≤ c ∧ c ≤ maxLen ∧ W.cell? ⟨g, k, none⟩ = some (.string (bs L[k])) ∧ L[k].length ≤ maxLen := by
  obtain ⟨g, c, cs, hv, h1, h2, _, _, hrd, hc, _⟩ := h.list.cellsAt hk
  obtain ⟨rfl, hl⟩ := hrd
  have := hc 0 _ rfl
  exact ⟨g, c, hv, h1, h2, by simpa [strC] using this, hl⟩
/-- behind the return's stores -/
theorem AddSt.fin (h : AddSt w0 o g3 g6 g7 a tv lv ids X L W) {w8 W9 : World} (hb : Below W.heap.size W w8) (hk : ∀ b, b ≠ g6 → b ≠ g7 → W9.heap[b]? = w8.heap[b]?) (hs : W9.heap.size = w8.heap.size) : SlR intC (Old w0.heap.size) W9 a ids ∧ SlR termC (Old w0.heap.size) W9 tv (X.map pt) :=
  ⟨(((h.ints.ext hb).flatC (M' := Old w0.heap.size) flatC_int fun b hb => hk b (h.intno b hb).2.2.1 (h.intno b hb).2.2.2) : Own intC (Old w0.heap.size) W9 _ _ _ _).readB fun _ h => h,
    ((h.tree.ext hb).move (w' := W9) (o' := o) (fun b _ _ hn => hk b (fun e => hn (by rw [e]; exact h.n6.1)) fun e => hn (by rw [e]; exact h.n7.1)) (fun _ _ => rfl) fun b hb' => h.tree.fresh b (by have := hb.size; omega)).readB⟩
end Go.Proofs.YtfjpedgddgbelaaGreatDoor
/-
  index.Of: the postings of a term.
-/
namespace Go.Proofs.YtfjpedgddgbelaaGreatDoor
open Go.RowKit
set_option linter.unusedVariables false
theorem look_at {K V : Type} [DecidableEq K] {lt : K → K → Bool} (ht : Al.Tot lt) {l : List (K × V)} {k : Nat} (hs : Al.Sorted lt l) (hk : k < l.length) : Al.look l l[k].1 = some l[k].2 :=
  Al.look_of_mem ht hs (show (l[k].1, l[k].2) ∈ l from List.getElem_mem hk)
theorem look_of_search {ts : List Ix.Term} {raw : List (Str × Value)} {x : Str} {k : Nat} {hit : Bool} (hl : raw.length = ts.length) (hi : ∀ (i : Nat) (h1 : i < raw.length) (h2 : i < ts.length), raw[i].1 = ts[i].1) (hs : Al.Sorted ltS ts) (h : SearchAt ltS raw x k hit) :
    (hit = true → ∃ h : k < ts.length, Al.look ts x = some ts[k].2) ∧ (hit = false → Al.look ts x = none) := by
  obtain ⟨h1, h2, h3, h4⟩ := h
  constructor
  · intro e
    rw [e] at h4
    by_cases hk : k < raw.length
    · rw [List.getElem?_eq_getElem hk] at h4
      have hk' : k < ts.length := by omega
      have e2 : raw[k].1 = x := by simpa using h4.symm
      refine ⟨hk', ?_⟩
      rw [← e2, hi k hk hk']
      exact look_at tot_str hs hk'
    · rw [List.getElem?_eq_none (by omega)] at h4
      cases h4
  · intro e
    rw [e] at h4
    refine Al.look_none fun q hq e2 => ?_
    obtain ⟨m, hm, rfl⟩ := List.mem_iff_getElem.1 hq
    have hm' : m < raw.length := by omega
    rw [← hi m hm' hm] at e2
    rcases Nat.lt_trichotomy m k with e3 | e3 | e3
    · exact tot_str.ne (h2 m hm' e3) e2
    · subst e3
      rw [List.getElem?_eq_getElem hm'] at h4
      simp only at h4
      rw [decide_eq_true e2] at h4
      cases h4
    · have h5 := h3 k (by omega) (Nat.le_refl _)
      have hp := List.pairwise_iff_getElem.1 hs k m (by omega) hm e3
      rw [← hi k (by omega) (by omega), ← hi m hm' hm, e2, h5] at hp
      cases hp
set_option maxRecDepth 20000 in
set_option maxHeartbeats 4000000 in
theorem indexOf_ok (a b : Value) (ts : List Ix.Term) (x : Str) (w : World) (h1 : SlR termC M0 w b ts) (hs : Al.Sorted ltS ts) (hln : ts.length ≤ 1000000) (hsm : ∀ t ∈ ts, t.2.length ≤ 1000000 ∧ ∀ p ∈ t.2, p.2.length ≤ 1000001) :
    Calls Tryz.prog 65 #[.agg #[a, b], .string (bs x)] w fun e w' => ∃ v, e = .returned v ∧ SlR postC (Old w.heap.size) w' v ((Al.look ts x).getD []) ∧ Below w.heap.size w w' := by
  obtain ⟨A1, c1, rfl, hlc, hcm⟩ := h1.form
  obtain ⟨raw, hrl, hraw, hri⟩ := h1.raw
  have hal := (Below.refl w.heap.size w).alloc (Nat.le_refl _) (.cells #[a, .slice A1 ts.length c1] 25)
  obtain ⟨g0, hg0⟩ : ∃ g, w.heap.size = g := ⟨_, rfl⟩
  obtain ⟨W, hW⟩ : ∃ W, w.alloc (.cells #[a, .slice A1 ts.length c1] 25) = W := ⟨_, rfl⟩
  have kb := Blk.new w 25 #[a, .slice A1 ts.length c1]
  obtain ⟨q0, q1, _, _, _⟩ := kb.two
  rw [hW] at hal kb
  rw [hg0] at kb
  have hsr : Al.Sorted ltS raw := by
    unfold Al.Sorted
    refine List.pairwise_iff_getElem.2 fun i j hi hj hij => ?_
    rw [(hri i hi (by omega)).1, (hri j hj (by omega)).1]
    exact List.pairwise_iff_getElem.1 hs i j (by omega) (by omega) hij
  have hf := find_ok a (.slice A1 ts.length c1) raw x W (hraw.ext hal) hsr (by omega)
  have hlk := fun k hit (h : SearchAt ltS raw x k hit) => look_of_search hrl (fun i h1 h2 => (hri i h1 h2).1) hs h
  have h1W := h1.ext hal
  have HW := Lib.hid (And.intro hW hg0); have Hf := Lib.hid hf; have Hlk := Lib.hid hlk; have Hsm := Lib.hid hsm
  clear hf hlk hri hraw hsr hs hsm hW hg0
  go_enter Tryz.func65, Tryz.ntmps65
  go_wp2_with fail
  rw [HW.out.1, HW.out.2]
  refine Hf.out.mono ?_
  rintro e w1 ⟨k, hit, rfl, hsa, hb1⟩
  have hl := Hlk.out k hit hsa
  clear hsa q0 q1 Hlk
  cases hit with
  | false =>
    have Hl := Lib.hid (hl.2 rfl)
    clear hl
    go_wp2
    go_ret
    refine ⟨_, rfl, ?_, below2 hal hb1⟩
    rw [Hl.out]
    exact SlR.nil _ _ _
  | true =>
    obtain ⟨hk, hl2⟩ := hl.1 rfl
    have Hl := Lib.hid hl2
    clear hl hl2
    obtain ⟨b, off, A2, c2, hA, _, _, p0, p1, _, hq⟩ := (h1W.ext hb1).termAt hk
    subst hA
    obtain ⟨_, q1, _⟩ := (kb.ext hb1).two
    have hk0 : (0 : Int) ≤ (k : Int) := by omega
    have hk1 : (k : Int) < (ts.length : Int) := by omega
    have hkw : IntKind.i64.wrap (k : Int) = (k : Int) := IntWalk.i64_in _ (by unfold maxLen at hcm; omega)
    have hmem := List.getElem_mem hk
    have hcp := copied_ok (fun _ => .no) [] (.slice A2 ts[k].2.length c2) ts[k].2 w1 hq (by have := (Hsm.out _ hmem).1; omega) (Hsm.out _ hmem).2 (fun _ _ => rfl)
    have Hcp := Lib.hid hcp
    clear hcp hq hmem
    go_wp2_with fail
    refine Hcp.out.mono ?_
    rintro e w2 ⟨v', o', ps, rfl, hps, hpp, _, _, hb2⟩
    have hb := below2 hal (hb1.trans (hb2.mono hb1.size))
    have hr := hps.readB.older (Nat.le_trans hal.size hb1.size)
    clear hb1 hb2
    rw [hpp] at hr
    clear hps hpp
    obtain ⟨A3, c3, rfl, _, _⟩ := hr.form
    go_wp2
    go_ret
    refine ⟨_, rfl, ?_, hb⟩
    rw [Hl.out]
    exact hr
end Go.Proofs.YtfjpedgddgbelaaGreatDoor
