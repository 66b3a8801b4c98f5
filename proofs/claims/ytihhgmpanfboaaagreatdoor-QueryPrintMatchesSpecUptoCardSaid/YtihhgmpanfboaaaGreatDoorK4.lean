/-
  Contracts and plain facts, one after another: The tables of the library's, row by row: a binary search finds what a look at every row finds; Every letter's lower form is a letter and its own lower form: the rows of the case table, one after another; Every letter's lower form is a letter and its own lower form: the rows of the case table, one after another; Words of words, words of texts with a full stop between them: plain lists of bytes; Words made of letters: a word of a text is its only word; what a text must be like to be a word; plain.
-/
import Derived.Test.YtihhgmpanfboaaaGreatDoorK1
import Derived.Shelf.Unicode.CaseTo
import Derived.Lib.ValidLaws
namespace Go.Proofs.YtihhgmpanfboaaaGreatDoor
namespace Sm
open Go.Lib
set_option linter.unusedVariables false
/-- rows in order, apart from each other -/
def sortedL : List (Nat × Nat) → Bool
  | [] => true
  | [x] => decide (x.1 ≤ x.2)
  | x :: y :: t => decide (x.1 ≤ x.2) && decide (x.2 < y.1) && sortedL (y :: t)
theorem sorted_head : ∀ {x : Nat × Nat} {t : List (Nat × Nat)}, sortedL (x :: t) = true → x.1 ≤ x.2 ∧ sortedL t = true ∧ ∀ y ∈ t, x.2 < y.1
  | x, [], h => ⟨by simpa [sortedL] using h, rfl, fun y hy => by cases hy⟩
  | x, z :: t, h => by
    simp only [sortedL, Bool.and_eq_true, decide_eq_true_eq] at h
    obtain ⟨⟨h1, h2⟩, h3⟩ := h
    have ih := sorted_head h3
    refine ⟨h1, h3, fun y hy => ?_⟩
    rcases List.mem_cons.1 hy with rfl | hy
    · exact h2
    · have := ih.2.2 y hy
      omega
theorem sorted_at : ∀ {l : List (Nat × Nat)}, sortedL l = true → ∀ (i j : Nat) (hj : j < l.length) (hij : i < j), (l[i]'(by omega)).2 < l[j].1
  | x :: t, h, 0, j + 1, hj, _ => by
    have hj2 : j < t.length := by simpa using hj
    have := (sorted_head h).2.2 t[j] (List.getElem_mem hj2)
    simpa using this
  | x :: t, h, i + 1, j + 1, hj, hij => by
    have := sorted_at (sorted_head h).2.1 i j (by simpa using hj) (by omega)
    simpa using this
theorem sorted_self : ∀ {l : List (Nat × Nat)}, sortedL l = true → ∀ (i : Nat) (hi : i < l.length), l[i].1 ≤ l[i].2
  | x :: t, h, 0, _ => (sorted_head h).1
  | x :: t, h, i + 1, hi => by
    have := sorted_self (sorted_head h).2.1 i (by simpa using hi)
    simpa using this
/-- rows of a table of ranges -/
def rowsG (T : List Rg) : List (Nat × Nat) := T.map fun x => (x.1, x.2.1)
def inG (x : Rg) (r : Nat) : Bool := Nat.ble x.1 r && Nat.ble r x.2.1
def memG (T : List Rg) (r : Nat) : Bool := T.any fun x => inG x r && x.has r
theorem getD_at (T : Array Rg) (i : Nat) (h : i < T.size) : T.getD i (0, 0, 0) = T.toList[i]'(by simpa using h) := by simp [Array.getD, h]
theorem any_slice_none {T : List Rg} {r lo hi : Nat} (h : ∀ (i : Nat) (hi' : i < T.length), lo ≤ i → i < hi → (inG T[i] r && T[i].has r) = false) : memG ((T.take hi).drop lo) r = false := by
  unfold memG
  rw [List.any_eq_false]
  intro x hx
  obtain ⟨k, hk, rfl⟩ := List.mem_iff_getElem.1 hx
  rw [List.length_drop, List.length_take] at hk
  rw [List.getElem_drop, List.getElem_take]
  rw [h (lo + k) (by omega) (by omega) (by omega)]
  simp
theorem any_slice_some {T : List Rg} {r lo hi i : Nat} (hi' : i < T.length) (h1 : lo ≤ i) (h2 : i < hi) (hs : ∀ (j : Nat) (hj : j < T.length), j ≠ i → inG T[j] r = false) (hin : inG T[i] r = true) : memG ((T.take hi).drop lo) r = T[i].has r := by
  cases hh : T[i].has r with
  | true =>
    unfold memG
    rw [List.any_eq_true]
    refine ⟨T[i], ?_, by rw [hin, hh]; rfl⟩
    refine List.mem_iff_getElem.2 ⟨i - lo, by rw [List.length_drop, List.length_take]; omega, ?_⟩
    rw [List.getElem_drop, List.getElem_take]
    congr 1
    omega
  | false =>
    apply any_slice_none
    intro j hj _ _
    by_cases e : j = i
    · subst e; rw [hh]; simp
    · rw [hs j hj e]; rfl
theorem rows_at {T : List Rg} {i : Nat} (h : i < T.length) : (rowsG T)[i]'(by simpa [rowsG] using h) = (T[i].1, T[i].2.1) := by simp [rowsG]
theorem only {T : List Rg} (hs : sortedL (rowsG T) = true) {r i : Nat} (hi : i < T.length) (hin : inG T[i] r = true) (j : Nat) (hj : j < T.length) (hne : j ≠ i) : inG T[j] r = false := by
  have hl : (rowsG T).length = T.length := by simp [rowsG]
  simp only [inG, Bool.and_eq_true, Nat.ble_eq] at hin
  cases hc : inG T[j] r with
  | false => rfl
  | true =>
    simp only [inG, Bool.and_eq_true, Nat.ble_eq] at hc
    exfalso
    rcases Nat.lt_or_ge j i with h | h
    · have := sorted_at hs j i (by omega) h
      rw [rows_at hj, rows_at hi] at this
      simp only at this
      omega
    · have := sorted_at hs i j (by omega) (by omega)
      rw [rows_at hj, rows_at hi] at this
      simp only at this
      omega
/-- the binary search finds what a look at every row finds -/
theorem bin_eq (T : Array Rg) (hs : sortedL (rowsG T.toList) = true) (r : Nat) : ∀ (f lo hi : Nat), hi ≤ T.size → hi - lo < f → binGo T r f lo hi = memG ((T.toList.take hi).drop lo) r
  | 0, lo, hi, _, h => absurd h (by omega)
  | f + 1, lo, hi, hh, h => by
    unfold binGo
    by_cases hlt : lo < hi
    · rw [if_pos hlt]
      have hm : (lo + hi) / 2 < T.size := by omega
      have hml : (lo + hi) / 2 < T.toList.length := by simpa using hm
      have hl : (rowsG T.toList).length = T.toList.length := by simp [rowsG]
      have hself := sorted_self hs ((lo + hi) / 2) (by omega)
      rw [rows_at hml] at hself
      rw [getD_at T _ hm]
      obtain ⟨x, hx⟩ : ∃ x, T.toList[(lo + hi) / 2] = x := ⟨_, rfl⟩
      simp only [hx] at hself ⊢
      by_cases hin : x.1 ≤ r ∧ r ≤ x.2.1
      · rw [if_pos hin]
        have hin' : inG T.toList[(lo + hi) / 2] r = true := by rw [hx]; simp [inG, hin]
        rw [any_slice_some hml (by omega) (by omega) (fun j hj hne => only hs hml hin' j hj hne) hin', hx]
      · rw [if_neg hin]
        by_cases hr : r < x.1
        · rw [if_pos hr, bin_eq T hs r f lo _ (by omega) (by omega)]
          have key : ∀ (i : Nat) (hi' : i < T.toList.length), (lo + hi) / 2 ≤ i → inG T.toList[i] r = false := fun i hi' hge => by
            cases hc : inG T.toList[i] r with
            | false => rfl
            | true =>
              exfalso
              simp only [inG, Bool.and_eq_true, Nat.ble_eq] at hc
              rcases Nat.lt_or_ge ((lo + hi) / 2) i with h' | h'
              · have := sorted_at hs ((lo + hi) / 2) i (by omega) h'
                rw [rows_at hml, rows_at hi', hx] at this
                simp only at this
                omega
              · have e : i = (lo + hi) / 2 := by omega
                subst e
                rw [hx] at hc
                omega
          have : (T.toList.take hi).drop lo = (T.toList.take ((lo + hi) / 2)).drop lo ++ (T.toList.take hi).drop ((lo + hi) / 2) := by
            conv => lhs; rw [← List.take_append_drop ((lo + hi) / 2) (T.toList.take hi)]
            rw [List.take_take, Nat.min_eq_left (by omega), List.drop_append_of_le_length (by rw [List.length_take]; omega)]
          rw [this]
          unfold memG
          rw [List.any_append]
          have hz := any_slice_none (T := T.toList) (r := r) (lo := (lo + hi) / 2) (hi := hi) (fun i hi' h1 _ => by rw [key i hi' h1]; rfl)
          unfold memG at hz
          rw [hz, Bool.or_false]
        · rw [if_neg hr, bin_eq T hs r f _ hi (by omega) (by omega)]
          have key : ∀ (i : Nat) (hi' : i < T.toList.length), i < (lo + hi) / 2 + 1 → inG T.toList[i] r = false := fun i hi' hge => by
            cases hc : inG T.toList[i] r with
            | false => rfl
            | true =>
              exfalso
              simp only [inG, Bool.and_eq_true, Nat.ble_eq] at hc
              rcases Nat.lt_or_ge i ((lo + hi) / 2) with h' | h'
              · have := sorted_at hs i ((lo + hi) / 2) (by omega) h'
                rw [rows_at hml, rows_at hi', hx] at this
                simp only at this
                omega
              · have e : i = (lo + hi) / 2 := by omega
                subst e
                rw [hx] at hc
                omega
          have : (T.toList.take hi).drop lo = (T.toList.take ((lo + hi) / 2 + 1)).drop lo ++ (T.toList.take hi).drop ((lo + hi) / 2 + 1) := by
            conv => lhs; rw [← List.take_append_drop ((lo + hi) / 2 + 1) (T.toList.take hi)]
            rw [List.take_take, Nat.min_eq_left (by omega), List.drop_append_of_le_length (by rw [List.length_take]; omega)]
          rw [this]
          unfold memG
          rw [List.any_append]
          have hz := any_slice_none (T := T.toList) (r := r) (lo := lo) (hi := (lo + hi) / 2 + 1) (fun i hi' _ h2 => by rw [key i hi' h2]; rfl)
          unfold memG at hz
          rw [hz, Bool.false_or]
    · rw [if_neg hlt, List.drop_eq_nil_of_le (by rw [List.length_take]; omega)]
      rfl
theorem lin_eq (T : Array Rg) (hs : sortedL (rowsG T.toList) = true) (r : Nat) : ∀ (f i : Nat), T.size - i < f → linGo T r f i = memG (T.toList.drop i) r
  | 0, i, h => absurd h (by omega)
  | f + 1, i, h => by
    unfold linGo
    by_cases hlt : i < T.size
    · have hml : i < T.toList.length := by simpa using hlt
      have hl : (rowsG T.toList).length = T.toList.length := by simp [rowsG]
      rw [if_pos hlt, getD_at T _ hlt, List.drop_eq_getElem_cons hml]
      obtain ⟨x, hx⟩ : ∃ x, T.toList[i] = x := ⟨_, rfl⟩
      simp only [hx]
      have rest : ∀ z, (z < x.1 ∨ z ≤ x.2.1) → memG (T.toList.drop (i + 1)) z = false := fun z hz => by
        unfold memG
        rw [List.any_eq_false]
        intro y hy
        obtain ⟨k, hk, rfl⟩ := List.mem_iff_getElem.1 hy
        rw [List.length_drop] at hk
        rw [List.getElem_drop]
        have h1 := sorted_at hs i (i + 1 + k) (by omega) (by omega)
        rw [rows_at hml, rows_at (by omega), hx] at h1
        have h2 := sorted_self hs i (by omega)
        rw [rows_at hml, hx] at h2
        simp only at h1 h2
        have : inG T.toList[i + 1 + k] z = false := by
          cases hc : inG T.toList[i + 1 + k] z with
          | false => rfl
          | true =>
            simp only [inG, Bool.and_eq_true, Nat.ble_eq] at hc
            omega
        rw [this]
        simp
      by_cases h1 : r < x.1
      · rw [if_pos h1]
        have := rest r (.inl h1)
        unfold memG at this ⊢
        rw [List.any_cons, this]
        have : inG x r = false := by
            rw [Bool.eq_false_iff]
            intro hc
            simp only [inG, Bool.and_eq_true, Nat.ble_eq] at hc
            omega
        rw [this]; rfl
      · rw [if_neg h1]
        by_cases h2 : r ≤ x.2.1
        · rw [if_pos h2]
          have := rest r (.inr h2)
          unfold memG at this ⊢
          rw [List.any_cons, this]
          have : inG x r = true := by simp only [inG, Bool.and_eq_true, Nat.ble_eq]; omega
          rw [this]; simp
        · rw [if_neg h2, lin_eq T hs r f (i + 1) (by omega)]
          unfold memG
          rw [List.any_cons]
          have : inG x r = false := by
            rw [Bool.eq_false_iff]
            intro hc
            simp only [inG, Bool.and_eq_true, Nat.ble_eq] at hc
            omega
          rw [this]; rfl
    · rw [if_neg hlt, List.drop_eq_nil_of_le (by simpa using Nat.le_of_not_lt hlt)]
      rfl
theorem is16_eq (T : Array Rg) (hs : sortedL (rowsG T.toList) = true) (r : Nat) : is16Go T r = memG T.toList r := by
  unfold is16Go
  split
  · rw [lin_eq T hs r _ _ (by omega), List.drop_zero]
  · rw [bin_eq T hs r _ _ _ (Nat.le_refl _) (by omega), List.drop_zero, List.take_of_length_le (by simp)]
theorem is32_eq (T : Array Rg) (hs : sortedL (rowsG T.toList) = true) (r : Nat) : is32Go T r = memG T.toList r := by
  unfold is32Go
  split
  · rw [lin_eq T hs r _ _ (by omega), List.drop_zero]
  · rw [bin_eq T hs r _ _ _ (Nat.le_refl _) (by omega), List.drop_zero, List.take_of_length_le (by simp)]
/-- a rune against a table, row by row -/
def memT (T : RTab) (z : Nat) : Bool :=
  if T.off < T.r16.size ∧ z ≤ (T.r16.getD (T.r16.size - 1) (0, 0, 0)).2.1 then memG (T.r16.toList.drop T.off) z
  else if 0 < T.r32.size ∧ (T.r32.getD 0 (0, 0, 0)).1 ≤ z then memG T.r32.toList z
  else false
theorem excl_eq (T : RTab) (h16 : sortedL (rowsG (T.r16.toList.drop T.off)) = true) (h32 : sortedL (rowsG T.r32.toList) = true) (hl : (T.r16.getD (T.r16.size - 1) (0, 0, 0)).2.1 < 65536) (z : Nat) (hz : z < 2147483648) :
    exclGo T (z : Int) = memT T z := by
  have hu : u32Of (z : Int) = z := by unfold u32Of; omega
  unfold exclGo memT
  rw [hu]
  have e : (T.r16.extract T.off T.r16.size).toList = T.r16.toList.drop T.off := by simp [List.take_of_length_le]
  have c : (((T.r32.getD 0 (0, 0, 0)).1 : Int) ≤ (z : Int)) ↔ (T.r32.getD 0 (0, 0, 0)).1 ≤ z := by omega
  split
  · rename_i h
    rw [is16_eq _ (by rw [e]; exact h16), e, Nat.mod_eq_of_lt (by omega)]
  · simp only [c]
    split
    · rw [is32_eq _ h32]
    · rfl
def inC (x : CaseRow) (r : Nat) : Bool := Nat.ble x.1 r && Nat.ble r x.2.1
theorem inC_mk {x : CaseRow} {r : Nat} (h1 : x.1 ≤ r) (h2 : r ≤ x.2.1) : inC x r = true := by simp [inC, h1, h2]
def rowsC (T : List CaseRow) : List (Nat × Nat) := T.map fun x => (x.1, x.2.1)
theorem rowsC_at {T : List CaseRow} {i : Nat} (h : i < T.length) : (rowsC T)[i]'(by simpa [rowsC] using h) = (T[i].1, T[i].2.1) := by simp [rowsC]
theorem getC_at (T : Array CaseRow) (i : Nat) (h : i < T.size) : T.getD i (0, 0, 0, 0, 0) = T.toList[i]'(by simpa using h) := by simp [Array.getD, h]
theorem onlyC {T : List CaseRow} (hs : sortedL (rowsC T) = true) {r i : Nat} (hi : i < T.length) (hin : inC T[i] r = true) (j : Nat) (hj : j < T.length) (hc : inC T[j] r = true) : j = i := by
  have hl : (rowsC T).length = T.length := by simp [rowsC]
  simp only [inC, Bool.and_eq_true, Nat.ble_eq] at hin hc
  rcases Nat.lt_or_ge j i with h | h
  · have := sorted_at hs j i (by omega) h
    rw [rowsC_at hj, rowsC_at hi] at this
    simp only at this
    omega
  · rcases Nat.eq_or_lt_of_le h with h' | h'
    · exact h'.symm
    · have := sorted_at hs i j (by omega) h'
      rw [rowsC_at hj, rowsC_at hi] at this
      simp only at this
      omega
/-- the search for a row of the case table -/
theorem look_eq (T : Array CaseRow) (hs : sortedL (rowsC T.toList) = true) (r : Nat) : ∀ (f lo hi : Nat), hi ≤ T.size → hi - lo < f →
    (∀ (i : Nat) (h : i < T.toList.length), lo ≤ i → i < hi → inC T.toList[i] r = true → lookupIdx T (r : Int) f lo hi = some i)
  | 0, lo, hi, _, h => absurd h (by omega)
  | f + 1, lo, hi, hh, h => by
    intro i hil h1 h2 hin
    unfold lookupIdx
    rw [if_pos (by omega)]
    have hm : (lo + hi) / 2 < T.size := by omega
    have hml : (lo + hi) / 2 < T.toList.length := by simpa using hm
    have hl : (rowsC T.toList).length = T.toList.length := by simp [rowsC]
    rw [getC_at T _ hm]
    by_cases hc : inC T.toList[(lo + hi) / 2] r = true
    · have e := onlyC hs hil hin _ hml hc
      rw [if_pos (by simp only [inC, Bool.and_eq_true, Nat.ble_eq] at hc; omega), e]
    · have hne : i ≠ (lo + hi) / 2 := fun e => hc (by subst e; exact hin)
      have hc' : ¬ ((T.toList[(lo + hi) / 2].1 ≤ r) ∧ (r ≤ T.toList[(lo + hi) / 2].2.1)) := fun hh => hc (inC_mk hh.1 hh.2)
      rw [if_neg (by omega)]
      simp only [inC, Bool.and_eq_true, Nat.ble_eq] at hin
      have hsm := sorted_self hs ((lo + hi) / 2) (by omega)
      rw [rowsC_at hml] at hsm
      simp only at hsm
      rcases Nat.lt_or_ge i ((lo + hi) / 2) with hlt | hge
      · have := sorted_at hs i ((lo + hi) / 2) (by omega) hlt
        rw [rowsC_at hil, rowsC_at hml] at this
        simp only at this
        rw [if_pos (by omega)]
        exact look_eq T hs r f lo _ (by omega) (by omega) i hil h1 hlt (inC_mk hin.1 hin.2)
      · have hgt : (lo + hi) / 2 < i := by omega
        have := sorted_at hs ((lo + hi) / 2) i (by omega) hgt
        rw [rowsC_at hil, rowsC_at hml] at this
        simp only at this
        rw [if_neg (by omega)]
        exact look_eq T hs r f _ hi (by omega) (by omega) i hil (by omega) h2 (inC_mk hin.1 hin.2)
def isL2 (r : Nat) : Bool := (if r ≤ 255 then isLetterL (r : Int) else memT letterT r) || (if r ≤ 255 then isDigitL (r : Int) else memT digitT r) || memT markT r
def lower2 (r : Nat) : Int := if r ≤ 127 then (if 65 ≤ r ∧ r ≤ 90 then (r : Int) + 32 else (r : Int)) else match caseT.find? (fun x => inC x r) with
  | some x => convertR 1 (r : Int) x
  | none => (r : Int)
theorem sorted_letter16 : sortedL (rowsG (letterT.r16.toList.drop letterT.off)) = true := by decide +kernel
theorem sorted_letter32 : sortedL (rowsG letterT.r32.toList) = true := by decide +kernel
theorem sorted_digit16 : sortedL (rowsG (digitT.r16.toList.drop digitT.off)) = true := by decide +kernel
theorem sorted_digit32 : sortedL (rowsG digitT.r32.toList) = true := by decide +kernel
theorem sorted_mark16 : sortedL (rowsG (markT.r16.toList.drop markT.off)) = true := by decide +kernel
theorem sorted_mark32 : sortedL (rowsG markT.r32.toList) = true := by decide +kernel
theorem sorted_case : sortedL (rowsC caseA.toList) = true := by decide +kernel
theorem isL_eq (r : Nat) (hr : r < 2147483648) : isL r = isL2 r := by
  have h1 : isLetterU (r : Int) = if r ≤ 255 then isLetterL (r : Int) else memT letterT r := by
    unfold isLetterU latin1
    by_cases h : r ≤ 255
    · rw [if_pos h, if_pos (by simp; omega)]
    · rw [if_neg h, if_neg (by simp; omega), excl_eq letterT sorted_letter16 sorted_letter32 (by decide +kernel) r hr]
  have h2 : isDigitU (r : Int) = if r ≤ 255 then isDigitL (r : Int) else memT digitT r := by
    unfold isDigitU
    by_cases h : r ≤ 255
    · rw [if_pos h, if_pos (by omega)]
    · rw [if_neg h, if_neg (by omega), excl_eq digitT sorted_digit16 sorted_digit32 (by decide +kernel) r hr]
  have h3 : isMarkU (r : Int) = memT markT r := excl_eq markT sorted_mark16 sorted_mark32 (by decide +kernel) r hr
  unfold isL isL2
  rw [h1, h2, h3]
theorem lower_eq (r : Nat) : toLowerU (r : Int) = lower2 r := by
  unfold toLowerU lower2
  by_cases h : r ≤ 127
  · rw [if_pos h, if_pos (by omega)]
    by_cases h2 : 65 ≤ r ∧ r ≤ 90
    · rw [if_pos h2, if_pos (by omega)]
    · rw [if_neg h2, if_neg (by omega)]
  · rw [if_neg h, if_neg (by omega)]
    unfold toR lookupGo
    cases hf : caseT.find? (fun x => inC x r) with
    | some x =>
      have hx := List.find?_some hf
      obtain ⟨i, hi, he⟩ := List.mem_iff_getElem.1 (List.mem_of_find?_eq_some hf)
      have hi' : i < caseA.toList.length := by simpa [caseA] using hi
      have hei : caseA.toList[i] = x := by rw [← he]; simp [caseA]
      have hl := look_eq caseA sorted_case r (caseA.size + 1) 0 caseA.size (Nat.le_refl _) (by omega) i hi' (Nat.zero_le _) (by simpa using hi') (by rw [hei]; exact hx)
      rw [hl]
      simp only [Option.map_some]
      rw [getC_at caseA i (by simpa using hi'), hei]
    | none =>
      cases hl : lookupIdx caseA (r : Int) (caseA.size + 1) 0 caseA.size with
      | none => rfl
      | some i =>
        exfalso
        obtain ⟨h1, h2, h3⟩ := lookupIdx_some caseA _ _ _ _ _ hl
        rw [getC_at caseA i h1] at h2 h3
        have hm : caseA.toList[i]'(by simpa using h1) ∈ caseT := by
          have := List.getElem_mem (l := caseA.toList) (n := i) (by simpa using h1)
          exact (show caseA.toList = caseT by simp [caseA]) ▸ this
        have := List.find?_eq_none.1 hf _ hm
        exact this (inC_mk (by omega) (by omega))
def okR (r : Nat) (z : Int) : Bool := (decide (0 ≤ z) && decide (z.toNat < 55296 ∨ (57344 ≤ z.toNat ∧ z.toNat ≤ 1114111)) && isL2 z.toNat && lower2 z.toNat == z) || !isL2 r
def okRow (x : CaseRow) : Bool := (List.range (x.2.1 + 1 - x.1)).all fun k => okR (x.1 + k) (convertR 1 ((x.1 + k : Nat) : Int) x)

end Sm
end Go.Proofs.YtihhgmpanfboaaaGreatDoor
namespace Go.Proofs.YtihhgmpanfboaaaGreatDoor
namespace Sm
open Go.Lib
set_option maxRecDepth 1000000
theorem ok0 : ((caseT.drop 0).take 23).all okRow = true := by decide +kernel
theorem ok1 : ((caseT.drop 23).take 107).all okRow = true := by decide +kernel
theorem ok2 : ((caseT.drop 130).take 31).all okRow = true := by decide +kernel
theorem ok3 : ((caseT.drop 161).take 10).all okRow = true := by decide +kernel
theorem ok4 : ((caseT.drop 171).take 19).all okRow = true := by decide +kernel
end Sm
end Go.Proofs.YtihhgmpanfboaaaGreatDoor
namespace Go.Proofs.YtihhgmpanfboaaaGreatDoor
namespace Sm
open Go.Lib
set_option maxRecDepth 1000000
theorem ok5 : ((caseT.drop 190).take 35).all okRow = true := by decide +kernel
theorem ok6 : ((caseT.drop 225).take 48).all okRow = true := by decide +kernel
theorem ok7 : ((caseT.drop 273).take 27).all okRow = true := by decide +kernel
theorem ok8 : ((caseT.drop 300).take 15).all okRow = true := by decide +kernel
theorem ok9 : ((caseT.drop 315).take 13).all okRow = true := by decide +kernel
theorem ok10 : ((caseT.drop 328).take 8).all okRow = true := by decide +kernel
end Sm
end Go.Proofs.YtihhgmpanfboaaaGreatDoor
namespace Go.Proofs.YtihhgmpanfboaaaGreatDoor
namespace Sm
open Go.Lib
theorem isL_dot : isL 46 = false := by decide +kernel
theorem isL_space : isL 32 = false := by decide +kernel
theorem isL_bad' : isL 65533 = false := by decide +kernel
/-- an ASCII byte in front -/
theorem decode_ascii' (c : UInt8) (t : List UInt8) (h : c.toNat < 128) : decodeL (c :: t) = (c.toNat, 1) := by
  rw [decodeL_N]
  unfold decodeN
  rw [if_pos (by simpa using h)]
  rfl
/-- an ASCII byte behind does not change what is decoded in front of it -/
theorem decode_before (l : List UInt8) (c : UInt8) (t : List UInt8) (hne : l ≠ []) (hc : c.toNat < 128) : decodeL (l ++ c :: t) = decodeL l := by
  have hlen := List.length_pos_iff.2 hne
  have hc2 : c.toNat / 64 ≠ 2 := by omega
  have g : ∀ k, k < l.length → (l ++ c :: t).getD k 0 = l.getD k 0 := fun k hk => by simp [List.getD, List.getElem?_append_left hk]
  have gl : (l ++ c :: t).getD l.length 0 = c := by simp [List.getD]
  have hbig : l.length < (l ++ c :: t).length := by simp
  rw [decodeL_N, decodeL_N, g 0 hlen]
  generalize hn : (l ++ c :: t).length = n at hbig ⊢
  generalize hm : l.length = m at hlen hbig gl g ⊢
  unfold decodeN
  by_cases h1 : 1 < m
  · rw [g 1 h1]
    by_cases h2 : 2 < m
    · rw [g 2 h2]
      by_cases h3 : 3 < m
      · rw [g 3 h3]
        simp only [h1, h2, h3, show 1 < n by omega, show 2 < n by omega, show 3 < n by omega]
      · have e3 : 3 = m := by omega
        have g3 : (l ++ c :: t).getD 3 0 = c := by rw [e3]; exact gl
        rw [g3]
        simp only [h1, h2, h3, show 1 < n by omega, show 2 < n by omega, hc2, and_false, false_and, if_false]
    · have e2 : 2 = m := by omega
      have g2 : (l ++ c :: t).getD 2 0 = c := by rw [e2]; exact gl
      rw [g2]
      simp only [h1, h2, show ¬ 3 < m by omega, show 1 < n by omega, hc2, and_false, false_and, if_false]
  · have e1 : 1 = m := by omega
    have g1 : (l ++ c :: t).getD 1 0 = c := by rw [e1]; exact gl
    rw [g1]
    simp only [h1, hc2, and_false, false_and, if_false]
theorem drop_before (l : List UInt8) (c : UInt8) (t : List UInt8) {n : Nat} (h : n ≤ l.length) : (l ++ c :: t).drop n = l.drop n ++ c :: t := List.drop_append_of_le_length h
theorem take_before (l : List UInt8) (c : UInt8) (t : List UInt8) {n : Nat} (h : n ≤ l.length) : (l ++ c :: t).take n = l.take n := List.take_append_of_le_length h
/-- **a character between, that is no letter, parts the words** -/
theorem wordsFrom_sep (c : UInt8) (hc : c.toNat < 128) (hL : isL c.toNat = false) (t : List UInt8) : ∀ (n : Nat) (cur l : List UInt8), l.length ≤ n → wordsFrom cur (l ++ c :: t) = wordsFrom cur l ++ wordsFrom [] t
  | 0, cur, l, h => by
    rw [List.eq_nil_of_length_eq_zero (by omega : l.length = 0), List.nil_append, wordsFrom_step (by simp), decode_ascii' c t hc, wordsFrom_nil]
    simp [hL]
  | n + 1, cur, l, h => by
    by_cases hne : l = []
    · rw [hne, List.nil_append, wordsFrom_step (by simp), decode_ascii' c t hc, wordsFrom_nil]
      simp [hL]
    · have hw := decodeL_width l
      have hwl := width_le hne
      rw [wordsFrom_step (l := l ++ c :: t) (by simp), decode_before l c t hne hc, wordsFrom_step (l := l) hne, drop_before l c t hwl, take_before l c t hwl]
      have hd : (l.drop (decodeL l).2).length ≤ n := by rw [List.length_drop]; omega
      split
      · exact wordsFrom_sep c hc hL t n _ _ hd
      · rw [wordsFrom_sep c hc hL t n _ _ hd, List.append_assoc]
theorem words_join (a b : List UInt8) : words (a ++ 46 :: b) = words a ++ words b := by
  have h := wordsFrom_sep 46 (by decide) isL_dot b a.length [] a (Nat.le_refl _)
  unfold words rawWords
  unfold wordsFrom at h
  rw [h, List.map_append]

/-! ### runes -/
def validR (r : Nat) : Prop := r < 55296 ∨ (57344 ≤ r ∧ r ≤ 1114111)
/-- what was decoded, if not broken, stands there encoded -/
theorem u8_of {b : UInt8} {x : Int} (h : x = (b.toNat : Int)) : x.toNat.toUInt8 = b := by subst h; simp
theorem decode_encode (l : List UInt8) (hne : l ≠ []) (h : (decodeL l).1 ≠ 65533) : validR (decodeL l).1 ∧ l.take (decodeL l).2 = encodeRune ((decodeL l).1 : Int) := by
  rw [decodeL_N] at h ⊢
  match l, hne with
  | x0 :: l1, _ =>
    have h0 := x0.toNat_lt
    have e0 : (x0 :: l1).getD 0 0 = x0 := rfl
    rw [e0] at h ⊢
    by_cases c1 : x0.toNat < 128
    · have hd : ∀ n b1 b2 b3, decodeN n x0.toNat b1 b2 b3 = (x0.toNat, 1) := fun n b1 b2 b3 => by unfold decodeN; rw [if_pos c1]
      rw [hd]
      refine ⟨.inl (by show x0.toNat < 55296; omega), ?_⟩
      unfold encodeRune
      rw [encodeRuneZ_one (by simp) (by show (x0.toNat : Int) ≤ 127; omega)]
      simp
    · match l1 with
      | [] =>
        exfalso; apply h
        unfold decodeN
        simp [c1]
      | x1 :: l2 =>
        have h1 := x1.toNat_lt
        have e1 : (x0 :: x1 :: l2).getD 1 0 = x1 := rfl
        rw [e1] at h ⊢
        by_cases c2 : x0.toNat / 32 = 6 ∧ x1.toNat / 64 = 2
        · have hd : ∀ b2 b3, decodeN (x0 :: x1 :: l2).length x0.toNat x1.toNat b2 b3 = if x0.toNat % 32 * 64 + x1.toNat % 64 ≥ 128 then (x0.toNat % 32 * 64 + x1.toNat % 64, 2) else (65533, 1) := fun b2 b3 => by
            unfold decodeN
            rw [if_neg c1, if_pos ⟨c2.1, by simp, c2.2⟩]
          rw [hd] at h ⊢
          split at h
          · rename_i hg
            rw [if_pos hg]
            refine ⟨.inl (by show x0.toNat % 32 * 64 + x1.toNat % 64 < 55296; omega), ?_⟩
            unfold encodeRune
            rw [encodeRuneZ_two (by show (128 : Int) ≤ ((x0.toNat % 32 * 64 + x1.toNat % 64 : Nat) : Int); omega) (by show ((x0.toNat % 32 * 64 + x1.toNat % 64 : Nat) : Int) ≤ 2047; omega)]
            simp only [List.map_cons, List.map_nil, List.take_succ_cons, List.take_zero]
            rw [u8_of (b := x0) (by omega), u8_of (b := x1) (by omega)]
          · exact absurd rfl h
        · match l2 with
          | [] =>
            exfalso; apply h
            unfold decodeN
            rw [if_neg c1, if_neg (fun hh => c2 ⟨hh.1, hh.2.2⟩), if_neg (by simp), if_neg (by simp)]
          | x2 :: l3 =>
            have h2 := x2.toNat_lt
            have e2 : (x0 :: x1 :: x2 :: l3).getD 2 0 = x2 := rfl
            rw [e2] at h ⊢
            by_cases c3 : x0.toNat / 16 = 14 ∧ x1.toNat / 64 = 2 ∧ x2.toNat / 64 = 2
            · obtain ⟨r, hr⟩ : ∃ r, x0.toNat % 16 * 4096 + x1.toNat % 64 * 64 + x2.toNat % 64 = r := ⟨_, rfl⟩
              have hd : ∀ b3, decodeN (x0 :: x1 :: x2 :: l3).length x0.toNat x1.toNat x2.toNat b3 = if r ≥ 2048 ∧ (r < 55296 ∨ (57344 ≤ r ∧ r ≤ 1114111)) then (r, 3) else (65533, 1) := fun b3 => by
                unfold decodeN
                rw [if_neg c1, if_neg (fun hh => c2 ⟨hh.1, hh.2.2⟩), if_pos ⟨c3.1, ⟨by simp, c3.2.1⟩, by simp, c3.2.2⟩, hr]
              rw [hd] at h ⊢
              split at h
              · rename_i hg
                rw [if_pos hg]
                refine ⟨hg.2, ?_⟩
                unfold encodeRune
                rw [encodeRuneZ_three (by show (2048 ≤ (r : Int) ∧ (r : Int) < 55296) ∨ (57343 < (r : Int) ∧ (r : Int) ≤ 65535); omega)]
                simp only [List.map_cons, List.map_nil, List.take_succ_cons, List.take_zero]
                rw [u8_of (b := x0) (by omega), u8_of (b := x1) (by omega), u8_of (b := x2) (by omega)]
              · exact absurd rfl h
            · match l3 with
              | [] =>
                exfalso; apply h
                unfold decodeN
                rw [if_neg c1, if_neg (fun hh => c2 ⟨hh.1, hh.2.2⟩), if_neg (fun hh => c3 ⟨hh.1, hh.2.1.2, hh.2.2.2⟩), if_neg (by simp)]
              | x3 :: l4 =>
                have h3 := x3.toNat_lt
                have e3 : (x0 :: x1 :: x2 :: x3 :: l4).getD 3 0 = x3 := rfl
                rw [e3] at h ⊢
                by_cases c4 : x0.toNat / 8 = 30 ∧ x1.toNat / 64 = 2 ∧ x2.toNat / 64 = 2 ∧ x3.toNat / 64 = 2
                · obtain ⟨r, hr⟩ : ∃ r, x0.toNat % 8 * 262144 + x1.toNat % 64 * 4096 + x2.toNat % 64 * 64 + x3.toNat % 64 = r := ⟨_, rfl⟩
                  have hd : decodeN (x0 :: x1 :: x2 :: x3 :: l4).length x0.toNat x1.toNat x2.toNat x3.toNat = if r ≥ 65536 ∧ (r < 55296 ∨ (57344 ≤ r ∧ r ≤ 1114111)) then (r, 4) else (65533, 1) := by
                    unfold decodeN
                    rw [if_neg c1, if_neg (fun hh => c2 ⟨hh.1, hh.2.2⟩), if_neg (fun hh => c3 ⟨hh.1, hh.2.1.2, hh.2.2.2⟩), if_pos ⟨c4.1, ⟨by simp, c4.2.1⟩, ⟨by simp, c4.2.2.1⟩, by simp, c4.2.2.2⟩, hr]
                  rw [hd] at h ⊢
                  split at h
                  · rename_i hg
                    rw [if_pos hg]
                    refine ⟨hg.2, ?_⟩
                    unfold encodeRune
                    rw [encodeRuneZ_four (by show (65536 : Int) ≤ (r : Int); omega) (by show (r : Int) ≤ 1114111; omega)]
                    simp only [List.map_cons, List.map_nil, List.take_succ_cons, List.take_zero]
                    rw [u8_of (b := x0) (by omega), u8_of (b := x1) (by omega), u8_of (b := x2) (by omega), u8_of (b := x3) (by omega)]
                  · exact absurd rfl h
                · exfalso; apply h
                  unfold decodeN
                  rw [if_neg c1, if_neg (fun hh => c2 ⟨hh.1, hh.2.2⟩), if_neg (fun hh => c3 ⟨hh.1, hh.2.1.2, hh.2.2.2⟩), if_neg (fun hh => c4 ⟨hh.1, hh.2.1.2, hh.2.2.1.2, hh.2.2.2.2⟩)]
/-- what is encoded is decoded -/
theorem encode_decode (r : Nat) (h : validR r) (t : List UInt8) : decodeL (encodeRune (r : Int) ++ t) = (r, (encodeRune (r : Int)).length) := by
  unfold validR at h
  rw [decodeL_N]
  by_cases h1 : r ≤ 127
  · have e : encodeRune (r : Int) = [r.toUInt8] := by
      unfold encodeRune
      rw [encodeRuneZ_one (by omega) (by omega)]
      simp
    rw [e]
    unfold decodeN
    have hb : (([r.toUInt8] ++ t).getD 0 0).toNat = r := by simp [List.getD]; omega
    rw [hb, if_pos (by omega)]
    rfl
  · by_cases h2 : r ≤ 2047
    · have e : encodeRune (r : Int) = [(192 + r / 64).toUInt8, (128 + r % 64).toUInt8] := by
        unfold encodeRune
        rw [encodeRuneZ_two (by omega) (by omega)]
        simp only [List.map_cons, List.map_nil]
        rw [show (192 + (r : Int) / 64).toNat = 192 + r / 64 by omega, show (128 + (r : Int) % 64).toNat = 128 + r % 64 by omega]
      rw [e]
      have b0 : (([(192 + r / 64).toUInt8, (128 + r % 64).toUInt8] ++ t).getD 0 0).toNat = 192 + r / 64 := by simp [List.getD]; omega
      have b1 : (([(192 + r / 64).toUInt8, (128 + r % 64).toUInt8] ++ t).getD 1 0).toNat = 128 + r % 64 := by simp [List.getD]; omega
      have hl : ([(192 + r / 64).toUInt8, (128 + r % 64).toUInt8] ++ t).length = 2 + t.length := by simp; omega
      rw [b0, b1, hl]
      unfold decodeN
      rw [if_neg (by omega), if_pos (by omega), if_pos (by omega)]
      simp only [List.length_cons, List.length_nil, Prod.mk.injEq, and_true]
      omega
    · by_cases h3 : r ≤ 65535
      · have e : encodeRune (r : Int) = [(224 + r / 4096).toUInt8, (128 + r / 64 % 64).toUInt8, (128 + r % 64).toUInt8] := by
          unfold encodeRune
          rw [encodeRuneZ_three (by omega)]
          simp only [List.map_cons, List.map_nil]
          rw [show (224 + (r : Int) / 4096).toNat = 224 + r / 4096 by omega, show (128 + (r : Int) / 64 % 64).toNat = 128 + r / 64 % 64 by omega, show (128 + (r : Int) % 64).toNat = 128 + r % 64 by omega]
        rw [e]
        have b0 : (([(224 + r / 4096).toUInt8, (128 + r / 64 % 64).toUInt8, (128 + r % 64).toUInt8] ++ t).getD 0 0).toNat = 224 + r / 4096 := by simp [List.getD]; omega
        have b1 : (([(224 + r / 4096).toUInt8, (128 + r / 64 % 64).toUInt8, (128 + r % 64).toUInt8] ++ t).getD 1 0).toNat = 128 + r / 64 % 64 := by simp [List.getD]; omega
        have b2 : (([(224 + r / 4096).toUInt8, (128 + r / 64 % 64).toUInt8, (128 + r % 64).toUInt8] ++ t).getD 2 0).toNat = 128 + r % 64 := by simp [List.getD]; omega
        have hl : ([(224 + r / 4096).toUInt8, (128 + r / 64 % 64).toUInt8, (128 + r % 64).toUInt8] ++ t).length = 3 + t.length := by simp; omega
        rw [b0, b1, b2, hl]
        unfold decodeN
        rw [if_neg (by omega), if_neg (by omega), if_pos (by omega), if_pos (by omega)]
        simp only [List.length_cons, List.length_nil, Prod.mk.injEq, and_true]
        omega
      · have e : encodeRune (r : Int) = [(240 + r / 262144).toUInt8, (128 + r / 4096 % 64).toUInt8, (128 + r / 64 % 64).toUInt8, (128 + r % 64).toUInt8] := by
          unfold encodeRune
          rw [encodeRuneZ_four (by omega) (by omega)]
          simp only [List.map_cons, List.map_nil]
          rw [show (240 + (r : Int) / 262144).toNat = 240 + r / 262144 by omega, show (128 + (r : Int) / 4096 % 64).toNat = 128 + r / 4096 % 64 by omega, show (128 + (r : Int) / 64 % 64).toNat = 128 + r / 64 % 64 by omega, show (128 + (r : Int) % 64).toNat = 128 + r % 64 by omega]
        rw [e]
        have b0 : (([(240 + r / 262144).toUInt8, (128 + r / 4096 % 64).toUInt8, (128 + r / 64 % 64).toUInt8, (128 + r % 64).toUInt8] ++ t).getD 0 0).toNat = 240 + r / 262144 := by simp [List.getD]; omega
        have b1 : (([(240 + r / 262144).toUInt8, (128 + r / 4096 % 64).toUInt8, (128 + r / 64 % 64).toUInt8, (128 + r % 64).toUInt8] ++ t).getD 1 0).toNat = 128 + r / 4096 % 64 := by simp [List.getD]; omega
        have b2 : (([(240 + r / 262144).toUInt8, (128 + r / 4096 % 64).toUInt8, (128 + r / 64 % 64).toUInt8, (128 + r % 64).toUInt8] ++ t).getD 2 0).toNat = 128 + r / 64 % 64 := by simp [List.getD]; omega
        have b3 : (([(240 + r / 262144).toUInt8, (128 + r / 4096 % 64).toUInt8, (128 + r / 64 % 64).toUInt8, (128 + r % 64).toUInt8] ++ t).getD 3 0).toNat = 128 + r % 64 := by simp [List.getD]; omega
        have hl : ([(240 + r / 262144).toUInt8, (128 + r / 4096 % 64).toUInt8, (128 + r / 64 % 64).toUInt8, (128 + r % 64).toUInt8] ++ t).length = 4 + t.length := by simp; omega
        rw [b0, b1, b2, b3, hl]
        unfold decodeN
        rw [if_neg (by omega), if_neg (by omega), if_neg (by omega), if_pos (by omega), if_pos (by omega)]
        simp only [List.length_cons, List.length_nil, Prod.mk.injEq, and_true]
        omega
/-! ### every letter's lower form -/
def LetR (r : Nat) : Prop := validR r ∧ isL r = true
def encs (rs : List Nat) : List UInt8 := rs.flatMap fun (r : Nat) => encodeRune (r : Int)
theorem all_chain {α : Type} {p : α → Bool} {l : List α} {a k : Nat} (h1 : ((l.drop a).take k).all p = true) (h2 : (l.drop (a + k)).all p = true) : (l.drop a).all p = true := by
  rw [← List.take_append_drop k (l.drop a), List.all_append, h1, List.drop_drop, h2]; rfl
theorem rows_ok : caseT.all okRow = true := by
  have e : caseT.drop 336 = [] := by decide +kernel
  have h := all_chain ok0 (all_chain ok1 (all_chain ok2 (all_chain ok3 (all_chain ok4 (all_chain ok5 (all_chain ok6 (all_chain ok7 (all_chain ok8 (all_chain ok9 (all_chain ok10 (by rw [e]; rfl)))))))))))
  exact h
theorem ascii_ok : ((List.range 128).all fun r => okR r (lower2 r)) = true := by decide +kernel
theorem okR_good {r : Nat} {z : Int} (h : okR r z = true) (hl : isL2 r = true) : 0 ≤ z ∧ validR z.toNat ∧ isL2 z.toNat = true ∧ lower2 z.toNat = z := by
  unfold okR at h
  rw [hl] at h
  simp only [Bool.not_true, Bool.or_false, Bool.and_eq_true, decide_eq_true_eq, beq_iff_eq] at h
  exact ⟨h.1.1.1, h.1.1.2, h.1.2, h.2⟩
theorem low_good {r : Nat} (h : LetR r) : ∃ z : Nat, toLowerU (r : Int) = (z : Int) ∧ LetR z ∧ toLowerU (z : Int) = (z : Int) := by
  obtain ⟨hv, hl⟩ := h
  have hr : r ≤ 1114111 := by unfold validR at hv; omega
  have hl2 : isL2 r = true := by rw [← isL_eq r (by omega)]; exact hl
  have fin : ∀ z : Int, toLowerU (r : Int) = z → okR r z = true → ∃ z : Nat, toLowerU (r : Int) = (z : Int) ∧ LetR z ∧ toLowerU (z : Int) = (z : Int) := by
    intro z hz hok
    obtain ⟨h0, h1, h2, h3⟩ := okR_good hok hl2
    refine ⟨z.toNat, by rw [hz]; omega, ⟨h1, ?_⟩, ?_⟩
    · rw [isL_eq _ (by unfold validR at h1; omega)]; exact h2
    · rw [lower_eq, h3]; omega
  by_cases ha : r ≤ 127
  · have h := List.all_eq_true.1 ascii_ok r (List.mem_range.2 (by omega))
    exact fin _ (lower_eq r) h
  · cases hf : caseT.find? (fun x => inC x r) with
    | none =>
      have hlow : lower2 r = (r : Int) := by unfold lower2; rw [if_neg ha, hf]
      have e : toLowerU (r : Int) = (r : Int) := by rw [lower_eq, hlow]
      exact ⟨r, e, ⟨hv, hl⟩, e⟩
    | some x =>
      have hlow : lower2 r = convertR 1 (r : Int) x := by unfold lower2; rw [if_neg ha, hf]
      have hx := List.find?_some hf
      have hrow := List.all_eq_true.1 rows_ok x (List.mem_of_find?_eq_some hf)
      have hx' : x.1 ≤ r ∧ r ≤ x.2.1 := by simpa only [inC, Bool.and_eq_true, Nat.ble_eq] using hx
      unfold okRow at hrow
      have h := List.all_eq_true.1 hrow (r - x.1) (List.mem_range.2 (by omega))
      rw [show x.1 + (r - x.1) = r by omega] at h
      exact fin _ (by rw [lower_eq, hlow]) h
def lowN (r : Nat) : Nat := (toLowerU (r : Int)).toNat
theorem lowN_good {r : Nat} (h : LetR r) : toLowerU (r : Int) = ((lowN r : Nat) : Int) ∧ LetR (lowN r) ∧ lowN (lowN r) = lowN r := by
  obtain ⟨z, h1, h2, h3⟩ := low_good h
  have e : lowN r = z := by unfold lowN; rw [h1]; simp
  rw [e]
  exact ⟨h1, h2, by unfold lowN; rw [h3]; simp⟩
theorem encodeRune_ne (r : Int) : encodeRune r ≠ [] := fun e => by
  have := runeCells_le r
  rw [runeCells_length, e] at this
  simp at this
theorem encs_cons (r : Nat) (rs : List Nat) : encs (r :: rs) = encodeRune (r : Int) ++ encs rs := rfl
theorem lower_encs : ∀ rs : List Nat, (∀ r ∈ rs, LetR r) → lower (encs rs) = encs (rs.map lowN)
  | [], _ => rfl
  | r :: rs, h => by
    have hr := h r (.head _)
    have ih := lower_encs rs fun x hx => h x (.tail _ hx)
    have hd := encode_decode r hr.1 (encs rs)
    rw [encs_cons, lower_step (by simp [encodeRune_ne]), hd]
    simp only [List.drop_left, List.map_cons, encs_cons, ih]
    congr 1
    unfold lowC
    rw [(lowN_good hr).1]
/-- every word is made of letters -/
theorem words_encs : ∀ (n : Nat) (cs : List Nat) (l : List UInt8), l.length ≤ n → (∀ r ∈ cs, LetR r) → ∀ x ∈ wordsFrom (encs cs) l, ∃ rs : List Nat, x = encs rs ∧ ∀ r ∈ rs, LetR r
  | 0, cs, l, h, hc, x, hx => by
    rw [List.eq_nil_of_length_eq_zero (by omega : l.length = 0), wordsFrom_nil] at hx
    split at hx
    · cases hx
    · simp at hx
      exact ⟨cs, hx, hc⟩
  | n + 1, cs, l, h, hc, x, hx => by
    by_cases hne : l = []
    · rw [hne, wordsFrom_nil] at hx
      split at hx
      · cases hx
      · simp at hx
        exact ⟨cs, hx, hc⟩
    · have hw := decodeL_width l
      have hd : (l.drop (decodeL l).2).length ≤ n := by rw [List.length_drop]; omega
      rw [wordsFrom_step hne] at hx
      split at hx
      · rename_i hL
        have hb : (decodeL l).1 ≠ 65533 := fun e => by rw [e, isL_bad'] at hL; cases hL
        obtain ⟨hv, he⟩ := decode_encode l hne hb
        rw [he] at hx
        have e : encs cs ++ encodeRune ((decodeL l).1 : Int) = encs (cs ++ [(decodeL l).1]) := by simp [encs]
        rw [e] at hx
        refine words_encs n _ _ hd (fun r hr => ?_) x hx
        rcases List.mem_append.1 hr with hr | hr
        · exact hc r hr
        · simp at hr; rw [hr]; exact ⟨hv, hL⟩
      · rcases List.mem_append.1 hx with hx | hx
        · split at hx
          · cases hx
          · simp at hx
            exact ⟨cs, hx, hc⟩
        · exact words_encs n [] _ hd (fun r hr => by cases hr) x hx
/-- a word of letters, then a space -/
theorem wordsFrom_encs (t : List UInt8) : ∀ (zs : List Nat) (cur : List UInt8), (∀ r ∈ zs, LetR r) → wordsFrom cur (encs zs ++ 32 :: t) = (if cur ++ encs zs = [] then [] else [cur ++ encs zs]) ++ wordsFrom [] t
  | [], cur, _ => by
    have e : encs [] = [] := rfl
    rw [e, List.nil_append, List.append_nil, wordsFrom_step (by simp), decode_ascii' 32 t (by decide)]
    have : isL (UInt8.toNat 32, 1).1 = false := isL_space
    rw [if_neg (by rw [this]; simp)]
    rfl
  | z :: zs, cur, h => by
    have hz := h z (.head _)
    have ih := wordsFrom_encs t zs (cur ++ encodeRune (z : Int)) fun r hr => h r (.tail _ hr)
    have hd := encode_decode z hz.1 (encs zs ++ 32 :: t)
    rw [encs_cons, List.append_assoc, wordsFrom_step (by simp [encodeRune_ne]), hd]
    simp only [hz.2, if_true, List.take_left, List.drop_left]
    rw [ih, List.append_assoc]
theorem raw_join : ∀ L : List (List Nat), (∀ zs ∈ L, zs ≠ [] ∧ ∀ r ∈ zs, LetR r) → wordsFrom [] (L.flatMap fun zs => encs zs ++ [32]) = L.map encs
  | [], _ => rfl
  | zs :: L, h => by
    have hz := h zs (.head _)
    have ih := raw_join L fun x hx => h x (.tail _ hx)
    have hne : encs zs ≠ [] := by
      intro e
      match zs, hz.1 with
      | z :: zs, _ =>
        rw [encs_cons] at e
        exact encodeRune_ne _ (List.append_eq_nil_iff.1 e).1
    rw [List.flatMap_cons, List.append_assoc, List.singleton_append, wordsFrom_encs _ zs [] hz.2, ih, List.nil_append, if_neg hne]
    rfl
/-- **the words of the words are the same** -/
theorem words_stable (s : List UInt8) : words ((words s).flatMap fun w => w ++ [32]) = words s := by
  have h1 : ∀ x ∈ rawWords s, ∃ rs : List Nat, x = encs rs ∧ rs ≠ [] ∧ ∀ r ∈ rs, LetR r := fun x hx => by
    obtain ⟨rs, e, h⟩ := words_encs s.length [] s (Nat.le_refl _) (fun r hr => by cases hr) x hx
    refine ⟨rs, e, fun e' => ?_, h⟩
    have := (words_sum s.length [] s (Nat.le_refl _)).2 x hx
    subst e'
    exact this e
  obtain ⟨L, hL, hg⟩ : ∃ L : List (List Nat), rawWords s = L.map encs ∧ ∀ rs ∈ L, rs ≠ [] ∧ ∀ r ∈ rs, LetR r := by
    generalize rawWords s = R at h1
    induction R with
    | nil => exact ⟨[], rfl, fun _ h => by cases h⟩
    | cons x R ih =>
      obtain ⟨rs, e, h⟩ := h1 x (.head _)
      obtain ⟨L, e2, h2⟩ := ih fun y hy => h1 y (.tail _ hy)
      exact ⟨rs :: L, by rw [e, e2]; rfl, fun y hy => by
        rcases List.mem_cons.1 hy with rfl | hy
        · exact h
        · exact h2 y hy⟩
  have hw : words s = (L.map (List.map lowN)).map encs := by
    unfold words
    rw [hL, List.map_map, List.map_map]
    exact List.map_congr_left fun rs hrs => lower_encs rs (hg rs hrs).2
  have hg2 : ∀ zs ∈ L.map (List.map lowN), zs ≠ [] ∧ ∀ r ∈ zs, LetR r := by
    intro zs hzs
    obtain ⟨rs, hrs, rfl⟩ := List.mem_map.1 hzs
    refine ⟨by simpa using (hg rs hrs).1, fun r hr => ?_⟩
    obtain ⟨r0, hr0, rfl⟩ := List.mem_map.1 hr
    exact (lowN_good ((hg rs hrs).2 r0 hr0)).2.1
  have hj : (words s).flatMap (fun w => w ++ [32]) = (L.map (List.map lowN)).flatMap fun zs => encs zs ++ [32] := by
    rw [hw, List.flatMap_map]
  have hr := raw_join _ hg2
  conv => lhs; rw [hj]; unfold words rawWords
  unfold wordsFrom at hr
  rw [hr, hw, List.map_map, List.map_map, List.map_map]
  refine List.map_congr_left fun rs hrs => ?_
  have h2 := hg2 (rs.map lowN) (List.mem_map_of_mem hrs)
  show lower (encs (rs.map lowN)) = encs (rs.map lowN)
  rw [lower_encs _ h2.2, List.map_map]
  congr 1
  exact List.map_congr_left fun r hr => (lowN_good ((hg rs hrs).2 r hr)).2.2
end Sm
end Go.Proofs.YtihhgmpanfboaaaGreatDoor
namespace Go.Proofs.YtihhgmpanfboaaaGreatDoor
set_option linter.unusedVariables false
namespace Sm
open Go.Lib
theorem raw_len {s x : List UInt8} (hx : x ∈ rawWords s) : x.length ≤ s.length := by
  have h := (words_sum s.length [] s (Nat.le_refl _)).1
  have : ∀ (l : List Nat) (n : Nat), n ∈ l → n ≤ l.sum := by
    intro l
    induction l with
    | nil => intro n hn; cases hn
    | cons a l ih => intro n hn; rw [List.sum_cons]; rcases List.mem_cons.1 hn with e | e; · omega
                     · have := ih n e; omega
  have := this _ _ (List.mem_map_of_mem (f := List.length) hx)
  unfold rawWords at this
  unfold wordsFrom at h
  simp only [List.length_nil] at h
  omega
theorem encs_ne {zs : List Nat} (h : zs ≠ []) : encs zs ≠ [] := by
  intro e
  match zs, h with
  | z :: zs, _ =>
    rw [encs_cons] at e
    exact encodeRune_ne _ (List.append_eq_nil_iff.1 e).1
theorem raw_self {zs : List Nat} (hne : zs ≠ []) (h : ∀ r ∈ zs, LetR r) : rawWords (encs zs) = [encs zs] := by
  have h1 := raw_join [zs] fun x hx => by simp at hx; subst hx; exact ⟨hne, h⟩
  have h2 := wordsFrom_sep 32 (by decide) isL_space [] _ [] (encs zs) (Nat.le_refl _)
  rw [List.flatMap_cons, List.flatMap_nil, List.append_nil] at h1
  rw [h1, wordsFrom_nil, if_pos rfl, List.append_nil] at h2
  exact h2.symm
theorem words_form {zs : List Nat} (hne : zs ≠ []) (h : ∀ r ∈ zs, LetR r) : words (encs zs) = [lower (encs zs)] := by
  unfold words
  rw [raw_self hne h]; rfl
/-- the letters of a word, in lower case -/
def Low (zs : List Nat) : Prop := zs ≠ [] ∧ ∀ r ∈ zs, LetR r ∧ lowN r = r
theorem Low.lower {zs : List Nat} (h : Low zs) : lower (encs zs) = encs zs := by
  rw [lower_encs zs fun r hr => (h.2 r hr).1]
  congr 1
  have : zs.map lowN = zs.map id := List.map_congr_left fun r hr => (h.2 r hr).2
  rw [this, List.map_id]
theorem Low.words {zs : List Nat} (h : Low zs) : Sm.words (encs zs) = [encs zs] := by
  rw [words_form h.1 fun r hr => (h.2 r hr).1, h.lower]
theorem word_low {s x : List UInt8} (hx : x ∈ words s) : ∃ zs, x = encs zs ∧ Low zs := by
  unfold words at hx
  obtain ⟨y, hy, rfl⟩ := List.mem_map.1 hx
  obtain ⟨rs, e, h⟩ := words_encs s.length [] s (Nat.le_refl _) (fun r hr => by cases hr) y hy
  have hne : rs ≠ [] := fun e' => by
    have := (words_sum s.length [] s (Nat.le_refl _)).2 y hy
    subst e'
    exact this e
  subst e
  refine ⟨rs.map lowN, lower_encs rs h, by simpa using hne, fun r hr => ?_⟩
  obtain ⟨r0, hr0, rfl⟩ := List.mem_map.1 hr
  exact ⟨(lowN_good (h r0 hr0)).2.1, (lowN_good (h r0 hr0)).2.2⟩
theorem word_self {s x : List UInt8} (hx : x ∈ words s) : words x = [x] := by
  obtain ⟨zs, rfl, h⟩ := word_low hx
  exact h.words
theorem no_space {zs : List Nat} (h : ∀ r ∈ zs, LetR r) : (32 : UInt8) ∉ encs zs := by
  intro hm
  have hne : zs ≠ [] := by rintro rfl; cases hm
  obtain ⟨a, b, e⟩ := List.append_of_mem hm
  have h1 := raw_self hne h
  have h2 := wordsFrom_sep 32 (by decide) isL_space b _ [] a (Nat.le_refl _)
  rw [e] at h1
  have h3 : rawWords (a ++ 32 :: b) = rawWords a ++ rawWords b := h2
  rw [h3] at h1
  have hx : a ++ 32 :: b ∈ rawWords a ++ rawWords b := by rw [h1]; exact .head _
  have hl : (a ++ (32 : UInt8) :: b).length = a.length + b.length + 1 := by simp; omega
  rcases List.mem_append.1 hx with hx | hx
  · have := raw_len hx; omega
  · have := raw_len hx; omega
/-- all characters are letters -/
def alphaGo : Nat → List UInt8 → Bool
  | 0, _ => true
  | n + 1, l => if l = [] then true else isL (decodeL l).1 && alphaGo n (l.drop (decodeL l).2)
def alpha (l : List UInt8) : Bool := alphaGo l.length l
theorem alpha_encs : ∀ (n : Nat) (l : List UInt8), l.length ≤ n → alphaGo n l = true → ∃ zs, l = encs zs ∧ ∀ r ∈ zs, LetR r
  | 0, l, hl, _ => ⟨[], by rw [List.eq_nil_of_length_eq_zero (by omega : l.length = 0)]; rfl, fun r hr => by cases hr⟩
  | n + 1, l, hl, h => by
    by_cases hne : l = []
    · subst hne; exact ⟨[], rfl, fun r hr => by cases hr⟩
    · rw [alphaGo, if_neg hne, Bool.and_eq_true] at h
      have hb : (decodeL l).1 ≠ 65533 := fun e => by have := h.1; rw [e, isL_bad'] at this; cases this
      obtain ⟨hv, he⟩ := decode_encode l hne hb
      have hw := decodeL_width l
      obtain ⟨zs, e, hz⟩ := alpha_encs n (l.drop (decodeL l).2) (by rw [List.length_drop]; omega) h.2
      refine ⟨(decodeL l).1 :: zs, ?_, fun r hr => ?_⟩
      · rw [encs_cons, ← he, ← e, List.take_append_drop]
      · rcases List.mem_cons.1 hr with rfl | hr
        · exact ⟨hv, h.1⟩
        · exact hz r hr
theorem encs_alpha : ∀ (n : Nat) (zs : List Nat), (∀ r ∈ zs, LetR r) → alphaGo n (encs zs) = true
  | 0, _, _ => rfl
  | n + 1, [], _ => by rw [alphaGo, if_pos (show encs [] = [] from rfl)]
  | n + 1, z :: zs, h => by
    have hz := h z (.head _)
    have hd := encode_decode z hz.1 (encs zs)
    rw [alphaGo, if_neg (encs_ne (by simp)), encs_cons, hd]
    simp only [hz.2, Bool.true_and, List.drop_left]
    exact encs_alpha n zs fun r hr => h r (.tail _ hr)
/-- what a word in lower case is -/
theorem words_iff (s : List UInt8) : words s = [s] ↔ s ≠ [] ∧ alpha s = true ∧ lower s = s := by
  constructor
  · intro h
    obtain ⟨zs, rfl, hz⟩ := word_low (s := s) (x := s) (by rw [h]; exact .head _)
    exact ⟨encs_ne hz.1, encs_alpha _ zs fun r hr => (hz.2 r hr).1, hz.lower⟩
  · rintro ⟨h1, h2, h3⟩
    obtain ⟨zs, e, hz⟩ := alpha_encs _ s (Nat.le_refl _) h2
    subst e
    have hne : zs ≠ [] := by rintro rfl; exact h1 rfl
    rw [words_form hne hz, h3]
theorem valid_alpha : ∀ (n : Nat) (l : List UInt8), alphaGo n l = true → validGoD n l = true
  | 0, _, _ => rfl
  | n + 1, l, h => by
    rw [alphaGo] at h
    rw [validGoD]
    split
    · rfl
    · rename_i hne
      rw [if_neg hne, Bool.and_eq_true] at h
      have hb : ¬ ((decodeL l).1 = 65533 ∧ (decodeL l).2 = 1) := fun e => by have := h.1; rw [e.1, isL_bad'] at this; cases this
      rw [if_neg hb]
      exact valid_alpha n _ h.2
theorem az_ok : ((List.range 128).all fun r => !(decide (97 ≤ r) && decide (r ≤ 122)) || (isL2 r && decide (lower2 r = (r : Int)))) = true := by decide +kernel
theorem az_char {c : UInt8} (h : 97 ≤ c ∧ c ≤ 122) : isL c.toNat = true ∧ lowC c.toNat = [c] := by
  have h1 : 97 ≤ c.toNat := UInt8.le_iff_toNat_le.1 h.1
  have h2 : c.toNat ≤ 122 := UInt8.le_iff_toNat_le.1 h.2
  have hk := List.all_eq_true.1 az_ok c.toNat (List.mem_range.2 (by omega))
  have e : (decide (97 ≤ c.toNat) && decide (c.toNat ≤ 122)) = true := by simp [h1, h2]
  rw [e, Bool.not_true, Bool.false_or, Bool.and_eq_true, decide_eq_true_eq] at hk
  refine ⟨by rw [isL_eq _ (by omega)]; exact hk.1, ?_⟩
  unfold lowC
  rw [lower_eq, hk.2]
  have hd := decode_ascii' c [] (by omega)
  have := (decode_encode [c] (by simp) (by rw [hd]; show c.toNat ≠ 65533; omega)).2
  rw [hd] at this
  exact this.symm
theorem az_alpha : ∀ (n : Nat) (s : List UInt8), Sm.letters s = true → alphaGo n s = true ∧ lowGo n s = s.take n
  | 0, s, _ => ⟨rfl, by simp [lowGo]⟩
  | n + 1, [], _ => ⟨by rw [alphaGo, if_pos rfl], by simp [lowGo]⟩
  | n + 1, c :: t, h => by
    have hc : 97 ≤ c ∧ c ≤ 122 := by
      unfold Sm.letters at h
      rw [List.all_cons, Bool.and_eq_true, Bool.and_eq_true, decide_eq_true_eq, decide_eq_true_eq] at h
      exact h.1
    have ht : Sm.letters t = true := by
      unfold Sm.letters at h ⊢
      rw [List.all_cons, Bool.and_eq_true] at h
      exact h.2
    have h1 : c.toNat < 128 := by have := UInt8.le_iff_toNat_le.1 hc.2; have e : (122 : UInt8).toNat = 122 := rfl; omega
    obtain ⟨g1, g2⟩ := az_char hc
    obtain ⟨i1, i2⟩ := az_alpha n t ht
    have hd := decode_ascii' c t h1
    refine ⟨?_, ?_⟩
    · rw [alphaGo, if_neg (by simp), hd]
      simp only [g1, Bool.true_and]
      exact i1
    · rw [lowGo, if_neg (by simp), hd]
      simp only [g2]
      rw [show List.drop 1 (c :: t) = t from rfl, i2]; rfl
theorem az_words {s : List UInt8} (hne : s ≠ []) (h : Sm.letters s = true) : words s = [s] := by
  rw [words_iff]
  refine ⟨hne, (az_alpha _ s h).1, ?_⟩
  have := (az_alpha s.length s h).2
  rw [List.take_length] at this
  exact this
/-- the stem of a word is a word -/
theorem stem_words {x : List UInt8} (h : words x = [x]) : words (stem x) = [stem x] := by
  unfold stem
  split
  · rename_i hl
    have hne := ((words_iff x).1 h).1
    exact az_words (rounds_ne _ _ hne) (rounds_letters _ _ hl.1)
  · exact h
end Sm
end Go.Proofs.YtihhgmpanfboaaaGreatDoor
