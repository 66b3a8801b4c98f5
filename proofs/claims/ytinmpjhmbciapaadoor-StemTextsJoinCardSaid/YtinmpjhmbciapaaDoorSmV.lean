/-
  Words of words, words of texts with a full stop between them: plain lists of bytes.
-/
import Derived.Test.YtinmpjhmbciapaaDoorSmXb
import Derived.Test.YtinmpjhmbciapaaDoorSmXc
namespace Go.Proofs.YtinmpjhmbciapaaDoor
namespace Sm
open Go.Lib
theorem isL_dot : isL 46 = false := by decide +kernel
theorem isL_space : isL 32 = false := by decide +kernel
theorem isL_bad' : isL 65533 = false := by decide +kernel
/-- an ASCII byte in front -/
theorem decode_ascii' (c : UInt8) (t : List UInt8) (h : c.toNat < 128) : decodeL (c :: t) = (c.toNat, 1) := by
  rw [decodeL_N]
  unfold decodeN
  rw [if_pos (by simpa using h)]
  rfl
/-- an ASCII byte behind does not change what is decoded in front of it -/
theorem decode_before (l : List UInt8) (c : UInt8) (t : List UInt8) (hne : l ≠ []) (hc : c.toNat < 128) : decodeL (l ++ c :: t) = decodeL l := by
  have hlen := List.length_pos_iff.2 hne
  have hc2 : c.toNat / 64 ≠ 2 := by omega
  have g : ∀ k, k < l.length → (l ++ c :: t).getD k 0 = l.getD k 0 := fun k hk => by simp [List.getD, List.getElem?_append_left hk]
  have gl : (l ++ c :: t).getD l.length 0 = c := by simp [List.getD]
  have hbig : l.length < (l ++ c :: t).length := by simp
  rw [decodeL_N, decodeL_N, g 0 hlen]
  generalize hn : (l ++ c :: t).length = n at hbig ⊢
  generalize hm : l.length = m at hlen hbig gl g ⊢
  unfold decodeN
  by_cases h1 : 1 < m
  · rw [g 1 h1]
    by_cases h2 : 2 < m
    · rw [g 2 h2]
      by_cases h3 : 3 < m
      · rw [g 3 h3]
        simp only [h1, h2, h3, show 1 < n by omega, show 2 < n by omega, show 3 < n by omega]
      · have e3 : 3 = m := by omega
        have g3 : (l ++ c :: t).getD 3 0 = c := by rw [e3]; exact gl
        rw [g3]
        simp only [h1, h2, h3, show 1 < n by omega, show 2 < n by omega, hc2, and_false, false_and, if_false]
    · have e2 : 2 = m := by omega
      have g2 : (l ++ c :: t).getD 2 0 = c := by rw [e2]; exact gl
      rw [g2]
      simp only [h1, h2, show ¬ 3 < m by omega, show 1 < n by omega, hc2, and_false, false_and, if_false]
  · have e1 : 1 = m := by omega
    have g1 : (l ++ c :: t).getD 1 0 = c := by rw [e1]; exact gl
    rw [g1]
    simp only [h1, hc2, and_false, false_and, if_false]
theorem drop_before (l : List UInt8) (c : UInt8) (t : List UInt8) {n : Nat} (h : n ≤ l.length) : (l ++ c :: t).drop n = l.drop n ++ c :: t := List.drop_append_of_le_length h
theorem take_before (l : List UInt8) (c : UInt8) (t : List UInt8) {n : Nat} (h : n ≤ l.length) : (l ++ c :: t).take n = l.take n := List.take_append_of_le_length h
/-- **a character between, that is no letter, parts the words** -/
theorem wordsFrom_sep (c : UInt8) (hc : c.toNat < 128) (hL : isL c.toNat = false) (t : List UInt8) : ∀ (n : Nat) (cur l : List UInt8), l.length ≤ n → wordsFrom cur (l ++ c :: t) = wordsFrom cur l ++ wordsFrom [] t
  | 0, cur, l, h => by
    rw [List.eq_nil_of_length_eq_zero (by omega : l.length = 0), List.nil_append, wordsFrom_step (by simp), decode_ascii' c t hc, wordsFrom_nil]
    simp [hL]
  | n + 1, cur, l, h => by
    by_cases hne : l = []
    · rw [hne, List.nil_append, wordsFrom_step (by simp), decode_ascii' c t hc, wordsFrom_nil]
      simp [hL]
    · have hw := decodeL_width l
      have hwl := width_le hne
      rw [wordsFrom_step (l := l ++ c :: t) (by simp), decode_before l c t hne hc, wordsFrom_step (l := l) hne, drop_before l c t hwl, take_before l c t hwl]
      have hd : (l.drop (decodeL l).2).length ≤ n := by rw [List.length_drop]; omega
      split
      · exact wordsFrom_sep c hc hL t n _ _ hd
      · rw [wordsFrom_sep c hc hL t n _ _ hd, List.append_assoc]
theorem words_join (a b : List UInt8) : words (a ++ 46 :: b) = words a ++ words b := by
  have h := wordsFrom_sep 46 (by decide) isL_dot b a.length [] a (Nat.le_refl _)
  unfold words rawWords
  unfold wordsFrom at h
  rw [h, List.map_append]

/-! ### runes -/
def validR (r : Nat) : Prop := r < 55296 ∨ (57344 ≤ r ∧ r ≤ 1114111)
/-- what was decoded, if not broken, stands there encoded -/
theorem u8_of {b : UInt8} {x : Int} (h : x = (b.toNat : Int)) : x.toNat.toUInt8 = b := by subst h; simp
theorem decode_encode (l : List UInt8) (hne : l ≠ []) (h : (decodeL l).1 ≠ 65533) : validR (decodeL l).1 ∧ l.take (decodeL l).2 = encodeRune ((decodeL l).1 : Int) := by
  rw [decodeL_N] at h ⊢
  match l, hne with
  | x0 :: l1, _ =>
    have h0 := x0.toNat_lt
    have e0 : (x0 :: l1).getD 0 0 = x0 := rfl
    rw [e0] at h ⊢
    by_cases c1 : x0.toNat < 128
    · have hd : ∀ n b1 b2 b3, decodeN n x0.toNat b1 b2 b3 = (x0.toNat, 1) := fun n b1 b2 b3 => by unfold decodeN; rw [if_pos c1]
      rw [hd]
      refine ⟨.inl (by show x0.toNat < 55296; omega), ?_⟩
      unfold encodeRune
      rw [encodeRuneZ_one (by simp) (by show (x0.toNat : Int) ≤ 127; omega)]
      simp
    · match l1 with
      | [] =>
        exfalso; apply h
        unfold decodeN
        simp [c1]
      | x1 :: l2 =>
        have h1 := x1.toNat_lt
        have e1 : (x0 :: x1 :: l2).getD 1 0 = x1 := rfl
        rw [e1] at h ⊢
        by_cases c2 : x0.toNat / 32 = 6 ∧ x1.toNat / 64 = 2
        · have hd : ∀ b2 b3, decodeN (x0 :: x1 :: l2).length x0.toNat x1.toNat b2 b3 = if x0.toNat % 32 * 64 + x1.toNat % 64 ≥ 128 then (x0.toNat % 32 * 64 + x1.toNat % 64, 2) else (65533, 1) := fun b2 b3 => by
            unfold decodeN
            rw [if_neg c1, if_pos ⟨c2.1, by simp, c2.2⟩]
          rw [hd] at h ⊢
          split at h
          · rename_i hg
            rw [if_pos hg]
            refine ⟨.inl (by show x0.toNat % 32 * 64 + x1.toNat % 64 < 55296; omega), ?_⟩
            unfold encodeRune
            rw [encodeRuneZ_two (by show (128 : Int) ≤ ((x0.toNat % 32 * 64 + x1.toNat % 64 : Nat) : Int); omega) (by show ((x0.toNat % 32 * 64 + x1.toNat % 64 : Nat) : Int) ≤ 2047; omega)]
            simp only [List.map_cons, List.map_nil, List.take_succ_cons, List.take_zero]
            rw [u8_of (b := x0) (by omega), u8_of (b := x1) (by omega)]
          · exact absurd rfl h
        · match l2 with
          | [] =>
            exfalso; apply h
            unfold decodeN
            rw [if_neg c1, if_neg (fun hh => c2 ⟨hh.1, hh.2.2⟩), if_neg (by simp), if_neg (by simp)]
          | x2 :: l3 =>
            have h2 := x2.toNat_lt
            have e2 : (x0 :: x1 :: x2 :: l3).getD 2 0 = x2 := rfl
            rw [e2] at h ⊢
            by_cases c3 : x0.toNat / 16 = 14 ∧ x1.toNat / 64 = 2 ∧ x2.toNat / 64 = 2
            · obtain ⟨r, hr⟩ : ∃ r, x0.toNat % 16 * 4096 + x1.toNat % 64 * 64 + x2.toNat % 64 = r := ⟨_, rfl⟩
              have hd : ∀ b3, decodeN (x0 :: x1 :: x2 :: l3).length x0.toNat x1.toNat x2.toNat b3 = if r ≥ 2048 ∧ (r < 55296 ∨ (57344 ≤ r ∧ r ≤ 1114111)) then (r, 3) else (65533, 1) := fun b3 => by
                unfold decodeN
                rw [if_neg c1, if_neg (fun hh => c2 ⟨hh.1, hh.2.2⟩), if_pos ⟨c3.1, ⟨by simp, c3.2.1⟩, by simp, c3.2.2⟩, hr]
              rw [hd] at h ⊢
              split at h
              · rename_i hg
                rw [if_pos hg]
                refine ⟨hg.2, ?_⟩
                unfold encodeRune
                rw [encodeRuneZ_three (by show (2048 ≤ (r : Int) ∧ (r : Int) < 55296) ∨ (57343 < (r : Int) ∧ (r : Int) ≤ 65535); omega)]
                simp only [List.map_cons, List.map_nil, List.take_succ_cons, List.take_zero]
                rw [u8_of (b := x0) (by omega), u8_of (b := x1) (by omega), u8_of (b := x2) (by omega)]
              · exact absurd rfl h
            · match l3 with
              | [] =>
                exfalso; apply h
                unfold decodeN
                rw [if_neg c1, if_neg (fun hh => c2 ⟨hh.1, hh.2.2⟩), if_neg (fun hh => c3 ⟨hh.1, hh.2.1.2, hh.2.2.2⟩), if_neg (by simp)]
              | x3 :: l4 =>
                have h3 := x3.toNat_lt
                have e3 : (x0 :: x1 :: x2 :: x3 :: l4).getD 3 0 = x3 := rfl
                rw [e3] at h ⊢
                by_cases c4 : x0.toNat / 8 = 30 ∧ x1.toNat / 64 = 2 ∧ x2.toNat / 64 = 2 ∧ x3.toNat / 64 = 2
                · obtain ⟨r, hr⟩ : ∃ r, x0.toNat % 8 * 262144 + x1.toNat % 64 * 4096 + x2.toNat % 64 * 64 + x3.toNat % 64 = r := ⟨_, rfl⟩
                  have hd : decodeN (x0 :: x1 :: x2 :: x3 :: l4).length x0.toNat x1.toNat x2.toNat x3.toNat = if r ≥ 65536 ∧ (r < 55296 ∨ (57344 ≤ r ∧ r ≤ 1114111)) then (r, 4) else (65533, 1) := by
                    unfold decodeN
                    rw [if_neg c1, if_neg (fun hh => c2 ⟨hh.1, hh.2.2⟩), if_neg (fun hh => c3 ⟨hh.1, hh.2.1.2, hh.2.2.2⟩), if_pos ⟨c4.1, ⟨by simp, c4.2.1⟩, ⟨by simp, c4.2.2.1⟩, by simp, c4.2.2.2⟩, hr]
                  rw [hd] at h ⊢
                  split at h
                  · rename_i hg
                    rw [if_pos hg]
                    refine ⟨hg.2, ?_⟩
                    unfold encodeRune
                    rw [encodeRuneZ_four (by show (65536 : Int) ≤ (r : Int); omega) (by show (r : Int) ≤ 1114111; omega)]
                    simp only [List.map_cons, List.map_nil, List.take_succ_cons, List.take_zero]
                    rw [u8_of (b := x0) (by omega), u8_of (b := x1) (by omega), u8_of (b := x2) (by omega), u8_of (b := x3) (by omega)]
                  · exact absurd rfl h
                · exfalso; apply h
                  unfold decodeN
                  rw [if_neg c1, if_neg (fun hh => c2 ⟨hh.1, hh.2.2⟩), if_neg (fun hh => c3 ⟨hh.1, hh.2.1.2, hh.2.2.2⟩), if_neg (fun hh => c4 ⟨hh.1, hh.2.1.2, hh.2.2.1.2, hh.2.2.2.2⟩)]
/-- what is encoded is decoded -/
theorem encode_decode (r : Nat) (h : validR r) (t : List UInt8) : decodeL (encodeRune (r : Int) ++ t) = (r, (encodeRune (r : Int)).length) := by
  unfold validR at h
  rw [decodeL_N]
  by_cases h1 : r ≤ 127
  · have e : encodeRune (r : Int) = [r.toUInt8] := by
      unfold encodeRune
      rw [encodeRuneZ_one (by omega) (by omega)]
      simp
    rw [e]
    unfold decodeN
    have hb : (([r.toUInt8] ++ t).getD 0 0).toNat = r := by simp [List.getD]; omega
    rw [hb, if_pos (by omega)]
    rfl
  · by_cases h2 : r ≤ 2047
    · have e : encodeRune (r : Int) = [(192 + r / 64).toUInt8, (128 + r % 64).toUInt8] := by
        unfold encodeRune
        rw [encodeRuneZ_two (by omega) (by omega)]
        simp only [List.map_cons, List.map_nil]
        rw [show (192 + (r : Int) / 64).toNat = 192 + r / 64 by omega, show (128 + (r : Int) % 64).toNat = 128 + r % 64 by omega]
      rw [e]
      have b0 : (([(192 + r / 64).toUInt8, (128 + r % 64).toUInt8] ++ t).getD 0 0).toNat = 192 + r / 64 := by simp [List.getD]; omega
      have b1 : (([(192 + r / 64).toUInt8, (128 + r % 64).toUInt8] ++ t).getD 1 0).toNat = 128 + r % 64 := by simp [List.getD]; omega
      have hl : ([(192 + r / 64).toUInt8, (128 + r % 64).toUInt8] ++ t).length = 2 + t.length := by simp; omega
      rw [b0, b1, hl]
      unfold decodeN
      rw [if_neg (by omega), if_pos (by omega), if_pos (by omega)]
      simp only [List.length_cons, List.length_nil, Prod.mk.injEq, and_true]
      omega
    · by_cases h3 : r ≤ 65535
      · have e : encodeRune (r : Int) = [(224 + r / 4096).toUInt8, (128 + r / 64 % 64).toUInt8, (128 + r % 64).toUInt8] := by
          unfold encodeRune
          rw [encodeRuneZ_three (by omega)]
          simp only [List.map_cons, List.map_nil]
          rw [show (224 + (r : Int) / 4096).toNat = 224 + r / 4096 by omega, show (128 + (r : Int) / 64 % 64).toNat = 128 + r / 64 % 64 by omega, show (128 + (r : Int) % 64).toNat = 128 + r % 64 by omega]
        rw [e]
        have b0 : (([(224 + r / 4096).toUInt8, (128 + r / 64 % 64).toUInt8, (128 + r % 64).toUInt8] ++ t).getD 0 0).toNat = 224 + r / 4096 := by simp [List.getD]; omega
        have b1 : (([(224 + r / 4096).toUInt8, (128 + r / 64 % 64).toUInt8, (128 + r % 64).toUInt8] ++ t).getD 1 0).toNat = 128 + r / 64 % 64 := by simp [List.getD]; omega
        have b2 : (([(224 + r / 4096).toUInt8, (128 + r / 64 % 64).toUInt8, (128 + r % 64).toUInt8] ++ t).getD 2 0).toNat = 128 + r % 64 := by simp [List.getD]; omega
        have hl : ([(224 + r / 4096).toUInt8, (128 + r / 64 % 64).toUInt8, (128 + r % 64).toUInt8] ++ t).length = 3 + t.length := by simp; omega
        rw [b0, b1, b2, hl]
        unfold decodeN
        rw [if_neg (by omega), if_neg (by omega), if_pos (by omega), if_pos (by omega)]
        simp only [List.length_cons, List.length_nil, Prod.mk.injEq, and_true]
        omega
      · have e : encodeRune (r : Int) = [(240 + r / 262144).toUInt8, (128 + r / 4096 % 64).toUInt8, (128 + r / 64 % 64).toUInt8, (128 + r % 64).toUInt8] := by
          unfold encodeRune
          rw [encodeRuneZ_four (by omega) (by omega)]
          simp only [List.map_cons, List.map_nil]
          rw [show (240 + (r : Int) / 262144).toNat = 240 + r / 262144 by omega, show (128 + (r : Int) / 4096 % 64).toNat = 128 + r / 4096 % 64 by omega, show (128 + (r : Int) / 64 % 64).toNat = 128 + r / 64 % 64 by omega, show (128 + (r : Int) % 64).toNat = 128 + r % 64 by omega]
        rw [e]
        have b0 : (([(240 + r / 262144).toUInt8, (128 + r / 4096 % 64).toUInt8, (128 + r / 64 % 64).toUInt8, (128 + r % 64).toUInt8] ++ t).getD 0 0).toNat = 240 + r / 262144 := by simp [List.getD]; omega
        have b1 : (([(240 + r / 262144).toUInt8, (128 + r / 4096 % 64).toUInt8, (128 + r / 64 % 64).toUInt8, (128 + r % 64).toUInt8] ++ t).getD 1 0).toNat = 128 + r / 4096 % 64 := by simp [List.getD]; omega
        have b2 : (([(240 + r / 262144).toUInt8, (128 + r / 4096 % 64).toUInt8, (128 + r / 64 % 64).toUInt8, (128 + r % 64).toUInt8] ++ t).getD 2 0).toNat = 128 + r / 64 % 64 := by simp [List.getD]; omega
        have b3 : (([(240 + r / 262144).toUInt8, (128 + r / 4096 % 64).toUInt8, (128 + r / 64 % 64).toUInt8, (128 + r % 64).toUInt8] ++ t).getD 3 0).toNat = 128 + r % 64 := by simp [List.getD]; omega
        have hl : ([(240 + r / 262144).toUInt8, (128 + r / 4096 % 64).toUInt8, (128 + r / 64 % 64).toUInt8, (128 + r % 64).toUInt8] ++ t).length = 4 + t.length := by simp; omega
        rw [b0, b1, b2, b3, hl]
        unfold decodeN
        rw [if_neg (by omega), if_neg (by omega), if_neg (by omega), if_pos (by omega), if_pos (by omega)]
        simp only [List.length_cons, List.length_nil, Prod.mk.injEq, and_true]
        omega
/-! ### every letter's lower form -/
def LetR (r : Nat) : Prop := validR r ∧ isL r = true
def encs (rs : List Nat) : List UInt8 := rs.flatMap fun (r : Nat) => encodeRune (r : Int)
theorem all_chain {α : Type} {p : α → Bool} {l : List α} {a k : Nat} (h1 : ((l.drop a).take k).all p = true) (h2 : (l.drop (a + k)).all p = true) : (l.drop a).all p = true := by
  rw [← List.take_append_drop k (l.drop a), List.all_append, h1, List.drop_drop, h2]; rfl
theorem rows_ok : caseT.all okRow = true := by
  have e : caseT.drop 336 = [] := by decide +kernel
  have h := all_chain ok0 (all_chain ok1 (all_chain ok2 (all_chain ok3 (all_chain ok4 (all_chain ok5 (all_chain ok6 (all_chain ok7 (all_chain ok8 (all_chain ok9 (all_chain ok10 (by rw [e]; rfl)))))))))))
  exact h
theorem ascii_ok : ((List.range 128).all fun r => okR r (lower2 r)) = true := by decide +kernel
theorem okR_good {r : Nat} {z : Int} (h : okR r z = true) (hl : isL2 r = true) : 0 ≤ z ∧ validR z.toNat ∧ isL2 z.toNat = true ∧ lower2 z.toNat = z := by
  unfold okR at h
  rw [hl] at h
  simp only [Bool.not_true, Bool.or_false, Bool.and_eq_true, decide_eq_true_eq, beq_iff_eq] at h
  exact ⟨h.1.1.1, h.1.1.2, h.1.2, h.2⟩
theorem low_good {r : Nat} (h : LetR r) : ∃ z : Nat, toLowerU (r : Int) = (z : Int) ∧ LetR z ∧ toLowerU (z : Int) = (z : Int) := by
  obtain ⟨hv, hl⟩ := h
  have hr : r ≤ 1114111 := by unfold validR at hv; omega
  have hl2 : isL2 r = true := by rw [← isL_eq r (by omega)]; exact hl
  have fin : ∀ z : Int, toLowerU (r : Int) = z → okR r z = true → ∃ z : Nat, toLowerU (r : Int) = (z : Int) ∧ LetR z ∧ toLowerU (z : Int) = (z : Int) := by
    intro z hz hok
    obtain ⟨h0, h1, h2, h3⟩ := okR_good hok hl2
    refine ⟨z.toNat, by rw [hz]; omega, ⟨h1, ?_⟩, ?_⟩
    · rw [isL_eq _ (by unfold validR at h1; omega)]; exact h2
    · rw [lower_eq, h3]; omega
  by_cases ha : r ≤ 127
  · have h := List.all_eq_true.1 ascii_ok r (List.mem_range.2 (by omega))
    exact fin _ (lower_eq r) h
  · cases hf : caseT.find? (fun x => inC x r) with
    | none =>
      have hlow : lower2 r = (r : Int) := by unfold lower2; rw [if_neg ha, hf]
      have e : toLowerU (r : Int) = (r : Int) := by rw [lower_eq, hlow]
      exact ⟨r, e, ⟨hv, hl⟩, e⟩
    | some x =>
      have hlow : lower2 r = convertR 1 (r : Int) x := by unfold lower2; rw [if_neg ha, hf]
      have hx := List.find?_some hf
      have hrow := List.all_eq_true.1 rows_ok x (List.mem_of_find?_eq_some hf)
      have hx' : x.1 ≤ r ∧ r ≤ x.2.1 := by simpa only [inC, Bool.and_eq_true, Nat.ble_eq] using hx
      unfold okRow at hrow
      have h := List.all_eq_true.1 hrow (r - x.1) (List.mem_range.2 (by omega))
      rw [show x.1 + (r - x.1) = r by omega] at h
      exact fin _ (by rw [lower_eq, hlow]) h
def lowN (r : Nat) : Nat := (toLowerU (r : Int)).toNat
theorem lowN_good {r : Nat} (h : LetR r) : toLowerU (r : Int) = ((lowN r : Nat) : Int) ∧ LetR (lowN r) ∧ lowN (lowN r) = lowN r := by
  obtain ⟨z, h1, h2, h3⟩ := low_good h
  have e : lowN r = z := by unfold lowN; rw [h1]; simp
  rw [e]
  exact ⟨h1, h2, by unfold lowN; rw [h3]; simp⟩
theorem encodeRune_ne (r : Int) : encodeRune r ≠ [] := fun e => by
  have := runeCells_le r
  rw [runeCells_length, e] at this
  simp at this
theorem encs_cons (r : Nat) (rs : List Nat) : encs (r :: rs) = encodeRune (r : Int) ++ encs rs := rfl
theorem lower_encs : ∀ rs : List Nat, (∀ r ∈ rs, LetR r) → lower (encs rs) = encs (rs.map lowN)
  | [], _ => rfl
  | r :: rs, h => by
    have hr := h r (.head _)
    have ih := lower_encs rs fun x hx => h x (.tail _ hx)
    have hd := encode_decode r hr.1 (encs rs)
    rw [encs_cons, lower_step (by simp [encodeRune_ne]), hd]
    simp only [List.drop_left, List.map_cons, encs_cons, ih]
    congr 1
    unfold lowC
    rw [(lowN_good hr).1]
/-- every word is made of letters -/
theorem words_encs : ∀ (n : Nat) (cs : List Nat) (l : List UInt8), l.length ≤ n → (∀ r ∈ cs, LetR r) → ∀ x ∈ wordsFrom (encs cs) l, ∃ rs : List Nat, x = encs rs ∧ ∀ r ∈ rs, LetR r
  | 0, cs, l, h, hc, x, hx => by
    rw [List.eq_nil_of_length_eq_zero (by omega : l.length = 0), wordsFrom_nil] at hx
    split at hx
    · cases hx
    · simp at hx
      exact ⟨cs, hx, hc⟩
  | n + 1, cs, l, h, hc, x, hx => by
    by_cases hne : l = []
    · rw [hne, wordsFrom_nil] at hx
      split at hx
      · cases hx
      · simp at hx
        exact ⟨cs, hx, hc⟩
    · have hw := decodeL_width l
      have hd : (l.drop (decodeL l).2).length ≤ n := by rw [List.length_drop]; omega
      rw [wordsFrom_step hne] at hx
      split at hx
      · rename_i hL
        have hb : (decodeL l).1 ≠ 65533 := fun e => by rw [e, isL_bad'] at hL; cases hL
        obtain ⟨hv, he⟩ := decode_encode l hne hb
        rw [he] at hx
        have e : encs cs ++ encodeRune ((decodeL l).1 : Int) = encs (cs ++ [(decodeL l).1]) := by simp [encs]
        rw [e] at hx
        refine words_encs n _ _ hd (fun r hr => ?_) x hx
        rcases List.mem_append.1 hr with hr | hr
        · exact hc r hr
        · simp at hr; rw [hr]; exact ⟨hv, hL⟩
      · rcases List.mem_append.1 hx with hx | hx
        · split at hx
          · cases hx
          · simp at hx
            exact ⟨cs, hx, hc⟩
        · exact words_encs n [] _ hd (fun r hr => by cases hr) x hx
/-- a word of letters, then a space -/
theorem wordsFrom_encs (t : List UInt8) : ∀ (zs : List Nat) (cur : List UInt8), (∀ r ∈ zs, LetR r) → wordsFrom cur (encs zs ++ 32 :: t) = (if cur ++ encs zs = [] then [] else [cur ++ encs zs]) ++ wordsFrom [] t
  | [], cur, _ => by
    have e : encs [] = [] := rfl
    rw [e, List.nil_append, List.append_nil, wordsFrom_step (by simp), decode_ascii' 32 t (by decide)]
    have : isL (UInt8.toNat 32, 1).1 = false := isL_space
    rw [if_neg (by rw [this]; simp)]
    rfl
  | z :: zs, cur, h => by
    have hz := h z (.head _)
    have ih := wordsFrom_encs t zs (cur ++ encodeRune (z : Int)) fun r hr => h r (.tail _ hr)
    have hd := encode_decode z hz.1 (encs zs ++ 32 :: t)
    rw [encs_cons, List.append_assoc, wordsFrom_step (by simp [encodeRune_ne]), hd]
    simp only [hz.2, if_true, List.take_left, List.drop_left]
    rw [ih, List.append_assoc]
theorem raw_join : ∀ L : List (List Nat), (∀ zs ∈ L, zs ≠ [] ∧ ∀ r ∈ zs, LetR r) → wordsFrom [] (L.flatMap fun zs => encs zs ++ [32]) = L.map encs
  | [], _ => rfl
  | zs :: L, h => by
    have hz := h zs (.head _)
    have ih := raw_join L fun x hx => h x (.tail _ hx)
    have hne : encs zs ≠ [] := by
      intro e
      match zs, hz.1 with
      | z :: zs, _ =>
        rw [encs_cons] at e
        exact encodeRune_ne _ (List.append_eq_nil_iff.1 e).1
    rw [List.flatMap_cons, List.append_assoc, List.singleton_append, wordsFrom_encs _ zs [] hz.2, ih, List.nil_append, if_neg hne]
    rfl
/-- **the words of the words are the same** -/
theorem words_stable (s : List UInt8) : words ((words s).flatMap fun w => w ++ [32]) = words s := by
  have h1 : ∀ x ∈ rawWords s, ∃ rs : List Nat, x = encs rs ∧ rs ≠ [] ∧ ∀ r ∈ rs, LetR r := fun x hx => by
    obtain ⟨rs, e, h⟩ := words_encs s.length [] s (Nat.le_refl _) (fun r hr => by cases hr) x hx
    refine ⟨rs, e, fun e' => ?_, h⟩
    have := (words_sum s.length [] s (Nat.le_refl _)).2 x hx
    subst e'
    exact this e
  obtain ⟨L, hL, hg⟩ : ∃ L : List (List Nat), rawWords s = L.map encs ∧ ∀ rs ∈ L, rs ≠ [] ∧ ∀ r ∈ rs, LetR r := by
    generalize rawWords s = R at h1
    induction R with
    | nil => exact ⟨[], rfl, fun _ h => by cases h⟩
    | cons x R ih =>
      obtain ⟨rs, e, h⟩ := h1 x (.head _)
      obtain ⟨L, e2, h2⟩ := ih fun y hy => h1 y (.tail _ hy)
      exact ⟨rs :: L, by rw [e, e2]; rfl, fun y hy => by
        rcases List.mem_cons.1 hy with rfl | hy
        · exact h
        · exact h2 y hy⟩
  have hw : words s = (L.map (List.map lowN)).map encs := by
    unfold words
    rw [hL, List.map_map, List.map_map]
    exact List.map_congr_left fun rs hrs => lower_encs rs (hg rs hrs).2
  have hg2 : ∀ zs ∈ L.map (List.map lowN), zs ≠ [] ∧ ∀ r ∈ zs, LetR r := by
    intro zs hzs
    obtain ⟨rs, hrs, rfl⟩ := List.mem_map.1 hzs
    refine ⟨by simpa using (hg rs hrs).1, fun r hr => ?_⟩
    obtain ⟨r0, hr0, rfl⟩ := List.mem_map.1 hr
    exact (lowN_good ((hg rs hrs).2 r0 hr0)).2.1
  have hj : (words s).flatMap (fun w => w ++ [32]) = (L.map (List.map lowN)).flatMap fun zs => encs zs ++ [32] := by
    rw [hw, List.flatMap_map]
  have hr := raw_join _ hg2
  conv => lhs; rw [hj]; unfold words rawWords
  unfold wordsFrom at hr
  rw [hr, hw, List.map_map, List.map_map, List.map_map]
  refine List.map_congr_left fun rs hrs => ?_
  have h2 := hg2 (rs.map lowN) (List.mem_map_of_mem hrs)
  show lower (encs (rs.map lowN)) = encs (rs.map lowN)
  rw [lower_encs _ h2.2, List.map_map]
  congr 1
  exact List.map_congr_left fun r hr => (lowN_good ((hg rs hrs).2 r hr)).2.2
end Sm
end Go.Proofs.YtinmpjhmbciapaaDoor
