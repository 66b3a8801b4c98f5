/-
  Contracts and plain facts, one after another: Words of words, words of texts with a full stop between them: plain lists of bytes; index.Add: what it computes; plain; What the laws of searching say, plain: the logic of queries; other texts do not matter; what is added is found.
-/
import Derived.Test.YtiohhajkegpebaaGreatDoorR11
import Derived.Test.YtiohhajkegpebaaGreatDoorR9
import Derived.Test.YtiohhajkegpebaaGreatDoorR10
namespace Go.Proofs.YtiohhajkegpebaaGreatDoor
namespace Sm
open Go.Lib
theorem isL_dot : isL 46 = false := by decide +kernel
theorem isL_space : isL 32 = false := by decide +kernel
theorem isL_bad' : isL 65533 = false := by decide +kernel
/-- an ASCII byte in front -/
theorem decode_ascii' (c : UInt8) (t : List UInt8) (h : c.toNat < 128) : decodeL (c :: t) = (c.toNat, 1) := by
  rw [decodeL_N]
  unfold decodeN
  rw [if_pos (by simpa using h)]
  rfl
/-- an ASCII byte behind does not change what is decoded in front of it -/
theorem decode_before (l : List UInt8) (c : UInt8) (t : List UInt8) (hne : l ≠ []) (hc : c.toNat < 128) : decodeL (l ++ c :: t) = decodeL l := by
  have hlen := List.length_pos_iff.2 hne
  have hc2 : c.toNat / 64 ≠ 2 := by omega
  have g : ∀ k, k < l.length → (l ++ c :: t).getD k 0 = l.getD k 0 := fun k hk => by simp [List.getD, List.getElem?_append_left hk]
  have gl : (l ++ c :: t).getD l.length 0 = c := by simp [List.getD]
  have hbig : l.length < (l ++ c :: t).length := by simp
  rw [decodeL_N, decodeL_N, g 0 hlen]
  generalize hn : (l ++ c :: t).length = n at hbig ⊢
  generalize hm : l.length = m at hlen hbig gl g ⊢
  unfold decodeN
  by_cases h1 : 1 < m
  · rw [g 1 h1]
    by_cases h2 : 2 < m
    · rw [g 2 h2]
      by_cases h3 : 3 < m
      · rw [g 3 h3]
        simp only [h1, h2, h3, show 1 < n by omega, show 2 < n by omega, show 3 < n by omega]
      · have e3 : 3 = m := by omega
        have g3 : (l ++ c :: t).getD 3 0 = c := by rw [e3]; exact gl
        rw [g3]
        simp only [h1, h2, h3, show 1 < n by omega, show 2 < n by omega, hc2, and_false, false_and, if_false]
    · have e2 : 2 = m := by omega
      have g2 : (l ++ c :: t).getD 2 0 = c := by rw [e2]; exact gl
      rw [g2]
      simp only [h1, h2, show ¬ 3 < m by omega, show 1 < n by omega, hc2, and_false, false_and, if_false]
  · have e1 : 1 = m := by omega
    have g1 : (l ++ c :: t).getD 1 0 = c := by rw [e1]; exact gl
    rw [g1]
    simp only [h1, hc2, and_false, false_and, if_false]
theorem drop_before (l : List UInt8) (c : UInt8) (t : List UInt8) {n : Nat} (h : n ≤ l.length) : (l ++ c :: t).drop n = l.drop n ++ c :: t := List.drop_append_of_le_length h
theorem take_before (l : List UInt8) (c : UInt8) (t : List UInt8) {n : Nat} (h : n ≤ l.length) : (l ++ c :: t).take n = l.take n := List.take_append_of_le_length h
/-- **a character between, that is no letter, parts the words** -/
theorem wordsFrom_sep (c : UInt8) (hc : c.toNat < 128) (hL : isL c.toNat = false) (t : List UInt8) : ∀ (n : Nat) (cur l : List UInt8), l.length ≤ n → wordsFrom cur (l ++ c :: t) = wordsFrom cur l ++ wordsFrom [] t
  | 0, cur, l, h => by
    rw [List.eq_nil_of_length_eq_zero (by omega : l.length = 0), List.nil_append, wordsFrom_step (by simp), decode_ascii' c t hc, wordsFrom_nil]
    simp [hL]
  | n + 1, cur, l, h => by
    by_cases hne : l = []
    · rw [hne, List.nil_append, wordsFrom_step (by simp), decode_ascii' c t hc, wordsFrom_nil]
      simp [hL]
    · have hw := decodeL_width l
      have hwl := width_le hne
      rw [wordsFrom_step (l := l ++ c :: t) (by simp), decode_before l c t hne hc, wordsFrom_step (l := l) hne, drop_before l c t hwl, take_before l c t hwl]
      have hd : (l.drop (decodeL l).2).length ≤ n := by rw [List.length_drop]; omega
      split
      · exact wordsFrom_sep c hc hL t n _ _ hd
      · rw [wordsFrom_sep c hc hL t n _ _ hd, List.append_assoc]
theorem words_join (a b : List UInt8) : words (a ++ 46 :: b) = words a ++ words b := by
  have h := wordsFrom_sep 46 (by decide) isL_dot b a.length [] a (Nat.le_refl _)
  unfold words rawWords
  unfold wordsFrom at h
  rw [h, List.map_append]

/-! ### runes -/
def validR (r : Nat) : Prop := r < 55296 ∨ (57344 ≤ r ∧ r ≤ 1114111)
/-- what was decoded, if not broken, stands there encoded -/
theorem u8_of {b : UInt8} {x : Int} (h : x = (b.toNat : Int)) : x.toNat.toUInt8 = b := by subst h; simp
theorem decode_encode (l : List UInt8) (hne : l ≠ []) (h : (decodeL l).1 ≠ 65533) : validR (decodeL l).1 ∧ l.take (decodeL l).2 = encodeRune ((decodeL l).1 : Int) := by
  rw [decodeL_N] at h ⊢
  match l, hne with
  | x0 :: l1, _ =>
    have h0 := x0.toNat_lt
    have e0 : (x0 :: l1).getD 0 0 = x0 := rfl
    rw [e0] at h ⊢
    by_cases c1 : x0.toNat < 128
    · have hd : ∀ n b1 b2 b3, decodeN n x0.toNat b1 b2 b3 = (x0.toNat, 1) := fun n b1 b2 b3 => by unfold decodeN; rw [if_pos c1]
      rw [hd]
      refine ⟨.inl (by show x0.toNat < 55296; omega), ?_⟩
      unfold encodeRune
      rw [encodeRuneZ_one (by simp) (by show (x0.toNat : Int) ≤ 127; omega)]
      simp
    · match l1 with
      | [] =>
        exfalso; apply h
        unfold decodeN
        simp [c1]
      | x1 :: l2 =>
        have h1 := x1.toNat_lt
        have e1 : (x0 :: x1 :: l2).getD 1 0 = x1 := rfl
        rw [e1] at h ⊢
        by_cases c2 : x0.toNat / 32 = 6 ∧ x1.toNat / 64 = 2
        · have hd : ∀ b2 b3, decodeN (x0 :: x1 :: l2).length x0.toNat x1.toNat b2 b3 = if x0.toNat % 32 * 64 + x1.toNat % 64 ≥ 128 then (x0.toNat % 32 * 64 + x1.toNat % 64, 2) else (65533, 1) := fun b2 b3 => by
            unfold decodeN
            rw [if_neg c1, if_pos ⟨c2.1, by simp, c2.2⟩]
          rw [hd] at h ⊢
          split at h
          · rename_i hg
            rw [if_pos hg]
            refine ⟨.inl (by show x0.toNat % 32 * 64 + x1.toNat % 64 < 55296; omega), ?_⟩
            unfold encodeRune
            rw [encodeRuneZ_two (by show (128 : Int) ≤ ((x0.toNat % 32 * 64 + x1.toNat % 64 : Nat) : Int); omega) (by show ((x0.toNat % 32 * 64 + x1.toNat % 64 : Nat) : Int) ≤ 2047; omega)]
            simp only [List.map_cons, List.map_nil, List.take_succ_cons, List.take_zero]
            rw [u8_of (b := x0) (by omega), u8_of (b := x1) (by omega)]
          · exact absurd rfl h
        · match l2 with
          | [] =>
            exfalso; apply h
            unfold decodeN
            rw [if_neg c1, if_neg (fun hh => c2 ⟨hh.1, hh.2.2⟩), if_neg (by simp), if_neg (by simp)]
          | x2 :: l3 =>
            have h2 := x2.toNat_lt
            have e2 : (x0 :: x1 :: x2 :: l3).getD 2 0 = x2 := rfl
            rw [e2] at h ⊢
            by_cases c3 : x0.toNat / 16 = 14 ∧ x1.toNat / 64 = 2 ∧ x2.toNat / 64 = 2
            · obtain ⟨r, hr⟩ : ∃ r, x0.toNat % 16 * 4096 + x1.toNat % 64 * 64 + x2.toNat % 64 = r := ⟨_, rfl⟩
              have hd : ∀ b3, decodeN (x0 :: x1 :: x2 :: l3).length x0.toNat x1.toNat x2.toNat b3 = if r ≥ 2048 ∧ (r < 55296 ∨ (57344 ≤ r ∧ r ≤ 1114111)) then (r, 3) else (65533, 1) := fun b3 => by
                unfold decodeN
                rw [if_neg c1, if_neg (fun hh => c2 ⟨hh.1, hh.2.2⟩), if_pos ⟨c3.1, ⟨by simp, c3.2.1⟩, by simp, c3.2.2⟩, hr]
              rw [hd] at h ⊢
              split at h
              · rename_i hg
                rw [if_pos hg]
                refine ⟨hg.2, ?_⟩
                unfold encodeRune
                rw [encodeRuneZ_three (by show (2048 ≤ (r : Int) ∧ (r : Int) < 55296) ∨ (57343 < (r : Int) ∧ (r : Int) ≤ 65535); omega)]
                simp only [List.map_cons, List.map_nil, List.take_succ_cons, List.take_zero]
                rw [u8_of (b := x0) (by omega), u8_of (b := x1) (by omega), u8_of (b := x2) (by omega)]
              · exact absurd rfl h
            · match l3 with
              | [] =>
                exfalso; apply h
                unfold decodeN
                rw [if_neg c1, if_neg (fun hh => c2 ⟨hh.1, hh.2.2⟩), if_neg (fun hh => c3 ⟨hh.1, hh.2.1.2, hh.2.2.2⟩), if_neg (by simp)]
              | x3 :: l4 =>
                have h3 := x3.toNat_lt
                have e3 : (x0 :: x1 :: x2 :: x3 :: l4).getD 3 0 = x3 := rfl
                rw [e3] at h ⊢
                by_cases c4 : x0.toNat / 8 = 30 ∧ x1.toNat / 64 = 2 ∧ x2.toNat / 64 = 2 ∧ x3.toNat / 64 = 2
                · obtain ⟨r, hr⟩ : ∃ r, x0.toNat % 8 * 262144 + x1.toNat % 64 * 4096 + x2.toNat % 64 * 64 + x3.toNat % 64 = r := ⟨_, rfl⟩
                  have hd : decodeN (x0 :: x1 :: x2 :: x3 :: l4).length x0.toNat x1.toNat x2.toNat x3.toNat = if r ≥ 65536 ∧ (r < 55296 ∨ (57344 ≤ r ∧ r ≤ 1114111)) then (r, 4) else (65533, 1) := by
                    unfold decodeN
                    rw [if_neg c1, if_neg (fun hh => c2 ⟨hh.1, hh.2.2⟩), if_neg (fun hh => c3 ⟨hh.1, hh.2.1.2, hh.2.2.2⟩), if_pos ⟨c4.1, ⟨by simp, c4.2.1⟩, ⟨by simp, c4.2.2.1⟩, by simp, c4.2.2.2⟩, hr]
                  rw [hd] at h ⊢
                  split at h
                  · rename_i hg
                    rw [if_pos hg]
                    refine ⟨hg.2, ?_⟩
                    unfold encodeRune
                    rw [encodeRuneZ_four (by show (65536 : Int) ≤ (r : Int); omega) (by show (r : Int) ≤ 1114111; omega)]
                    simp only [List.map_cons, List.map_nil, List.take_succ_cons, List.take_zero]
                    rw [u8_of (b := x0) (by omega), u8_of (b := x1) (by omega), u8_of (b := x2) (by omega), u8_of (b := x3) (by omega)]
                  · exact absurd rfl h
                · exfalso; apply h
                  unfold decodeN
                  rw [if_neg c1, if_neg (fun hh => c2 ⟨hh.1, hh.2.2⟩), if_neg (fun hh => c3 ⟨hh.1, hh.2.1.2, hh.2.2.2⟩), if_neg (fun hh => c4 ⟨hh.1, hh.2.1.2, hh.2.2.1.2, hh.2.2.2.2⟩)]
/-- what is encoded is decoded -/
theorem encode_decode (r : Nat) (h : validR r) (t : List UInt8) : decodeL (encodeRune (r : Int) ++ t) = (r, (encodeRune (r : Int)).length) := by
  unfold validR at h
  rw [decodeL_N]
  by_cases h1 : r ≤ 127
  · have e : encodeRune (r : Int) = [r.toUInt8] := by
      unfold encodeRune
      rw [encodeRuneZ_one (by omega) (by omega)]
      simp
    rw [e]
    unfold decodeN
    have hb : (([r.toUInt8] ++ t).getD 0 0).toNat = r := by simp [List.getD]; omega
    rw [hb, if_pos (by omega)]
    rfl
  · by_cases h2 : r ≤ 2047
    · have e : encodeRune (r : Int) = [(192 + r / 64).toUInt8, (128 + r % 64).toUInt8] := by
        unfold encodeRune
        rw [encodeRuneZ_two (by omega) (by omega)]
        simp only [List.map_cons, List.map_nil]
        rw [show (192 + (r : Int) / 64).toNat = 192 + r / 64 by omega, show (128 + (r : Int) % 64).toNat = 128 + r % 64 by omega]
      rw [e]
      have b0 : (([(192 + r / 64).toUInt8, (128 + r % 64).toUInt8] ++ t).getD 0 0).toNat = 192 + r / 64 := by simp [List.getD]; omega
      have b1 : (([(192 + r / 64).toUInt8, (128 + r % 64).toUInt8] ++ t).getD 1 0).toNat = 128 + r % 64 := by simp [List.getD]; omega
      have hl : ([(192 + r / 64).toUInt8, (128 + r % 64).toUInt8] ++ t).length = 2 + t.length := by simp; omega
      rw [b0, b1, hl]
      unfold decodeN
      rw [if_neg (by omega), if_pos (by omega), if_pos (by omega)]
      simp only [List.length_cons, List.length_nil, Prod.mk.injEq, and_true]
      omega
    · by_cases h3 : r ≤ 65535
      · have e : encodeRune (r : Int) = [(224 + r / 4096).toUInt8, (128 + r / 64 % 64).toUInt8, (128 + r % 64).toUInt8] := by
          unfold encodeRune
          rw [encodeRuneZ_three (by omega)]
          simp only [List.map_cons, List.map_nil]
          rw [show (224 + (r : Int) / 4096).toNat = 224 + r / 4096 by omega, show (128 + (r : Int) / 64 % 64).toNat = 128 + r / 64 % 64 by omega, show (128 + (r : Int) % 64).toNat = 128 + r % 64 by omega]
        rw [e]
        have b0 : (([(224 + r / 4096).toUInt8, (128 + r / 64 % 64).toUInt8, (128 + r % 64).toUInt8] ++ t).getD 0 0).toNat = 224 + r / 4096 := by simp [List.getD]; omega
        have b1 : (([(224 + r / 4096).toUInt8, (128 + r / 64 % 64).toUInt8, (128 + r % 64).toUInt8] ++ t).getD 1 0).toNat = 128 + r / 64 % 64 := by simp [List.getD]; omega
        have b2 : (([(224 + r / 4096).toUInt8, (128 + r / 64 % 64).toUInt8, (128 + r % 64).toUInt8] ++ t).getD 2 0).toNat = 128 + r % 64 := by simp [List.getD]; omega
        have hl : ([(224 + r / 4096).toUInt8, (128 + r / 64 % 64).toUInt8, (128 + r % 64).toUInt8] ++ t).length = 3 + t.length := by simp; omega
        rw [b0, b1, b2, hl]
        unfold decodeN
        rw [if_neg (by omega), if_neg (by omega), if_pos (by omega), if_pos (by omega)]
        simp only [List.length_cons, List.length_nil, Prod.mk.injEq, and_true]
        omega
      · have e : encodeRune (r : Int) = [(240 + r / 262144).toUInt8, (128 + r / 4096 % 64).toUInt8, (128 + r / 64 % 64).toUInt8, (128 + r % 64).toUInt8] := by
          unfold encodeRune
          rw [encodeRuneZ_four (by omega) (by omega)]
          simp only [List.map_cons, List.map_nil]
          rw [show (240 + (r : Int) / 262144).toNat = 240 + r / 262144 by omega, show (128 + (r : Int) / 4096 % 64).toNat = 128 + r / 4096 % 64 by omega, show (128 + (r : Int) / 64 % 64).toNat = 128 + r / 64 % 64 by omega, show (128 + (r : Int) % 64).toNat = 128 + r % 64 by omega]
        rw [e]
        have b0 : (([(240 + r / 262144).toUInt8, (128 + r / 4096 % 64).toUInt8, (128 + r / 64 % 64).toUInt8, (128 + r % 64).toUInt8] ++ t).getD 0 0).toNat = 240 + r / 262144 := by simp [List.getD]; omega
        have b1 : (([(240 + r / 262144).toUInt8, (128 + r / 4096 % 64).toUInt8, (128 + r / 64 % 64).toUInt8, (128 + r % 64).toUInt8] ++ t).getD 1 0).toNat = 128 + r / 4096 % 64 := by simp [List.getD]; omega
        have b2 : (([(240 + r / 262144).toUInt8, (128 + r / 4096 % 64).toUInt8, (128 + r / 64 % 64).toUInt8, (128 + r % 64).toUInt8] ++ t).getD 2 0).toNat = 128 + r / 64 % 64 := by simp [List.getD]; omega
        have b3 : (([(240 + r / 262144).toUInt8, (128 + r / 4096 % 64).toUInt8, (128 + r / 64 % 64).toUInt8, (128 + r % 64).toUInt8] ++ t).getD 3 0).toNat = 128 + r % 64 := by simp [List.getD]; omega
        have hl : ([(240 + r / 262144).toUInt8, (128 + r / 4096 % 64).toUInt8, (128 + r / 64 % 64).toUInt8, (128 + r % 64).toUInt8] ++ t).length = 4 + t.length := by simp; omega
        rw [b0, b1, b2, b3, hl]
        unfold decodeN
        rw [if_neg (by omega), if_neg (by omega), if_neg (by omega), if_pos (by omega), if_pos (by omega)]
        simp only [List.length_cons, List.length_nil, Prod.mk.injEq, and_true]
        omega
/-! ### every letter's lower form -/
def LetR (r : Nat) : Prop := validR r ∧ isL r = true
def encs (rs : List Nat) : List UInt8 := rs.flatMap fun (r : Nat) => encodeRune (r : Int)
theorem all_chain {α : Type} {p : α → Bool} {l : List α} {a k : Nat} (h1 : ((l.drop a).take k).all p = true) (h2 : (l.drop (a + k)).all p = true) : (l.drop a).all p = true := by
  rw [← List.take_append_drop k (l.drop a), List.all_append, h1, List.drop_drop, h2]; rfl
theorem rows_ok : caseT.all okRow = true := by
  have e : caseT.drop 336 = [] := by decide +kernel
  have h := all_chain ok0 (all_chain ok1 (all_chain ok2 (all_chain ok3 (all_chain ok4 (all_chain ok5 (all_chain ok6 (all_chain ok7 (all_chain ok8 (all_chain ok9 (all_chain ok10 (by rw [e]; rfl)))))))))))
  exact h
theorem ascii_ok : ((List.range 128).all fun r => okR r (lower2 r)) = true := by decide +kernel
theorem okR_good {r : Nat} {z : Int} (h : okR r z = true) (hl : isL2 r = true) : 0 ≤ z ∧ validR z.toNat ∧ isL2 z.toNat = true ∧ lower2 z.toNat = z := by
  unfold okR at h
  rw [hl] at h
  simp only [Bool.not_true, Bool.or_false, Bool.and_eq_true, decide_eq_true_eq, beq_iff_eq] at h
  exact ⟨h.1.1.1, h.1.1.2, h.1.2, h.2⟩
theorem low_good {r : Nat} (h : LetR r) : ∃ z : Nat, toLowerU (r : Int) = (z : Int) ∧ LetR z ∧ toLowerU (z : Int) = (z : Int) := by
  obtain ⟨hv, hl⟩ := h
  have hr : r ≤ 1114111 := by unfold validR at hv; omega
  have hl2 : isL2 r = true := by rw [← isL_eq r (by omega)]; exact hl
  have fin : ∀ z : Int, toLowerU (r : Int) = z → okR r z = true → ∃ z : Nat, toLowerU (r : Int) = (z : Int) ∧ LetR z ∧ toLowerU (z : Int) = (z : Int) := by
    intro z hz hok
    obtain ⟨h0, h1, h2, h3⟩ := okR_good hok hl2
    refine ⟨z.toNat, by rw [hz]; omega, ⟨h1, ?_⟩, ?_⟩
    · rw [isL_eq _ (by unfold validR at h1; omega)]; exact h2
    · rw [lower_eq, h3]; omega
  by_cases ha : r ≤ 127
  · have h := List.all_eq_true.1 ascii_ok r (List.mem_range.2 (by omega))
    exact fin _ (lower_eq r) h
  · cases hf : caseT.find? (fun x => inC x r) with
    | none =>
      have hlow : lower2 r = (r : Int) := by unfold lower2; rw [if_neg ha, hf]
      have e : toLowerU (r : Int) = (r : Int) := by rw [lower_eq, hlow]
      exact ⟨r, e, ⟨hv, hl⟩, e⟩
    | some x =>
      have hlow : lower2 r = convertR 1 (r : Int) x := by unfold lower2; rw [if_neg ha, hf]
      have hx := List.find?_some hf
      have hrow := List.all_eq_true.1 rows_ok x (List.mem_of_find?_eq_some hf)
      have hx' : x.1 ≤ r ∧ r ≤ x.2.1 := by simpa only [inC, Bool.and_eq_true, Nat.ble_eq] using hx
      unfold okRow at hrow
      have h := List.all_eq_true.1 hrow (r - x.1) (List.mem_range.2 (by omega))
      rw [show x.1 + (r - x.1) = r by omega] at h
      exact fin _ (by rw [lower_eq, hlow]) h
def lowN (r : Nat) : Nat := (toLowerU (r : Int)).toNat
theorem lowN_good {r : Nat} (h : LetR r) : toLowerU (r : Int) = ((lowN r : Nat) : Int) ∧ LetR (lowN r) ∧ lowN (lowN r) = lowN r := by
  obtain ⟨z, h1, h2, h3⟩ := low_good h
  have e : lowN r = z := by unfold lowN; rw [h1]; simp
  rw [e]
  exact ⟨h1, h2, by unfold lowN; rw [h3]; simp⟩
theorem encodeRune_ne (r : Int) : encodeRune r ≠ [] := fun e => by
  have := runeCells_le r
  rw [runeCells_length, e] at this
  simp at this
theorem encs_cons (r : Nat) (rs : List Nat) : encs (r :: rs) = encodeRune (r : Int) ++ encs rs := rfl
theorem lower_encs : ∀ rs : List Nat, (∀ r ∈ rs, LetR r) → lower (encs rs) = encs (rs.map lowN)
  | [], _ => rfl
  | r :: rs, h => by
    have hr := h r (.head _)
    have ih := lower_encs rs fun x hx => h x (.tail _ hx)
    have hd := encode_decode r hr.1 (encs rs)
    rw [encs_cons, lower_step (by simp [encodeRune_ne]), hd]
    simp only [List.drop_left, List.map_cons, encs_cons, ih]
    congr 1
    unfold lowC
    rw [(lowN_good hr).1]
/-- every word is made of letters -/
theorem words_encs : ∀ (n : Nat) (cs : List Nat) (l : List UInt8), l.length ≤ n → (∀ r ∈ cs, LetR r) → ∀ x ∈ wordsFrom (encs cs) l, ∃ rs : List Nat, x = encs rs ∧ ∀ r ∈ rs, LetR r
  | 0, cs, l, h, hc, x, hx => by
    rw [List.eq_nil_of_length_eq_zero (by omega : l.length = 0), wordsFrom_nil] at hx
    split at hx
    · cases hx
    · simp at hx
      exact ⟨cs, hx, hc⟩
  | n + 1, cs, l, h, hc, x, hx => by
    by_cases hne : l = []
    · rw [hne, wordsFrom_nil] at hx
      split at hx
      · cases hx
      · simp at hx
        exact ⟨cs, hx, hc⟩
    · have hw := decodeL_width l
      have hd : (l.drop (decodeL l).2).length ≤ n := by rw [List.length_drop]; omega
      rw [wordsFrom_step hne] at hx
      split at hx
      · rename_i hL
        have hb : (decodeL l).1 ≠ 65533 := fun e => by rw [e, isL_bad'] at hL; cases hL
        obtain ⟨hv, he⟩ := decode_encode l hne hb
        rw [he] at hx
        have e : encs cs ++ encodeRune ((decodeL l).1 : Int) = encs (cs ++ [(decodeL l).1]) := by simp [encs]
        rw [e] at hx
        refine words_encs n _ _ hd (fun r hr => ?_) x hx
        rcases List.mem_append.1 hr with hr | hr
        · exact hc r hr
        · simp at hr; rw [hr]; exact ⟨hv, hL⟩
      · rcases List.mem_append.1 hx with hx | hx
        · split at hx
          · cases hx
          · simp at hx
            exact ⟨cs, hx, hc⟩
        · exact words_encs n [] _ hd (fun r hr => by cases hr) x hx
/-- a word of letters, then a space -/
theorem wordsFrom_encs (t : List UInt8) : ∀ (zs : List Nat) (cur : List UInt8), (∀ r ∈ zs, LetR r) → wordsFrom cur (encs zs ++ 32 :: t) = (if cur ++ encs zs = [] then [] else [cur ++ encs zs]) ++ wordsFrom [] t
  | [], cur, _ => by
    have e : encs [] = [] := rfl
    rw [e, List.nil_append, List.append_nil, wordsFrom_step (by simp), decode_ascii' 32 t (by decide)]
    have : isL (UInt8.toNat 32, 1).1 = false := isL_space
    rw [if_neg (by rw [this]; simp)]
    rfl
  | z :: zs, cur, h => by
    have hz := h z (.head _)
    have ih := wordsFrom_encs t zs (cur ++ encodeRune (z : Int)) fun r hr => h r (.tail _ hr)
    have hd := encode_decode z hz.1 (encs zs ++ 32 :: t)
    rw [encs_cons, List.append_assoc, wordsFrom_step (by simp [encodeRune_ne]), hd]
    simp only [hz.2, if_true, List.take_left, List.drop_left]
    rw [ih, List.append_assoc]
theorem raw_join : ∀ L : List (List Nat), (∀ zs ∈ L, zs ≠ [] ∧ ∀ r ∈ zs, LetR r) → wordsFrom [] (L.flatMap fun zs => encs zs ++ [32]) = L.map encs
  | [], _ => rfl
  | zs :: L, h => by
    have hz := h zs (.head _)
    have ih := raw_join L fun x hx => h x (.tail _ hx)
    have hne : encs zs ≠ [] := by
      intro e
      match zs, hz.1 with
      | z :: zs, _ =>
        rw [encs_cons] at e
        exact encodeRune_ne _ (List.append_eq_nil_iff.1 e).1
    rw [List.flatMap_cons, List.append_assoc, List.singleton_append, wordsFrom_encs _ zs [] hz.2, ih, List.nil_append, if_neg hne]
    rfl
/-- **the words of the words are the same** -/
theorem words_stable (s : List UInt8) : words ((words s).flatMap fun w => w ++ [32]) = words s := by
  have h1 : ∀ x ∈ rawWords s, ∃ rs : List Nat, x = encs rs ∧ rs ≠ [] ∧ ∀ r ∈ rs, LetR r := fun x hx => by
    obtain ⟨rs, e, h⟩ := words_encs s.length [] s (Nat.le_refl _) (fun r hr => by cases hr) x hx
    refine ⟨rs, e, fun e' => ?_, h⟩
    have := (words_sum s.length [] s (Nat.le_refl _)).2 x hx
    subst e'
    exact this e
  obtain ⟨L, hL, hg⟩ : ∃ L : List (List Nat), rawWords s = L.map encs ∧ ∀ rs ∈ L, rs ≠ [] ∧ ∀ r ∈ rs, LetR r := by
    generalize rawWords s = R at h1
    induction R with
    | nil => exact ⟨[], rfl, fun _ h => by cases h⟩
    | cons x R ih =>
      obtain ⟨rs, e, h⟩ := h1 x (.head _)
      obtain ⟨L, e2, h2⟩ := ih fun y hy => h1 y (.tail _ hy)
      exact ⟨rs :: L, by rw [e, e2]; rfl, fun y hy => by
        rcases List.mem_cons.1 hy with rfl | hy
        · exact h
        · exact h2 y hy⟩
  have hw : words s = (L.map (List.map lowN)).map encs := by
    unfold words
    rw [hL, List.map_map, List.map_map]
    exact List.map_congr_left fun rs hrs => lower_encs rs (hg rs hrs).2
  have hg2 : ∀ zs ∈ L.map (List.map lowN), zs ≠ [] ∧ ∀ r ∈ zs, LetR r := by
    intro zs hzs
    obtain ⟨rs, hrs, rfl⟩ := List.mem_map.1 hzs
    refine ⟨by simpa using (hg rs hrs).1, fun r hr => ?_⟩
    obtain ⟨r0, hr0, rfl⟩ := List.mem_map.1 hr
    exact (lowN_good ((hg rs hrs).2 r0 hr0)).2.1
  have hj : (words s).flatMap (fun w => w ++ [32]) = (L.map (List.map lowN)).flatMap fun zs => encs zs ++ [32] := by
    rw [hw, List.flatMap_map]
  have hr := raw_join _ hg2
  conv => lhs; rw [hj]; unfold words rawWords
  unfold wordsFrom at hr
  rw [hr, hw, List.map_map, List.map_map, List.map_map]
  refine List.map_congr_left fun rs hrs => ?_
  have h2 := hg2 (rs.map lowN) (List.mem_map_of_mem hrs)
  show lower (encs (rs.map lowN)) = encs (rs.map lowN)
  rw [lower_encs _ h2.2, List.map_map]
  congr 1
  exact List.map_congr_left fun r hr => (lowN_good ((hg rs hrs).2 r hr)).2.2
end Sm
end Go.Proofs.YtiohhajkegpebaaGreatDoor
namespace Go.Proofs.YtiohhajkegpebaaGreatDoor
open Go.RowKit
set_option linter.unusedVariables false
theorem rise_len : ∀ {l : List Int} {lo hi : Int}, l.Pairwise (· < ·) → (∀ n ∈ l, lo ≤ n ∧ n ≤ hi) → lo ≤ hi + 1 → (l.length : Int) ≤ hi - lo + 1
  | [], lo, hi, _, _, h => by simp; omega
  | n :: r, lo, hi, hp, hb, h => by
    rw [List.pairwise_cons] at hp
    have h1 := hb n List.mem_cons_self
    have := rise_len (l := r) (lo := n + 1) (hi := hi) hp.2 (fun m hm => ⟨by have := hp.1 m hm; omega, (hb m (.tail _ hm)).2⟩) (by omega)
    rw [List.length_cons]; omega
theorem posts_len {ps : List Ix.Post} (h : Al.Sorted Ix.ltI ps) (hr : ∀ p ∈ ps, 1 ≤ p.1 ∧ p.1 ≤ 1000000) : ps.length ≤ 1000000 := by
  have := rise_len (lo := 1) (hi := 1000000) ((Ix.pair_sorted ps).2 h) (fun n hn => by obtain ⟨p, hp, rfl⟩ := List.mem_map.1 hn; exact hr p hp) (by omega)
  rw [List.length_map] at this
  omega
theorem places_len {l : List Int} (h : l.Pairwise (· < ·)) (hr : ∀ n ∈ l, 0 ≤ n ∧ n ≤ 1000000) : l.length ≤ 1000001 := by
  have := rise_len (lo := 0) (hi := 1000000) h hr (by omega)
  omega
theorem Ix.Canon.small {x : Ix.Idx} (h : Ix.Canon x) : Small x.1 x.2 :=
  ⟨by have := h.few; omega, h.many, fun t ht => by
    obtain ⟨_, h2, h3⟩ := h.post t ht
    exact ⟨posts_len h2 fun p hp => h.idr _ (h3 p hp).1, fun p hp => places_len (h3 p hp).2.2.1 (h3 p hp).2.2.2⟩⟩
theorem Ix.Canon.sz {x : Ix.Idx} (h : Ix.Canon x) : SzIx x.2 := fun t ht => by have := (h.small.posts t ht).1; omega
theorem room_add {x : Ix.Idx} (h : Ix.Canon x) {id : Int} {s : List Str} (h1 : 1 ≤ id ∧ id ≤ 1000000) (hid : id ∉ x.1) (hsl : s.length ≤ 1000000) : Room (Ix.putAll id s 0 x.2) := by
  have hwf := h.wf
  have hw' := Ix.Wf.putAll id s 0 hwf
  have hc := Ix.cont_putAll id s 0 hwf
  have key : ∀ t ∈ Ix.putAll id s 0 x.2, ∀ p ∈ t.2, p.2.length ≤ 2000000 ∧ 1 ≤ p.1 ∧ p.1 ≤ 1000000 := by
    intro t ht p hp
    have e := Ix.cont_mem hw' ht hp
    have hne := (hw'.post t ht).2.2 p hp
    rw [hc] at e
    split at e
    · rename_i hi
      rw [Ix.strange h hid, List.nil_append] at e
      have ho := Ix.occ_range t.1 s 0
      rw [e] at ho
      have := places_len ho.1 fun n hn => by have := ho.2 n hn; omega
      exact ⟨by omega, by rw [hi]; exact h1⟩
    · rename_i hi
      rw [← e] at hne
      obtain ⟨t', ht', e1, p', hp', e2, e3⟩ := Ix.mem_cont hne
      have h2 := (h.post t' ht').2.2 p' hp'
      rw [e3, e, e2] at h2
      have := places_len h2.2.2.1 h2.2.2.2
      exact ⟨by omega, h.idr _ h2.1⟩
  have hl := Ix.putAll_len id x.2 s 0 [] hwf (fun w => by simp)
  have hf := Ix.fresh_le x.2 s []
  have hm := h.many
  refine ⟨by omega, fun t ht => ⟨?_, key t ht⟩⟩
  have := posts_len (hw'.post t ht).2.1 fun p hp => (key t ht p hp).2
  omega
theorem putAll_snoc (id : Int) (w : Str) : ∀ (s : List Str) (n : Nat) (ts : List Ix.Term), Ix.putAll id (s ++ [w]) n ts = Ix.putT id ((n + s.length : Nat) : Int) w (Ix.putAll id s n ts)
  | [], n, ts => rfl
  | a :: s, n, ts => by
    rw [List.cons_append, Ix.putAll, Ix.putAll, putAll_snoc id w s (n + 1), List.length_cons, show n + 1 + s.length = n + (s.length + 1) by omega]
theorem putAll_take (id : Int) (L : List Str) (ts : List Ix.Term) {k : Nat} (hk : k < L.length) : Ix.putAll id (L.take (k + 1)) 0 ts = Ix.putT id (k : Int) L[k] (Ix.putAll id (L.take k) 0 ts) := by
  rw [List.take_succ_eq_append_getElem hk, putAll_snoc, List.length_take, Nat.min_eq_left (by omega), Nat.zero_add]
theorem insId_countP {id : Int} : ∀ {ids : List Int}, ids.Pairwise (· < ·) → id ∉ ids → Ix.insId ids id = ids.take (ids.countP (· < id)) ++ id :: ids.drop (ids.countP (· < id))
  | [], _, _ => rfl
  | n :: r, hp, hn => by
    rw [List.pairwise_cons] at hp
    rw [List.mem_cons, not_or] at hn
    have ih := insId_countP hp.2 hn.2
    unfold Ix.insId at ih ⊢
    by_cases h : n < id
    · rw [List.countP_cons_of_pos (by simpa using h), List.take_succ_cons, List.drop_succ_cons, List.filter_cons_of_pos (by simpa using h), List.filter_cons_of_neg (by simp; omega), List.cons_append, List.cons_append, ih]
    · have h0 : ∀ m ∈ r, id < m := fun m hm => by have := hp.1 m hm; omega
      have hc : r.countP (· < id) = 0 := List.countP_eq_zero.2 fun m hm => by have := h0 m hm; simp; omega
      have hf : r.filter (fun m => decide (m < id)) = [] := List.filter_eq_nil_iff.2 fun m hm => by have := h0 m hm; simp; omega
      have hg : r.filter (fun m => decide (id < m)) = r := List.filter_eq_self.2 fun m hm => by have := h0 m hm; simpa using this
      rw [List.countP_cons_of_neg (by simpa using h), hc, List.filter_cons_of_neg (by simpa using h), hf, List.filter_cons_of_pos (by simp; omega), hg]
      rfl
theorem countP_le (ids : List Int) (id : Int) : ids.countP (· < id) ≤ ids.length := List.countP_le_length
/-! ### the words of a text -/
theorem lowN_ascii {r : Nat} (h : r < 128) : Sm.lowN r < 128 := by
  have h1 : (List.range 128).all (fun r => decide ((Sm.lower2 r).toNat < 128)) = true := by decide +kernel
  unfold Sm.lowN
  rw [Sm.lower_eq]
  exact of_decide_eq_true (List.all_eq_true.1 h1 r (List.mem_range.2 h))
theorem enc_small (r : Nat) : 1 ≤ (Go.Lib.encodeRune (r : Int)).length ∧ (Go.Lib.encodeRune (r : Int)).length ≤ 4 := by
  rw [← Go.Lib.runeCells_length]
  exact Go.Lib.runeCells_le _
theorem enc_low (r : Nat) : (Go.Lib.encodeRune (Sm.lowN r : Int)).length ≤ 2 * (Go.Lib.encodeRune (r : Int)).length := by
  by_cases h : r < 128
  · have h2 := lowN_ascii h
    have e : ∀ n : Nat, n < 128 → (Go.Lib.encodeRune (n : Int)).length = 1 := by
      intro n hn
      rw [show Go.Lib.encodeRune (n : Int) = (Go.Lib.encodeRuneZ (n : Int)).map fun x => x.toNat.toUInt8 from rfl, Go.Lib.encodeRuneZ_one (by omega) (by omega)]
      rfl
    rw [e r h, e _ h2]
    omega
  · have h1 := (enc_small (Sm.lowN r)).2
    have h2 : 2 ≤ (Go.Lib.encodeRune (r : Int)).length := by
      unfold Go.Lib.encodeRune
      rw [List.length_map]
      unfold Go.Lib.encodeRuneZ
      rw [if_neg (by omega)]
      split
      · simp
      · split
        · simp
        · split <;> simp
    omega
theorem encs_low : ∀ rs : List Nat, (Sm.encs (rs.map Sm.lowN)).length ≤ 2 * (Sm.encs rs).length
  | [] => Nat.le_refl _
  | r :: rs => by
    have := encs_low rs
    have := enc_low r
    rw [List.map_cons, Sm.encs_cons, Sm.encs_cons, List.length_append, List.length_append]
    omega
theorem rawWords_len {s x : Str} (hx : x ∈ Sm.rawWords s) : x.length ≤ s.length := by
  have h := (Sm.words_sum s.length [] s (Nat.le_refl _)).1
  have : ∀ (l : List Nat) (n : Nat), n ∈ l → n ≤ l.sum := by
    intro l
    induction l with
    | nil => intro n hn; cases hn
    | cons a l ih => intro n hn; rw [List.sum_cons]; rcases List.mem_cons.1 hn with e | e; · omega
                     · have := ih n e; omega
  have := this _ _ (List.mem_map_of_mem (f := List.length) hx)
  unfold Sm.rawWords at this
  unfold Sm.wordsFrom at h
  simp only [List.length_nil] at h
  omega
theorem word_len {s x : Str} (hx : x ∈ Sm.words s) : x ≠ [] ∧ x.length ≤ 2 * s.length := by
  unfold Sm.words at hx
  obtain ⟨y, hy, rfl⟩ := List.mem_map.1 hx
  have hl := rawWords_len hy
  have hne := (Sm.words_sum s.length [] s (Nat.le_refl _)).2 y hy
  obtain ⟨rs, rfl, hr⟩ := Sm.words_encs s.length [] s (Nat.le_refl _) (fun r h => by cases h) y hy
  rw [Sm.lower_encs rs hr]
  have := encs_low rs
  refine ⟨fun e => ?_, by omega⟩
  cases rs with
  | nil => exact hne rfl
  | cons r rs =>
    rw [List.map_cons, Sm.encs_cons] at e
    have := (List.append_eq_nil_iff.1 e).1
    have h2 := (enc_small (Sm.lowN r)).1
    rw [this] at h2
    simp at h2
theorem stems_word {s w : Str} (h : w ∈ Sm.stems s) : w ≠ [] ∧ w.length ≤ 2 * s.length := by
  unfold Sm.stems at h
  obtain ⟨y, hy, rfl⟩ := List.mem_map.1 h
  have := word_len hy
  have h2 := Sm.stem_len y
  exact ⟨Sm.stem_ne this.1, by omega⟩
theorem len_le_sum' : ∀ {l : List Nat}, (∀ x ∈ l, 0 < x) → l.length ≤ l.sum
  | [], _ => Nat.le_refl _
  | a :: l, h => by
    have := len_le_sum' fun x hx => h x (.tail _ hx)
    have := h a (.head _)
    rw [List.length_cons, List.sum_cons]; omega
theorem stems_count (s : Str) : (Sm.stems s).length ≤ s.length := by
  have h1 := Sm.words_sum s.length [] s (Nat.le_refl _)
  have h2 := len_le_sum' (l := (Sm.rawWords s).map List.length) (fun x hx => by
    obtain ⟨y, hy, rfl⟩ := List.mem_map.1 hx
    exact List.length_pos_iff.2 (h1.2 y hy))
  rw [List.length_map] at h2
  have h3 := h1.1
  simp only [List.length_nil, Nat.zero_add] at h3
  unfold Sm.stems Sm.words
  rw [List.length_map, List.length_map]
  unfold Sm.rawWords at h2 ⊢
  unfold Sm.wordsFrom at h3
  omega
/-! ### what Add computes -/
namespace Ix
def addR (x : Idx) (id : Int) (t : Str) : Idx × Int × Int :=
  if (indexF x).1 ≠ 0 then (([], []), indexF x)
  else if 4000 < t.length then (([], []), 1, -1)
  else if id < 1 then (([], []), 3, -3)
  else if 1000000 < id then (([], []), 3, -3)
  else if id ∈ x.1 then (([], []), 7, -3)
  else if x.1.length = 300 then (([], []), 2, -3)
  else if 1000000 < (putAll id (Sm.stems t) 0 x.2).length then (([], []), 2, -2)
  else (addF x id (Sm.stems t), 0, 0)
theorem addR_good {x : Idx} {id : Int} {t : Str} (h : (addR x id t).2.1 = 0) : addR x id t = (addF x id (Sm.stems t), 0, 0) ∧ Canon x ∧ (1 ≤ id ∧ id ≤ 1000000) ∧ id ∉ x.1 ∧ Canon (addF x id (Sm.stems t)) := by
  unfold addR at h ⊢
  split at h
  · rename_i h0; exact absurd h h0
  rename_i h0
  split at h
  · simp at h
  rename_i h1
  split at h
  · simp at h
  rename_i h2
  split at h
  · simp at h
  rename_i h3
  split at h
  · simp at h
  rename_i h4
  split at h
  · simp at h
  rename_i h5
  split at h
  · simp at h
  rename_i h6
  have hc := (indexF_zero x).1 (by simpa using h0)
  have hr : 1 ≤ id ∧ id ≤ 1000000 := by omega
  rw [if_neg h0, if_neg h1, if_neg h2, if_neg h3, if_neg h4, if_neg h5, if_neg h6]
  exact ⟨rfl, hc, hr, h4, canon_add hc hr h4 (by have := hc.few; omega) (fun w hw => by have := stems_word hw; exact ⟨this.1, by omega⟩) (by have := stems_count t; omega) (by omega)⟩
end Ix
end Go.Proofs.YtiohhajkegpebaaGreatDoor
namespace Go.Proofs.YtiohhajkegpebaaGreatDoor
set_option linter.unusedVariables false
namespace Sr
open Q
theorem prefix_iff {x : Ix.Idx} (h : Ix.Wf x.2) (s : Str) (id : Int) : prefixF x s id = true ↔ ∃ w, s.isPrefixOf w = true ∧ Ix.cont x.2 w id ≠ [] := by
  unfold prefixF
  rw [List.any_eq_true]
  constructor
  · rintro ⟨t, ht, hb⟩
    rw [Bool.and_eq_true, List.any_eq_true] at hb
    obtain ⟨h1, p, hp, h2⟩ := hb
    have e : p.1 = id := by simpa using h2
    refine ⟨t.1, h1, ?_⟩
    rw [← e, Ix.cont_mem h ht hp]
    exact (h.2 t ht).2.2 p hp
  · rintro ⟨w, h1, h2⟩
    obtain ⟨t, ht, rfl, p, hp, e, _⟩ := Ix.mem_cont h2
    refine ⟨t, ht, ?_⟩
    rw [Bool.and_eq_true, List.any_eq_true]
    exact ⟨h1, p, hp, by simpa using e⟩
/-- a query finds alike where the places are alike -/
theorem finds_same {x y : Ix.Idx} (hx : Ix.Wf x.2) (hy : Ix.Wf y.2) {id : Int} (h : ∀ w, Ix.cont x.2 w id = Ix.cont y.2 w id) : ∀ (f : Nat) (q : Q), findsF f x q id = findsF f y q id
  | 0, _ => rfl
  | f + 1, q => by
    have hp : ∀ w, places x w id = places y w id := fun w => h _
    have hpre : prefixF x q.text id = prefixF y q.text id := by
      have : prefixF x q.text id = true ↔ prefixF y q.text id = true := by
        rw [prefix_iff hx, prefix_iff hy]
        simp only [h]
      exact Bool.eq_iff_iff.2 this
    have hrow : ∀ (l : List Str) (a k : Int), rowAt x id a l k = rowAt y id a l k := by
      intro l
      induction l with
      | nil => intro a k; rfl
      | cons w l ih => intro a k; rw [rowAt, rowAt, hp, ih]
    have hph : phraseF x (splitS q.text) id = phraseF y (splitS q.text) id := by
      unfold phraseF
      rw [hp]
      exact any_same fun a _ => hrow _ _ _
    have hne : ∀ a b, nearF x a b q.num id = nearF y a b q.num id := fun a b => by unfold nearF; rw [hp, hp]
    have hr := fun p => finds_same hx hy h f p
    rw [findsF, findsF, hp, hpre, hph, hne]
    simp only [hr]
/-- the logic -/
theorem found_mem {x : Ix.Idx} {q : Q} {id : Int} (h : id ∈ x.1) : (foundF x q).contains id = findsF 8 x q id := by
  unfold foundF
  rw [Bool.eq_iff_iff, List.contains_iff_mem, List.mem_filter]
  simp [h]
theorem part_fits {q p : Q} (h : (fault q).1 = 0) (hp : p ∈ q.parts) (h' : (fault p).1 = 0) (x : Ix.Idx) (id : Int) : findsF 7 x p id = findsF 8 x p id := by
  have hf : Fits 7 p := (fault_zero.1 h).1 p hp
  have hne := notempty h'
  exact (findsF_fits x id hf (hne p (pre_self (fault_zero.1 h').1)) fun r hr => hne r (by rw [pre_fits hf]; exact hr)).symm
theorem obeys {x : Ix.Idx} {p q : Q} (hp : (fault p).1 = 0) (hq : (fault q).1 = 0) (h1 : (fault (.node 8 [] 0 [p])).1 = 0) (h2 : (fault (.node 6 [] 0 [p, q])).1 = 0) (h3 : (fault (.node 7 [] 0 [p, q])).1 = 0) (id : Int) :
    findsF 8 x (.node 8 [] 0 [p]) id = !findsF 8 x p id ∧ findsF 8 x (.node 6 [] 0 [p, q]) id = (findsF 8 x p id && findsF 8 x q id) ∧ findsF 8 x (.node 7 [] 0 [p, q]) id = (findsF 8 x p id || findsF 8 x q id) := by
  have a1 := part_fits h1 (p := p) (by simp) hp x id
  have a2 := part_fits h2 (p := p) (by simp) hp x id
  have a3 := part_fits h2 (p := q) (by simp) hq x id
  refine ⟨?_, ?_, ?_⟩
  · rw [show (8 : Nat) = 7 + 1 from rfl, findsF]
    simp [a1]
  · rw [show (8 : Nat) = 7 + 1 from rfl, findsF]
    simp [a2, a3]
  · rw [show (8 : Nat) = 7 + 1 from rfl, findsF]
    simp [a2, a3]
/-- other texts -/
theorem others {x : Ix.Idx} (h : Ix.Canon x) {id i : Int} (hi : i ≠ id) (s : List Str) (hc : Ix.Canon (Ix.addF x id s)) (q : Q) : findsF 8 (Ix.addF x id s) q i = findsF 8 x q i :=
  finds_same hc.wf h.wf (fun w => by
    show Ix.cont (Ix.putAll id s 0 x.2) w i = _
    rw [Ix.cont_putAll id s 0 h.wf, if_neg hi]) 8 q
theorem others_len {x : Ix.Idx} (h : Ix.Canon x) {id : Int} (hid : id ∉ x.1) (s : List Str) (hc : Ix.Canon (Ix.addF x id s)) (q : Q) : (foundF (Ix.addF x id s) q).length ≤ (foundF x q).length + 1 := by
  unfold foundF
  have hs : ∀ l : List Int, (∀ i ∈ l, i ≠ id) → l.filter (fun i => findsF 8 (Ix.addF x id s) q i) = l.filter (fun i => findsF 8 x q i) := fun l hl => List.filter_congr fun i hi => others h (hl i hi) s hc q
  show ((Ix.insId x.1 id).filter _).length ≤ _
  have e := Ix.filter_parts hid h.ids
  have e2 := congrArg (fun l => (l.filter fun i => findsF 8 x q i).length) e
  unfold Ix.insId
  simp only [List.filter_append, List.length_append, List.filter_cons] at e2 ⊢
  rw [hs _ (fun i hi => by have := (List.mem_filter.1 hi).2; intro e; subst e; simp at this), hs _ (fun i hi => by have := (List.mem_filter.1 hi).2; intro e; subst e; simp at this)]
  split
  · rw [List.length_cons]; omega
  · omega
end Sr
end Go.Proofs.YtiohhajkegpebaaGreatDoor
