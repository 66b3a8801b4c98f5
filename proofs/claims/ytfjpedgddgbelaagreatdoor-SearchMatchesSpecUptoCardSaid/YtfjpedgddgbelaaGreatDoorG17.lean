/-
  Contracts and plain facts, one after another: Words of words, words of texts with a full stop between them: plain lists of bytes; index.Add: what it computes; plain; index.Add: the state in which places are added.
-/
import Derived.Test.YtfjpedgddgbelaaGreatDoorG16
import Derived.Test.YtfjpedgddgbelaaGreatDoorG12
import Derived.Test.YtfjpedgddgbelaaGreatDoorG7
import Derived.Test.YtfjpedgddgbelaaGreatDoorG14
namespace Go.Proofs.YtfjpedgddgbelaaGreatDoor
namespace Sm
open Go.Lib
theorem isL_dot : isL 46 = false := by decide +kernel
theorem isL_space : isL 32 = false := by decide +kernel
theorem isL_bad' : isL 65533 = false := by decide +kernel
/-- an ASCII byte in front -/
theorem decode_ascii' (c : UInt8) (t : List UInt8) (h : c.toNat < 128) : decodeL (c :: t) = (c.toNat, 1) := by
  rw [decodeL_N]
  unfold decodeN
  rw [if_pos (by simpa using h)]
  rfl
/-- an ASCII byte behind does not change what is decoded in front of it -/
theorem decode_before (l : List UInt8) (c : UInt8) (t : List UInt8) (hne : l ≠ []) (hc : c.toNat < 128) : decodeL (l ++ c :: t) = decodeL l := by
  have hlen := List.length_pos_iff.2 hne
  have hc2 : c.toNat / 64 ≠ 2 := by omega
  have g : ∀ k, k < l.length → (l ++ c :: t).getD k 0 = l.getD k 0 := fun k hk => by simp [List.getD, List.getElem?_append_left hk]
  have gl : (l ++ c :: t).getD l.length 0 = c := by simp [List.getD]
  have hbig : l.length < (l ++ c :: t).length := by simp
  rw [decodeL_N, decodeL_N, g 0 hlen]
  generalize hn : (l ++ c :: t).length = n at hbig ⊢
  generalize hm : l.length = m at hlen hbig gl g ⊢
  unfold decodeN
  by_cases h1 : 1 < m
  · rw [g 1 h1]
    by_cases h2 : 2 < m
    · rw [g 2 h2]
      by_cases h3 : 3 < m
      · rw [g 3 h3]
        simp only [h1, h2, h3, show 1 < n by omega, show 2 < n by omega, show 3 < n by omega]
      · have e3 : 3 = m := by omega
        have g3 : (l ++ c :: t).getD 3 0 = c := by rw [e3]; exact gl
        rw [g3]
        simp only [h1, h2, h3, show 1 < n by omega, show 2 < n by omega, hc2, and_false, false_and, if_false]
    · have e2 : 2 = m := by omega
      have g2 : (l ++ c :: t).getD 2 0 = c := by rw [e2]; exact gl
      rw [g2]
      simp only [h1, h2, show ¬ 3 < m by omega, show 1 < n by omega, hc2, and_false, false_and, if_false]
  · have e1 : 1 = m := by omega
    have g1 : (l ++ c :: t).getD 1 0 = c := by rw [e1]; exact gl
    rw [g1]
    simp only [h1, hc2, and_false, false_and, if_false]
theorem drop_before (l : List UInt8) (c : UInt8) (t : List UInt8) {n : Nat} (h : n ≤ l.length) : (l ++ c :: t).drop n = l.drop n ++ c :: t := List.drop_append_of_le_length h
theorem take_before (l : List UInt8) (c : UInt8) (t : List UInt8) {n : Nat} (h : n ≤ l.length) : (l ++ c :: t).take n = l.take n := List.take_append_of_le_length h
/-- **a character between, that is no letter, parts the words** -/
theorem wordsFrom_sep (c : UInt8) (hc : c.toNat < 128) (hL : isL c.toNat = false) (t : List UInt8) : ∀ (n : Nat) (cur l : List UInt8), l.length ≤ n → wordsFrom cur (l ++ c :: t) = wordsFrom cur l ++ wordsFrom [] t
  | 0, cur, l, h => by
    rw [List.eq_nil_of_length_eq_zero (by omega : l.length = 0), List.nil_append, wordsFrom_step (by simp), decode_ascii' c t hc, wordsFrom_nil]
    simp [hL]
  | n + 1, cur, l, h => by
    by_cases hne : l = []
    · rw [hne, List.nil_append, wordsFrom_step (by simp), decode_ascii' c t hc, wordsFrom_nil]
      simp [hL]
    · have hw := decodeL_width l
      have hwl := width_le hne
      rw [wordsFrom_step (l := l ++ c :: t) (by simp), decode_before l c t hne hc, wordsFrom_step (l := l) hne, drop_before l c t hwl, take_before l c t hwl]
      have hd : (l.drop (decodeL l).2).length ≤ n := by rw [List.length_drop]; omega
      split
      · exact wordsFrom_sep c hc hL t n _ _ hd
      · rw [wordsFrom_sep c hc hL t n _ _ hd, List.append_assoc]
theorem words_join (a b : List UInt8) : words (a ++ 46 :: b) = words a ++ words b := by
  have h := wordsFrom_sep 46 (by decide) isL_dot b a.length [] a (Nat.le_refl _)
  unfold words rawWords
  unfold wordsFrom at h
  rw [h, List.map_append]

/-! ### runes -/
def validR (r : Nat) : Prop := r < 55296 ∨ (57344 ≤ r ∧ r ≤ 1114111)
/-- what was decoded, if not broken, stands there encoded -/
theorem u8_of {b : UInt8} {x : Int} (h : x = (b.toNat : Int)) : x.toNat.toUInt8 = b := by subst h; simp
theorem decode_encode (l : List UInt8) (hne : l ≠ []) (h : (decodeL l).1 ≠ 65533) : validR (decodeL l).1 ∧ l.take (decodeL l).2 = encodeRune ((decodeL l).1 : Int) := by
  rw [decodeL_N] at h ⊢
  match l, hne with
  | x0 :: l1, _ =>
    have h0 := x0.toNat_lt
    have e0 : (x0 :: l1).getD 0 0 = x0 := rfl
    rw [e0] at h ⊢
    by_cases c1 : x0.toNat < 128
    · have hd : ∀ n b1 b2 b3, decodeN n x0.toNat b1 b2 b3 = (x0.toNat, 1) := fun n b1 b2 b3 => by unfold decodeN; rw [if_pos c1]
      rw [hd]
      refine ⟨.inl (by show x0.toNat < 55296; omega), ?_⟩
      unfold encodeRune
      rw [encodeRuneZ_one (by simp) (by show (x0.toNat : Int) ≤ 127; omega)]
      simp
    · match l1 with
      | [] =>
        exfalso; apply h
        unfold decodeN
        simp [c1]
      | x1 :: l2 =>
        have h1 := x1.toNat_lt
        have e1 : (x0 :: x1 :: l2).getD 1 0 = x1 := rfl
        rw [e1] at h ⊢
        by_cases c2 : x0.toNat / 32 = 6 ∧ x1.toNat / 64 = 2
        · have hd : ∀ b2 b3, decodeN (x0 :: x1 :: l2).length x0.toNat x1.toNat b2 b3 = if x0.toNat % 32 * 64 + x1.toNat % 64 ≥ 128 then (x0.toNat % 32 * 64 + x1.toNat % 64, 2) else (65533, 1) := fun b2 b3 => by
            unfold decodeN
            rw [if_neg c1, if_pos ⟨c2.1, by simp, c2.2⟩]
          rw [hd] at h ⊢
          split at h
          · rename_i hg
            rw [if_pos hg]
            refine ⟨.inl (by show x0.toNat % 32 * 64 + x1.toNat % 64 < 55296; omega), ?_⟩
            unfold encodeRune
            rw [encodeRuneZ_two (by show (128 : Int) ≤ ((x0.toNat % 32 * 64 + x1.toNat % 64 : Nat) : Int); omega) (by show ((x0.toNat % 32 * 64 + x1.toNat % 64 : Nat) : Int) ≤ 2047; omega)]
            simp only [List.map_cons, List.map_nil, List.take_succ_cons, List.take_zero]
            rw [u8_of (b := x0) (by omega), u8_of (b := x1) (by omega)]
          · exact absurd rfl h
        · match l2 with
          | [] =>
            exfalso; apply h
            unfold decodeN
            rw [if_neg c1, if_neg (fun hh => c2 ⟨hh.1, hh.2.2⟩), if_neg (by simp), if_neg (by simp)]
          | x2 :: l3 =>
            have h2 := x2.toNat_lt
            have e2 : (x0 :: x1 :: x2 :: l3).getD 2 0 = x2 := rfl
            rw [e2] at h ⊢
            by_cases c3 : x0.toNat / 16 = 14 ∧ x1.toNat / 64 = 2 ∧ x2.toNat / 64 = 2
            · obtain ⟨r, hr⟩ : ∃ r, x0.toNat % 16 * 4096 + x1.toNat % 64 * 64 + x2.toNat % 64 = r := ⟨_, rfl⟩
              have hd : ∀ b3, decodeN (x0 :: x1 :: x2 :: l3).length x0.toNat x1.toNat x2.toNat b3 = if r ≥ 2048 ∧ (r < 55296 ∨ (57344 ≤ r ∧ r ≤ 1114111)) then (r, 3) else (65533, 1) := fun b3 => by
                unfold decodeN
                rw [if_neg c1, if_neg (fun hh => c2 ⟨hh.1, hh.2.2⟩), if_pos ⟨c3.1, ⟨by simp, c3.2.1⟩, by simp, c3.2.2⟩, hr]
              rw [hd] at h ⊢
              split at h
              · rename_i hg
                rw [if_pos hg]
                refine ⟨hg.2, ?_⟩
                unfold encodeRune
                rw [encodeRuneZ_three (by show (2048 ≤ (r : Int) ∧ (r : Int) < 55296) ∨ (57343 < (r : Int) ∧ (r : Int) ≤ 65535); omega)]
                simp only [List.map_cons, List.map_nil, List.take_succ_cons, List.take_zero]
                rw [u8_of (b := x0) (by omega), u8_of (b := x1) (by omega), u8_of (b := x2) (by omega)]
              · exact absurd rfl h
            · match l3 with
              | [] =>
                exfalso; apply h
                unfold decodeN
                rw [if_neg c1, if_neg (fun hh => c2 ⟨hh.1, hh.2.2⟩), if_neg (fun hh => c3 ⟨hh.1, hh.2.1.2, hh.2.2.2⟩), if_neg (by simp)]
              | x3 :: l4 =>
                have h3 := x3.toNat_lt
                have e3 : (x0 :: x1 :: x2 :: x3 :: l4).getD 3 0 = x3 := rfl
                rw [e3] at h ⊢
                by_cases c4 : x0.toNat / 8 = 30 ∧ x1.toNat / 64 = 2 ∧ x2.toNat / 64 = 2 ∧ x3.toNat / 64 = 2
                · obtain ⟨r, hr⟩ : ∃ r, x0.toNat % 8 * 262144 + x1.toNat % 64 * 4096 + x2.toNat % 64 * 64 + x3.toNat % 64 = r := ⟨_, rfl⟩
                  have hd : decodeN (x0 :: x1 :: x2 :: x3 :: l4).length x0.toNat x1.toNat x2.toNat x3.toNat = if r ≥ 65536 ∧ (r < 55296 ∨ (57344 ≤ r ∧ r ≤ 1114111)) then (r, 4) else (65533, 1) := by
                    unfold decodeN
                    rw [if_neg c1, if_neg (fun hh => c2 ⟨hh.1, hh.2.2⟩), if_neg (fun hh => c3 ⟨hh.1, hh.2.1.2, hh.2.2.2⟩), if_pos ⟨c4.1, ⟨by simp, c4.2.1⟩, ⟨by simp, c4.2.2.1⟩, by simp, c4.2.2.2⟩, hr]
                  rw [hd] at h ⊢
                  split at h
                  · rename_i hg
                    rw [if_pos hg]
                    refine ⟨hg.2, ?_⟩
                    unfold encodeRune
                    rw [encodeRuneZ_four (by show (65536 : Int) ≤ (r : Int); omega) (by show (r : Int) ≤ 1114111; omega)]
                    simp only [List.map_cons, List.map_nil, List.take_succ_cons, List.take_zero]
                    rw [u8_of (b := x0) (by omega), u8_of (b := x1) (by omega), u8_of (b := x2) (by omega), u8_of (b := x3) (by omega)]
                  · exact absurd rfl h
                · exfalso; apply h
                  unfold decodeN
                  rw [if_neg c1, if_neg (fun hh => c2 ⟨hh.1, hh.2.2⟩), if_neg (fun hh => c3 ⟨hh.1, hh.2.1.2, hh.2.2.2⟩), if_neg (fun hh => c4 ⟨hh.1, hh.2.1.2, hh.2.2.1.2, hh.2.2.2.2⟩)]
/-- what is encoded is decoded -/
theorem encode_decode (r : Nat) (h : validR r) (t : List UInt8) : decodeL (encodeRune (r : Int) ++ t) = (r, (encodeRune (r : Int)).length) := by
  unfold validR at h
  rw [decodeL_N]
  by_cases h1 : r ≤ 127
  · have e : encodeRune (r : Int) = [r.toUInt8] := by
      unfold encodeRune
      rw [encodeRuneZ_one (by omega) (by omega)]
      simp
    rw [e]
    unfold decodeN
    have hb : (([r.toUInt8] ++ t).getD 0 0).toNat = r := by simp [List.getD]; omega
    rw [hb, if_pos (by omega)]
    rfl
  · by_cases h2 : r ≤ 2047
    · have e : encodeRune (r : Int) = [(192 + r / 64).toUInt8, (128 + r % 64).toUInt8] := by
        unfold encodeRune
        rw [encodeRuneZ_two (by omega) (by omega)]
        simp only [List.map_cons, List.map_nil]
        rw [show (192 + (r : Int) / 64).toNat = 192 + r / 64 by omega, show (128 + (r : Int) % 64).toNat = 128 + r % 64 by omega]
      rw [e]
      have b0 : (([(192 + r / 64).toUInt8, (128 + r % 64).toUInt8] ++ t).getD 0 0).toNat = 192 + r / 64 := by simp [List.getD]; omega
      have b1 : (([(192 + r / 64).toUInt8, (128 + r % 64).toUInt8] ++ t).getD 1 0).toNat = 128 + r % 64 := by simp [List.getD]; omega
      have hl : ([(192 + r / 64).toUInt8, (128 + r % 64).toUInt8] ++ t).length = 2 + t.length := by simp; omega
      rw [b0, b1, hl]
      unfold decodeN
      rw [if_neg (by omega), if_pos (by omega), if_pos (by omega)]
      simp only [List.length_cons, List.length_nil, Prod.mk.injEq, and_true]
      omega
    · by_cases h3 : r ≤ 65535
      · have e : encodeRune (r : Int) = [(224 + r / 4096).toUInt8, (128 + r / 64 % 64).toUInt8, (128 + r % 64).toUInt8] := by
          unfold encodeRune
          rw [encodeRuneZ_three (by omega)]
          simp only [List.map_cons, List.map_nil]
          rw [show (224 + (r : Int) / 4096).toNat = 224 + r / 4096 by omega, show (128 + (r : Int) / 64 % 64).toNat = 128 + r / 64 % 64 by omega, show (128 + (r : Int) % 64).toNat = 128 + r % 64 by omega]
        rw [e]
        have b0 : (([(224 + r / 4096).toUInt8, (128 + r / 64 % 64).toUInt8, (128 + r % 64).toUInt8] ++ t).getD 0 0).toNat = 224 + r / 4096 := by simp [List.getD]; omega
        have b1 : (([(224 + r / 4096).toUInt8, (128 + r / 64 % 64).toUInt8, (128 + r % 64).toUInt8] ++ t).getD 1 0).toNat = 128 + r / 64 % 64 := by simp [List.getD]; omega
        have b2 : (([(224 + r / 4096).toUInt8, (128 + r / 64 % 64).toUInt8, (128 + r % 64).toUInt8] ++ t).getD 2 0).toNat = 128 + r % 64 := by simp [List.getD]; omega
        have hl : ([(224 + r / 4096).toUInt8, (128 + r / 64 % 64).toUInt8, (128 + r % 64).toUInt8] ++ t).length = 3 + t.length := by simp; omega
        rw [b0, b1, b2, hl]
        unfold decodeN
        rw [if_neg (by omega), if_neg (by omega), if_pos (by omega), if_pos (by omega)]
        simp only [List.length_cons, List.length_nil, Prod.mk.injEq, and_true]
        omega
      · have e : encodeRune (r : Int) = [(240 + r / 262144).toUInt8, (128 + r / 4096 % 64).toUInt8, (128 + r / 64 % 64).toUInt8, (128 + r % 64).toUInt8] := by
          unfold encodeRune
          rw [encodeRuneZ_four (by omega) (by omega)]
          simp only [List.map_cons, List.map_nil]
          rw [show (240 + (r : Int) / 262144).toNat = 240 + r / 262144 by omega, show (128 + (r : Int) / 4096 % 64).toNat = 128 + r / 4096 % 64 by omega, show (128 + (r : Int) / 64 % 64).toNat = 128 + r / 64 % 64 by omega, show (128 + (r : Int) % 64).toNat = 128 + r % 64 by omega]
        rw [e]
        have b0 : (([(240 + r / 262144).toUInt8, (128 + r / 4096 % 64).toUInt8, (128 + r / 64 % 64).toUInt8, (128 + r % 64).toUInt8] ++ t).getD 0 0).toNat = 240 + r / 262144 := by simp [List.getD]; omega
        have b1 : (([(240 + r / 262144).toUInt8, (128 + r / 4096 % 64).toUInt8, (128 + r / 64 % 64).toUInt8, (128 + r % 64).toUInt8] ++ t).getD 1 0).toNat = 128 + r / 4096 % 64 := by simp [List.getD]; omega
        have b2 : (([(240 + r / 262144).toUInt8, (128 + r / 4096 % 64).toUInt8, (128 + r / 64 % 64).toUInt8, (128 + r % 64).toUInt8] ++ t).getD 2 0).toNat = 128 + r / 64 % 64 := by simp [List.getD]; omega
        have b3 : (([(240 + r / 262144).toUInt8, (128 + r / 4096 % 64).toUInt8, (128 + r / 64 % 64).toUInt8, (128 + r % 64).toUInt8] ++ t).getD 3 0).toNat = 128 + r % 64 := by simp [List.getD]; omega
        have hl : ([(240 + r / 262144).toUInt8, (128 + r / 4096 % 64).toUInt8, (128 + r / 64 % 64).toUInt8, (128 + r % 64).toUInt8] ++ t).length = 4 + t.length := by simp; omega
        rw [b0, b1, b2, b3, hl]
        unfold decodeN
        rw [if_neg (by omega), if_neg (by omega), if_neg (by omega), if_pos (by omega), if_pos (by omega)]
        simp only [List.length_cons, List.length_nil, Prod.mk.injEq, and_true]
        omega
/-! ### every letter's lower form -/
def LetR (r : Nat) : Prop := validR r ∧ isL r = true
def encs (rs : List Nat) : List UInt8 := rs.flatMap fun (r : Nat) => encodeRune (r : Int)
theorem all_chain {α : Type} {p : α → Bool} {l : List α} {a k : Nat} (h1 : ((l.drop a).take k).all p = true) (h2 : (l.drop (a + k)).all p = true) : (l.drop a).all p = true := by
  rw [← List.take_append_drop k (l.drop a), List.all_append, h1, List.drop_drop, h2]; rfl
theorem rows_ok : caseT.all okRow = true := by
  have e : caseT.drop 336 = [] := by decide +kernel
  have h := all_chain ok0 (all_chain ok1 (all_chain ok2 (all_chain ok3 (all_chain ok4 (all_chain ok5 (all_chain ok6 (all_chain ok7 (all_chain ok8 (all_chain ok9 (all_chain ok10 (by rw [e]; rfl)))))))))))
  exact h
theorem ascii_ok : ((List.range 128).all fun r => okR r (lower2 r)) = true := by decide +kernel
theorem okR_good {r : Nat} {z : Int} (h : okR r z = true) (hl : isL2 r = true) : 0 ≤ z ∧ validR z.toNat ∧ isL2 z.toNat = true ∧ lower2 z.toNat = z := by
  unfold okR at h
  rw [hl] at h
  simp only [Bool.not_true, Bool.or_false, Bool.and_eq_true, decide_eq_true_eq, beq_iff_eq] at h
  exact ⟨h.1.1.1, h.1.1.2, h.1.2, h.2⟩
theorem low_good {r : Nat} (h : LetR r) : ∃ z : Nat, toLowerU (r : Int) = (z : Int) ∧ LetR z ∧ toLowerU (z : Int) = (z : Int) := by
  obtain ⟨hv, hl⟩ := h
  have hr : r ≤ 1114111 := by unfold validR at hv; omega
  have hl2 : isL2 r = true := by rw [← isL_eq r (by omega)]; exact hl
  have fin : ∀ z : Int, toLowerU (r : Int) = z → okR r z = true → ∃ z : Nat, toLowerU (r : Int) = (z : Int) ∧ LetR z ∧ toLowerU (z : Int) = (z : Int) := by
    intro z hz hok
    obtain ⟨h0, h1, h2, h3⟩ := okR_good hok hl2
    refine ⟨z.toNat, by rw [hz]; omega, ⟨h1, ?_⟩, ?_⟩
    · rw [isL_eq _ (by unfold validR at h1; omega)]; exact h2
    · rw [lower_eq, h3]; omega
  by_cases ha : r ≤ 127
  · have h := List.all_eq_true.1 ascii_ok r (List.mem_range.2 (by omega))
    exact fin _ (lower_eq r) h
  · cases hf : caseT.find? (fun x => inC x r) with
    | none =>
      have hlow : lower2 r = (r : Int) := by unfold lower2; rw [if_neg ha, hf]
      have e : toLowerU (r : Int) = (r : Int) := by rw [lower_eq, hlow]
      exact ⟨r, e, ⟨hv, hl⟩, e⟩
    | some x =>
      have hlow : lower2 r = convertR 1 (r : Int) x := by unfold lower2; rw [if_neg ha, hf]
      have hx := List.find?_some hf
      have hrow := List.all_eq_true.1 rows_ok x (List.mem_of_find?_eq_some hf)
      have hx' : x.1 ≤ r ∧ r ≤ x.2.1 := by simpa only [inC, Bool.and_eq_true, Nat.ble_eq] using hx
      unfold okRow at hrow
      have h := List.all_eq_true.1 hrow (r - x.1) (List.mem_range.2 (by omega))
      rw [show x.1 + (r - x.1) = r by omega] at h
      exact fin _ (by rw [lower_eq, hlow]) h
def lowN (r : Nat) : Nat := (toLowerU (r : Int)).toNat
theorem lowN_good {r : Nat} (h : LetR r) : toLowerU (r : Int) = ((lowN r : Nat) : Int) ∧ LetR (lowN r) ∧ lowN (lowN r) = lowN r := by
  obtain ⟨z, h1, h2, h3⟩ := low_good h
  have e : lowN r = z := by unfold lowN; rw [h1]; simp
  rw [e]
  exact ⟨h1, h2, by unfold lowN; rw [h3]; simp⟩
theorem encodeRune_ne (r : Int) : encodeRune r ≠ [] := fun e => by
  have := runeCells_le r
  rw [runeCells_length, e] at this
  simp at this
theorem encs_cons (r : Nat) (rs : List Nat) : encs (r :: rs) = encodeRune (r : Int) ++ encs rs := rfl
theorem lower_encs : ∀ rs : List Nat, (∀ r ∈ rs, LetR r) → lower (encs rs) = encs (rs.map lowN)
  | [], _ => rfl
  | r :: rs, h => by
    have hr := h r (.head _)
    have ih := lower_encs rs fun x hx => h x (.tail _ hx)
    have hd := encode_decode r hr.1 (encs rs)
    rw [encs_cons, lower_step (by simp [encodeRune_ne]), hd]
    simp only [List.drop_left, List.map_cons, encs_cons, ih]
    congr 1
    unfold lowC
    rw [(lowN_good hr).1]
/-- every word is made of letters -/
theorem words_encs : ∀ (n : Nat) (cs : List Nat) (l : List UInt8), l.length ≤ n → (∀ r ∈ cs, LetR r) → ∀ x ∈ wordsFrom (encs cs) l, ∃ rs : List Nat, x = encs rs ∧ ∀ r ∈ rs, LetR r
  | 0, cs, l, h, hc, x, hx => by
    rw [List.eq_nil_of_length_eq_zero (by omega : l.length = 0), wordsFrom_nil] at hx
    split at hx
    · cases hx
    · simp at hx
      exact ⟨cs, hx, hc⟩
  | n + 1, cs, l, h, hc, x, hx => by
    by_cases hne : l = []
    · rw [hne, wordsFrom_nil] at hx
      split at hx
      · cases hx
      · simp at hx
        exact ⟨cs, hx, hc⟩
    · have hw := decodeL_width l
      have hd : (l.drop (decodeL l).2).length ≤ n := by rw [List.length_drop]; omega
      rw [wordsFrom_step hne] at hx
      split at hx
      · rename_i hL
        have hb : (decodeL l).1 ≠ 65533 := fun e => by rw [e, isL_bad'] at hL; cases hL
        obtain ⟨hv, he⟩ := decode_encode l hne hb
        rw [he] at hx
        have e : encs cs ++ encodeRune ((decodeL l).1 : Int) = encs (cs ++ [(decodeL l).1]) := by simp [encs]
        rw [e] at hx
        refine words_encs n _ _ hd (fun r hr => ?_) x hx
        rcases List.mem_append.1 hr with hr | hr
        · exact hc r hr
        · simp at hr; rw [hr]; exact ⟨hv, hL⟩
      · rcases List.mem_append.1 hx with hx | hx
        · split at hx
          · cases hx
          · simp at hx
            exact ⟨cs, hx, hc⟩
        · exact words_encs n [] _ hd (fun r hr => by cases hr) x hx
/-- a word of letters, then a space -/
theorem wordsFrom_encs (t : List UInt8) : ∀ (zs : List Nat) (cur : List UInt8), (∀ r ∈ zs, LetR r) → wordsFrom cur (encs zs ++ 32 :: t) = (if cur ++ encs zs = [] then [] else [cur ++ encs zs]) ++ wordsFrom [] t
  | [], cur, _ => by
    have e : encs [] = [] := rfl
    rw [e, List.nil_append, List.append_nil, wordsFrom_step (by simp), decode_ascii' 32 t (by decide)]
    have : isL (UInt8.toNat 32, 1).1 = false := isL_space
    rw [if_neg (by rw [this]; simp)]
    rfl
  | z :: zs, cur, h => by
    have hz := h z (.head _)
    have ih := wordsFrom_encs t zs (cur ++ encodeRune (z : Int)) fun r hr => h r (.tail _ hr)
    have hd := encode_decode z hz.1 (encs zs ++ 32 :: t)
    rw [encs_cons, List.append_assoc, wordsFrom_step (by simp [encodeRune_ne]), hd]
    simp only [hz.2, if_true, List.take_left, List.drop_left]
    rw [ih, List.append_assoc]
theorem raw_join : ∀ L : List (List Nat), (∀ zs ∈ L, zs ≠ [] ∧ ∀ r ∈ zs, LetR r) → wordsFrom [] (L.flatMap fun zs => encs zs ++ [32]) = L.map encs
  | [], _ => rfl
  | zs :: L, h => by
    have hz := h zs (.head _)
    have ih := raw_join L fun x hx => h x (.tail _ hx)
    have hne : encs zs ≠ [] := by
      intro e
      match zs, hz.1 with
      | z :: zs, _ =>
        rw [encs_cons] at e
        exact encodeRune_ne _ (List.append_eq_nil_iff.1 e).1
    rw [List.flatMap_cons, List.append_assoc, List.singleton_append, wordsFrom_encs _ zs [] hz.2, ih, List.nil_append, if_neg hne]
    rfl
/-- **the words of the words are the same** -/
theorem words_stable (s : List UInt8) : words ((words s).flatMap fun w => w ++ [32]) = words s := by
  have h1 : ∀ x ∈ rawWords s, ∃ rs : List Nat, x = encs rs ∧ rs ≠ [] ∧ ∀ r ∈ rs, LetR r := fun x hx => by
    obtain ⟨rs, e, h⟩ := words_encs s.length [] s (Nat.le_refl _) (fun r hr => by cases hr) x hx
    refine ⟨rs, e, fun e' => ?_, h⟩
    have := (words_sum s.length [] s (Nat.le_refl _)).2 x hx
    subst e'
    exact this e
  obtain ⟨L, hL, hg⟩ : ∃ L : List (List Nat), rawWords s = L.map encs ∧ ∀ rs ∈ L, rs ≠ [] ∧ ∀ r ∈ rs, LetR r := by
    generalize rawWords s = R at h1
    induction R with
    | nil => exact ⟨[], rfl, fun _ h => by cases h⟩
    | cons x R ih =>
      obtain ⟨rs, e, h⟩ := h1 x (.head _)
      obtain ⟨L, e2, h2⟩ := ih fun y hy => h1 y (.tail _ hy)
      exact ⟨rs :: L, by rw [e, e2]; rfl, fun y hy => by
        rcases List.mem_cons.1 hy with rfl | hy
        · exact h
        · exact h2 y hy⟩
  have hw : words s = (L.map (List.map lowN)).map encs := by
    unfold words
    rw [hL, List.map_map, List.map_map]
    exact List.map_congr_left fun rs hrs => lower_encs rs (hg rs hrs).2
  have hg2 : ∀ zs ∈ L.map (List.map lowN), zs ≠ [] ∧ ∀ r ∈ zs, LetR r := by
    intro zs hzs
    obtain ⟨rs, hrs, rfl⟩ := List.mem_map.1 hzs
    refine ⟨by simpa using (hg rs hrs).1, fun r hr => ?_⟩
    obtain ⟨r0, hr0, rfl⟩ := List.mem_map.1 hr
    exact (lowN_good ((hg rs hrs).2 r0 hr0)).2.1
  have hj : (words s).flatMap (fun w => w ++ [32]) = (L.map (List.map lowN)).flatMap fun zs => encs zs ++ [32] := by
    rw [hw, List.flatMap_map]
  have hr := raw_join _ hg2
  conv => lhs; rw [hj]; unfold words rawWords
  unfold wordsFrom at hr
  rw [hr, hw, List.map_map, List.map_map, List.map_map]
  refine List.map_congr_left fun rs hrs => ?_
  have h2 := hg2 (rs.map lowN) (List.mem_map_of_mem hrs)
  show lower (encs (rs.map lowN)) = encs (rs.map lowN)
  rw [lower_encs _ h2.2, List.map_map]
  congr 1
  exact List.map_congr_left fun r hr => (lowN_good ((hg rs hrs).2 r hr)).2.2
end Sm
end Go.Proofs.YtfjpedgddgbelaaGreatDoor
namespace Go.Proofs.YtfjpedgddgbelaaGreatDoor
open Go.RowKit
set_option linter.unusedVariables false
theorem rise_len : ∀ {l : List Int} {lo hi : Int}, l.Pairwise (· < ·) → (∀ n ∈ l, lo ≤ n ∧ n ≤ hi) → lo ≤ hi + 1 → (l.length : Int) ≤ hi - lo + 1
  | [], lo, hi, _, _, h => by simp; omega
  | n :: r, lo, hi, hp, hb, h => by
    rw [List.pairwise_cons] at hp
    have h1 := hb n List.mem_cons_self
    have := rise_len (l := r) (lo := n + 1) (hi := hi) hp.2 (fun m hm => ⟨by have := hp.1 m hm; omega, (hb m (.tail _ hm)).2⟩) (by omega)
    rw [List.length_cons]; omega
theorem posts_len {ps : List Ix.Post} (h : Al.Sorted Ix.ltI ps) (hr : ∀ p ∈ ps, 1 ≤ p.1 ∧ p.1 ≤ 1000000) : ps.length ≤ 1000000 := by
  have := rise_len (lo := 1) (hi := 1000000) ((Ix.pair_sorted ps).2 h) (fun n hn => by obtain ⟨p, hp, rfl⟩ := List.mem_map.1 hn; exact hr p hp) (by omega)
  rw [List.length_map] at this
  omega
theorem places_len {l : List Int} (h : l.Pairwise (· < ·)) (hr : ∀ n ∈ l, 0 ≤ n ∧ n ≤ 1000000) : l.length ≤ 1000001 := by
  have := rise_len (lo := 0) (hi := 1000000) h hr (by omega)
  omega
theorem Ix.Canon.small {x : Ix.Idx} (h : Ix.Canon x) : Small x.1 x.2 :=
  ⟨by have := h.few; omega, h.many, fun t ht => by
    obtain ⟨_, h2, h3⟩ := h.post t ht
    exact ⟨posts_len h2 fun p hp => h.idr _ (h3 p hp).1, fun p hp => places_len (h3 p hp).2.2.1 (h3 p hp).2.2.2⟩⟩
theorem Ix.Canon.sz {x : Ix.Idx} (h : Ix.Canon x) : SzIx x.2 := fun t ht => by have := (h.small.posts t ht).1; omega
theorem room_add {x : Ix.Idx} (h : Ix.Canon x) {id : Int} {s : List Str} (h1 : 1 ≤ id ∧ id ≤ 1000000) (hid : id ∉ x.1) (hsl : s.length ≤ 1000000) : Room (Ix.putAll id s 0 x.2) := by
  have hwf := h.wf
  have hw' := Ix.Wf.putAll id s 0 hwf
  have hc := Ix.cont_putAll id s 0 hwf
  have key : ∀ t ∈ Ix.putAll id s 0 x.2, ∀ p ∈ t.2, p.2.length ≤ 2000000 ∧ 1 ≤ p.1 ∧ p.1 ≤ 1000000 := by
    intro t ht p hp
    have e := Ix.cont_mem hw' ht hp
    have hne := (hw'.post t ht).2.2 p hp
    rw [hc] at e
    split at e
    · rename_i hi
      rw [Ix.strange h hid, List.nil_append] at e
      have ho := Ix.occ_range t.1 s 0
      rw [e] at ho
      have := places_len ho.1 fun n hn => by have := ho.2 n hn; omega
      exact ⟨by omega, by rw [hi]; exact h1⟩
    · rename_i hi
      rw [← e] at hne
      obtain ⟨t', ht', e1, p', hp', e2, e3⟩ := Ix.mem_cont hne
      have h2 := (h.post t' ht').2.2 p' hp'
      rw [e3, e, e2] at h2
      have := places_len h2.2.2.1 h2.2.2.2
      exact ⟨by omega, h.idr _ h2.1⟩
  have hl := Ix.putAll_len id x.2 s 0 [] hwf (fun w => by simp)
  have hf := Ix.fresh_le x.2 s []
  have hm := h.many
  refine ⟨by omega, fun t ht => ⟨?_, key t ht⟩⟩
  have := posts_len (hw'.post t ht).2.1 fun p hp => (key t ht p hp).2
  omega
theorem putAll_snoc (id : Int) (w : Str) : ∀ (s : List Str) (n : Nat) (ts : List Ix.Term), Ix.putAll id (s ++ [w]) n ts = Ix.putT id ((n + s.length : Nat) : Int) w (Ix.putAll id s n ts)
  | [], n, ts => rfl
  | a :: s, n, ts => by
    rw [List.cons_append, Ix.putAll, Ix.putAll, putAll_snoc id w s (n + 1), List.length_cons, show n + 1 + s.length = n + (s.length + 1) by omega]
theorem putAll_take (id : Int) (L : List Str) (ts : List Ix.Term) {k : Nat} (hk : k < L.length) : Ix.putAll id (L.take (k + 1)) 0 ts = Ix.putT id (k : Int) L[k] (Ix.putAll id (L.take k) 0 ts) := by
  rw [List.take_succ_eq_append_getElem hk, putAll_snoc, List.length_take, Nat.min_eq_left (by omega), Nat.zero_add]
theorem insId_countP {id : Int} : ∀ {ids : List Int}, ids.Pairwise (· < ·) → id ∉ ids → Ix.insId ids id = ids.take (ids.countP (· < id)) ++ id :: ids.drop (ids.countP (· < id))
  | [], _, _ => rfl
  | n :: r, hp, hn => by
    rw [List.pairwise_cons] at hp
    rw [List.mem_cons, not_or] at hn
    have ih := insId_countP hp.2 hn.2
    unfold Ix.insId at ih ⊢
    by_cases h : n < id
    · rw [List.countP_cons_of_pos (by simpa using h), List.take_succ_cons, List.drop_succ_cons, List.filter_cons_of_pos (by simpa using h), List.filter_cons_of_neg (by simp; omega), List.cons_append, List.cons_append, ih]
    · have h0 : ∀ m ∈ r, id < m := fun m hm => by have := hp.1 m hm; omega
      have hc : r.countP (· < id) = 0 := List.countP_eq_zero.2 fun m hm => by have := h0 m hm; simp; omega
      have hf : r.filter (fun m => decide (m < id)) = [] := List.filter_eq_nil_iff.2 fun m hm => by have := h0 m hm; simp; omega
      have hg : r.filter (fun m => decide (id < m)) = r := List.filter_eq_self.2 fun m hm => by have := h0 m hm; simpa using this
      rw [List.countP_cons_of_neg (by simpa using h), hc, List.filter_cons_of_neg (by simpa using h), hf, List.filter_cons_of_pos (by simp; omega), hg]
      rfl
theorem countP_le (ids : List Int) (id : Int) : ids.countP (· < id) ≤ ids.length := List.countP_le_length
/-! ### the words of a text -/
theorem lowN_ascii {r : Nat} (h : r < 128) : Sm.lowN r < 128 := by
  have h1 : (List.range 128).all (fun r => decide ((Sm.lower2 r).toNat < 128)) = true := by decide +kernel
  unfold Sm.lowN
  rw [Sm.lower_eq]
  exact of_decide_eq_true (List.all_eq_true.1 h1 r (List.mem_range.2 h))
theorem enc_small (r : Nat) : 1 ≤ (Go.Lib.encodeRune (r : Int)).length ∧ (Go.Lib.encodeRune (r : Int)).length ≤ 4 := by
  rw [← Go.Lib.runeCells_length]
  exact Go.Lib.runeCells_le _
theorem enc_low (r : Nat) : (Go.Lib.encodeRune (Sm.lowN r : Int)).length ≤ 2 * (Go.Lib.encodeRune (r : Int)).length := by
  by_cases h : r < 128
  · have h2 := lowN_ascii h
    have e : ∀ n : Nat, n < 128 → (Go.Lib.encodeRune (n : Int)).length = 1 := by
      intro n hn
      rw [show Go.Lib.encodeRune (n : Int) = (Go.Lib.encodeRuneZ (n : Int)).map fun x => x.toNat.toUInt8 from rfl, Go.Lib.encodeRuneZ_one (by omega) (by omega)]
      rfl
    rw [e r h, e _ h2]
    omega
  · have h1 := (enc_small (Sm.lowN r)).2
    have h2 : 2 ≤ (Go.Lib.encodeRune (r : Int)).length := by
      unfold Go.Lib.encodeRune
      rw [List.length_map]
      unfold Go.Lib.encodeRuneZ
      rw [if_neg (by omega)]
      split
      · simp
      · split
        · simp
        · split <;> simp
    omega
theorem encs_low : ∀ rs : List Nat, (Sm.encs (rs.map Sm.lowN)).length ≤ 2 * (Sm.encs rs).length
  | [] => Nat.le_refl _
  | r :: rs => by
    have := encs_low rs
    have := enc_low r
    rw [List.map_cons, Sm.encs_cons, Sm.encs_cons, List.length_append, List.length_append]
    omega
theorem rawWords_len {s x : Str} (hx : x ∈ Sm.rawWords s) : x.length ≤ s.length := by
  have h := (Sm.words_sum s.length [] s (Nat.le_refl _)).1
  have : ∀ (l : List Nat) (n : Nat), n ∈ l → n ≤ l.sum := by
    intro l
    induction l with
    | nil => intro n hn; cases hn
    | cons a l ih => intro n hn; rw [List.sum_cons]; rcases List.mem_cons.1 hn with e | e; · omega
                     · have := ih n e; omega
  have := this _ _ (List.mem_map_of_mem (f := List.length) hx)
  unfold Sm.rawWords at this
  unfold Sm.wordsFrom at h
  simp only [List.length_nil] at h
  omega
theorem word_len {s x : Str} (hx : x ∈ Sm.words s) : x ≠ [] ∧ x.length ≤ 2 * s.length := by
  unfold Sm.words at hx
  obtain ⟨y, hy, rfl⟩ := List.mem_map.1 hx
  have hl := rawWords_len hy
  have hne := (Sm.words_sum s.length [] s (Nat.le_refl _)).2 y hy
  obtain ⟨rs, rfl, hr⟩ := Sm.words_encs s.length [] s (Nat.le_refl _) (fun r h => by cases h) y hy
  rw [Sm.lower_encs rs hr]
  have := encs_low rs
  refine ⟨fun e => ?_, by omega⟩
  cases rs with
  | nil => exact hne rfl
  | cons r rs =>
    rw [List.map_cons, Sm.encs_cons] at e
    have := (List.append_eq_nil_iff.1 e).1
    have h2 := (enc_small (Sm.lowN r)).1
    rw [this] at h2
    simp at h2
theorem stems_word {s w : Str} (h : w ∈ Sm.stems s) : w ≠ [] ∧ w.length ≤ 2 * s.length := by
  unfold Sm.stems at h
  obtain ⟨y, hy, rfl⟩ := List.mem_map.1 h
  have := word_len hy
  have h2 := Sm.stem_len y
  exact ⟨Sm.stem_ne this.1, by omega⟩
theorem len_le_sum' : ∀ {l : List Nat}, (∀ x ∈ l, 0 < x) → l.length ≤ l.sum
  | [], _ => Nat.le_refl _
  | a :: l, h => by
    have := len_le_sum' fun x hx => h x (.tail _ hx)
    have := h a (.head _)
    rw [List.length_cons, List.sum_cons]; omega
theorem stems_count (s : Str) : (Sm.stems s).length ≤ s.length := by
  have h1 := Sm.words_sum s.length [] s (Nat.le_refl _)
  have h2 := len_le_sum' (l := (Sm.rawWords s).map List.length) (fun x hx => by
    obtain ⟨y, hy, rfl⟩ := List.mem_map.1 hx
    exact List.length_pos_iff.2 (h1.2 y hy))
  rw [List.length_map] at h2
  have h3 := h1.1
  simp only [List.length_nil, Nat.zero_add] at h3
  unfold Sm.stems Sm.words
  rw [List.length_map, List.length_map]
  unfold Sm.rawWords at h2 ⊢
  unfold Sm.wordsFrom at h3
  omega
/-! ### what Add computes -/
namespace Ix
def addR (x : Idx) (id : Int) (t : Str) : Idx × Int × Int :=
  if (indexF x).1 ≠ 0 then (([], []), indexF x)
  else if 4000 < t.length then (([], []), 1, -1)
  else if id < 1 then (([], []), 3, -3)
  else if 1000000 < id then (([], []), 3, -3)
  else if id ∈ x.1 then (([], []), 7, -3)
  else if x.1.length = 300 then (([], []), 2, -3)
  else if 1000000 < (putAll id (Sm.stems t) 0 x.2).length then (([], []), 2, -2)
  else (addF x id (Sm.stems t), 0, 0)
theorem addR_good {x : Idx} {id : Int} {t : Str} (h : (addR x id t).2.1 = 0) : addR x id t = (addF x id (Sm.stems t), 0, 0) ∧ Canon x ∧ (1 ≤ id ∧ id ≤ 1000000) ∧ id ∉ x.1 ∧ Canon (addF x id (Sm.stems t)) := by
  unfold addR at h ⊢
  split at h
  · rename_i h0; exact absurd h h0
  rename_i h0
  split at h
  · simp at h
  rename_i h1
  split at h
  · simp at h
  rename_i h2
  split at h
  · simp at h
  rename_i h3
  split at h
  · simp at h
  rename_i h4
  split at h
  · simp at h
  rename_i h5
  split at h
  · simp at h
  rename_i h6
  have hc := (indexF_zero x).1 (by simpa using h0)
  have hr : 1 ≤ id ∧ id ≤ 1000000 := by omega
  rw [if_neg h0, if_neg h1, if_neg h2, if_neg h3, if_neg h4, if_neg h5, if_neg h6]
  exact ⟨rfl, hc, hr, h4, canon_add hc hr h4 (by have := hc.few; omega) (fun w hw => by have := stems_word hw; exact ⟨this.1, by omega⟩) (by have := stems_count t; omega) (by omega)⟩
end Ix
end Go.Proofs.YtfjpedgddgbelaaGreatDoor
namespace Go.Proofs.YtfjpedgddgbelaaGreatDoor
open Go.RowKit
set_option linter.unusedVariables false
/-- what lies in new blocks alone -/
def Old (n : Nat) : Nat → Prop := fun b => b < n
theorem PostsAt.readB {T : Tids} {o : Nat → Owner} {w : World} {B : Nat} {wd : Str} {v : Value} {ps : List RPost} (h : PostsAt T o w B wd v ps) : SlR postC (Old B) w v (ps.map pp) :=
  SlR.unraw (by simp) ((h.row.flatC (M' := Old B) flatC_rp fun _ _ => rfl).readB fun _ h => h) fun i h1 h2 => by
    have hi : i < ps.length := by simpa using h1
    simp only [List.getElem_map]
    exact ⟨rfl, ((h.pl _ (List.getElem_mem hi)).1.flatC (M' := Old B) flatC_int fun _ _ => rfl).readB fun _ h => h⟩
theorem SlR.weak {α : Type} {C : Codec α} {M : Nat → Prop} {w : World} {v : Value} {l : List α} (h : SlR C M w v l) : SlR C M0 w v l := h.sub fun _ _ h => h.elim
theorem SlR.older {α : Type} {C : Codec α} {w : World} {v : Value} {l : List α} {n m : Nat} (h : SlR C (Old n) w v l) (hm : m ≤ n) : SlR C (Old m) w v l := h.sub fun b _ hb => Nat.lt_of_lt_of_le (show b < m from hb) hm
theorem TreeAt.readB {T : Tids} {o : Nat → Owner} {w : World} {B : Nat} {v : Value} {X : List RTerm} (h : TreeAt T o w B v X) : SlR termC (Old B) w v (X.map pt) :=
  SlR.unraw (by simp) ((h.row.flatC (M' := Old B) flatC_rt fun _ _ => rfl).readB fun _ h => h) fun i h1 h2 => by
    have hi : i < X.length := by simpa using h1
    simp only [List.getElem_map]
    exact ⟨rfl, (h.posts _ (List.getElem_mem hi)).readB⟩
/-- the two results, an index under way, the words -/
structure AddSt (w0 : World) (o : Nat → Owner) (g3 g6 g7 : Nat) (a tv lv : Value) (ids : List Int) (X : List RTerm) (L : List Str) (W : World) : Prop where
  tree : TreeAt ixT o W w0.heap.size tv X
  k3 : Blk W g3 25 #[a, tv]
  k6 : Blk W g6 25 #[.slice none 0 0, .slice none 0 0]
  k7 : Blk W g7 27 #[.int .i64 0, .int .i64 0]
  ints : Own intC M0 W w0.heap.size 3 a ids
  intno : ∀ g, a.ownBlock = some g → o g = .no ∧ g ≠ g3 ∧ g ≠ g6 ∧ g ≠ g7
  list : Own strC M0 W w0.heap.size 9 lv L
  listno : ∀ g, lv.ownBlock = some g → o g = .no ∧ g ≠ g3
  n3 : o g3 = .no
  n6 : o g6 = .no ∧ g6 ≠ g3
  n7 : o g7 = .no ∧ g7 ≠ g3
  low : ∀ b, b < w0.heap.size → o b = .no
  base : w0.heap.size ≤ g3
  below : Below w0.heap.size w0 W
variable {w0 : World} {o : Nat → Owner} {g3 g6 g7 : Nat} {a tv lv : Value} {ids : List Int} {X : List RTerm} {L : List Str} {W : World}
theorem AddSt.step (h : AddSt w0 o g3 g6 g7 a tv lv ids X L W) {o' : Nat → Owner} {W' : World} {tv' : Value} {X' : List RTerm} (hT : TreeAt ixT o' W' w0.heap.size tv' X') (k3 : Blk W' g3 25 #[a, tv']) (ht : Turn o g3 W W') (ho : ∀ b, b < W.heap.size → o' b = o b) : AddSt w0 o' g3 g6 g7 a tv' lv ids X' L W' := by
  have hs := h.below.size
  refine ⟨hT, k3, h.k6.keep (ht.block g6 h.k6.lt h.n6.1 h.n6.2), h.k7.keep (ht.block g7 h.k7.lt h.n7.1 h.n7.2), h.ints.flatC flatC_int fun b hb => ?_, fun g hg => ?_, h.list.flatC flatC_str fun b hb => ?_, fun g hg => ?_, ?_, ?_, ?_, fun b hb => ?_, h.base, ?_⟩
  · exact ht.block b (h.ints.lt b hb) (h.intno b hb).1 (h.intno b hb).2.1
  · rw [ho g (h.ints.lt g hg)]; exact h.intno g hg
  · exact ht.block b (h.list.lt b hb) (h.listno b hb).1 (h.listno b hb).2
  · rw [ho g (h.list.lt g hg)]; exact h.listno g hg
  · rw [ho g3 h.k3.lt]; exact h.n3
  · rw [ho g6 h.k6.lt]; exact h.n6
  · rw [ho g7 h.k7.lt]; exact h.n7
  · rw [ho b (by omega)]; exact h.low b hb
  · exact ⟨ht.os.trans h.below.os, ht.tape.trans h.below.tape, ht.output.trans h.below.output, Nat.le_trans hs ht.size, fun b hb => (ht.block b (by omega) (h.low b hb) (by have := h.base; omega)).trans (h.below.block b hb)⟩
/-- behind the two stores of the copy -/
theorem AddSt.start {w5 w6 : World} {g6 g7 : Nat} {a0 b0 a tv : Value} (hal5 : Below w0.heap.size w0 w5) (hb6 : Below w5.heap.size w5 w6) (k3 : Blk w5 g3 25 #[a0, b0]) (k6 : Blk w5 g6 25 #[.slice none 0 0, .slice none 0 0]) (k7 : Blk w5 g7 27 #[.int .i64 0, .int .i64 0])
    (hl : Own strC M0 w5 w0.heap.size 9 lv L) (hln : ∀ g, lv.ownBlock = some g → g ≠ g3) (ha : Own intC M0 w6 w5.heap.size 3 a ids) (hano : ∀ g, a.ownBlock = some g → o g = .no) (hT : TreeAt ixT o w6 w5.heap.size tv X) (hlo : ∀ g, g < w5.heap.size → o g = .no) (h36 : g6 ≠ g3) (h37 : g7 ≠ g3) (hB : w0.heap.size ≤ g3)
    (hW : (w6.setCell ⟨g3, 0, none⟩ a).setCell ⟨g3, 1, none⟩ tv = W) : AddSt w0 o g3 g6 g7 a tv lv ids X L W := by
  have hs := hal5.size
  have two : ∀ b, b ≠ g3 → W.heap[b]? = w6.heap[b]? := fun b hb => by rw [← hW, heap_set_ne _ _ _ hb, heap_set_ne _ _ _ hb]
  have h3 := k3.lt
  refine ⟨(hT.lower hs).move (fun b _ _ hb => two b fun e => hb (by rw [e]; exact hlo g3 h3)) (fun _ _ => rfl) (fun b hb => hT.fresh b (by rw [← hW] at hb; simpa using hb)), hW ▸ (((k3.ext hb6).set_ 0 a).set_ 1 tv), (k6.ext hb6).keep (two g6 h36), (k7.ext hb6).keep (two g7 h37), (ha.lower hs).flatC flatC_int fun b hb => two b fun e => (by have := ha.base b hb; omega), fun g hg => ⟨hano g hg, fun e => (by have := ha.base g hg; omega), fun e => (by have := ha.base g hg; have := k6.lt; omega), fun e => (by have := ha.base g hg; have := k7.lt; omega)⟩, (hl.ext hb6).flatC flatC_str fun b hb => two b (hln b hb), fun g hg => ⟨hlo g (hl.lt g hg), hln g hg⟩, hlo g3 h3, ⟨hlo g6 k6.lt, h36⟩, ⟨hlo g7 k7.lt, h37⟩, fun b hb => hlo b (by omega), hB, ?_⟩
  rw [← hW]
  exact ((hal5.trans (hb6.mono hs)).setCell (p := ⟨g3, 0, none⟩) hB _).setCell (p := ⟨g3, 1, none⟩) hB _
/-- behind the new number -/
theorem AddSt.insert (h : AddSt w0 o g3 g6 g7 a tv lv ids X L W) {V w7 W8 : World} {a' : Value} {ids' : List Int} (hV : Below W.heap.size W V) (hgr : V.grownBy w7 a.ownBlock) (hown : Own intC M0 w7 w0.heap.size 3 a' ids') (hor : a'.ownBlock = a.ownBlock ∨ a'.ownBlock = some V.heap.size) (hap : ∀ g, a.ownBlock = some g → g6 ≠ g ∧ g7 ≠ g ∧ ∀ b, lv.ownBlock = some b → b ≠ g) (hW : w7.setCell ⟨g3, 0, none⟩ a' = W8) : AddSt w0 o g3 g6 g7 a' tv lv ids' X L W8 := by
  have hs := h.below.size
  have hsV := hV.size
  have same : ∀ b, b < W.heap.size → b ≠ g3 → (∀ g, a.ownBlock = some g → b ≠ g) → W8.heap[b]? = W.heap[b]? := fun b hb h3 hg => by
    rw [← hW, heap_set_ne _ _ _ h3]
    exact (hgr.block b (by omega) fun e => hg b e.symm rfl).trans (hV.block b hb)
  have hsz : W.heap.size ≤ W8.heap.size := by have := hgr.size; rw [← hW]; simp; omega
  have hn : ∀ b, a'.ownBlock = some b → o b = .no ∧ b ≠ g3 ∧ b ≠ g6 ∧ b ≠ g7 := fun b hb => by
    rcases hor with e | e
    · rw [e] at hb; exact h.intno b hb
    · rw [e] at hb; injection hb with hb; exact ⟨h.tree.fresh b (by omega), by have := h.k3.lt; omega, by have := h.k6.lt; omega, by have := h.k7.lt; omega⟩
  refine ⟨h.tree.move (fun b hb _ hno => same b hb (fun e => hno (by rw [e]; exact h.n3)) fun g hg e => hno (by rw [e]; exact (h.intno g hg).1)) (fun _ _ => rfl) (fun b hb => h.tree.fresh b (by omega)), ?_, h.k6.keep (same g6 h.k6.lt h.n6.2 fun g hg => (hap g hg).1), h.k7.keep (same g7 h.k7.lt h.n7.2 fun g hg => (hap g hg).2.1), hown.flatC flatC_int fun b hb => ?_, hn, h.list.flatC flatC_str fun b hb => same b (h.list.lt b hb) (h.listno b hb).2 fun g hg => (hap g hg).2.2 b hb, h.listno, h.n3, h.n6, h.n7, h.low, h.base, ?_⟩
  · rw [← hW]
    have k : Blk w7 g3 25 #[a, tv] := h.k3.keep ((hgr.block g3 (by have := h.k3.lt; omega) fun e => (h.intno g3 e.symm).2.1 rfl).trans (hV.block g3 h.k3.lt))
    exact k.set_ 0 a'
  · rw [← hW]; exact heap_set_ne _ _ _ (hn b hb).2.1
  · refine ⟨?_, ?_, ?_, Nat.le_trans hs hsz, fun b hb => (same b (by omega) (by have := h.base; omega) fun g hg e => ?_).trans (h.below.block b hb)⟩
    · rw [← hW]; exact (hgr.os.trans hV.os).trans h.below.os
    · rw [← hW]; exact (hgr.tape.trans hV.tape).trans h.below.tape
    · rw [← hW]; exact (hgr.output.trans hV.output).trans h.below.output
    · have := h.ints.base g hg; omega
/-- the word under way -/
theorem AddSt.word (h : AddSt w0 o g3 g6 g7 a tv lv ids X L W) {k : Nat} (hk : k < L.length) : ∃ g c, lv = .slice (some ⟨g, 0, none⟩) L.length c ∧ L.length ≤ c ∧ c ≤ maxLen ∧ W.cell? ⟨g, k, none⟩ = some (.string (bs L[k])) ∧ L[k].length ≤ maxLen := by
  obtain ⟨g, c, cs, hv, h1, h2, _, _, hrd, hc, _⟩ := h.list.cellsAt hk
  obtain ⟨rfl, hl⟩ := hrd
  have := hc 0 _ rfl
  exact ⟨g, c, hv, h1, h2, by simpa [strC] using this, hl⟩
/-- behind the return's stores -/
theorem AddSt.fin (h : AddSt w0 o g3 g6 g7 a tv lv ids X L W) {w8 W9 : World} (hb : Below W.heap.size W w8) (hk : ∀ b, b ≠ g6 → b ≠ g7 → W9.heap[b]? = w8.heap[b]?) (hs : W9.heap.size = w8.heap.size) : SlR intC (Old w0.heap.size) W9 a ids ∧ SlR termC (Old w0.heap.size) W9 tv (X.map pt) :=
  ⟨(((h.ints.ext hb).flatC (M' := Old w0.heap.size) flatC_int fun b hb => hk b (h.intno b hb).2.2.1 (h.intno b hb).2.2.2) : Own intC (Old w0.heap.size) W9 _ _ _ _).readB fun _ h => h,
    ((h.tree.ext hb).move (w' := W9) (o' := o) (fun b _ _ hn => hk b (fun e => hn (by rw [e]; exact h.n6.1)) fun e => hn (by rw [e]; exact h.n7.1)) (fun _ _ => rfl) fun b hb' => h.tree.fresh b (by have := hb.size; omega)).readB⟩
end Go.Proofs.YtfjpedgddgbelaaGreatDoor
