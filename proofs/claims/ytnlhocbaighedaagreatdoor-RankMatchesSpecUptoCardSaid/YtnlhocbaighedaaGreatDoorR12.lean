/-
  Contracts and plain facts, one after another: Words of words, words of texts with a full stop between them: plain lists of bytes; Words made of letters: a word of a text is its only word; what a text must be like to be a word; plain; query.word, query.words.
-/
import Derived.Test.YtnlhocbaighedaaGreatDoorR11
import Derived.Test.YtnlhocbaighedaaGreatDoorR10
import Derived.Test.YtnlhocbaighedaaGreatDoorR7
import Derived.Test.YtnlhocbaighedaaGreatDoorShelf
import Derived.Lib.ValidLaws
import Derived.Lib.TrimUEq
namespace Go.Proofs.YtnlhocbaighedaaGreatDoor
namespace Sm
open Go.Lib
theorem isL_space : isL 32 = false := by decide +kernel
theorem isL_bad' : isL 65533 = false := by decide +kernel
/-- an ASCII byte in front -/
theorem decode_ascii' (c : UInt8) (t : List UInt8) (h : c.toNat < 128) : decodeL (c :: t) = (c.toNat, 1) := by
 rw [decodeL_N]
 unfold decodeN
 rw [if_pos (by simpa using h)]
 rfl
/-- an ASCII byte behind does not change what is decoded in front of it -/
theorem decode_before (l : List UInt8) (c : UInt8) (t : List UInt8) (hne : l ≠ []) (hc : c.toNat < 128) : decodeL (l ++ c :: t) = decodeL l := by
 have hlen := List.length_pos_iff.2 hne
 have hc2 : c.toNat / 64 ≠ 2 := by omega
 have g : ∀ k, k < l.length → (l ++ c :: t).getD k 0 = l.getD k 0 := fun k hk => by simp [List.getD, List.getElem?_append_left hk]
 have gl : (l ++ c :: t).getD l.length 0 = c := by simp [List.getD]
 have hbig : l.length < (l ++ c :: t).length := by simp
 rw [decodeL_N, decodeL_N, g 0 hlen]
 generalize hn : (l ++ c :: t).length = n at hbig ⊢
 generalize hm : l.length = m at hlen hbig gl g ⊢
 unfold decodeN
 by_cases h1 : 1 < m
 ·rw [g 1 h1]
  by_cases h2 : 2 < m
  ·rw [g 2 h2]
   by_cases h3 : 3 < m
   ·rw [g 3 h3]
    simp only [h1, h2, h3, show 1 < n by omega, show 2 < n by omega, show 3 < n by omega]
   ·have e3 : 3 = m := by omega
    have g3 : (l ++ c :: t).getD 3 0 = c := by rw [e3]; exact gl
    rw [g3]
    simp only [h1, h2, h3, show 1 < n by omega, show 2 < n by omega, hc2, and_false, false_and, if_false]
  ·have e2 : 2 = m := by omega
   have g2 : (l ++ c :: t).getD 2 0 = c := by rw [e2]; exact gl
   rw [g2]
   simp only [h1, h2, show ¬ 3 < m by omega, show 1 < n by omega, hc2, and_false, false_and, if_false]
 ·have e1 : 1 = m := by omega
  have g1 : (l ++ c :: t).getD 1 0 = c := by rw [e1]; exact gl
  rw [g1]
  simp only [h1, hc2, and_false, false_and, if_false]
theorem drop_before (l : List UInt8) (c : UInt8) (t : List UInt8) {n : Nat} (h : n ≤ l.length) : (l ++ c :: t).drop n = l.drop n ++ c :: t := List.drop_append_of_le_length h
theorem take_before (l : List UInt8) (c : UInt8) (t : List UInt8) {n : Nat} (h : n ≤ l.length) : (l ++ c :: t).take n = l.take n := List.take_append_of_le_length h
/-- **a character between, that is no letter, parts the words** -/
theorem wordsFrom_sep (c : UInt8) (hc : c.toNat < 128) (hL : isL c.toNat = false) (t : List UInt8) : ∀ (n : Nat) (cur l : List UInt8), l.length ≤ n → wordsFrom cur (l ++ c :: t) = wordsFrom cur l ++ wordsFrom [] t
 | 0, cur, l, h => by
  rw [List.eq_nil_of_length_eq_zero (by omega : l.length = 0), List.nil_append, wordsFrom_step (by simp), decode_ascii' c t hc, wordsFrom_nil]
  simp [hL]
 | n + 1, cur, l, h => by
  by_cases hne : l = []
  ·rw [hne, List.nil_append, wordsFrom_step (by simp), decode_ascii' c t hc, wordsFrom_nil]
   simp [hL]
  ·have hw := decodeL_width l
   have hwl := width_le hne
   rw [wordsFrom_step (l := l ++ c :: t) (by simp), decode_before l c t hne hc, wordsFrom_step (l := l) hne, drop_before l c t hwl, take_before l c t hwl]
   have hd : (l.drop (decodeL l).2).length ≤ n := by rw [List.length_drop]; omega
   split
   ·exact wordsFrom_sep c hc hL t n _ _ hd
   ·rw [wordsFrom_sep c hc hL t n _ _ hd, List.append_assoc]
/-! ### runes -/
def validR (r : Nat) : Prop := r < 55296 ∨ (57344 ≤ r ∧ r ≤ 1114111)
/-- what was decoded, if not broken, stands there encoded -/
theorem u8_of {b : UInt8} {x : Int} (h : x = (b.toNat : Int)) : x.toNat.toUInt8 = b := by subst h; simp
theorem decode_encode (l : List UInt8) (hne : l ≠ []) (h : (decodeL l).1 ≠ 65533) : validR (decodeL l).1 ∧ l.take (decodeL l).2 = encodeRune ((decodeL l).1 : Int) := by
 rw [decodeL_N] at h ⊢
 match l, hne with
 | x0 :: l1, _ =>
  have h0 := x0.toNat_lt
  have e0 : (x0 :: l1).getD 0 0 = x0 := rfl
  rw [e0] at h ⊢
  by_cases c1 : x0.toNat < 128
  ·have hd : ∀ n b1 b2 b3, decodeN n x0.toNat b1 b2 b3 = (x0.toNat, 1) := fun n b1 b2 b3 => by unfold decodeN; rw [if_pos c1]
   rw [hd]
   refine ⟨.inl (by show x0.toNat < 55296; omega), ?_⟩
   unfold encodeRune
   rw [encodeRuneZ_one (by simp) (by show (x0.toNat : Int) ≤ 127; omega)]
   simp
  ·match l1 with
   | [] =>
    exfalso; apply h
    unfold decodeN
    simp [c1]
   | x1 :: l2 =>
    have h1 := x1.toNat_lt
    have e1 : (x0 :: x1 :: l2).getD 1 0 = x1 := rfl
    rw [e1] at h ⊢
    by_cases c2 : x0.toNat / 32 = 6 ∧ x1.toNat / 64 = 2
    ·have hd : ∀ b2 b3, decodeN (x0 :: x1 :: l2).length x0.toNat x1.toNat b2 b3 = if x0.toNat % 32 * 64 + x1.toNat % 64 ≥ 128 then (x0.toNat % 32 * 64 + x1.toNat % 64, 2) else (65533, 1) := fun b2 b3 => by
      unfold decodeN
      rw [if_neg c1, if_pos ⟨c2.1, by simp, c2.2⟩]
     rw [hd] at h ⊢
     split at h
     ·rename_i hg
      rw [if_pos hg]
      refine ⟨.inl (by show x0.toNat % 32 * 64 + x1.toNat % 64 < 55296; omega), ?_⟩
      unfold encodeRune
      rw [encodeRuneZ_two (by show (128 : Int) ≤ ((x0.toNat % 32 * 64 + x1.toNat % 64 : Nat) : Int); omega) (by show ((x0.toNat % 32 * 64 + x1.toNat % 64 : Nat) : Int) ≤ 2047; omega)]
      simp only [List.map_cons, List.map_nil, List.take_succ_cons, List.take_zero]
      rw [u8_of (b := x0) (by omega), u8_of (b := x1) (by omega)]
     ·exact absurd rfl h
    ·match l2 with
     | [] =>
      exfalso; apply h
      unfold decodeN
      rw [if_neg c1, if_neg (fun hh => c2 ⟨hh.1, hh.2.2⟩), if_neg (by simp), if_neg (by simp)]
     | x2 :: l3 =>
      have h2 := x2.toNat_lt
      have e2 : (x0 :: x1 :: x2 :: l3).getD 2 0 = x2 := rfl
      rw [e2] at h ⊢
      by_cases c3 : x0.toNat / 16 = 14 ∧ x1.toNat / 64 = 2 ∧ x2.toNat / 64 = 2
      ·obtain ⟨r, hr⟩ : ∃ r, x0.toNat % 16 * 4096 + x1.toNat % 64 * 64 + x2.toNat % 64 = r := ⟨_, rfl⟩
       have hd : ∀ b3, decodeN (x0 :: x1 :: x2 :: l3).length x0.toNat x1.toNat x2.toNat b3 = if r ≥ 2048 ∧ (r < 55296 ∨ (57344 ≤ r ∧ r ≤ 1114111)) then (r, 3) else (65533, 1) := fun b3 => by
        unfold decodeN
        rw [if_neg c1, if_neg (fun hh => c2 ⟨hh.1, hh.2.2⟩), if_pos ⟨c3.1, ⟨by simp, c3.2.1⟩, by simp, c3.2.2⟩, hr]
       rw [hd] at h ⊢
       split at h
       ·rename_i hg
        rw [if_pos hg]
        refine ⟨hg.2, ?_⟩
        unfold encodeRune
        rw [encodeRuneZ_three (by show (2048 ≤ (r : Int) ∧ (r : Int) < 55296) ∨ (57343 < (r : Int) ∧ (r : Int) ≤ 65535); omega)]
        simp only [List.map_cons, List.map_nil, List.take_succ_cons, List.take_zero]
        rw [u8_of (b := x0) (by omega), u8_of (b := x1) (by omega), u8_of (b := x2) (by omega)]
       ·exact absurd rfl h
      ·match l3 with
       | [] =>
        exfalso; apply h
        unfold decodeN
        rw [if_neg c1, if_neg (fun hh => c2 ⟨hh.1, hh.2.2⟩), if_neg (fun hh => c3 ⟨hh.1, hh.2.1.2, hh.2.2.2⟩), if_neg (by simp)]
       | x3 :: l4 =>
        have h3 := x3.toNat_lt
        have e3 : (x0 :: x1 :: x2 :: x3 :: l4).getD 3 0 = x3 := rfl
        rw [e3] at h ⊢
        by_cases c4 : x0.toNat / 8 = 30 ∧ x1.toNat / 64 = 2 ∧ x2.toNat / 64 = 2 ∧ x3.toNat / 64 = 2
        ·obtain ⟨r, hr⟩ : ∃ r, x0.toNat % 8 * 262144 + x1.toNat % 64 * 4096 + x2.toNat % 64 * 64 + x3.toNat % 64 = r := ⟨_, rfl⟩
         have hd : decodeN (x0 :: x1 :: x2 :: x3 :: l4).length x0.toNat x1.toNat x2.toNat x3.toNat = if r ≥ 65536 ∧ (r < 55296 ∨ (57344 ≤ r ∧ r ≤ 1114111)) then (r, 4) else (65533, 1) := by
          unfold decodeN
          rw [if_neg c1, if_neg (fun hh => c2 ⟨hh.1, hh.2.2⟩), if_neg (fun hh => c3 ⟨hh.1, hh.2.1.2, hh.2.2.2⟩), if_pos ⟨c4.1, ⟨by simp, c4.2.1⟩, ⟨by simp, c4.2.2.1⟩, by simp, c4.2.2.2⟩, hr]
         rw [hd] at h ⊢
         split at h
         ·rename_i hg
          rw [if_pos hg]
          refine ⟨hg.2, ?_⟩
          unfold encodeRune
          rw [encodeRuneZ_four (by show (65536 : Int) ≤ (r : Int); omega) (by show (r : Int) ≤ 1114111; omega)]
          simp only [List.map_cons, List.map_nil, List.take_succ_cons, List.take_zero]
          rw [u8_of (b := x0) (by omega), u8_of (b := x1) (by omega), u8_of (b := x2) (by omega), u8_of (b := x3) (by omega)]
         ·exact absurd rfl h
        ·exfalso; apply h
         unfold decodeN
         rw [if_neg c1, if_neg (fun hh => c2 ⟨hh.1, hh.2.2⟩), if_neg (fun hh => c3 ⟨hh.1, hh.2.1.2, hh.2.2.2⟩), if_neg (fun hh => c4 ⟨hh.1, hh.2.1.2, hh.2.2.1.2, hh.2.2.2.2⟩)]
/-- what is encoded is decoded -/
theorem encode_decode (r : Nat) (h : validR r) (t : List UInt8) : decodeL (encodeRune (r : Int) ++ t) = (r, (encodeRune (r : Int)).length) := by
 unfold validR at h
 rw [decodeL_N]
 by_cases h1 : r ≤ 127
 ·have e : encodeRune (r : Int) = [r.toUInt8] := by
   unfold encodeRune
   rw [encodeRuneZ_one (by omega) (by omega)]
   simp
  rw [e]
  unfold decodeN
  have hb : (([r.toUInt8] ++ t).getD 0 0).toNat = r := by simp [List.getD]; omega
  rw [hb, if_pos (by omega)]
  rfl
 ·by_cases h2 : r ≤ 2047
  ·have e : encodeRune (r : Int) = [(192 + r / 64).toUInt8, (128 + r % 64).toUInt8] := by
    unfold encodeRune
    rw [encodeRuneZ_two (by omega) (by omega)]
    simp only [List.map_cons, List.map_nil]
    rw [show (192 + (r : Int) / 64).toNat = 192 + r / 64 by omega, show (128 + (r : Int) % 64).toNat = 128 + r % 64 by omega]
   rw [e]
   have b0 : (([(192 + r / 64).toUInt8, (128 + r % 64).toUInt8] ++ t).getD 0 0).toNat = 192 + r / 64 := by simp [List.getD]; omega
   have b1 : (([(192 + r / 64).toUInt8, (128 + r % 64).toUInt8] ++ t).getD 1 0).toNat = 128 + r % 64 := by simp [List.getD]; omega
   have hl : ([(192 + r / 64).toUInt8, (128 + r % 64).toUInt8] ++ t).length = 2 + t.length := by simp; omega
   rw [b0, b1, hl]
   unfold decodeN
   rw [if_neg (by omega), if_pos (by omega), if_pos (by omega)]
   simp only [List.length_cons, List.length_nil, Prod.mk.injEq, and_true]
   omega
  ·by_cases h3 : r ≤ 65535
   ·have e : encodeRune (r : Int) = [(224 + r / 4096).toUInt8, (128 + r / 64 % 64).toUInt8, (128 + r % 64).toUInt8] := by
     unfold encodeRune
     rw [encodeRuneZ_three (by omega)]
     simp only [List.map_cons, List.map_nil]
     rw [show (224 + (r : Int) / 4096).toNat = 224 + r / 4096 by omega, show (128 + (r : Int) / 64 % 64).toNat = 128 + r / 64 % 64 by omega, show (128 + (r : Int) % 64).toNat = 128 + r % 64 by omega]
    rw [e]
    have b0 : (([(224 + r / 4096).toUInt8, (128 + r / 64 % 64).toUInt8, (128 + r % 64).toUInt8] ++ t).getD 0 0).toNat = 224 + r / 4096 := by simp [List.getD]; omega
    have b1 : (([(224 + r / 4096).toUInt8, (128 + r / 64 % 64).toUInt8, (128 + r % 64).toUInt8] ++ t).getD 1 0).toNat = 128 + r / 64 % 64 := by simp [List.getD]; omega
    have b2 : (([(224 + r / 4096).toUInt8, (128 + r / 64 % 64).toUInt8, (128 + r % 64).toUInt8] ++ t).getD 2 0).toNat = 128 + r % 64 := by simp [List.getD]; omega
    have hl : ([(224 + r / 4096).toUInt8, (128 + r / 64 % 64).toUInt8, (128 + r % 64).toUInt8] ++ t).length = 3 + t.length := by simp; omega
    rw [b0, b1, b2, hl]
    unfold decodeN
    rw [if_neg (by omega), if_neg (by omega), if_pos (by omega), if_pos (by omega)]
    simp only [List.length_cons, List.length_nil, Prod.mk.injEq, and_true]
    omega
   ·have e : encodeRune (r : Int) = [(240 + r / 262144).toUInt8, (128 + r / 4096 % 64).toUInt8, (128 + r / 64 % 64).toUInt8, (128 + r % 64).toUInt8] := by
     unfold encodeRune
     rw [encodeRuneZ_four (by omega) (by omega)]
     simp only [List.map_cons, List.map_nil]
     rw [show (240 + (r : Int) / 262144).toNat = 240 + r / 262144 by omega, show (128 + (r : Int) / 4096 % 64).toNat = 128 + r / 4096 % 64 by omega, show (128 + (r : Int) / 64 % 64).toNat = 128 + r / 64 % 64 by omega, show (128 + (r : Int) % 64).toNat = 128 + r % 64 by omega]
    rw [e]
    have b0 : (([(240 + r / 262144).toUInt8, (128 + r / 4096 % 64).toUInt8, (128 + r / 64 % 64).toUInt8, (128 + r % 64).toUInt8] ++ t).getD 0 0).toNat = 240 + r / 262144 := by simp [List.getD]; omega
    have b1 : (([(240 + r / 262144).toUInt8, (128 + r / 4096 % 64).toUInt8, (128 + r / 64 % 64).toUInt8, (128 + r % 64).toUInt8] ++ t).getD 1 0).toNat = 128 + r / 4096 % 64 := by simp [List.getD]; omega
    have b2 : (([(240 + r / 262144).toUInt8, (128 + r / 4096 % 64).toUInt8, (128 + r / 64 % 64).toUInt8, (128 + r % 64).toUInt8] ++ t).getD 2 0).toNat = 128 + r / 64 % 64 := by simp [List.getD]; omega
    have b3 : (([(240 + r / 262144).toUInt8, (128 + r / 4096 % 64).toUInt8, (128 + r / 64 % 64).toUInt8, (128 + r % 64).toUInt8] ++ t).getD 3 0).toNat = 128 + r % 64 := by simp [List.getD]; omega
    have hl : ([(240 + r / 262144).toUInt8, (128 + r / 4096 % 64).toUInt8, (128 + r / 64 % 64).toUInt8, (128 + r % 64).toUInt8] ++ t).length = 4 + t.length := by simp; omega
    rw [b0, b1, b2, b3, hl]
    unfold decodeN
    rw [if_neg (by omega), if_neg (by omega), if_neg (by omega), if_pos (by omega), if_pos (by omega)]
    simp only [List.length_cons, List.length_nil, Prod.mk.injEq, and_true]
    omega
/-! ### every letter's lower form -/
def LetR (r : Nat) : Prop := validR r ∧ isL r = true
def encs (rs : List Nat) : List UInt8 := rs.flatMap fun (r : Nat) => encodeRune (r : Int)
theorem all_chain {α : Type} {p : α → Bool} {l : List α} {a k : Nat} (h1 : ((l.drop a).take k).all p = true) (h2 : (l.drop (a + k)).all p = true) : (l.drop a).all p = true := by
 rw [← List.take_append_drop k (l.drop a), List.all_append, h1, List.drop_drop, h2]; rfl
theorem rows_ok : caseT.all okRow = true := by
 have e : caseT.drop 336 = [] := by decide +kernel
 have h := all_chain ok0 (all_chain ok1 (all_chain ok2 (all_chain ok3 (all_chain ok4 (all_chain ok5 (all_chain ok6 (all_chain ok7 (all_chain ok8 (all_chain ok9 (all_chain ok10 (by rw [e]; rfl)))))))))))
 exact h
theorem ascii_ok : ((List.range 128).all fun r => okR r (lower2 r)) = true := by decide +kernel
theorem okR_good {r : Nat} {z : Int} (h : okR r z = true) (hl : isL2 r = true) : 0 ≤ z ∧ validR z.toNat ∧ isL2 z.toNat = true ∧ lower2 z.toNat = z := by
 unfold okR at h
 rw [hl] at h
 simp only [Bool.not_true, Bool.or_false, Bool.and_eq_true, decide_eq_true_eq, beq_iff_eq] at h
 exact ⟨h.1.1.1, h.1.1.2, h.1.2, h.2⟩
theorem low_good {r : Nat} (h : LetR r) : ∃ z : Nat, toLowerU (r : Int) = (z : Int) ∧ LetR z ∧ toLowerU (z : Int) = (z : Int) := by
 obtain ⟨hv, hl⟩ := h
 have hr : r ≤ 1114111 := by unfold validR at hv; omega
 have hl2 : isL2 r = true := by rw [← isL_eq r (by omega)]; exact hl
 have fin : ∀ z : Int, toLowerU (r : Int) = z → okR r z = true → ∃ z : Nat, toLowerU (r : Int) = (z : Int) ∧ LetR z ∧ toLowerU (z : Int) = (z : Int) := by
  intro z hz hok
  obtain ⟨h0, h1, h2, h3⟩ := okR_good hok hl2
  refine ⟨z.toNat, by rw [hz]; omega, ⟨h1, ?_⟩, ?_⟩
  ·rw [isL_eq _ (by unfold validR at h1; omega)]; exact h2
  ·rw [lower_eq, h3]; omega
 by_cases ha : r ≤ 127
 ·have h := List.all_eq_true.1 ascii_ok r (List.mem_range.2 (by omega))
  exact fin _ (lower_eq r) h
 ·cases hf : caseT.find? (fun x => inC x r) with
  | none =>
   have hlow : lower2 r = (r : Int) := by unfold lower2; rw [if_neg ha, hf]
   have e : toLowerU (r : Int) = (r : Int) := by rw [lower_eq, hlow]
   exact ⟨r, e, ⟨hv, hl⟩, e⟩
  | some x =>
   have hlow : lower2 r = convertR 1 (r : Int) x := by unfold lower2; rw [if_neg ha, hf]
   have hx := List.find?_some hf
   have hrow := List.all_eq_true.1 rows_ok x (List.mem_of_find?_eq_some hf)
   have hx' : x.1 ≤ r ∧ r ≤ x.2.1 := by simpa only [inC, Bool.and_eq_true, Nat.ble_eq] using hx
   unfold okRow at hrow
   have h := List.all_eq_true.1 hrow (r - x.1) (List.mem_range.2 (by omega))
   rw [show x.1 + (r - x.1) = r by omega] at h
   exact fin _ (by rw [lower_eq, hlow]) h
def lowN (r : Nat) : Nat := (toLowerU (r : Int)).toNat
theorem lowN_good {r : Nat} (h : LetR r) : toLowerU (r : Int) = ((lowN r : Nat) : Int) ∧ LetR (lowN r) ∧ lowN (lowN r) = lowN r := by
 obtain ⟨z, h1, h2, h3⟩ := low_good h
 have e : lowN r = z := by unfold lowN; rw [h1]; simp
 rw [e]
 exact ⟨h1, h2, by unfold lowN; rw [h3]; simp⟩
theorem encodeRune_ne (r : Int) : encodeRune r ≠ [] := fun e => by
 have := runeCells_le r
 rw [runeCells_length, e] at this
 simp at this
theorem encs_cons (r : Nat) (rs : List Nat) : encs (r :: rs) = encodeRune (r : Int) ++ encs rs := rfl
theorem lower_encs : ∀ rs : List Nat, (∀ r ∈ rs, LetR r) → lower (encs rs) = encs (rs.map lowN)
 | [], _ => rfl
 | r :: rs, h => by
  have hr := h r (.head _)
  have ih := lower_encs rs fun x hx => h x (.tail _ hx)
  have hd := encode_decode r hr.1 (encs rs)
  rw [encs_cons, lower_step (by simp [encodeRune_ne]), hd]
  simp only [List.drop_left, List.map_cons, encs_cons, ih]
  congr 1
  unfold lowC
  rw [(lowN_good hr).1]
/-- every word is made of letters -/
theorem words_encs : ∀ (n : Nat) (cs : List Nat) (l : List UInt8), l.length ≤ n → (∀ r ∈ cs, LetR r) → ∀ x ∈ wordsFrom (encs cs) l, ∃ rs : List Nat, x = encs rs ∧ ∀ r ∈ rs, LetR r
 | 0, cs, l, h, hc, x, hx => by
  rw [List.eq_nil_of_length_eq_zero (by omega : l.length = 0), wordsFrom_nil] at hx
  split at hx
  ·cases hx
  ·simp at hx
   exact ⟨cs, hx, hc⟩
 | n + 1, cs, l, h, hc, x, hx => by
  by_cases hne : l = []
  ·rw [hne, wordsFrom_nil] at hx
   split at hx
   ·cases hx
   ·simp at hx
    exact ⟨cs, hx, hc⟩
  ·have hw := decodeL_width l
   have hd : (l.drop (decodeL l).2).length ≤ n := by rw [List.length_drop]; omega
   rw [wordsFrom_step hne] at hx
   split at hx
   ·rename_i hL
    have hb : (decodeL l).1 ≠ 65533 := fun e => by rw [e, isL_bad'] at hL; cases hL
    obtain ⟨hv, he⟩ := decode_encode l hne hb
    rw [he] at hx
    have e : encs cs ++ encodeRune ((decodeL l).1 : Int) = encs (cs ++ [(decodeL l).1]) := by simp [encs]
    rw [e] at hx
    refine words_encs n _ _ hd (fun r hr => ?_) x hx
    rcases List.mem_append.1 hr with hr | hr
    ·exact hc r hr
    ·simp at hr; rw [hr]; exact ⟨hv, hL⟩
   ·rcases List.mem_append.1 hx with hx | hx
    ·split at hx
     ·cases hx
     ·simp at hx
      exact ⟨cs, hx, hc⟩
    ·exact words_encs n [] _ hd (fun r hr => by cases hr) x hx
/-- a word of letters, then a space -/
theorem wordsFrom_encs (t : List UInt8) : ∀ (zs : List Nat) (cur : List UInt8), (∀ r ∈ zs, LetR r) → wordsFrom cur (encs zs ++ 32 :: t) = (if cur ++ encs zs = [] then [] else [cur ++ encs zs]) ++ wordsFrom [] t
 | [], cur, _ => by
  have e : encs [] = [] := rfl
  rw [e, List.nil_append, List.append_nil, wordsFrom_step (by simp), decode_ascii' 32 t (by decide)]
  have : isL (UInt8.toNat 32, 1).1 = false := isL_space
  rw [if_neg (by rw [this]; simp)]
  rfl
 | z :: zs, cur, h => by
  have hz := h z (.head _)
  have ih := wordsFrom_encs t zs (cur ++ encodeRune (z : Int)) fun r hr => h r (.tail _ hr)
  have hd := encode_decode z hz.1 (encs zs ++ 32 :: t)
  rw [encs_cons, List.append_assoc, wordsFrom_step (by simp [encodeRune_ne]), hd]
  simp only [hz.2, if_true, List.take_left, List.drop_left]
  rw [ih, List.append_assoc]
theorem raw_join : ∀ L : List (List Nat), (∀ zs ∈ L, zs ≠ [] ∧ ∀ r ∈ zs, LetR r) → wordsFrom [] (L.flatMap fun zs => encs zs ++ [32]) = L.map encs
 | [], _ => rfl
 | zs :: L, h => by
  have hz := h zs (.head _)
  have ih := raw_join L fun x hx => h x (.tail _ hx)
  have hne : encs zs ≠ [] := by
   intro e
   match zs, hz.1 with
   | z :: zs, _ =>
    rw [encs_cons] at e
    exact encodeRune_ne _ (List.append_eq_nil_iff.1 e).1
  rw [List.flatMap_cons, List.append_assoc, List.singleton_append, wordsFrom_encs _ zs [] hz.2, ih, List.nil_append, if_neg hne]
  rfl
end Sm
end Go.Proofs.YtnlhocbaighedaaGreatDoor
namespace Go.Proofs.YtnlhocbaighedaaGreatDoor
set_option linter.unusedVariables false
namespace Sm
open Go.Lib
theorem encs_ne {zs : List Nat} (h : zs ≠ []) : encs zs ≠ [] := by
 intro e
 match zs, h with
 | z :: zs, _ =>
  rw [encs_cons] at e
  exact encodeRune_ne _ (List.append_eq_nil_iff.1 e).1
theorem raw_self {zs : List Nat} (hne : zs ≠ []) (h : ∀ r ∈ zs, LetR r) : rawWords (encs zs) = [encs zs] := by
 have h1 := raw_join [zs] fun x hx => by simp at hx; subst hx; exact ⟨hne, h⟩
 have h2 := wordsFrom_sep 32 (by decide) isL_space [] _ [] (encs zs) (Nat.le_refl _)
 rw [List.flatMap_cons, List.flatMap_nil, List.append_nil] at h1
 rw [h1, wordsFrom_nil, if_pos rfl, List.append_nil] at h2
 exact h2.symm
theorem words_form {zs : List Nat} (hne : zs ≠ []) (h : ∀ r ∈ zs, LetR r) : words (encs zs) = [lower (encs zs)] := by
 unfold words
 rw [raw_self hne h]; rfl
/-- the letters of a word, in lower case -/
def Low (zs : List Nat) : Prop := zs ≠ [] ∧ ∀ r ∈ zs, LetR r ∧ lowN r = r
theorem Low.lower {zs : List Nat} (h : Low zs) : lower (encs zs) = encs zs := by
 rw [lower_encs zs fun r hr => (h.2 r hr).1]
 congr 1
 have : zs.map lowN = zs.map id := List.map_congr_left fun r hr => (h.2 r hr).2
 rw [this, List.map_id]
theorem Low.words {zs : List Nat} (h : Low zs) : Sm.words (encs zs) = [encs zs] := by
 rw [words_form h.1 fun r hr => (h.2 r hr).1, h.lower]
theorem word_low {s x : List UInt8} (hx : x ∈ words s) : ∃ zs, x = encs zs ∧ Low zs := by
 unfold words at hx
 obtain ⟨y, hy, rfl⟩ := List.mem_map.1 hx
 obtain ⟨rs, e, h⟩ := words_encs s.length [] s (Nat.le_refl _) (fun r hr => by cases hr) y hy
 have hne : rs ≠ [] := fun e' => by
  have := (words_sum s.length [] s (Nat.le_refl _)).2 y hy
  subst e'
  exact this e
 subst e
 refine ⟨rs.map lowN, lower_encs rs h, by simpa using hne, fun r hr => ?_⟩
 obtain ⟨r0, hr0, rfl⟩ := List.mem_map.1 hr
 exact ⟨(lowN_good (h r0 hr0)).2.1, (lowN_good (h r0 hr0)).2.2⟩
/-- all characters are letters -/
def alphaGo : Nat → List UInt8 → Bool
 | 0, _ => true
 | n + 1, l => if l = [] then true else isL (decodeL l).1 && alphaGo n (l.drop (decodeL l).2)
def alpha (l : List UInt8) : Bool := alphaGo l.length l
theorem alpha_encs : ∀ (n : Nat) (l : List UInt8), l.length ≤ n → alphaGo n l = true → ∃ zs, l = encs zs ∧ ∀ r ∈ zs, LetR r
 | 0, l, hl, _ => ⟨[], by rw [List.eq_nil_of_length_eq_zero (by omega : l.length = 0)]; rfl, fun r hr => by cases hr⟩
 | n + 1, l, hl, h => by
  by_cases hne : l = []
  ·subst hne; exact ⟨[], rfl, fun r hr => by cases hr⟩
  ·rw [alphaGo, if_neg hne, Bool.and_eq_true] at h
   have hb : (decodeL l).1 ≠ 65533 := fun e => by have := h.1; rw [e, isL_bad'] at this; cases this
   obtain ⟨hv, he⟩ := decode_encode l hne hb
   have hw := decodeL_width l
   obtain ⟨zs, e, hz⟩ := alpha_encs n (l.drop (decodeL l).2) (by rw [List.length_drop]; omega) h.2
   refine ⟨(decodeL l).1 :: zs, ?_, fun r hr => ?_⟩
   ·rw [encs_cons, ← he, ← e, List.take_append_drop]
   ·rcases List.mem_cons.1 hr with rfl | hr
    ·exact ⟨hv, h.1⟩
    ·exact hz r hr
theorem encs_alpha : ∀ (n : Nat) (zs : List Nat), (∀ r ∈ zs, LetR r) → alphaGo n (encs zs) = true
 | 0, _, _ => rfl
 | n + 1, [], _ => by rw [alphaGo, if_pos (show encs [] = [] from rfl)]
 | n + 1, z :: zs, h => by
  have hz := h z (.head _)
  have hd := encode_decode z hz.1 (encs zs)
  rw [alphaGo, if_neg (encs_ne (by simp)), encs_cons, hd]
  simp only [hz.2, Bool.true_and, List.drop_left]
  exact encs_alpha n zs fun r hr => h r (.tail _ hr)
/-- what a word in lower case is -/
theorem words_iff (s : List UInt8) : words s = [s] ↔ s ≠ [] ∧ alpha s = true ∧ lower s = s := by
 constructor
 ·intro h
  obtain ⟨zs, rfl, hz⟩ := word_low (s := s) (x := s) (by rw [h]; exact .head _)
  exact ⟨encs_ne hz.1, encs_alpha _ zs fun r hr => (hz.2 r hr).1, hz.lower⟩
 ·rintro ⟨h1, h2, h3⟩
  obtain ⟨zs, e, hz⟩ := alpha_encs _ s (Nat.le_refl _) h2
  subst e
  have hne : zs ≠ [] := by rintro rfl; exact h1 rfl
  rw [words_form hne hz, h3]
theorem valid_alpha : ∀ (n : Nat) (l : List UInt8), alphaGo n l = true → validGoD n l = true
 | 0, _, _ => rfl
 | n + 1, l, h => by
  rw [alphaGo] at h
  rw [validGoD]
  split
  ·rfl
  ·rename_i hne
   rw [if_neg hne, Bool.and_eq_true] at h
   have hb : ¬ ((decodeL l).1 = 65533 ∧ (decodeL l).2 = 1) := fun e => by have := h.1; rw [e.1, isL_bad'] at this; cases this
   rw [if_neg hb]
   exact valid_alpha n _ h.2
end Sm
end Go.Proofs.YtnlhocbaighedaaGreatDoor
namespace Go.Proofs.YtnlhocbaighedaaGreatDoor
open Go.RowKit
set_option linter.unusedVariables false
theorem notLetter_ok (x : Nat) (hx : x ≤ 1114111) (w : World) (hT : TabsU w) : Calls Tryz.prog 142 #[.int .i32 (x : Int)] w fun e w' => e = .returned (.bool (!Sm.isL x)) ∧ Below w.heap.size w w' := by
 have h := chLetter_ok x hx w hT
 obtain ⟨b, hb⟩ : ∃ b, Sm.isL x = b := ⟨_, rfl⟩
 rw [hb] at h ⊢
 have H := Lib.hid h
 clear h hb hT
 go_enter Tryz.func142, Tryz.ntmps142
 go_wp2_with fail
 refine H.out.mono ?_
 rintro e w1 ⟨rfl, hb1⟩
 go_wp2
 go_ret
 exact ⟨rfl, hb1⟩
theorem idx_alpha (s : ByteArray) : ∀ (f pos : Nat), Lib.idxFuncFrom (fun r => !Sm.isL r) true s f pos = -1 ↔ Sm.alphaGo f (s.data.toList.drop pos) = true
 | 0, pos => by simp [Lib.idxFuncFrom, Sm.alphaGo]
 | f + 1, pos => by
  have hd := Lib.decodeL_drop s pos
  rw [Lib.idxFuncFrom, Sm.alphaGo]
  by_cases hp : pos < s.size
  ·have hne : s.data.toList.drop pos ≠ [] := fun e => by
    have := congrArg List.length e
    rw [List.length_drop, Array.length_toList] at this
    have h2 : s.data.size = s.size := rfl
    simp at this; omega
   rw [if_pos hp, if_neg hne, hd]
   by_cases hl : Sm.isL (Utf8.decode s pos).1 = true
   ·rw [if_neg (by rw [hl]; decide), hl, Bool.true_and, idx_alpha s f, List.drop_drop]
   ·have hl' : Sm.isL (Utf8.decode s pos).1 = false := by simpa using hl
    rw [if_pos (by rw [hl']; rfl), hl', Bool.false_and]
    simp
  ·have he : s.data.toList.drop pos = [] := List.drop_eq_nil_of_le (by rw [Array.length_toList]; exact Nat.le_of_not_lt hp)
   rw [if_neg hp, if_pos he]; simp
theorem idx_word (s : Str) : (Lib.idxFunc (fun r => !Sm.isL r) true (bs s) < 0) ↔ Sm.alpha s = true := by
 have h := idx_alpha (bs s) (bs s).size 0
 have hr := Lib.idxFunc_range (fun r => !Sm.isL r) true (bs s)
 unfold Lib.idxFunc at hr ⊢
 have e : (bs s).data.toList.drop 0 = s := by simp [bs]
 have e2 : (bs s).size = s.length := by simp
 rw [e, e2] at h
 rw [e2] at hr ⊢
 unfold Sm.alpha
 rw [← h]
 rcases hr with hr | hr
 ·rw [hr]; simp
 ·constructor
  ·intro h; omega
  ·intro h; omega
theorem wordOk_iff (s : Str) : Q.wordOk s = (decide (s.length ≤ 8000) && (decide (s ≠ []) && (Sm.alpha s && (Sm.lower s == s)))) := by
 unfold Q.wordOk
 congr 1
 rw [Bool.eq_iff_iff, beq_iff_eq, Sm.words_iff]
 simp
theorem valid_word {s : Str} (h : Sm.alpha s = true) : Lib.validD s = true := Sm.valid_alpha _ _ h
set_option maxRecDepth 100000 in
set_option maxHeartbeats 4000000 in
theorem word_ok (s : Str) (w : World) (hs : s.length ≤ 4000000) (hT : TabsU w) : Calls Tryz.prog 104 #[.string (bs s)] w fun e w' => e = .returned (.bool (Q.wordOk s)) ∧ Below w.heap.size w w' := by
 rw [wordOk_iff]
 by_cases h0 : s = []
 ·subst h0
  go_enter Tryz.func104, Tryz.ntmps104
  go_wp2_with fail
  go_ret
  exact ⟨by simp, Below.refl _ _⟩
 have e0 : (s == []) = false := by rw [beq_eq_false_iff_ne]; exact h0
 have e0' : decide (s ≠ []) = true := decide_eq_true h0
 rw [e0', Bool.true_and]
 by_cases h1 : 8000 < s.length
 ·have hi : (8000 : Int) < (s.length : Int) := by omega
  have e1 : decide (s.length ≤ 8000) = false := decide_eq_false (by omega)
  rw [e1, Bool.false_and]
  go_enter Tryz.func104, Tryz.ntmps104
  go_wp2_with fail
  go_ret
  exact ⟨rfl, Below.refl _ _⟩
 have hi : ¬ (8000 : Int) < (s.length : Int) := by omega
 have e1 : decide (s.length ≤ 8000) = true := decide_eq_true (by omega)
 rw [e1, Bool.true_and]
 have hval := Tryz.utf8_ValidString (bs s) w (by simp; omega) hT.u8
 have hbs : (bs s).data.toList = s := by simp [bs]
 rw [hbs] at hval
 have hix := fun W (hb : Below w.heap.size w W) => Tryz.strings_IndexFunc_grows 142 #[] (fun args w => enters_of Tryz.func142 (by kernel_rfl) rfl args w) (fun r => !Sm.isL r) (bs s) W (fun V x hx hbV => by
  have := notLetter_ok x hx V (hT.ext (hb.trans (hbV.mono hb.size)))
  simpa using this)
 have hlo := fun W (hb : Below w.heap.size w W) => stemLower_ok s hs W (hT.ext hb)
 have hia := idx_word s
 have hva : Sm.alpha s = true → Lib.validD s = true := valid_word
 obtain ⟨vd, hvd⟩ : ∃ b, Lib.validD s = b := ⟨_, rfl⟩
 obtain ⟨al, hal⟩ : ∃ b, Sm.alpha s = b := ⟨_, rfl⟩
 obtain ⟨ix, hx⟩ : ∃ b, Lib.idxFunc (fun r => !Sm.isL r) true (bs s) = b := ⟨_, rfl⟩
 obtain ⟨lo, hl⟩ : ∃ b, Sm.lower s = b := ⟨_, rfl⟩
 rw [hvd] at hval hva
 rw [hal] at hia hva ⊢
 rw [hx] at hia
 simp only [hx] at hix
 rw [hl] at hlo ⊢
 have Hval := Lib.hid hval; have Hix := Lib.hid hix; have Hlo := Lib.hid hlo; have Hia := Lib.hid hia; have Hva := Lib.hid hva
 clear hval hix hlo hia hva hvd hal hx hl hbs e0' e1 hT
 go_enter Tryz.func104, Tryz.ntmps104
 go_wp2_with fail
 refine Hval.out.mono ?_
 rintro e w1 ⟨rfl, hb1⟩
 cases vd with
 | false =>
  go_wp2_with fail
  go_ret
  have : al = false := by
   cases al with
   | false => rfl
   | true => have := Hva.out rfl; cases this
  subst this
  exact ⟨rfl, hb1⟩
 | true =>
  go_wp2_with fail
  refine (Hix.out w1 hb1).mono ?_
  rintro e w2 ⟨rfl, hb2⟩
  have hb12 := hb1.trans (hb2.mono hb1.size)
  by_cases hneg : ix < 0
  ·have ha := Hia.out.1 hneg
   subst ha
   go_wp2_with fail
   refine (Hlo.out w2 hb12).mono ?_
   rintro e w3 ⟨rfl, hb3⟩
   go_wp2_with fail
   go_ret
   exact ⟨by simp, hb12.trans (hb3.mono hb12.size)⟩
  ·have ha : al = false := by
    cases al with
    | false => rfl
    | true => exact absurd (Hia.out.2 rfl) hneg
   subst ha
   go_wp2_with fail
   go_ret
   exact ⟨rfl, hb12⟩
/-- the words of a text, as the code finds them -/
def WordsAt (s : Str) (w : World) : Prop := Calls Tryz.prog 77 #[.string (bs s)] w fun e w' => ∃ A n c, e = .returned (.tuple #[.slice A n c, .bool ((splitS s).all Q.wordOk)]) ∧ ((splitS s).all Q.wordOk = true → n = (splitS s).length ∧ SlR strC M0 w' (.slice A n c) (splitS s)) ∧ Below w.heap.size w w'
theorem all_snoc (p : Str → Bool) (l : List Str) {k : Nat} (hk : k < l.length) : (l.take (k + 1)).all p = ((l.take k).all p && p l[k]) := by
 rw [List.take_succ_eq_append_getElem hk, List.all_append]; simp
set_option maxRecDepth 100000 in
set_option maxHeartbeats 4000000 in
theorem words_ok (s : Str) (w : World) (hs : s.length ≤ 4000000) (hT : TabsU w) : WordsAt s w := by
 have hsp := split_ok M0 s w hs (fun b h => h.elim)
 have hmem := splitS_mem s
 unfold WordsAt
 obtain ⟨l, hl⟩ : ∃ l, splitS s = l := ⟨_, rfl⟩
 rw [hl] at hsp hmem ⊢
 have Hsp := Lib.hid hsp; have HT := Lib.hid hT; have Hmem := Lib.hid hmem
 clear hsp hT hmem hl
 go_enter Tryz.func77, Tryz.ntmps77
 go_wp2_with fail
 refine Hsp.out.mono ?_
 rintro e w1 ⟨v, rfl, hown, hb1⟩
 have hr := hown.read0
 obtain ⟨A, c, rfl, _, _⟩ := hr.form
 obtain ⟨hlc, hcm⟩ := hr.lenM
 go_wp2_with fail
 go_loopw [11] (fun i wr => ∃ k : Nat, k ≤ l.length ∧ i = .int .i64 k ∧ Hid ((l.take k).all Q.wordOk = true) ∧ Below w1.heap.size w1 wr) (fun i _ => l.length - (intOf i).toNat)
 case atStart => exact ⟨0, Nat.zero_le _, rfl, Lib.hid rfl, Below.refl _ _⟩
 case round =>
  obtain ⟨k, hk, rfl, hall, hb⟩ := hrel
  by_cases hlt : k < l.length
  ·have hx1 := hr.ext hb
   obtain ⟨b, off, rfl, _, _, q0, hl1⟩ := hx1.strAt hlt
   have hst := all_snoc Q.wordOk l hlt
   have hm := (Hmem.out _ (List.getElem_mem hlt)).2
   obtain ⟨x, hx⟩ : ∃ x, x = l[k] := ⟨_, rfl⟩
   rw [← hx] at q0 hl1 hst hm
   have hb1r := hb1.trans (hb.mono hb1.size)
   have hc := word_ok x wr (by omega) (HT.out.ext hb1r)
   obtain ⟨t, ht⟩ : ∃ t, Q.wordOk x = t := ⟨_, rfl⟩
   rw [ht] at hc hst
   have Hc := Lib.hid hc; have Hst := Lib.hid hst; have Hx := Lib.hid hx; have Ht := Lib.hid ht
   clear hc hst hx ht hx1 hm
   go_wp2_with fail
   refine Hc.out.mono ?_
   rintro e w2 ⟨rfl, hb2⟩
   have hb12 := hb.trans (hb2.mono hb.size)
   cases t with
   | true =>
    go_wp2_with fail
    go_roundw
    case rel => exact ⟨k + 1, by omega, by go_num, Lib.hid (by rw [Hst.out, hall.out]; rfl), hb12⟩
    case measure => simp [intOf]; omega
   | false =>
    have hf : l.all Q.wordOk = false := by
     rw [List.all_eq_false]
     exact ⟨x, by rw [Hx.out]; exact List.getElem_mem hlt, by rw [Ht.out]; simp⟩
    go_wp2_with fail
    refine bodyPost_ret (v := .tuple #[.slice none 0 0, .bool (l.all Q.wordOk)]) (by simp [results, Tryz.results77, go_sem, hf]) rfl ⟨_, _, _, rfl, fun h => ?_, hb1.trans (hb12.mono hb1.size)⟩
    rw [hf] at h; cases h
  ·obtain rfl : k = l.length := by omega
   have hf : l.all Q.wordOk = true := by have := hall.out; rwa [List.take_length] at this
   go_wp2_with fail
   exact bodyPost_ret (v := .tuple #[.slice A l.length c, .bool (l.all Q.wordOk)]) (by simp [results, Tryz.results77, go_sem, hf]) rfl ⟨_, _, _, rfl, fun _ => ⟨rfl, hr.ext hb⟩, hb1.trans (hb.mono hb1.size)⟩
end Go.Proofs.YtnlhocbaighedaaGreatDoor
