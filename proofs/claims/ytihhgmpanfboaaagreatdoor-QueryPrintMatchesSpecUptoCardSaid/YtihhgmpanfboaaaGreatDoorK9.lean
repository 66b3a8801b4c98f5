/-
  Contracts and plain facts, one after another: strings.Split at a space; the words of a text; query.word, query.words.
-/
import Derived.Test.YtihhgmpanfboaaaGreatDoorK6
import Derived.Test.YtihhgmpanfboaaaGreatDoorK3
import Derived.Test.YtihhgmpanfboaaaGreatDoorK2
import Derived.Test.YtihhgmpanfboaaaGreatDoorK8
import Derived.Test.YtihhgmpanfboaaaGreatDoorK4
import Derived.Test.YtihhgmpanfboaaaGreatDoorShelf
import Derived.Deep.QuietTactic
import Derived.BigQuiet
import Derived.Lib.Bytealg
import Derived.Outline
import Derived.Lib.TrimUEq
import Derived.Lib.ValidLaws
namespace Go.Proofs.YtihhgmpanfboaaaGreatDoor
open Go.RowKit

/-- A text with a space: cut at its first one. -/
theorem cut_first : ∀ s : Str, 32 ∈ s → ∃ q r, s = q ++ 32 :: r ∧ 32 ∉ q
  | [], h => by cases h
  | c :: t, h => by
    by_cases hc : c = 32
    · exact ⟨[], t, by rw [hc]; rfl, by simp⟩
    · rcases List.mem_cons.1 h with h | h
      · exact absurd h.symm hc
      · obtain ⟨q, r, rfl, hq⟩ := cut_first t h
        exact ⟨c :: q, r, rfl, by simp only [List.mem_cons, not_or]; exact ⟨fun e => hc e.symm, hq⟩⟩
theorem index_slash : ∀ (q r : Str), 32 ∉ q → Lib.indexByte (q ++ 32 :: r) 32 = (q.length : Int)
  | [], r, _ => by simp [Lib.indexByte]
  | c :: q, r, h => by
    simp only [List.mem_cons, not_or] at h
    have ih := index_slash q r h.2
    rw [List.cons_append, Lib.indexByte, ih]
    have h1 : (c == (32 : UInt8)) = false := by simpa using fun e : c = 32 => h.1 e.symm
    have h2 : ((q.length : Int) == -1) = false := by simp
    rw [h1, h2]; simp
theorem index_none : ∀ (s : Str), 32 ∉ s → Lib.indexByte s 32 = -1
  | [], _ => rfl
  | c :: q, h => by
    simp only [List.mem_cons, not_or] at h
    have ih := index_none q h.2
    have h1 : (c == (32 : UInt8)) = false := by simpa using fun e : c = 32 => h.1 e.symm
    rw [Lib.indexByte, ih, h1]; simp
theorem count_cut (q r : Str) (h : 32 ∉ q) : (q ++ 32 :: r).count 32 = r.count 32 + 1 := by
  rw [List.count_append, List.count_eq_zero_of_not_mem h, List.count_cons_self]; omega
theorem set_midS {α : Type} (p rest : List α) (a b : α) (k : Nat) (h : p.length = k) : (p ++ a :: rest).set k b = p ++ b :: rest := by
  subst h
  induction p with
  | nil => rfl
  | cons c p ih => rw [List.cons_append, List.length_cons, List.set_cons_succ, ih, List.cons_append]
set_option maxRecDepth 100000 in
theorem countB_ok (s : Str) (w : World) : Calls Tryz.prog 96 #[.string (bs s), .string ⟨#[32]⟩] w fun e w' => e = .returned (.int .i64 (s.count 32 : Nat)) ∧ w = w' := by
  go_enter Tryz.func96, Tryz.ntmps96
  go_wp2
  rw [run_callFunc_extern Tryz.func115 (by kernel_rfl) (by kernel_rfl) (by kernel_rfl) (e := Extern.BytealgCount.count) (by kernel_rfl), Lib.run_countString]
  simp only [Result.andThen]
  rw [Oper.upon_value]
  go_wp2
  go_ret
  exact ⟨by simp only [Lib.countByte]; rfl, rfl⟩
set_option maxRecDepth 100000 in
theorem indexByteB_ok (s : Str) (w : World) : Calls Tryz.prog 89 #[.string (bs s), .int .u8 32] w fun e w' => e = .returned (.int .i64 (Lib.indexByte s 32)) ∧ w = w' := by
  go_enter Tryz.func89, Tryz.ntmps89
  go_wp2
  rw [run_callFunc_extern Tryz.func109 (by kernel_rfl) (by kernel_rfl) (by kernel_rfl) (e := Extern.BytealgIndexByte.indexByte) (by kernel_rfl), Lib.run_indexByteString]
  simp only [Result.andThen]
  rw [Oper.upon_value]
  go_wp2
  go_ret
  exact ⟨by simp, rfl⟩
set_option maxRecDepth 100000 in
theorem index1_ok (s : Str) (w : World) : Calls Tryz.prog 64 #[.string (bs s), .string ⟨#[32]⟩] w fun e w' => e = .returned (.int .i64 (Lib.indexByte s 32)) ∧ w = w' := by
  have hb := indexByteB_ok s w
  obtain ⟨n, hn⟩ : ∃ n, Lib.indexByte s 32 = n := ⟨_, rfl⟩
  rw [hn] at hb ⊢
  cases hs : (([32] : List UInt8) == s) with
  | true =>
    have h0 : n = 0 := by
      have : s = [32] := by simpa using (beq_iff_eq.1 hs).symm
      rw [← hn, this]; rfl
    subst h0
    clear hn
    go_enter Tryz.func64, Tryz.ntmps64
    go_wp2_with fail
    go_ret
    exact ⟨rfl, rfl⟩
  | false =>
    clear hn
    go_enter Tryz.func64, Tryz.ntmps64
    go_wp2_with fail
    refine hb.mono ?_
    rintro e w' ⟨rfl, rfl⟩
    go_wp2
    go_ret
    exact ⟨rfl, rfl⟩
theorem index_ok (s : Str) (w : World) : Calls Tryz.prog 97 #[.string (bs s), .string ⟨#[32]⟩] w fun e w' => e = .returned (.int .i64 (Lib.indexByte s 32)) ∧ w = w' := by
  have hb := index1_ok s w
  generalize Lib.indexByte s 32 = n at hb ⊢
  go_enter Tryz.func97, Tryz.ntmps97
  go_wp2_with fail
  refine hb.mono ?_
  rintro e w' ⟨rfl, rfl⟩
  go_wp2
  go_ret
  exact ⟨rfl, rfl⟩

set_option maxRecDepth 100000 in
set_option maxHeartbeats 4000000 in
theorem genSplit_ok (M : Nat → Prop) (s : Str) (w : World) (hs : s.length ≤ 4000000) (_hM : ∀ b, M b → b < w.heap.size) : Calls Tryz.prog 70 #[.string (bs s), .string ⟨#[32]⟩, .int .i64 0, .int .i64 (-1)] w fun e w' =>
    ∃ v', e = .returned v' ∧ Own strC M w' w.heap.size 9 v' (splitS s) ∧ Below w.heap.size w w' := by
  obtain ⟨cn, hcn⟩ : ∃ cn, s.count 32 = cn := ⟨_, rfl⟩
  have hcl : cn ≤ s.length := hcn ▸ List.count_le_length
  have hcnt := countB_ok s w
  rw [hcn] at hcnt
  obtain ⟨i, hi, hz, h1, h2⟩ := info_parts (by kernel_rfl : (Tryz.prog.info? 9).map (fun i => (i.zero, i.size, i.bytes)) = some (some (.string ⟨#[]⟩), 1, 16))
  obtain ⟨w1, hmk, hown, hgr⟩ := run_makeSlice_full (P := Tryz.prog) (w := w) w.heap.size 43 9 i (.string ⟨#[]⟩) 1 Tryz.underlying43 hi hz h1 .i64 .i64 (cn + 1) (by omega) (by rw [h2]; omega) (by unfold maxLen; omega) (Nat.le_refl _)
  have Hcn := Lib.hid hcn; have Hown := Lib.hid hown
  have hcast : ((cn + 1 : Nat) : Int) = (cn : Int) + 1 := by omega
  rw [hcast] at hmk
  clear hcn hown hcast
  have hj : min (cn : Int) (s.length : Int) = cn := by omega
  go_enter Tryz.func70, Tryz.ntmps70
  go_wp2_with fail
  refine hcnt.mono ?_
  rintro e w' ⟨rfl, rfl⟩
  go_wp2_with fail
  clear hmk hcnt
  have hB0 : Own strC M w1 w.heap.size 9 (.slice (some ⟨w.heap.size, 0, none⟩) (cn + 1) (cn + 1)) (List.replicate (cn + 1) []) := by
    refine ⟨List.replicate (cn + 1) (.string ⟨#[]⟩), ?_, by simp [strC], fun j hj => ?_⟩
    · have := Hown.out
      rw [Nat.mul_one] at this
      rw [show madeCells (Value.string ⟨#[]⟩).cells (cn + 1) = madeCells #[.string ⟨#[]⟩] (cn + 1) from rfl, toList_madeCells_one] at this
      rw [List.length_replicate]
      exact this
    · have hj' : j < cn + 1 := by simpa using hj
      rw [List.getElem_replicate, List.drop_replicate, List.take_replicate]
      have : min strC.n (cn + 1 - j * strC.n) = 1 := by show min 1 (cn + 1 - j * 1) = 1; omega
      rw [this]
      exact ⟨rfl, Nat.zero_le _⟩
  have hb1 : Below w.heap.size w w1 := (Below.refl _ _).grown hgr (Nat.le_refl _) (fun b h => by cases h)
  have HB0 := Lib.hid hB0; have Hb1 := Lib.hid hb1
  clear hB0 hgr hi hz h1 h2 hj Hown
  go_loopw [0, 10] (fun sv ii wr => ∃ (k : Nat) (p : List Str) (r : Str), k ≤ cn ∧ ii = .int .i64 k ∧ sv = .string (bs r) ∧ Hid (p.length = k ∧ splitS s = p ++ splitS r ∧ r.count 32 = cn - k ∧ r.length ≤ s.length) ∧ Own strC M wr w.heap.size 9 (.slice (some ⟨w.heap.size, 0, none⟩) (cn + 1) (cn + 1)) (p ++ List.replicate (cn + 1 - k) []) ∧ Below w.heap.size w wr) (fun _ ii _ => cn - (intOf ii).toNat)
  case atStart => exact ⟨0, [], s, Nat.zero_le _, rfl, rfl, Lib.hid ⟨rfl, rfl, by rw [Hcn.out]; rfl, Nat.le_refl _⟩, by simpa using HB0.out, Hb1.out⟩
  case round =>
    obtain ⟨k, p, r, hk, rfl, rfl, hp, hown, hb⟩ := hrel
    have hrl : r.length ≤ 4000000 := Nat.le_trans hp.out.2.2.2 hs
    have hoL : 0 < (p ++ List.replicate (cn + 1 - k) ([] : Str)).length := by simp; omega
    obtain ⟨g, c9, cur, hv, _, _, _, hblk, hsz⟩ := hown.blk hoL
    injection hv with hv1 hv2 hv3
    injection hv1 with hv1
    injection hv1 with hv1
    subst hv1 hv3
    have hsz1 : cur.size = cn + 1 := by rw [hsz]; show (cn + 1) * 1 = cn + 1; omega
    have hc0 := hblk.cell k
    obtain ⟨u0, hu0⟩ : ∃ u, cur[k]? = some u := ⟨_, Array.getElem?_eq_getElem (by omega)⟩
    rw [hu0] at hc0
    clear hu0 hsz1 hsz
    have hf0 := hblk.frozen k
    have hgl := hblk.lt
    by_cases hlt : k < cn
    · have hmem : 32 ∈ r := by
        have := hp.out.2.2.1
        exact List.count_pos_iff.1 (by omega)
      obtain ⟨q, t, hr, hq⟩ := cut_first r hmem
      have hix := index_ok r wr
      rw [hr, index_slash q t hq, ← hr] at hix
      have hql : q.length + 1 ≤ r.length := by rw [hr]; simp
      have hi1 : (k : Int) < (cn : Int) + 1 := by omega
      have Hr := Lib.hid hr
      clear hr hmem hv2
      have Hhp := Lib.hid hown
      go_wp2_with fail
      refine hix.mono ?_
      rintro e w' ⟨rfl, rfl⟩
      go_wp2_with fail
      go_roundw
      case rel =>
        obtain ⟨p1, p2, p3, p4⟩ := hp.out
        have hr := Hr.out
        have e1 : List.take (r.length - (q.length + 1)) (List.drop (q.length + 1) r) = t := by
          rw [List.take_of_length_le (by rw [List.length_drop]; omega), hr, show q ++ 32 :: t = (q ++ [32]) ++ t by simp, List.drop_left' (by simp)]
        have e2 : List.take q.length r = q := by rw [hr, List.take_left]
        have htl : t.length ≤ r.length := by rw [hr]; simp; omega
        rw [e1, e2]
        have hset := hown.put1 rfl (k := k) (by rw [List.length_append, List.length_replicate]; omega) (u := .string (bs q)) (a := q) ⟨rfl, by unfold maxLen; omega⟩
        have e3 : (p ++ List.replicate (cn + 1 - k) ([] : Str)).set k q = (p ++ [q]) ++ List.replicate (cn + 1 - (k + 1)) [] := by
          rw [show cn + 1 - k = (cn + 1 - (k + 1)) + 1 by omega, List.replicate_succ, set_midS _ _ _ _ _ p1]
          simp
        rw [e3] at hset
        exact ⟨k + 1, p ++ [q], t, by omega, by go_num, rfl, Lib.hid ⟨by simp [p1], by rw [p2, hr, splitS_cut q t hq]; simp, by rw [hr, count_cut q t hq] at p3; omega, by omega⟩, hset, hb.setCell (p := ⟨w.heap.size, k, none⟩) (Nat.le_refl _) _⟩
      case measure => simp [intOf]; omega
    · obtain rfl : k = cn := by omega
      obtain ⟨p1, p2, p3, p4⟩ := hp.out
      have hno : 32 ∉ r := by
        intro h
        have := List.count_pos_iff.2 h
        omega
      have hset := hown.put1 rfl (k := k) (by rw [List.length_append, List.length_replicate]; omega) (u := .string (bs r)) (a := r) ⟨rfl, by unfold maxLen; omega⟩
      have e3 : (p ++ List.replicate (k + 1 - k) ([] : Str)).set k r = splitS s := by
        rw [show k + 1 - k = 0 + 1 by omega, List.replicate_succ, set_midS _ _ _ _ _ p1, p2, splitS_no r hno]
        rfl
      rw [e3] at hset
      have Hset := Lib.hid hset
      have hi1 : (k : Int) < (k : Int) + 1 := by omega
      clear hset e3 p1 p2 p3 p4 hno hv2
      go_wp2
      go_ret
      exact ⟨_, rfl, Hset.out, hb.setCell (p := ⟨w.heap.size, k, none⟩) (Nat.le_refl _) _⟩

set_option maxRecDepth 100000 in
theorem split_ok (M : Nat → Prop) (s : Str) (w : World) (hs : s.length ≤ 4000000) (hM : ∀ b, M b → b < w.heap.size) : Calls Tryz.prog 54 #[.string (bs s), .string ⟨#[32]⟩] w fun e w' =>
    ∃ v', e = .returned v' ∧ Own strC M w' w.heap.size 9 v' (splitS s) ∧ Below w.heap.size w w' := by
  have h := genSplit_ok M s w hs hM
  have H := Lib.hid h
  clear h
  go_enter Tryz.func54, Tryz.ntmps54
  go_wp2_with fail
  refine H.out.mono ?_
  rintro e w' ⟨v, rfl, h1, h2⟩
  obtain ⟨A, c, rfl, _, _⟩ := h1.shape
  go_wp2
  go_ret
  exact ⟨_, rfl, h1, h2⟩
end Go.Proofs.YtihhgmpanfboaaaGreatDoor
namespace Go.Proofs.YtihhgmpanfboaaaGreatDoor
open Go.RowKit
set_option linter.unusedVariables false
theorem notLetter_ok (x : Nat) (hx : x ≤ 1114111) (w : World) (hT : TabsU w) : Calls Tryz.prog 73 #[.int .i32 (x : Int)] w fun e w' => e = .returned (.bool (!Sm.isL x)) ∧ Below w.heap.size w w' := by
  have h := chLetter_ok x hx w hT
  obtain ⟨b, hb⟩ : ∃ b, Sm.isL x = b := ⟨_, rfl⟩
  rw [hb] at h ⊢
  have H := Lib.hid h
  clear h hb hT
  go_enter Tryz.func73, Tryz.ntmps73
  go_wp2_with fail
  refine H.out.mono ?_
  rintro e w1 ⟨rfl, hb1⟩
  go_wp2
  go_ret
  exact ⟨rfl, hb1⟩
theorem idx_alpha (s : ByteArray) : ∀ (f pos : Nat), Lib.idxFuncFrom (fun r => !Sm.isL r) true s f pos = -1 ↔ Sm.alphaGo f (s.data.toList.drop pos) = true
  | 0, pos => by simp [Lib.idxFuncFrom, Sm.alphaGo]
  | f + 1, pos => by
    have hd := Lib.decodeL_drop s pos
    rw [Lib.idxFuncFrom, Sm.alphaGo]
    by_cases hp : pos < s.size
    · have hne : s.data.toList.drop pos ≠ [] := fun e => by
        have := congrArg List.length e
        rw [List.length_drop, Array.length_toList] at this
        have h2 : s.data.size = s.size := rfl
        simp at this; omega
      rw [if_pos hp, if_neg hne, hd]
      by_cases hl : Sm.isL (Utf8.decode s pos).1 = true
      · rw [if_neg (by rw [hl]; decide), hl, Bool.true_and, idx_alpha s f, List.drop_drop]
      · have hl' : Sm.isL (Utf8.decode s pos).1 = false := by simpa using hl
        rw [if_pos (by rw [hl']; rfl), hl', Bool.false_and]
        simp
    · have he : s.data.toList.drop pos = [] := List.drop_eq_nil_of_le (by rw [Array.length_toList]; exact Nat.le_of_not_lt hp)
      rw [if_neg hp, if_pos he]; simp
theorem idx_word (s : Str) : (Lib.idxFunc (fun r => !Sm.isL r) true (bs s) < 0) ↔ Sm.alpha s = true := by
  have h := idx_alpha (bs s) (bs s).size 0
  have hr := Lib.idxFunc_range (fun r => !Sm.isL r) true (bs s)
  unfold Lib.idxFunc at hr ⊢
  have e : (bs s).data.toList.drop 0 = s := by simp [bs]
  have e2 : (bs s).size = s.length := by simp
  rw [e, e2] at h
  rw [e2] at hr ⊢
  unfold Sm.alpha
  rw [← h]
  rcases hr with hr | hr
  · rw [hr]; simp
  · constructor
    · intro h; omega
    · intro h; omega
theorem wordOk_iff (s : Str) : Q.wordOk s = (decide (s.length ≤ 8000) && (decide (s ≠ []) && (Sm.alpha s && (Sm.lower s == s)))) := by
  unfold Q.wordOk
  congr 1
  rw [Bool.eq_iff_iff, beq_iff_eq, Sm.words_iff]
  simp
theorem valid_word {s : Str} (h : Sm.alpha s = true) : Lib.validD s = true := Sm.valid_alpha _ _ h
set_option maxRecDepth 100000 in
set_option maxHeartbeats 4000000 in
theorem word_ok (s : Str) (w : World) (hs : s.length ≤ 4000000) (hT : TabsU w) : Calls Tryz.prog 55 #[.string (bs s)] w fun e w' => e = .returned (.bool (Q.wordOk s)) ∧ Below w.heap.size w w' := by
  rw [wordOk_iff]
  by_cases h0 : s = []
  · subst h0
    go_enter Tryz.func55, Tryz.ntmps55
    go_wp2_with fail
    go_ret
    exact ⟨by simp, Below.refl _ _⟩
  have e0 : (s == []) = false := by rw [beq_eq_false_iff_ne]; exact h0
  have e0' : decide (s ≠ []) = true := decide_eq_true h0
  rw [e0', Bool.true_and]
  by_cases h1 : 8000 < s.length
  · have hi : (8000 : Int) < (s.length : Int) := by omega
    have e1 : decide (s.length ≤ 8000) = false := decide_eq_false (by omega)
    rw [e1, Bool.false_and]
    go_enter Tryz.func55, Tryz.ntmps55
    go_wp2_with fail
    go_ret
    exact ⟨rfl, Below.refl _ _⟩
  have hi : ¬ (8000 : Int) < (s.length : Int) := by omega
  have e1 : decide (s.length ≤ 8000) = true := decide_eq_true (by omega)
  rw [e1, Bool.true_and]
  have hval := Tryz.utf8_ValidString (bs s) w (by simp; omega) hT.u8
  have hbs : (bs s).data.toList = s := by simp [bs]
  rw [hbs] at hval
  have hix := fun W (hb : Below w.heap.size w W) => Tryz.strings_IndexFunc_grows 73 #[] (fun args w => enters_of Tryz.func73 (by kernel_rfl) rfl args w) (fun r => !Sm.isL r) (bs s) W (fun V x hx hbV => by
    have := notLetter_ok x hx V (hT.ext (hb.trans (hbV.mono hb.size)))
    simpa using this)
  have hlo := fun W (hb : Below w.heap.size w W) => stemLower_ok s hs W (hT.ext hb)
  have hia := idx_word s
  have hva : Sm.alpha s = true → Lib.validD s = true := valid_word
  obtain ⟨vd, hvd⟩ : ∃ b, Lib.validD s = b := ⟨_, rfl⟩
  obtain ⟨al, hal⟩ : ∃ b, Sm.alpha s = b := ⟨_, rfl⟩
  obtain ⟨ix, hx⟩ : ∃ b, Lib.idxFunc (fun r => !Sm.isL r) true (bs s) = b := ⟨_, rfl⟩
  obtain ⟨lo, hl⟩ : ∃ b, Sm.lower s = b := ⟨_, rfl⟩
  rw [hvd] at hval hva
  rw [hal] at hia hva ⊢
  rw [hx] at hia
  simp only [hx] at hix
  rw [hl] at hlo ⊢
  have Hval := Lib.hid hval; have Hix := Lib.hid hix; have Hlo := Lib.hid hlo; have Hia := Lib.hid hia; have Hva := Lib.hid hva
  clear hval hix hlo hia hva hvd hal hx hl hbs e0' e1 hT
  go_enter Tryz.func55, Tryz.ntmps55
  go_wp2_with fail
  refine Hval.out.mono ?_
  rintro e w1 ⟨rfl, hb1⟩
  cases vd with
  | false =>
    go_wp2_with fail
    go_ret
    have : al = false := by
      cases al with
      | false => rfl
      | true => have := Hva.out rfl; cases this
    subst this
    exact ⟨rfl, hb1⟩
  | true =>
    go_wp2_with fail
    refine (Hix.out w1 hb1).mono ?_
    rintro e w2 ⟨rfl, hb2⟩
    have hb12 := hb1.trans (hb2.mono hb1.size)
    by_cases hneg : ix < 0
    · have ha := Hia.out.1 hneg
      subst ha
      go_wp2_with fail
      refine (Hlo.out w2 hb12).mono ?_
      rintro e w3 ⟨rfl, hb3⟩
      go_wp2_with fail
      go_ret
      exact ⟨by simp, hb12.trans (hb3.mono hb12.size)⟩
    · have ha : al = false := by
        cases al with
        | false => rfl
        | true => exact absurd (Hia.out.2 rfl) hneg
      subst ha
      go_wp2_with fail
      go_ret
      exact ⟨rfl, hb12⟩
/-- the words of a text, as the code finds them -/
def WordsAt (s : Str) (w : World) : Prop := Calls Tryz.prog 39 #[.string (bs s)] w fun e w' => ∃ A n c, e = .returned (.tuple #[.slice A n c, .bool ((splitS s).all Q.wordOk)]) ∧ ((splitS s).all Q.wordOk = true → n = (splitS s).length ∧ SlR strC M0 w' (.slice A n c) (splitS s)) ∧ Below w.heap.size w w'
theorem all_snoc (p : Str → Bool) (l : List Str) {k : Nat} (hk : k < l.length) : (l.take (k + 1)).all p = ((l.take k).all p && p l[k]) := by
  rw [List.take_succ_eq_append_getElem hk, List.all_append]; simp
set_option maxRecDepth 100000 in
set_option maxHeartbeats 4000000 in
theorem words_ok (s : Str) (w : World) (hs : s.length ≤ 4000000) (hT : TabsU w) : WordsAt s w := by
  have hsp := split_ok M0 s w hs (fun b h => h.elim)
  have hmem := splitS_mem s
  unfold WordsAt
  obtain ⟨l, hl⟩ : ∃ l, splitS s = l := ⟨_, rfl⟩
  rw [hl] at hsp hmem ⊢
  have Hsp := Lib.hid hsp; have HT := Lib.hid hT; have Hmem := Lib.hid hmem
  clear hsp hT hmem hl
  go_enter Tryz.func39, Tryz.ntmps39
  go_wp2_with fail
  refine Hsp.out.mono ?_
  rintro e w1 ⟨v, rfl, hown, hb1⟩
  have hr := hown.read0
  obtain ⟨A, c, rfl, _, _⟩ := hr.form
  obtain ⟨hlc, hcm⟩ := hr.lenM
  go_wp2_with fail
  go_loopw [11] (fun i wr => ∃ k : Nat, k ≤ l.length ∧ i = .int .i64 k ∧ Hid ((l.take k).all Q.wordOk = true) ∧ Below w1.heap.size w1 wr) (fun i _ => l.length - (intOf i).toNat)
  case atStart => exact ⟨0, Nat.zero_le _, rfl, Lib.hid rfl, Below.refl _ _⟩
  case round =>
    obtain ⟨k, hk, rfl, hall, hb⟩ := hrel
    by_cases hlt : k < l.length
    · have hx1 := hr.ext hb
      obtain ⟨b, off, rfl, _, _, q0, hl1⟩ := hx1.strAt hlt
      have hst := all_snoc Q.wordOk l hlt
      have hm := (Hmem.out _ (List.getElem_mem hlt)).2
      obtain ⟨x, hx⟩ : ∃ x, x = l[k] := ⟨_, rfl⟩
      rw [← hx] at q0 hl1 hst hm
      have hb1r := hb1.trans (hb.mono hb1.size)
      have hc := word_ok x wr (by omega) (HT.out.ext hb1r)
      obtain ⟨t, ht⟩ : ∃ t, Q.wordOk x = t := ⟨_, rfl⟩
      rw [ht] at hc hst
      have Hc := Lib.hid hc; have Hst := Lib.hid hst; have Hx := Lib.hid hx; have Ht := Lib.hid ht
      clear hc hst hx ht hx1 hm
      go_wp2_with fail
      refine Hc.out.mono ?_
      rintro e w2 ⟨rfl, hb2⟩
      have hb12 := hb.trans (hb2.mono hb.size)
      cases t with
      | true =>
        go_wp2_with fail
        go_roundw
        case rel => exact ⟨k + 1, by omega, by go_num, Lib.hid (by rw [Hst.out, hall.out]; rfl), hb12⟩
        case measure => simp [intOf]; omega
      | false =>
        have hf : l.all Q.wordOk = false := by
          rw [List.all_eq_false]
          exact ⟨x, by rw [Hx.out]; exact List.getElem_mem hlt, by rw [Ht.out]; simp⟩
        go_wp2_with fail
        refine bodyPost_ret (v := .tuple #[.slice none 0 0, .bool (l.all Q.wordOk)]) (by simp [results, Tryz.results39, go_sem, hf]) rfl ⟨_, _, _, rfl, fun h => ?_, hb1.trans (hb12.mono hb1.size)⟩
        rw [hf] at h; cases h
    · obtain rfl : k = l.length := by omega
      have hf : l.all Q.wordOk = true := by have := hall.out; rwa [List.take_length] at this
      go_wp2_with fail
      exact bodyPost_ret (v := .tuple #[.slice A l.length c, .bool (l.all Q.wordOk)]) (by simp [results, Tryz.results39, go_sem, hf]) rfl ⟨_, _, _, rfl, fun _ => ⟨rfl, hr.ext hb⟩, hb1.trans (hb.mono hb1.size)⟩
end Go.Proofs.YtihhgmpanfboaaaGreatDoor
