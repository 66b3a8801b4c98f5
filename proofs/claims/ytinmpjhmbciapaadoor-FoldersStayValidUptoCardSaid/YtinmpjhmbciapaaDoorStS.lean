/-
  strings.Split at a slash; the pieces of a path.
-/
import Derived.Test.YtinmpjhmbciapaaDoorStA
import Derived.Test.YtinmpjhmbciapaaDoorFoPure
import Derived.Lib.Bytealg
import Derived.Outline
namespace Go.Proofs.YtinmpjhmbciapaaDoor
open Go.RowKit

/-- A text with a slash: cut at its first one. -/
theorem cut_first : ∀ s : Str, 47 ∈ s → ∃ q r, s = q ++ 47 :: r ∧ 47 ∉ q
  | [], h => by cases h
  | c :: t, h => by
    by_cases hc : c = 47
    · exact ⟨[], t, by rw [hc]; rfl, by simp⟩
    · rcases List.mem_cons.1 h with h | h
      · exact absurd h.symm hc
      · obtain ⟨q, r, rfl, hq⟩ := cut_first t h
        exact ⟨c :: q, r, rfl, by simp only [List.mem_cons, not_or]; exact ⟨fun e => hc e.symm, hq⟩⟩
theorem index_slash : ∀ (q r : Str), 47 ∉ q → Lib.indexByte (q ++ 47 :: r) 47 = (q.length : Int)
  | [], r, _ => by simp [Lib.indexByte]
  | c :: q, r, h => by
    simp only [List.mem_cons, not_or] at h
    have ih := index_slash q r h.2
    rw [List.cons_append, Lib.indexByte, ih]
    have h1 : (c == (47 : UInt8)) = false := by simpa using fun e : c = 47 => h.1 e.symm
    have h2 : ((q.length : Int) == -1) = false := by simp
    rw [h1, h2]; simp
theorem index_none : ∀ (s : Str), 47 ∉ s → Lib.indexByte s 47 = -1
  | [], _ => rfl
  | c :: q, h => by
    simp only [List.mem_cons, not_or] at h
    have ih := index_none q h.2
    have h1 : (c == (47 : UInt8)) = false := by simpa using fun e : c = 47 => h.1 e.symm
    rw [Lib.indexByte, ih, h1]; simp
theorem count_cut (q r : Str) (h : 47 ∉ q) : (q ++ 47 :: r).count 47 = r.count 47 + 1 := by
  rw [List.count_append, List.count_eq_zero_of_not_mem h, List.count_cons_self]; omega
theorem split_cut (q r : Str) (h : 47 ∉ q) : splitF (q ++ 47 :: r) = q :: splitF r := by rw [splitF_append, splitF_noslash q h]; rfl
theorem split_len (s : Str) : (splitF s).length = s.count 47 + 1 := by
  induction s with
  | nil => rfl
  | cons c t ih =>
    rw [splitF]
    split
    · rename_i h; subst h; rw [List.length_cons, ih, List.count_cons_self]
    · rename_i h
      rw [List.count_cons_of_ne (fun e => h (by simpa using e))]
      cases h2 : splitF t with
      | nil => exact absurd h2 (splitF_ne t)
      | cons a r => rw [h2] at ih; exact ih

theorem set_mid {α : Type} (p rest : List α) (a b : α) (k : Nat) (h : p.length = k) : (p ++ a :: rest).set k b = p ++ b :: rest := by
  subst h
  induction p with
  | nil => rfl
  | cons c p ih => rw [List.cons_append, List.length_cons, List.set_cons_succ, ih, List.cons_append]
set_option maxRecDepth 100000 in
theorem countB_ok (s : Str) (w : World) : Calls Tryd.prog 102 #[.string (bs s), .string ⟨#[47]⟩] w fun e w' => e = .returned (.int .i64 (s.count 47 : Nat)) ∧ w = w' := by
  go_enter Tryd.func102, Tryd.ntmps102
  go_wp2
  rw [run_callFunc_extern Tryd.func106 (by kernel_rfl) (by kernel_rfl) (by kernel_rfl) (e := Extern.BytealgCount.count) (by kernel_rfl), Lib.run_countString]
  simp only [Result.andThen]
  rw [Oper.upon_value]
  go_wp2
  go_ret
  exact ⟨by simp only [Lib.countByte]; rfl, rfl⟩
set_option maxRecDepth 100000 in
theorem indexByteB_ok (s : Str) (w : World) : Calls Tryd.prog 84 #[.string (bs s), .int .u8 47] w fun e w' => e = .returned (.int .i64 (Lib.indexByte s 47)) ∧ w = w' := by
  go_enter Tryd.func84, Tryd.ntmps84
  go_wp2
  rw [run_callFunc_extern Tryd.func98 (by kernel_rfl) (by kernel_rfl) (by kernel_rfl) (e := Extern.BytealgIndexByte.indexByte) (by kernel_rfl), Lib.run_indexByteString]
  simp only [Result.andThen]
  rw [Oper.upon_value]
  go_wp2
  go_ret
  exact ⟨by simp, rfl⟩
set_option maxRecDepth 100000 in
theorem index1_ok (s : Str) (w : World) : Calls Tryd.prog 107 #[.string (bs s), .string ⟨#[47]⟩] w fun e w' => e = .returned (.int .i64 (Lib.indexByte s 47)) ∧ w = w' := by
  have hb := indexByteB_ok s w
  obtain ⟨n, hn⟩ : ∃ n, Lib.indexByte s 47 = n := ⟨_, rfl⟩
  rw [hn] at hb ⊢
  cases hs : (([47] : List UInt8) == s) with
  | true =>
    have h0 : n = 0 := by
      have : s = [47] := by simpa using (beq_iff_eq.1 hs).symm
      rw [← hn, this]; rfl
    subst h0
    clear hn
    go_enter Tryd.func107, Tryd.ntmps107
    go_wp2_with fail
    go_ret
    exact ⟨rfl, rfl⟩
  | false =>
    clear hn
    go_enter Tryd.func107, Tryd.ntmps107
    go_wp2_with fail
    refine hb.mono ?_
    rintro e w' ⟨rfl, rfl⟩
    go_wp2
    go_ret
    exact ⟨rfl, rfl⟩
theorem index_ok (s : Str) (w : World) : Calls Tryd.prog 103 #[.string (bs s), .string ⟨#[47]⟩] w fun e w' => e = .returned (.int .i64 (Lib.indexByte s 47)) ∧ w = w' := by
  have hb := index1_ok s w
  generalize Lib.indexByte s 47 = n at hb ⊢
  go_enter Tryd.func103, Tryd.ntmps103
  go_wp2_with fail
  refine hb.mono ?_
  rintro e w' ⟨rfl, rfl⟩
  go_wp2
  go_ret
  exact ⟨rfl, rfl⟩

set_option maxRecDepth 100000 in
set_option maxHeartbeats 4000000 in
theorem genSplit_ok (M : Nat → Prop) (s : Str) (w : World) (hs : s.length ≤ 4000000) (_hM : ∀ b, M b → b < w.heap.size) : Calls Tryd.prog 86 #[.string (bs s), .string ⟨#[47]⟩, .int .i64 0, .int .i64 (-1)] w fun e w' =>
    ∃ v', e = .returned v' ∧ Own strC M w' w.heap.size 9 v' (splitF s) ∧ Below w.heap.size w w' := by
  obtain ⟨cn, hcn⟩ : ∃ cn, s.count 47 = cn := ⟨_, rfl⟩
  have hcl : cn ≤ s.length := hcn ▸ List.count_le_length
  have hcnt := countB_ok s w
  rw [hcn] at hcnt
  obtain ⟨i, hi, hz, h1, h2⟩ := info_parts (by kernel_rfl : (Tryd.prog.info? 9).map (fun i => (i.zero, i.size, i.bytes)) = some (some (.string ⟨#[]⟩), 1, 16))
  obtain ⟨w1, hmk, hown, hgr⟩ := run_makeSlice_full (P := Tryd.prog) (w := w) w.heap.size 22 9 i (.string ⟨#[]⟩) 1 Tryd.underlying22 hi hz h1 .i64 .i64 (cn + 1) (by omega) (by rw [h2]; omega) (by unfold maxLen; omega) (Nat.le_refl _)
  have Hcn := Lib.hid hcn; have Hown := Lib.hid hown
  have hcast : ((cn + 1 : Nat) : Int) = (cn : Int) + 1 := by omega
  rw [hcast] at hmk
  clear hcn hown hcast
  have hj : min (cn : Int) (s.length : Int) = cn := by omega
  go_enter Tryd.func86, Tryd.ntmps86
  go_wp2_with fail
  refine hcnt.mono ?_
  rintro e w' ⟨rfl, rfl⟩
  go_wp2_with fail
  clear hmk hcnt
  have hB0 : Own strC M w1 w.heap.size 9 (.slice (some ⟨w.heap.size, 0, none⟩) (cn + 1) (cn + 1)) (List.replicate (cn + 1) []) := by
    refine ⟨List.replicate (cn + 1) (.string ⟨#[]⟩), ?_, by simp [strC], fun j hj => ?_⟩
    · have := Hown.out
      rw [Nat.mul_one] at this
      rw [show madeCells (Value.string ⟨#[]⟩).cells (cn + 1) = madeCells #[.string ⟨#[]⟩] (cn + 1) from rfl, toList_madeCells_one] at this
      rw [List.length_replicate]
      exact this
    · have hj' : j < cn + 1 := by simpa using hj
      rw [List.getElem_replicate, List.drop_replicate, List.take_replicate]
      have : min strC.n (cn + 1 - j * strC.n) = 1 := by show min 1 (cn + 1 - j * 1) = 1; omega
      rw [this]
      exact ⟨rfl, Nat.zero_le _⟩
  have hb1 : Below w.heap.size w w1 := (Below.refl _ _).grown hgr (Nat.le_refl _) (fun b h => by cases h)
  have HB0 := Lib.hid hB0; have Hb1 := Lib.hid hb1
  clear hB0 hgr hi hz h1 h2 hj Hown
  go_loopw [0, 10] (fun sv ii wr => ∃ (k : Nat) (p : List Str) (r : Str), k ≤ cn ∧ ii = .int .i64 k ∧ sv = .string (bs r) ∧ Hid (p.length = k ∧ splitF s = p ++ splitF r ∧ r.count 47 = cn - k ∧ r.length ≤ s.length) ∧ Own strC M wr w.heap.size 9 (.slice (some ⟨w.heap.size, 0, none⟩) (cn + 1) (cn + 1)) (p ++ List.replicate (cn + 1 - k) []) ∧ Below w.heap.size w wr) (fun _ ii _ => cn - (intOf ii).toNat)
  case atStart => exact ⟨0, [], s, Nat.zero_le _, rfl, rfl, Lib.hid ⟨rfl, rfl, by rw [Hcn.out]; rfl, Nat.le_refl _⟩, by simpa using HB0.out, Hb1.out⟩
  case round =>
    obtain ⟨k, p, r, hk, rfl, rfl, hp, hown, hb⟩ := hrel
    have hrl : r.length ≤ 4000000 := Nat.le_trans hp.out.2.2.2 hs
    have hoL : 0 < (p ++ List.replicate (cn + 1 - k) ([] : Str)).length := by simp; omega
    obtain ⟨g, c9, cur, hv, _, _, _, hblk, hsz⟩ := hown.blk hoL
    injection hv with hv1 hv2 hv3
    injection hv1 with hv1
    injection hv1 with hv1
    subst hv1 hv3
    have hsz1 : cur.size = cn + 1 := by rw [hsz]; show (cn + 1) * 1 = cn + 1; omega
    have hc0 := hblk.cell k
    obtain ⟨u0, hu0⟩ : ∃ u, cur[k]? = some u := ⟨_, Array.getElem?_eq_getElem (by omega)⟩
    rw [hu0] at hc0
    clear hu0 hsz1 hsz
    have hf0 := hblk.frozen k
    have hgl := hblk.lt
    by_cases hlt : k < cn
    · have hmem : 47 ∈ r := by
        have := hp.out.2.2.1
        exact List.count_pos_iff.1 (by omega)
      obtain ⟨q, t, hr, hq⟩ := cut_first r hmem
      have hix := index_ok r wr
      rw [hr, index_slash q t hq, ← hr] at hix
      have hql : q.length + 1 ≤ r.length := by rw [hr]; simp
      have hi1 : (k : Int) < (cn : Int) + 1 := by omega
      have Hr := Lib.hid hr
      clear hr hmem hv2
      have Hhp := Lib.hid hown
      go_wp2_with fail
      refine hix.mono ?_
      rintro e w' ⟨rfl, rfl⟩
      go_wp2_with fail
      go_roundw
      case rel =>
        obtain ⟨p1, p2, p3, p4⟩ := hp.out
        have hr := Hr.out
        have e1 : List.take (r.length - (q.length + 1)) (List.drop (q.length + 1) r) = t := by
          rw [List.take_of_length_le (by rw [List.length_drop]; omega), hr, show q ++ 47 :: t = (q ++ [47]) ++ t by simp, List.drop_left' (by simp)]
        have e2 : List.take q.length r = q := by rw [hr, List.take_left]
        have htl : t.length ≤ r.length := by rw [hr]; simp; omega
        rw [e1, e2]
        have hset := hown.put1 rfl (k := k) (by rw [List.length_append, List.length_replicate]; omega) (u := .string (bs q)) (a := q) ⟨rfl, by unfold maxLen; omega⟩
        have e3 : (p ++ List.replicate (cn + 1 - k) ([] : Str)).set k q = (p ++ [q]) ++ List.replicate (cn + 1 - (k + 1)) [] := by
          rw [show cn + 1 - k = (cn + 1 - (k + 1)) + 1 by omega, List.replicate_succ, set_mid _ _ _ _ _ p1]
          simp
        rw [e3] at hset
        exact ⟨k + 1, p ++ [q], t, by omega, by go_num, rfl, Lib.hid ⟨by simp [p1], by rw [p2, hr, split_cut q t hq]; simp, by rw [hr, count_cut q t hq] at p3; omega, by omega⟩, hset, hb.setCell (p := ⟨w.heap.size, k, none⟩) (Nat.le_refl _) _⟩
      case measure => simp [intOf]; omega
    · obtain rfl : k = cn := by omega
      obtain ⟨p1, p2, p3, p4⟩ := hp.out
      have hno : 47 ∉ r := by
        intro h
        have := List.count_pos_iff.2 h
        omega
      have hset := hown.put1 rfl (k := k) (by rw [List.length_append, List.length_replicate]; omega) (u := .string (bs r)) (a := r) ⟨rfl, by unfold maxLen; omega⟩
      have e3 : (p ++ List.replicate (k + 1 - k) ([] : Str)).set k r = splitF s := by
        rw [show k + 1 - k = 0 + 1 by omega, List.replicate_succ, set_mid _ _ _ _ _ p1, p2, splitF_noslash r hno]
        rfl
      rw [e3] at hset
      have Hset := Lib.hid hset
      have hi1 : (k : Int) < (k : Int) + 1 := by omega
      clear hset e3 p1 p2 p3 p4 hno hv2
      go_wp2
      go_ret
      exact ⟨_, rfl, Hset.out, hb.setCell (p := ⟨w.heap.size, k, none⟩) (Nat.le_refl _) _⟩

set_option maxRecDepth 100000 in
theorem split_ok (M : Nat → Prop) (s : Str) (w : World) (hs : s.length ≤ 4000000) (hM : ∀ b, M b → b < w.heap.size) : Calls Tryd.prog 68 #[.string (bs s), .string ⟨#[47]⟩] w fun e w' =>
    ∃ v', e = .returned v' ∧ Own strC M w' w.heap.size 9 v' (splitF s) ∧ Below w.heap.size w w' := by
  have h := genSplit_ok M s w hs hM
  have H := Lib.hid h
  clear h
  go_enter Tryd.func68, Tryd.ntmps68
  go_wp2_with fail
  refine H.out.mono ?_
  rintro e w' ⟨v, rfl, h1, h2⟩
  obtain ⟨A, c, rfl, _, _⟩ := h1.shape
  go_wp2
  go_ret
  exact ⟨_, rfl, h1, h2⟩
end Go.Proofs.YtinmpjhmbciapaaDoor
