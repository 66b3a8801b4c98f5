/-
  Contracts and plain facts, one after another: strings.Split at a space; the words of a text; Words made of letters: a word of a text is its only word; what a text must be like to be a word; plain; query.word, query.words; The index of texts, made at once, is the one to which they have been added one by one; plain.
-/
import Derived.Test.YtiohhajkegpebaaGreatDoorR2
import Derived.Test.YtiohhajkegpebaaGreatDoorR6
import Derived.Test.YtiohhajkegpebaaGreatDoorR8
import Derived.Test.YtiohhajkegpebaaGreatDoorR12
import Derived.Test.YtiohhajkegpebaaGreatDoorR1
import Derived.Test.YtiohhajkegpebaaGreatDoorShelf
import Derived.Test.YtiohhajkegpebaaGreatDoorR9
import Derived.Deep.QuietTactic
import Derived.BigQuiet
import Derived.Lib.Bytealg
import Derived.Outline
import Derived.Lib.ValidLaws
import Derived.Lib.TrimUEq
namespace Go.Proofs.YtiohhajkegpebaaGreatDoor
open Go.RowKit

/-- A text with a space: cut at its first one. -/
theorem cut_first : ∀ s : Str, 32 ∈ s → ∃ q r, s = q ++ 32 :: r ∧ 32 ∉ q
  | [], h => by cases h
  | c :: t, h => by
    by_cases hc : c = 32
    · exact ⟨[], t, by rw [hc]; rfl, by simp⟩
    · rcases List.mem_cons.1 h with h | h
      · exact absurd h.symm hc
      · obtain ⟨q, r, rfl, hq⟩ := cut_first t h
        exact ⟨c :: q, r, rfl, by simp only [List.mem_cons, not_or]; exact ⟨fun e => hc e.symm, hq⟩⟩
theorem index_slash : ∀ (q r : Str), 32 ∉ q → Lib.indexByte (q ++ 32 :: r) 32 = (q.length : Int)
  | [], r, _ => by simp [Lib.indexByte]
  | c :: q, r, h => by
    simp only [List.mem_cons, not_or] at h
    have ih := index_slash q r h.2
    rw [List.cons_append, Lib.indexByte, ih]
    have h1 : (c == (32 : UInt8)) = false := by simpa using fun e : c = 32 => h.1 e.symm
    have h2 : ((q.length : Int) == -1) = false := by simp
    rw [h1, h2]; simp
theorem index_none : ∀ (s : Str), 32 ∉ s → Lib.indexByte s 32 = -1
  | [], _ => rfl
  | c :: q, h => by
    simp only [List.mem_cons, not_or] at h
    have ih := index_none q h.2
    have h1 : (c == (32 : UInt8)) = false := by simpa using fun e : c = 32 => h.1 e.symm
    rw [Lib.indexByte, ih, h1]; simp
theorem count_cut (q r : Str) (h : 32 ∉ q) : (q ++ 32 :: r).count 32 = r.count 32 + 1 := by
  rw [List.count_append, List.count_eq_zero_of_not_mem h, List.count_cons_self]; omega
theorem set_midS {α : Type} (p rest : List α) (a b : α) (k : Nat) (h : p.length = k) : (p ++ a :: rest).set k b = p ++ b :: rest := by
  subst h
  induction p with
  | nil => rfl
  | cons c p ih => rw [List.cons_append, List.length_cons, List.set_cons_succ, ih, List.cons_append]
set_option maxRecDepth 100000 in
theorem countB_ok (s : Str) (w : World) : Calls Tryz.prog 137 #[.string (bs s), .string ⟨#[32]⟩] w fun e w' => e = .returned (.int .i64 (s.count 32 : Nat)) ∧ w = w' := by
  go_enter Tryz.func137, Tryz.ntmps137
  go_wp2
  rw [run_callFunc_extern Tryz.func160 (by kernel_rfl) (by kernel_rfl) (by kernel_rfl) (e := Extern.BytealgCount.count) (by kernel_rfl), Lib.run_countString]
  simp only [Result.andThen]
  rw [Oper.upon_value]
  go_wp2
  go_ret
  exact ⟨by simp only [Lib.countByte]; rfl, rfl⟩
set_option maxRecDepth 100000 in
theorem indexByteB_ok (s : Str) (w : World) : Calls Tryz.prog 152 #[.string (bs s), .int .u8 32] w fun e w' => e = .returned (.int .i64 (Lib.indexByte s 32)) ∧ w = w' := by
  go_enter Tryz.func152, Tryz.ntmps152
  go_wp2
  rw [run_callFunc_extern Tryz.func167 (by kernel_rfl) (by kernel_rfl) (by kernel_rfl) (e := Extern.BytealgIndexByte.indexByte) (by kernel_rfl), Lib.run_indexByteString]
  simp only [Result.andThen]
  rw [Oper.upon_value]
  go_wp2
  go_ret
  exact ⟨by simp, rfl⟩
set_option maxRecDepth 100000 in
theorem index1_ok (s : Str) (w : World) : Calls Tryz.prog 149 #[.string (bs s), .string ⟨#[32]⟩] w fun e w' => e = .returned (.int .i64 (Lib.indexByte s 32)) ∧ w = w' := by
  have hb := indexByteB_ok s w
  obtain ⟨n, hn⟩ : ∃ n, Lib.indexByte s 32 = n := ⟨_, rfl⟩
  rw [hn] at hb ⊢
  cases hs : (([32] : List UInt8) == s) with
  | true =>
    have h0 : n = 0 := by
      have : s = [32] := by simpa using (beq_iff_eq.1 hs).symm
      rw [← hn, this]; rfl
    subst h0
    clear hn
    go_enter Tryz.func149, Tryz.ntmps149
    go_wp2_with fail
    go_ret
    exact ⟨rfl, rfl⟩
  | false =>
    clear hn
    go_enter Tryz.func149, Tryz.ntmps149
    go_wp2_with fail
    refine hb.mono ?_
    rintro e w' ⟨rfl, rfl⟩
    go_wp2
    go_ret
    exact ⟨rfl, rfl⟩
theorem index_ok (s : Str) (w : World) : Calls Tryz.prog 122 #[.string (bs s), .string ⟨#[32]⟩] w fun e w' => e = .returned (.int .i64 (Lib.indexByte s 32)) ∧ w = w' := by
  have hb := index1_ok s w
  generalize Lib.indexByte s 32 = n at hb ⊢
  go_enter Tryz.func122, Tryz.ntmps122
  go_wp2_with fail
  refine hb.mono ?_
  rintro e w' ⟨rfl, rfl⟩
  go_wp2
  go_ret
  exact ⟨rfl, rfl⟩

set_option maxRecDepth 100000 in
set_option maxHeartbeats 4000000 in
theorem genSplit_ok (M : Nat → Prop) (s : Str) (w : World) (hs : s.length ≤ 4000000) (_hM : ∀ b, M b → b < w.heap.size) : Calls Tryz.prog 98 #[.string (bs s), .string ⟨#[32]⟩, .int .i64 0, .int .i64 (-1)] w fun e w' =>
    ∃ v', e = .returned v' ∧ Own strC M w' w.heap.size 9 v' (splitS s) ∧ Below w.heap.size w w' := by
  obtain ⟨cn, hcn⟩ : ∃ cn, s.count 32 = cn := ⟨_, rfl⟩
  have hcl : cn ≤ s.length := hcn ▸ List.count_le_length
  have hcnt := countB_ok s w
  rw [hcn] at hcnt
  obtain ⟨i, hi, hz, h1, h2⟩ := info_parts (by kernel_rfl : (Tryz.prog.info? 9).map (fun i => (i.zero, i.size, i.bytes)) = some (some (.string ⟨#[]⟩), 1, 16))
  obtain ⟨w1, hmk, hown, hgr⟩ := run_makeSlice_full (P := Tryz.prog) (w := w) w.heap.size 47 9 i (.string ⟨#[]⟩) 1 Tryz.underlying47 hi hz h1 .i64 .i64 (cn + 1) (by omega) (by rw [h2]; omega) (by unfold maxLen; omega) (Nat.le_refl _)
  have Hcn := Lib.hid hcn; have Hown := Lib.hid hown
  have hcast : ((cn + 1 : Nat) : Int) = (cn : Int) + 1 := by omega
  rw [hcast] at hmk
  clear hcn hown hcast
  have hj : min (cn : Int) (s.length : Int) = cn := by omega
  go_enter Tryz.func98, Tryz.ntmps98
  go_wp2_with fail
  refine hcnt.mono ?_
  rintro e w' ⟨rfl, rfl⟩
  go_wp2_with fail
  clear hmk hcnt
  have hB0 : Own strC M w1 w.heap.size 9 (.slice (some ⟨w.heap.size, 0, none⟩) (cn + 1) (cn + 1)) (List.replicate (cn + 1) []) := by
    refine ⟨List.replicate (cn + 1) (.string ⟨#[]⟩), ?_, by simp [strC], fun j hj => ?_⟩
    · have := Hown.out
      rw [Nat.mul_one] at this
      rw [show madeCells (Value.string ⟨#[]⟩).cells (cn + 1) = madeCells #[.string ⟨#[]⟩] (cn + 1) from rfl, toList_madeCells_one] at this
      rw [List.length_replicate]
      exact this
    · have hj' : j < cn + 1 := by simpa using hj
      rw [List.getElem_replicate, List.drop_replicate, List.take_replicate]
      have : min strC.n (cn + 1 - j * strC.n) = 1 := by show min 1 (cn + 1 - j * 1) = 1; omega
      rw [this]
      exact ⟨rfl, Nat.zero_le _⟩
  have hb1 : Below w.heap.size w w1 := (Below.refl _ _).grown hgr (Nat.le_refl _) (fun b h => by cases h)
  have HB0 := Lib.hid hB0; have Hb1 := Lib.hid hb1
  clear hB0 hgr hi hz h1 h2 hj Hown
  go_loopw [0, 10] (fun sv ii wr => ∃ (k : Nat) (p : List Str) (r : Str), k ≤ cn ∧ ii = .int .i64 k ∧ sv = .string (bs r) ∧ Hid (p.length = k ∧ splitS s = p ++ splitS r ∧ r.count 32 = cn - k ∧ r.length ≤ s.length) ∧ Own strC M wr w.heap.size 9 (.slice (some ⟨w.heap.size, 0, none⟩) (cn + 1) (cn + 1)) (p ++ List.replicate (cn + 1 - k) []) ∧ Below w.heap.size w wr) (fun _ ii _ => cn - (intOf ii).toNat)
  case atStart => exact ⟨0, [], s, Nat.zero_le _, rfl, rfl, Lib.hid ⟨rfl, rfl, by rw [Hcn.out]; rfl, Nat.le_refl _⟩, by simpa using HB0.out, Hb1.out⟩
  case round =>
    obtain ⟨k, p, r, hk, rfl, rfl, hp, hown, hb⟩ := hrel
    have hrl : r.length ≤ 4000000 := Nat.le_trans hp.out.2.2.2 hs
    have hoL : 0 < (p ++ List.replicate (cn + 1 - k) ([] : Str)).length := by simp; omega
    obtain ⟨g, c9, cur, hv, _, _, _, hblk, hsz⟩ := hown.blk hoL
    injection hv with hv1 hv2 hv3
    injection hv1 with hv1
    injection hv1 with hv1
    subst hv1 hv3
    have hsz1 : cur.size = cn + 1 := by rw [hsz]; show (cn + 1) * 1 = cn + 1; omega
    have hc0 := hblk.cell k
    obtain ⟨u0, hu0⟩ : ∃ u, cur[k]? = some u := ⟨_, Array.getElem?_eq_getElem (by omega)⟩
    rw [hu0] at hc0
    clear hu0 hsz1 hsz
    have hf0 := hblk.frozen k
    have hgl := hblk.lt
    by_cases hlt : k < cn
    · have hmem : 32 ∈ r := by
        have := hp.out.2.2.1
        exact List.count_pos_iff.1 (by omega)
      obtain ⟨q, t, hr, hq⟩ := cut_first r hmem
      have hix := index_ok r wr
      rw [hr, index_slash q t hq, ← hr] at hix
      have hql : q.length + 1 ≤ r.length := by rw [hr]; simp
      have hi1 : (k : Int) < (cn : Int) + 1 := by omega
      have Hr := Lib.hid hr
      clear hr hmem hv2
      have Hhp := Lib.hid hown
      go_wp2_with fail
      refine hix.mono ?_
      rintro e w' ⟨rfl, rfl⟩
      go_wp2_with fail
      go_roundw
      case rel =>
        obtain ⟨p1, p2, p3, p4⟩ := hp.out
        have hr := Hr.out
        have e1 : List.take (r.length - (q.length + 1)) (List.drop (q.length + 1) r) = t := by
          rw [List.take_of_length_le (by rw [List.length_drop]; omega), hr, show q ++ 32 :: t = (q ++ [32]) ++ t by simp, List.drop_left' (by simp)]
        have e2 : List.take q.length r = q := by rw [hr, List.take_left]
        have htl : t.length ≤ r.length := by rw [hr]; simp; omega
        rw [e1, e2]
        have hset := hown.put1 rfl (k := k) (by rw [List.length_append, List.length_replicate]; omega) (u := .string (bs q)) (a := q) ⟨rfl, by unfold maxLen; omega⟩
        have e3 : (p ++ List.replicate (cn + 1 - k) ([] : Str)).set k q = (p ++ [q]) ++ List.replicate (cn + 1 - (k + 1)) [] := by
          rw [show cn + 1 - k = (cn + 1 - (k + 1)) + 1 by omega, List.replicate_succ, set_midS _ _ _ _ _ p1]
          simp
        rw [e3] at hset
        exact ⟨k + 1, p ++ [q], t, by omega, by go_num, rfl, Lib.hid ⟨by simp [p1], by rw [p2, hr, splitS_cut q t hq]; simp, by rw [hr, count_cut q t hq] at p3; omega, by omega⟩, hset, hb.setCell (p := ⟨w.heap.size, k, none⟩) (Nat.le_refl _) _⟩
      case measure => simp [intOf]; omega
    · obtain rfl : k = cn := by omega
      obtain ⟨p1, p2, p3, p4⟩ := hp.out
      have hno : 32 ∉ r := by
        intro h
        have := List.count_pos_iff.2 h
        omega
      have hset := hown.put1 rfl (k := k) (by rw [List.length_append, List.length_replicate]; omega) (u := .string (bs r)) (a := r) ⟨rfl, by unfold maxLen; omega⟩
      have e3 : (p ++ List.replicate (k + 1 - k) ([] : Str)).set k r = splitS s := by
        rw [show k + 1 - k = 0 + 1 by omega, List.replicate_succ, set_midS _ _ _ _ _ p1, p2, splitS_no r hno]
        rfl
      rw [e3] at hset
      have Hset := Lib.hid hset
      have hi1 : (k : Int) < (k : Int) + 1 := by omega
      clear hset e3 p1 p2 p3 p4 hno hv2
      go_wp2
      go_ret
      exact ⟨_, rfl, Hset.out, hb.setCell (p := ⟨w.heap.size, k, none⟩) (Nat.le_refl _) _⟩

set_option maxRecDepth 100000 in
theorem split_ok (M : Nat → Prop) (s : Str) (w : World) (hs : s.length ≤ 4000000) (hM : ∀ b, M b → b < w.heap.size) : Calls Tryz.prog 74 #[.string (bs s), .string ⟨#[32]⟩] w fun e w' =>
    ∃ v', e = .returned v' ∧ Own strC M w' w.heap.size 9 v' (splitS s) ∧ Below w.heap.size w w' := by
  have h := genSplit_ok M s w hs hM
  have H := Lib.hid h
  clear h
  go_enter Tryz.func74, Tryz.ntmps74
  go_wp2_with fail
  refine H.out.mono ?_
  rintro e w' ⟨v, rfl, h1, h2⟩
  obtain ⟨A, c, rfl, _, _⟩ := h1.shape
  go_wp2
  go_ret
  exact ⟨_, rfl, h1, h2⟩
end Go.Proofs.YtiohhajkegpebaaGreatDoor
namespace Go.Proofs.YtiohhajkegpebaaGreatDoor
set_option linter.unusedVariables false
namespace Sm
open Go.Lib
theorem raw_len {s x : List UInt8} (hx : x ∈ rawWords s) : x.length ≤ s.length := by
  have h := (words_sum s.length [] s (Nat.le_refl _)).1
  have : ∀ (l : List Nat) (n : Nat), n ∈ l → n ≤ l.sum := by
    intro l
    induction l with
    | nil => intro n hn; cases hn
    | cons a l ih => intro n hn; rw [List.sum_cons]; rcases List.mem_cons.1 hn with e | e; · omega
                     · have := ih n e; omega
  have := this _ _ (List.mem_map_of_mem (f := List.length) hx)
  unfold rawWords at this
  unfold wordsFrom at h
  simp only [List.length_nil] at h
  omega
theorem encs_ne {zs : List Nat} (h : zs ≠ []) : encs zs ≠ [] := by
  intro e
  match zs, h with
  | z :: zs, _ =>
    rw [encs_cons] at e
    exact encodeRune_ne _ (List.append_eq_nil_iff.1 e).1
theorem raw_self {zs : List Nat} (hne : zs ≠ []) (h : ∀ r ∈ zs, LetR r) : rawWords (encs zs) = [encs zs] := by
  have h1 := raw_join [zs] fun x hx => by simp at hx; subst hx; exact ⟨hne, h⟩
  have h2 := wordsFrom_sep 32 (by decide) isL_space [] _ [] (encs zs) (Nat.le_refl _)
  rw [List.flatMap_cons, List.flatMap_nil, List.append_nil] at h1
  rw [h1, wordsFrom_nil, if_pos rfl, List.append_nil] at h2
  exact h2.symm
theorem words_form {zs : List Nat} (hne : zs ≠ []) (h : ∀ r ∈ zs, LetR r) : words (encs zs) = [lower (encs zs)] := by
  unfold words
  rw [raw_self hne h]; rfl
/-- the letters of a word, in lower case -/
def Low (zs : List Nat) : Prop := zs ≠ [] ∧ ∀ r ∈ zs, LetR r ∧ lowN r = r
theorem Low.lower {zs : List Nat} (h : Low zs) : lower (encs zs) = encs zs := by
  rw [lower_encs zs fun r hr => (h.2 r hr).1]
  congr 1
  have : zs.map lowN = zs.map id := List.map_congr_left fun r hr => (h.2 r hr).2
  rw [this, List.map_id]
theorem Low.words {zs : List Nat} (h : Low zs) : Sm.words (encs zs) = [encs zs] := by
  rw [words_form h.1 fun r hr => (h.2 r hr).1, h.lower]
theorem word_low {s x : List UInt8} (hx : x ∈ words s) : ∃ zs, x = encs zs ∧ Low zs := by
  unfold words at hx
  obtain ⟨y, hy, rfl⟩ := List.mem_map.1 hx
  obtain ⟨rs, e, h⟩ := words_encs s.length [] s (Nat.le_refl _) (fun r hr => by cases hr) y hy
  have hne : rs ≠ [] := fun e' => by
    have := (words_sum s.length [] s (Nat.le_refl _)).2 y hy
    subst e'
    exact this e
  subst e
  refine ⟨rs.map lowN, lower_encs rs h, by simpa using hne, fun r hr => ?_⟩
  obtain ⟨r0, hr0, rfl⟩ := List.mem_map.1 hr
  exact ⟨(lowN_good (h r0 hr0)).2.1, (lowN_good (h r0 hr0)).2.2⟩
theorem word_self {s x : List UInt8} (hx : x ∈ words s) : words x = [x] := by
  obtain ⟨zs, rfl, h⟩ := word_low hx
  exact h.words
theorem no_space {zs : List Nat} (h : ∀ r ∈ zs, LetR r) : (32 : UInt8) ∉ encs zs := by
  intro hm
  have hne : zs ≠ [] := by rintro rfl; cases hm
  obtain ⟨a, b, e⟩ := List.append_of_mem hm
  have h1 := raw_self hne h
  have h2 := wordsFrom_sep 32 (by decide) isL_space b _ [] a (Nat.le_refl _)
  rw [e] at h1
  have h3 : rawWords (a ++ 32 :: b) = rawWords a ++ rawWords b := h2
  rw [h3] at h1
  have hx : a ++ 32 :: b ∈ rawWords a ++ rawWords b := by rw [h1]; exact .head _
  have hl : (a ++ (32 : UInt8) :: b).length = a.length + b.length + 1 := by simp; omega
  rcases List.mem_append.1 hx with hx | hx
  · have := raw_len hx; omega
  · have := raw_len hx; omega
/-- all characters are letters -/
def alphaGo : Nat → List UInt8 → Bool
  | 0, _ => true
  | n + 1, l => if l = [] then true else isL (decodeL l).1 && alphaGo n (l.drop (decodeL l).2)
def alpha (l : List UInt8) : Bool := alphaGo l.length l
theorem alpha_encs : ∀ (n : Nat) (l : List UInt8), l.length ≤ n → alphaGo n l = true → ∃ zs, l = encs zs ∧ ∀ r ∈ zs, LetR r
  | 0, l, hl, _ => ⟨[], by rw [List.eq_nil_of_length_eq_zero (by omega : l.length = 0)]; rfl, fun r hr => by cases hr⟩
  | n + 1, l, hl, h => by
    by_cases hne : l = []
    · subst hne; exact ⟨[], rfl, fun r hr => by cases hr⟩
    · rw [alphaGo, if_neg hne, Bool.and_eq_true] at h
      have hb : (decodeL l).1 ≠ 65533 := fun e => by have := h.1; rw [e, isL_bad'] at this; cases this
      obtain ⟨hv, he⟩ := decode_encode l hne hb
      have hw := decodeL_width l
      obtain ⟨zs, e, hz⟩ := alpha_encs n (l.drop (decodeL l).2) (by rw [List.length_drop]; omega) h.2
      refine ⟨(decodeL l).1 :: zs, ?_, fun r hr => ?_⟩
      · rw [encs_cons, ← he, ← e, List.take_append_drop]
      · rcases List.mem_cons.1 hr with rfl | hr
        · exact ⟨hv, h.1⟩
        · exact hz r hr
theorem encs_alpha : ∀ (n : Nat) (zs : List Nat), (∀ r ∈ zs, LetR r) → alphaGo n (encs zs) = true
  | 0, _, _ => rfl
  | n + 1, [], _ => by rw [alphaGo, if_pos (show encs [] = [] from rfl)]
  | n + 1, z :: zs, h => by
    have hz := h z (.head _)
    have hd := encode_decode z hz.1 (encs zs)
    rw [alphaGo, if_neg (encs_ne (by simp)), encs_cons, hd]
    simp only [hz.2, Bool.true_and, List.drop_left]
    exact encs_alpha n zs fun r hr => h r (.tail _ hr)
/-- what a word in lower case is -/
theorem words_iff (s : List UInt8) : words s = [s] ↔ s ≠ [] ∧ alpha s = true ∧ lower s = s := by
  constructor
  · intro h
    obtain ⟨zs, rfl, hz⟩ := word_low (s := s) (x := s) (by rw [h]; exact .head _)
    exact ⟨encs_ne hz.1, encs_alpha _ zs fun r hr => (hz.2 r hr).1, hz.lower⟩
  · rintro ⟨h1, h2, h3⟩
    obtain ⟨zs, e, hz⟩ := alpha_encs _ s (Nat.le_refl _) h2
    subst e
    have hne : zs ≠ [] := by rintro rfl; exact h1 rfl
    rw [words_form hne hz, h3]
theorem valid_alpha : ∀ (n : Nat) (l : List UInt8), alphaGo n l = true → validGoD n l = true
  | 0, _, _ => rfl
  | n + 1, l, h => by
    rw [alphaGo] at h
    rw [validGoD]
    split
    · rfl
    · rename_i hne
      rw [if_neg hne, Bool.and_eq_true] at h
      have hb : ¬ ((decodeL l).1 = 65533 ∧ (decodeL l).2 = 1) := fun e => by have := h.1; rw [e.1, isL_bad'] at this; cases this
      rw [if_neg hb]
      exact valid_alpha n _ h.2
theorem az_ok : ((List.range 128).all fun r => !(decide (97 ≤ r) && decide (r ≤ 122)) || (isL2 r && decide (lower2 r = (r : Int)))) = true := by decide +kernel
theorem az_char {c : UInt8} (h : 97 ≤ c ∧ c ≤ 122) : isL c.toNat = true ∧ lowC c.toNat = [c] := by
  have h1 : 97 ≤ c.toNat := UInt8.le_iff_toNat_le.1 h.1
  have h2 : c.toNat ≤ 122 := UInt8.le_iff_toNat_le.1 h.2
  have hk := List.all_eq_true.1 az_ok c.toNat (List.mem_range.2 (by omega))
  have e : (decide (97 ≤ c.toNat) && decide (c.toNat ≤ 122)) = true := by simp [h1, h2]
  rw [e, Bool.not_true, Bool.false_or, Bool.and_eq_true, decide_eq_true_eq] at hk
  refine ⟨by rw [isL_eq _ (by omega)]; exact hk.1, ?_⟩
  unfold lowC
  rw [lower_eq, hk.2]
  have hd := decode_ascii' c [] (by omega)
  have := (decode_encode [c] (by simp) (by rw [hd]; show c.toNat ≠ 65533; omega)).2
  rw [hd] at this
  exact this.symm
theorem az_alpha : ∀ (n : Nat) (s : List UInt8), Sm.letters s = true → alphaGo n s = true ∧ lowGo n s = s.take n
  | 0, s, _ => ⟨rfl, by simp [lowGo]⟩
  | n + 1, [], _ => ⟨by rw [alphaGo, if_pos rfl], by simp [lowGo]⟩
  | n + 1, c :: t, h => by
    have hc : 97 ≤ c ∧ c ≤ 122 := by
      unfold Sm.letters at h
      rw [List.all_cons, Bool.and_eq_true, Bool.and_eq_true, decide_eq_true_eq, decide_eq_true_eq] at h
      exact h.1
    have ht : Sm.letters t = true := by
      unfold Sm.letters at h ⊢
      rw [List.all_cons, Bool.and_eq_true] at h
      exact h.2
    have h1 : c.toNat < 128 := by have := UInt8.le_iff_toNat_le.1 hc.2; have e : (122 : UInt8).toNat = 122 := rfl; omega
    obtain ⟨g1, g2⟩ := az_char hc
    obtain ⟨i1, i2⟩ := az_alpha n t ht
    have hd := decode_ascii' c t h1
    refine ⟨?_, ?_⟩
    · rw [alphaGo, if_neg (by simp), hd]
      simp only [g1, Bool.true_and]
      exact i1
    · rw [lowGo, if_neg (by simp), hd]
      simp only [g2]
      rw [show List.drop 1 (c :: t) = t from rfl, i2]; rfl
theorem az_words {s : List UInt8} (hne : s ≠ []) (h : Sm.letters s = true) : words s = [s] := by
  rw [words_iff]
  refine ⟨hne, (az_alpha _ s h).1, ?_⟩
  have := (az_alpha s.length s h).2
  rw [List.take_length] at this
  exact this
/-- the stem of a word is a word -/
theorem stem_words {x : List UInt8} (h : words x = [x]) : words (stem x) = [stem x] := by
  unfold stem
  split
  · rename_i hl
    have hne := ((words_iff x).1 h).1
    exact az_words (rounds_ne _ _ hne) (rounds_letters _ _ hl.1)
  · exact h
end Sm
end Go.Proofs.YtiohhajkegpebaaGreatDoor
namespace Go.Proofs.YtiohhajkegpebaaGreatDoor
open Go.RowKit
set_option linter.unusedVariables false
theorem notLetter_ok (x : Nat) (hx : x ≤ 1114111) (w : World) (hT : TabsU w) : Calls Tryz.prog 133 #[.int .i32 (x : Int)] w fun e w' => e = .returned (.bool (!Sm.isL x)) ∧ Below w.heap.size w w' := by
  have h := chLetter_ok x hx w hT
  obtain ⟨b, hb⟩ : ∃ b, Sm.isL x = b := ⟨_, rfl⟩
  rw [hb] at h ⊢
  have H := Lib.hid h
  clear h hb hT
  go_enter Tryz.func133, Tryz.ntmps133
  go_wp2_with fail
  refine H.out.mono ?_
  rintro e w1 ⟨rfl, hb1⟩
  go_wp2
  go_ret
  exact ⟨rfl, hb1⟩
theorem idx_alpha (s : ByteArray) : ∀ (f pos : Nat), Lib.idxFuncFrom (fun r => !Sm.isL r) true s f pos = -1 ↔ Sm.alphaGo f (s.data.toList.drop pos) = true
  | 0, pos => by simp [Lib.idxFuncFrom, Sm.alphaGo]
  | f + 1, pos => by
    have hd := Lib.decodeL_drop s pos
    rw [Lib.idxFuncFrom, Sm.alphaGo]
    by_cases hp : pos < s.size
    · have hne : s.data.toList.drop pos ≠ [] := fun e => by
        have := congrArg List.length e
        rw [List.length_drop, Array.length_toList] at this
        have h2 : s.data.size = s.size := rfl
        simp at this; omega
      rw [if_pos hp, if_neg hne, hd]
      by_cases hl : Sm.isL (Utf8.decode s pos).1 = true
      · rw [if_neg (by rw [hl]; decide), hl, Bool.true_and, idx_alpha s f, List.drop_drop]
      · have hl' : Sm.isL (Utf8.decode s pos).1 = false := by simpa using hl
        rw [if_pos (by rw [hl']; rfl), hl', Bool.false_and]
        simp
    · have he : s.data.toList.drop pos = [] := List.drop_eq_nil_of_le (by rw [Array.length_toList]; exact Nat.le_of_not_lt hp)
      rw [if_neg hp, if_pos he]; simp
theorem idx_word (s : Str) : (Lib.idxFunc (fun r => !Sm.isL r) true (bs s) < 0) ↔ Sm.alpha s = true := by
  have h := idx_alpha (bs s) (bs s).size 0
  have hr := Lib.idxFunc_range (fun r => !Sm.isL r) true (bs s)
  unfold Lib.idxFunc at hr ⊢
  have e : (bs s).data.toList.drop 0 = s := by simp [bs]
  have e2 : (bs s).size = s.length := by simp
  rw [e, e2] at h
  rw [e2] at hr ⊢
  unfold Sm.alpha
  rw [← h]
  rcases hr with hr | hr
  · rw [hr]; simp
  · constructor
    · intro h; omega
    · intro h; omega
theorem wordOk_iff (s : Str) : Q.wordOk s = (decide (s.length ≤ 8000) && (decide (s ≠ []) && (Sm.alpha s && (Sm.lower s == s)))) := by
  unfold Q.wordOk
  congr 1
  rw [Bool.eq_iff_iff, beq_iff_eq, Sm.words_iff]
  simp
theorem valid_word {s : Str} (h : Sm.alpha s = true) : Lib.validD s = true := Sm.valid_alpha _ _ h
set_option maxRecDepth 100000 in
set_option maxHeartbeats 4000000 in
theorem word_ok (s : Str) (w : World) (hs : s.length ≤ 4000000) (hT : TabsU w) : Calls Tryz.prog 97 #[.string (bs s)] w fun e w' => e = .returned (.bool (Q.wordOk s)) ∧ Below w.heap.size w w' := by
  rw [wordOk_iff]
  by_cases h0 : s = []
  · subst h0
    go_enter Tryz.func97, Tryz.ntmps97
    go_wp2_with fail
    go_ret
    exact ⟨by simp, Below.refl _ _⟩
  have e0 : (s == []) = false := by rw [beq_eq_false_iff_ne]; exact h0
  have e0' : decide (s ≠ []) = true := decide_eq_true h0
  rw [e0', Bool.true_and]
  by_cases h1 : 8000 < s.length
  · have hi : (8000 : Int) < (s.length : Int) := by omega
    have e1 : decide (s.length ≤ 8000) = false := decide_eq_false (by omega)
    rw [e1, Bool.false_and]
    go_enter Tryz.func97, Tryz.ntmps97
    go_wp2_with fail
    go_ret
    exact ⟨rfl, Below.refl _ _⟩
  have hi : ¬ (8000 : Int) < (s.length : Int) := by omega
  have e1 : decide (s.length ≤ 8000) = true := decide_eq_true (by omega)
  rw [e1, Bool.true_and]
  have hval := Tryz.utf8_ValidString (bs s) w (by simp; omega) hT.u8
  have hbs : (bs s).data.toList = s := by simp [bs]
  rw [hbs] at hval
  have hix := fun W (hb : Below w.heap.size w W) => Tryz.strings_IndexFunc_grows 133 #[] (fun args w => enters_of Tryz.func133 (by kernel_rfl) rfl args w) (fun r => !Sm.isL r) (bs s) W (fun V x hx hbV => by
    have := notLetter_ok x hx V (hT.ext (hb.trans (hbV.mono hb.size)))
    simpa using this)
  have hlo := fun W (hb : Below w.heap.size w W) => stemLower_ok s hs W (hT.ext hb)
  have hia := idx_word s
  have hva : Sm.alpha s = true → Lib.validD s = true := valid_word
  obtain ⟨vd, hvd⟩ : ∃ b, Lib.validD s = b := ⟨_, rfl⟩
  obtain ⟨al, hal⟩ : ∃ b, Sm.alpha s = b := ⟨_, rfl⟩
  obtain ⟨ix, hx⟩ : ∃ b, Lib.idxFunc (fun r => !Sm.isL r) true (bs s) = b := ⟨_, rfl⟩
  obtain ⟨lo, hl⟩ : ∃ b, Sm.lower s = b := ⟨_, rfl⟩
  rw [hvd] at hval hva
  rw [hal] at hia hva ⊢
  rw [hx] at hia
  simp only [hx] at hix
  rw [hl] at hlo ⊢
  have Hval := Lib.hid hval; have Hix := Lib.hid hix; have Hlo := Lib.hid hlo; have Hia := Lib.hid hia; have Hva := Lib.hid hva
  clear hval hix hlo hia hva hvd hal hx hl hbs e0' e1 hT
  go_enter Tryz.func97, Tryz.ntmps97
  go_wp2_with fail
  refine Hval.out.mono ?_
  rintro e w1 ⟨rfl, hb1⟩
  cases vd with
  | false =>
    go_wp2_with fail
    go_ret
    have : al = false := by
      cases al with
      | false => rfl
      | true => have := Hva.out rfl; cases this
    subst this
    exact ⟨rfl, hb1⟩
  | true =>
    go_wp2_with fail
    refine (Hix.out w1 hb1).mono ?_
    rintro e w2 ⟨rfl, hb2⟩
    have hb12 := hb1.trans (hb2.mono hb1.size)
    by_cases hneg : ix < 0
    · have ha := Hia.out.1 hneg
      subst ha
      go_wp2_with fail
      refine (Hlo.out w2 hb12).mono ?_
      rintro e w3 ⟨rfl, hb3⟩
      go_wp2_with fail
      go_ret
      exact ⟨by simp, hb12.trans (hb3.mono hb12.size)⟩
    · have ha : al = false := by
        cases al with
        | false => rfl
        | true => exact absurd (Hia.out.2 rfl) hneg
      subst ha
      go_wp2_with fail
      go_ret
      exact ⟨rfl, hb12⟩
/-- the words of a text, as the code finds them -/
def WordsAt (s : Str) (w : World) : Prop := Calls Tryz.prog 72 #[.string (bs s)] w fun e w' => ∃ A n c, e = .returned (.tuple #[.slice A n c, .bool ((splitS s).all Q.wordOk)]) ∧ ((splitS s).all Q.wordOk = true → n = (splitS s).length ∧ SlR strC M0 w' (.slice A n c) (splitS s)) ∧ Below w.heap.size w w'
theorem all_snoc (p : Str → Bool) (l : List Str) {k : Nat} (hk : k < l.length) : (l.take (k + 1)).all p = ((l.take k).all p && p l[k]) := by
  rw [List.take_succ_eq_append_getElem hk, List.all_append]; simp
set_option maxRecDepth 100000 in
set_option maxHeartbeats 4000000 in
theorem words_ok (s : Str) (w : World) (hs : s.length ≤ 4000000) (hT : TabsU w) : WordsAt s w := by
  have hsp := split_ok M0 s w hs (fun b h => h.elim)
  have hmem := splitS_mem s
  unfold WordsAt
  obtain ⟨l, hl⟩ : ∃ l, splitS s = l := ⟨_, rfl⟩
  rw [hl] at hsp hmem ⊢
  have Hsp := Lib.hid hsp; have HT := Lib.hid hT; have Hmem := Lib.hid hmem
  clear hsp hT hmem hl
  go_enter Tryz.func72, Tryz.ntmps72
  go_wp2_with fail
  refine Hsp.out.mono ?_
  rintro e w1 ⟨v, rfl, hown, hb1⟩
  have hr := hown.read0
  obtain ⟨A, c, rfl, _, _⟩ := hr.form
  obtain ⟨hlc, hcm⟩ := hr.lenM
  go_wp2_with fail
  go_loopw [11] (fun i wr => ∃ k : Nat, k ≤ l.length ∧ i = .int .i64 k ∧ Hid ((l.take k).all Q.wordOk = true) ∧ Below w1.heap.size w1 wr) (fun i _ => l.length - (intOf i).toNat)
  case atStart => exact ⟨0, Nat.zero_le _, rfl, Lib.hid rfl, Below.refl _ _⟩
  case round =>
    obtain ⟨k, hk, rfl, hall, hb⟩ := hrel
    by_cases hlt : k < l.length
    · have hx1 := hr.ext hb
      obtain ⟨b, off, rfl, _, _, q0, hl1⟩ := hx1.strAt hlt
      have hst := all_snoc Q.wordOk l hlt
      have hm := (Hmem.out _ (List.getElem_mem hlt)).2
      obtain ⟨x, hx⟩ : ∃ x, x = l[k] := ⟨_, rfl⟩
      rw [← hx] at q0 hl1 hst hm
      have hb1r := hb1.trans (hb.mono hb1.size)
      have hc := word_ok x wr (by omega) (HT.out.ext hb1r)
      obtain ⟨t, ht⟩ : ∃ t, Q.wordOk x = t := ⟨_, rfl⟩
      rw [ht] at hc hst
      have Hc := Lib.hid hc; have Hst := Lib.hid hst; have Hx := Lib.hid hx; have Ht := Lib.hid ht
      clear hc hst hx ht hx1 hm
      go_wp2_with fail
      refine Hc.out.mono ?_
      rintro e w2 ⟨rfl, hb2⟩
      have hb12 := hb.trans (hb2.mono hb.size)
      cases t with
      | true =>
        go_wp2_with fail
        go_roundw
        case rel => exact ⟨k + 1, by omega, by go_num, Lib.hid (by rw [Hst.out, hall.out]; rfl), hb12⟩
        case measure => simp [intOf]; omega
      | false =>
        have hf : l.all Q.wordOk = false := by
          rw [List.all_eq_false]
          exact ⟨x, by rw [Hx.out]; exact List.getElem_mem hlt, by rw [Ht.out]; simp⟩
        go_wp2_with fail
        refine bodyPost_ret (v := .tuple #[.slice none 0 0, .bool (l.all Q.wordOk)]) (by simp [results, Tryz.results72, go_sem, hf]) rfl ⟨_, _, _, rfl, fun h => ?_, hb1.trans (hb12.mono hb1.size)⟩
        rw [hf] at h; cases h
    · obtain rfl : k = l.length := by omega
      have hf : l.all Q.wordOk = true := by have := hall.out; rwa [List.take_length] at this
      go_wp2_with fail
      exact bodyPost_ret (v := .tuple #[.slice A l.length c, .bool (l.all Q.wordOk)]) (by simp [results, Tryz.results72, go_sem, hf]) rfl ⟨_, _, _, rfl, fun _ => ⟨rfl, hr.ext hb⟩, hb1.trans (hb.mono hb1.size)⟩
end Go.Proofs.YtiohhajkegpebaaGreatDoor
namespace Go.Proofs.YtiohhajkegpebaaGreatDoor
namespace Ix
set_option linter.unusedVariables false
/-- a word in its place among others -/
def insW (l : List Str) (s : Str) : List Str := l.takeWhile (fun a => ltS a s) ++ s :: l.dropWhile (fun a => ltS a s)
def putW (l : List Str) (s : Str) : List Str := if s ∈ l then l else insW l s
def wordsOf (ws : List Str) : List Str := ws.foldl putW []
abbrev Doc := Int × List Str
def postsOf (docs : List Doc) (w : Str) : List Post := docs.filterMap fun d => if occ w d.2 0 = [] then none else some (d.1, occ w d.2 0)
def madeF (docs : List Doc) : Idx := (docs.map fun d => d.1, (wordsOf (docs.flatMap fun d => d.2)).map fun w => (w, postsOf docs w))
def SortedW (l : List Str) : Prop := l.Pairwise fun a b => ltS a b = true
theorem insW_split {l : List Str} (h : SortedW l) (s : Str) : (∀ a ∈ l.takeWhile (fun a => ltS a s), ltS a s = true) ∧ (s ∉ l → ∀ a ∈ l.dropWhile (fun a => ltS a s), ltS s a = true) := by
  induction l with
  | nil => simp
  | cons b r ih =>
    have h0 := h
    unfold SortedW at h
    rw [List.pairwise_cons] at h
    rw [List.takeWhile_cons, List.dropWhile_cons]
    cases hb : ltS b s with
    | true =>
      simp only [if_true]
      obtain ⟨h1, h2⟩ := ih h.2
      refine ⟨fun a ha => ?_, fun hs a ha => h2 (fun e => hs (List.mem_cons_of_mem _ e)) a ha⟩
      rcases List.mem_cons.1 ha with e | e
      · rw [e]; exact hb
      · exact h1 a e
    | false =>
      simp only [Bool.false_eq_true, if_false]
      refine ⟨fun a ha => (by cases ha), fun hs a ha => ?_⟩
      have hsb : ltS s b = true := by
        rcases ltS_total s b with e | e | e
        · exact e
        · exact absurd (by rw [e]; exact List.mem_cons_self) hs
        · rw [e] at hb; cases hb
      rcases List.mem_cons.1 ha with e | e
      · rw [e]; exact hsb
      · exact ltS_trans hsb (h.1 a e)
theorem putW_sorted {l : List Str} (h : SortedW l) (s : Str) : SortedW (putW l s) := by
  unfold putW
  split
  · exact h
  · rename_i hs
    obtain ⟨h1, h2⟩ := insW_split h s
    have hs' := h2 hs
    unfold SortedW insW
    have hl : (l.takeWhile (fun a => ltS a s) ++ l.dropWhile (fun a => ltS a s)).Pairwise fun a b => ltS a b = true := by rw [List.takeWhile_append_dropWhile]; exact h
    rw [List.pairwise_append] at hl ⊢
    refine ⟨hl.1, List.pairwise_cons.2 ⟨hs', hl.2.1⟩, fun a ha b hb => ?_⟩
    rcases List.mem_cons.1 hb with e | e
    · rw [e]; exact h1 a ha
    · exact hl.2.2 a ha b e
theorem mem_putW {l : List Str} {s a : Str} : a ∈ putW l s ↔ a = s ∨ a ∈ l := by
  unfold putW
  split
  · rename_i hs
    exact ⟨.inr, fun h => h.elim (fun e => e ▸ hs) id⟩
  · unfold insW
    have : a ∈ l ↔ a ∈ l.takeWhile (fun a => ltS a s) ++ l.dropWhile (fun a => ltS a s) := by rw [List.takeWhile_append_dropWhile]
    rw [this]
    simp only [List.mem_append, List.mem_cons]
    constructor <;> rintro (h | h | h) <;> simp [h]
theorem foldW (ws : List Str) : ∀ l, SortedW l → SortedW (ws.foldl putW l) ∧ ∀ a, a ∈ ws.foldl putW l ↔ a ∈ l ∨ a ∈ ws := by
  induction ws with
  | nil => intro l h; exact ⟨h, fun a => by simp⟩
  | cons w ws ih =>
    intro l h
    obtain ⟨h1, h2⟩ := ih (putW l w) (putW_sorted h w)
    refine ⟨h1, fun a => ?_⟩
    rw [List.foldl_cons, h2, mem_putW, List.mem_cons]
    constructor
    · rintro ((h | h) | h) <;> simp [h]
    · rintro (h | h | h) <;> simp [h]
theorem wordsOf_sorted (ws : List Str) : SortedW (wordsOf ws) := (foldW ws [] List.Pairwise.nil).1
theorem mem_wordsOf {ws : List Str} {a : Str} : a ∈ wordsOf ws ↔ a ∈ ws := by
  unfold wordsOf
  rw [(foldW ws [] List.Pairwise.nil).2]
  simp
theorem postsOf_mem {docs : List Doc} {w : Str} {p : Post} : p ∈ postsOf docs w ↔ ∃ d ∈ docs, d.1 = p.1 ∧ occ w d.2 0 = p.2 ∧ p.2 ≠ [] := by
  unfold postsOf
  rw [List.mem_filterMap]
  constructor
  · rintro ⟨d, hd, h⟩
    by_cases hne : occ w d.2 0 = []
    · rw [if_pos hne] at h; cases h
    · rw [if_neg hne] at h
      injection h with h
      subst h
      exact ⟨d, hd, rfl, rfl, hne⟩
  · rintro ⟨d, hd, e1, e2, hne⟩
    refine ⟨d, hd, ?_⟩
    rw [e2, if_neg hne, e1]
theorem postsOf_sorted {docs : List Doc} (h : (docs.map fun d => d.1).Pairwise (· < ·)) (w : Str) : Al.Sorted ltI (postsOf docs w) := by
  unfold Al.Sorted postsOf
  rw [List.pairwise_filterMap]
  rw [List.pairwise_map] at h
  refine h.imp fun {a b} hab p hp q hq => ?_
  split at hp
  · cases hp
  · split at hq
    · cases hq
    · injection hp with hp
      injection hq with hq
      subst hp hq
      simpa [ltI] using hab
theorem made_wf {docs : List Doc} (h : (docs.map fun d => d.1).Pairwise (· < ·)) : Wf (madeF docs).2 := by
  refine ⟨?_, fun t ht => ?_⟩
  · show Al.Sorted ltS ((wordsOf _).map _)
    unfold Al.Sorted
    rw [List.pairwise_map]
    exact wordsOf_sorted _
  · obtain ⟨w, hw, rfl⟩ := List.mem_map.1 ht
    refine ⟨fun e => ?_, postsOf_sorted h w, fun p hp => (postsOf_mem.1 hp).choose_spec.2.2.2⟩
    obtain ⟨d, hd, hwd⟩ := List.mem_flatMap.1 (mem_wordsOf.1 hw)
    have hne : occ w d.2 0 ≠ [] := fun e' => (occ_nil _ _ _).1 e' hwd
    have : (d.1, occ w d.2 0) ∈ postsOf docs w := postsOf_mem.2 ⟨d, hd, rfl, rfl, hne⟩
    simp only at e
    rw [e] at this
    cases this
theorem cont_made {docs : List Doc} (h : (docs.map fun d => d.1).Pairwise (· < ·)) (w : Str) (i : Int) : cont (madeF docs).2 w i = match docs.find? (fun d => d.1 == i) with | some d => occ w d.2 0 | none => [] := by
  have hwf := made_wf h
  have uniq : ∀ d ∈ docs, ∀ d' ∈ docs, d.1 = d'.1 → d = d' := by
    intro d hd d' hd' e
    obtain ⟨a, ha, rfl⟩ := List.mem_iff_getElem.1 hd
    obtain ⟨b, hb, rfl⟩ := List.mem_iff_getElem.1 hd'
    rw [List.pairwise_map] at h
    have hp := List.pairwise_iff_getElem.1 h
    rcases Nat.lt_trichotomy a b with h1 | h1 | h1
    · have := hp a b ha hb h1; omega
    · subst h1; rfl
    · have := hp b a hb ha h1; omega
  by_cases hc : cont (madeF docs).2 w i = []
  · rw [hc]
    cases hf : docs.find? (fun d => d.1 == i) with
    | none => rfl
    | some d =>
      have hd := List.mem_of_find?_eq_some hf
      have hdi : d.1 = i := by simpa using List.find?_some hf
      show [] = occ w d.2 0
      cases ho : occ w d.2 0 with
      | nil => rfl
      | cons a r =>
        exfalso
        have hne : occ w d.2 0 ≠ [] := by rw [ho]; simp
        have hw : w ∈ d.2 := Classical.byContradiction fun hno => hne ((occ_nil _ _ _).2 hno)
        have ht : (w, postsOf docs w) ∈ (madeF docs).2 := List.mem_map.2 ⟨w, mem_wordsOf.2 (List.mem_flatMap.2 ⟨d, hd, hw⟩), rfl⟩
        have := cont_mem hwf ht (show (d.1, occ w d.2 0) ∈ postsOf docs w from postsOf_mem.2 ⟨d, hd, rfl, rfl, hne⟩)
        simp only at this
        rw [hdi, hc, ho] at this
        cases this
  · obtain ⟨t, ht, e1, p, hp, e2, e3⟩ := mem_cont hc
    obtain ⟨w', hw', rfl⟩ := List.mem_map.1 ht
    simp only at e1 hp
    subst e1
    obtain ⟨d, hd, h1, h2, h3⟩ := postsOf_mem.1 hp
    have hf : docs.find? (fun d => d.1 == i) = some d := by
      cases hf : docs.find? (fun d => d.1 == i) with
      | none => have := List.find?_eq_none.1 hf d hd; simp [h1, e2] at this
      | some d' =>
        have hd' := List.mem_of_find?_eq_some hf
        have hdi : d'.1 = i := by simpa using List.find?_some hf
        rw [uniq d' hd' d hd (by rw [hdi, h1, e2])]
    rw [hf, ← e3, ← h2]
/-- texts added one by one -/
def addAll (docs : List Doc) : Idx := docs.foldl (fun x d => addF x d.1 d.2) ([], [])
theorem insId_end {ids : List Int} {id : Int} (h : ∀ n ∈ ids, n < id) : insId ids id = ids ++ [id] := by
  unfold insId
  rw [List.filter_eq_self.2 fun n hn => by simpa using h n hn, List.filter_eq_nil_iff.2 fun n hn => by have := h n hn; simp; omega]
theorem wf_nil : Wf [] := ⟨List.Pairwise.nil, fun t ht => by cases ht⟩
theorem made_snoc {docs : List Doc} {d : Doc} (h : ((docs ++ [d]).map fun d => d.1).Pairwise (· < ·)) : madeF (docs ++ [d]) = addF (madeF docs) d.1 d.2 := by
  have h0 := h
  rw [List.map_append, List.pairwise_append] at h
  have hlt : ∀ n ∈ docs.map (fun d => d.1), n < d.1 := fun n hn => h.2.2 n hn d.1 (by simp)
  have hwf := made_wf h.1
  have e1 : (madeF (docs ++ [d])).1 = (addF (madeF docs) d.1 d.2).1 := by
    show (docs ++ [d]).map _ = insId (docs.map _) d.1
    rw [insId_end hlt, List.map_append]; rfl
  have e2 : (madeF (docs ++ [d])).2 = (addF (madeF docs) d.1 d.2).2 := by
    refine Wf.ext (made_wf h0) (Wf.putAll d.1 d.2 0 hwf) fun w i => ?_
    rw [cont_made h0, show (addF (madeF docs) d.1 d.2).2 = putAll d.1 d.2 0 (madeF docs).2 from rfl, cont_putAll d.1 d.2 0 hwf, List.find?_append]
    have hno : docs.find? (fun d' => d'.1 == d.1) = none := List.find?_eq_none.2 fun d' hd' e => by
      have := hlt d'.1 (List.mem_map.2 ⟨d', hd', rfl⟩)
      have e' : d'.1 = d.1 := by simpa using e
      omega
    by_cases hi : i = d.1
    · subst hi
      rw [hno, if_pos rfl, cont_made h.1, hno]
      simp
    · rw [if_neg hi, cont_made h.1]
      have : (d.1 == i) = false := by simpa using fun e => hi e.symm
      cases hf : docs.find? (fun d => d.1 == i) with
      | some d' => simp
      | none => simp [this]
  exact Prod.ext e1 e2
theorem made_nil : madeF [] = ([], []) := rfl
end Ix
end Go.Proofs.YtiohhajkegpebaaGreatDoor
