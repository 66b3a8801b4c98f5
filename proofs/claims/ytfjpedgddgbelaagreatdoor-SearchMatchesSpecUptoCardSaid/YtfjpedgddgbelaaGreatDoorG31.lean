/-
  Contracts and plain facts, one after another: The reference of searching: plain facts; The reference's Split and isWord; The reference's placed.
-/
import Derived.Test.YtfjpedgddgbelaaGreatDoorG21
import Derived.Test.YtfjpedgddgbelaaGreatDoorG11
import Derived.Test.YtfjpedgddgbelaaGreatDoorG10
import Derived.Test.YtfjpedgddgbelaaGreatDoorG8
import Derived.Test.YtfjpedgddgbelaaGreatDoorG18
namespace Go.Proofs.YtfjpedgddgbelaaGreatDoor
set_option linter.unusedVariables false
theorem splitS_space (a : Str) : splitS (a ++ [32]) = splitS a ++ [[]] := splitS_append a []
theorem splitS_other {c : UInt8} (h : c ≠ 32) : ∀ a : Str, splitS (a ++ [c]) = (splitS a).set ((splitS a).length - 1) ((splitS a).getD ((splitS a).length - 1) [] ++ [c])
  | [] => by simp [splitS, h]
  | d :: t => by
    have ih := splitS_other h t
    rw [List.cons_append, splitS, splitS, ih]
    cases hX : splitS t with
    | nil => exact absurd hX (splitS_ne t)
    | cons x r =>
      cases r with
      | nil => split <;> simp
      | cons y r => split <;> simp
theorem contains_anyS (l : List Str) (x : Str) : l.contains x = l.any (· == x) := by
  rw [Bool.eq_iff_iff, List.contains_iff_mem, List.any_eq_true]; simp
namespace Sr
open Q
def tot (l : List Str) : Nat := (l.map List.length).sum
theorem tot_nil : tot [] = 0 := rfl
theorem tot_append (a b : List Str) : tot (a ++ b) = tot a + tot b := by unfold tot; rw [List.map_append, List.sum_append]
theorem tot_mem {l : List Str} {s : Str} (h : s ∈ l) : s.length ≤ tot l := by
  induction l with
  | nil => cases h
  | cons a l ih =>
    show _ ≤ a.length + tot l
    rcases List.mem_cons.1 h with rfl | h
    · omega
    · have := ih h; omega
theorem tot_set : ∀ {l : List Str} {n : Nat} (h : n < l.length) (v : Str), tot (l.set n v) + l[n].length = tot l + v.length
  | a :: l, 0, _, v => by show v.length + tot l + a.length = a.length + tot l + v.length; omega
  | a :: l, n + 1, h, v => by
    have hn : n < l.length := by simpa using h
    have := tot_set hn v
    show a.length + tot (l.set n v) + l[n].length = a.length + tot l + v.length
    omega
theorem tot_nils (n : Nat) : tot (List.replicate n []) = 0 := by
  induction n with
  | zero => rfl
  | succ n ih => rw [List.replicate_succ]; show 0 + tot _ = 0; omega
theorem tot_padded (l : List Str) (n : Nat) : tot (padded l n) = tot l := by unfold padded; rw [tot_append, tot_nils]; rfl
theorem placed_len (l : List Str) {n : Nat} (v : Str) (hn : n ≤ 5000) : (placedF l n v).length = max l.length (n + 1) := by
  unfold placedF
  rw [if_neg (by omega), List.length_set, padded_len]
theorem placed_le (l : List Str) (n : Nat) (v : Str) (hl : l.length ≤ 5001) : (placedF l n v).length ≤ 5001 := by
  by_cases h : n ≤ 5000
  · rw [placed_len l v h]; omega
  · unfold placedF; rw [if_pos (by omega)]; exact hl
theorem placed_tot (l : List Str) (n : Nat) (v : Str) : tot (placedF l n v) ≤ tot l + v.length + 1 := by
  unfold placedF
  by_cases h : 5000 < n
  · rw [if_pos h]; omega
  · rw [if_neg h]
    have hl : n < (padded l n).length := by rw [padded_len]; omega
    have h1 := tot_set hl ((if (padded l n).getD n [] = [] then [] else (padded l n).getD n [] ++ [32]) ++ v)
    have h2 : (padded l n).getD n [] = (padded l n)[n] := Ix.getD_get hl _
    rw [tot_padded] at h1
    have h3 : ((if (padded l n).getD n [] = [] then [] else (padded l n).getD n [] ++ [32]) ++ v).length ≤ (padded l n)[n].length + 1 + v.length := by
      rw [h2]
      split <;> simp <;> omega
    omega
/-- how many bytes the placing of some postings adds at most -/
def costP (v : Str) (ps : List Ix.Post) : Nat := (ps.map fun p => p.2.length * (v.length + 1)).sum
def costT (ts : List Ix.Term) : Nat := (ts.map fun t => costP t.1 t.2).sum
theorem costP_drop (v : Str) {ps : List Ix.Post} {n : Nat} (h : n < ps.length) : costP v (ps.drop n) = ps[n].2.length * (v.length + 1) + costP v (ps.drop (n + 1)) := by
  rw [List.drop_eq_getElem_cons h]; rfl
theorem costT_drop {ts : List Ix.Term} {k : Nat} (h : k < ts.length) : costT (ts.drop k) = costP ts[k].1 ts[k].2 + costT (ts.drop (k + 1)) := by
  rw [List.drop_eq_getElem_cons h]; rfl
theorem docT_step (id : Int) {ts : List Ix.Term} {k : Nat} (h : k < ts.length) : docT id [] (ts.take (k + 1)) = docP id ts[k].1 (docT id [] (ts.take k)) ts[k].2 := by
  unfold docT
  rw [List.take_succ_eq_append_getElem h, List.foldl_append]; rfl
theorem docP_step (id : Int) (v : Str) (l : List Str) {ps : List Ix.Post} {n : Nat} (h : n < ps.length) : docP id v l (ps.take (n + 1)) = if ps[n].1 = id then placesF (docP id v l (ps.take n)) v ps[n].2 else docP id v l (ps.take n) := by
  unfold docP
  rw [List.take_succ_eq_append_getElem h, List.foldl_append]; rfl
theorem places_step (v : Str) (l : List Str) {ns : List Int} {m : Nat} (h : m < ns.length) : placesF l v (ns.take (m + 1)) = placedF (placesF l v (ns.take m)) ns[m].toNat v := by
  unfold placesF
  rw [List.take_succ_eq_append_getElem h, List.foldl_append]; rfl
theorem places_tot (v : Str) : ∀ (ns : List Int) (l : List Str), tot (placesF l v ns) ≤ tot l + ns.length * (v.length + 1)
  | [], l => by unfold placesF; simp
  | n :: ns, l => by
    have h1 := places_tot v ns (placedF l n.toNat v)
    have h2 := placed_tot l n.toNat v
    show tot (placesF (placedF l n.toNat v) v ns) ≤ _
    rw [List.length_cons, Nat.add_mul]; omega
theorem docP_tot (id : Int) (v : Str) : ∀ (ps : List Ix.Post) (l : List Str), tot (docP id v l ps) ≤ tot l + costP v ps
  | [], l => by simp [docP, costP]
  | p :: ps, l => by
    have h1 := docP_tot id v ps (if p.1 = id then placesF l v p.2 else l)
    have h2 := places_tot v p.2 l
    show tot (docP id v (if p.1 = id then placesF l v p.2 else l) ps) ≤ tot l + (p.2.length * (v.length + 1) + costP v ps)
    by_cases h : p.1 = id
    · rw [if_pos h] at h1 ⊢; omega
    · rw [if_neg h] at h1 ⊢; omega
theorem docT_tot (id : Int) : ∀ (ts : List Ix.Term) (l : List Str), tot (docT id l ts) ≤ tot l + costT ts
  | [], l => by simp [docT, costT]
  | t :: ts, l => by
    have h1 := docT_tot id ts (docP id t.1 l t.2)
    have h2 := docP_tot id t.1 t.2 l
    show tot (docT id (docP id t.1 l t.2) ts) ≤ tot l + (costP t.1 t.2 + costT ts)
    omega
theorem doc_tot (x : Ix.Idx) (id : Int) : tot (docF x id) ≤ costT x.2 := by have := docT_tot id x.2 []; rw [tot_nil, Nat.zero_add] at this; exact this
theorem places_len (v : Str) : ∀ (ns : List Int) (l : List Str), l.length ≤ 5001 → (placesF l v ns).length ≤ 5001
  | [], l, h => h
  | n :: ns, l, h => places_len v ns _ (placed_le l _ v h)
theorem docP_len (id : Int) (v : Str) : ∀ (ps : List Ix.Post) (l : List Str), l.length ≤ 5001 → (docP id v l ps).length ≤ 5001
  | [], l, h => h
  | p :: ps, l, h => by
    have h2 : (if p.1 = id then placesF l v p.2 else l).length ≤ 5001 := by
      by_cases e : p.1 = id
      · rw [if_pos e]; exact places_len v _ _ h
      · rw [if_neg e]; exact h
    exact docP_len id v ps _ h2
theorem docT_len (id : Int) : ∀ (ts : List Ix.Term) (l : List Str), l.length ≤ 5001 → (docT id l ts).length ≤ 5001
  | [], l, h => h
  | t :: ts, l, h => docT_len id ts _ (docP_len id t.1 t.2 l h)
theorem doc_len (x : Ix.Idx) (id : Int) : (docF x id).length ≤ 5001 := docT_len id x.2 [] (by simp)
theorem costP_sum (v : Str) (ps : List Ix.Post) : costP v ps = (ps.map fun p => p.2.length).sum * (v.length + 1) := by
  unfold costP
  induction ps with
  | nil => simp
  | cons p ps ih => simp only [List.map_cons, List.sum_cons, ih, Nat.add_mul]
/-- what the nodes of a reference's list are: a first part of the nodes in order; all of them, or more than the limit -/
def Cut (L P : List Q) (lim : Nat) : Prop := L <+: P ∧ (L = P ∨ lim < L.length)
theorem Cut.of_le {L P : List Q} {lim : Nat} (h : Cut L P lim) : (lim < L.length ↔ lim < P.length) ∧ (L.length ≤ lim → L = P) := by
  obtain ⟨h1, h2⟩ := h
  have := h1.length_le
  rcases h2 with rfl | h2
  · exact ⟨Iff.rfl, fun _ => rfl⟩
  · exact ⟨⟨fun _ => by omega, fun _ => h2⟩, fun h => by omega⟩
theorem flat_take (f : Nat) {ps : List Q} {m : Nat} (h : m < ps.length) : (ps.take (m + 1)).flatMap (pre f) = (ps.take m).flatMap (pre f) ++ pre f ps[m] := by
  rw [List.take_succ_eq_append_getElem h, List.flatMap_append]; simp
theorem flat_pre (f : Nat) (ps : List Q) (m : Nat) : (ps.take m).flatMap (pre f) <+: ps.flatMap (pre f) := by
  have h : ps.flatMap (pre f) = (ps.take m).flatMap (pre f) ++ (ps.drop m).flatMap (pre f) := by rw [← List.flatMap_append, List.take_append_drop]
  rw [h]; exact List.prefix_append _ _
theorem Cut.step {q : Q} {f lim m : Nat} {ps : List Q} {L L' : List Q} (hm : m < ps.length) (h : Cut L (q :: (ps.take m).flatMap (pre f)) lim) (hl : L.length ≤ lim) (h' : Cut L' (pre f ps[m]) (lim - L.length)) : Cut (L ++ L') (q :: (ps.take (m + 1)).flatMap (pre f)) lim := by
  have e := h.of_le.2 hl
  rw [flat_take f hm, ← List.cons_append, ← e]
  refine ⟨List.prefix_append_right_inj _ |>.2 h'.1, ?_⟩
  rcases h'.2 with h2 | h2
  · exact .inl (by rw [h2])
  · exact .inr (by rw [List.length_append]; omega)
theorem Cut.all {q : Q} {f lim m : Nat} {ps : List Q} {L : List Q} (h : Cut L (q :: (ps.take m).flatMap (pre f)) lim) (he : ps.length ≤ m ∨ lim < L.length) : Cut L (q :: ps.flatMap (pre f)) lim := by
  refine ⟨h.1.trans ((List.prefix_cons_inj q).2 (flat_pre f ps m)), ?_⟩
  rcases he with he | he
  · rw [List.take_of_length_le he] at h; exact h.2
  · exact .inr he
theorem range_any {n : Nat} {p : Nat → Bool} {k : Nat} (hk : k < n) (h : p k = true) : (List.range n).any p = true := List.any_eq_true.2 ⟨k, List.mem_range.2 hk, h⟩
theorem range_none {n : Nat} {p : Nat → Bool} (h : ∀ k, k < n → p k = false) : (List.range n).any p = false := by
  rw [List.any_eq_false]; intro k hk; rw [h k (List.mem_range.1 hk)]; decide
theorem range_all_step (n : Nat) (p : Nat → Bool) : (List.range (n + 1)).all p = ((List.range n).all p && p n) := by
  rw [List.range_succ, List.all_append]; simp
theorem pre_take (s v : Str) : s.isPrefixOf v = (decide (s.length ≤ v.length) && (v.take s.length == s)) := by
  rw [Bool.eq_iff_iff, List.isPrefixOf_iff_prefix, Bool.and_eq_true, decide_eq_true_eq, beq_iff_eq]
  constructor
  · intro h; exact ⟨h.length_le, (List.prefix_iff_eq_take.1 h).symm⟩
  · rintro ⟨_, h⟩; exact List.prefix_iff_eq_take.2 h.symm
theorem count_step (p : Q → Bool) {l : List Q} {m : Nat} (h : m < l.length) : (l.take (m + 1)).countP p = (l.take m).countP p + (if p l[m] then 1 else 0) := by
  rw [List.take_succ_eq_append_getElem h, List.countP_append]; simp [List.countP_cons]
/-- a node's error, as the reference finds it -/
def textOk (q : Q) : Bool := (decide (q.kind = 4) || (decide (q.kind = 5) && decide ((splitS q.text).length = 2)) || (decide (q.kind < 4) && decide ((splitS q.text).length = 1)))
def refErr (q : Q) : Int :=
  if ¬ (1 ≤ q.kind ∧ q.kind ≤ 8) then 4
  else if (¬ 6 ≤ q.kind ∧ 0 < q.parts.length) ∨ (q.kind = 8 ∧ q.parts.length ≠ 1) ∨ ((q.kind = 6 ∨ q.kind = 7) ∧ q.parts.length < 2) ∨ (q.num ≠ 0 ∧ q.kind ≠ 5) ∨ (¬ (2 ≤ q.kind ∧ q.kind ≤ 5) ∧ q.text ≠ []) then 5
  else if q.kind = 5 ∧ ¬ (1 ≤ q.num ∧ q.num ≤ 50) then 3
  else if ¬ (2 ≤ q.kind ∧ q.kind ≤ 5) then 0
  else if (textOk q && (splitS q.text).all wordOk) = true then 0 else 10
def textE (k : Int) (t : Str) : Bool := (decide (k = 4) || (decide (k = 5) && decide ((splitS t).length = 2)) || (decide (k < 4) && decide ((splitS t).length = 1)))
def refE (k : Int) (t : Str) (n : Int) (nl : Nat) : Int :=
  if ¬ (1 ≤ k ∧ k ≤ 8) then 4
  else if (¬ 6 ≤ k ∧ 0 < nl) ∨ (k = 8 ∧ nl ≠ 1) ∨ ((k = 6 ∨ k = 7) ∧ nl < 2) ∨ (n ≠ 0 ∧ k ≠ 5) ∨ (¬ (2 ≤ k ∧ k ≤ 5) ∧ t ≠ []) then 5
  else if k = 5 ∧ ¬ (1 ≤ n ∧ n ≤ 50) then 3
  else if ¬ (2 ≤ k ∧ k ≤ 5) then 0
  else if (textE k t && (splitS t).all wordOk) = true then 0 else 10
theorem refErr_node (k : Int) (t : Str) (n : Int) (ps : List Q) : refErr (.node k t n ps) = refE k t n ps.length := rfl
theorem refErr_eq {q : Q} (hn : q.parts.length ≤ 60) : refErr q = errOf q := by
  unfold refErr errOf
  by_cases h0 : 1 ≤ q.kind ∧ q.kind ≤ 8
  · have hk : q.kind = 1 ∨ q.kind = 2 ∨ q.kind = 3 ∨ q.kind = 4 ∨ q.kind = 5 ∨ q.kind = 6 ∨ q.kind = 7 ∨ q.kind = 8 := by omega
    obtain ⟨n, hn'⟩ : ∃ n, q.parts.length = n := ⟨_, rfl⟩
    obtain ⟨c, hc⟩ : ∃ c, (splitS q.text).length = c := ⟨_, rfl⟩
    obtain ⟨a, ha⟩ : ∃ a, (splitS q.text).all wordOk = a := ⟨_, rfl⟩
    unfold textOk
    rw [hn', hc, ha]
    rw [hn'] at hn
    rcases hk with hk | hk | hk | hk | hk | hk | hk | hk <;> rw [hk] <;> simp only [least, most, wants] <;> cases a <;> by_cases ht : q.text = [] <;> simp [ht] <;> (repeat' split) <;> first | rfl | omega
  · rw [if_pos h0, if_pos]
    simp only [Bool.or_eq_true, decide_eq_true_eq]
    omega
end Sr
end Go.Proofs.YtfjpedgddgbelaaGreatDoor
namespace Go.Proofs.YtfjpedgddgbelaaGreatDoor
open Go.RowKit
set_option linter.unusedVariables false
theorem splitS_size (s : Str) : (splitS s).length ≤ s.length + 1 := by
  rw [splitS_len]
  have : s.count 32 ≤ s.length := List.count_le_length
  omega
theorem splitS_lens {s x : Str} (h : x ∈ splitS s) : x.length ≤ s.length := (splitS_mem s x h).2
set_option maxRecDepth 100000 in
set_option maxHeartbeats 4000000 in
theorem refSplit_ok (s : Str) (hs : s.length ≤ 4398046511104) (w : World) : Calls Tryz.prog 80 #[.string (bs s)] w fun e w' => ∃ (A : Option Addr) (c : Nat) (L : List Str), e = .returned (.slice A L.length c) ∧ Hid (L = splitS s) ∧ Own strC M0 w' w.heap.size 9 (.slice A L.length c) L ∧ Below w.heap.size w w' := by
  go_enter Tryz.func80, Tryz.ntmps80
  go_wp2
  go_loopw [3, 4] (fun o i wr => ∃ (k : Nat) (A : Option Addr) (c : Nat) (L : List Str), k ≤ s.length ∧ i = .int .i64 (k : Int) ∧ o = .slice A L.length c ∧ Hid (L = splitS (s.take k)) ∧ Own strC M0 wr w.heap.size 9 (.slice A L.length c) L ∧ Below w.heap.size w wr) (fun _ i _ => s.length - (intOf i).toNat)
  case atStart => exact ⟨0, _, 1, [[]], Nat.zero_le _, rfl, rfl, Lib.hid rfl, Own.built (M := M0) (B := w.heap.size) (C := strC) 9 (cs := [.string ⟨#[]⟩]) (l := [[]]) (Els.single (C := strC) ⟨rfl, Nat.zero_le _⟩) (Nat.le_refl _) (by simp [maxLen]), (Below.refl _ _).alloc (Nat.le_refl _) _⟩
  case round =>
    obtain ⟨k, A, c, L, hk, rfl, rfl, hL, own, hb⟩ := hrel
    have hLl : L.length ≤ k + 1 := by
      have := splitS_size (s.take k)
      rw [← hL.out, List.length_take] at this
      omega
    have hL1 : 0 < L.length := by rw [hL.out]; exact List.length_pos_iff.2 (splitS_ne _)
    have hk0 : (0 : Int) ≤ (k : Int) := by omega
    by_cases hlt : k < s.length
    · have hget : (bs s)[k]'(by simpa using hlt) = s[k] := bs_get s k (by simpa using hlt)
      have htk : s.take (k + 1) = s.take k ++ [s[k]] := List.take_succ_eq_append_getElem hlt
      obtain ⟨x, hx⟩ : ∃ x, s[k] = x := ⟨_, rfl⟩
      rw [hx] at hget htk
      have Htk := Lib.hid htk
      have hki : (k : Int) < (s.length : Int) := by omega
      clear htk hx
      by_cases hc : x = 32
      · subst hc
        have hst := splitS_space (s.take k)
        have Hst := Lib.hid hst
        clear hst
        have hbs := hb.size
        go_wp2_with (at_builtin; refine wpList_push_Own strC (M := M0) (B := w.heap.size) TStrs rfl (.tmp 16) (.tmp 17) rfl rfl own rfl (cs := [.string ⟨#[]⟩]) (y := []) ⟨rfl, Nat.zero_le _⟩ (fun _ h => h.elim) ?a1 ?b1 hbs ?_)
        case a1 => unfold maxLen; omega
        case b1 => omega
        intro A4 c4 L4 w4 hL4 own4 hb4 _ _
        go_wp2
        go_roundw
        case rel => exact ⟨k + 1, A4, c4, L4, by omega, by go_num, rfl, Lib.hid (by rw [hL4.out, hL.out, Htk.out, Hst.out]), own4, hb.trans hb4⟩
        case measure => simp [intOf]; omega
      · have hst := splitS_other hc (s.take k)
        rw [← hL.out] at hst
        have hc2 : ((x.toNat : Int) == 32) = false := by
          have : x.toNat ≠ 32 := fun e => hc (UInt8.toNat_inj.1 e)
          simp; omega
        obtain ⟨y, hy⟩ : ∃ y, L.getD (L.length - 1) [] = y := ⟨_, rfl⟩
        have hyl : y.length ≤ s.length := by
          rw [← hy, Ix.getD_get (by omega)]
          have := splitS_lens (s := s.take k) (x := L[L.length - 1]) (by rw [← hL.out]; exact List.getElem_mem _)
          rw [List.length_take] at this
          omega
        obtain ⟨b, off, hA, _, _, p0, _⟩ := own.read0.strAt (k := L.length - 1) (by omega)
        rw [← Ix.getD_get (d := []) (by omega), hy] at p0
        obtain ⟨g, c9, cur, hv, hlc, hcm, hBg, hblk, hsz⟩ := own.blk hL1
        injection hv with hv1 hv2 hv3
        subst hv1 hv3
        injection hA with hA
        injection hA with hA1 hA2
        subst hA1 hA2
        rw [Nat.zero_add] at p0
        rw [hy] at hst
        have hf0 := hblk.frozen (L.length - 1)
        have hgl := hblk.lt
        have hw1 : IntKind.i64.wrap ((L.length : Int) - 1) = ((L.length - 1 : Nat) : Int) := by rw [show (L.length : Int) - 1 = ((L.length - 1 : Nat) : Int) by omega]; exact IntWalk.i64_in _ (by omega)
        have hw2 : IntKind.i64.wrap ((k : Int) + 1) = ((k + 1 : Nat) : Int) := by rw [show (k : Int) + 1 = ((k + 1 : Nat) : Int) by omega]; exact IntWalk.i64_in _ (by omega)
        have hset := own.put1 rfl (k := L.length - 1) (by omega) (u := .string (bs (y ++ [x]))) (a := y ++ [x]) ⟨rfl, by unfold maxLen; simp; omega⟩
        have htd : (s.take (k + 1)).drop k = [x] := by rw [Htk.out, List.drop_left' (by rw [List.length_take]; omega)]
        have htd2 : (s.drop k).take (k + 1 - k) = [x] := by rw [← htd, List.drop_take]
        have htd3 : (s.drop k).take 1 = [x] := by rw [← htd2]; congr 1; omega
        have hcat : (y.length + [x].length ≤ 9223372036854775807) = True := by simp; omega
        have Hst := Lib.hid hst; have Hset := Lib.hid hset
        clear hst hset hL own
        go_wp2_with fail
        go_region
        go_wp2
        go_roundw
        case rel => exact ⟨k + 1, some ⟨g, 0, none⟩, c, L.set (L.length - 1) (y ++ [x]), by omega, by go_num, by rw [List.length_set], Lib.hid (by rw [Htk.out, Hst.out]), by rw [List.length_set]; exact Hset.out.ext (Below.refl _ _).drew, (hb.setCell (p := ⟨g, L.length - 1, none⟩) hBg _).drew⟩
        case measure => simp [intOf]; omega
    · obtain rfl : k = s.length := by omega
      go_wp2
      go_ret
      exact ⟨A, c, L, rfl, Lib.hid (by rw [hL.out, List.take_length]), own, hb⟩
end Go.Proofs.YtfjpedgddgbelaaGreatDoor
namespace Go.Proofs.YtfjpedgddgbelaaGreatDoor
open Go.RowKit
set_option linter.unusedVariables false
/-- only the own block of a slice has turned among the elder ones -/
def KeepsBut (w w' : World) (v : Value) : Prop := ∀ b, b < w.heap.size → v.ownBlock ≠ some b → w'.heap[b]? = w.heap[b]?
/-- a slice's own block: the one of another slice, or a new one -/
def Turns (w : World) (v v' : Value) : Prop := ∀ b, v'.ownBlock = some b → v.ownBlock = some b ∨ w.heap.size ≤ b
theorem Turns.refl (w : World) (v : Value) : Turns w v v := fun b h => .inl h
theorem Turns.trans {w w1 : World} {v v1 v2 : Value} (h : Turns w v v1) (h2 : Turns w1 v1 v2) (hs : w.heap.size ≤ w1.heap.size) : Turns w v v2 := fun b hb => by
  rcases h2 b hb with e | e
  · exact h b e
  · exact .inr (by omega)
theorem KeepsBut.refl (w : World) (v : Value) : KeepsBut w w v := fun _ _ _ => rfl
theorem KeepsBut.trans {w w1 w2 : World} {v v1 : Value} (h : KeepsBut w w1 v) (t : Turns w v v1) (h2 : KeepsBut w1 w2 v1) (hs : w.heap.size ≤ w1.heap.size) : KeepsBut w w2 v := fun b hb hv => by
  rw [h2 b (by omega) fun e => ?_]
  · exact h b hb hv
  · rcases t b e with e | e
    · exact hv e
    · omega
theorem KeepsBut.grown {w w' : World} {v : Value} (h : w.grownBy w' v.ownBlock) : KeepsBut w w' v := fun b hb hv => h.block b hb fun e => hv e.symm
theorem KeepsBut.set {w : World} {g n c i : Nat} (u : Value) : KeepsBut w (w.setCell ⟨g, i, none⟩ u) (.slice (some ⟨g, 0, none⟩) n c) := fun b hb hv => Below.heap_setCell w ⟨g, i, none⟩ u b fun e => hv (by rw [e]; rfl)
def lenOf : Value → Nat
  | .slice _ n _ => n
  | _ => 0
theorem padded_more {L : List Str} {j n : Nat} (h : (L ++ List.replicate j ([] : Str)).length = max L.length (n + 1)) : L ++ List.replicate j ([] : Str) = Sr.padded L n := by
  unfold Sr.padded
  rw [List.length_append, List.length_replicate] at h
  rw [show j = n + 1 - L.length by omega]
set_option maxRecDepth 100000 in
set_option maxHeartbeats 4000000 in
theorem placed_ok (B : Nat) (A : Option Addr) (c : Nat) (L : List Str) (n : Nat) (v : Str) (w : World) (own : Own strC M0 w B 9 (.slice A L.length c) L) (hB : B ≤ w.heap.size) (hn : n ≤ 9223372036854775807) (hL : L.length ≤ 5001) (ht : Sr.tot L + v.length + 1 ≤ 4611686018427387904) :
    Calls Tryz.prog 128 #[.slice A L.length c, .int .i64 (n : Int), .string (bs v)] w fun e w' => ∃ (A' : Option Addr) (c' : Nat) (L' : List Str), e = .returned (.slice A' L'.length c') ∧ Hid (L' = Sr.placedF L n v) ∧ Own strC M0 w' B 9 (.slice A' L'.length c') L' ∧ Below B w w' ∧ KeepsBut w w' (.slice A L.length c) ∧ Turns w (.slice A L.length c) (.slice A' L'.length c') := by
  by_cases h5 : 5000 < n
  · have h5i : (5000 : Int) < (n : Int) := by omega
    have hf : Sr.placedF L n v = L := by unfold Sr.placedF; rw [if_pos h5]
    have Hf := Lib.hid hf
    clear hf
    go_enter Tryz.func128, Tryz.ntmps128
    go_wp2
    go_ret
    exact ⟨A, c, L, rfl, Lib.hid Hf.out.symm, own, Below.refl _ _, KeepsBut.refl _ _, Turns.refl _ _⟩
  · have h5i : ¬ (5000 : Int) < (n : Int) := by omega
    have hf : Sr.placedF L n v = (Sr.padded L n).set n ((if (Sr.padded L n).getD n [] = [] then [] else (Sr.padded L n).getD n [] ++ [32]) ++ v) := by unfold Sr.placedF; rw [if_neg h5]
    have htp := Sr.tot_padded L n
    have hpl := Sr.padded_len L n
    have hnp : n < (Sr.padded L n).length := by omega
    have Hf := Lib.hid hf; have Htp := Lib.hid htp; have Hpl := Lib.hid hpl
    clear hf htp hpl hnp
    obtain ⟨v0, hv0⟩ : ∃ v0, Value.slice A L.length c = v0 := ⟨_, rfl⟩
    have Hv0 := Lib.hid hv0
    clear hv0
    go_enter Tryz.func128, Tryz.ntmps128
    go_wp2
    go_loopw [0] (fun o wr => ∃ (j : Nat) (A' : Option Addr) (c' : Nat) (L' : List Str), o = .slice A' L'.length c' ∧ Hid (L' = L ++ List.replicate j []) ∧ L'.length ≤ max L.length (n + 1) ∧ Own strC M0 wr B 9 (.slice A' L'.length c') L' ∧ Below B w wr ∧ KeepsBut w wr v0 ∧ Turns w v0 (.slice A' L'.length c') ∧ w.heap.size ≤ wr.heap.size) (fun o _ => n + 1 - lenOf o)
    case atStart => exact ⟨0, A, c, L, rfl, Lib.hid (by simp), by omega, own, Below.refl _ _, KeepsBut.refl _ _, by rw [← Hv0.out]; exact Turns.refl _ _, Nat.le_refl _⟩
    case round =>
      obtain ⟨j, A1, c1, L1, rfl, hL1, hl1, own1, hb1, hkb, htn, hsz1⟩ := hrel
      have hbs : B ≤ wr.heap.size := by omega
      by_cases hlt : L1.length ≤ n
      · have hli : (L1.length : Int) ≤ (n : Int) := by omega
        go_wp2_with (at_builtin; refine wpList_push_Own strC (M := M0) (B := B) TStrs rfl (.tmp 14) (.tmp 15) rfl rfl own1 rfl (cs := [.string ⟨#[]⟩]) (y := []) ⟨rfl, Nat.zero_le _⟩ (fun _ h => h.elim) ?a1 ?b1 hbs ?_)
        case a1 => unfold maxLen; omega
        case b1 => omega
        intro A4 c4 L4 w4 hL4 own4 hb4 hg4 ho4
        have hl4 : L4.length = L1.length + 1 := by rw [hL4.out, List.length_append]; rfl
        have ht4 : Turns wr (.slice A1 L1.length c1) (.slice A4 L4.length c4) := fun b hb => by
          rcases ho4 with e | e
          · exact .inl (by rw [← e]; exact hb)
          · rw [hb] at e; injection e with e; exact .inr (by omega)
        have hkb4 := hkb.trans htn (KeepsBut.grown hg4) hsz1
        have htn4 := htn.trans ht4 hsz1
        have hs4 := hg4.size
        clear ho4 hg4
        go_wp2
        go_roundw
        case rel => exact ⟨j + 1, A4, c4, L4, rfl, Lib.hid (by rw [hL4.out, hL1.out, List.append_assoc, List.replicate_succ']), by omega, own4, hb1.trans hb4, hkb4, htn4, by omega⟩
        case measure => simp [lenOf]; omega
      · have hli : ¬ (L1.length : Int) ≤ (n : Int) := by omega
        have hnl : n < L1.length := by omega
        obtain ⟨g, c9, cur, hv, hlc, hcm, hBg, hblk, hsz⟩ := own1.blk (by omega)
        injection hv with hv1 hv2 hv3
        subst hv1 hv3
        have hpe : L1 = Sr.padded L n := by
          rw [hL1.out]
          have hj : L1.length = L.length + j := by rw [hL1.out, List.length_append, List.length_replicate]
          refine padded_more ?_
          rw [← hL1.out]
          omega
        obtain ⟨b, off, hA, _, _, p0, _⟩ := own1.read0.strAt (k := n) hnl
        injection hA with hA
        injection hA with hA1 hA2
        subst hA1 hA2
        rw [Nat.zero_add] at p0
        have hyt : L1[n].length ≤ Sr.tot L := by
          have h1 := Sr.tot_mem (List.getElem_mem hnl)
          have h2 : Sr.tot L1 = Sr.tot L := by rw [hpe, Htp.out]
          omega
        have hfin := Hf.out
        rw [← hpe, Ix.getD_get hnl] at hfin
        obtain ⟨y, hy⟩ : ∃ y, y = L1[n] := ⟨_, rfl⟩
        rw [← hy] at p0 hyt hfin
        have hf0 := hblk.frozen n
        have hgl := hblk.lt
        have hni : (n : Int) < (L1.length : Int) := by omega
        have hkb2 := fun u => hkb.trans htn (KeepsBut.set (w := wr) (g := g) (n := L1.length) (c := c1) (i := n) u) hsz1
        by_cases hye : y = []
        · subst hye
          rw [if_pos rfl, List.nil_append] at hfin
          have hset := own1.put1 rfl (k := n) hnl (u := .string (bs v)) (a := v) ⟨rfl, by unfold maxLen; omega⟩
          rw [← hfin] at hset
          have hl9 : (Sr.placedF L n v).length = L1.length := by rw [hfin, List.length_set]
          have hcat : ((0 : Nat) + v.length ≤ 9223372036854775807) = True := by simp; omega
          have Hset := Lib.hid hset; have Hfin := Lib.hid hfin; have Hhl9 := Lib.hid hl9; have Hkb := Lib.hid hkb2
          clear hset hfin own1 hL1 hpe hy hblk hl9 hkb2 hkb
          go_wp2
          go_ret
          exact ⟨some ⟨g, 0, none⟩, c1, Sr.placedF L n v, by rw [Hhl9.out]; rfl, Lib.hid rfl, by rw [Hhl9.out]; exact Hset.out, hb1.setCell (p := ⟨g, n, none⟩) hBg _, by rw [Hv0.out]; exact Hkb.out _, by rw [Hv0.out]; exact htn⟩
        · have hyb : (y == []) = false := by simpa using hye
          rw [if_neg hye] at hfin
          have hset := own1.put1 rfl (k := n) hnl (u := .string (bs (y ++ [32]))) (a := y ++ [32]) ⟨rfl, by unfold maxLen; simp; omega⟩
          have hset2 := Own.put1 rfl (w := wr.setCell ⟨g, n, none⟩ (.string (bs (y ++ [32])))) (g := g) (n := L1.length) (c := c1) hset (k := n) (by rw [List.length_set]; exact hnl) (u := .string (bs ((y ++ [32]) ++ v))) (a := (y ++ [32]) ++ v) ⟨rfl, by unfold maxLen; simp; omega⟩
          rw [List.set_set, ← hfin] at hset2
          have hl9 : (Sr.placedF L n v).length = L1.length := by rw [hfin, List.length_set]
          have hcat : (y.length + [(32 : UInt8)].length ≤ 9223372036854775807) = True := by simp; omega
          have hcat2 : ((y ++ [32]).length + v.length ≤ 9223372036854775807) = True := by simp; omega
          have Hset := Lib.hid hset2; have Hfin := Lib.hid hfin; have Hhl9 := Lib.hid hl9; have Hkb := Lib.hid (hkb2 (.string (bs (y ++ [32])))); have Hhb := Lib.hid (And.intro hgl (And.intro hBg htn))
          clear hset hset2 hfin own1 hL1 hpe hy hl9 hkb2 hkb
          go_wp2
          go_ret
          exact ⟨some ⟨g, 0, none⟩, c1, Sr.placedF L n v, by rw [Hhl9.out]; rfl, Lib.hid rfl, by rw [Hhl9.out]; exact Hset.out, (hb1.setCell (p := ⟨g, n, none⟩) hBg _).setCell (p := ⟨g, n, none⟩) hBg _, by rw [Hv0.out]; exact Hkb.out.trans htn (KeepsBut.set _) (by simp; omega), by rw [Hv0.out]; exact htn⟩
end Go.Proofs.YtfjpedgddgbelaaGreatDoor
