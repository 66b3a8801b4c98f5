/-
  Contracts and plain facts, one after another: The reference of searching: plain facts; The reference's Levels; The reference's Nodes.
-/
import Derived.Test.YtihhgmpanfboaaaGreatDoorK11
import Derived.Test.YtihhgmpanfboaaaGreatDoorK5
import Derived.Test.YtihhgmpanfboaaaGreatDoorQyNd
import Derived.Test.YtihhgmpanfboaaaGreatDoorK23
namespace Go.Proofs.YtihhgmpanfboaaaGreatDoor
set_option linter.unusedVariables false
theorem splitS_space (a : Str) : splitS (a ++ [32]) = splitS a ++ [[]] := splitS_append a []
theorem splitS_other {c : UInt8} (h : c ≠ 32) : ∀ a : Str, splitS (a ++ [c]) = (splitS a).set ((splitS a).length - 1) ((splitS a).getD ((splitS a).length - 1) [] ++ [c])
  | [] => by simp [splitS, h]
  | d :: t => by
    have ih := splitS_other h t
    rw [List.cons_append, splitS, splitS, ih]
    cases hX : splitS t with
    | nil => exact absurd hX (splitS_ne t)
    | cons x r =>
      cases r with
      | nil => split <;> simp
      | cons y r => split <;> simp
theorem contains_anyS (l : List Str) (x : Str) : l.contains x = l.any (· == x) := by
  rw [Bool.eq_iff_iff, List.contains_iff_mem, List.any_eq_true]; simp
namespace Sr
open Q
def tot (l : List Str) : Nat := (l.map List.length).sum
theorem tot_nil : tot [] = 0 := rfl
theorem tot_append (a b : List Str) : tot (a ++ b) = tot a + tot b := by unfold tot; rw [List.map_append, List.sum_append]
theorem tot_mem {l : List Str} {s : Str} (h : s ∈ l) : s.length ≤ tot l := by
  induction l with
  | nil => cases h
  | cons a l ih =>
    show _ ≤ a.length + tot l
    rcases List.mem_cons.1 h with rfl | h
    · omega
    · have := ih h; omega
theorem tot_set : ∀ {l : List Str} {n : Nat} (h : n < l.length) (v : Str), tot (l.set n v) + l[n].length = tot l + v.length
  | a :: l, 0, _, v => by show v.length + tot l + a.length = a.length + tot l + v.length; omega
  | a :: l, n + 1, h, v => by
    have hn : n < l.length := by simpa using h
    have := tot_set hn v
    show a.length + tot (l.set n v) + l[n].length = a.length + tot l + v.length
    omega
theorem tot_nils (n : Nat) : tot (List.replicate n []) = 0 := by
  induction n with
  | zero => rfl
  | succ n ih => rw [List.replicate_succ]; show 0 + tot _ = 0; omega
theorem tot_padded (l : List Str) (n : Nat) : tot (padded l n) = tot l := by unfold padded; rw [tot_append, tot_nils]; rfl
theorem placed_len (l : List Str) {n : Nat} (v : Str) (hn : n ≤ 5000) : (placedF l n v).length = max l.length (n + 1) := by
  unfold placedF
  rw [if_neg (by omega), List.length_set, padded_len]
theorem placed_le (l : List Str) (n : Nat) (v : Str) (hl : l.length ≤ 5001) : (placedF l n v).length ≤ 5001 := by
  by_cases h : n ≤ 5000
  · rw [placed_len l v h]; omega
  · unfold placedF; rw [if_pos (by omega)]; exact hl
theorem placed_tot (l : List Str) (n : Nat) (v : Str) : tot (placedF l n v) ≤ tot l + v.length + 1 := by
  unfold placedF
  by_cases h : 5000 < n
  · rw [if_pos h]; omega
  · rw [if_neg h]
    have hl : n < (padded l n).length := by rw [padded_len]; omega
    have h1 := tot_set hl ((if (padded l n).getD n [] = [] then [] else (padded l n).getD n [] ++ [32]) ++ v)
    have h2 : (padded l n).getD n [] = (padded l n)[n] := Ix.getD_get hl _
    rw [tot_padded] at h1
    have h3 : ((if (padded l n).getD n [] = [] then [] else (padded l n).getD n [] ++ [32]) ++ v).length ≤ (padded l n)[n].length + 1 + v.length := by
      rw [h2]
      split <;> simp <;> omega
    omega
/-- how many bytes the placing of some postings adds at most -/
def costP (v : Str) (ps : List Ix.Post) : Nat := (ps.map fun p => p.2.length * (v.length + 1)).sum
def costT (ts : List Ix.Term) : Nat := (ts.map fun t => costP t.1 t.2).sum
theorem costP_drop (v : Str) {ps : List Ix.Post} {n : Nat} (h : n < ps.length) : costP v (ps.drop n) = ps[n].2.length * (v.length + 1) + costP v (ps.drop (n + 1)) := by
  rw [List.drop_eq_getElem_cons h]; rfl
theorem costT_drop {ts : List Ix.Term} {k : Nat} (h : k < ts.length) : costT (ts.drop k) = costP ts[k].1 ts[k].2 + costT (ts.drop (k + 1)) := by
  rw [List.drop_eq_getElem_cons h]; rfl
theorem docT_step (id : Int) {ts : List Ix.Term} {k : Nat} (h : k < ts.length) : docT id [] (ts.take (k + 1)) = docP id ts[k].1 (docT id [] (ts.take k)) ts[k].2 := by
  unfold docT
  rw [List.take_succ_eq_append_getElem h, List.foldl_append]; rfl
theorem docP_step (id : Int) (v : Str) (l : List Str) {ps : List Ix.Post} {n : Nat} (h : n < ps.length) : docP id v l (ps.take (n + 1)) = if ps[n].1 = id then placesF (docP id v l (ps.take n)) v ps[n].2 else docP id v l (ps.take n) := by
  unfold docP
  rw [List.take_succ_eq_append_getElem h, List.foldl_append]; rfl
theorem places_step (v : Str) (l : List Str) {ns : List Int} {m : Nat} (h : m < ns.length) : placesF l v (ns.take (m + 1)) = placedF (placesF l v (ns.take m)) ns[m].toNat v := by
  unfold placesF
  rw [List.take_succ_eq_append_getElem h, List.foldl_append]; rfl
theorem places_tot (v : Str) : ∀ (ns : List Int) (l : List Str), tot (placesF l v ns) ≤ tot l + ns.length * (v.length + 1)
  | [], l => by unfold placesF; simp
  | n :: ns, l => by
    have h1 := places_tot v ns (placedF l n.toNat v)
    have h2 := placed_tot l n.toNat v
    show tot (placesF (placedF l n.toNat v) v ns) ≤ _
    rw [List.length_cons, Nat.add_mul]; omega
theorem docP_tot (id : Int) (v : Str) : ∀ (ps : List Ix.Post) (l : List Str), tot (docP id v l ps) ≤ tot l + costP v ps
  | [], l => by simp [docP, costP]
  | p :: ps, l => by
    have h1 := docP_tot id v ps (if p.1 = id then placesF l v p.2 else l)
    have h2 := places_tot v p.2 l
    show tot (docP id v (if p.1 = id then placesF l v p.2 else l) ps) ≤ tot l + (p.2.length * (v.length + 1) + costP v ps)
    by_cases h : p.1 = id
    · rw [if_pos h] at h1 ⊢; omega
    · rw [if_neg h] at h1 ⊢; omega
theorem docT_tot (id : Int) : ∀ (ts : List Ix.Term) (l : List Str), tot (docT id l ts) ≤ tot l + costT ts
  | [], l => by simp [docT, costT]
  | t :: ts, l => by
    have h1 := docT_tot id ts (docP id t.1 l t.2)
    have h2 := docP_tot id t.1 t.2 l
    show tot (docT id (docP id t.1 l t.2) ts) ≤ tot l + (costP t.1 t.2 + costT ts)
    omega
theorem doc_tot (x : Ix.Idx) (id : Int) : tot (docF x id) ≤ costT x.2 := by have := docT_tot id x.2 []; rw [tot_nil, Nat.zero_add] at this; exact this
theorem places_len (v : Str) : ∀ (ns : List Int) (l : List Str), l.length ≤ 5001 → (placesF l v ns).length ≤ 5001
  | [], l, h => h
  | n :: ns, l, h => places_len v ns _ (placed_le l _ v h)
theorem docP_len (id : Int) (v : Str) : ∀ (ps : List Ix.Post) (l : List Str), l.length ≤ 5001 → (docP id v l ps).length ≤ 5001
  | [], l, h => h
  | p :: ps, l, h => by
    have h2 : (if p.1 = id then placesF l v p.2 else l).length ≤ 5001 := by
      by_cases e : p.1 = id
      · rw [if_pos e]; exact places_len v _ _ h
      · rw [if_neg e]; exact h
    exact docP_len id v ps _ h2
theorem docT_len (id : Int) : ∀ (ts : List Ix.Term) (l : List Str), l.length ≤ 5001 → (docT id l ts).length ≤ 5001
  | [], l, h => h
  | t :: ts, l, h => docT_len id ts _ (docP_len id t.1 t.2 l h)
theorem doc_len (x : Ix.Idx) (id : Int) : (docF x id).length ≤ 5001 := docT_len id x.2 [] (by simp)
theorem costP_sum (v : Str) (ps : List Ix.Post) : costP v ps = (ps.map fun p => p.2.length).sum * (v.length + 1) := by
  unfold costP
  induction ps with
  | nil => simp
  | cons p ps ih => simp only [List.map_cons, List.sum_cons, ih, Nat.add_mul]
/-- what the nodes of a reference's list are: a first part of the nodes in order; all of them, or more than the limit -/
def Cut (L P : List Q) (lim : Nat) : Prop := L <+: P ∧ (L = P ∨ lim < L.length)
theorem Cut.of_le {L P : List Q} {lim : Nat} (h : Cut L P lim) : (lim < L.length ↔ lim < P.length) ∧ (L.length ≤ lim → L = P) := by
  obtain ⟨h1, h2⟩ := h
  have := h1.length_le
  rcases h2 with rfl | h2
  · exact ⟨Iff.rfl, fun _ => rfl⟩
  · exact ⟨⟨fun _ => by omega, fun _ => h2⟩, fun h => by omega⟩
theorem flat_take (f : Nat) {ps : List Q} {m : Nat} (h : m < ps.length) : (ps.take (m + 1)).flatMap (pre f) = (ps.take m).flatMap (pre f) ++ pre f ps[m] := by
  rw [List.take_succ_eq_append_getElem h, List.flatMap_append]; simp
theorem flat_pre (f : Nat) (ps : List Q) (m : Nat) : (ps.take m).flatMap (pre f) <+: ps.flatMap (pre f) := by
  have h : ps.flatMap (pre f) = (ps.take m).flatMap (pre f) ++ (ps.drop m).flatMap (pre f) := by rw [← List.flatMap_append, List.take_append_drop]
  rw [h]; exact List.prefix_append _ _
theorem Cut.step {q : Q} {f lim m : Nat} {ps : List Q} {L L' : List Q} (hm : m < ps.length) (h : Cut L (q :: (ps.take m).flatMap (pre f)) lim) (hl : L.length ≤ lim) (h' : Cut L' (pre f ps[m]) (lim - L.length)) : Cut (L ++ L') (q :: (ps.take (m + 1)).flatMap (pre f)) lim := by
  have e := h.of_le.2 hl
  rw [flat_take f hm, ← List.cons_append, ← e]
  refine ⟨List.prefix_append_right_inj _ |>.2 h'.1, ?_⟩
  rcases h'.2 with h2 | h2
  · exact .inl (by rw [h2])
  · exact .inr (by rw [List.length_append]; omega)
theorem Cut.all {q : Q} {f lim m : Nat} {ps : List Q} {L : List Q} (h : Cut L (q :: (ps.take m).flatMap (pre f)) lim) (he : ps.length ≤ m ∨ lim < L.length) : Cut L (q :: ps.flatMap (pre f)) lim := by
  refine ⟨h.1.trans ((List.prefix_cons_inj q).2 (flat_pre f ps m)), ?_⟩
  rcases he with he | he
  · rw [List.take_of_length_le he] at h; exact h.2
  · exact .inr he
theorem range_any {n : Nat} {p : Nat → Bool} {k : Nat} (hk : k < n) (h : p k = true) : (List.range n).any p = true := List.any_eq_true.2 ⟨k, List.mem_range.2 hk, h⟩
theorem range_none {n : Nat} {p : Nat → Bool} (h : ∀ k, k < n → p k = false) : (List.range n).any p = false := by
  rw [List.any_eq_false]; intro k hk; rw [h k (List.mem_range.1 hk)]; decide
theorem range_all_step (n : Nat) (p : Nat → Bool) : (List.range (n + 1)).all p = ((List.range n).all p && p n) := by
  rw [List.range_succ, List.all_append]; simp
theorem pre_take (s v : Str) : s.isPrefixOf v = (decide (s.length ≤ v.length) && (v.take s.length == s)) := by
  rw [Bool.eq_iff_iff, List.isPrefixOf_iff_prefix, Bool.and_eq_true, decide_eq_true_eq, beq_iff_eq]
  constructor
  · intro h; exact ⟨h.length_le, (List.prefix_iff_eq_take.1 h).symm⟩
  · rintro ⟨_, h⟩; exact List.prefix_iff_eq_take.2 h.symm
theorem count_step (p : Q → Bool) {l : List Q} {m : Nat} (h : m < l.length) : (l.take (m + 1)).countP p = (l.take m).countP p + (if p l[m] then 1 else 0) := by
  rw [List.take_succ_eq_append_getElem h, List.countP_append]; simp [List.countP_cons]
/-- a node's error, as the reference finds it -/
def textOk (q : Q) : Bool := (decide (q.kind = 4) || (decide (q.kind = 5) && decide ((splitS q.text).length = 2)) || (decide (q.kind < 4) && decide ((splitS q.text).length = 1)))
def refErr (q : Q) : Int :=
  if ¬ (1 ≤ q.kind ∧ q.kind ≤ 8) then 4
  else if (¬ 6 ≤ q.kind ∧ 0 < q.parts.length) ∨ (q.kind = 8 ∧ q.parts.length ≠ 1) ∨ ((q.kind = 6 ∨ q.kind = 7) ∧ q.parts.length < 2) ∨ (q.num ≠ 0 ∧ q.kind ≠ 5) ∨ (¬ (2 ≤ q.kind ∧ q.kind ≤ 5) ∧ q.text ≠ []) then 5
  else if q.kind = 5 ∧ ¬ (1 ≤ q.num ∧ q.num ≤ 50) then 3
  else if ¬ (2 ≤ q.kind ∧ q.kind ≤ 5) then 0
  else if (textOk q && (splitS q.text).all wordOk) = true then 0 else 10
def textE (k : Int) (t : Str) : Bool := (decide (k = 4) || (decide (k = 5) && decide ((splitS t).length = 2)) || (decide (k < 4) && decide ((splitS t).length = 1)))
def refE (k : Int) (t : Str) (n : Int) (nl : Nat) : Int :=
  if ¬ (1 ≤ k ∧ k ≤ 8) then 4
  else if (¬ 6 ≤ k ∧ 0 < nl) ∨ (k = 8 ∧ nl ≠ 1) ∨ ((k = 6 ∨ k = 7) ∧ nl < 2) ∨ (n ≠ 0 ∧ k ≠ 5) ∨ (¬ (2 ≤ k ∧ k ≤ 5) ∧ t ≠ []) then 5
  else if k = 5 ∧ ¬ (1 ≤ n ∧ n ≤ 50) then 3
  else if ¬ (2 ≤ k ∧ k ≤ 5) then 0
  else if (textE k t && (splitS t).all wordOk) = true then 0 else 10
theorem refErr_node (k : Int) (t : Str) (n : Int) (ps : List Q) : refErr (.node k t n ps) = refE k t n ps.length := rfl
theorem refErr_eq {q : Q} (hn : q.parts.length ≤ 60) : refErr q = errOf q := by
  unfold refErr errOf
  by_cases h0 : 1 ≤ q.kind ∧ q.kind ≤ 8
  · have hk : q.kind = 1 ∨ q.kind = 2 ∨ q.kind = 3 ∨ q.kind = 4 ∨ q.kind = 5 ∨ q.kind = 6 ∨ q.kind = 7 ∨ q.kind = 8 := by omega
    obtain ⟨n, hn'⟩ : ∃ n, q.parts.length = n := ⟨_, rfl⟩
    obtain ⟨c, hc⟩ : ∃ c, (splitS q.text).length = c := ⟨_, rfl⟩
    obtain ⟨a, ha⟩ : ∃ a, (splitS q.text).all wordOk = a := ⟨_, rfl⟩
    unfold textOk
    rw [hn', hc, ha]
    rw [hn'] at hn
    rcases hk with hk | hk | hk | hk | hk | hk | hk | hk <;> rw [hk] <;> simp only [least, most, wants] <;> cases a <;> by_cases ht : q.text = [] <;> simp [ht] <;> (repeat' split) <;> first | rfl | omega
  · rw [if_pos h0, if_pos]
    simp only [Bool.or_eq_true, decide_eq_true_eq]
    omega
end Sr
end Go.Proofs.YtihhgmpanfboaaaGreatDoor
namespace Go.Proofs.YtihhgmpanfboaaaGreatDoor
open Go.RowKit
set_option linter.unusedVariables false
theorem lev_one (q : Q) : Q.lev 1 q = 1 := by
  have : Q.top (q.parts.map (Q.lev 0)) ≤ 0 := Q.top_le.2 fun a ha => by
    obtain ⟨p, _, rfl⟩ := List.mem_map.1 ha
    exact Nat.le_refl _
  show Q.top (q.parts.map (Q.lev 0)) + 1 = 1
  omega
theorem lev_take (n : Nat) (l : List Q) {m : Nat} (h : m < l.length) : Q.top ((l.take (m + 1)).map (Q.lev n)) = max (Q.top ((l.take m).map (Q.lev n))) (Q.lev n l[m]) := by
  rw [List.take_succ_eq_append_getElem h, List.map_append, List.map_cons, List.map_nil, top_snoc]
set_option maxRecDepth 100000 in
set_option maxHeartbeats 4000000 in
theorem levels_ok : ∀ (n f : Nat) (q : Q) (v : Value) (w : World) (hn : n ≤ 60) (hq : QAt f M0 w v q),
    Calls Tryz.prog 20 #[v, .int .i64 ((n + 1 : Nat) : Int)] w fun r w' => r = .returned (.int .i64 (Q.lev (n + 1) q : Nat)) ∧ Below w.heap.size w w' := by
  intro n
  induction n with
  | zero =>
    intro f q v w hn hq
    rw [lev_one]
    obtain ⟨A, c, rfl, _, _, _, hv⟩ := hq
    obtain ⟨ql, hql⟩ : ∃ k, q.parts.length = k := ⟨_, rfl⟩
    rw [hql]
    obtain ⟨W0, g, hW, rfl, hs, kq, hal⟩ := boxA w #[.int .i64 q.kind, .string (bs q.text), .int .i64 q.num, .slice A ql c] 24
    obtain ⟨q0, q1, q2, q3, _⟩ := kq.four
    rw [← hW] at q3
    have HW := Lib.hid hW
    clear hs hW kq q0 q1 q2 hv hql
    go_enter Tryz.func20, Tryz.ntmps20
    go_wp2_with fail
    rw [HW.out] at q3 ⊢
    go_loopw [5, 6] (fun a i wr => a = .int .i64 0 ∧ i = .int .i64 0 ∧ wr = W0) (fun _ _ _ => 0)
    case atStart => exact ⟨rfl, rfl, rfl⟩
    case round =>
      obtain ⟨rfl, rfl, rfl⟩ := hrel
      by_cases h0 : 0 < ql
      · have h0i : (0 : Int) < (ql : Int) := by omega
        go_wp2_with fail

        go_ret
        exact ⟨rfl, hal⟩
      · have h0i : ¬ (0 : Int) < (ql : Int) := by omega
        go_wp2_with fail
        go_ret
        exact ⟨rfl, hal⟩
  | succ n ih =>
    intro f q v w hn hq
    have qq := hq
    obtain ⟨A, c, rfl, _, _, _, hv⟩ := hq
    have hqm := hv.len_le
    obtain ⟨ps, hps⟩ : ∃ l, q.parts = l := ⟨_, rfl⟩
    have hgoal : Q.lev (n + 1 + 1) q = Q.top (ps.map (Q.lev (n + 1))) + 1 := by rw [← hps]; rfl
    have htop := Q.top_lev_le (n + 1) ps
    rw [hps] at hv hqm ⊢
    rw [hgoal]
    obtain ⟨res, hres⟩ : ∃ r, Q.top (ps.map (Q.lev (n + 1))) + 1 = r := ⟨_, rfl⟩
    rw [hres]
    have Hres := Lib.hid hres
    clear hres
    obtain ⟨W0, g, hW, rfl, hs, kq, hal⟩ := boxA w #[.int .i64 q.kind, .string (bs q.text), .int .i64 q.num, .slice A ps.length c] 24
    replace hv := hv.ext hal
    have HW := Lib.hid hW
    have Htop := Lib.hid htop
    have Ih := Lib.hid ih
    clear hs hW hps hgoal qq ih htop
    unfold maxLen at hqm
    have hn1 : (1 : Int) < ((n + 1 + 1 : Nat) : Int) := by omega
    have hnw : IntKind.i64.wrap (((n + 1 + 1 : Nat) : Int) - 1) = ((n + 1 : Nat) : Int) := by rw [show ((n + 1 + 1 : Nat) : Int) - 1 = ((n + 1 : Nat) : Int) by omega]; exact IntWalk.i64_in _ (by omega)
    obtain ⟨lim, hlim⟩ : ∃ lim : Int, ((n + 1 + 1 : Nat) : Int) = lim := ⟨_, rfl⟩
    rw [hlim] at hn1 hnw ⊢
    clear hlim
    go_enter Tryz.func20, Tryz.ntmps20
    go_wp2_with fail
    rw [HW.out]
    go_loopw [5, 6] (fun a i wr => ∃ m : Nat, m ≤ ps.length ∧ i = .int .i64 m ∧ a = .int .i64 (Q.top ((ps.take m).map (Q.lev (n + 1))) : Nat) ∧ Below W0.heap.size W0 wr) (fun _ i _ => ps.length - (intOf i).toNat)
    case atStart => exact ⟨0, Nat.zero_le _, rfl, rfl, Below.refl _ _⟩
    case round =>
      obtain ⟨m, hm, rfl, rfl, hbr⟩ := hrel
      obtain ⟨q0, q1, q2, q3, _⟩ := (kq.ext hbr).four
      by_cases hlt : m < ps.length
      · obtain ⟨b, off, g2, A2, c2, rfl, hfg, _, _, s0, s1, s2, s3, hqa⟩ := (hv.ext hbr).qAt hlt
        have hlev := lev_take (n + 1) ps hlt
        have hle1 := Q.lev_le (n + 1) ps[m]
        have hle2 := Q.top_lev_le (n + 1) (ps.take m)
        have hc := Ih.out g2 ps[m] _ wr (by omega) hqa
        obtain ⟨p, hp⟩ : ∃ p, p = ps[m] := ⟨_, rfl⟩
        rw [← hp] at s0 s1 s2 s3 hc hlev hle1
        obtain ⟨t, ht⟩ : ∃ t, Q.top ((ps.take m).map (Q.lev (n + 1))) = t := ⟨_, rfl⟩
        obtain ⟨r, hr⟩ : ∃ r, Q.lev (n + 1) p = r := ⟨_, rfl⟩
        rw [ht, hr] at hlev
        rw [ht] at hle2 ⊢
        rw [hr] at hle1 hc
        have hmax : max (t : Int) (r : Int) = ((max t r : Nat) : Int) := by omega
        have Hlev := Lib.hid hlev; have Hc := Lib.hid hc; have Hbr := Lib.hid hbr
        have hmi : (m : Int) < (ps.length : Int) := by omega
        have hm0 : (0 : Int) ≤ (m : Int) := by omega
        clear hlev hc hbr hp hqa ht hr
        go_wp2_with fail
        refine Hc.out.mono ?_
        rintro e w9 ⟨rfl, hb9⟩
        clear q0 q1 q2 q3 s0 s1 s2 s3
        go_wp2_with fail
        go_roundw
        case rel => exact ⟨m + 1, by omega, by go_num, by rw [Hlev.out], Hbr.out.trans (hb9.mono Hbr.out.size)⟩
        case measure => simp [intOf]; omega
      · obtain rfl : m = ps.length := by omega
        rw [List.take_length]
        have htop := Htop.out
        obtain ⟨t, ht⟩ : ∃ t, Q.top (ps.map (Q.lev (n + 1))) = t := ⟨_, rfl⟩
        have hres := Hres.out
        rw [ht] at htop hres ⊢
        have HR := Lib.hid hres
        clear hres
        have htw : IntKind.i64.wrap ((t : Int) + 1) = ((t + 1 : Nat) : Int) := by rw [show (t : Int) + 1 = ((t + 1 : Nat) : Int) by omega]; exact IntWalk.i64_in _ (by omega)
        clear ht
        go_wp2_with fail
        go_ret
        exact ⟨by rw [← HR.out]; rfl, hal.trans (hbr.mono hal.size)⟩
end Go.Proofs.YtihhgmpanfboaaaGreatDoor
namespace Go.Proofs.YtihhgmpanfboaaaGreatDoor
open Go.RowKit
set_option linter.unusedVariables false
theorem TQs : SlT Tryz.prog 4 22 24 56 := SlT.mk' Tryz.underlying22 (by kernel_rfl : (Tryz.prog.info? 24).map (fun i => (i.zero, i.size, i.bytes)) = some (some (.agg #[.int .i64 0, .string ⟨#[]⟩, .int .i64 0, .slice none 0 0]), 4, 56)) rfl
theorem QAt.sub {f : Nat} {M M' : Nat → Prop} {w : World} {v : Value} {q : Q} (h : QAt f M w v q) (hm : ∀ b, b < w.heap.size → M' b → M b) : QAt f M' w v q := by
  obtain ⟨A, c, e, h1, h2, h3, hv⟩ := h
  exact ⟨A, c, e, h1, h2, h3, hv.sub hm⟩
set_option maxRecDepth 100000 in
set_option maxHeartbeats 4000000 in
theorem nodes_ok : ∀ (f : Nat) (q : Q) (v : Value) (n : Nat) (w : World) (M : Nat → Prop), n ≤ 60 → (∀ b, M b → b < w.heap.size) → QAt f M w v q → q.bulk ≤ 4000000 →
    Calls Tryz.prog 21 #[v, .int .i64 (n : Int)] w fun r w' => ∃ (A : Option Addr) (c : Nat) (L : List Q), r = .returned (.slice A L.length c) ∧ Hid (Sr.Cut L (Q.pre (f + 1) q) n) ∧ Own (qF (f + 1)) M w' w.heap.size 24 (.slice A L.length c) L ∧ Below w.heap.size w w' := by
  intro f
  induction f using Nat.strongRecOn with | _ f ih => ?_
  intro q v n w M hn hM hq hbk
  have hqr := hq.rd
  obtain ⟨A, c, rfl, _, _, _, hv⟩ := hq
  obtain ⟨ps, hps⟩ : ∃ l, q.parts = l := ⟨_, rfl⟩
  have hpre : Q.pre (f + 1) q = q :: ps.flatMap (Q.pre f) := by rw [← hps]; rfl
  have hbk2 := Q.bulk_eq q
  rw [hps] at hv hqr hbk2 ⊢
  have hpm : ∀ (m : Nat) (h : m < ps.length), ps[m].bulk ≤ 4000000 := fun m h => by
    have := Q.bulks_mem (List.getElem_mem h)
    omega
  have hqm := hv.len_le
  unfold maxLen at hqm
  rw [hpre]
  have hvB := hv.toMB
  obtain ⟨W0, g, hW, hg, hs, kq, hal⟩ := boxA w #[.int .i64 q.kind, .string (bs q.text), .int .i64 q.num, .slice A ps.length c] 24
  obtain ⟨q0, q1, q2, q3, _⟩ := kq.four
  have own0 : Own (qF (f + 1)) M (W0.alloc (.cells [.int .i64 q.kind, .string (bs q.text), .int .i64 q.num, .slice A ps.length c].toArray 24)) W0.heap.size 24 (.slice (some ⟨W0.heap.size, 0, none⟩) [q].length [q].length) [q] :=
    Own.built (w := W0) (M := M) (C := qF (f + 1)) 24 (Els.single (Codec.ext hqr hal)) (Nat.le_refl _) (by simp [maxLen])
  obtain ⟨W1, g1, hW1, hg1, hs1, _, hal1⟩ := boxA W0 #[.int .i64 q.kind, .string (bs q.text), .int .i64 q.num, .slice A ps.length c] 24
  rw [show (W0.alloc (.cells [.int .i64 q.kind, .string (bs q.text), .int .i64 q.num, .slice A ps.length c].toArray 24)) = W1 from hW1] at own0
  have hsl : (Value.slice (some ⟨W0.heap.size, 0, none⟩) [q].length [q].length) = .slice (some ⟨g + 1, 0, none⟩) [q].length 1 := by rw [hs]; rfl
  rw [hsl] at own0
  rw [← hW, ← hg] at q0 q1 q2 q3
  have hss : w.heap.size ≤ W0.heap.size := hal.size
  have HW := Lib.hid hW; have HW1 := Lib.hid hW1; have Hg := Lib.hid hg; have Hg1 := Lib.hid hg1; have Hq := Lib.hid kq; have Hih := Lib.hid ih; have Hpm := Lib.hid hpm; have Hhal := Lib.hid hal; have HvB := Lib.hid hvB; have HM := Lib.hid hM; have Hown0 := Lib.hid own0
  clear hsl hW hW1 hg hg1 kq ih hpm hal hvB hM hs hs1 hqr hv hps hpre hbk2 own0
  go_enter Tryz.func21, Tryz.ntmps21
  go_wp2_with fail
  rw [HW.out, HW1.out]
  try rw [Hg.out]
  try rw [Hg1.out]
  clear q0 q1 q2 q3
  go_loopw [5, 6] (fun ov iv wr => ∃ (m : Nat) (A2 : Option Addr) (c2 : Nat) (L : List Q), m ≤ ps.length ∧ iv = .int .i64 (m : Int) ∧ ov = .slice A2 L.length c2 ∧ Hid (Sr.Cut L (q :: (ps.take m).flatMap (Q.pre f)) n) ∧ Own (qF (f + 1)) M wr W0.heap.size 24 (.slice A2 L.length c2) L ∧ Below W0.heap.size W0 wr) (fun _ iv _ => ps.length - (intOf iv).toNat)
  case atStart => exact ⟨0, _, 1, [q], Nat.zero_le _, rfl, rfl, Lib.hid ⟨List.prefix_rfl, .inl rfl⟩, Hown0.out, hal1⟩
  case round =>
    obtain ⟨m, A2, c2, L, hm, rfl, rfl, hL, own, hb⟩ := hrel
    obtain ⟨wo, rfl⟩ : ∃ W, W = wr := ⟨_, rfl⟩
    obtain ⟨q0, q1, q2, q3, _⟩ := (Hq.out.ext hb).four
    have hm0 : (0 : Int) ≤ (m : Int) := by omega
    have hLl := own.len_le
    unfold maxLen at hLl
    by_cases hlt : m < ps.length
    · have hmi : (m : Int) < (ps.length : Int) := by omega
      by_cases hle : L.length ≤ n
      · have hli : (L.length : Int) ≤ (n : Int) := by omega
        have hbw : Below w.heap.size w wo := Hhal.out.trans (hb.mono Hhal.out.size)
        obtain ⟨b, off, e, A4, c4, rfl, hfe, _, _, s0, s1, s2, s3, hqa⟩ := (HvB.out.ext hbw).qAt hlt
        have hM2 : ∀ b, (M b ∨ (Value.slice A2 L.length c2).ownBlock = some b) → b < wo.heap.size := fun b h => by
          rcases h with h | h
          · have := HM.out b h; have := hbw.size; omega
          · exact own.lt b h
        have hq2 := hqa.sub (M' := fun b => M b ∨ (Value.slice A2 L.length c2).ownBlock = some b) fun b hb h => by
          rcases h with h | h
          · exact .inl h
          · exact .inr (Nat.le_trans hss (own.base b h))
        have hc := Hih.out e (by omega) ps[m] _ (n - L.length) wo _ (by omega) hM2 hq2 (Hpm.out m hlt)
        have hpb := Q.pre_bulk (e + 1) ps[m]
        have hpm := Hpm.out m hlt
        rw [← hfe] at hc hpb
        have hcs := fun L' h' => Sr.Cut.step (q := q) (f := f) (lim := n) (L := L) (L' := L') hlt hL.out hle h'
        obtain ⟨p, hp⟩ : ∃ p, p = ps[m] := ⟨_, rfl⟩
        rw [← hp] at s0 s1 s2 s3 hc hpb hpm hcs
        have hsub : IntKind.i64.wrap ((n : Int) - (L.length : Int)) = ((n - L.length : Nat) : Int) := by rw [show (n : Int) - (L.length : Int) = ((n - L.length : Nat) : Int) by omega]; exact IntWalk.i64_in _ (by omega)
        have Hc := Lib.hid hc; have Hcs := Lib.hid hcs; have Hb := Lib.hid hb; have HM2 := Lib.hid hM2; have Hfe := Lib.hid hfe
        clear hfe hc hcs hb hM2 hq2 hqa hbw hp q0 q1 q2
        go_wp2_with fail
        refine Hc.out.mono ?_
        rintro r w4 ⟨A3, c3, L3, rfl, hL3, own3, hb4⟩
        have own4 := own.ext hb4
        have hsrc := (own3.readB HM2.out).qMono (g := f + 1) (by have := Hfe.out; omega)
        have hl3 : L3.length ≤ 1000000 := by have := hL3.out.1.length_le; omega
        have hbw4 := Hb.out.trans (hb4.mono Hb.out.size)
        have hbs := hbw4.size
        clear Hc own own3 hb4 q3 s0 s1 s2 s3
        go_wp2_with (at_builtin; refine wpList_append_Own (qF (f + 1)) (M := M) (B := W0.heap.size) (l := L) (l' := L3) TQs rfl (.tmp 22) (.tmp 32) rfl (v := .slice A2 L.length c2) rfl own4 rfl hsrc ?a1 ?b1 hbs ?_)
        case a1 => unfold maxLen; omega
        case b1 => omega
        intro A5 c5 L5 w5 hL5 own5 hb5 _ _
        go_wp2
        go_roundw
        case rel => exact ⟨m + 1, A5, c5, L5, by omega, by go_num, rfl, Lib.hid (by rw [hL5.out]; exact Hcs.out L3 hL3.out), own5, hbw4.trans hb5⟩
        case measure => simp [intOf]; omega
      · have hli : ¬ (L.length : Int) ≤ (n : Int) := by omega
        clear q0 q1 q2
        go_wp2
        go_ret
        exact ⟨A2, c2, L, rfl, Lib.hid (hL.out.all (.inr (by omega))), own.lower hss, Hhal.out.trans (hb.mono Hhal.out.size)⟩
    · have hmi : ¬ (m : Int) < (ps.length : Int) := by omega
      clear q0 q1 q2
      go_wp2
      go_ret
      exact ⟨A2, c2, L, rfl, Lib.hid (hL.out.all (.inl (by omega))), own.lower hss, Hhal.out.trans (hb.mono Hhal.out.size)⟩
end Go.Proofs.YtihhgmpanfboaaaGreatDoor
