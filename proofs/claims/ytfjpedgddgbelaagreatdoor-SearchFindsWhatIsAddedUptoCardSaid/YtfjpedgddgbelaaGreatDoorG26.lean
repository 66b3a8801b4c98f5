/-
  Contracts and plain facts, one after another: index.Remove: what it computes; plain; slices.Delete on ints that the call owns; index.Remove.
-/
import Derived.Test.YtfjpedgddgbelaaGreatDoorG17
import Derived.Test.YtfjpedgddgbelaaGreatDoorG25
import Derived.Test.YtfjpedgddgbelaaGreatDoorG6
import Derived.Test.YtfjpedgddgbelaaGreatDoorIxAd
import Derived.Outline
import Derived.Deep.QuietTactic
import Derived.BigQuiet
import Derived.RegionTactic
import Derived.ChangeAlike
namespace Go.Proofs.YtfjpedgddgbelaaGreatDoor
open Go.RowKit
set_option linter.unusedVariables false
namespace Ix
def removeR (x : Idx) (id : Int) : Idx × Int × Int :=
  if (indexF x).1 ≠ 0 then (([], []), indexF x)
  else if id ∈ x.1 then (removeF x id, 0, 0) else (([], []), 6, -3)
/-- one term without a text -/
def cutT (id : Int) (t : Term) : Term := (t.1, t.2.filter fun p => !(p.1 == id))
theorem removeT_eq (id : Int) (ts : List Term) : removeT id ts = (ts.map (cutT id)).filter fun t => !(t.2.length == 0) := rfl
end Ix
theorem erase_countP {id : Int} : ∀ {ids : List Int}, ids.Pairwise (· < ·) → id ∈ ids → ids.countP (· < id) < ids.length ∧ ids.eraseIdx (ids.countP (· < id)) = ids.filter fun n => !(n == id)
  | [], _, h => by cases h
  | n :: r, hp, h => by
    rw [List.pairwise_cons] at hp
    by_cases e : n = id
    · subst e
      have h0 : r.countP (· < n) = 0 := List.countP_eq_zero.2 fun m hm => by have := hp.1 m hm; simp; omega
      rw [List.countP_cons_of_neg (by simp), h0, List.filter_cons_of_neg (by simp)]
      refine ⟨by simp, ?_⟩
      exact (List.filter_eq_self.2 fun m hm => by have := hp.1 m hm; simp; omega).symm
    · have hm : id ∈ r := by rcases List.mem_cons.1 h with h | h; · exact absurd h.symm e
                             · exact h
      have hlt := hp.1 id hm
      have ih := erase_countP hp.2 hm
      rw [List.countP_cons_of_pos (by simpa using hlt), List.filter_cons_of_pos (by simpa using e), List.eraseIdx_cons_succ, ih.2]
      exact ⟨by rw [List.length_cons]; omega, rfl⟩
/-- behind k rounds -/
def CutAt (id : Int) (ts : List Ix.Term) (X : List RTerm) (k : Nat) : Prop := X.map pt = (ts.take k).map (Ix.cutT id) ++ ts.drop k
theorem CutAt.len {id : Int} {ts : List Ix.Term} {X : List RTerm} {k : Nat} (h : CutAt id ts X k) : X.length = ts.length := by
  have := congrArg List.length h
  rw [List.length_map, List.length_append, List.length_map, List.length_take, List.length_drop] at this
  omega
theorem CutAt.keys {id : Int} {ts : List Ix.Term} {X : List RTerm} {k : Nat} (h : CutAt id ts X k) : X.map (fun t => t.1) = ts.map fun t => t.1 := by
  have h1 := congrArg (List.map fun t : Ix.Term => t.1) h
  rw [List.map_map, List.map_append, List.map_map] at h1
  have h2 : (ts.take k).map ((fun t : Ix.Term => t.1) ∘ Ix.cutT id) = (ts.take k).map fun t => t.1 := rfl
  rw [h2, ← List.map_append, List.take_append_drop] at h1
  exact h1
theorem CutAt.alone {id : Int} {ts : List Ix.Term} {X : List RTerm} {k : Nat} (h : CutAt id ts X k) (hs : Al.Sorted ltS ts) {i : Nat} (hi : i < X.length) : ∀ (j : Nat) (hj : j < X.length), X[j].1 = X[i].1 → j = i := by
  intro j hj e
  have hk := h.keys
  have get : ∀ (m : Nat) (hm : m < X.length), ∃ hm' : m < ts.length, X[m].1 = ts[m].1 := fun m hm => by
    have hm' : m < ts.length := by rw [← h.len]; exact hm
    refine ⟨hm', ?_⟩
    have h1 : (X.map fun t => t.1)[m]'(by simpa using hm) = (ts.map fun t => t.1)[m]'(by simpa using hm') := by simp only [hk]
    simpa using h1
  obtain ⟨hj', e1⟩ := get j hj
  obtain ⟨hi', e2⟩ := get i hi
  rw [e1, e2] at e
  have hp := List.pairwise_iff_getElem.1 hs
  rcases Nat.lt_trichotomy j i with hlt | rfl | hlt
  · exact absurd e (tot_str.ne (hp j i hj' hi' hlt))
  · rfl
  · exact absurd e.symm (tot_str.ne (hp i j hi' hj' hlt))
theorem CutAt.at_ {id : Int} {ts : List Ix.Term} {X : List RTerm} {k : Nat} (h : CutAt id ts X k) (hk : k < X.length) (hk' : k < ts.length) : pt X[k] = ts[k] := by
  have h1 : (X.map pt)[k]'(by simpa using hk) = ((ts.take k).map (Ix.cutT id) ++ ts.drop k)[k]'(by rw [← (show X.map pt = _ from h)]; simpa using hk) := by simp only [show X.map pt = _ from h]
  rw [List.getElem_map, List.getElem_append_right (by rw [List.length_map, List.length_take]; omega), List.getElem_drop] at h1
  rw [h1]
  congr 1
  rw [List.length_map, List.length_take]; omega
theorem rp_filter (id : Int) (ps : List RPost) : (ps.map rp).filter (fun r => !(r.1 == id)) = (ps.filter fun p => !(p.1 == id)).map rp := by rw [List.filter_map]; rfl
theorem pp_filter (id : Int) (ps : List RPost) : (ps.filter fun p => !(p.1 == id)).map pp = (ps.map pp).filter fun p => !(p.1 == id) := by rw [List.filter_map]; rfl
theorem CutAt.step {id : Int} {ts : List Ix.Term} {X : List RTerm} {k : Nat} (h : CutAt id ts X k) (hk : k < X.length) (tv : Value) : CutAt id ts (X.set k (X[k].1, tv, X[k].2.2.filter fun p => !(p.1 == id))) (k + 1) := by
  have hk' : k < ts.length := by rw [← h.len]; exact hk
  have ha := h.at_ hk hk'
  unfold CutAt at h ⊢
  rw [List.map_set, h, List.take_succ_eq_append_getElem hk', List.map_append, List.set_append_right _ _ (by rw [List.length_map, List.length_take]; omega), List.length_map, List.length_take, Nat.min_eq_left (by omega), Nat.sub_self, List.drop_eq_getElem_cons hk', List.set_cons_zero, List.append_assoc]
  congr 2
  rw [← ha]
  unfold pt Ix.cutT
  simp only [pp_filter]
theorem CutAt.fin {id : Int} {ts : List Ix.Term} {X : List RTerm} (h : CutAt id ts X ts.length) : (X.filter fun t => !(t.2.2.length == 0)).map pt = Ix.removeT id ts := by
  unfold CutAt at h
  rw [List.take_length, List.drop_length, List.append_nil] at h
  rw [Ix.removeT_eq, ← h, List.filter_map]
  congr 1
  refine List.filter_congr fun t _ => ?_
  simp [pt]
end Go.Proofs.YtfjpedgddgbelaaGreatDoor
namespace Go.Proofs.YtfjpedgddgbelaaGreatDoor
open Go.RowKit
set_option linter.unusedVariables false

set_option maxHeartbeats 4000000 in
theorem deleteInt_ok (M : Nat → Prop) (v : Value) (l : List _) (i B : Nat) (w : World) (hown : Own intC M w B 3 v l) (hi : i < l.length) :
    Calls Tryz.prog 60 #[v, .int .i64 (i : Int), .int .i64 ((i : Int) + 1)] w fun e w' => ∃ v', e = .returned v' ∧ Own intC M w' B 3 v' (l.eraseIdx i) ∧ w.grownBy w' v.ownBlock ∧ v'.ownBlock = v.ownBlock := by
  obtain ⟨g, c, cur, rfl, hlc, hcm, hBg, hblk, hsz⟩ := hown.blk (by omega)
  unfold maxLen at hcm
  obtain ⟨m, hm⟩ : ∃ m, l.length = m + 1 := ⟨l.length - 1, by omega⟩
  have hxs := hown.cells hblk
  rw [hm] at hlc hi hxs ⊢
  have Hm := Lib.hid hm
  clear hm
  obtain ⟨htk, hels0⟩ := hxs
  have hels : Els intC (fun b => M b ∨ b = g) w.drew _ l := hels0.ext (below_drewN' _ w 1)
  replace hblk : Blk w.drew g 3 cur := hblk
  clear hels0
  have hgl := hblk.lt
  have hsz' : cur.size = c * 1 := hsz
  have hk2 : (m + 1) * 1 ≤ cur.size := by rw [hsz']; exact Nat.mul_le_mul_right _ hlc
  have hk1 : (i + 1) * 1 ≤ (m + 1) * 1 := Nat.mul_le_mul_right _ hi
  obtain ⟨xs, hxs⟩ : ∃ xs, xs = cur.toList.take ((m + 1) * 1) := ⟨_, rfl⟩
  have hxl : xs.length = (m + 1) * 1 := by rw [hxs, List.length_take, Array.length_toList]; omega
  have hxcell : ∀ (j : Nat) (u : Value), xs[j]? = some u → w.drew.cell? ⟨g, j, none⟩ = some u := fun j u hu => by
    rw [hblk.cell]
    rw [hxs, List.getElem?_take] at hu
    split at hu
    · simpa using hu
    · cases hu
  have hcn : intC.n = 1 := rfl
  rw [hcn, ← hxs] at hels
  have hone := hels.one
  have hnl : (xs.drop ((i + 1) * 1)).length = (m - i) * 1 := by rw [List.length_drop, hxl, ← Nat.sub_mul]; congr 1; omega
  have hsum : i * 1 + (m - i) * 1 = m * 1 := by rw [← Nat.add_mul]; congr 1; omega
  have hrun : ∀ A, (0 < m - i → A = some ⟨g, (i + 1) * 1, none⟩) → (Builtin.append_ #[22, 22] 22 #[.slice (some ⟨g, 0, none⟩) i c, .slice A (m - i) (c - (i + 1))]).run Tryz.prog w.drew = .ok (.slice (some ⟨g, 0, none⟩) m c) (w.drew.setRow g (splice cur.toList (i * 1) (xs.drop ((i + 1) * 1))).toArray) := fun A hA => by
    have h1 := run_append_in (P := Tryz.prog) TInts 22 hblk A (m - i) (c - (i + 1)) (n := i) (c := c) (xs.drop ((i + 1) * 1)) hnl (fun h0 => ⟨_, hA h0, fun j u hu => by
      rw [add_zero_lit]; rw [List.getElem?_drop] at hu; exact hxcell _ _ hu⟩) (fun u hu => hone u (List.mem_of_mem_drop hu)) (by omega) (by rw [hnl, hsum]; omega)
    rw [show i + (m - i) = m by omega] at h1
    exact h1
  obtain ⟨w1, hw1⟩ : ∃ w1, w1 = w.drew.setRow g (splice cur.toList (i * 1) (xs.drop ((i + 1) * 1))).toArray := ⟨_, rfl⟩
  rw [← hw1] at hrun
  have hblk1 : Blk w1 g 3 (splice cur.toList (i * 1) (xs.drop ((i + 1) * 1))).toArray := hw1 ▸ hblk.setRow
  have hlen1 : (splice cur.toList (i * 1) (xs.drop ((i + 1) * 1))).length = cur.size := by rw [length_splice, Array.length_toList]; rw [hnl, hsum, Array.length_toList]; omega
  obtain ⟨zs, hzl, hclr⟩ := run_clear_in (P := Tryz.prog) TInts hblk1 (o := m * 1) 1 (c - m) (by omega) (by omega) oneInt (by rw [List.size_toArray, hlen1]; omega)
  obtain ⟨w2, hw2⟩ : ∃ w2, w2 = w1.setRow g (splice (splice cur.toList (i * 1) (xs.drop ((i + 1) * 1))).toArray.toList (m * 1) zs).toArray := ⟨_, rfl⟩
  rw [← hw2] at hclr
  have hblk2 : Blk w2 g 3 (splice (splice cur.toList (i * 1) (xs.drop ((i + 1) * 1))) (m * 1) zs).toArray := hw2 ▸ hblk1.setRow
  have hgr : w.grownBy w2 (some g) := by
    rw [hw2, hw1]
    exact ⟨rfl, rfl, rfl, by simp [World.setRow], fun k _ hne => (setRow_other _ _ _ _ (fun e => hne (by rw [e]))).trans (setRow_other _ _ _ _ (fun e => hne (by rw [e])))⟩
  have hfin : Own intC M w2 B 3 (.slice (some ⟨g, 0, none⟩) m c) (l.eraseIdx i) := by
    have hlen : (l.eraseIdx i).length = m := by rw [List.length_eraseIdx, if_pos (by have := Hm.out; omega)]; have := Hm.out; omega
    have hel : Els intC (fun b => M b ∨ b = g) w.drew (xs.take (i * 1) ++ xs.drop ((i + 1) * 1)) (l.eraseIdx i) := by
      rw [List.eraseIdx_eq_take_drop_succ]
      exact (hels.take i).append (hels.drop (i + 1))
    refine Own.mk_row hblk2 hBg ?_ hlen (by omega) hcm (hel.keep (fun b hb hn => hgr.block b hb fun e => hn (.inr (by injection e))) hgr.size) ?_
    · rw [List.size_toArray, length_splice]
      · rw [hlen1]; exact hsz
      · rw [hzl, hlen1]; omega
    · rw [List.toList_toArray]
      show (splice (splice cur.toList (i * 1) (xs.drop ((i + 1) * 1))) (m * 1) zs).take (m * 1) = _
      have e1 : (xs.take (i * 1)) = cur.toList.take (i * 1) := by rw [hxs, List.take_take, Nat.min_eq_left (by omega)]
      have h3 : (cur.toList.take (i * 1)).length = i * 1 := by rw [List.length_take, Array.length_toList]; omega
      rw [e1, splice, List.take_append_of_le_length (by rw [List.length_take, hlen1]; omega), List.take_take, Nat.min_self, splice, ← List.append_assoc, List.take_append_of_le_length (by rw [List.length_append, h3, hnl]; omega), List.take_of_length_le (by rw [List.length_append, h3, hnl]; omega)]
  simp only [Nat.mul_one] at hrun hclr
  have Hrun := Lib.hid hrun; have Hclr := Lib.hid hclr; have Hfin := Lib.hid hfin; have Hgr := Lib.hid hgr
  have j1 : ¬ m + 1 = i := by omega
  have j2 : (i : Int) + 1 ≤ (m : Int) + 1 := by omega
  have j3 : (m : Int) + 1 ≤ (c : Int) := by omega
  have j4 : ((i : Int) == (i : Int) + 1) = false := by simp; omega
  have j5 : i ≤ c := by omega
  have j6 : i + 1 ≤ c := by omega
  have j7 : i + 1 ≤ m + 1 := by omega
  have j8 : ¬ c = m := by omega
  clear hrun hclr hfin hgr hw1 hw2 hblk hblk1 hblk2 hels hone hxcell hxl hxs hnl hsum hsz hsz' hk1 hk2 hlen1 hzl htk hown
  have j9 : (i : Int) ≤ (i : Int) + 1 := by omega
  by_cases hc : c = i + 1
  · obtain rfl : i = m := by omega
    subst hc
    go_enter Tryz.func60, Tryz.ntmps60
    go_wp2
    refine wp_region_D (fun _ => True) (fun _ => false) (by kernel_rfl) ?_
    refine anyD_light (i := 0) (v := ?_) rfl (by kernel_rfl) (by kernel_rfl) (by kernel_rfl) (by kernel_rfl) (by kernel_rfl) (fun _ _ _ h => h) (.inl ⟨rfl, fun W' _ => ?_⟩) (S := fun _ => True) trivial ?_
    rotate_left
    · (go_simp; rfl)
    go_simp
    refine anyD_light (i := 1) (v := ?_) rfl (by kernel_rfl) (by kernel_rfl) (by kernel_rfl) (by kernel_rfl) (by kernel_rfl) (fun _ _ _ h => h) (.inl ⟨rfl, fun W' _ => ?_⟩) (S := fun _ => True) trivial ?_
    rotate_left
    · (go_simp; rfl)
    go_simp
    refine anyD_light (i := 3) (v := ?_) rfl (by kernel_rfl) (by kernel_rfl) (by kernel_rfl) (by kernel_rfl) (by kernel_rfl) (fun _ _ _ h => h) (.inl ⟨rfl, fun W' _ => ?_⟩) (S := fun _ => True) trivial ?_
    rotate_left
    · (go_simp; rfl)
    go_simp
    refine anyD_light (i := 4) (v := ?_) rfl (by kernel_rfl) (by kernel_rfl) (by kernel_rfl) (by kernel_rfl) (by kernel_rfl) (fun _ _ _ h => h) (.inl ⟨rfl, fun W' _ => ?_⟩) (S := fun _ => True) trivial ?_
    rotate_left
    · (go_simp; rfl)
    go_simp
    refine anyD_light (i := 2) (v := ?_) rfl (by kernel_rfl) (by kernel_rfl) (by kernel_rfl) (by kernel_rfl) (by kernel_rfl) (fun _ _ _ h => h) (.inl ⟨rfl, fun W' _ => ?_⟩) (S := fun _ => True) trivial ?_
    rotate_left
    · (go_simp; rfl)
    go_simp
    refine anyD_light (i := 5) (v := ?_) rfl (by kernel_rfl) (by kernel_rfl) (by kernel_rfl) (by kernel_rfl) (by kernel_rfl) (fun _ _ _ h => h) (.inl ⟨rfl, fun W' _ => ?_⟩) (S := fun _ => True) trivial ?_
    rotate_left
    · (go_simp; rfl)
    go_simp
    refine anyD_one (i := 6) (by kernel_rfl) rfl rfl (fun K hK => ?_)
    have HK := Lib.hid hK
    clear hK
    have hr := Hrun.out (some ⟨g, 0, none⟩) (fun h => absurd h (by omega))
    simp only [Nat.sub_self] at hr
    refine wp_append_run (.tmp 22) (.tmp 25) rfl (vx := .slice (some ⟨g, 0, none⟩) i (i + 1)) (vy := .slice (some ⟨g, 0, none⟩) 0 0) rfl rfl hr ?_
    clear hr
    refine HK.out _ _ (fun _ => trivial) ?_
    clear HK
    go_simp
    refine anyD_light (i := 7) (v := ?_) rfl (by kernel_rfl) (by kernel_rfl) (by kernel_rfl) (by kernel_rfl) (by kernel_rfl) (fun _ _ _ h => h) (.inl ⟨rfl, fun W' _ => ?_⟩) (S := fun _ => True) trivial ?_
    rotate_left
    · (go_simp; rfl)
    go_simp
    refine anyD_done (by kernel_rfl) ?_ _
    go_simp
    have hcl := Hclr.out
    simp only [Nat.add_sub_cancel_left] at hcl
    go_wp2
    go_ret
    exact ⟨_, rfl, Hfin.out, Hgr.out, rfl⟩
  · go_enter Tryz.func60, Tryz.ntmps60
    go_wp2
    refine wp_region_D (fun _ => True) (fun _ => false) (by kernel_rfl) ?_
    refine anyD_light (i := 0) (v := ?_) rfl (by kernel_rfl) (by kernel_rfl) (by kernel_rfl) (by kernel_rfl) (by kernel_rfl) (fun _ _ _ h => h) (.inl ⟨rfl, fun W' _ => ?_⟩) (S := fun _ => True) trivial ?_
    rotate_left
    · (go_simp; rfl)
    go_simp
    refine anyD_light (i := 1) (v := ?_) rfl (by kernel_rfl) (by kernel_rfl) (by kernel_rfl) (by kernel_rfl) (by kernel_rfl) (fun _ _ _ h => h) (.inl ⟨rfl, fun W' _ => ?_⟩) (S := fun _ => True) trivial ?_
    rotate_left
    · (go_simp; rfl)
    go_simp
    refine anyD_light (i := 3) (v := ?_) rfl (by kernel_rfl) (by kernel_rfl) (by kernel_rfl) (by kernel_rfl) (by kernel_rfl) (fun _ _ _ h => h) (.inl ⟨rfl, fun W' _ => ?_⟩) (S := fun _ => True) trivial ?_
    rotate_left
    · (go_simp; rfl)
    go_simp
    refine anyD_light (i := 4) (v := ?_) rfl (by kernel_rfl) (by kernel_rfl) (by kernel_rfl) (by kernel_rfl) (by kernel_rfl) (fun _ _ _ h => h) (.inl ⟨rfl, fun W' _ => ?_⟩) (S := fun _ => True) trivial ?_
    rotate_left
    · (go_simp; rfl)
    go_simp
    refine anyD_light (i := 2) (v := ?_) rfl (by kernel_rfl) (by kernel_rfl) (by kernel_rfl) (by kernel_rfl) (by kernel_rfl) (fun _ _ _ h => h) (.inl ⟨rfl, fun W' _ => ?_⟩) (S := fun _ => True) trivial ?_
    rotate_left
    · (go_simp; rfl)
    go_simp
    refine anyD_light (i := 5) (v := ?_) rfl (by kernel_rfl) (by kernel_rfl) (by kernel_rfl) (by kernel_rfl) (by kernel_rfl) (fun _ _ _ h => h) (.inl ⟨rfl, fun W' _ => ?_⟩) (S := fun _ => True) trivial ?_
    rotate_left
    · (go_simp; rfl)
    go_simp
    refine anyD_one (i := 6) (by kernel_rfl) rfl rfl (fun K hK => ?_)
    have HK := Lib.hid hK
    clear hK
    have hr := Hrun.out (some ⟨g, i + 1, none⟩) (fun _ => rfl)
    refine wp_append_run (.tmp 22) (.tmp 25) rfl (vx := .slice (some ⟨g, 0, none⟩) i c) (vy := .slice (some ⟨g, i + 1, none⟩) (m - i) (c - (i + 1))) rfl rfl hr ?_
    clear hr
    refine HK.out _ _ (fun _ => trivial) ?_
    clear HK
    go_simp
    refine anyD_light (i := 7) (v := ?_) rfl (by kernel_rfl) (by kernel_rfl) (by kernel_rfl) (by kernel_rfl) (by kernel_rfl) (fun _ _ _ h => h) (.inl ⟨rfl, fun W' _ => ?_⟩) (S := fun _ => True) trivial ?_
    rotate_left
    · (go_simp; rfl)
    go_simp
    refine anyD_done (by kernel_rfl) ?_ _
    go_simp
    have hcl := Hclr.out
    go_wp2
    go_ret
    exact ⟨_, rfl, Hfin.out, Hgr.out, rfl⟩

end Go.Proofs.YtfjpedgddgbelaaGreatDoor
namespace Go.Proofs.YtfjpedgddgbelaaGreatDoor
open Go.RowKit
set_option linter.unusedVariables false
theorem four_new (w : World) (a b : Value) (t : TypeId) (x : Value) (ti : TypeId) (c d : Value) (t' : TypeId) (e f : Value) (t'' : TypeId) : ∃ W g3 gi g6 g7, (((w.alloc (.cells #[a, b] t)).alloc (.cells #[x] ti)).alloc (.cells #[c, d] t')).alloc (.cells #[e, f] t'') = W ∧ w.heap.size = g3 ∧ g3 + 1 = gi ∧ gi + 1 = g6 ∧ g6 + 1 = g7 ∧ W.heap.size = w.heap.size + 4 ∧ Below w.heap.size w W ∧ Blk W g3 t #[a, b] ∧ Blk W gi ti #[x] ∧ Blk W g6 t' #[c, d] ∧ Blk W g7 t'' #[e, f] := by
  have hb0 := (Below.refl w.heap.size w).alloc (Nat.le_refl _) (.cells #[a, b] t)
  have hb1 := hb0.alloc hb0.size (.cells #[x] ti)
  have hb2 := hb1.alloc hb1.size (.cells #[c, d] t')
  have k1 := Blk.new (w.alloc (.cells #[a, b] t)) ti #[x]
  have k2 := Blk.new ((w.alloc (.cells #[a, b] t)).alloc (.cells #[x] ti)) t' #[c, d]
  have k3 := Blk.new (((w.alloc (.cells #[a, b] t)).alloc (.cells #[x] ti)).alloc (.cells #[c, d] t')) t'' #[e, f]
  have s : ∀ (V : World) (ob : Obj), (V.alloc ob).heap.size = V.heap.size + 1 := fun V ob => by simp
  rw [s] at k1
  rw [s, s] at k2
  rw [s, s, s] at k3
  exact ⟨_, _, _, _, _, rfl, rfl, rfl, rfl, rfl, by simp, hb2.alloc hb2.size _, (((Blk.new w t _).alloc _).alloc _).alloc _, (k1.alloc _).alloc _, k2.alloc _, k3⟩
/-- what Remove answers -/
def RemAt (x : Ix.Idx) (id : Int) (w : World) (e : Ending) (w' : World) : Prop :=
  ∃ a' b', e = .returned (.tuple #[.agg #[a', b'], .agg #[.int .i64 (Ix.removeR x id).2.1, .int .i64 (Ix.removeR x id).2.2]]) ∧ SlR intC M0 w' a' (Ix.removeR x id).1.1 ∧ SlR termC M0 w' b' (Ix.removeR x id).1.2 ∧ Below w.heap.size w w'

set_option maxRecDepth 20000 in
set_option maxHeartbeats 8000000 in
theorem remove_ok (a b : Value) (ids : List Int) (ts : List Ix.Term) (id : Int) (w : World) (h0 : SlR intC M0 w a ids) (h1 : SlR termC M0 w b ts) (hsz : SzIx ts) :
    Calls Tryz.prog 16 #[.agg #[a, b], .int .i64 id] w (RemAt (ids, ts) id w) := by
  obtain ⟨A0, c0, rfl, _, _⟩ := h0.form
  obtain ⟨A1, c1, rfl, _, _⟩ := h1.form
  obtain ⟨W, g3, gi, g6, g7, hW, hg3, hgi, hg6, hg7, hs, hal, k3, ki, k6, k7⟩ := four_new w (.slice A0 ids.length c0) (.slice A1 ts.length c1) 25 (.int .i64 id) 3 (.slice none 0 0) (.slice none 0 0) 25 (.int .i64 0) (.int .i64 0) 27
  have hval := validate_ok (.slice A0 ids.length c0) (.slice A1 ts.length c1) ids ts W (h0.ext hal) (h1.ext hal) hsz
  obtain ⟨fa, fb, hf⟩ : ∃ fa fb, Ix.indexF (ids, ts) = (fa, fb) := ⟨_, _, rfl⟩
  rw [hf] at hval
  have hfl := fun a b W => failed_ok a b W
  have hfc := fun a b W => fault_ok a b W
  obtain ⟨q0, q1, _, _, _⟩ := k3.two
  rw [← hW, ← hg3] at q0 q1
  have HW := Lib.hid hW; have Hg := Lib.hid (And.intro hg3 (And.intro hgi (And.intro hg6 (And.intro hg7 hs)))); have Hval := Lib.hid hval; have Hfl := Lib.hid hfl; have Hfc := Lib.hid hfc
  have H01 := Lib.hid (And.intro h0 h1)
  clear hW hg3 hgi hg6 hg7 hs hval hfl hfc h0 h1 hsz
  by_cases hfa : fa ≠ 0
  · have hR : Ix.removeR (ids, ts) id = (([], []), fa, fb) := by unfold Ix.removeR; rw [if_pos (by rw [hf]; exact hfa), hf]
    unfold RemAt
    rw [hR]
    have hfb : (fa != 0) = true := by simpa using hfa
    clear hf hR hfa
    go_enter Tryz.func16, Tryz.ntmps16
    go_wp2_with fail
    rw [HW.out, Hg.out.1, Hg.out.2.1, Hg.out.2.2.1, Hg.out.2.2.2.1]
    refine Hval.out.mono ?_
    rintro e w1 ⟨rfl, hb1⟩
    clear q0 q1 Hval HW
    replace k3 := k3.ext hb1
    replace ki := ki.ext hb1
    replace k6 := k6.ext hb1
    replace k7 := k7.ext hb1
    replace hal := hal.trans (hb1.mono hal.size)
    clear hb1
    obtain ⟨g8, V1, hg8, hV1, kf, hb11⟩ := one_new w1 (.int .i64 fa) (.int .i64 fb) 27
    have H8 : Hid (g7 < g8) := Lib.hid (by have := k7.lt; omega)
    replace k3 := k3.ext hb11
    replace ki := ki.ext hb11
    replace k6 := k6.ext hb11
    replace k7 := k7.ext hb11
    replace hal := hal.trans (hb11.mono hal.size)
    clear hb11
    obtain ⟨f0, f1, _, _, _⟩ := kf.two
    go_wp2_with fail
    clear hV1 hg8 f0 f1
    refine (Hfl.out fa fb V1).mono ?_
    rintro e w2 ⟨rfl, hb2⟩
    replace k3 := k3.ext hb2
    replace ki := ki.ext hb2
    replace k6 := k6.ext hb2
    replace k7 := k7.ext hb2
    replace kf := kf.ext hb2
    replace hal := hal.trans (hb2.mono hal.size)
    clear hb2
    have hn86 : ¬ g8 = g6 := by have := Hg.out; have := H8.out; omega
    have hn87 : ¬ g8 = g7 := by have := Hg.out; have := H8.out; omega
    have hn76 : ¬ g7 = g6 := by have := Hg.out; omega
    have hn67 : ¬ g6 = g7 := by have := Hg.out; omega
    obtain ⟨f0, f1, _, _, _⟩ := kf.two
    obtain ⟨u0, u1, u2, u3, _⟩ := k6.two
    obtain ⟨v0, v1, v2, v3, _⟩ := k7.two
    have Hbe := Lib.hid hal; have Hk6 := Lib.hid k6; have Hk7 := Lib.hid k7
    clear hal k3 kf k6 k7
    go_wp2_with fail
    go_region
    go_wp2
    obtain ⟨W9, hW9⟩ : ∃ W9, (((w2.setCell ⟨g6, 0, none⟩ (.slice none 0 0)).setCell ⟨g6, 1, none⟩ (.slice none 0 0)).setCell ⟨g7, 0, none⟩ (.int .i64 fa)).setCell ⟨g7, 1, none⟩ (.int .i64 fb) = W9 := ⟨_, rfl⟩
    have hbe := below_put4 (w := w) Hbe.out (by have := Hg.out; omega) (by have := Hg.out; omega) _ _ _ _ hW9
    obtain ⟨p6, p7, _⟩ := put4 Hk6.out Hk7.out (by have := Hg.out; omega) _ _ _ _ hW9
    rw [hW9]
    obtain ⟨e0, e1, _⟩ := (show Blk W9.drew g6 _ _ from p6).two
    obtain ⟨e2, e3, _⟩ := (show Blk W9.drew g7 _ _ from p7).two
    refine bodyPost_ret (v := .tuple #[.agg #[.slice none 0 0, .slice none 0 0], .agg #[.int .i64 fa, .int .i64 fb]]) (by simp [results, Tryz.results16, go_sem, e0, e1, e2, e3]) rfl ?_
    exact ⟨_, _, rfl, SlR.nil _ _ _, SlR.nil _ _ _, below_drew hbe⟩
  have hf0 : fa = 0 := by simpa using hfa
  have hfb : (fa != 0) = false := by simpa using hfa
  have hcan := (Ix.indexF_zero (ids, ts)).1 (by rw [hf]; exact hf0)
  have hz : ¬ (Ix.indexF (ids, ts)).1 ≠ 0 := by rw [hf]; exact hfa
  clear hfa hf hf0
  have hhs := fun W' (hb : Below w.heap.size w W') => has_ok (.slice A0 ids.length c0) (.slice A1 ts.length c1) ids id W' (H01.out.1.ext hb) hcan.ids (by have := hcan.few; dsimp only at this; omega)
  obtain ⟨n0, hn0⟩ : ∃ n0, ids.countP (· < id) = n0 := ⟨_, rfl⟩
  simp only [hn0] at hhs
  have Hhs := Lib.hid hhs; have Hcan := Lib.hid hcan; have Hn0 := Lib.hid hn0
  clear hhs hcan hn0
  by_cases hc : id ∈ ids
  case neg =>
    have hR : Ix.removeR (ids, ts) id = (([], []), 6, -3) := by unfold Ix.removeR; rw [if_neg hz, if_neg hc]
    unfold RemAt
    rw [hR]
    have hd3 : decide (id ∈ ids) = false := by simpa using hc
    clear hz hR hc
    go_enter Tryz.func16, Tryz.ntmps16
    go_wp2_with fail
    rw [HW.out, Hg.out.1, Hg.out.2.1, Hg.out.2.2.1, Hg.out.2.2.2.1]
    refine Hval.out.mono ?_
    rintro e w1 ⟨rfl, hb1⟩
    clear q0 q1 Hval HW
    replace k3 := k3.ext hb1
    replace ki := ki.ext hb1
    replace k6 := k6.ext hb1
    replace k7 := k7.ext hb1
    replace hal := hal.trans (hb1.mono hal.size)
    clear hb1
    obtain ⟨g8, V1, hg8, hV1, kf, hb11⟩ := one_new w1 (.int .i64 fa) (.int .i64 fb) 27
    have H8 : Hid (g7 < g8) := Lib.hid (by have := k7.lt; omega)
    replace k3 := k3.ext hb11
    replace ki := ki.ext hb11
    replace k6 := k6.ext hb11
    replace k7 := k7.ext hb11
    replace hal := hal.trans (hb11.mono hal.size)
    clear hb11
    obtain ⟨f0, f1, _, _, _⟩ := kf.two
    go_wp2_with fail
    clear hV1 hg8 f0 f1
    refine (Hfl.out fa fb V1).mono ?_
    rintro e w2 ⟨rfl, hb2⟩
    replace k3 := k3.ext hb2
    replace ki := ki.ext hb2
    replace k6 := k6.ext hb2
    replace k7 := k7.ext hb2
    replace kf := kf.ext hb2
    replace hal := hal.trans (hb2.mono hal.size)
    clear hb2
    clear kf
    obtain ⟨t0, t1, _, _, _⟩ := k3.two
    have i0 : w2.cell? ⟨gi, 0, none⟩ = some (.int .i64 id) := by rw [ki.cell]; rfl
    go_wp2_with fail
    clear t0 t1 i0
    refine (Hhs.out w2 hal).mono ?_
    rintro e w5 ⟨rfl, hb5⟩
    replace k3 := k3.ext hb5
    replace ki := ki.ext hb5
    replace k6 := k6.ext hb5
    replace k7 := k7.ext hb5
    replace hal := hal.trans (hb5.mono hal.size)
    clear hb5
    go_wp2_with fail
    refine (Hfc.out 6 (-3) _).mono ?_
    rintro e w9 ⟨rfl, hb9⟩
    replace k3 := k3.ext hb9
    replace ki := ki.ext hb9
    replace k6 := k6.ext hb9
    replace k7 := k7.ext hb9
    replace hal := hal.trans (hb9.mono hal.size)
    clear hb9
    obtain ⟨u0, u1, u2, u3, _⟩ := k6.two
    have hne : g7 ≠ g6 := by have := Hg.out; omega
    obtain ⟨v0, v1, v2, v3, _⟩ := ((k7.far (p := ⟨g6, 0, none⟩) hne (.slice none 0 0)).far (p := ⟨g6, 1, none⟩) hne (.slice none 0 0)).two
    have Hbe := Lib.hid hal; have Hk6 := Lib.hid k6; have Hk7 := Lib.hid k7
    clear hal k3 k6 k7 hne
    go_wp2
    obtain ⟨W9, hW9⟩ : ∃ W9, (((w9.setCell ⟨g6, 0, none⟩ (.slice none 0 0)).setCell ⟨g6, 1, none⟩ (.slice none 0 0)).setCell ⟨g7, 0, none⟩ (.int .i64 6)).setCell ⟨g7, 1, none⟩ (.int .i64 (-3)) = W9 := ⟨_, rfl⟩
    have hbe := below_put4 (w := w) Hbe.out (by have := Hg.out; omega) (by have := Hg.out; omega) _ _ _ _ hW9
    obtain ⟨p6, p7, _⟩ := put4 Hk6.out Hk7.out (by have := Hg.out; omega) _ _ _ _ hW9
    rw [hW9]
    obtain ⟨e0, e1, _⟩ := (show Blk W9 g6 _ _ from p6).two
    obtain ⟨e2, e3, _⟩ := (show Blk W9 g7 _ _ from p7).two
    refine bodyPost_ret (v := .tuple #[.agg #[.slice none 0 0, .slice none 0 0], .agg #[.int .i64 6, .int .i64 (-3)]]) (by simp [results, Tryz.results16, go_sem, e0, e1, e2, e3]) rfl ?_
    exact ⟨_, _, rfl, SlR.nil _ _ _, SlR.nil _ _ _, hbe⟩
  case pos =>
    have hd3 : decide (id ∈ ids) = true := by simpa using hc
    have hdp := fun W' (hb : Below w.heap.size w W') => duplicate_ok (.slice A0 ids.length c0) (.slice A1 ts.length c1) ids ts W' (H01.out.1.ext hb) (H01.out.2.ext hb) Hcan.out.small
    have Hdp := Lib.hid hdp; have HR := Lib.hid (And.intro hz hc)
    have her := erase_countP (id := id) Hcan.out.ids hc
    dsimp only at her
    rw [Hn0.out] at her
    have Her := Lib.hid her
    have hnw : IntKind.i64.wrap ((n0 : Int) + 1) = (n0 : Int) + 1 := IntWalk.i64_in _ (by have := her.1; have := Hcan.out.few; dsimp only at this; omega)
    clear hdp hz hc her
    go_enter Tryz.func16, Tryz.ntmps16
    go_wp2_with fail
    rw [HW.out, Hg.out.1, Hg.out.2.1, Hg.out.2.2.1, Hg.out.2.2.2.1]
    refine Hval.out.mono ?_
    rintro e w1 ⟨rfl, hb1⟩
    clear q0 q1 Hval HW
    replace k3 := k3.ext hb1
    replace ki := ki.ext hb1
    replace k6 := k6.ext hb1
    replace k7 := k7.ext hb1
    replace hal := hal.trans (hb1.mono hal.size)
    clear hb1
    obtain ⟨g8, V1, hg8, hV1, kf, hb11⟩ := one_new w1 (.int .i64 fa) (.int .i64 fb) 27
    have H8 : Hid (g7 < g8) := Lib.hid (by have := k7.lt; omega)
    replace k3 := k3.ext hb11
    replace ki := ki.ext hb11
    replace k6 := k6.ext hb11
    replace k7 := k7.ext hb11
    replace hal := hal.trans (hb11.mono hal.size)
    clear hb11
    obtain ⟨f0, f1, _, _, _⟩ := kf.two
    go_wp2_with fail
    clear hV1 hg8 f0 f1
    refine (Hfl.out fa fb V1).mono ?_
    rintro e w2 ⟨rfl, hb2⟩
    replace k3 := k3.ext hb2
    replace ki := ki.ext hb2
    replace k6 := k6.ext hb2
    replace k7 := k7.ext hb2
    replace kf := kf.ext hb2
    replace hal := hal.trans (hb2.mono hal.size)
    clear hb2
    clear kf
    obtain ⟨t0, t1, _, _, _⟩ := k3.two
    have i0 : w2.cell? ⟨gi, 0, none⟩ = some (.int .i64 id) := by rw [ki.cell]; rfl
    go_wp2_with fail
    clear t0 t1 i0
    refine (Hhs.out w2 hal).mono ?_
    rintro e w5 ⟨rfl, hb5⟩
    replace k3 := k3.ext hb5
    replace ki := ki.ext hb5
    replace k6 := k6.ext hb5
    replace k7 := k7.ext hb5
    replace hal := hal.trans (hb5.mono hal.size)
    clear hb5
    obtain ⟨t0, t1, _, _, _⟩ := k3.two
    go_wp2_with fail
    clear t0 t1
    refine (Hdp.out w5 hal).mono ?_
    rintro e w6 ⟨a', b', o, X, rfl, hai, hano, hT, hX, hlo, hb6⟩
    obtain ⟨Aa, ca, rfl, _, _⟩ := hai.shape
    obtain ⟨Ab, cb, rfl, _, _⟩ := hT.row.shape
    have HX := Lib.hid hX
    obtain ⟨m, hm⟩ : ∃ m, (X.map rt).length = m := ⟨_, rfl⟩
    rw [hm] at hT ⊢
    have Hm := Lib.hid (And.intro hm (show m = ts.length by rw [← hm, ← hX]; simp))
    obtain ⟨W6, hW6⟩ : ∃ W6, (w6.setCell ⟨g3, 0, none⟩ (.slice Aa ids.length ca)).setCell ⟨g3, 1, none⟩ (.slice Ab m cb) = W6 := ⟨_, rfl⟩
    have hst := AddSt.start (w0 := w) (lv := .slice none 0 0) (L := []) hal hb6 k3 k6 k7 (Own.nil _ _ _ _ _) (fun g hg => by cases hg) hai hano hT hlo (by have := Hg.out; omega) (by have := Hg.out; omega) (by have := Hg.out; omega) hW6
    have hki : Blk W6 gi 3 #[.int .i64 id] := hW6 ▸ (((ki.ext hb6).far (p := ⟨g3, 0, none⟩) (by have := Hg.out; show gi ≠ g3; omega) _).far (p := ⟨g3, 1, none⟩) (by have := Hg.out; show gi ≠ g3; omega) _)
    have hio : o gi = .no := hlo gi ki.lt
    have hap : ∀ g, (Value.slice Aa ids.length ca).ownBlock = some g → gi ≠ g ∧ g6 ≠ g ∧ g7 ≠ g := fun g hg => by
      have h1 := hai.base g hg
      have h2 := k6.lt
      have h3 := k7.lt
      have h4 := ki.lt
      exact ⟨by omega, by omega, by omega⟩
    obtain ⟨t0, t1, t2, t3, _⟩ := (k3.ext hb6).two
    have hdel := deleteInt_ok M0 (.slice Aa ids.length ca) ids n0 w.heap.size W6 hst.ints Her.out.1
    rw [Her.out.2] at hdel
    obtain ⟨s0, s1, s2, s3, _⟩ := hst.k3.two
    have Hdel := Lib.hid hdel; have Hsto := Lib.hid (And.intro hst (And.intro hki (And.intro hio hap)))
    clear hdel hst hap hai hano hT hX hlo hb6 hal k3 ki k6 k7 hm hki hio
    go_wp2_with fail
    clear hW6 t0 t1 t2 t3 s0 s1 s2 s3
    refine Hdel.out.mono ?_
    rintro e w7 ⟨v', rfl, hown7, hgr, hor⟩
    obtain ⟨A7, c7, rfl, _, _⟩ := hown7.shape
    obtain ⟨ids', hids'⟩ : ∃ l, (ids.filter fun n => !(n == id)) = l := ⟨_, rfl⟩
    rw [hids'] at hown7 ⊢
    obtain ⟨W8, hW8⟩ : ∃ W8, w7.setCell ⟨g3, 0, none⟩ (.slice A7 ids'.length c7) = W8 := ⟨_, rfl⟩
    obtain ⟨hst, hki, hio, hap⟩ := Hsto.out
    have hst8 := hst.insert (Below.refl _ _) hgr hown7 (.inl (by rw [hids'] at hor; exact hor)) (fun g hg => ⟨(hap g hg).2.1, (hap g hg).2.2, fun b hb => by cases hb⟩) hW8
    have k37 : Blk w7 g3 25 #[.slice Aa ids.length ca, .slice Ab m cb] := hst.k3.keep (hgr.block g3 hst.k3.lt fun e => (hst.intno g3 e.symm).2.1 rfl)
    have ki8 : Blk W8 gi 3 #[.int .i64 id] := hW8 ▸ (Blk.far (hki.keep (hgr.block gi hki.lt fun e => (hap gi e.symm).1 rfl)) (p := ⟨g3, 0, none⟩) (by have := Hg.out; show gi ≠ g3; omega) _)
    obtain ⟨t0, t1, t2, t3, _⟩ := k37.two
    obtain ⟨s0, s1, _, _, _⟩ := hst8.k3.two
    have Hst8 := Lib.hid hst8; have Hki := Lib.hid (And.intro ki8 hio); have Hids := Lib.hid hids'
    clear hst hap hst8 hgr hor hown7 k37 Hsto Hdel ki8 hio hki hids'
    go_wp2
    clear t0 t1 t2 t3 s0 s1 hW8
    go_loopw [38] (fun iv wr => ∃ (k : Nat) (o' : Nat → Owner) (X' : List RTerm), k ≤ ts.length ∧ iv = .int .i64 (k : Int) ∧ Hid (AddSt w o' g3 g6 g7 (.slice A7 ids'.length c7) (.slice Ab m cb) (.slice none 0 0) ids' X' [] wr) ∧ Hid (Blk wr gi 3 #[.int .i64 id] ∧ o' gi = .no) ∧ Hid (CutAt id ts X' k)) (fun iv _ => ts.length - (intOf iv).toNat)
    case atStart => exact ⟨0, o, X, Nat.zero_le _, rfl, Hst8, Hki, Lib.hid (by unfold CutAt; rw [List.take_zero]; exact HX.out)⟩
    case round =>
      clear Hst8 HX Hki
      obtain ⟨k, o', X', hk, rfl, hs, hki, hcut⟩ := hrel
      by_cases hlt : k < ts.length
      · have hkX : k < X'.length := by rw [hcut.out.len]; exact hlt
        obtain ⟨g, c, hv, hlc, hcm, hBg, hgl, x0, x1, hoc, hwl2, hfz⟩ := hs.out.tree.row.rtAt (k := k) (by simpa using hkX)
        simp only [List.getElem_map, rt] at x0 x1 hoc
        injection hv with hv1 hv2 hv3
        subst hv1 hv3
        have hPi := hs.out.tree.posts _ (List.getElem_mem hkX)
        obtain ⟨ps, hps⟩ : ∃ ps, X'[k].2.2 = ps := ⟨_, rfl⟩
        obtain ⟨pv, hpv⟩ : ∃ pv, X'[k].2.1 = pv := ⟨_, rfl⟩
        have hrow := hPi.row
        have hmine := hPi.mine
        have hsh : ∀ r ∈ ps.map rp, ∃ A n c, r.2 = .slice A n c := fun r hr => by
          obtain ⟨q, hq, rfl⟩ := List.mem_map.1 hr
          obtain ⟨A9, c9, e9, _, _⟩ := (hPi.pl q (by rw [hps]; exact hq)).1.shape
          exact ⟨A9, _, c9, e9⟩
        rw [hps, hpv] at hrow
        rw [hpv] at hmine x1
        have hog := hs.out.tree.mine g rfl
        have hdl := fun V (hb : Below wr.heap.size wr V) => deleteFuncPost_ok id gi pv (ps.map rp) w.heap.size V (hrow.ext hb) (Nat.le_trans hs.out.below.size hb.size) (cell_ext hb (by rw [hki.out.1.cell]; rfl)) (fun e => by have := hmine gi e; rw [hki.out.2] at this; cases this) hsh
        obtain ⟨_, t1, _, _, _⟩ := hs.out.k3.two
        have hSS : ∀ W', Below wr.heap.size wr W' → W'.cell? ⟨g3, 1, none⟩ = some (.slice (some ⟨g, 0, none⟩) m cb) ∧ W'.cell? ⟨g, k * 2 + 1, none⟩ = some pv := fun W' hb => ⟨cell_ext hb t1, cell_ext hb x1⟩
        have HS := Lib.hid hSS
        have hS := HS.out _ (below_drewN' wr.heap.size wr 1)
        obtain ⟨Ap, cp, hpf, _, _⟩ := hrow.shape
        rw [List.length_map] at hpf
        have Hdl := Lib.hid hdl; have Hp := Lib.hid (And.intro hps (And.intro hpv hmine)); have Hgg := Lib.hid (And.intro hog (And.intro hgl hfz)); have Hpf := Lib.hid hpf
        have hki0 : (0 : Int) ≤ (k : Int) := by omega
        have hkil : (k : Int) < (m : Int) := by have := Hm.out.2; omega
        have hkw : IntKind.i64.wrap (k : Int) = (k : Int) := IntWalk.i64_in _ (by unfold maxLen at hcm; omega)
        clear hdl hSS hsh hps hpv hmine hrow hPi hog hgl hfz x0 x1 hoc hwl2 hpf hv2 hlc hcm t1
        go_wp2_with fail
        rw [Hpf.out] at hS HS
        refine wp_region_D (fun W => W.cell? ⟨g3, 1, none⟩ = some (.slice (some ⟨g, 0, none⟩) m cb) ∧ W.cell? ⟨g, k * 2 + 1, none⟩ = some (.slice Ap ps.length cp)) (fun j => j == 12 || j == 13) (by kernel_rfl) ?_
        change anyD _ _ _ _ _ _ _ _ _ (wr.drewN 1)
        have hbV := below_drewN' wr.heap.size wr 1
        generalize wr.drewN 1 = V0 at hS hbV ⊢
        (refine anyD_light (i := 0) (v := ?_) rfl (by kernel_rfl) (by kernel_rfl) (by kernel_rfl) (by kernel_rfl) (by kernel_rfl) (fun _ _ _ h => h) (.inl ⟨by kernel_rfl, fun W9 hW9 => ?_⟩) hS ?_; rotate_left; · (obtain ⟨hw0, hw1⟩ := hW9; go_simp; rfl))
        (refine anyD_light (i := 1) (v := ?_) rfl (by kernel_rfl) (by kernel_rfl) (by kernel_rfl) (by kernel_rfl) (by kernel_rfl) (fun _ _ _ h => h) (.inl ⟨by kernel_rfl, fun W9 hW9 => ?_⟩) hS ?_; rotate_left; · (obtain ⟨hw0, hw1⟩ := hW9; go_simp; rfl))
        (refine anyD_light (i := 2) (v := ?_) rfl (by kernel_rfl) (by kernel_rfl) (by kernel_rfl) (by kernel_rfl) (by kernel_rfl) (fun _ _ _ h => h) (.inl ⟨by kernel_rfl, fun W9 hW9 => ?_⟩) hS ?_; rotate_left; · (obtain ⟨hw0, hw1⟩ := hW9; go_simp; rfl))
        (refine anyD_light (i := 3) (v := ?_) rfl (by kernel_rfl) (by kernel_rfl) (by kernel_rfl) (by kernel_rfl) (by kernel_rfl) (fun _ _ _ h => h) (.inl ⟨by kernel_rfl, fun W9 hW9 => ?_⟩) hS ?_; rotate_left; · (obtain ⟨hw0, hw1⟩ := hW9; go_simp; rfl))
        (refine anyD_light (i := 4) (v := ?_) rfl (by kernel_rfl) (by kernel_rfl) (by kernel_rfl) (by kernel_rfl) (by kernel_rfl) (fun _ _ _ h => h) (.inl ⟨by kernel_rfl, fun W9 hW9 => ?_⟩) hS ?_; rotate_left; · (obtain ⟨hw0, hw1⟩ := hW9; go_simp; rfl))
        (refine anyD_light (i := 5) (v := ?_) rfl (by kernel_rfl) (by kernel_rfl) (by kernel_rfl) (by kernel_rfl) (by kernel_rfl) (fun _ _ _ h => h) (.inl ⟨by kernel_rfl, fun W9 hW9 => ?_⟩) hS ?_; rotate_left; · (obtain ⟨hw0, hw1⟩ := hW9; go_simp; rfl))
        go_simp
        (refine anyD_light (i := 6) (v := ?_) rfl (by kernel_rfl) (by kernel_rfl) (by kernel_rfl) (by kernel_rfl) (by kernel_rfl) (fun _ _ _ h => h) (.inl ⟨by kernel_rfl, fun W9 hW9 => ?_⟩) hS ?_; rotate_left; · (obtain ⟨hw0, hw1⟩ := hW9; go_simp; rfl))
        (refine anyD_light (i := 7) (v := ?_) rfl (by kernel_rfl) (by kernel_rfl) (by kernel_rfl) (by kernel_rfl) (by kernel_rfl) (fun _ _ _ h => h) (.inl ⟨by kernel_rfl, fun W9 hW9 => ?_⟩) hS ?_; rotate_left; · (obtain ⟨hw0, hw1⟩ := hW9; go_simp; rfl))
        (refine anyD_light (i := 8) (v := ?_) rfl (by kernel_rfl) (by kernel_rfl) (by kernel_rfl) (by kernel_rfl) (by kernel_rfl) (fun _ _ _ h => h) (.inl ⟨by kernel_rfl, fun W9 hW9 => ?_⟩) hS ?_; rotate_left; · (obtain ⟨hw0, hw1⟩ := hW9; go_simp; rfl))
        (refine anyD_light (i := 9) (v := ?_) rfl (by kernel_rfl) (by kernel_rfl) (by kernel_rfl) (by kernel_rfl) (by kernel_rfl) (fun _ _ _ h => h) (.inl ⟨by kernel_rfl, fun W9 hW9 => ?_⟩) hS ?_; rotate_left; · (obtain ⟨hw0, hw1⟩ := hW9; go_simp; rfl))
        go_simp
        refine anyD_one (i := 10) (by kernel_rfl) rfl rfl (fun K hK => ?_)
        have HK := Lib.hid hK
        clear hK
        unfold Oper.wp
        go_simp
        rw [← Hpf.out]
        refine (Hdl.out V0 hbV).mono ?_
        rintro e w5 ⟨u, rfl, hown, hgr, hor⟩
        obtain ⟨Au, cu, rfl, _, _⟩ := hown.shape
        rw [rp_filter] at hown hor ⊢
        rw [List.length_map] at hown hor ⊢
        obtain ⟨ps2, hps2⟩ : ∃ l, (ps.filter fun p => !(p.1 == id)) = l := ⟨_, rfl⟩
        rw [hps2] at hown hor ⊢
        have hgrT := gr_trans (below_grown hbV _) hgr
        have hng : ∀ b, o' b ≠ .row X'[k].1 → b < wr.heap.size → w5.heap[b]? = wr.heap[b]? := fun b hb hl => hgrT.block b hl fun e => hb (Hp.out.2.2 b e.symm)
        have k35 := hs.out.k3.keep (hng g3 (by rw [hs.out.n3]; simp) hs.out.k3.lt)
        have hgb := hng g (by rw [Hgg.out.1]; simp) Hgg.out.2.1
        have hS : w5.cell? ⟨g3, 1, none⟩ = some (.slice (some ⟨g, 0, none⟩) m cb) ∧ w5.cell? ⟨g, k * 2 + 1, none⟩ = some (.slice Ap ps.length cp) := ⟨k35.two.2.1, by rw [← (HS.out wr (Below.refl _ _)).2]; simp only [World.cell?, hgb]⟩
        have hf9 : w5.frozen? ⟨g, k * 2 + 1, none⟩ = false := by rw [← Hgg.out.2.2 (k * 2 + 1)]; simp only [World.frozen?, hgb]
        have Hst := Lib.hid (And.intro hown (And.intro hgrT (And.intro hor (And.intro hps2 (And.intro hng hgb)))))
        clear hown hgr hgrT hor hps2 hng hgb k35
        refine HK.out _ _ (fun _ => hS) ?_
        clear HK
        (refine anyD_light (i := 11) (v := ?_) rfl (by kernel_rfl) (by kernel_rfl) (by kernel_rfl) (by kernel_rfl) (by kernel_rfl) (fun _ _ _ h => h) (.inl ⟨by kernel_rfl, fun W9 hW9 => ?_⟩) hS ?_; rotate_left; · (obtain ⟨hw0, hw1⟩ := hW9; go_simp; rfl))
        (refine anyD_light (i := 12) (v := ?_) rfl (by kernel_rfl) (by kernel_rfl) (by kernel_rfl) (by kernel_rfl) (by kernel_rfl) (fun _ _ _ h => h) (.inl ⟨by kernel_rfl, fun W9 hW9 => ?_⟩) hS ?_; rotate_left; · (obtain ⟨hw0, hw1⟩ := hW9; go_simp; rfl))
        go_simp
        refine anyD_one (i := 13) (by kernel_rfl) rfl rfl (fun K hK => ?_)
        have HK := Lib.hid hK
        clear hK
        obtain ⟨_, hq9⟩ := hS
        unfold Oper.wp
        go_simp
        refine HK.out _ _ (fun h => by cases h) ?_
        clear HK
        go_simp
        refine anyD_done (by kernel_rfl) ?_ _
        obtain ⟨hown, hgrT, hor, hps2, hng, hgb⟩ := Hst.out
        have hgrX : wr.grownBy w5 X'[k].2.1.ownBlock := by rw [Hp.out.2.1]; exact hgrT
        have hlen2 : (ps2.map rp).length = ps2.length := List.length_map _
        obtain ⟨hT9, ho9⟩ := hs.out.tree.postings hkX (hcut.out.alone Hcan.out.srt hkX) rfl (tv' := .slice Au ps2.length cu) (ps' := ps2) hgrX hown (.inl (by rw [Hp.out.2.1]; exact hor)) rfl (fun q hq => .inl (by rw [Hp.out.1]; rw [← hps2] at hq; exact (List.mem_filter.1 hq).1))
        have hne3 : g3 ≠ g := fun e => by have := Hgg.out.1; rw [← e, hs.out.n3] at this; cases this
        have hnei : gi ≠ g := fun e => by have := Hgg.out.1; rw [← e, hki.out.2] at this; cases this
        have k39 := (hs.out.k3.keep (hng g3 (by rw [hs.out.n3]; simp) hs.out.k3.lt)).far (p := ⟨g, k * 2 + 1, none⟩) hne3 (.slice Au ps2.length cu)
        have ki9 := (hki.out.1.keep (hng gi (by rw [hki.out.2]; simp) hki.out.1.lt)).far (p := ⟨g, k * 2 + 1, none⟩) hnei (.slice Au ps2.length cu)
        have ht9 := (Turn.of_grown (bx := g3) hgrX (fun b hb => by have := Hp.out.2.2 b (by rw [← Hp.out.2.1]; exact hb); exact this) (by simp)).set (g := g) (.inr (.inl (by rw [Hgg.out.1]; simp))) (k * 2 + 1) (.slice Au ps2.length cu)
        have Hs9 := Lib.hid (hs.out.step hT9 k39 ht9 ho9)
        have Hki9 := Lib.hid (And.intro ki9 (show own1 o' (.slice Au ps2.length cu) (.row X'[k].1) gi = .no by rw [ho9 gi hki.out.1.lt]; exact hki.out.2))
        have Hc9 := Lib.hid (hcut.out.step hkX (.slice Au ps2.length cu))
        rw [Hp.out.1, hps2] at Hc9
        have hkb : k < 4000000 := by have := Hcan.out.many; dsimp only at this; omega
        clear hown hgrT hor hps2 hng hgb hgrX hlen2 hT9 ho9 hne3 hnei k39 ki9 ht9 hS hq9 hf9 Hst hs hki
        go_wp2
        go_roundw
        case rel => exact ⟨k + 1, _, _, by omega, by go_num, Hs9, Hki9, Hc9⟩
        case measure => simp [intOf]; omega
      · obtain rfl : k = ts.length := by omega
        have hsh : ∀ r ∈ X'.map rt, ∃ A n c, r.2 = .slice A n c := fun r hr => by
          obtain ⟨q, hq, rfl⟩ := List.mem_map.1 hr
          obtain ⟨A9, c9, e9, _, _⟩ := (hs.out.tree.posts q hq).row.shape
          exact ⟨A9, _, c9, e9⟩
        have hfl : (X'.map rt).filter (fun r => !(valLen r.2 == 0)) = (X'.filter fun t => !(t.2.2.length == 0)).map rt := by
          rw [List.filter_map]
          congr 1
          refine List.filter_congr fun q hq => ?_
          obtain ⟨A9, c9, e9, _, _⟩ := (hs.out.tree.posts q hq).row.shape
          rw [List.length_map] at e9
          show (!(valLen q.2.1 == 0)) = _
          rw [e9]
          congr 1
          rw [Bool.eq_iff_iff]
          show (((q.2.2.length : Nat) : Int) == 0) = true ↔ _
          rw [beq_iff_eq, beq_iff_eq]
          omega
        have hdl := deleteFuncTerm_ok (.slice Ab m cb) (X'.map rt) w.heap.size wr hs.out.tree.row hs.out.below.size hsh
        rw [hfl] at hdl
        obtain ⟨Y, hY⟩ : ∃ Y, (X'.filter fun t => !(t.2.2.length == 0)) = Y := ⟨_, rfl⟩
        rw [hY] at hdl
        have hYp : Y.map pt = Ix.removeT id ts := by rw [← hY]; exact hcut.out.fin
        have hYm : ∀ t ∈ Y, t ∈ X' := fun t ht => by rw [← hY] at ht; exact (List.mem_filter.1 ht).1
        obtain ⟨t0, t1, t2, t3, _⟩ := hs.out.k3.two
        have Hdl := Lib.hid hdl; have HY := Lib.hid (And.intro hYp hYm)
        obtain rfl : m = ts.length := Hm.out.2
        clear hdl hY hYp hYm hfl hsh hcut
        go_wp2_with fail
        clear t0 t1 t2 t3
        refine Hdl.out.mono ?_
        rintro e w5 ⟨u, rfl, hown, hgr, hor⟩
        obtain ⟨Au, cu, rfl, _, _⟩ := hown.shape
        obtain ⟨N, hN⟩ : ∃ N, (Y.map rt).length = N := ⟨_, rfl⟩
        rw [hN] at hown hor ⊢
        obtain ⟨hT9, ho9⟩ := hs.out.tree.terms hgr hown (.inl hor) (fun t ht => .inl (HY.out.2 t ht))
        have k35 := hs.out.k3.keep (hgr.block g3 hs.out.k3.lt fun e => by have := hs.out.tree.mine g3 e.symm; rw [hs.out.n3] at this; cases this)
        obtain ⟨W9, hW9⟩ : ∃ W9, w5.setCell ⟨g3, 1, none⟩ (.slice Au N cu) = W9 := ⟨_, rfl⟩
        have hn9 : own1 o' (.slice Au N cu) .top g3 = .no := by rw [ho9 g3 hs.out.k3.lt]; exact hs.out.n3
        have hT10 := hT9.move (o' := own1 o' (.slice Au N cu) .top) (w' := W9) (fun b _ _ hb => by rw [← hW9]; exact heap_set_ne _ _ _ fun e => hb (by rw [e]; exact hn9)) (fun _ _ => rfl) (fun b hb => hT9.fresh b (by rw [← hW9] at hb; simpa using hb))
        have ht9 : Turn o' g3 wr W9 := hW9 ▸ (Turn.of_grown (bx := g3) hgr (fun b hb => hs.out.tree.mine b hb) (by simp)).set (.inl rfl) 1 (.slice Au N cu)
        have hst9 := hs.out.step hT10 (hW9 ▸ k35.set_ 1 (.slice Au N cu)) ht9 ho9
        obtain ⟨t0, t1, t2, t3, _⟩ := k35.two
        obtain ⟨s0, s1, _, _, _⟩ := hst9.k3.two
        have k3 := hst9.k3; have k6 := hst9.k6; have k7 := hst9.k7; have hal := hst9.below
        have Hst9 := Lib.hid hst9
        clear hown hgr hor hT9 ho9 k35 hn9 hT10 ht9 hst9 hs hki Hdl hN
        have hR : Ix.removeR (ids, ts) id = (Ix.removeF (ids, ts) id, 0, 0) := by unfold Ix.removeR; rw [if_neg HR.out.1, if_pos HR.out.2]
        have HRR := Lib.hid hR
        clear hR
        go_wp2_with fail
        clear t0 t1 t2 t3 s0 s1 hW9
        have hno := fun W => none_ok W
        have Hno := Lib.hid hno
        have hSS : ∀ W', Below W9.heap.size W9 W' → W'.cell? ⟨g3, 0, none⟩ = some (.slice A7 ids'.length c7) ∧ W'.cell? ⟨g3, 1, none⟩ = some (.slice Au N cu) := fun W' hb => ⟨(k3.ext hb).two.1, (k3.ext hb).two.2.1⟩
        have HS := Lib.hid hSS
        have hS := HS.out _ (below_drewN' W9.heap.size W9 1)
        clear hSS hno
        refine wp_region_D (fun W => W.cell? ⟨g3, 0, none⟩ = some (.slice A7 ids'.length c7) ∧ W.cell? ⟨g3, 1, none⟩ = some (.slice Au N cu)) (fun j => j == 2 || j == 3) (by kernel_rfl) ?_
        (refine anyD_light (i := 0) (v := ?_) rfl (by kernel_rfl) (by kernel_rfl) (by kernel_rfl) (by kernel_rfl) (by kernel_rfl) (fun _ _ _ h => h) (.inl ⟨by kernel_rfl, fun W9 hW9 => ?_⟩) hS ?_; rotate_left; · (obtain ⟨hw0, hw1⟩ := hW9; go_simp; rfl))
        go_simp
        refine anyD_one (i := 1) (by kernel_rfl) rfl rfl (fun K hK => ?_)
        have HK := Lib.hid hK
        clear hK
        unfold Oper.wp
        go_simp
        refine (Hno.out _).mono ?_
        rintro e w8 ⟨rfl, hb8⟩
        have hb18 : Below W9.heap.size W9 w8 := (below_drewN' W9.heap.size W9 1).trans hb8
        clear hS
        have hS := HS.out _ hb18
        refine HK.out _ _ (fun _ => hS) ?_
        clear HK
        have k68 := k6.ext hb18
        have k78 := k7.ext hb18
        have hbe8 := hal.trans (hb18.mono hal.size)
        obtain ⟨u0, u1, u2, u3, _⟩ := k68.two
        go_simp
        refine anyD_one (i := 2) (by kernel_rfl) rfl rfl (fun K hK => ?_)
        have HK := Lib.hid hK
        clear hK
        unfold Oper.wp
        go_simp
        refine HK.out _ _ (fun h => by cases h) ?_
        clear HK
        go_simp
        refine anyD_one (i := 3) (by kernel_rfl) rfl rfl (fun K hK => ?_)
        have HK := Lib.hid hK
        clear hK
        obtain ⟨v0, v1, v2, v3, _⟩ := ((k78.far (p := ⟨g6, 0, none⟩) (by have := Hg.out; show g7 ≠ g6; omega) (.slice A7 ids'.length c7)).far (p := ⟨g6, 1, none⟩) (by have := Hg.out; show g7 ≠ g6; omega) (.slice Au N cu)).two
        unfold Oper.wp
        go_simp
        refine HK.out _ _ (fun h => by cases h) ?_
        clear HK
        go_simp
        refine anyD_done (by kernel_rfl) ?_ _
        have Hk8 := Lib.hid (And.intro k68 (And.intro k78 (And.intro hbe8 hb18)))
        clear k68 k78 hbe8 hb18 k3 k6 k7 hal
        go_wp2
        obtain ⟨k68, k78, hbe8, hb18⟩ := Hk8.out
        obtain ⟨W10, hW10⟩ : ∃ W10, (((w8.setCell ⟨g6, 0, none⟩ (.slice A7 ids'.length c7)).setCell ⟨g6, 1, none⟩ (.slice Au N cu)).setCell ⟨g7, 0, none⟩ (.int .i64 0)).setCell ⟨g7, 1, none⟩ (.int .i64 0) = W10 := ⟨_, rfl⟩
        have hbe := below_put4 (w := w) hbe8 (by have := Hg.out; omega) (by have := Hg.out; omega) _ _ _ _ hW10
        obtain ⟨p6, p7, _, _, _, hsz9, hsm⟩ := put4 k68 k78 (by have := Hg.out; omega) _ _ _ _ hW10
        rw [hW10]
        obtain ⟨e0, e1, _⟩ := p6.two
        obtain ⟨e2, e3, _⟩ := p7.two
        refine bodyPost_ret (v := .tuple #[.agg #[.slice A7 ids'.length c7, .slice Au N cu], .agg #[.int .i64 0, .int .i64 0]]) (by simp [results, Tryz.results16, go_sem, e0, e1, e2, e3]) rfl ?_
        unfold RemAt
        rw [HRR.out]
        obtain ⟨r0, r1⟩ := Hst9.out.fin hb18 hsm hsz9
        rw [HY.out.1] at r1
        exact ⟨_, _, rfl, by show SlR intC M0 _ _ (ids.filter fun n => !(n == id)); rw [Hids.out]; exact r0.weak, r1.weak, hbe⟩
end Go.Proofs.YtfjpedgddgbelaaGreatDoor
