/-
  slices.Delete on texts of the call's own.
-/
import Derived.Test.YtinmpjhmbciapaaDoorTx
import Derived.Test.YtinmpjhmbciapaaDoorRow
import Derived.Outline
import Derived.Deep.QuietTactic
import Derived.BigQuiet
import Derived.Deep.RegionHeld3
namespace Go.Proofs.YtinmpjhmbciapaaDoor
open Go.RowKit

theorem TStrs : SlT Tryd.prog 1 22 9 16 := SlT.mk' Tryd.underlying22 (by kernel_rfl : (Tryd.prog.info? 9).map (fun i => (i.zero, i.size, i.bytes)) = some (some (.string ⟨#[]⟩), 1, 16)) rfl
theorem oneStr : ∀ i z, Tryd.prog.info? 9 = some i → i.zero = some z → ∀ u ∈ z.cells.toList, u.oneCell' = true := by
  intro i z hi hz
  have h : (Tryd.prog.info? 9).map (fun i => i.zero) = some (some (.string ⟨#[]⟩)) := by kernel_rfl
  rw [hi] at h
  simp only [Option.map_some, Option.some.injEq] at h
  rw [hz] at h
  injection h with h
  subst h
  decide

set_option maxHeartbeats 4000000 in
theorem deleteSt_ok (M : Nat → Prop) (v : Value) (l : List _) (i B : Nat) (w : World) (hown : Own strC M w B 9 v l) (hi : i < l.length) :
    Calls Tryd.prog 51 #[v, .int .i64 (i : Int), .int .i64 ((i : Int) + 1)] w fun e w' => ∃ v', e = .returned v' ∧ Own strC M w' B 9 v' (l.eraseIdx i) ∧ w.grownBy w' v.ownBlock ∧ v'.ownBlock = v.ownBlock := by
  obtain ⟨g, c, cur, rfl, hlc, hcm, hBg, hblk, hsz⟩ := hown.blk (by omega)
  unfold maxLen at hcm
  obtain ⟨m, hm⟩ : ∃ m, l.length = m + 1 := ⟨l.length - 1, by omega⟩
  have hxs := hown.cells hblk
  rw [hm] at hlc hi hxs ⊢
  have Hm := Lib.hid hm
  clear hm
  obtain ⟨htk, hels0⟩ := hxs
  have hels : Els strC (fun b => M b ∨ b = g) w.drew _ l := hels0.ext (below_drewN' _ w 1)
  replace hblk : Blk w.drew g 9 cur := hblk
  clear hels0
  have hgl := hblk.lt
  have hsz' : cur.size = c * 1 := hsz
  have hk2 : (m + 1) * 1 ≤ cur.size := by rw [hsz']; exact Nat.mul_le_mul_right _ hlc
  have hk1 : (i + 1) * 1 ≤ (m + 1) * 1 := Nat.mul_le_mul_right _ hi
  obtain ⟨xs, hxs⟩ : ∃ xs, xs = cur.toList.take ((m + 1) * 1) := ⟨_, rfl⟩
  have hxl : xs.length = (m + 1) * 1 := by rw [hxs, List.length_take, Array.length_toList]; omega
  have hxcell : ∀ (j : Nat) (u : Value), xs[j]? = some u → w.drew.cell? ⟨g, j, none⟩ = some u := fun j u hu => by
    rw [hblk.cell]
    rw [hxs, List.getElem?_take] at hu
    split at hu
    · simpa using hu
    · cases hu
  have hcn : strC.n = 1 := rfl
  rw [hcn, ← hxs] at hels
  have hone := hels.one
  have hnl : (xs.drop ((i + 1) * 1)).length = (m - i) * 1 := by rw [List.length_drop, hxl, ← Nat.sub_mul]; congr 1; omega
  have hsum : i * 1 + (m - i) * 1 = m * 1 := by rw [← Nat.add_mul]; congr 1; omega
  have hrun : ∀ A, (0 < m - i → A = some ⟨g, (i + 1) * 1, none⟩) → (Builtin.append_ #[22, 22] 22 #[.slice (some ⟨g, 0, none⟩) i c, .slice A (m - i) (c - (i + 1))]).run Tryd.prog w.drew = .ok (.slice (some ⟨g, 0, none⟩) m c) (w.drew.setRow g (splice cur.toList (i * 1) (xs.drop ((i + 1) * 1))).toArray) := fun A hA => by
    have h1 := run_append_in (P := Tryd.prog) TStrs 22 hblk A (m - i) (c - (i + 1)) (n := i) (c := c) (xs.drop ((i + 1) * 1)) hnl (fun h0 => ⟨_, hA h0, fun j u hu => by
      rw [add_zero_lit]; rw [List.getElem?_drop] at hu; exact hxcell _ _ hu⟩) (fun u hu => hone u (List.mem_of_mem_drop hu)) (by omega) (by rw [hnl, hsum]; omega)
    rw [show i + (m - i) = m by omega] at h1
    exact h1
  obtain ⟨w1, hw1⟩ : ∃ w1, w1 = w.drew.setRow g (splice cur.toList (i * 1) (xs.drop ((i + 1) * 1))).toArray := ⟨_, rfl⟩
  rw [← hw1] at hrun
  have hblk1 : Blk w1 g 9 (splice cur.toList (i * 1) (xs.drop ((i + 1) * 1))).toArray := hw1 ▸ hblk.setRow
  have hlen1 : (splice cur.toList (i * 1) (xs.drop ((i + 1) * 1))).length = cur.size := by rw [length_splice, Array.length_toList]; rw [hnl, hsum, Array.length_toList]; omega
  obtain ⟨zs, hzl, hclr⟩ := run_clear_in (P := Tryd.prog) TStrs hblk1 (o := m * 1) 1 (c - m) (by omega) (by omega) oneStr (by rw [List.size_toArray, hlen1]; omega)
  obtain ⟨w2, hw2⟩ : ∃ w2, w2 = w1.setRow g (splice (splice cur.toList (i * 1) (xs.drop ((i + 1) * 1))).toArray.toList (m * 1) zs).toArray := ⟨_, rfl⟩
  rw [← hw2] at hclr
  have hblk2 : Blk w2 g 9 (splice (splice cur.toList (i * 1) (xs.drop ((i + 1) * 1))) (m * 1) zs).toArray := hw2 ▸ hblk1.setRow
  have hgr : w.grownBy w2 (some g) := by
    rw [hw2, hw1]
    exact ⟨rfl, rfl, rfl, by simp [World.setRow], fun k _ hne => (setRow_other _ _ _ _ (fun e => hne (by rw [e]))).trans (setRow_other _ _ _ _ (fun e => hne (by rw [e])))⟩
  have hfin : Own strC M w2 B 9 (.slice (some ⟨g, 0, none⟩) m c) (l.eraseIdx i) := by
    have hlen : (l.eraseIdx i).length = m := by rw [List.length_eraseIdx, if_pos (by have := Hm.out; omega)]; have := Hm.out; omega
    have hel : Els strC (fun b => M b ∨ b = g) w.drew (xs.take (i * 1) ++ xs.drop ((i + 1) * 1)) (l.eraseIdx i) := by
      rw [List.eraseIdx_eq_take_drop_succ]
      exact (hels.take i).append (hels.drop (i + 1))
    refine Own.mk_row hblk2 hBg ?_ hlen (by omega) hcm (hel.keep (fun b hb hn => hgr.block b hb fun e => hn (.inr (by injection e))) hgr.size) ?_
    · rw [List.size_toArray, length_splice]
      · rw [hlen1]; exact hsz
      · rw [hzl, hlen1]; omega
    · rw [List.toList_toArray]
      show (splice (splice cur.toList (i * 1) (xs.drop ((i + 1) * 1))) (m * 1) zs).take (m * 1) = _
      have e1 : (xs.take (i * 1)) = cur.toList.take (i * 1) := by rw [hxs, List.take_take, Nat.min_eq_left (by omega)]
      have h3 : (cur.toList.take (i * 1)).length = i * 1 := by rw [List.length_take, Array.length_toList]; omega
      rw [e1, splice, List.take_append_of_le_length (by rw [List.length_take, hlen1]; omega), List.take_take, Nat.min_self, splice, ← List.append_assoc, List.take_append_of_le_length (by rw [List.length_append, h3, hnl]; omega), List.take_of_length_le (by rw [List.length_append, h3, hnl]; omega)]
  simp only [Nat.mul_one] at hrun hclr
  have Hrun := Lib.hid hrun; have Hclr := Lib.hid hclr; have Hfin := Lib.hid hfin; have Hgr := Lib.hid hgr
  have j1 : ¬ m + 1 = i := by omega
  have j2 : (i : Int) + 1 ≤ (m : Int) + 1 := by omega
  have j3 : (m : Int) + 1 ≤ (c : Int) := by omega
  have j4 : ((i : Int) == (i : Int) + 1) = false := by simp; omega
  have j5 : i ≤ c := by omega
  have j6 : i + 1 ≤ c := by omega
  have j7 : i + 1 ≤ m + 1 := by omega
  have j8 : ¬ c = m := by omega
  clear hrun hclr hfin hgr hw1 hw2 hblk hblk1 hblk2 hels hone hxcell hxl hxs hnl hsum hsz hsz' hk1 hk2 hlen1 hzl htk hown
  have j9 : (i : Int) ≤ (i : Int) + 1 := by omega
  by_cases hc : c = i + 1
  · obtain rfl : i = m := by omega
    subst hc
    go_enter Tryd.func51, Tryd.ntmps51
    go_wp2
    refine wp_region_D (fun _ => True) (fun _ => false) (by kernel_rfl) ?_
    refine anyD_light (i := 0) (v := ?_) rfl (by kernel_rfl) (by kernel_rfl) (by kernel_rfl) (by kernel_rfl) (by kernel_rfl) (fun _ _ _ h => h) (.inl ⟨rfl, fun W' _ => ?_⟩) (S := fun _ => True) trivial ?_
    rotate_left
    · (go_simp; rfl)
    go_simp
    refine anyD_light (i := 1) (v := ?_) rfl (by kernel_rfl) (by kernel_rfl) (by kernel_rfl) (by kernel_rfl) (by kernel_rfl) (fun _ _ _ h => h) (.inl ⟨rfl, fun W' _ => ?_⟩) (S := fun _ => True) trivial ?_
    rotate_left
    · (go_simp; rfl)
    go_simp
    refine anyD_light (i := 3) (v := ?_) rfl (by kernel_rfl) (by kernel_rfl) (by kernel_rfl) (by kernel_rfl) (by kernel_rfl) (fun _ _ _ h => h) (.inl ⟨rfl, fun W' _ => ?_⟩) (S := fun _ => True) trivial ?_
    rotate_left
    · (go_simp; rfl)
    go_simp
    refine anyD_light (i := 4) (v := ?_) rfl (by kernel_rfl) (by kernel_rfl) (by kernel_rfl) (by kernel_rfl) (by kernel_rfl) (fun _ _ _ h => h) (.inl ⟨rfl, fun W' _ => ?_⟩) (S := fun _ => True) trivial ?_
    rotate_left
    · (go_simp; rfl)
    go_simp
    refine anyD_light (i := 2) (v := ?_) rfl (by kernel_rfl) (by kernel_rfl) (by kernel_rfl) (by kernel_rfl) (by kernel_rfl) (fun _ _ _ h => h) (.inl ⟨rfl, fun W' _ => ?_⟩) (S := fun _ => True) trivial ?_
    rotate_left
    · (go_simp; rfl)
    go_simp
    refine anyD_light (i := 5) (v := ?_) rfl (by kernel_rfl) (by kernel_rfl) (by kernel_rfl) (by kernel_rfl) (by kernel_rfl) (fun _ _ _ h => h) (.inl ⟨rfl, fun W' _ => ?_⟩) (S := fun _ => True) trivial ?_
    rotate_left
    · (go_simp; rfl)
    go_simp
    refine anyD_one (i := 6) (by kernel_rfl) rfl rfl (fun K hK => ?_)
    have HK := Lib.hid hK
    clear hK
    have hr := Hrun.out (some ⟨g, 0, none⟩) (fun h => absurd h (by omega))
    simp only [Nat.sub_self] at hr
    refine wp_append_run (.tmp 22) (.tmp 25) rfl (vx := .slice (some ⟨g, 0, none⟩) i (i + 1)) (vy := .slice (some ⟨g, 0, none⟩) 0 0) rfl rfl hr ?_
    clear hr
    refine HK.out _ _ (fun _ => trivial) ?_
    clear HK
    go_simp
    refine anyD_light (i := 7) (v := ?_) rfl (by kernel_rfl) (by kernel_rfl) (by kernel_rfl) (by kernel_rfl) (by kernel_rfl) (fun _ _ _ h => h) (.inl ⟨rfl, fun W' _ => ?_⟩) (S := fun _ => True) trivial ?_
    rotate_left
    · (go_simp; rfl)
    go_simp
    refine anyD_done (by kernel_rfl) ?_ _
    go_simp
    have hcl := Hclr.out
    simp only [Nat.add_sub_cancel_left] at hcl
    go_wp2
    go_ret
    exact ⟨_, rfl, Hfin.out, Hgr.out, rfl⟩
  · go_enter Tryd.func51, Tryd.ntmps51
    go_wp2
    refine wp_region_D (fun _ => True) (fun _ => false) (by kernel_rfl) ?_
    refine anyD_light (i := 0) (v := ?_) rfl (by kernel_rfl) (by kernel_rfl) (by kernel_rfl) (by kernel_rfl) (by kernel_rfl) (fun _ _ _ h => h) (.inl ⟨rfl, fun W' _ => ?_⟩) (S := fun _ => True) trivial ?_
    rotate_left
    · (go_simp; rfl)
    go_simp
    refine anyD_light (i := 1) (v := ?_) rfl (by kernel_rfl) (by kernel_rfl) (by kernel_rfl) (by kernel_rfl) (by kernel_rfl) (fun _ _ _ h => h) (.inl ⟨rfl, fun W' _ => ?_⟩) (S := fun _ => True) trivial ?_
    rotate_left
    · (go_simp; rfl)
    go_simp
    refine anyD_light (i := 3) (v := ?_) rfl (by kernel_rfl) (by kernel_rfl) (by kernel_rfl) (by kernel_rfl) (by kernel_rfl) (fun _ _ _ h => h) (.inl ⟨rfl, fun W' _ => ?_⟩) (S := fun _ => True) trivial ?_
    rotate_left
    · (go_simp; rfl)
    go_simp
    refine anyD_light (i := 4) (v := ?_) rfl (by kernel_rfl) (by kernel_rfl) (by kernel_rfl) (by kernel_rfl) (by kernel_rfl) (fun _ _ _ h => h) (.inl ⟨rfl, fun W' _ => ?_⟩) (S := fun _ => True) trivial ?_
    rotate_left
    · (go_simp; rfl)
    go_simp
    refine anyD_light (i := 2) (v := ?_) rfl (by kernel_rfl) (by kernel_rfl) (by kernel_rfl) (by kernel_rfl) (by kernel_rfl) (fun _ _ _ h => h) (.inl ⟨rfl, fun W' _ => ?_⟩) (S := fun _ => True) trivial ?_
    rotate_left
    · (go_simp; rfl)
    go_simp
    refine anyD_light (i := 5) (v := ?_) rfl (by kernel_rfl) (by kernel_rfl) (by kernel_rfl) (by kernel_rfl) (by kernel_rfl) (fun _ _ _ h => h) (.inl ⟨rfl, fun W' _ => ?_⟩) (S := fun _ => True) trivial ?_
    rotate_left
    · (go_simp; rfl)
    go_simp
    refine anyD_one (i := 6) (by kernel_rfl) rfl rfl (fun K hK => ?_)
    have HK := Lib.hid hK
    clear hK
    have hr := Hrun.out (some ⟨g, i + 1, none⟩) (fun _ => rfl)
    refine wp_append_run (.tmp 22) (.tmp 25) rfl (vx := .slice (some ⟨g, 0, none⟩) i c) (vy := .slice (some ⟨g, i + 1, none⟩) (m - i) (c - (i + 1))) rfl rfl hr ?_
    clear hr
    refine HK.out _ _ (fun _ => trivial) ?_
    clear HK
    go_simp
    refine anyD_light (i := 7) (v := ?_) rfl (by kernel_rfl) (by kernel_rfl) (by kernel_rfl) (by kernel_rfl) (by kernel_rfl) (fun _ _ _ h => h) (.inl ⟨rfl, fun W' _ => ?_⟩) (S := fun _ => True) trivial ?_
    rotate_left
    · (go_simp; rfl)
    go_simp
    refine anyD_done (by kernel_rfl) ?_ _
    go_simp
    have hcl := Hclr.out
    go_wp2
    go_ret
    exact ⟨_, rfl, Hfin.out, Hgr.out, rfl⟩

end Go.Proofs.YtinmpjhmbciapaaDoor
