/-
  Contracts and plain facts, one after another: slices.Delete on entries that the call owns; What a mailbox that is changed does at a removal.
-/
import Derived.Test.YtjamjkjmlckgeaaGreatDoorF11
import Derived.Test.YtjamjkjmlckgeaaGreatDoorF4
import Derived.Test.YtjamjkjmlckgeaaGreatDoorF40
import Derived.Outline
namespace Go.Proofs.YtjamjkjmlckgeaaGreatDoor
open Go.RowKit
set_option linter.unusedVariables false
theorem oneEnt : ∀ i z, Tryz.prog.info? 65 = some i → i.zero = some z → ∀ u ∈ z.cells.toList, u.oneCell' = true := by
  intro i z hi hz
  have h : (Tryz.prog.info? 65).map (fun i => i.zero) = some (some (.agg #[.int .i64 0, .int .i64 0, .int .i64 0, .int .i64 0, .slice none 0 0, .slice none 0 0])) := by kernel_rfl
  rw [hi] at h
  simp only [Option.map_some, Option.some.injEq] at h
  rw [hz] at h
  injection h with h
  subst h
  decide

set_option maxHeartbeats 4000000 in
theorem deleteEnt_ok (M : Nat → Prop) (v : Value) (l : List _) (i B : Nat) (w : World) (hown : Own entC M w B 65 v l) (hi : i < l.length) :
    Calls Tryz.prog 94 #[v, .int .i64 (i : Int), .int .i64 ((i : Int) + 1)] w fun e w' => ∃ v', e = .returned v' ∧ Own entC M w' B 65 v' (l.eraseIdx i) ∧ w.grownBy w' v.ownBlock ∧ v'.ownBlock = v.ownBlock := by
  obtain ⟨g, c, cur, rfl, hlc, hcm, hBg, hblk, hsz⟩ := hown.blk (by omega)
  unfold maxLen at hcm
  obtain ⟨m, hm⟩ : ∃ m, l.length = m + 1 := ⟨l.length - 1, by omega⟩
  have hxs := hown.cells hblk
  rw [hm] at hlc hi hxs ⊢
  have Hm := Lib.hid hm
  clear hm
  obtain ⟨htk, hels0⟩ := hxs
  have hels : Els entC (fun b => M b ∨ b = g) w.drew _ l := hels0.ext (below_drewN' _ w 1)
  replace hblk : Blk w.drew g 65 cur := hblk
  clear hels0
  have hgl := hblk.lt
  have hsz' : cur.size = c * 6 := hsz
  have hk2 : (m + 1) * 6 ≤ cur.size := by rw [hsz']; exact Nat.mul_le_mul_right _ hlc
  have hk1 : (i + 1) * 6 ≤ (m + 1) * 6 := Nat.mul_le_mul_right _ hi
  obtain ⟨xs, hxs⟩ : ∃ xs, xs = cur.toList.take ((m + 1) * 6) := ⟨_, rfl⟩
  have hxl : xs.length = (m + 1) * 6 := by rw [hxs, List.length_take, Array.length_toList]; omega
  have hxcell : ∀ (j : Nat) (u : Value), xs[j]? = some u → w.drew.cell? ⟨g, j, none⟩ = some u := fun j u hu => by
    rw [hblk.cell]
    rw [hxs, List.getElem?_take] at hu
    split at hu
    · simpa using hu
    · cases hu
  have hcn : entC.n = 6 := rfl
  rw [hcn, ← hxs] at hels
  have hone := hels.one
  have hnl : (xs.drop ((i + 1) * 6)).length = (m - i) * 6 := by rw [List.length_drop, hxl, ← Nat.sub_mul]; congr 1; omega
  have hsum : i * 6 + (m - i) * 6 = m * 6 := by rw [← Nat.add_mul]; congr 1; omega
  have hrun : ∀ A, (0 < m - i → A = some ⟨g, (i + 1) * 6, none⟩) → (Builtin.append_ #[23, 23] 23 #[.slice (some ⟨g, 0, none⟩) i c, .slice A (m - i) (c - (i + 1))]).run Tryz.prog w.drew = .ok (.slice (some ⟨g, 0, none⟩) m c) (w.drew.setRow g (splice cur.toList (i * 6) (xs.drop ((i + 1) * 6))).toArray) := fun A hA => by
    have h1 := run_append_in (P := Tryz.prog) TEnts 23 hblk A (m - i) (c - (i + 1)) (n := i) (c := c) (xs.drop ((i + 1) * 6)) hnl (fun h0 => ⟨_, hA h0, fun j u hu => by
      rw [add_zero_lit]; rw [List.getElem?_drop] at hu; exact hxcell _ _ hu⟩) (fun u hu => hone u (List.mem_of_mem_drop hu)) (by omega) (by rw [hnl, hsum]; omega)
    rw [show i + (m - i) = m by omega] at h1
    exact h1
  obtain ⟨w1, hw1⟩ : ∃ w1, w1 = w.drew.setRow g (splice cur.toList (i * 6) (xs.drop ((i + 1) * 6))).toArray := ⟨_, rfl⟩
  rw [← hw1] at hrun
  have hblk1 : Blk w1 g 65 (splice cur.toList (i * 6) (xs.drop ((i + 1) * 6))).toArray := hw1 ▸ hblk.setRow
  have hlen1 : (splice cur.toList (i * 6) (xs.drop ((i + 1) * 6))).length = cur.size := by rw [length_splice, Array.length_toList]; rw [hnl, hsum, Array.length_toList]; omega
  obtain ⟨zs, hzl, hclr⟩ := run_clear_in (P := Tryz.prog) TEnts hblk1 (o := m * 6) 1 (c - m) (by omega) (by omega) oneEnt (by rw [List.size_toArray, hlen1]; omega)
  obtain ⟨w2, hw2⟩ : ∃ w2, w2 = w1.setRow g (splice (splice cur.toList (i * 6) (xs.drop ((i + 1) * 6))).toArray.toList (m * 6) zs).toArray := ⟨_, rfl⟩
  rw [← hw2] at hclr
  have hblk2 : Blk w2 g 65 (splice (splice cur.toList (i * 6) (xs.drop ((i + 1) * 6))) (m * 6) zs).toArray := hw2 ▸ hblk1.setRow
  have hgr : w.grownBy w2 (some g) := by
    rw [hw2, hw1]
    exact ⟨rfl, rfl, rfl, by simp [World.setRow], fun k _ hne => (setRow_other _ _ _ _ (fun e => hne (by rw [e]))).trans (setRow_other _ _ _ _ (fun e => hne (by rw [e])))⟩
  have hfin : Own entC M w2 B 65 (.slice (some ⟨g, 0, none⟩) m c) (l.eraseIdx i) := by
    have hlen : (l.eraseIdx i).length = m := by rw [List.length_eraseIdx, if_pos (by have := Hm.out; omega)]; have := Hm.out; omega
    have hel : Els entC (fun b => M b ∨ b = g) w.drew (xs.take (i * 6) ++ xs.drop ((i + 1) * 6)) (l.eraseIdx i) := by
      rw [List.eraseIdx_eq_take_drop_succ]
      exact (hels.take i).append (hels.drop (i + 1))
    refine Own.mk_row hblk2 hBg ?_ hlen (by omega) hcm (hel.keep (fun b hb hn => hgr.block b hb fun e => hn (.inr (by injection e))) hgr.size) ?_
    · rw [List.size_toArray, length_splice]
      · rw [hlen1]; exact hsz
      · rw [hzl, hlen1]; omega
    · rw [List.toList_toArray]
      show (splice (splice cur.toList (i * 6) (xs.drop ((i + 1) * 6))) (m * 6) zs).take (m * 6) = _
      have e1 : (xs.take (i * 6)) = cur.toList.take (i * 6) := by rw [hxs, List.take_take, Nat.min_eq_left (by omega)]
      have h3 : (cur.toList.take (i * 6)).length = i * 6 := by rw [List.length_take, Array.length_toList]; omega
      rw [e1, splice, List.take_append_of_le_length (by rw [List.length_take, hlen1]; omega), List.take_take, Nat.min_self, splice, ← List.append_assoc, List.take_append_of_le_length (by rw [List.length_append, h3, hnl]; omega), List.take_of_length_le (by rw [List.length_append, h3, hnl]; omega)]
  have Hrun := Lib.hid hrun; have Hclr := Lib.hid hclr; have Hfin := Lib.hid hfin; have Hgr := Lib.hid hgr
  have j1 : ¬ m + 1 = i := by omega
  have j2 : (i : Int) + 1 ≤ (m : Int) + 1 := by omega
  have j3 : (m : Int) + 1 ≤ (c : Int) := by omega
  have j4 : ((i : Int) == (i : Int) + 1) = false := by simp; omega
  have j5 : i ≤ c := by omega
  have j6 : i + 1 ≤ c := by omega
  have j7 : i + 1 ≤ m + 1 := by omega
  have j8 : ¬ c = m := by omega
  clear hrun hclr hfin hgr hw1 hw2 hblk hblk1 hblk2 hels hone hxcell hxl hxs hnl hsum hsz hsz' hk1 hk2 hlen1 hzl htk hown
  have j9 : (i : Int) ≤ (i : Int) + 1 := by omega
  by_cases hc : c = i + 1
  · obtain rfl : i = m := by omega
    subst hc
    go_enter Tryz.func94, Tryz.ntmps94
    go_wp2
    refine wp_region_D (fun _ => True) (fun _ => false) (by kernel_rfl) ?_
    refine anyD_light (i := 0) (v := ?_) rfl (by kernel_rfl) (by kernel_rfl) (by kernel_rfl) (by kernel_rfl) (by kernel_rfl) (fun _ _ _ h => h) (.inl ⟨rfl, fun W' _ => ?_⟩) (S := fun _ => True) trivial ?_
    rotate_left
    · (go_simp; rfl)
    go_simp
    refine anyD_light (i := 1) (v := ?_) rfl (by kernel_rfl) (by kernel_rfl) (by kernel_rfl) (by kernel_rfl) (by kernel_rfl) (fun _ _ _ h => h) (.inl ⟨rfl, fun W' _ => ?_⟩) (S := fun _ => True) trivial ?_
    rotate_left
    · (go_simp; rfl)
    go_simp
    refine anyD_light (i := 3) (v := ?_) rfl (by kernel_rfl) (by kernel_rfl) (by kernel_rfl) (by kernel_rfl) (by kernel_rfl) (fun _ _ _ h => h) (.inl ⟨rfl, fun W' _ => ?_⟩) (S := fun _ => True) trivial ?_
    rotate_left
    · (go_simp; rfl)
    go_simp
    refine anyD_light (i := 4) (v := ?_) rfl (by kernel_rfl) (by kernel_rfl) (by kernel_rfl) (by kernel_rfl) (by kernel_rfl) (fun _ _ _ h => h) (.inl ⟨rfl, fun W' _ => ?_⟩) (S := fun _ => True) trivial ?_
    rotate_left
    · (go_simp; rfl)
    go_simp
    refine anyD_light (i := 2) (v := ?_) rfl (by kernel_rfl) (by kernel_rfl) (by kernel_rfl) (by kernel_rfl) (by kernel_rfl) (fun _ _ _ h => h) (.inl ⟨rfl, fun W' _ => ?_⟩) (S := fun _ => True) trivial ?_
    rotate_left
    · (go_simp; rfl)
    go_simp
    refine anyD_light (i := 5) (v := ?_) rfl (by kernel_rfl) (by kernel_rfl) (by kernel_rfl) (by kernel_rfl) (by kernel_rfl) (fun _ _ _ h => h) (.inl ⟨rfl, fun W' _ => ?_⟩) (S := fun _ => True) trivial ?_
    rotate_left
    · (go_simp; rfl)
    go_simp
    refine anyD_one (i := 6) (by kernel_rfl) rfl rfl (fun K hK => ?_)
    have HK := Lib.hid hK
    clear hK
    have hr := Hrun.out (some ⟨g, 0, none⟩) (fun h => absurd h (by omega))
    simp only [Nat.sub_self] at hr
    refine wp_append_run (.tmp 22) (.tmp 25) rfl (vx := .slice (some ⟨g, 0, none⟩) i (i + 1)) (vy := .slice (some ⟨g, 0, none⟩) 0 0) rfl rfl hr ?_
    clear hr
    refine HK.out _ _ (fun _ => trivial) ?_
    clear HK
    go_simp
    refine anyD_light (i := 7) (v := ?_) rfl (by kernel_rfl) (by kernel_rfl) (by kernel_rfl) (by kernel_rfl) (by kernel_rfl) (fun _ _ _ h => h) (.inl ⟨rfl, fun W' _ => ?_⟩) (S := fun _ => True) trivial ?_
    rotate_left
    · (go_simp; rfl)
    go_simp
    refine anyD_done (by kernel_rfl) ?_ _
    go_simp
    have hcl := Hclr.out
    simp only [Nat.add_sub_cancel_left] at hcl
    go_wp2
    go_ret
    exact ⟨_, rfl, Hfin.out, Hgr.out, rfl⟩
  · go_enter Tryz.func94, Tryz.ntmps94
    go_wp2
    refine wp_region_D (fun _ => True) (fun _ => false) (by kernel_rfl) ?_
    refine anyD_light (i := 0) (v := ?_) rfl (by kernel_rfl) (by kernel_rfl) (by kernel_rfl) (by kernel_rfl) (by kernel_rfl) (fun _ _ _ h => h) (.inl ⟨rfl, fun W' _ => ?_⟩) (S := fun _ => True) trivial ?_
    rotate_left
    · (go_simp; rfl)
    go_simp
    refine anyD_light (i := 1) (v := ?_) rfl (by kernel_rfl) (by kernel_rfl) (by kernel_rfl) (by kernel_rfl) (by kernel_rfl) (fun _ _ _ h => h) (.inl ⟨rfl, fun W' _ => ?_⟩) (S := fun _ => True) trivial ?_
    rotate_left
    · (go_simp; rfl)
    go_simp
    refine anyD_light (i := 3) (v := ?_) rfl (by kernel_rfl) (by kernel_rfl) (by kernel_rfl) (by kernel_rfl) (by kernel_rfl) (fun _ _ _ h => h) (.inl ⟨rfl, fun W' _ => ?_⟩) (S := fun _ => True) trivial ?_
    rotate_left
    · (go_simp; rfl)
    go_simp
    refine anyD_light (i := 4) (v := ?_) rfl (by kernel_rfl) (by kernel_rfl) (by kernel_rfl) (by kernel_rfl) (by kernel_rfl) (fun _ _ _ h => h) (.inl ⟨rfl, fun W' _ => ?_⟩) (S := fun _ => True) trivial ?_
    rotate_left
    · (go_simp; rfl)
    go_simp
    refine anyD_light (i := 2) (v := ?_) rfl (by kernel_rfl) (by kernel_rfl) (by kernel_rfl) (by kernel_rfl) (by kernel_rfl) (fun _ _ _ h => h) (.inl ⟨rfl, fun W' _ => ?_⟩) (S := fun _ => True) trivial ?_
    rotate_left
    · (go_simp; rfl)
    go_simp
    refine anyD_light (i := 5) (v := ?_) rfl (by kernel_rfl) (by kernel_rfl) (by kernel_rfl) (by kernel_rfl) (by kernel_rfl) (fun _ _ _ h => h) (.inl ⟨rfl, fun W' _ => ?_⟩) (S := fun _ => True) trivial ?_
    rotate_left
    · (go_simp; rfl)
    go_simp
    refine anyD_one (i := 6) (by kernel_rfl) rfl rfl (fun K hK => ?_)
    have HK := Lib.hid hK
    clear hK
    have hr := Hrun.out (some ⟨g, (i + 1) * 6, none⟩) (fun _ => rfl)
    refine wp_append_run (.tmp 22) (.tmp 25) rfl (vx := .slice (some ⟨g, 0, none⟩) i c) (vy := .slice (some ⟨g, (i + 1) * 6, none⟩) (m - i) (c - (i + 1))) rfl rfl hr ?_
    clear hr
    refine HK.out _ _ (fun _ => trivial) ?_
    clear HK
    go_simp
    refine anyD_light (i := 7) (v := ?_) rfl (by kernel_rfl) (by kernel_rfl) (by kernel_rfl) (by kernel_rfl) (by kernel_rfl) (fun _ _ _ h => h) (.inl ⟨rfl, fun W' _ => ?_⟩) (S := fun _ => True) trivial ?_
    rotate_left
    · (go_simp; rfl)
    go_simp
    refine anyD_done (by kernel_rfl) ?_ _
    go_simp
    have hcl := Hclr.out
    go_wp2
    go_ret
    exact ⟨_, rfl, Hfin.out, Hgr.out, rfl⟩

end Go.Proofs.YtjamjkjmlckgeaaGreatDoor
namespace Go.Proofs.YtjamjkjmlckgeaaGreatDoor
open Go.RowKit
set_option linter.unusedVariables false

theorem Turned.cell {g : Nat} {w W : World} (h : Turned g w W) (p : Addr) (hp : p.block ≠ g) : W.cell? p = w.cell? p := World.cell?_of_block (h.block _ hp)
theorem cell_grown {w w' : World} {row : Option Nat} (h : w.grownBy w' row) (p : Addr) (hl : p.block < w.heap.size) (hne : row ≠ some p.block) : w'.cell? p = w.cell? p := World.cell?_of_block (h.block _ hl fun e => hne e.symm)
section
variable {α : Type} {C : Codec α} {M : Nat → Prop} {w w' : World} {B : Nat} {e : TypeId} {v v0 v1 : Value} {l : List α}
theorem own_ne_blk (h : Own C M w B e v l) {g : Nat} {t : TypeId} {cs : Array Value} (hk : Blk w g t cs) (hne : e ≠ t) : ∀ x, v.ownBlock = some x → x ≠ g := by
  obtain ⟨xs, ho, _⟩ := h
  intro x hx e1
  subst e1
  rcases ho.2 with ⟨rfl, _⟩ | ⟨g', cap, cur, rfl, _, hg, _⟩
  · cases hx
  · have e2 : g' = x := Option.some.inj hx
    subst e2
    unfold Blk at hk
    rw [hg] at hk
    injection hk with hk
    injection hk with _ h2 _
    exact hne h2
theorem own_grownM (h : Own C (fun x => M x ∨ v0.ownBlock = some x) w B e v l) (hg : w.grownBy w' v0.ownBlock) (hap : ∀ b, v.ownBlock = some b → v0.ownBlock ≠ some b) (hor : v1.ownBlock = v0.ownBlock ∨ v1.ownBlock = some w.heap.size) :
    Own C (fun x => M x ∨ v1.ownBlock = some x) w' B e v l := by
  have hvl : ∀ b, v.ownBlock = some b → b < w.heap.size := h.lt
  obtain ⟨xs, ho, he⟩ := h
  have h1 : Own C (fun x => (M x ∨ v0.ownBlock = some x ∨ w.heap.size ≤ x) ∧ v.ownBlock ≠ some x) w B e v l :=
    ⟨xs, ho, he.sub fun b hb hor => hor.elim (fun h => .inl (h.1.elim .inl fun h => h.elim .inr fun h => absurd hb (by omega))) .inr⟩
  have h2 := h1.keep (w' := w') (fun b hb hor => hg.block b hb fun e => by
    rcases hor with hn | ho
    · exact hn ⟨.inr (.inl e.symm), fun h => hap b h e.symm⟩
    · exact hap b ho e.symm) hg.size (fun b hb hm => hm.2 hb)
  obtain ⟨ys, ho2, he2⟩ := h2
  refine ⟨ys, ho2, he2.sub fun b hb h3 => ?_⟩
  by_cases hv : v.ownBlock = some b
  · exact .inr hv
  · refine .inl ⟨?_, hv⟩
    rcases h3 with (h3 | h3) | h3
    · exact .inl h3
    · rcases hor with e | e
      · exact .inr (.inl (e ▸ h3))
      · rw [e] at h3; exact .inr (.inr (by have := Option.some.inj h3; omega))
    · exact absurd h3 hv
theorem own_grownF (hF : FreeC C) (h : Own C M w B e v l) {row : Option Nat} (hg : w.grownBy w' row) (hap : ∀ b, v.ownBlock = some b → row ≠ some b) : Own C M w' B e v l := by
  have h1 : Own C (fun b => row = some b) w B e v l := own_freeM hF h
  have h2 : Own C (fun b => row = some b) w' B e v l :=
    h1.keep (fun k hk hor => hg.block k hk fun e => hor.elim (fun hn => hn e.symm) fun ho => hap k ho e.symm) hg.size fun k hk => hap k hk
  exact own_freeM hF h2
end
set_option maxRecDepth 100000 in
set_option maxHeartbeats 8000000 in
theorem remove_ok (M : Nat → Prop) (b : Mb.Box) (es gs : Value) (i g B : Nat) (w : World) (kb : Blk w g 75 #[.int .i64 b.nu, .int .i64 b.ns, .int .i64 b.hz, es, gs]) (hMg : M g) (hM : ∀ x, M x → x < w.heap.size) (oE : Own entC (fun x => M x ∨ gs.ownBlock = some x) w B 65 es b.es) (oG : Own gnC M w B 82 gs b.gs) (hMq : ∀ x, es.ownBlock = some x → ¬ M x) (hBg : B ≤ g) (hi : i < b.es.length) (hiB : b.es.length ≤ 200) (hG : b.gs.length < 400) (hns : 0 ≤ b.ns ∧ b.ns ≤ 1000000)
    (hub : ∀ (i : Nat) (h : i < b.es.length), -9223372036854775808 ≤ b.es[i].1 ∧ b.es[i].1 ≤ 9223372036854775807) :
    Calls Tryz.prog 61 #[.pointer (some ⟨g, 0, none⟩), .int .i64 (i : Int)] w fun e w' => e = .returned (.tuple #[]) ∧ ∃ es' gs', Blk w' g 75 #[.int .i64 (Mb.remC b i).nu, .int .i64 (Mb.remC b i).ns, .int .i64 (Mb.remC b i).hz, es', gs'] ∧ Own entC (fun x => M x ∨ gs'.ownBlock = some x) w' B 65 es' (Mb.remC b i).es ∧ Own gnC M w' B 82 gs' (Mb.remC b i).gs ∧ Below B w w' := by
  obtain ⟨Ag, cg, rfl, hgc, hgm⟩ := oG.shape
  obtain ⟨q, cv, cur, hq, hqc, hqm, hq0, hqb, hqs⟩ := oE.blk (by omega)
  subst hq
  have hBw : B ≤ w.heap.size := Nat.le_trans hBg (Nat.le_of_lt kb.lt)
  have hqg : ∀ x, (Value.slice (some ⟨q, 0, none⟩) b.es.length cv).ownBlock = some x → x ≠ g := own_ne_blk oE kb (by decide)
  have hgg : ∀ x, (Value.slice Ag b.gs.length cg).ownBlock = some x → x ≠ g := own_ne_blk oG kb (by decide)
  obtain ⟨be, off, Af, cf, Ab, cb, hA, _, _, q0, _⟩ := (oE.read (fun x hx hm => hm.elim (hMq x hx) fun h => own_apart oG oE (by decide) x hx h)).entAt hi
  cases hA
  rw [Nat.zero_add] at q0
  have hrem : Mb.remC b i = ⟨b.nu, b.ns + 1, b.hz, b.es.eraseIdx i, b.gs ++ [(b.es[i].1, b.ns)]⟩ := by
    unfold Mb.remC
    dsimp only
    rw [Mb.gD _ hi, if_neg (by rw [List.length_append]; simp only [List.length_cons, List.length_nil]; omega)]
  obtain ⟨rb, hrb⟩ : ∃ x, x = Mb.remC b i := ⟨_, rfl⟩
  rw [← hrb] at hrem ⊢
  have hu := hub i hi
  obtain ⟨u, huu⟩ : ∃ x, x = b.es[i].1 := ⟨_, rfl⟩
  rw [← huu] at q0 hrem hu
  have HR := Lib.hid hrem
  clear hrem hrb huu hqb hqs hgc hgm
  have cc3 := kb.cell 3; have cc4 := kb.cell 4
  have hii : (i : Int) < (b.es.length : Int) := by omega
  go_enter Tryz.func61, Tryz.ntmps61
  go_wp2_with fail
  refine wp_region_D (fun W => W.cell? ⟨g, 4, none⟩ = some (.slice Ag b.gs.length cg) ∧ W.cell? ⟨g, 3, none⟩ = some (.slice (some ⟨q, 0, none⟩) b.es.length cv) ∧ W.cell? ⟨q, i * 6, none⟩ = some (.int .i64 u)) (fun j => j == 20 || j == 21 || j == 22 || j == 23) (by kernel_rfl) ?_
  change anyD _ _ _ _ _ _ _ _ _ (w.drewN 1)
  have hbV := below_drewN' w.heap.size w 1
  have hS0 : (w.drewN 1).cell? ⟨g, 4, none⟩ = some (.slice Ag b.gs.length cg) ∧ (w.drewN 1).cell? ⟨g, 3, none⟩ = some (.slice (some ⟨q, 0, none⟩) b.es.length cv) ∧ (w.drewN 1).cell? ⟨q, i * 6, none⟩ = some (.int .i64 u) := ⟨(kb.ext hbV).cell 4, (kb.ext hbV).cell 3, (hbV.cell (p := ⟨q, i * 6, none⟩) (oE.lt q rfl)).trans q0⟩
  generalize w.drewN 1 = V0 at hbV hS0 ⊢
  have hS := hS0
  (refine anyD_light (i := 0) (v := ?_) rfl (by kernel_rfl) (by kernel_rfl) (by kernel_rfl) (by kernel_rfl) (by kernel_rfl) (fun _ _ _ h => h) (.inl ⟨by kernel_rfl, fun W9 hW9 => ?_⟩) hS ?_; rotate_left; · (obtain ⟨hw0, hw1, hw2⟩ := hW9; go_simp; rfl))
  (refine anyD_light (i := 1) (v := ?_) rfl (by kernel_rfl) (by kernel_rfl) (by kernel_rfl) (by kernel_rfl) (by kernel_rfl) (fun _ _ _ h => h) (.inl ⟨by kernel_rfl, fun W9 hW9 => ?_⟩) hS ?_; rotate_left; · (obtain ⟨hw0, hw1, hw2⟩ := hW9; go_simp; rfl))
  (refine anyD_light (i := 2) (v := ?_) rfl (by kernel_rfl) (by kernel_rfl) (by kernel_rfl) (by kernel_rfl) (by kernel_rfl) (fun _ _ _ h => h) (.inl ⟨by kernel_rfl, fun W9 hW9 => ?_⟩) hS ?_; rotate_left; · (obtain ⟨hw0, hw1, hw2⟩ := hW9; go_simp; rfl))
  (refine anyD_light (i := 3) (v := ?_) rfl (by kernel_rfl) (by kernel_rfl) (by kernel_rfl) (by kernel_rfl) (by kernel_rfl) (fun _ _ _ h => h) (.inl ⟨by kernel_rfl, fun W9 hW9 => ?_⟩) hS ?_; rotate_left; · (obtain ⟨hw0, hw1, hw2⟩ := hW9; go_simp; rfl))
  (refine anyD_light (i := 4) (v := ?_) rfl (by kernel_rfl) (by kernel_rfl) (by kernel_rfl) (by kernel_rfl) (by kernel_rfl) (fun _ _ _ h => h) (.inl ⟨by kernel_rfl, fun W9 hW9 => ?_⟩) hS ?_; rotate_left; · (obtain ⟨hw0, hw1, hw2⟩ := hW9; go_simp; rfl))
  (refine anyD_light (i := 5) (v := ?_) rfl (by kernel_rfl) (by kernel_rfl) (by kernel_rfl) (by kernel_rfl) (by kernel_rfl) (fun _ _ _ h => h) (.inl ⟨by kernel_rfl, fun W9 hW9 => ?_⟩) hS ?_; rotate_left; · (obtain ⟨hw0, hw1, hw2⟩ := hW9; go_simp; rfl))
  go_simp
  (refine anyD_light (i := 6) (v := ?_) rfl (by kernel_rfl) (by kernel_rfl) (by kernel_rfl) (by kernel_rfl) (by kernel_rfl) (fun _ _ _ h => h) (.inl ⟨by kernel_rfl, fun W9 hW9 => ?_⟩) hS ?_; rotate_left; · (obtain ⟨hw0, hw1, hw2⟩ := hW9; go_simp; rfl))
  (refine anyD_light (i := 7) (v := ?_) rfl (by kernel_rfl) (by kernel_rfl) (by kernel_rfl) (by kernel_rfl) (by kernel_rfl) (fun _ _ _ h => h) (.inl ⟨by kernel_rfl, fun W9 hW9 => ?_⟩) hS ?_; rotate_left; · (obtain ⟨hw0, hw1, hw2⟩ := hW9; go_simp; rfl))
  (refine anyD_light (i := 8) (v := ?_) rfl (by kernel_rfl) (by kernel_rfl) (by kernel_rfl) (by kernel_rfl) (by kernel_rfl) (fun _ _ _ h => h) (.inl ⟨by kernel_rfl, fun W9 hW9 => ?_⟩) hS ?_; rotate_left; · (obtain ⟨hw0, hw1, hw2⟩ := hW9; go_simp; rfl))
  (refine anyD_light (i := 9) (v := ?_) rfl (by kernel_rfl) (by kernel_rfl) (by kernel_rfl) (by kernel_rfl) (by kernel_rfl) (fun _ _ _ h => h) (.inl ⟨by kernel_rfl, fun W9 hW9 => ?_⟩) hS ?_; rotate_left; · (obtain ⟨hw0, hw1, hw2⟩ := hW9; go_simp; rfl))
  (refine anyD_light (i := 10) (v := ?_) rfl (by kernel_rfl) (by kernel_rfl) (by kernel_rfl) (by kernel_rfl) (by kernel_rfl) (fun _ _ _ h => h) (.inl ⟨by kernel_rfl, fun W9 hW9 => ?_⟩) hS ?_; rotate_left; · (obtain ⟨hw0, hw1, hw2⟩ := hW9; go_simp; rfl))
  (refine anyD_light (i := 11) (v := ?_) rfl (by kernel_rfl) (by kernel_rfl) (by kernel_rfl) (by kernel_rfl) (by kernel_rfl) (fun _ _ _ h => h) (.inl ⟨by kernel_rfl, fun W9 hW9 => ?_⟩) hS ?_; rotate_left; · (obtain ⟨hw0, hw1, hw2⟩ := hW9; go_simp; rfl))
  go_simp
  (refine anyD_light (i := 12) (v := ?_) rfl (by kernel_rfl) (by kernel_rfl) (by kernel_rfl) (by kernel_rfl) (by kernel_rfl) (fun _ _ _ h => h) (.inl ⟨by kernel_rfl, fun W9 hW9 => ?_⟩) hS ?_; rotate_left; · (obtain ⟨hw0, hw1, hw2⟩ := hW9; go_simp; rfl))
  (refine anyD_light (i := 13) (v := ?_) rfl (by kernel_rfl) (by kernel_rfl) (by kernel_rfl) (by kernel_rfl) (by kernel_rfl) (fun _ _ _ h => h) (.inl ⟨by kernel_rfl, fun W9 hW9 => ?_⟩) hS ?_; rotate_left; · (obtain ⟨hw0, hw1, hw2⟩ := hW9; go_simp; rfl))
  (refine anyD_light (i := 14) (v := ?_) rfl (by kernel_rfl) (by kernel_rfl) (by kernel_rfl) (by kernel_rfl) (by kernel_rfl) (fun _ _ _ h => h) (.inl ⟨by kernel_rfl, fun W9 hW9 => ?_⟩) hS ?_; rotate_left; · (obtain ⟨hw0, hw1, hw2⟩ := hW9; go_simp; rfl))
  (refine anyD_light (i := 15) (v := ?_) rfl (by kernel_rfl) (by kernel_rfl) (by kernel_rfl) (by kernel_rfl) (by kernel_rfl) (fun _ _ _ h => h) (.inl ⟨by kernel_rfl, fun W9 hW9 => ?_⟩) hS ?_; rotate_left; · (obtain ⟨hw0, hw1, hw2⟩ := hW9; go_simp; rfl))
  go_simp
  refine anyD_one (i := 16) (by kernel_rfl) rfl rfl (fun K hK => ?_)
  have HK := Lib.hid hK
  clear hK
  clear hS
  unfold Oper.wp
  go_simp
  refine (next_ok g _ _ _ _ _ b.ns hns V0 (kb.ext hbV)).mono ?_
  rintro e V1 ⟨rfl, hV1⟩
  have hT1 : Turned g V0 V1 := by rw [hV1]; exact (Turned.refl g V0).set 1 _
  have kb1 : Blk V1 g 75 #[.int .i64 b.nu, .int .i64 (b.ns + 1), .int .i64 b.hz, .slice (some ⟨q, 0, none⟩) b.es.length cv, .slice Ag b.gs.length cg] := by rw [hV1]; simpa using (kb.ext hbV).set_ 1 (.int .i64 (b.ns + 1))
  have oE1 := (oE.ext hbV).turned hT1 (.inl hMg) hqg
  have oG1 := (oG.ext hbV).turned hT1 hMg hgg
  have hB1 : Below B w V1 := ((hbV.mono hBw).trans (hT1.rest B hBg))
  have hz1 : w.heap.size ≤ V1.heap.size := by have h1 := hbV.size; have h2 := hT1.size; omega
  have hcu := (hT1.cell ⟨q, i * 6, none⟩ (hqg q rfl)).trans hS0.2.2
  clear hV1
  have hS := (⟨kb1.cell 4, kb1.cell 3, hcu⟩ : _ ∧ _ ∧ _)
  refine HK.out _ _ (fun _ => hS) ?_
  clear HK
  (refine anyD_light (i := 17) (v := ?_) rfl (by kernel_rfl) (by kernel_rfl) (by kernel_rfl) (by kernel_rfl) (by kernel_rfl) (fun _ _ _ h => h) (.inl ⟨by kernel_rfl, fun W9 hW9 => ?_⟩) hS ?_; rotate_left; · (obtain ⟨hw0, hw1, hw2⟩ := hW9; go_simp; rfl))
  go_simp
  refine anyD_one (i := 18) (by kernel_rfl) rfl rfl (fun K hK => ?_)
  have HK := Lib.hid hK
  clear hK
  clear hS
  unfold Oper.wp
  go_simp
  have xr : SlR gnC (fun x => M x ∨ (Value.slice Ag b.gs.length cg).ownBlock = some x) (V1.alloc (.cells #[.int .i64 u, .int .i64 b.ns] 82)) (.slice (some ⟨V1.heap.size, 0, none⟩) 1 1) [(u, b.ns)] := SlR.built (C := gnC) (cs := [.int .i64 u, .int .i64 b.ns]) 82 ⟨[.int .i64 u], [.int .i64 b.ns], rfl, ⟨rfl, hu⟩, ⟨rfl, by omega⟩⟩ fun x hx => hx.elim (fun h => Nat.lt_of_lt_of_le (hM x h) hz1) fun h => oG1.lt x h
  have hal : Below V1.heap.size V1 (V1.alloc (.cells #[.int .i64 u, .int .i64 b.ns] 82)) := (Below.refl _ _).alloc (Nat.le_refl _) _
  have hz2 : w.heap.size ≤ (V1.alloc (.cells #[.int .i64 u, .int .i64 b.ns] 82)).heap.size := Nat.le_trans hz1 hal.size
  generalize hV2 : V1.alloc (.cells #[.int .i64 u, .int .i64 b.ns] 82) = V2 at xr hal hz2 ⊢
  have kb2 := kb1.ext hal
  have oE2 := oE1.ext hal
  have oG2 := oG1.ext hal
  have hB2 := hB1.trans (hal.mono (Nat.le_trans hBw hz1))
  have hcu2 := (hal.cell (p := ⟨q, i * 6, none⟩) (oE1.lt q rfl)).trans hcu
  have hS := (⟨kb2.cell 4, kb2.cell 3, hcu2⟩ : _ ∧ _ ∧ _)
  refine HK.out _ _ (fun _ => hS) ?_
  clear HK
  go_simp
  refine anyD_one (i := 19) (by kernel_rfl) rfl rfl (fun K hK => ?_)
  have HK := Lib.hid hK
  clear hK
  clear hS
  refine wp_append_Own gnC (M := M) (v := .slice Ag b.gs.length cg) (l := b.gs) (l' := [(u, b.ns)]) TGns (.tmp 9) (.tmp 22) rfl rfl oG2 rfl xr (by simp only [maxLen, List.length_cons, List.length_nil]; omega) (by simp only [List.length_cons, List.length_nil]; omega) (Nat.le_trans hBw hz2) ?_
  intro A3 c3 L3 V3 hL3 oG3 hbl3 hgr3 hor3
  have oE3 := own_grownM oE2 hgr3 (own_apart oG2 oE2 (by decide)) hor3
  have kb3 := kb2.grown hgr3 (fun e => hgg g e.symm rfl)
  have hB3 := hB2.trans hbl3
  have hcu3 := (cell_grown hgr3 ⟨q, i * 6, none⟩ (oE2.lt q rfl) (own_apart oG2 oE2 (by decide) q rfl)).trans hcu2
  have hz3 : w.heap.size ≤ V3.heap.size := Nat.le_trans hz2 hgr3.size
  clear oE2 oG2 oE1 oG1 xr hV2
  have hS := (⟨kb3.cell 4, kb3.cell 3, hcu3⟩ : _ ∧ _ ∧ _)
  refine HK.out _ _ (fun _ => hS) ?_
  clear HK
  (refine anyD_light (i := 20) (v := ?_) rfl (by kernel_rfl) (by kernel_rfl) (by kernel_rfl) (by kernel_rfl) (by kernel_rfl) (fun _ _ _ h => h) (.inl ⟨by kernel_rfl, fun W9 hW9 => ?_⟩) hS ?_; rotate_left; · (obtain ⟨hw0, hw1, hw2⟩ := hW9; go_simp; rfl))
  go_simp
  refine anyD_one (i := 21) (by kernel_rfl) rfl rfl (fun K hK => ?_)
  have HK := Lib.hid hK
  clear hK
  unfold Oper.wp
  go_simp
  refine HK.out _ _ (fun h => by cases h) ?_
  clear HK
  go_simp
  refine anyD_one (i := 22) (by kernel_rfl) rfl rfl (fun K hK => ?_)
  have HK := Lib.hid hK
  clear hK
  unfold Oper.wp
  go_simp
  refine HK.out _ _ (fun h => by cases h) ?_
  clear HK
  go_simp
  refine anyD_one (i := 23) (by kernel_rfl) rfl rfl (fun K hK => ?_)
  have HK := Lib.hid hK
  clear hK
  have x4 := kb3.frozen 4; have xl := kb3.lt; have y4 := kb3.cell 4
  unfold Oper.wp
  go_simp
  refine HK.out _ _ (fun h => by cases h) ?_
  clear HK
  go_simp
  refine anyD_done (by kernel_rfl) ?_ _
  have hT4 : Turned g V3 (V3.setCell ⟨g, 4, none⟩ (.slice A3 L3.length c3)) := (Turned.refl g V3).set 4 _
  have kb4 : Blk (V3.setCell ⟨g, 4, none⟩ (.slice A3 L3.length c3)) g 75 #[.int .i64 b.nu, .int .i64 (b.ns + 1), .int .i64 b.hz, .slice (some ⟨q, 0, none⟩) b.es.length cv, .slice A3 L3.length c3] := by simpa using kb3.set_ 4 (.slice A3 L3.length c3)
  generalize V3.setCell ⟨g, 4, none⟩ (.slice A3 L3.length c3) = V4 at hT4 kb4 ⊢
  have oE4 := oE3.turned hT4 (.inl hMg) hqg
  have oG4 := oG3.turned hT4 hMg (own_ne_blk oG3 kb3 (by decide))
  have hB4 := hB3.trans (hT4.rest B hBg)
  have d3 := kb4.cell 3; have d4 := kb4.cell 4; have f3 := kb4.frozen 3; have f4 := kb4.frozen 4; have fl := kb4.lt
  have HD := Lib.hid (deleteEnt_ok _ _ b.es i B V4 oE4 hi)
  have hz4 : w.heap.size ≤ V4.heap.size := by have h1 := hT4.size; omega
  clear oE3 oG3 kb3 hT4 hB3 hcu hcu2 hcu3 cc3 cc4 kb1 kb2 hor3 hgr3 hbl3
  go_wp2_with fail
  refine HD.out.mono ?_
  rintro e V5 ⟨v5, rfl, oE5, hgr5, how5⟩
  obtain ⟨A5, c5, rfl, _, _⟩ := oE5.shape
  have oG5 := own_grownF free_gn oG4 hgr5 (fun x hx e => own_apart oE4 oG4 (by decide) x hx e)
  have kb5 := kb4.grown hgr5 (fun e => hqg g e.symm rfl)
  have hB5 : Below B w V5 := hB4.grown hgr5 (Nat.le_trans hBw hz4) (fun k hk => oE4.base k hk)
  have hlen5 : (b.es.eraseIdx i).length = b.es.length - 1 := by rw [List.length_eraseIdx, if_pos hi]
  obtain ⟨L5, hL5⟩ : ∃ x, x = b.es.eraseIdx i := ⟨_, rfl⟩
  obtain ⟨L5, hL5⟩ : ∃ x, x = b.es.eraseIdx i := ⟨_, rfl⟩
  rw [← hL5] at oE5 how5 ⊢
  have HL5 := Lib.hid hL5
  have kb6 : Blk (V5.setCell ⟨g, 3, none⟩ (.slice A5 L5.length c5)) g 75 #[.int .i64 b.nu, .int .i64 (b.ns + 1), .int .i64 b.hz, .slice A5 L5.length c5, .slice A3 L3.length c3] := by simpa using kb5.set_ 3 (.slice A5 L5.length c5)
  have hT6 : Turned g V5 (V5.setCell ⟨g, 3, none⟩ (.slice A5 L5.length c5)) := (Turned.refl g V5).set 3 _
  have d3 := kb5.cell 3; have d4 := kb5.cell 4; have f3 := kb5.frozen 3; have f4 := kb5.frozen 4; have fl := kb5.lt
  have e4 := kb6.cell 4
  have hl3 : (L3.length : Int) ≤ 400 := by rw [hL3.out, List.length_append]; simp only [List.length_cons, List.length_nil]; omega
  have hl3' : ¬ (400 : Int) < (L3.length : Int) := by omega
  have oE6 := oE5.turned hT6 (.inl hMg) (own_ne_blk oE5 kb5 (by decide))
  have oG6 := oG5.turned hT6 hMg (own_ne_blk oG5 kb5 (by decide))
  have hB6 := hB5.trans (hT6.rest B hBg)
  clear hL5 hlen5 how5 hgr5 oE4 oG4 kb4
  go_wp2_with fail
  refine bodyPost_end (results_none rfl _ _ _) rfl ⟨rfl, .slice A5 L5.length c5, .slice A3 L3.length c3, ?_, ?_, ?_, hB6⟩
  · rw [HR.out]; exact kb6
  · rw [HR.out, ← HL5.out]; exact oE6
  · rw [HR.out]; rw [hL3.out] at oG6 ⊢; exact oG6
end Go.Proofs.YtjamjkjmlckgeaaGreatDoor
