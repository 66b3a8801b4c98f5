/-
  slices.Insert on what clients have seen, on rows that the call owns.
-/
import Derived.Test.YtjamjkjmlckgeaaGreatDoorF11
import Derived.Test.YtjamjkjmlckgeaaGreatDoorF4
import Derived.Test.YtjamjkjmlckgeaaGreatDoorF25
import Derived.Outline
namespace Go.Proofs.YtjamjkjmlckgeaaGreatDoor
open Go.RowKit
set_option linter.unusedVariables false

set_option maxHeartbeats 4000000 in
theorem insertSn_ok (M : Nat → Prop) (v : Value) (l : List _) (x : _) (i B gv : Nat) (cx : Array Value) (w : World) (hown : Own gnC M w B 84 v l) (hi : i ≤ l.length) (hln : l.length ≤ 4000000) (hv : Blk w gv 84 cx)
    (hx : ∀ M', gnC.rd M' w cx.toList x) (hne : v.ownBlock ≠ some gv) (hMv : ¬ M gv) (hB : B ≤ w.heap.size) (hM : ∀ b, M b → b < w.heap.size) :
    Calls Tryz.prog 68 #[v, .int .i64 (i : Int), .slice (some ⟨gv, 0, none⟩) 1 1] w fun e w' => ∃ v', e = .returned v' ∧ Own gnC M w' B 84 v' (l.take i ++ x :: l.drop i) ∧ w.grownBy w' v.ownBlock ∧ (v'.ownBlock = v.ownBlock ∨ v'.ownBlock = some w.heap.size) := by
  by_cases hin : i = l.length
  · -- at the end
    have hres : l.take i ++ x :: l.drop i = l ++ [x] := by rw [hin, List.take_length, List.drop_length]
    rw [hres]
    have hsv : ∀ row, row ≠ some gv → SlR gnC (fun b => M b ∨ row = some b) w (.slice (some ⟨gv, 0, none⟩) 1 1) [x] := fun row hrow =>
      ⟨_, 1, 1, cx.toList, rfl, rfl, Nat.le_refl _, by simp [maxLen], Els.single (hx _), fun _ => ⟨gv, 0, rfl, fun h => h.elim hMv hrow, hv.lt, fun j u hu => by
        rw [Nat.zero_add, hv.cell]; simpa using hu⟩⟩
    have hsv2 := hsv _ hne
    subst hin
    rcases hown.form with ⟨rfl, rfl⟩ | ⟨g, c, rfl, hlc, hcm, hBg, hgl⟩
    · go_enter Tryz.func68, Tryz.ntmps68
      go_wp2_with (at_builtin; refine wpList_append_Own gnC (M := M) (B := B) (l := []) (l' := [x]) TSns rfl (.tmp 23) (.tmp 24) rfl rfl hown rfl hsv2 ?_ ?_ ?_ ?_)
      · simp [maxLen]
      · simp
      · exact hB
      · intro A' c' L w' hL hown' _ hg hob
        have HL := Lib.hid hL.out
        go_wp2
        go_ret
        exact ⟨_, rfl, by have := HL.out; rw [← this]; exact hown', hg, hob⟩
    · unfold maxLen at hcm
      have Hown := Lib.hid hown; have Hsv := Lib.hid hsv2
      have j1 : (l.length : Int) ≤ (c : Int) := by omega
      have hlm : l.length + [x].length ≤ maxLen := by simp [maxLen]; omega
      have hlb : (l.length + [x].length) * 16 ≤ 140737488355328 := by simp; omega
      clear hsv hsv2 hown hx hMv hM hne
      by_cases hc : c = l.length
      · subst hc
        go_enter Tryz.func68, Tryz.ntmps68
        go_wp2_with (at_builtin; refine wpList_append_Own gnC (M := M) (B := B) (l := l) (l' := [x]) TSns rfl (.tmp 23) (.tmp 24) rfl (v := .slice (some ⟨g, 0, none⟩) l.length l.length) rfl Hown.out rfl Hsv.out hlm hlb hB ?_)
        intro A' c' L w' hL hown' _ hg hob
        have HL := Lib.hid hL.out
        clear hL
        go_wp2
        go_ret
        exact ⟨_, rfl, by have := HL.out; rw [← this]; exact hown', hg, hob⟩
      · skip
        go_enter Tryz.func68, Tryz.ntmps68
        go_wp2_with (at_builtin; refine wpList_append_Own gnC (M := M) (B := B) (l := l) (l' := [x]) TSns rfl (.tmp 23) (.tmp 24) rfl (v := .slice (some ⟨g, 0, none⟩) l.length c) rfl Hown.out rfl Hsv.out hlm hlb hB ?_)
        intro A' c' L w' hL hown' _ hg hob
        have HL := Lib.hid hL.out
        clear hL
        go_wp2
        go_ret
        exact ⟨_, rfl, by have := HL.out; rw [← this]; exact hown', hg, hob⟩
  · obtain ⟨g, c, cur, rfl, hlc, hcm, hBg, hblk, hsz⟩ := hown.blk (by omega)
    obtain ⟨_, hels⟩ := hown.cells hblk
    obtain ⟨n, hn⟩ : ∃ n, l.length = n := ⟨_, rfl⟩
    rw [hn] at hlc hi hin hels hln ⊢
    have Hn := Lib.hid hn
    clear hn
    have hgne : g ≠ gv := fun e => hne (by rw [e]; rfl)
    have hil : i < n := by omega
    have hcn : gnC.n = 2 := rfl
    rw [hcn] at hels hsz
    have hgl := hblk.lt
    have hvl := hv.lt
    have hxk : cx.size = 2 := by have := gnC.len (hx M0); rw [hcn, Array.length_toList] at this; exact this
    have hk2 : n * 2 ≤ cur.size := by rw [hsz]; exact Nat.mul_le_mul_right _ hlc
    have hki : i * 2 + (n - i) * 2 = n * 2 := by rw [← Nat.add_mul]; congr 1; omega
    have hki1 : (i + 1) * 2 = i * 2 + 2 := by rw [Nat.add_mul, Nat.one_mul]
    obtain ⟨xs, hxs⟩ : ∃ xs, xs = cur.toList.take (n * 2) := ⟨_, rfl⟩
    rw [← hxs] at hels
    have hxl : xs.length = n * 2 := by rw [hxs, List.length_take, Array.length_toList]; omega
    have hxcell : ∀ (W : World), Blk W g 84 cur → ∀ (j : Nat) (u : Value), xs[j]? = some u → W.cell? ⟨g, j, none⟩ = some u := fun W hW j u hu => by
      rw [hW.cell]
      rw [hxs, List.getElem?_take] at hu
      split at hu
      · simpa using hu
      · cases hu
    have hone := hels.one
    have honex : ∀ u ∈ cx.toList, u.oneCell' = true := gnC.one (hx M0)
    have hdl : (xs.drop (i * 2)).length = (n - i) * 2 := by rw [List.length_drop, hxl, ← Nat.sub_mul]
    have hdone : ∀ u ∈ xs.drop (i * 2), u.oneCell' = true := fun u hu => hone u (List.mem_of_mem_drop hu)
    have hdcell : ∀ (W : World), Blk W g 84 cur → ∀ (j : Nat) (u : Value), (xs.drop (i * 2))[j]? = some u → W.cell? ((⟨g, i * 2, none⟩ : Addr).add j) = some u := fun W hW j u hu => by
      rw [add_zero_lit]; rw [List.getElem?_drop] at hu; exact hxcell W hW _ _ hu
    have hvcell : ∀ (W : World), Blk W gv 84 cx → ∀ (j : Nat) (u : Value), cx.toList[j]? = some u → W.cell? ((⟨gv, 0, none⟩ : Addr).add j) = some u := fun W hW j u hu => by
      rw [add_zero_lit, Nat.zero_add, hW.cell]; simpa using hu
    have htake : xs.take (i * 2) = cur.toList.take (i * 2) := by rw [hxs, List.take_take, Nat.min_eq_left (by omega)]
    have hllen : (l.take i ++ x :: l.drop i).length = n + 1 := by rw [List.length_append, List.length_take, List.length_cons, List.length_drop, Hn.out]; omega
    have helsN : ∀ (W : World), w.grownBy W (some g) → Els gnC (fun b => M b ∨ b = g) W (xs.take (i * 2) ++ (cx.toList ++ xs.drop (i * 2))) (l.take i ++ x :: l.drop i) := fun W hW =>
      ((hels.take i).append ((Els.single (C := gnC) (hx _)).append (hels.drop i))).keep (fun b hb hn => hW.block b hb fun e => hn (.inr (by injection e))) hW.size
    by_cases hcap : n + 1 ≤ c
    · -- there is room
      have hblkd : Blk w.drew g 84 cur := hblk
      have hnk : n * 2 + 2 ≤ cur.size := by rw [hsz, ← Nat.succ_mul]; exact Nat.mul_le_mul_right _ hcap
      have hfit : i * 2 + 2 + (n - i) * 2 ≤ cur.size := by omega
      obtain ⟨w1, hw1⟩ : ∃ w1, w1 = w.drew.setRow g (splice cur.toList ((i + 1) * 2) (xs.drop (i * 2))).toArray := ⟨_, rfl⟩
      have hrun1 : ∀ ty, (Builtin.copy_ #[38, 38] ty #[.slice (some ⟨g, (i + 1) * 2, none⟩) (n - i) (c - (i + 1)), .slice (some ⟨g, i * 2, none⟩) (n + 1 - i) (c - i)]).run Tryz.prog w.drew = .ok (.int .i64 (Nat.min (n + 1 - i) (n - i) : Nat)) w1 := fun ty => by
        rw [hw1]
        exact run_copy_in (P := Tryz.prog) TSns hblkd (o := (i + 1) * 2) _ _ (n - i) _ (n + 1 - i) _ (xs.drop (i * 2)) (by rw [hdl]; congr 1; show n - i = min (n + 1 - i) (n - i); omega) (fun _ => ⟨rfl, _, rfl, hdcell _ hblkd⟩) hdone (by rw [hdl, hki1]; exact hfit) ty
      have hblk1 : Blk w1 g 84 (splice cur.toList ((i + 1) * 2) (xs.drop (i * 2))).toArray := hw1 ▸ hblkd.setRow
      have hl1 : (splice cur.toList ((i + 1) * 2) (xs.drop (i * 2))).length = cur.size := by rw [length_splice, Array.length_toList]; rw [hdl, hki1, Array.length_toList]; omega
      have hgr1 : w.grownBy w1 (some g) := by
        rw [hw1]
        exact ⟨rfl, rfl, rfl, by simp [World.setRow], fun k _ hne => setRow_other _ _ _ _ (fun e => hne (by rw [e]))⟩
      have hv1 : Blk w1 gv 84 cx := hv.keep (hgr1.block gv hvl fun e => hgne (by injection e with e; exact e.symm))
      obtain ⟨w2, hw2⟩ : ∃ w2, w2 = w1.setRow g (splice (splice cur.toList ((i + 1) * 2) (xs.drop (i * 2))).toArray.toList (i * 2) cx.toList).toArray := ⟨_, rfl⟩
      have hrun2 : ∀ ty, (Builtin.copy_ #[38, 38] ty #[.slice (some ⟨g, i * 2, none⟩) (n + 1 - i) (c - i), .slice (some ⟨gv, 0, none⟩) 1 1]).run Tryz.prog w1 = .ok (.int .i64 (Nat.min 1 (n + 1 - i) : Nat)) w2 := fun ty => by
        rw [hw2]
        exact run_copy_in (P := Tryz.prog) TSns hblk1 (o := i * 2) _ _ (n + 1 - i) _ 1 _ cx.toList (by rw [Array.length_toList, hxk]; show 2 = min 1 (n + 1 - i) * 2; rw [Nat.min_eq_left (by omega), Nat.one_mul]) (fun _ => ⟨rfl, _, rfl, hvcell _ hv1⟩) honex (by rw [List.size_toArray, hl1, Array.length_toList, hxk]; omega) ty
      have hgr2 : w.grownBy w2 (some g) := by
        rw [hw2]
        exact ⟨hgr1.os, hgr1.tape, hgr1.output, by simpa [World.setRow] using hgr1.size, fun k hk hne => (setRow_other _ _ _ _ (fun e => hne (by rw [e]))).trans (hgr1.block k hk hne)⟩
      have hblk2 : Blk w2 g 84 (splice (splice cur.toList ((i + 1) * 2) (xs.drop (i * 2))) (i * 2) cx.toList).toArray := hw2 ▸ hblk1.setRow
      have hfin : Own gnC M w2 B 84 (.slice (some ⟨g, 0, none⟩) (n + 1) c) (l.take i ++ x :: l.drop i) := by
        refine Own.mk_row hblk2 hBg ?_ hllen hcap hcm (helsN w2 hgr2) ?_
        · rw [List.size_toArray, length_splice _ _ _ (by rw [hl1, Array.length_toList, hxk]; omega), hl1, hsz, hcn]
        · rw [List.toList_toArray, htake, hki1, hcn]
          refine splice_two _ _ _ _ 2 _ (by rw [Array.length_toList]; exact hxk) (by rw [hdl, Array.length_toList]; omega) ?_
          rw [hdl, Nat.succ_mul]; omega
      have hov : ∀ W, Blk W g 84 cur → Blk W gv 84 cx → (callFunc 98 #[.slice (some ⟨gv, 0, none⟩) 1 1, .slice (some ⟨g, (i + 1) * 2, none⟩) (n - i) (c - (i + 1))]).run Tryz.prog W = .ok (.value (.bool false)) W := fun W h1 h2 => by
        rw [run_callFunc_extern Tryz.func98 (by kernel_rfl) (by kernel_rfl) (by kernel_rfl) (e := Extern.SlicesOverlaps.overlaps #[38, 38] #[4]) (by kernel_rfl), run_overlaps_rows TSns 4 h2 h1 (fun e => hgne e.symm) (by rw [hsz]; have := Nat.mul_le_mul_right 2 hcap; omega)]
        rfl
      have hov0 := hov w hblk hv
      have Hrun1 := Lib.hid hrun1; have Hrun2 := Lib.hid hrun2; have Hfin := Lib.hid hfin; have Hgr := Lib.hid hgr2; have Hov := Lib.hid hov0
      have j1 : ¬ c = i := by omega
      have j2 : ¬ c = i + 1 := by omega
      have j3 : (n : Int) + 1 ≤ (c : Int) := by omega
      have j4 : (i : Int) ≤ (n : Int) := by omega
      have j5 : i ≤ n := by omega
      have j6 : i + 1 ≤ n + 1 := by omega
      have j7 : ((i : Int) == (n : Int)) = false := by simp; omega
      have j8 : ((c : Int) < (n : Int) + 1) = False := by simp; omega
      have j9 : (i : Int) + 1 ≤ (n : Int) + 1 := by omega
      have j10 : (i : Int) ≤ (n : Int) + 1 := by omega
      clear hrun1 hrun2 hfin hgr1 hgr2 hov hov0 hw1 hw2 hblk hblkd hblk1 hblk2 hels helsN hone honex hxcell hdcell hvcell hxl hxs hdl hdone hsz hk2 hki hki1 hl1 htake hllen hown hv hv1 hx hxk hcn hfit
      go_enter Tryz.func68, Tryz.ntmps68
      have hov := Hov.out
      go_wp2
      clear hov
      have hq1 : IntKind.i64.wrap ((i : Int) + 1) = (i : Int) + 1 := IntWalk.i64_in _ (by omega)
      have hq2 : ((i : Int) + 1).toNat = i + 1 := by omega
      have hq3 : (0 : Int) ≤ (i : Int) + 1 := by omega
      refine wp_region_D (fun _ => True) (fun _ => false) (by kernel_rfl) ?_
      refine anyD_light (i := 0) (v := ?_) rfl (by kernel_rfl) (by kernel_rfl) (by kernel_rfl) (by kernel_rfl) (by kernel_rfl) (fun _ _ _ h => h) (.inl ⟨rfl, fun W' _ => ?_⟩) (S := fun _ => True) trivial ?_
      rotate_left
      · (go_simp; rfl)
      go_simp
      refine anyD_light (i := 1) (v := ?_) rfl (by kernel_rfl) (by kernel_rfl) (by kernel_rfl) (by kernel_rfl) (by kernel_rfl) (fun _ _ _ h => h) (.inl ⟨rfl, fun W' _ => ?_⟩) (S := fun _ => True) trivial ?_
      rotate_left
      · (go_simp; rfl)
      go_simp
      refine anyD_light (i := 2) (v := ?_) rfl (by kernel_rfl) (by kernel_rfl) (by kernel_rfl) (by kernel_rfl) (by kernel_rfl) (fun _ _ _ h => h) (.inl ⟨rfl, fun W' _ => ?_⟩) (S := fun _ => True) trivial ?_
      rotate_left
      · (go_simp; rfl)
      go_simp
      refine anyD_light (i := 5) (v := ?_) rfl (by kernel_rfl) (by kernel_rfl) (by kernel_rfl) (by kernel_rfl) (by kernel_rfl) (fun _ _ _ h => h) (.inl ⟨rfl, fun W' _ => ?_⟩) (S := fun _ => True) trivial ?_
      rotate_left
      · (go_simp; rfl)
      go_simp
      refine anyD_light (i := 6) (v := ?_) rfl (by kernel_rfl) (by kernel_rfl) (by kernel_rfl) (by kernel_rfl) (by kernel_rfl) (fun _ _ _ h => h) (.inl ⟨rfl, fun W' _ => ?_⟩) (S := fun _ => True) trivial ?_
      rotate_left
      · (go_simp; rfl)
      go_simp
      refine anyD_light (i := 3) (v := ?_) rfl (by kernel_rfl) (by kernel_rfl) (by kernel_rfl) (by kernel_rfl) (by kernel_rfl) (fun _ _ _ h => h) (.inl ⟨rfl, fun W' _ => ?_⟩) (S := fun _ => True) trivial ?_
      rotate_left
      · (go_simp; rfl)
      go_simp
      refine anyD_light (i := 4) (v := ?_) rfl (by kernel_rfl) (by kernel_rfl) (by kernel_rfl) (by kernel_rfl) (by kernel_rfl) (fun _ _ _ h => h) (.inl ⟨rfl, fun W' _ => ?_⟩) (S := fun _ => True) trivial ?_
      rotate_left
      · (go_simp; rfl)
      go_simp
      refine anyD_light (i := 7) (v := ?_) rfl (by kernel_rfl) (by kernel_rfl) (by kernel_rfl) (by kernel_rfl) (by kernel_rfl) (fun _ _ _ h => h) (.inl ⟨rfl, fun W' _ => ?_⟩) (S := fun _ => True) trivial ?_
      rotate_left
      · (go_simp; rfl)
      go_simp
      refine anyD_one (i := 8) (by kernel_rfl) rfl rfl (fun K hK => ?_)
      have HK := Lib.hid hK
      clear hK
      refine wp_copy_run (.tmp 73) (.tmp 76) rfl (vx := .slice (some ⟨g, (i + 1) * 2, none⟩) (n - i) (c - (i + 1))) (vy := .slice (some ⟨g, i * 2, none⟩) (n + 1 - i) (c - i)) rfl rfl (Hrun1.out _) ?_
      refine HK.out _ _ (fun _ => trivial) ?_
      clear HK
      refine anyD_done (by kernel_rfl) ?_ _
      go_simp
      have hcp2 := Hrun2.out
      go_wp2
      go_ret
      exact ⟨_, rfl, Hfin.out, Hgr.out, .inl rfl⟩
    · -- a new row
      have hcn' : n = c := by omega
      subst hcn'
      obtain ⟨cc, cu, hC1, hC2, hC3, hC4, hrun0⟩ := run_append_zeros (P := Tryz.prog) (w := w) TSns (by omega) Tryz.underlying3 g 0 i n (n + 1 - i) (xs.take (i * 2)) (by rw [List.length_take, hxl]; omega) (fun j u hu => by
        rw [add_zero_lit, Nat.zero_add]
        rw [List.getElem?_take] at hu
        split at hu
        · exact hxcell w hblk _ _ hu
        · cases hu) (by omega) (by omega) (by simp only [maxLen]; omega) (by omega)
      rw [show i + (n + 1 - i) = n + 1 by omega] at hC1 hrun0
      obtain ⟨w1, hw1⟩ : ∃ w1, w1 = w.drew.alloc (.cells cu 84) := ⟨_, rfl⟩
      rw [← hw1, show ((n + 1 - i : Nat) : Int) = (n : Int) + 1 - (i : Int) by omega] at hrun0
      obtain ⟨q1, q2, q3, q4, q5⟩ := grownBy_new hw1
      have hblk1 : Blk w1 w.heap.size 84 cu := by rw [hw1]; exact heap_alloc_new w.drew _
      have hv1 : Blk w1 gv 84 cx := hv.keep (q5 gv hvl)
      have hcs : (n + 1) * 2 ≤ cu.size := by rw [hC3]; exact Nat.mul_le_mul_right _ hC1
      have hcs1 : (n + 1) * 2 = n * 2 + 2 := by rw [Nat.add_mul, Nat.one_mul]
      obtain ⟨w2, hw2⟩ : ∃ w2, w2 = w1.setRow w.heap.size (splice cu.toList (i * 2) cx.toList).toArray := ⟨_, rfl⟩
      have hrun1 : ∀ ty, (Builtin.copy_ #[38, 38] ty #[.slice (some ⟨w.heap.size, i * 2, none⟩) (n + 1 - i) (cc - i), .slice (some ⟨gv, 0, none⟩) 1 1]).run Tryz.prog w1 = .ok (.int .i64 (Nat.min 1 (n + 1 - i) : Nat)) w2 := fun ty => by
        rw [hw2]
        exact run_copy_in (P := Tryz.prog) TSns hblk1 (o := i * 2) _ _ (n + 1 - i) _ 1 _ cx.toList (by rw [Array.length_toList, hxk]; show 2 = min 1 (n + 1 - i) * 2; rw [Nat.min_eq_left (by omega), Nat.one_mul]) (fun _ => ⟨rfl, _, rfl, hvcell _ hv1⟩) honex (by rw [Array.length_toList, hxk]; omega) ty
      have hl1 : (splice cu.toList (i * 2) cx.toList).length = cu.size := by rw [length_splice, Array.length_toList]; rw [Array.length_toList, Array.length_toList, hxk]; omega
      have hblk2 : Blk w2 w.heap.size 84 (splice cu.toList (i * 2) cx.toList).toArray := hw2 ▸ hblk1.setRow
      have hblk2d : Blk w2.drew w.heap.size 84 (splice cu.toList (i * 2) cx.toList).toArray := hblk2
      have q5' : ∀ k, k < w.heap.size → w2.heap[k]? = w.heap[k]? := fun k hk => by rw [hw2]; exact (setRow_other _ _ _ _ (by omega)).trans (q5 k hk)
      have hg2 : Blk w2.drew g 84 cur := hblk.keep (q5' g hgl)
      obtain ⟨w3, hw3⟩ : ∃ w3, w3 = w2.drew.setRow w.heap.size (splice (splice cu.toList (i * 2) cx.toList).toArray.toList ((i + 1) * 2) (xs.drop (i * 2))).toArray := ⟨_, rfl⟩
      have hrun2 : ∀ ty, (Builtin.copy_ #[38, 38] ty #[.slice (some ⟨w.heap.size, (i + 1) * 2, none⟩) (n - i) (cc - (i + 1)), .slice (some ⟨g, i * 2, none⟩) (n - i) (n - i)]).run Tryz.prog w2.drew = .ok (.int .i64 (Nat.min (n - i) (n - i) : Nat)) w3 := fun ty => by
        rw [hw3]
        exact run_copy_in (P := Tryz.prog) TSns hblk2d (o := (i + 1) * 2) _ _ (n - i) _ (n - i) _ (xs.drop (i * 2)) (by rw [hdl]; congr 1; exact (Nat.min_self _).symm) (fun _ => ⟨rfl, _, rfl, hdcell _ hg2⟩) hdone (by rw [hdl, List.size_toArray, hl1]; omega) ty
      have hblk3 : Blk w3 w.heap.size 84 (splice (splice cu.toList (i * 2) cx.toList).toArray.toList ((i + 1) * 2) (xs.drop (i * 2))).toArray := hw3 ▸ hblk2d.setRow
      have hgr : w.grownBy w3 (some g) := by
        rw [hw3, hw2]
        refine ⟨q1, q2, q3, by simpa [World.setRow] using q4, fun k hk _ => ?_⟩
        refine (setRow_other _ _ _ _ (by omega)).trans ?_
        exact (setRow_other _ _ _ _ (by omega)).trans (q5 k hk)
      have he3 : Els gnC (fun b => M b ∨ b = w.heap.size) w3 (xs.take (i * 2) ++ (cx.toList ++ xs.drop (i * 2))) (l.take i ++ x :: l.drop i) := by
        have h1 : Els gnC (fun b => M b ∨ b = w.heap.size) w (xs.take (i * 2) ++ (cx.toList ++ xs.drop (i * 2))) (l.take i ++ x :: l.drop i) :=
          ((hels.take i).append ((Els.single (C := gnC) (hx _)).append (hels.drop i))).sub (fun b hb hor => hor.imp id fun e => absurd hb (by omega))
        refine h1.keep (fun b hb _ => ?_) hgr.size
        rw [hw3]
        exact (setRow_other _ _ _ _ (by omega)).trans (q5' b hb)
      have hfin : Own gnC M w3 B 84 (.slice (some ⟨w.heap.size, 0, none⟩) (n + 1) cc) (l.take i ++ x :: l.drop i) := by
        refine Own.mk_row hblk3 hB ?_ hllen hC1 hC2 he3 ?_
        · rw [List.size_toArray, length_splice _ _ _ (by rw [List.toList_toArray, hl1, hdl]; omega), List.toList_toArray, hl1, hC3, hcn]
        · rw [List.toList_toArray, List.toList_toArray, ← hC4, hki1, hcn]
          refine splice_two' _ _ _ _ 2 _ (by rw [Array.length_toList]; exact hxk) (by rw [hdl, Array.length_toList]; omega) ?_
          rw [hdl, Nat.succ_mul]; omega
      have Hrun0 := Lib.hid hrun0; have Hrun1 := Lib.hid hrun1; have Hrun2 := Lib.hid hrun2; have Hfin := Lib.hid hfin; have Hgr := Lib.hid hgr
      have j1 : ¬ n = i := by omega
      have j2 : ¬ cc = i := by omega
      have j2' : ¬ cc = i + 1 := by omega
      have j3 : (n : Int) + 1 ≤ (cc : Int) := by omega
      have j3' : n + 1 ≤ cc := hC1
      have j4 : (i : Int) ≤ (n : Int) := by omega
      have j5 : i ≤ n := by omega
      have j6 : i + 1 ≤ n + 1 := by omega
      have j7 : ((i : Int) == (n : Int)) = false := by simp; omega
      have j8 : ((n : Int) < (n : Int) + 1) = True := by simp; omega
      have j9 : (i : Int) + 1 ≤ (n : Int) + 1 := by omega
      have j10 : (i : Int) ≤ (n : Int) + 1 := by omega
      have j11 : ¬ n + 1 = i := by omega
      clear hrun0 hrun1 hrun2 hfin hgr he3 hw1 hw2 hw3 hblk hblk1 hblk2 hblk2d hblk3 hels helsN hone honex hxcell hdcell hvcell hxl hxs hdl hdone hsz hk2 hki hki1 hl1 htake hllen hown hv hv1 hx hxk hcn q1 q2 q3 q4 q5 q5' hg2 hcs hcs1 hC3 hC4
      go_enter Tryz.func68, Tryz.ntmps68
      have hcp := Hrun1.out
      go_wp2_with (at_builtin; refine wpList_append_run' rfl (.tmp 34) (.tmp 39) rfl (vx := .slice (some ⟨g, 0, none⟩) i n) (vy := .int .i64 ((n : Int) + 1 - (i : Int))) ?_ ?_ (Hrun0.out _ _) ?_; rfl; (go_simp))
      clear hcp Hrun1
      have hq1 : IntKind.i64.wrap ((i : Int) + 1) = (i : Int) + 1 := IntWalk.i64_in _ (by omega)
      have hq2 : ((i : Int) + 1).toNat = i + 1 := by omega
      have hq3 : (0 : Int) ≤ (i : Int) + 1 := by omega
      refine wp_region_D (fun _ => True) (fun _ => false) (by kernel_rfl) ?_
      refine anyD_light (i := 0) (v := ?_) rfl (by kernel_rfl) (by kernel_rfl) (by kernel_rfl) (by kernel_rfl) (by kernel_rfl) (fun _ _ _ h => h) (.inl ⟨rfl, fun W' _ => ?_⟩) (S := fun _ => True) trivial ?_
      rotate_left
      · (go_simp; rfl)
      go_simp
      refine anyD_light (i := 1) (v := ?_) rfl (by kernel_rfl) (by kernel_rfl) (by kernel_rfl) (by kernel_rfl) (by kernel_rfl) (fun _ _ _ h => h) (.inl ⟨rfl, fun W' _ => ?_⟩) (S := fun _ => True) trivial ?_
      rotate_left
      · (go_simp; rfl)
      go_simp
      refine anyD_light (i := 2) (v := ?_) rfl (by kernel_rfl) (by kernel_rfl) (by kernel_rfl) (by kernel_rfl) (by kernel_rfl) (fun _ _ _ h => h) (.inl ⟨rfl, fun W' _ => ?_⟩) (S := fun _ => True) trivial ?_
      rotate_left
      · (go_simp; rfl)
      go_simp
      refine anyD_light (i := 5) (v := ?_) rfl (by kernel_rfl) (by kernel_rfl) (by kernel_rfl) (by kernel_rfl) (by kernel_rfl) (fun _ _ _ h => h) (.inl ⟨rfl, fun W' _ => ?_⟩) (S := fun _ => True) trivial ?_
      rotate_left
      · (go_simp; rfl)
      go_simp
      refine anyD_light (i := 6) (v := ?_) rfl (by kernel_rfl) (by kernel_rfl) (by kernel_rfl) (by kernel_rfl) (by kernel_rfl) (fun _ _ _ h => h) (.inl ⟨rfl, fun W' _ => ?_⟩) (S := fun _ => True) trivial ?_
      rotate_left
      · (go_simp; rfl)
      go_simp
      refine anyD_light (i := 3) (v := ?_) rfl (by kernel_rfl) (by kernel_rfl) (by kernel_rfl) (by kernel_rfl) (by kernel_rfl) (fun _ _ _ h => h) (.inl ⟨rfl, fun W' _ => ?_⟩) (S := fun _ => True) trivial ?_
      rotate_left
      · (go_simp; rfl)
      go_simp
      refine anyD_light (i := 4) (v := ?_) rfl (by kernel_rfl) (by kernel_rfl) (by kernel_rfl) (by kernel_rfl) (by kernel_rfl) (fun _ _ _ h => h) (.inl ⟨rfl, fun W' _ => ?_⟩) (S := fun _ => True) trivial ?_
      rotate_left
      · (go_simp; rfl)
      go_simp
      refine anyD_light (i := 7) (v := ?_) rfl (by kernel_rfl) (by kernel_rfl) (by kernel_rfl) (by kernel_rfl) (by kernel_rfl) (fun _ _ _ h => h) (.inl ⟨rfl, fun W' _ => ?_⟩) (S := fun _ => True) trivial ?_
      rotate_left
      · (go_simp; rfl)
      go_simp
      refine anyD_one (i := 8) (by kernel_rfl) rfl rfl (fun K hK => ?_)
      have HK := Lib.hid hK
      clear hK
      refine wp_copy_run (.tmp 50) (.tmp 53) rfl (vx := .slice (some ⟨w.heap.size, (i + 1) * 2, none⟩) (n - i) (cc - (i + 1))) (vy := .slice (some ⟨g, i * 2, none⟩) (n - i) (n - i)) rfl rfl (Hrun2.out _) ?_
      refine HK.out _ _ (fun _ => trivial) ?_
      clear HK
      refine anyD_done (by kernel_rfl) ?_ _
      go_simp
      go_wp2
      go_ret
      exact ⟨_, rfl, Hfin.out, Hgr.out, .inr rfl⟩

end Go.Proofs.YtjamjkjmlckgeaaGreatDoor
