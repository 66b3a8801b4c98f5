/-
  Contracts and plain facts, one after another: slices.Insert on what the call owns: []api.Term; slices.Insert on what the call owns: []api.Posting; A place of a word is added: what the two searches tell, plain; what the call keeps; A place of a word is added: the second half, plain.
-/
import Derived.Test.YtfjpedgddgbelaaGreatDoorMSo5
import Derived.Test.YtfjpedgddgbelaaGreatDoorMSo10
import Derived.Outline
/-
  slices.Insert on what the call owns: []api.Term.
-/
namespace Go.Proofs.YtfjpedgddgbelaaGreatDoor
open Go.RowKit
set_option linter.unusedVariables false

set_option maxHeartbeats 4000000 in
theorem insertTerm_ok (M : Nat → Prop) (v : Value) (l : List _) (x : _) (i B gv : Nat) (cx : Array Value) (w : World) (hown : Own rtC M w B 43 v l) (hi : i ≤ l.length) (hln : l.length ≤ 4000000) (hv : Blk w gv 43 cx)
    (hx : ∀ M', rtC.rd M' w cx.toList x) (hne : v.ownBlock ≠ some gv) (hMv : ¬ M gv) (hB : B ≤ w.heap.size) (hM : ∀ b, M b → b < w.heap.size) :
    Calls Tryz.prog 112 #[v, .int .i64 (i : Int), .slice (some ⟨gv, 0, none⟩) 1 1] w fun e w' => ∃ v', e = .returned v' ∧ Own rtC M w' B 43 v' (l.take i ++ x :: l.drop i) ∧ w.grownBy w' v.ownBlock ∧ (v'.ownBlock = v.ownBlock ∨ v'.ownBlock = some w.heap.size) := by
  by_cases hin : i = l.length
  · -- at the end
    have hres : l.take i ++ x :: l.drop i = l ++ [x] := by rw [hin, List.take_length, List.drop_length]
    rw [hres]
    have hsv : ∀ row, row ≠ some gv → SlR rtC (fun b => M b ∨ row = some b) w (.slice (some ⟨gv, 0, none⟩) 1 1) [x] := fun row hrow =>
      ⟨_, 1, 1, cx.toList, rfl, rfl, Nat.le_refl _, by simp [maxLen], Els.single (hx _), fun _ => ⟨gv, 0, rfl, fun h => h.elim hMv hrow, hv.lt, fun j u hu => by
        rw [Nat.zero_add, hv.cell]; simpa using hu⟩⟩
    have hsv2 := hsv _ hne
    subst hin
    rcases hown.form with ⟨rfl, rfl⟩ | ⟨g, c, rfl, hlc, hcm, hBg, hgl⟩
    · go_enter Tryz.func112, Tryz.ntmps112
      go_wp2_with (at_builtin; refine wpList_append_Own rtC (M := M) (B := B) (l := []) (l' := [x]) TTerms rfl (.tmp 23) (.tmp 24) rfl rfl hown rfl hsv2 ?_ ?_ ?_ ?_)
      · simp [maxLen]
      · simp
      · exact hB
      · intro A' c' L w' hL hown' _ hg hob
        have HL := Lib.hid hL.out
        go_wp2
        go_ret
        exact ⟨_, rfl, by have := HL.out; rw [← this]; exact hown', hg, hob⟩
    · unfold maxLen at hcm
      have Hown := Lib.hid hown; have Hsv := Lib.hid hsv2
      have j1 : (l.length : Int) ≤ (c : Int) := by omega
      have hlm : l.length + [x].length ≤ maxLen := by simp [maxLen]; omega
      have hlb : (l.length + [x].length) * 40 ≤ 140737488355328 := by simp; omega
      clear hsv hsv2 hown hx hMv hM hne
      by_cases hc : c = l.length
      · subst hc
        go_enter Tryz.func112, Tryz.ntmps112
        go_wp2_with (at_builtin; refine wpList_append_Own rtC (M := M) (B := B) (l := l) (l' := [x]) TTerms rfl (.tmp 23) (.tmp 24) rfl (v := .slice (some ⟨g, 0, none⟩) l.length l.length) rfl Hown.out rfl Hsv.out hlm hlb hB ?_)
        intro A' c' L w' hL hown' _ hg hob
        have HL := Lib.hid hL.out
        clear hL
        go_wp2
        go_ret
        exact ⟨_, rfl, by have := HL.out; rw [← this]; exact hown', hg, hob⟩
      · skip
        go_enter Tryz.func112, Tryz.ntmps112
        go_wp2_with (at_builtin; refine wpList_append_Own rtC (M := M) (B := B) (l := l) (l' := [x]) TTerms rfl (.tmp 23) (.tmp 24) rfl (v := .slice (some ⟨g, 0, none⟩) l.length c) rfl Hown.out rfl Hsv.out hlm hlb hB ?_)
        intro A' c' L w' hL hown' _ hg hob
        have HL := Lib.hid hL.out
        clear hL
        go_wp2
        go_ret
        exact ⟨_, rfl, by have := HL.out; rw [← this]; exact hown', hg, hob⟩
  · obtain ⟨g, c, cur, rfl, hlc, hcm, hBg, hblk, hsz⟩ := hown.blk (by omega)
    obtain ⟨_, hels⟩ := hown.cells hblk
    obtain ⟨n, hn⟩ : ∃ n, l.length = n := ⟨_, rfl⟩
    rw [hn] at hlc hi hin hels hln ⊢
    have Hn := Lib.hid hn
    clear hn
    have hgne : g ≠ gv := fun e => hne (by rw [e]; rfl)
    have hil : i < n := by omega
    have hcn : rtC.n = 2 := rfl
    rw [hcn] at hels hsz
    have hgl := hblk.lt
    have hvl := hv.lt
    have hxk : cx.size = 2 := by have := rtC.len (hx M0); rw [hcn, Array.length_toList] at this; exact this
    have hk2 : n * 2 ≤ cur.size := by rw [hsz]; exact Nat.mul_le_mul_right _ hlc
    have hki : i * 2 + (n - i) * 2 = n * 2 := by rw [← Nat.add_mul]; congr 1; omega
    have hki1 : (i + 1) * 2 = i * 2 + 2 := by rw [Nat.add_mul, Nat.one_mul]
    obtain ⟨xs, hxs⟩ : ∃ xs, xs = cur.toList.take (n * 2) := ⟨_, rfl⟩
    rw [← hxs] at hels
    have hxl : xs.length = n * 2 := by rw [hxs, List.length_take, Array.length_toList]; omega
    have hxcell : ∀ (W : World), Blk W g 43 cur → ∀ (j : Nat) (u : Value), xs[j]? = some u → W.cell? ⟨g, j, none⟩ = some u := fun W hW j u hu => by
      rw [hW.cell]
      rw [hxs, List.getElem?_take] at hu
      split at hu
      · simpa using hu
      · cases hu
    have hone := hels.one
    have honex : ∀ u ∈ cx.toList, u.oneCell' = true := rtC.one (hx M0)
    have hdl : (xs.drop (i * 2)).length = (n - i) * 2 := by rw [List.length_drop, hxl, ← Nat.sub_mul]
    have hdone : ∀ u ∈ xs.drop (i * 2), u.oneCell' = true := fun u hu => hone u (List.mem_of_mem_drop hu)
    have hdcell : ∀ (W : World), Blk W g 43 cur → ∀ (j : Nat) (u : Value), (xs.drop (i * 2))[j]? = some u → W.cell? ((⟨g, i * 2, none⟩ : Addr).add j) = some u := fun W hW j u hu => by
      rw [add_zero_lit]; rw [List.getElem?_drop] at hu; exact hxcell W hW _ _ hu
    have hvcell : ∀ (W : World), Blk W gv 43 cx → ∀ (j : Nat) (u : Value), cx.toList[j]? = some u → W.cell? ((⟨gv, 0, none⟩ : Addr).add j) = some u := fun W hW j u hu => by
      rw [add_zero_lit, Nat.zero_add, hW.cell]; simpa using hu
    have htake : xs.take (i * 2) = cur.toList.take (i * 2) := by rw [hxs, List.take_take, Nat.min_eq_left (by omega)]
    have hllen : (l.take i ++ x :: l.drop i).length = n + 1 := by rw [List.length_append, List.length_take, List.length_cons, List.length_drop, Hn.out]; omega
    have helsN : ∀ (W : World), w.grownBy W (some g) → Els rtC (fun b => M b ∨ b = g) W (xs.take (i * 2) ++ (cx.toList ++ xs.drop (i * 2))) (l.take i ++ x :: l.drop i) := fun W hW =>
      ((hels.take i).append ((Els.single (C := rtC) (hx _)).append (hels.drop i))).keep (fun b hb hn => hW.block b hb fun e => hn (.inr (by injection e))) hW.size
    by_cases hcap : n + 1 ≤ c
    · -- there is room
      have hblkd : Blk w.drew g 43 cur := hblk
      have hnk : n * 2 + 2 ≤ cur.size := by rw [hsz, ← Nat.succ_mul]; exact Nat.mul_le_mul_right _ hcap
      have hfit : i * 2 + 2 + (n - i) * 2 ≤ cur.size := by omega
      obtain ⟨w1, hw1⟩ : ∃ w1, w1 = w.drew.setRow g (splice cur.toList ((i + 1) * 2) (xs.drop (i * 2))).toArray := ⟨_, rfl⟩
      have hrun1 : ∀ ty, (Builtin.copy_ #[23, 23] ty #[.slice (some ⟨g, (i + 1) * 2, none⟩) (n - i) (c - (i + 1)), .slice (some ⟨g, i * 2, none⟩) (n + 1 - i) (c - i)]).run Tryz.prog w.drew = .ok (.int .i64 (Nat.min (n + 1 - i) (n - i) : Nat)) w1 := fun ty => by
        rw [hw1]
        exact run_copy_in (P := Tryz.prog) TTerms hblkd (o := (i + 1) * 2) _ _ (n - i) _ (n + 1 - i) _ (xs.drop (i * 2)) (by rw [hdl]; congr 1; show n - i = min (n + 1 - i) (n - i); omega) (fun _ => ⟨rfl, _, rfl, hdcell _ hblkd⟩) hdone (by rw [hdl, hki1]; exact hfit) ty
      have hblk1 : Blk w1 g 43 (splice cur.toList ((i + 1) * 2) (xs.drop (i * 2))).toArray := hw1 ▸ hblkd.setRow
      have hl1 : (splice cur.toList ((i + 1) * 2) (xs.drop (i * 2))).length = cur.size := by rw [length_splice, Array.length_toList]; rw [hdl, hki1, Array.length_toList]; omega
      have hgr1 : w.grownBy w1 (some g) := by
        rw [hw1]
        exact ⟨rfl, rfl, rfl, by simp [World.setRow], fun k _ hne => setRow_other _ _ _ _ (fun e => hne (by rw [e]))⟩
      have hv1 : Blk w1 gv 43 cx := hv.keep (hgr1.block gv hvl fun e => hgne (by injection e with e; exact e.symm))
      obtain ⟨w2, hw2⟩ : ∃ w2, w2 = w1.setRow g (splice (splice cur.toList ((i + 1) * 2) (xs.drop (i * 2))).toArray.toList (i * 2) cx.toList).toArray := ⟨_, rfl⟩
      have hrun2 : ∀ ty, (Builtin.copy_ #[23, 23] ty #[.slice (some ⟨g, i * 2, none⟩) (n + 1 - i) (c - i), .slice (some ⟨gv, 0, none⟩) 1 1]).run Tryz.prog w1 = .ok (.int .i64 (Nat.min 1 (n + 1 - i) : Nat)) w2 := fun ty => by
        rw [hw2]
        exact run_copy_in (P := Tryz.prog) TTerms hblk1 (o := i * 2) _ _ (n + 1 - i) _ 1 _ cx.toList (by rw [Array.length_toList, hxk]; show 2 = min 1 (n + 1 - i) * 2; rw [Nat.min_eq_left (by omega), Nat.one_mul]) (fun _ => ⟨rfl, _, rfl, hvcell _ hv1⟩) honex (by rw [List.size_toArray, hl1, Array.length_toList, hxk]; omega) ty
      have hgr2 : w.grownBy w2 (some g) := by
        rw [hw2]
        exact ⟨hgr1.os, hgr1.tape, hgr1.output, by simpa [World.setRow] using hgr1.size, fun k hk hne => (setRow_other _ _ _ _ (fun e => hne (by rw [e]))).trans (hgr1.block k hk hne)⟩
      have hblk2 : Blk w2 g 43 (splice (splice cur.toList ((i + 1) * 2) (xs.drop (i * 2))) (i * 2) cx.toList).toArray := hw2 ▸ hblk1.setRow
      have hfin : Own rtC M w2 B 43 (.slice (some ⟨g, 0, none⟩) (n + 1) c) (l.take i ++ x :: l.drop i) := by
        refine Own.mk_row hblk2 hBg ?_ hllen hcap hcm (helsN w2 hgr2) ?_
        · rw [List.size_toArray, length_splice _ _ _ (by rw [hl1, Array.length_toList, hxk]; omega), hl1, hsz, hcn]
        · rw [List.toList_toArray, htake, hki1, hcn]
          refine splice_two _ _ _ _ 2 _ (by rw [Array.length_toList]; exact hxk) (by rw [hdl, Array.length_toList]; omega) ?_
          rw [hdl, Nat.succ_mul]; omega
      have hov : ∀ W, Blk W g 43 cur → Blk W gv 43 cx → (callFunc 158 #[.slice (some ⟨gv, 0, none⟩) 1 1, .slice (some ⟨g, (i + 1) * 2, none⟩) (n - i) (c - (i + 1))]).run Tryz.prog W = .ok (.value (.bool false)) W := fun W h1 h2 => by
        rw [run_callFunc_extern Tryz.func158 (by kernel_rfl) (by kernel_rfl) (by kernel_rfl) (e := Extern.SlicesOverlaps.overlaps #[23, 23] #[4]) (by kernel_rfl), run_overlaps_rows TTerms 4 h2 h1 (fun e => hgne e.symm) (by rw [hsz]; have := Nat.mul_le_mul_right 2 hcap; omega)]
        rfl
      have hov0 := hov w hblk hv
      have Hrun1 := Lib.hid hrun1; have Hrun2 := Lib.hid hrun2; have Hfin := Lib.hid hfin; have Hgr := Lib.hid hgr2; have Hov := Lib.hid hov0
      have j1 : ¬ c = i := by omega
      have j2 : ¬ c = i + 1 := by omega
      have j3 : (n : Int) + 1 ≤ (c : Int) := by omega
      have j4 : (i : Int) ≤ (n : Int) := by omega
      have j5 : i ≤ n := by omega
      have j6 : i + 1 ≤ n + 1 := by omega
      have j7 : ((i : Int) == (n : Int)) = false := by simp; omega
      have j8 : ((c : Int) < (n : Int) + 1) = False := by simp; omega
      have j9 : (i : Int) + 1 ≤ (n : Int) + 1 := by omega
      have j10 : (i : Int) ≤ (n : Int) + 1 := by omega
      clear hrun1 hrun2 hfin hgr1 hgr2 hov hov0 hw1 hw2 hblk hblkd hblk1 hblk2 hels helsN hone honex hxcell hdcell hvcell hxl hxs hdl hdone hsz hk2 hki hki1 hl1 htake hllen hown hv hv1 hx hxk hcn hfit
      go_enter Tryz.func112, Tryz.ntmps112
      have hov := Hov.out
      go_wp2
      clear hov
      have hq1 : IntKind.i64.wrap ((i : Int) + 1) = (i : Int) + 1 := IntWalk.i64_in _ (by omega)
      have hq2 : ((i : Int) + 1).toNat = i + 1 := by omega
      have hq3 : (0 : Int) ≤ (i : Int) + 1 := by omega
      refine wp_region_D (fun _ => True) (fun _ => false) (by kernel_rfl) ?_
      refine anyD_light (i := 0) (v := ?_) rfl (by kernel_rfl) (by kernel_rfl) (by kernel_rfl) (by kernel_rfl) (by kernel_rfl) (fun _ _ _ h => h) (.inl ⟨rfl, fun W' _ => ?_⟩) (S := fun _ => True) trivial ?_
      rotate_left
      · (go_simp; rfl)
      go_simp
      refine anyD_light (i := 1) (v := ?_) rfl (by kernel_rfl) (by kernel_rfl) (by kernel_rfl) (by kernel_rfl) (by kernel_rfl) (fun _ _ _ h => h) (.inl ⟨rfl, fun W' _ => ?_⟩) (S := fun _ => True) trivial ?_
      rotate_left
      · (go_simp; rfl)
      go_simp
      refine anyD_light (i := 2) (v := ?_) rfl (by kernel_rfl) (by kernel_rfl) (by kernel_rfl) (by kernel_rfl) (by kernel_rfl) (fun _ _ _ h => h) (.inl ⟨rfl, fun W' _ => ?_⟩) (S := fun _ => True) trivial ?_
      rotate_left
      · (go_simp; rfl)
      go_simp
      refine anyD_light (i := 5) (v := ?_) rfl (by kernel_rfl) (by kernel_rfl) (by kernel_rfl) (by kernel_rfl) (by kernel_rfl) (fun _ _ _ h => h) (.inl ⟨rfl, fun W' _ => ?_⟩) (S := fun _ => True) trivial ?_
      rotate_left
      · (go_simp; rfl)
      go_simp
      refine anyD_light (i := 6) (v := ?_) rfl (by kernel_rfl) (by kernel_rfl) (by kernel_rfl) (by kernel_rfl) (by kernel_rfl) (fun _ _ _ h => h) (.inl ⟨rfl, fun W' _ => ?_⟩) (S := fun _ => True) trivial ?_
      rotate_left
      · (go_simp; rfl)
      go_simp
      refine anyD_light (i := 3) (v := ?_) rfl (by kernel_rfl) (by kernel_rfl) (by kernel_rfl) (by kernel_rfl) (by kernel_rfl) (fun _ _ _ h => h) (.inl ⟨rfl, fun W' _ => ?_⟩) (S := fun _ => True) trivial ?_
      rotate_left
      · (go_simp; rfl)
      go_simp
      refine anyD_light (i := 4) (v := ?_) rfl (by kernel_rfl) (by kernel_rfl) (by kernel_rfl) (by kernel_rfl) (by kernel_rfl) (fun _ _ _ h => h) (.inl ⟨rfl, fun W' _ => ?_⟩) (S := fun _ => True) trivial ?_
      rotate_left
      · (go_simp; rfl)
      go_simp
      refine anyD_light (i := 7) (v := ?_) rfl (by kernel_rfl) (by kernel_rfl) (by kernel_rfl) (by kernel_rfl) (by kernel_rfl) (fun _ _ _ h => h) (.inl ⟨rfl, fun W' _ => ?_⟩) (S := fun _ => True) trivial ?_
      rotate_left
      · (go_simp; rfl)
      go_simp
      refine anyD_one (i := 8) (by kernel_rfl) rfl rfl (fun K hK => ?_)
      have HK := Lib.hid hK
      clear hK
      refine wp_copy_run (.tmp 73) (.tmp 76) rfl (vx := .slice (some ⟨g, (i + 1) * 2, none⟩) (n - i) (c - (i + 1))) (vy := .slice (some ⟨g, i * 2, none⟩) (n + 1 - i) (c - i)) rfl rfl (Hrun1.out _) ?_
      refine HK.out _ _ (fun _ => trivial) ?_
      clear HK
      refine anyD_done (by kernel_rfl) ?_ _
      go_simp
      have hcp2 := Hrun2.out
      go_wp2
      go_ret
      exact ⟨_, rfl, Hfin.out, Hgr.out, .inl rfl⟩
    · -- a new row
      have hcn' : n = c := by omega
      subst hcn'
      obtain ⟨cc, cu, hC1, hC2, hC3, hC4, hrun0⟩ := run_append_zeros (P := Tryz.prog) (w := w) TTerms (by omega) Tryz.underlying3 g 0 i n (n + 1 - i) (xs.take (i * 2)) (by rw [List.length_take, hxl]; omega) (fun j u hu => by
        rw [add_zero_lit, Nat.zero_add]
        rw [List.getElem?_take] at hu
        split at hu
        · exact hxcell w hblk _ _ hu
        · cases hu) (by omega) (by omega) (by simp only [maxLen]; omega) (by omega)
      rw [show i + (n + 1 - i) = n + 1 by omega] at hC1 hrun0
      obtain ⟨w1, hw1⟩ : ∃ w1, w1 = w.drew.alloc (.cells cu 43) := ⟨_, rfl⟩
      rw [← hw1, show ((n + 1 - i : Nat) : Int) = (n : Int) + 1 - (i : Int) by omega] at hrun0
      obtain ⟨q1, q2, q3, q4, q5⟩ := grownBy_new hw1
      have hblk1 : Blk w1 w.heap.size 43 cu := by rw [hw1]; exact heap_alloc_new w.drew _
      have hv1 : Blk w1 gv 43 cx := hv.keep (q5 gv hvl)
      have hcs : (n + 1) * 2 ≤ cu.size := by rw [hC3]; exact Nat.mul_le_mul_right _ hC1
      have hcs1 : (n + 1) * 2 = n * 2 + 2 := by rw [Nat.add_mul, Nat.one_mul]
      obtain ⟨w2, hw2⟩ : ∃ w2, w2 = w1.setRow w.heap.size (splice cu.toList (i * 2) cx.toList).toArray := ⟨_, rfl⟩
      have hrun1 : ∀ ty, (Builtin.copy_ #[23, 23] ty #[.slice (some ⟨w.heap.size, i * 2, none⟩) (n + 1 - i) (cc - i), .slice (some ⟨gv, 0, none⟩) 1 1]).run Tryz.prog w1 = .ok (.int .i64 (Nat.min 1 (n + 1 - i) : Nat)) w2 := fun ty => by
        rw [hw2]
        exact run_copy_in (P := Tryz.prog) TTerms hblk1 (o := i * 2) _ _ (n + 1 - i) _ 1 _ cx.toList (by rw [Array.length_toList, hxk]; show 2 = min 1 (n + 1 - i) * 2; rw [Nat.min_eq_left (by omega), Nat.one_mul]) (fun _ => ⟨rfl, _, rfl, hvcell _ hv1⟩) honex (by rw [Array.length_toList, hxk]; omega) ty
      have hl1 : (splice cu.toList (i * 2) cx.toList).length = cu.size := by rw [length_splice, Array.length_toList]; rw [Array.length_toList, Array.length_toList, hxk]; omega
      have hblk2 : Blk w2 w.heap.size 43 (splice cu.toList (i * 2) cx.toList).toArray := hw2 ▸ hblk1.setRow
      have hblk2d : Blk w2.drew w.heap.size 43 (splice cu.toList (i * 2) cx.toList).toArray := hblk2
      have q5' : ∀ k, k < w.heap.size → w2.heap[k]? = w.heap[k]? := fun k hk => by rw [hw2]; exact (setRow_other _ _ _ _ (by omega)).trans (q5 k hk)
      have hg2 : Blk w2.drew g 43 cur := hblk.keep (q5' g hgl)
      obtain ⟨w3, hw3⟩ : ∃ w3, w3 = w2.drew.setRow w.heap.size (splice (splice cu.toList (i * 2) cx.toList).toArray.toList ((i + 1) * 2) (xs.drop (i * 2))).toArray := ⟨_, rfl⟩
      have hrun2 : ∀ ty, (Builtin.copy_ #[23, 23] ty #[.slice (some ⟨w.heap.size, (i + 1) * 2, none⟩) (n - i) (cc - (i + 1)), .slice (some ⟨g, i * 2, none⟩) (n - i) (n - i)]).run Tryz.prog w2.drew = .ok (.int .i64 (Nat.min (n - i) (n - i) : Nat)) w3 := fun ty => by
        rw [hw3]
        exact run_copy_in (P := Tryz.prog) TTerms hblk2d (o := (i + 1) * 2) _ _ (n - i) _ (n - i) _ (xs.drop (i * 2)) (by rw [hdl]; congr 1; exact (Nat.min_self _).symm) (fun _ => ⟨rfl, _, rfl, hdcell _ hg2⟩) hdone (by rw [hdl, List.size_toArray, hl1]; omega) ty
      have hblk3 : Blk w3 w.heap.size 43 (splice (splice cu.toList (i * 2) cx.toList).toArray.toList ((i + 1) * 2) (xs.drop (i * 2))).toArray := hw3 ▸ hblk2d.setRow
      have hgr : w.grownBy w3 (some g) := by
        rw [hw3, hw2]
        refine ⟨q1, q2, q3, by simpa [World.setRow] using q4, fun k hk _ => ?_⟩
        refine (setRow_other _ _ _ _ (by omega)).trans ?_
        exact (setRow_other _ _ _ _ (by omega)).trans (q5 k hk)
      have he3 : Els rtC (fun b => M b ∨ b = w.heap.size) w3 (xs.take (i * 2) ++ (cx.toList ++ xs.drop (i * 2))) (l.take i ++ x :: l.drop i) := by
        have h1 : Els rtC (fun b => M b ∨ b = w.heap.size) w (xs.take (i * 2) ++ (cx.toList ++ xs.drop (i * 2))) (l.take i ++ x :: l.drop i) :=
          ((hels.take i).append ((Els.single (C := rtC) (hx _)).append (hels.drop i))).sub (fun b hb hor => hor.imp id fun e => absurd hb (by omega))
        refine h1.keep (fun b hb _ => ?_) hgr.size
        rw [hw3]
        exact (setRow_other _ _ _ _ (by omega)).trans (q5' b hb)
      have hfin : Own rtC M w3 B 43 (.slice (some ⟨w.heap.size, 0, none⟩) (n + 1) cc) (l.take i ++ x :: l.drop i) := by
        refine Own.mk_row hblk3 hB ?_ hllen hC1 hC2 he3 ?_
        · rw [List.size_toArray, length_splice _ _ _ (by rw [List.toList_toArray, hl1, hdl]; omega), List.toList_toArray, hl1, hC3, hcn]
        · rw [List.toList_toArray, List.toList_toArray, ← hC4, hki1, hcn]
          refine splice_two' _ _ _ _ 2 _ (by rw [Array.length_toList]; exact hxk) (by rw [hdl, Array.length_toList]; omega) ?_
          rw [hdl, Nat.succ_mul]; omega
      have Hrun0 := Lib.hid hrun0; have Hrun1 := Lib.hid hrun1; have Hrun2 := Lib.hid hrun2; have Hfin := Lib.hid hfin; have Hgr := Lib.hid hgr
      have j1 : ¬ n = i := by omega
      have j2 : ¬ cc = i := by omega
      have j2' : ¬ cc = i + 1 := by omega
      have j3 : (n : Int) + 1 ≤ (cc : Int) := by omega
      have j3' : n + 1 ≤ cc := hC1
      have j4 : (i : Int) ≤ (n : Int) := by omega
      have j5 : i ≤ n := by omega
      have j6 : i + 1 ≤ n + 1 := by omega
      have j7 : ((i : Int) == (n : Int)) = false := by simp; omega
      have j8 : ((n : Int) < (n : Int) + 1) = True := by simp; omega
      have j9 : (i : Int) + 1 ≤ (n : Int) + 1 := by omega
      have j10 : (i : Int) ≤ (n : Int) + 1 := by omega
      have j11 : ¬ n + 1 = i := by omega
      clear hrun0 hrun1 hrun2 hfin hgr he3 hw1 hw2 hw3 hblk hblk1 hblk2 hblk2d hblk3 hels helsN hone honex hxcell hdcell hvcell hxl hxs hdl hdone hsz hk2 hki hki1 hl1 htake hllen hown hv hv1 hx hxk hcn q1 q2 q3 q4 q5 q5' hg2 hcs hcs1 hC3 hC4
      go_enter Tryz.func112, Tryz.ntmps112
      have hcp := Hrun1.out
      go_wp2_with (at_builtin; refine wpList_append_run' rfl (.tmp 34) (.tmp 39) rfl (vx := .slice (some ⟨g, 0, none⟩) i n) (vy := .int .i64 ((n : Int) + 1 - (i : Int))) ?_ ?_ (Hrun0.out _ _) ?_; rfl; (go_simp))
      clear hcp Hrun1
      have hq1 : IntKind.i64.wrap ((i : Int) + 1) = (i : Int) + 1 := IntWalk.i64_in _ (by omega)
      have hq2 : ((i : Int) + 1).toNat = i + 1 := by omega
      have hq3 : (0 : Int) ≤ (i : Int) + 1 := by omega
      refine wp_region_D (fun _ => True) (fun _ => false) (by kernel_rfl) ?_
      refine anyD_light (i := 0) (v := ?_) rfl (by kernel_rfl) (by kernel_rfl) (by kernel_rfl) (by kernel_rfl) (by kernel_rfl) (fun _ _ _ h => h) (.inl ⟨rfl, fun W' _ => ?_⟩) (S := fun _ => True) trivial ?_
      rotate_left
      · (go_simp; rfl)
      go_simp
      refine anyD_light (i := 1) (v := ?_) rfl (by kernel_rfl) (by kernel_rfl) (by kernel_rfl) (by kernel_rfl) (by kernel_rfl) (fun _ _ _ h => h) (.inl ⟨rfl, fun W' _ => ?_⟩) (S := fun _ => True) trivial ?_
      rotate_left
      · (go_simp; rfl)
      go_simp
      refine anyD_light (i := 2) (v := ?_) rfl (by kernel_rfl) (by kernel_rfl) (by kernel_rfl) (by kernel_rfl) (by kernel_rfl) (fun _ _ _ h => h) (.inl ⟨rfl, fun W' _ => ?_⟩) (S := fun _ => True) trivial ?_
      rotate_left
      · (go_simp; rfl)
      go_simp
      refine anyD_light (i := 5) (v := ?_) rfl (by kernel_rfl) (by kernel_rfl) (by kernel_rfl) (by kernel_rfl) (by kernel_rfl) (fun _ _ _ h => h) (.inl ⟨rfl, fun W' _ => ?_⟩) (S := fun _ => True) trivial ?_
      rotate_left
      · (go_simp; rfl)
      go_simp
      refine anyD_light (i := 6) (v := ?_) rfl (by kernel_rfl) (by kernel_rfl) (by kernel_rfl) (by kernel_rfl) (by kernel_rfl) (fun _ _ _ h => h) (.inl ⟨rfl, fun W' _ => ?_⟩) (S := fun _ => True) trivial ?_
      rotate_left
      · (go_simp; rfl)
      go_simp
      refine anyD_light (i := 3) (v := ?_) rfl (by kernel_rfl) (by kernel_rfl) (by kernel_rfl) (by kernel_rfl) (by kernel_rfl) (fun _ _ _ h => h) (.inl ⟨rfl, fun W' _ => ?_⟩) (S := fun _ => True) trivial ?_
      rotate_left
      · (go_simp; rfl)
      go_simp
      refine anyD_light (i := 4) (v := ?_) rfl (by kernel_rfl) (by kernel_rfl) (by kernel_rfl) (by kernel_rfl) (by kernel_rfl) (fun _ _ _ h => h) (.inl ⟨rfl, fun W' _ => ?_⟩) (S := fun _ => True) trivial ?_
      rotate_left
      · (go_simp; rfl)
      go_simp
      refine anyD_light (i := 7) (v := ?_) rfl (by kernel_rfl) (by kernel_rfl) (by kernel_rfl) (by kernel_rfl) (by kernel_rfl) (fun _ _ _ h => h) (.inl ⟨rfl, fun W' _ => ?_⟩) (S := fun _ => True) trivial ?_
      rotate_left
      · (go_simp; rfl)
      go_simp
      refine anyD_one (i := 8) (by kernel_rfl) rfl rfl (fun K hK => ?_)
      have HK := Lib.hid hK
      clear hK
      refine wp_copy_run (.tmp 50) (.tmp 53) rfl (vx := .slice (some ⟨w.heap.size, (i + 1) * 2, none⟩) (n - i) (cc - (i + 1))) (vy := .slice (some ⟨g, i * 2, none⟩) (n - i) (n - i)) rfl rfl (Hrun2.out _) ?_
      refine HK.out _ _ (fun _ => trivial) ?_
      clear HK
      refine anyD_done (by kernel_rfl) ?_ _
      go_simp
      go_wp2
      go_ret
      exact ⟨_, rfl, Hfin.out, Hgr.out, .inr rfl⟩

end Go.Proofs.YtfjpedgddgbelaaGreatDoor
/-
  slices.Insert on what the call owns: []api.Posting.
-/
namespace Go.Proofs.YtfjpedgddgbelaaGreatDoor
open Go.RowKit
set_option linter.unusedVariables false

set_option maxHeartbeats 4000000 in
theorem insertPost_ok (M : Nat → Prop) (v : Value) (l : List _) (x : _) (i B gv : Nat) (cx : Array Value) (w : World) (hown : Own rpC M w B 96 v l) (hi : i ≤ l.length) (hln : l.length ≤ 4000000) (hv : Blk w gv 96 cx)
    (hx : ∀ M', rpC.rd M' w cx.toList x) (hne : v.ownBlock ≠ some gv) (hMv : ¬ M gv) (hB : B ≤ w.heap.size) (hM : ∀ b, M b → b < w.heap.size) :
    Calls Tryz.prog 115 #[v, .int .i64 (i : Int), .slice (some ⟨gv, 0, none⟩) 1 1] w fun e w' => ∃ v', e = .returned v' ∧ Own rpC M w' B 96 v' (l.take i ++ x :: l.drop i) ∧ w.grownBy w' v.ownBlock ∧ (v'.ownBlock = v.ownBlock ∨ v'.ownBlock = some w.heap.size) := by
  by_cases hin : i = l.length
  · -- at the end
    have hres : l.take i ++ x :: l.drop i = l ++ [x] := by rw [hin, List.take_length, List.drop_length]
    rw [hres]
    have hsv : ∀ row, row ≠ some gv → SlR rpC (fun b => M b ∨ row = some b) w (.slice (some ⟨gv, 0, none⟩) 1 1) [x] := fun row hrow =>
      ⟨_, 1, 1, cx.toList, rfl, rfl, Nat.le_refl _, by simp [maxLen], Els.single (hx _), fun _ => ⟨gv, 0, rfl, fun h => h.elim hMv hrow, hv.lt, fun j u hu => by
        rw [Nat.zero_add, hv.cell]; simpa using hu⟩⟩
    have hsv2 := hsv _ hne
    subst hin
    rcases hown.form with ⟨rfl, rfl⟩ | ⟨g, c, rfl, hlc, hcm, hBg, hgl⟩
    · go_enter Tryz.func115, Tryz.ntmps115
      go_wp2_with (at_builtin; refine wpList_append_Own rpC (M := M) (B := B) (l := []) (l' := [x]) TPosts rfl (.tmp 23) (.tmp 24) rfl rfl hown rfl hsv2 ?_ ?_ ?_ ?_)
      · simp [maxLen]
      · simp
      · exact hB
      · intro A' c' L w' hL hown' _ hg hob
        have HL := Lib.hid hL.out
        go_wp2
        go_ret
        exact ⟨_, rfl, by have := HL.out; rw [← this]; exact hown', hg, hob⟩
    · unfold maxLen at hcm
      have Hown := Lib.hid hown; have Hsv := Lib.hid hsv2
      have j1 : (l.length : Int) ≤ (c : Int) := by omega
      have hlm : l.length + [x].length ≤ maxLen := by simp [maxLen]; omega
      have hlb : (l.length + [x].length) * 32 ≤ 140737488355328 := by simp; omega
      clear hsv hsv2 hown hx hMv hM hne
      by_cases hc : c = l.length
      · subst hc
        go_enter Tryz.func115, Tryz.ntmps115
        go_wp2_with (at_builtin; refine wpList_append_Own rpC (M := M) (B := B) (l := l) (l' := [x]) TPosts rfl (.tmp 23) (.tmp 24) rfl (v := .slice (some ⟨g, 0, none⟩) l.length l.length) rfl Hown.out rfl Hsv.out hlm hlb hB ?_)
        intro A' c' L w' hL hown' _ hg hob
        have HL := Lib.hid hL.out
        clear hL
        go_wp2
        go_ret
        exact ⟨_, rfl, by have := HL.out; rw [← this]; exact hown', hg, hob⟩
      · skip
        go_enter Tryz.func115, Tryz.ntmps115
        go_wp2_with (at_builtin; refine wpList_append_Own rpC (M := M) (B := B) (l := l) (l' := [x]) TPosts rfl (.tmp 23) (.tmp 24) rfl (v := .slice (some ⟨g, 0, none⟩) l.length c) rfl Hown.out rfl Hsv.out hlm hlb hB ?_)
        intro A' c' L w' hL hown' _ hg hob
        have HL := Lib.hid hL.out
        clear hL
        go_wp2
        go_ret
        exact ⟨_, rfl, by have := HL.out; rw [← this]; exact hown', hg, hob⟩
  · obtain ⟨g, c, cur, rfl, hlc, hcm, hBg, hblk, hsz⟩ := hown.blk (by omega)
    obtain ⟨_, hels⟩ := hown.cells hblk
    obtain ⟨n, hn⟩ : ∃ n, l.length = n := ⟨_, rfl⟩
    rw [hn] at hlc hi hin hels hln ⊢
    have Hn := Lib.hid hn
    clear hn
    have hgne : g ≠ gv := fun e => hne (by rw [e]; rfl)
    have hil : i < n := by omega
    have hcn : rpC.n = 2 := rfl
    rw [hcn] at hels hsz
    have hgl := hblk.lt
    have hvl := hv.lt
    have hxk : cx.size = 2 := by have := rpC.len (hx M0); rw [hcn, Array.length_toList] at this; exact this
    have hk2 : n * 2 ≤ cur.size := by rw [hsz]; exact Nat.mul_le_mul_right _ hlc
    have hki : i * 2 + (n - i) * 2 = n * 2 := by rw [← Nat.add_mul]; congr 1; omega
    have hki1 : (i + 1) * 2 = i * 2 + 2 := by rw [Nat.add_mul, Nat.one_mul]
    obtain ⟨xs, hxs⟩ : ∃ xs, xs = cur.toList.take (n * 2) := ⟨_, rfl⟩
    rw [← hxs] at hels
    have hxl : xs.length = n * 2 := by rw [hxs, List.length_take, Array.length_toList]; omega
    have hxcell : ∀ (W : World), Blk W g 96 cur → ∀ (j : Nat) (u : Value), xs[j]? = some u → W.cell? ⟨g, j, none⟩ = some u := fun W hW j u hu => by
      rw [hW.cell]
      rw [hxs, List.getElem?_take] at hu
      split at hu
      · simpa using hu
      · cases hu
    have hone := hels.one
    have honex : ∀ u ∈ cx.toList, u.oneCell' = true := rpC.one (hx M0)
    have hdl : (xs.drop (i * 2)).length = (n - i) * 2 := by rw [List.length_drop, hxl, ← Nat.sub_mul]
    have hdone : ∀ u ∈ xs.drop (i * 2), u.oneCell' = true := fun u hu => hone u (List.mem_of_mem_drop hu)
    have hdcell : ∀ (W : World), Blk W g 96 cur → ∀ (j : Nat) (u : Value), (xs.drop (i * 2))[j]? = some u → W.cell? ((⟨g, i * 2, none⟩ : Addr).add j) = some u := fun W hW j u hu => by
      rw [add_zero_lit]; rw [List.getElem?_drop] at hu; exact hxcell W hW _ _ hu
    have hvcell : ∀ (W : World), Blk W gv 96 cx → ∀ (j : Nat) (u : Value), cx.toList[j]? = some u → W.cell? ((⟨gv, 0, none⟩ : Addr).add j) = some u := fun W hW j u hu => by
      rw [add_zero_lit, Nat.zero_add, hW.cell]; simpa using hu
    have htake : xs.take (i * 2) = cur.toList.take (i * 2) := by rw [hxs, List.take_take, Nat.min_eq_left (by omega)]
    have hllen : (l.take i ++ x :: l.drop i).length = n + 1 := by rw [List.length_append, List.length_take, List.length_cons, List.length_drop, Hn.out]; omega
    have helsN : ∀ (W : World), w.grownBy W (some g) → Els rpC (fun b => M b ∨ b = g) W (xs.take (i * 2) ++ (cx.toList ++ xs.drop (i * 2))) (l.take i ++ x :: l.drop i) := fun W hW =>
      ((hels.take i).append ((Els.single (C := rpC) (hx _)).append (hels.drop i))).keep (fun b hb hn => hW.block b hb fun e => hn (.inr (by injection e))) hW.size
    by_cases hcap : n + 1 ≤ c
    · -- there is room
      have hblkd : Blk w.drew g 96 cur := hblk
      have hnk : n * 2 + 2 ≤ cur.size := by rw [hsz, ← Nat.succ_mul]; exact Nat.mul_le_mul_right _ hcap
      have hfit : i * 2 + 2 + (n - i) * 2 ≤ cur.size := by omega
      obtain ⟨w1, hw1⟩ : ∃ w1, w1 = w.drew.setRow g (splice cur.toList ((i + 1) * 2) (xs.drop (i * 2))).toArray := ⟨_, rfl⟩
      have hrun1 : ∀ ty, (Builtin.copy_ #[31, 31] ty #[.slice (some ⟨g, (i + 1) * 2, none⟩) (n - i) (c - (i + 1)), .slice (some ⟨g, i * 2, none⟩) (n + 1 - i) (c - i)]).run Tryz.prog w.drew = .ok (.int .i64 (Nat.min (n + 1 - i) (n - i) : Nat)) w1 := fun ty => by
        rw [hw1]
        exact run_copy_in (P := Tryz.prog) TPosts hblkd (o := (i + 1) * 2) _ _ (n - i) _ (n + 1 - i) _ (xs.drop (i * 2)) (by rw [hdl]; congr 1; show n - i = min (n + 1 - i) (n - i); omega) (fun _ => ⟨rfl, _, rfl, hdcell _ hblkd⟩) hdone (by rw [hdl, hki1]; exact hfit) ty
      have hblk1 : Blk w1 g 96 (splice cur.toList ((i + 1) * 2) (xs.drop (i * 2))).toArray := hw1 ▸ hblkd.setRow
      have hl1 : (splice cur.toList ((i + 1) * 2) (xs.drop (i * 2))).length = cur.size := by rw [length_splice, Array.length_toList]; rw [hdl, hki1, Array.length_toList]; omega
      have hgr1 : w.grownBy w1 (some g) := by
        rw [hw1]
        exact ⟨rfl, rfl, rfl, by simp [World.setRow], fun k _ hne => setRow_other _ _ _ _ (fun e => hne (by rw [e]))⟩
      have hv1 : Blk w1 gv 96 cx := hv.keep (hgr1.block gv hvl fun e => hgne (by injection e with e; exact e.symm))
      obtain ⟨w2, hw2⟩ : ∃ w2, w2 = w1.setRow g (splice (splice cur.toList ((i + 1) * 2) (xs.drop (i * 2))).toArray.toList (i * 2) cx.toList).toArray := ⟨_, rfl⟩
      have hrun2 : ∀ ty, (Builtin.copy_ #[31, 31] ty #[.slice (some ⟨g, i * 2, none⟩) (n + 1 - i) (c - i), .slice (some ⟨gv, 0, none⟩) 1 1]).run Tryz.prog w1 = .ok (.int .i64 (Nat.min 1 (n + 1 - i) : Nat)) w2 := fun ty => by
        rw [hw2]
        exact run_copy_in (P := Tryz.prog) TPosts hblk1 (o := i * 2) _ _ (n + 1 - i) _ 1 _ cx.toList (by rw [Array.length_toList, hxk]; show 2 = min 1 (n + 1 - i) * 2; rw [Nat.min_eq_left (by omega), Nat.one_mul]) (fun _ => ⟨rfl, _, rfl, hvcell _ hv1⟩) honex (by rw [List.size_toArray, hl1, Array.length_toList, hxk]; omega) ty
      have hgr2 : w.grownBy w2 (some g) := by
        rw [hw2]
        exact ⟨hgr1.os, hgr1.tape, hgr1.output, by simpa [World.setRow] using hgr1.size, fun k hk hne => (setRow_other _ _ _ _ (fun e => hne (by rw [e]))).trans (hgr1.block k hk hne)⟩
      have hblk2 : Blk w2 g 96 (splice (splice cur.toList ((i + 1) * 2) (xs.drop (i * 2))) (i * 2) cx.toList).toArray := hw2 ▸ hblk1.setRow
      have hfin : Own rpC M w2 B 96 (.slice (some ⟨g, 0, none⟩) (n + 1) c) (l.take i ++ x :: l.drop i) := by
        refine Own.mk_row hblk2 hBg ?_ hllen hcap hcm (helsN w2 hgr2) ?_
        · rw [List.size_toArray, length_splice _ _ _ (by rw [hl1, Array.length_toList, hxk]; omega), hl1, hsz, hcn]
        · rw [List.toList_toArray, htake, hki1, hcn]
          refine splice_two _ _ _ _ 2 _ (by rw [Array.length_toList]; exact hxk) (by rw [hdl, Array.length_toList]; omega) ?_
          rw [hdl, Nat.succ_mul]; omega
      have hov : ∀ W, Blk W g 96 cur → Blk W gv 96 cx → (callFunc 160 #[.slice (some ⟨gv, 0, none⟩) 1 1, .slice (some ⟨g, (i + 1) * 2, none⟩) (n - i) (c - (i + 1))]).run Tryz.prog W = .ok (.value (.bool false)) W := fun W h1 h2 => by
        rw [run_callFunc_extern Tryz.func160 (by kernel_rfl) (by kernel_rfl) (by kernel_rfl) (e := Extern.SlicesOverlaps.overlaps #[31, 31] #[4]) (by kernel_rfl), run_overlaps_rows TPosts 4 h2 h1 (fun e => hgne e.symm) (by rw [hsz]; have := Nat.mul_le_mul_right 2 hcap; omega)]
        rfl
      have hov0 := hov w hblk hv
      have Hrun1 := Lib.hid hrun1; have Hrun2 := Lib.hid hrun2; have Hfin := Lib.hid hfin; have Hgr := Lib.hid hgr2; have Hov := Lib.hid hov0
      have j1 : ¬ c = i := by omega
      have j2 : ¬ c = i + 1 := by omega
      have j3 : (n : Int) + 1 ≤ (c : Int) := by omega
      have j4 : (i : Int) ≤ (n : Int) := by omega
      have j5 : i ≤ n := by omega
      have j6 : i + 1 ≤ n + 1 := by omega
      have j7 : ((i : Int) == (n : Int)) = false := by simp; omega
      have j8 : ((c : Int) < (n : Int) + 1) = False := by simp; omega
      have j9 : (i : Int) + 1 ≤ (n : Int) + 1 := by omega
      have j10 : (i : Int) ≤ (n : Int) + 1 := by omega
      clear hrun1 hrun2 hfin hgr1 hgr2 hov hov0 hw1 hw2 hblk hblkd hblk1 hblk2 hels helsN hone honex hxcell hdcell hvcell hxl hxs hdl hdone hsz hk2 hki hki1 hl1 htake hllen hown hv hv1 hx hxk hcn hfit
      go_enter Tryz.func115, Tryz.ntmps115
      have hov := Hov.out
      go_wp2
      clear hov
      have hq1 : IntKind.i64.wrap ((i : Int) + 1) = (i : Int) + 1 := IntWalk.i64_in _ (by omega)
      have hq2 : ((i : Int) + 1).toNat = i + 1 := by omega
      have hq3 : (0 : Int) ≤ (i : Int) + 1 := by omega
      refine wp_region_D (fun _ => True) (fun _ => false) (by kernel_rfl) ?_
      refine anyD_light (i := 0) (v := ?_) rfl (by kernel_rfl) (by kernel_rfl) (by kernel_rfl) (by kernel_rfl) (by kernel_rfl) (fun _ _ _ h => h) (.inl ⟨rfl, fun W' _ => ?_⟩) (S := fun _ => True) trivial ?_
      rotate_left
      · (go_simp; rfl)
      go_simp
      refine anyD_light (i := 1) (v := ?_) rfl (by kernel_rfl) (by kernel_rfl) (by kernel_rfl) (by kernel_rfl) (by kernel_rfl) (fun _ _ _ h => h) (.inl ⟨rfl, fun W' _ => ?_⟩) (S := fun _ => True) trivial ?_
      rotate_left
      · (go_simp; rfl)
      go_simp
      refine anyD_light (i := 2) (v := ?_) rfl (by kernel_rfl) (by kernel_rfl) (by kernel_rfl) (by kernel_rfl) (by kernel_rfl) (fun _ _ _ h => h) (.inl ⟨rfl, fun W' _ => ?_⟩) (S := fun _ => True) trivial ?_
      rotate_left
      · (go_simp; rfl)
      go_simp
      refine anyD_light (i := 5) (v := ?_) rfl (by kernel_rfl) (by kernel_rfl) (by kernel_rfl) (by kernel_rfl) (by kernel_rfl) (fun _ _ _ h => h) (.inl ⟨rfl, fun W' _ => ?_⟩) (S := fun _ => True) trivial ?_
      rotate_left
      · (go_simp; rfl)
      go_simp
      refine anyD_light (i := 6) (v := ?_) rfl (by kernel_rfl) (by kernel_rfl) (by kernel_rfl) (by kernel_rfl) (by kernel_rfl) (fun _ _ _ h => h) (.inl ⟨rfl, fun W' _ => ?_⟩) (S := fun _ => True) trivial ?_
      rotate_left
      · (go_simp; rfl)
      go_simp
      refine anyD_light (i := 3) (v := ?_) rfl (by kernel_rfl) (by kernel_rfl) (by kernel_rfl) (by kernel_rfl) (by kernel_rfl) (fun _ _ _ h => h) (.inl ⟨rfl, fun W' _ => ?_⟩) (S := fun _ => True) trivial ?_
      rotate_left
      · (go_simp; rfl)
      go_simp
      refine anyD_light (i := 4) (v := ?_) rfl (by kernel_rfl) (by kernel_rfl) (by kernel_rfl) (by kernel_rfl) (by kernel_rfl) (fun _ _ _ h => h) (.inl ⟨rfl, fun W' _ => ?_⟩) (S := fun _ => True) trivial ?_
      rotate_left
      · (go_simp; rfl)
      go_simp
      refine anyD_light (i := 7) (v := ?_) rfl (by kernel_rfl) (by kernel_rfl) (by kernel_rfl) (by kernel_rfl) (by kernel_rfl) (fun _ _ _ h => h) (.inl ⟨rfl, fun W' _ => ?_⟩) (S := fun _ => True) trivial ?_
      rotate_left
      · (go_simp; rfl)
      go_simp
      refine anyD_one (i := 8) (by kernel_rfl) rfl rfl (fun K hK => ?_)
      have HK := Lib.hid hK
      clear hK
      refine wp_copy_run (.tmp 73) (.tmp 76) rfl (vx := .slice (some ⟨g, (i + 1) * 2, none⟩) (n - i) (c - (i + 1))) (vy := .slice (some ⟨g, i * 2, none⟩) (n + 1 - i) (c - i)) rfl rfl (Hrun1.out _) ?_
      refine HK.out _ _ (fun _ => trivial) ?_
      clear HK
      refine anyD_done (by kernel_rfl) ?_ _
      go_simp
      have hcp2 := Hrun2.out
      go_wp2
      go_ret
      exact ⟨_, rfl, Hfin.out, Hgr.out, .inl rfl⟩
    · -- a new row
      have hcn' : n = c := by omega
      subst hcn'
      obtain ⟨cc, cu, hC1, hC2, hC3, hC4, hrun0⟩ := run_append_zeros (P := Tryz.prog) (w := w) TPosts (by omega) Tryz.underlying3 g 0 i n (n + 1 - i) (xs.take (i * 2)) (by rw [List.length_take, hxl]; omega) (fun j u hu => by
        rw [add_zero_lit, Nat.zero_add]
        rw [List.getElem?_take] at hu
        split at hu
        · exact hxcell w hblk _ _ hu
        · cases hu) (by omega) (by omega) (by simp only [maxLen]; omega) (by omega)
      rw [show i + (n + 1 - i) = n + 1 by omega] at hC1 hrun0
      obtain ⟨w1, hw1⟩ : ∃ w1, w1 = w.drew.alloc (.cells cu 96) := ⟨_, rfl⟩
      rw [← hw1, show ((n + 1 - i : Nat) : Int) = (n : Int) + 1 - (i : Int) by omega] at hrun0
      obtain ⟨q1, q2, q3, q4, q5⟩ := grownBy_new hw1
      have hblk1 : Blk w1 w.heap.size 96 cu := by rw [hw1]; exact heap_alloc_new w.drew _
      have hv1 : Blk w1 gv 96 cx := hv.keep (q5 gv hvl)
      have hcs : (n + 1) * 2 ≤ cu.size := by rw [hC3]; exact Nat.mul_le_mul_right _ hC1
      have hcs1 : (n + 1) * 2 = n * 2 + 2 := by rw [Nat.add_mul, Nat.one_mul]
      obtain ⟨w2, hw2⟩ : ∃ w2, w2 = w1.setRow w.heap.size (splice cu.toList (i * 2) cx.toList).toArray := ⟨_, rfl⟩
      have hrun1 : ∀ ty, (Builtin.copy_ #[31, 31] ty #[.slice (some ⟨w.heap.size, i * 2, none⟩) (n + 1 - i) (cc - i), .slice (some ⟨gv, 0, none⟩) 1 1]).run Tryz.prog w1 = .ok (.int .i64 (Nat.min 1 (n + 1 - i) : Nat)) w2 := fun ty => by
        rw [hw2]
        exact run_copy_in (P := Tryz.prog) TPosts hblk1 (o := i * 2) _ _ (n + 1 - i) _ 1 _ cx.toList (by rw [Array.length_toList, hxk]; show 2 = min 1 (n + 1 - i) * 2; rw [Nat.min_eq_left (by omega), Nat.one_mul]) (fun _ => ⟨rfl, _, rfl, hvcell _ hv1⟩) honex (by rw [Array.length_toList, hxk]; omega) ty
      have hl1 : (splice cu.toList (i * 2) cx.toList).length = cu.size := by rw [length_splice, Array.length_toList]; rw [Array.length_toList, Array.length_toList, hxk]; omega
      have hblk2 : Blk w2 w.heap.size 96 (splice cu.toList (i * 2) cx.toList).toArray := hw2 ▸ hblk1.setRow
      have hblk2d : Blk w2.drew w.heap.size 96 (splice cu.toList (i * 2) cx.toList).toArray := hblk2
      have q5' : ∀ k, k < w.heap.size → w2.heap[k]? = w.heap[k]? := fun k hk => by rw [hw2]; exact (setRow_other _ _ _ _ (by omega)).trans (q5 k hk)
      have hg2 : Blk w2.drew g 96 cur := hblk.keep (q5' g hgl)
      obtain ⟨w3, hw3⟩ : ∃ w3, w3 = w2.drew.setRow w.heap.size (splice (splice cu.toList (i * 2) cx.toList).toArray.toList ((i + 1) * 2) (xs.drop (i * 2))).toArray := ⟨_, rfl⟩
      have hrun2 : ∀ ty, (Builtin.copy_ #[31, 31] ty #[.slice (some ⟨w.heap.size, (i + 1) * 2, none⟩) (n - i) (cc - (i + 1)), .slice (some ⟨g, i * 2, none⟩) (n - i) (n - i)]).run Tryz.prog w2.drew = .ok (.int .i64 (Nat.min (n - i) (n - i) : Nat)) w3 := fun ty => by
        rw [hw3]
        exact run_copy_in (P := Tryz.prog) TPosts hblk2d (o := (i + 1) * 2) _ _ (n - i) _ (n - i) _ (xs.drop (i * 2)) (by rw [hdl]; congr 1; exact (Nat.min_self _).symm) (fun _ => ⟨rfl, _, rfl, hdcell _ hg2⟩) hdone (by rw [hdl, List.size_toArray, hl1]; omega) ty
      have hblk3 : Blk w3 w.heap.size 96 (splice (splice cu.toList (i * 2) cx.toList).toArray.toList ((i + 1) * 2) (xs.drop (i * 2))).toArray := hw3 ▸ hblk2d.setRow
      have hgr : w.grownBy w3 (some g) := by
        rw [hw3, hw2]
        refine ⟨q1, q2, q3, by simpa [World.setRow] using q4, fun k hk _ => ?_⟩
        refine (setRow_other _ _ _ _ (by omega)).trans ?_
        exact (setRow_other _ _ _ _ (by omega)).trans (q5 k hk)
      have he3 : Els rpC (fun b => M b ∨ b = w.heap.size) w3 (xs.take (i * 2) ++ (cx.toList ++ xs.drop (i * 2))) (l.take i ++ x :: l.drop i) := by
        have h1 : Els rpC (fun b => M b ∨ b = w.heap.size) w (xs.take (i * 2) ++ (cx.toList ++ xs.drop (i * 2))) (l.take i ++ x :: l.drop i) :=
          ((hels.take i).append ((Els.single (C := rpC) (hx _)).append (hels.drop i))).sub (fun b hb hor => hor.imp id fun e => absurd hb (by omega))
        refine h1.keep (fun b hb _ => ?_) hgr.size
        rw [hw3]
        exact (setRow_other _ _ _ _ (by omega)).trans (q5' b hb)
      have hfin : Own rpC M w3 B 96 (.slice (some ⟨w.heap.size, 0, none⟩) (n + 1) cc) (l.take i ++ x :: l.drop i) := by
        refine Own.mk_row hblk3 hB ?_ hllen hC1 hC2 he3 ?_
        · rw [List.size_toArray, length_splice _ _ _ (by rw [List.toList_toArray, hl1, hdl]; omega), List.toList_toArray, hl1, hC3, hcn]
        · rw [List.toList_toArray, List.toList_toArray, ← hC4, hki1, hcn]
          refine splice_two' _ _ _ _ 2 _ (by rw [Array.length_toList]; exact hxk) (by rw [hdl, Array.length_toList]; omega) ?_
          rw [hdl, Nat.succ_mul]; omega
      have Hrun0 := Lib.hid hrun0; have Hrun1 := Lib.hid hrun1; have Hrun2 := Lib.hid hrun2; have Hfin := Lib.hid hfin; have Hgr := Lib.hid hgr
      have j1 : ¬ n = i := by omega
      have j2 : ¬ cc = i := by omega
      have j2' : ¬ cc = i + 1 := by omega
      have j3 : (n : Int) + 1 ≤ (cc : Int) := by omega
      have j3' : n + 1 ≤ cc := hC1
      have j4 : (i : Int) ≤ (n : Int) := by omega
      have j5 : i ≤ n := by omega
      have j6 : i + 1 ≤ n + 1 := by omega
      have j7 : ((i : Int) == (n : Int)) = false := by simp; omega
      have j8 : ((n : Int) < (n : Int) + 1) = True := by simp; omega
      have j9 : (i : Int) + 1 ≤ (n : Int) + 1 := by omega
      have j10 : (i : Int) ≤ (n : Int) + 1 := by omega
      have j11 : ¬ n + 1 = i := by omega
      clear hrun0 hrun1 hrun2 hfin hgr he3 hw1 hw2 hw3 hblk hblk1 hblk2 hblk2d hblk3 hels helsN hone honex hxcell hdcell hvcell hxl hxs hdl hdone hsz hk2 hki hki1 hl1 htake hllen hown hv hv1 hx hxk hcn q1 q2 q3 q4 q5 q5' hg2 hcs hcs1 hC3 hC4
      go_enter Tryz.func115, Tryz.ntmps115
      have hcp := Hrun1.out
      go_wp2_with (at_builtin; refine wpList_append_run' rfl (.tmp 34) (.tmp 39) rfl (vx := .slice (some ⟨g, 0, none⟩) i n) (vy := .int .i64 ((n : Int) + 1 - (i : Int))) ?_ ?_ (Hrun0.out _ _) ?_; rfl; (go_simp))
      clear hcp Hrun1
      have hq1 : IntKind.i64.wrap ((i : Int) + 1) = (i : Int) + 1 := IntWalk.i64_in _ (by omega)
      have hq2 : ((i : Int) + 1).toNat = i + 1 := by omega
      have hq3 : (0 : Int) ≤ (i : Int) + 1 := by omega
      refine wp_region_D (fun _ => True) (fun _ => false) (by kernel_rfl) ?_
      refine anyD_light (i := 0) (v := ?_) rfl (by kernel_rfl) (by kernel_rfl) (by kernel_rfl) (by kernel_rfl) (by kernel_rfl) (fun _ _ _ h => h) (.inl ⟨rfl, fun W' _ => ?_⟩) (S := fun _ => True) trivial ?_
      rotate_left
      · (go_simp; rfl)
      go_simp
      refine anyD_light (i := 1) (v := ?_) rfl (by kernel_rfl) (by kernel_rfl) (by kernel_rfl) (by kernel_rfl) (by kernel_rfl) (fun _ _ _ h => h) (.inl ⟨rfl, fun W' _ => ?_⟩) (S := fun _ => True) trivial ?_
      rotate_left
      · (go_simp; rfl)
      go_simp
      refine anyD_light (i := 2) (v := ?_) rfl (by kernel_rfl) (by kernel_rfl) (by kernel_rfl) (by kernel_rfl) (by kernel_rfl) (fun _ _ _ h => h) (.inl ⟨rfl, fun W' _ => ?_⟩) (S := fun _ => True) trivial ?_
      rotate_left
      · (go_simp; rfl)
      go_simp
      refine anyD_light (i := 5) (v := ?_) rfl (by kernel_rfl) (by kernel_rfl) (by kernel_rfl) (by kernel_rfl) (by kernel_rfl) (fun _ _ _ h => h) (.inl ⟨rfl, fun W' _ => ?_⟩) (S := fun _ => True) trivial ?_
      rotate_left
      · (go_simp; rfl)
      go_simp
      refine anyD_light (i := 6) (v := ?_) rfl (by kernel_rfl) (by kernel_rfl) (by kernel_rfl) (by kernel_rfl) (by kernel_rfl) (fun _ _ _ h => h) (.inl ⟨rfl, fun W' _ => ?_⟩) (S := fun _ => True) trivial ?_
      rotate_left
      · (go_simp; rfl)
      go_simp
      refine anyD_light (i := 3) (v := ?_) rfl (by kernel_rfl) (by kernel_rfl) (by kernel_rfl) (by kernel_rfl) (by kernel_rfl) (fun _ _ _ h => h) (.inl ⟨rfl, fun W' _ => ?_⟩) (S := fun _ => True) trivial ?_
      rotate_left
      · (go_simp; rfl)
      go_simp
      refine anyD_light (i := 4) (v := ?_) rfl (by kernel_rfl) (by kernel_rfl) (by kernel_rfl) (by kernel_rfl) (by kernel_rfl) (fun _ _ _ h => h) (.inl ⟨rfl, fun W' _ => ?_⟩) (S := fun _ => True) trivial ?_
      rotate_left
      · (go_simp; rfl)
      go_simp
      refine anyD_light (i := 7) (v := ?_) rfl (by kernel_rfl) (by kernel_rfl) (by kernel_rfl) (by kernel_rfl) (by kernel_rfl) (fun _ _ _ h => h) (.inl ⟨rfl, fun W' _ => ?_⟩) (S := fun _ => True) trivial ?_
      rotate_left
      · (go_simp; rfl)
      go_simp
      refine anyD_one (i := 8) (by kernel_rfl) rfl rfl (fun K hK => ?_)
      have HK := Lib.hid hK
      clear hK
      refine wp_copy_run (.tmp 50) (.tmp 53) rfl (vx := .slice (some ⟨w.heap.size, (i + 1) * 2, none⟩) (n - i) (cc - (i + 1))) (vy := .slice (some ⟨g, i * 2, none⟩) (n - i) (n - i)) rfl rfl (Hrun2.out _) ?_
      refine HK.out _ _ (fun _ => trivial) ?_
      clear HK
      refine anyD_done (by kernel_rfl) ?_ _
      go_simp
      go_wp2
      go_ret
      exact ⟨_, rfl, Hfin.out, Hgr.out, .inr rfl⟩

end Go.Proofs.YtfjpedgddgbelaaGreatDoor
/-
  A place of a word is added: what the two searches tell, plain; what the call keeps.
-/
namespace Go.Proofs.YtfjpedgddgbelaaGreatDoor
open Go.RowKit
set_option linter.unusedVariables false
theorem searchAt_keys {K V V' : Type} [DecidableEq K] {lt : K → K → Bool} {l : List (K × V)} {l' : List (K × V')} {x : K} {k : Nat} {hit : Bool} (h : l.map (fun p => p.1) = l'.map fun p => p.1) (hs : SearchAt lt l x k hit) : SearchAt lt l' x k hit := by
  have hl : l.length = l'.length := by have := congrArg List.length h; simpa using this
  have hk : ∀ (m : Nat) (h1 : m < l.length) (h2 : m < l'.length), l[m].1 = l'[m].1 := fun m h1 h2 => by
    have h3 : (l.map fun p => p.1)[m]'(by simpa using h1) = (l'.map fun p => p.1)[m]'(by simpa using h2) := by simp only [h]
    simpa using h3
  obtain ⟨h1, h2, h3, h4⟩ := hs
  refine ⟨by omega, fun m hm hmk => ?_, fun m hm hmk => ?_, ?_⟩
  · rw [← hk m (by omega) hm]; exact h2 m (by omega) hmk
  · rw [← hk m (by omega) hm]; exact h3 m (by omega) hmk
  · rw [h4]
    by_cases hkl : k < l.length
    · rw [List.getElem?_eq_getElem hkl, List.getElem?_eq_getElem (show k < l'.length by omega)]
      simp only [hk k hkl (by omega)]
    · rw [List.getElem?_eq_none (by omega), List.getElem?_eq_none (by omega)]
theorem upd_hit {K V : Type} [DecidableEq K] {lt : K → K → Bool} (ht : Al.Tot lt) {l : List (K × V)} (hs : Al.Sorted lt l) {x : K} {k : Nat} {hit : Bool} (h : SearchAt lt l x k hit) (f : Option V → V) :
    (hit = true ∧ ∃ hk : k < l.length, l[k].1 = x ∧ Al.upd lt f x l = l.set k (x, f (some l[k].2))) ∨ (hit = false ∧ Al.upd lt f x l = l.take k ++ (x, f none) :: l.drop k) := by
  obtain ⟨h1, h2, h3, h4⟩ := h
  have hu := Al.upd_at ht (f := f) hs k h1 (fun m hm hmk => h2 m hm hmk) (fun hk => h3 k hk (Nat.le_refl _))
  by_cases hk : k < l.length
  · rw [List.getElem?_eq_getElem hk] at hu h4
    by_cases e : l[k].1 = x
    · left
      simp only [e, if_true] at hu
      refine ⟨by rw [h4]; simpa using e, hk, e, ?_⟩
      rw [hu, List.set_eq_take_append_cons_drop, if_pos hk]
    · right
      simp only [e, if_false] at hu
      exact ⟨by rw [h4]; simpa using e, hu⟩
  · rw [List.getElem?_eq_none (by omega)] at hu h4
    right
    refine ⟨h4, ?_⟩
    have hd : l.drop k = [] := List.drop_of_length_le (by omega)
    rw [hu, hd]
/-- what a call leaves alone: all but the tree's blocks, the box and new ones -/
structure Turn (o : Nat → Owner) (bx : Nat) (w w' : World) : Prop where
  os : w'.os = w.os
  tape : w'.tape = w.tape
  output : w'.output = w.output
  size : w.heap.size ≤ w'.heap.size
  block : ∀ b, b < w.heap.size → o b = .no → b ≠ bx → w'.heap[b]? = w.heap[b]?
theorem Turn.refl (o : Nat → Owner) (bx : Nat) (w : World) : Turn o bx w w := ⟨rfl, rfl, rfl, Nat.le_refl _, fun _ _ _ _ => rfl⟩
theorem Turn.trans {o o' : Nat → Owner} {bx : Nat} {w w1 w2 : World} (h : Turn o bx w w1) (h' : Turn o' bx w1 w2) (ho : ∀ b, b < w.heap.size → o' b = o b) : Turn o bx w w2 :=
  ⟨h'.os.trans h.os, h'.tape.trans h.tape, h'.output.trans h.output, Nat.le_trans h.size h'.size, fun b hb hn hx => (h'.block b (Nat.lt_of_lt_of_le hb h.size) (by rw [ho b hb]; exact hn) hx).trans (h.block b hb hn hx)⟩
theorem Turn.of_below {o : Nat → Owner} {bx : Nat} {w w' : World} (h : Below w.heap.size w w') : Turn o bx w w' := ⟨h.os, h.tape, h.output, h.size, fun b hb _ _ => h.block b hb⟩
theorem Turn.of_grown {o : Nat → Owner} {bx : Nat} {w w' : World} {v : Value} {x : Owner} (h : w.grownBy w' v.ownBlock) (hv : ∀ b, v.ownBlock = some b → o b = x) (hx : x ≠ .no) : Turn o bx w w' :=
  ⟨h.os, h.tape, h.output, h.size, fun b hb hn _ => h.block b hb fun e => hx (by rw [← hv b e.symm]; exact hn)⟩
theorem Turn.set {o : Nat → Owner} {bx : Nat} {w w' : World} (h : Turn o bx w w') {g : Nat} (hg : g = bx ∨ o g ≠ .no ∨ w.heap.size ≤ g) (i : Nat) (u : Value) : Turn o bx w (w'.setCell ⟨g, i, none⟩ u) :=
  ⟨h.os, h.tape, h.output, by simpa using h.size, fun b hb hn hx => by
    rw [heap_set_ne _ _ _ fun e => by subst e; rcases hg with e | e | e; · exact hx e
                                      · exact e hn
                                      · omega]
    exact h.block b hb hn hx⟩
/-- bounds under which places are added -/
structure Room (ts : List Ix.Term) : Prop where
  terms : ts.length ≤ 2000000
  posts : ∀ t ∈ ts, t.2.length ≤ 1000001 ∧ ∀ p ∈ t.2, p.2.length ≤ 2000000 ∧ 1 ≤ p.1 ∧ p.1 ≤ 1000000
/-- behind the first search: the term is there -/
def PutMid (o0 : Nat → Owner) (W : World) (B bx b4 : Nat) (a : Value) (wd : Str) (id place : Int) (Y : List Ix.Term) (i : Nat) (wc : World) : Prop :=
  ∃ (o : Nat → Owner) (tv : Value) (X : List RTerm) (hi : i < X.length), TreeAt ixT o wc B tv X ∧ Blk wc bx 25 #[a, tv] ∧ Blk wc b4 91 #[.string (bs wd), .int .i64 id] ∧ X[i].1 = wd ∧
    Y = (X.map pt).set i (wd, Ix.putP id place (X[i].2.2.map pp)) ∧ Al.Sorted Ix.ltI (X[i].2.2.map pp) ∧ (∀ (j : Nat) (hj : j < X.length), X[j].1 = X[i].1 → j = i) ∧ (X[i].2.2.length ≤ 1000001 ∧ ∀ p ∈ X[i].2.2, p.2.2.length ≤ 2000000 ∧ 1 ≤ p.1 ∧ p.1 ≤ 1000000) ∧
    Turn o0 bx W wc ∧ ∀ b, b < W.heap.size → o b = o0 b
theorem PutMid.found {o : Nat → Owner} {W wc : World} {B bx b4 : Nat} {a tv : Value} {wd : Str} {id place : Int} {X : List RTerm} {i : Nat} (hT : TreeAt ixT o W B tv X) (hbx : Blk W bx 25 #[a, tv]) (hb4 : Blk W b4 91 #[.string (bs wd), .int .i64 id]) (hwf : Ix.Wf (X.map pt)) (hrm : Room (X.map pt))
    (hsa : SearchAt ltS (X.map rt) wd i true) (hb : Below W.heap.size W wc) : PutMid o W B bx b4 a wd id place (Ix.putT id place wd (X.map pt)) i wc := by
  have hsa2 : SearchAt ltS (X.map pt) wd i true := searchAt_keys (by simp [rt, pt]) hsa
  rcases upd_hit tot_str hwf.srt hsa2 (fun o => Ix.putP id place (o.getD [])) with ⟨_, hk, hkw, hu⟩ | ⟨h, _⟩
  · have hi : i < X.length := by simpa using hk
    have hpi : (X.map pt)[i] = pt X[i] := by simp
    have hm : pt X[i] ∈ X.map pt := List.mem_map.2 ⟨_, List.getElem_mem hi, rfl⟩
    have hp := hwf.post _ hm
    have hr := hrm.posts _ hm
    refine ⟨o, tv, X, hi, hT.ext hb, hbx.ext hb, hb4.ext hb, by rw [hpi] at hkw; exact hkw, ?_, hp.2.1, fun j hj e => ?_, ⟨by have := hr.1; simpa [pt] using this, fun p hp' => by have := hr.2 (pp p) (List.mem_map.2 ⟨p, hp', rfl⟩); exact this⟩, Turn.of_below hb, fun _ _ => rfl⟩
    · show Al.upd ltS _ wd (X.map pt) = _
      rw [hu, hpi]
      rfl
    · have hps := List.pairwise_iff_getElem.1 hwf.srt
      rcases Nat.lt_trichotomy j i with h | h | h
      · have := hps j i (by simpa using hj) hk h
        simp only [List.getElem_map, pt] at this
        rw [e, ltS_irrefl] at this; cases this
      · exact h
      · have := hps i j hk (by simpa using hj) h
        simp only [List.getElem_map, pt] at this
        rw [e, ltS_irrefl] at this; cases this
  · cases h
theorem PutMid.added {o : Nat → Owner} {W w1 : World} {B bx b4 : Nat} {a tv tv' : Value} {wd : Str} {id place : Int} {X : List RTerm} {i : Nat} (hT : TreeAt ixT o W B tv X) (hbx : Blk W bx 25 #[a, tv]) (hbo : o bx = .no) (hb4 : Blk W b4 91 #[.string (bs wd), .int .i64 id]) (hbo4 : o b4 = .no) (h4x : b4 ≠ bx) (hwf : Ix.Wf (X.map pt)) (hrm : Room (X.map pt))
    (hsa : SearchAt ltS (X.map rt) wd i false) {w2 : World} (hb : Below W.heap.size W w1) (hown : Own rtC M0 w2 B 43 tv' ((X.map rt).take i ++ (wd, .slice none 0 0) :: (X.map rt).drop i)) (hgr : w1.grownBy w2 tv.ownBlock) (hor : tv'.ownBlock = tv.ownBlock ∨ tv'.ownBlock = some w1.heap.size) :
    PutMid o W B bx b4 a wd id place (Ix.putT id place wd (X.map pt)) i (w2.setCell ⟨bx, 1, none⟩ tv') := by
  have hsa2 : SearchAt ltS (X.map pt) wd i false := searchAt_keys (by simp [rt, pt]) hsa
  rcases upd_hit tot_str hwf.srt hsa2 (fun o => Ix.putP id place (o.getD [])) with ⟨h, _⟩ | ⟨_, hu⟩
  · cases h
  have hil : i ≤ X.length := by have := hsa.1; simpa using this
  obtain ⟨X', hX'⟩ : ∃ X' : List RTerm, X' = X.take i ++ (wd, .slice none 0 0, []) :: X.drop i := ⟨_, rfl⟩
  have hXm : X'.map rt = (X.map rt).take i ++ (wd, .slice none 0 0) :: (X.map rt).drop i := by rw [hX', List.map_append, List.map_cons, List.map_take, List.map_drop]; rfl
  have hXi : i < X'.length := by rw [hX', List.length_append, List.length_cons, List.length_take]; omega
  have hX'i : X'[i] = (wd, .slice none 0 0, []) := by
    subst hX'
    rw [List.getElem_append_right (by rw [List.length_take]; omega)]
    simp [List.length_take, Nat.min_eq_left hil]
  have hT1 := hT.ext hb
  obtain ⟨hT2, hol⟩ := hT1.terms (X' := X') (v' := tv') hgr (by rw [hXm]; exact hown) (hor.imp (fun h => h) fun h => ⟨_, Nat.le_refl _, h⟩) (fun t ht => by
    rw [hX'] at ht
    rcases List.mem_append.1 ht with ht | ht
    · exact .inl (List.mem_of_mem_take ht)
    · rcases List.mem_cons.1 ht with e | ht
      · rw [e]; exact .inr ⟨rfl, rfl⟩
      · exact .inl (List.mem_of_mem_drop ht))
  have hbl := hbx.lt
  have h4l := hb4.lt
  have hno : ∀ b, b < W.heap.size → own1 o tv' .top b = o b := fun b hb' => hol b (Nat.lt_of_lt_of_le hb' hb.size)
  have hbx1 := (hbx.ext hb)
  have hnt : ∀ b, o b = .no → some b ≠ tv.ownBlock := fun b hb' e => by have := hT.mine b e.symm; rw [hb'] at this; cases this
  have hbx2 : Blk w2 bx 25 #[a, tv] := hbx1.keep (hgr.block bx hbx1.lt (hnt bx hbo))
  have hb42 : Blk w2 b4 91 #[.string (bs wd), .int .i64 id] := (hb4.ext hb).keep (hgr.block b4 (hb4.ext hb).lt (hnt b4 hbo4))
  have hwords : ∀ (j : Nat) (hj : j < X'.length), X'[j].1 = X'[i].1 → j = i := by
    intro j hj e
    rw [hX'i] at e
    simp only at e
    subst hX'
    rcases Nat.lt_trichotomy j i with h | h | h
    · exfalso
      rw [List.getElem_append_left (by rw [List.length_take]; omega), List.getElem_take] at e
      have := hsa.2.1 j (by simp; omega) h
      simp only [List.getElem_map, rt] at this
      rw [e, ltS_irrefl] at this; cases this
    · exact h
    · exfalso
      rw [List.getElem_append_right (by rw [List.length_take]; omega)] at e
      have hjl : j - 1 < X.length := by rw [List.length_append, List.length_cons, List.length_take, List.length_drop] at hj; omega
      have e2 : ∀ (m : Nat) (hm : m < ((wd, Value.slice none 0 0, ([] : List RPost)) :: X.drop i).length) (h0 : m = j - i), ((wd, Value.slice none 0 0, ([] : List RPost)) :: X.drop i)[m].1 = X[j - 1].1 := by
        intro m hm h0
        obtain ⟨m', rfl⟩ : ∃ m', m = m' + 1 := ⟨m - 1, by omega⟩
        rw [List.getElem_cons_succ, List.getElem_drop]
        congr 2
        omega
      rw [e2 _ _ (by rw [List.length_take]; omega)] at e
      have hlk := Al.look_of_mem tot_str hwf.srt (show (X[j - 1].1, (pt X[j - 1]).2) ∈ X.map pt from List.mem_map.2 ⟨_, List.getElem_mem hjl, rfl⟩)
      have hsf := hsa.2.2.1 (j - 1) (by simpa using hjl) (by omega)
      simp only [List.getElem_map, rt] at hsf
      have h4 := hsa.2.2.2
      by_cases hii : i < X.length
      · rw [List.getElem?_eq_getElem (by simpa using hii)] at h4
        simp only [List.getElem_map, rt] at h4
        have hne : X[i].1 ≠ wd := by simpa using h4
        by_cases hji : j - 1 = i
        · exact hne (by rw [← e]; congr 2; omega)
        · have hps := List.pairwise_iff_getElem.1 hwf.srt
          have h5 := hps i (j - 1) (by simpa using hii) (by simpa using hjl) (by omega)
          simp only [List.getElem_map, pt] at h5
          have h6 := hsa.2.2.1 i (by simpa using hii) (Nat.le_refl _)
          simp only [List.getElem_map, rt] at h6
          rw [e] at h5
          rw [h5] at h6; cases h6
      · omega
  refine ⟨own1 o tv' .top, tv', X', hXi, hT2.move (fun b _ _ hb' => heap_set_ne _ _ _ fun e => hb' (by rw [e, hno bx hbl]; exact hbo)) (fun _ _ => rfl) (fun b hb' => hT2.fresh b (by simpa using hb')), hbx2.set_ 1 _, hb42.far (p := ⟨bx, 1, none⟩) h4x _, by rw [hX'i], ?_, by rw [hX'i]; exact List.Pairwise.nil, hwords, by rw [hX'i]; exact ⟨Nat.zero_le _, fun p hp => (by cases hp)⟩, ?_, hno⟩
  · show Al.upd ltS _ wd (X.map pt) = _
    rw [hu, hX'i]
    have hm2 : X'.map pt = (X.map pt).take i ++ (wd, []) :: (X.map pt).drop i := by rw [hX', List.map_append, List.map_cons, List.map_take, List.map_drop]; rfl
    rw [hm2, List.set_append_right _ _ (by rw [List.length_take, List.length_map]; omega), List.length_take, List.length_map, Nat.min_eq_left hil, Nat.sub_self, List.set_cons_zero]
    rfl
  · exact ((Turn.of_below hb).trans (Turn.of_grown (x := .top) hgr (fun b hb' => hT.mine b hb') (by simp)) fun _ _ => rfl).set (.inl rfl) 1 tv'
end Go.Proofs.YtfjpedgddgbelaaGreatDoor
/-
  A place of a word is added: the second half, plain.
-/
namespace Go.Proofs.YtfjpedgddgbelaaGreatDoor
open Go.RowKit
set_option linter.unusedVariables false
/-- behind the second search: the posting is there -/
def PutMid2 (o0 : Nat → Owner) (W : World) (B bx : Nat) (a tv : Value) (wd : Str) (n place : Int) (Y : List Ix.Term) (i k : Nat) (wc : World) : Prop :=
  ∃ (o : Nat → Owner) (X : List RTerm) (hi : i < X.length) (hk : k < X[i].2.2.length), TreeAt ixT o wc B tv X ∧ Blk wc bx 25 #[a, tv] ∧ X[i].1 = wd ∧ X[i].2.2[k].1 = n ∧
    Y = (X.map pt).set i (wd, (X[i].2.2.map pp).set k (n, X[i].2.2[k].2.2 ++ [place])) ∧ (∀ (j : Nat) (hj : j < X.length), X[j].1 = X[i].1 → j = i) ∧ (∀ (j : Nat) (hj : j < X[i].2.2.length), X[i].2.2[j].1 = X[i].2.2[k].1 → j = k) ∧ X[i].2.2[k].2.2.length ≤ 2000000 ∧
    Turn o0 bx W wc ∧ ∀ b, b < W.heap.size → o b = o0 b
theorem ids_distinct {ps : List RPost} (h : Al.Sorted Ix.ltI (ps.map pp)) {j k : Nat} (hj : j < ps.length) (hk : k < ps.length) (e : ps[j].1 = ps[k].1) : j = k := by
  have hp := List.pairwise_iff_getElem.1 h
  rcases Nat.lt_trichotomy j k with h1 | h1 | h1
  · have := hp j k (by simpa using hj) (by simpa using hk) h1
    simp only [List.getElem_map, pp, Ix.ltI, decide_eq_true_eq] at this
    omega
  · exact h1
  · have := hp k j (by simpa using hk) (by simpa using hj) h1
    simp only [List.getElem_map, pp, Ix.ltI, decide_eq_true_eq] at this
    omega
section
variable {o0 o : Nat → Owner} {W wc wd' : World} {B bx : Nat} {a tv : Value} {wd : Str} {n place : Int} {Y : List Ix.Term} {X : List RTerm} {i k : Nat}
theorem PutMid2.found (hi : i < X.length) (hT : TreeAt ixT o wc B tv X) (hbx : Blk wc bx 25 #[a, tv]) (hw : X[i].1 = wd) (hY : Y = (X.map pt).set i (wd, Ix.putP n place (X[i].2.2.map pp))) (hs : Al.Sorted Ix.ltI (X[i].2.2.map pp)) (hd : ∀ (j : Nat) (hj : j < X.length), X[j].1 = X[i].1 → j = i)
    (hb : ∀ p ∈ X[i].2.2, p.2.2.length ≤ 2000000) (ht : Turn o0 bx W wc) (ha : ∀ b, b < W.heap.size → o b = o0 b) (hsa : SearchAt Ix.ltI (X[i].2.2.map rp) n k true) {w2 : World} (hbl : Below wc.heap.size wc w2) : PutMid2 o0 W B bx a tv wd n place Y i k w2 := by
  have hsa2 : SearchAt Ix.ltI (X[i].2.2.map pp) n k true := searchAt_keys (by simp [rp, pp]) hsa
  rcases upd_hit Ix.totI hs hsa2 (fun q => q.getD [] ++ [place]) with ⟨_, hk, hkn, hu⟩ | ⟨h, _⟩
  · have hk' : k < X[i].2.2.length := by simpa using hk
    refine ⟨o, X, hi, hk', hT.ext hbl, hbx.ext hbl, hw, by simpa [pp] using hkn, ?_, hd, fun j hj e => ids_distinct hs hj hk' e, hb _ (List.getElem_mem hk'), ht.trans (o' := o) (Turn.of_below hbl) (fun b hb => ha b hb), ha⟩
    rw [hY, show Ix.putP n place (X[i].2.2.map pp) = _ from hu]
    simp [pp]
  · cases h
theorem PutMid2.added (hi : i < X.length) (hT : TreeAt ixT o wc B tv X) (hbx : Blk wc bx 25 #[a, tv]) (hbo : o bx = .no) (hw : X[i].1 = wd) (hY : Y = (X.map pt).set i (wd, Ix.putP n place (X[i].2.2.map pp))) (hs : Al.Sorted Ix.ltI (X[i].2.2.map pp)) (hd : ∀ (j : Nat) (hj : j < X.length), X[j].1 = X[i].1 → j = i)
    (ht : Turn o0 bx W wc) (ha : ∀ b, b < W.heap.size → o b = o0 b) (hsa : SearchAt Ix.ltI (X[i].2.2.map rp) n k false) {w1 w2 : World} {pv' : Value} {g nn c : Nat} (hg : tv = .slice (some ⟨g, 0, none⟩) nn c) (hbl : Below wc.heap.size wc w1)
    (hown : Own rpC M0 w2 B 96 pv' ((X[i].2.2.map rp).take k ++ (n, .slice none 0 0) :: (X[i].2.2.map rp).drop k)) (hgr : w1.grownBy w2 X[i].2.1.ownBlock) (hor : pv'.ownBlock = X[i].2.1.ownBlock ∨ pv'.ownBlock = some w1.heap.size) :
    PutMid2 o0 W B bx a tv wd n place Y i k (w2.setCell ⟨g, i * 2 + 1, none⟩ pv') := by
  have hsa2 : SearchAt Ix.ltI (X[i].2.2.map pp) n k false := searchAt_keys (by simp [rp, pp]) hsa
  rcases upd_hit Ix.totI hs hsa2 (fun q => q.getD [] ++ [place]) with ⟨h, _⟩ | ⟨_, hu⟩
  · cases h
  have hkl : k ≤ X[i].2.2.length := by have := hsa.1; simpa using this
  have hT1 := hT.ext hbl
  obtain ⟨ps', hps'⟩ : ∃ ps' : List RPost, ps' = X[i].2.2.take k ++ (n, .slice none 0 0, []) :: X[i].2.2.drop k := ⟨_, rfl⟩
  have hpm : ps'.map rp = (X[i].2.2.map rp).take k ++ (n, .slice none 0 0) :: (X[i].2.2.map rp).drop k := by rw [hps', List.map_append, List.map_cons, List.map_take, List.map_drop]; rfl
  have hkp : k < ps'.length := by rw [hps', List.length_append, List.length_cons, List.length_take]; omega
  have hpk : ps'[k] = (n, .slice none 0 0, []) := by
    subst hps'
    rw [List.getElem_append_right (by rw [List.length_take]; omega)]
    simp [List.length_take, Nat.min_eq_left hkl]
  obtain ⟨hT2, hol⟩ := hT1.postings (w1 := w2) hi hd hg (tv' := pv') (ps' := ps') hgr (by rw [hpm]; exact hown) (hor.imp (fun h => h) fun h => ⟨_, Nat.le_refl _, h⟩) (own_oneCell hown) (fun p hp => by
    rw [hps'] at hp
    rcases List.mem_append.1 hp with hp | hp
    · exact .inl (List.mem_of_mem_take hp)
    · rcases List.mem_cons.1 hp with e | hp
      · rw [e]; exact .inr ⟨rfl, rfl⟩
      · exact .inl (List.mem_of_mem_drop hp))
  have hPi := hT.posts _ (List.getElem_mem hi)
  have hog := hT.mine g (slice_block hg)
  have hgx : g ≠ bx := fun e => by rw [e, hbo] at hog; cases hog
  have hbx1 := hbx.ext hbl
  have hbx2 : Blk w2 bx 25 #[a, tv] := hbx1.keep (hgr.block bx hbx1.lt fun e => by have := hPi.mine bx e.symm; rw [hbo] at this; cases this)
  have hmp : ps'.map pp = (X[i].2.2.map pp).take k ++ (n, []) :: (X[i].2.2.map pp).drop k := by rw [hps', List.map_append, List.map_cons, List.map_take, List.map_drop]; rfl
  have hsN : Al.Sorted Ix.ltI (ps'.map pp) := by
    rw [hmp]
    have h1 := hsa2.2.1
    have h2 := hsa2.2.2.1
    have h4 := hsa2.2.2.2
    have hsplit : Al.Sorted Ix.ltI ((X[i].2.2.map pp).take k ++ (X[i].2.2.map pp).drop k) := by rw [List.take_append_drop]; exact hs
    unfold Al.Sorted at hsplit ⊢
    rw [List.pairwise_append] at hsplit ⊢
    refine ⟨hsplit.1, List.pairwise_cons.2 ⟨fun q hq => ?_, hsplit.2.1⟩, fun p hp q hq => ?_⟩
    · obtain ⟨m, hm, rfl⟩ := List.mem_iff_getElem.1 hq
      rw [List.length_drop] at hm
      rw [List.getElem_drop]
      have h5 := h2 (k + m) (by omega) (by omega)
      rw [List.getElem?_eq_getElem (show k < (X[i].2.2.map pp).length by omega)] at h4
      have h6 : (X[i].2.2.map pp)[k].1 ≠ n := by simpa using h4
      have h7 := h2 k (by omega) (Nat.le_refl _)
      simp only [Ix.ltI, decide_eq_false_iff_not, decide_eq_true_eq] at h5 h7 ⊢
      by_cases e : m = 0
      · subst e; simp only [Nat.add_zero]; omega
      · have h8 := List.pairwise_iff_getElem.1 hs k (k + m) (by omega) (by omega) (by omega)
        simp only [Ix.ltI, decide_eq_true_eq] at h8
        omega
    · rcases List.mem_cons.1 hq with e | hq
      · rw [e]
        obtain ⟨m, hm, rfl⟩ := List.mem_iff_getElem.1 hp
        rw [List.length_take] at hm
        rw [List.getElem_take]
        exact h1 m (by omega) (by omega)
      · exact hsplit.2.2 p hp q hq
  have hXi : i < (X.set i (X[i].1, pv', ps')).length := by rw [List.length_set]; exact hi
  have hgi : (X.set i (X[i].1, pv', ps'))[i] = (X[i].1, pv', ps') := List.getElem_set_self hXi
  have hag : ∀ b, b < W.heap.size → own1 o pv' (.row X[i].1) b = o0 b := fun b hb' => by rw [hol b (Nat.lt_of_lt_of_le (Nat.lt_of_lt_of_le hb' ht.size) hbl.size)]; exact ha b hb'
  refine ⟨own1 o pv' (.row X[i].1), X.set i (X[i].1, pv', ps'), hXi, by rw [hgi]; exact hkp, hT2, hbx2.far (p := ⟨g, i * 2 + 1, none⟩) (fun e => hgx e.symm) _, by rw [hgi]; exact hw, by simp only [hgi]; rw [hpk], ?_, fun j hj e => ?_, fun j hj e => ?_, by simp only [hgi]; rw [hpk]; exact Nat.zero_le _, ?_, hag⟩
  · simp only [hgi]
    rw [hY, show Ix.putP n place (X[i].2.2.map pp) = _ from hu, List.map_set, List.set_set, hpk, hmp, List.set_append_right _ _ (by rw [List.length_take]; omega), List.length_take, List.length_map, Nat.min_eq_left hkl, Nat.sub_self, List.set_cons_zero]
    rfl
  · rw [hgi] at e
    rw [List.length_set] at hj
    by_cases hji : j = i
    · exact hji
    · rw [List.getElem_set_ne (fun e' => hji e'.symm)] at e
      exact hd j hj e
  · simp only [hgi] at hj e
    exact ids_distinct hsN hj hkp e
  · refine ((ht.trans (o' := o) (Turn.of_below hbl) (fun b hb => ha b hb)).trans (o' := o) (Turn.of_grown (x := .row X[i].1) hgr (fun b hb => hPi.mine b hb) (by simp)) (fun b hb => ha b hb)).set ?_ (i * 2 + 1) pv'
    by_cases hgW : g < W.heap.size
    · exact .inr (.inl (by rw [← ha g hgW, hog]; simp))
    · exact .inr (.inr (by omega))
/-- the end: the place is there -/
theorem PutMid2.fin (hi : i < X.length) (hk : k < X[i].2.2.length) (hT : TreeAt ixT o wc B tv X) (hbx : Blk wc bx 25 #[a, tv]) (hbo : o bx = .no) (hw : X[i].1 = wd) (hn : X[i].2.2[k].1 = n) (hY : Y = (X.map pt).set i (wd, (X[i].2.2.map pp).set k (n, X[i].2.2[k].2.2 ++ [place]))) (hd : ∀ (j : Nat) (hj : j < X.length), X[j].1 = X[i].1 → j = i)
    (hid : ∀ (j : Nat) (hj : j < X[i].2.2.length), X[i].2.2[j].1 = X[i].2.2[k].1 → j = k) (ht : Turn o0 bx W wc) (ha : ∀ b, b < W.heap.size → o b = o0 b) {w1 w2 : World} {lv' : Value} {g nn c : Nat} (hg : X[i].2.1 = .slice (some ⟨g, 0, none⟩) nn c) (hbl : Below wc.heap.size wc w1)
    (hown : Own intC M0 w2 B 3 lv' (X[i].2.2[k].2.2 ++ [place])) (hgr : w1.grownBy w2 X[i].2.2[k].2.1.ownBlock) (hor : lv'.ownBlock = X[i].2.2[k].2.1.ownBlock ∨ ∃ b, w1.heap.size ≤ b ∧ lv'.ownBlock = some b) :
    ∃ (o' : Nat → Owner) (X' : List RTerm), TreeAt ixT o' (w2.setCell ⟨g, k * 2 + 1, none⟩ lv') B tv X' ∧ Blk (w2.setCell ⟨g, k * 2 + 1, none⟩ lv') bx 25 #[a, tv] ∧ X'.map pt = Y ∧ Turn o0 bx W (w2.setCell ⟨g, k * 2 + 1, none⟩ lv') ∧ ∀ b, b < W.heap.size → o' b = o0 b := by
  have hT1 := hT.ext hbl
  obtain ⟨hT2, hol⟩ := hT1.place hi hk hd hid hg hgr hown hor (own_oneCell hown)
  have hPi := hT.posts _ (List.getElem_mem hi)
  have hLi := hPi.pl _ (List.getElem_mem hk)
  have hog := hPi.mine g (slice_block hg)
  have hgx : g ≠ bx := fun e => by rw [e, hbo] at hog; cases hog
  have hbx1 := hbx.ext hbl
  have hbx2 : Blk w2 bx 25 #[a, tv] := hbx1.keep (hgr.block bx hbx1.lt fun e => by have := hLi.2 bx e.symm; rw [hbo] at this; cases this)
  refine ⟨_, _, hT2, hbx2.far (p := ⟨g, k * 2 + 1, none⟩) (fun e => hgx e.symm) _, ?_, ?_, fun b hb' => by rw [hol b (Nat.lt_of_lt_of_le (Nat.lt_of_lt_of_le hb' ht.size) hbl.size)]; exact ha b hb'⟩
  · rw [hY, List.map_set]
    congr 1
    show (X[i].1, (X[i].2.2.set k _).map pp) = _
    rw [hw, List.map_set, ← hn]
    rfl
  · refine ((ht.trans (o' := o) (Turn.of_below hbl) (fun b hb => ha b hb)).trans (o' := o) (Turn.of_grown (x := .pl X[i].1 X[i].2.2[k].1) hgr (fun b hb => hLi.2 b hb) (by simp)) (fun b hb => ha b hb)).set ?_ (k * 2 + 1) lv'
    by_cases hgW : g < W.heap.size
    · exact .inr (.inl (by rw [← ha g hgW, hog]; simp))
    · exact .inr (.inr (by omega))
end
end Go.Proofs.YtfjpedgddgbelaaGreatDoor
