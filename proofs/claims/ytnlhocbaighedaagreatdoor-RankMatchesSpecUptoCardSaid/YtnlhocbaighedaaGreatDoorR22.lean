/-
  Contracts and plain facts, one after another: The reference Made: the index of texts; The two texts of the law: the index is good; the weights are positive.
-/
import Derived.Test.YtnlhocbaighedaaGreatDoorR14
import Derived.Test.YtnlhocbaighedaaGreatDoorR6
import Derived.Test.YtnlhocbaighedaaGreatDoorR5
import Derived.Test.YtnlhocbaighedaaGreatDoorR9
import Derived.Test.YtnlhocbaighedaaGreatDoorR2
import Derived.Test.YtnlhocbaighedaaGreatDoorR21
import Derived.Deep.QuietTactic
import Derived.BigQuiet
namespace Go.Proofs.YtnlhocbaighedaaGreatDoor
open Go.RowKit
set_option linter.unusedVariables false
theorem posts_count (docs : List (Int × Str)) (w : Str) : (Ix.postsOf (Ix.stemsD docs) w).length ≤ docs.length := by
 unfold Ix.postsOf Ix.stemsD
 refine Nat.le_trans (List.length_filterMap_le _ _) ?_
 rw [List.length_map]
 exact Nat.le_refl _
set_option maxRecDepth 20000 in
set_option maxHeartbeats 8000000 in
theorem refMade_ok (v : Value) (docs : List (Int × Str)) (w : World) (h : SlR docC M0 w v docs) (hn : docs.length ≤ 100) (ht : ∀ d ∈ docs, d.2.length ≤ 4000) (hT : TabsU w) : Calls Tryz.prog 18 #[v] w fun e w' => ∃ a b, e = .returned (.agg #[a, b]) ∧ SlR intC M0 w' a (Ix.madeF (Ix.stemsD docs)).1 ∧ SlR termC M0 w' b (Ix.madeF (Ix.stemsD docs)).2 ∧ Below w.heap.size w w' := by
 obtain ⟨A, c, rfl, hlc, hcm⟩ := h.form
 unfold maxLen at hcm
 obtain ⟨w1, g2, g3, hW, hg2, hg3, hs1, k2, k3, hal⟩ := box2 w #[.slice none 0 0, .slice none 0 0] 25 #[.slice none 0 0, .slice none 0 0] 25
 rw [Ix.made_eq]
 dsimp only
 have H0 := Lib.hid (And.intro h (And.intro hT hal)); have HW := Lib.hid (And.intro hW (And.intro hg2 (And.intro hg3 hs1)))
 have Hk2 := Lib.hid k2; have Hk3 := Lib.hid k3
 have Hwl := Lib.hid (fun (i : Nat) => Ix.wordsD_len (docs.take i) (fun d hd => ht d (List.mem_of_mem_take hd)) (by rw [List.length_take]; omega))
 clear h hT hal hW hg2 hg3 hs1 k2 k3
 go_enter Tryz.func18, Tryz.ntmps18
 go_wp2
 rw [HW.out.1, HW.out.2.1, HW.out.2.2.1]
 have Hg : Hid (w.heap.size ≤ g3 ∧ w.heap.size ≤ w1.heap.size ∧ g3 < w1.heap.size ∧ g2 < w1.heap.size ∧ g2 < g3 ∧ w.heap.size ≤ g2) := Lib.hid (by have := HW.out; omega)
 go_loopw [4, 5] (fun wv iv wr => ∃ (i : Nat) (A4 : Option Addr) (c4 : Nat) (words : List Str) (vI : Value), i ≤ docs.length ∧ iv = .int .i64 (i : Int) ∧ wv = .slice A4 words.length c4 ∧ Hid (words = Ix.wordsD (docs.take i)) ∧ Hid (Mk1 w1.heap.size g3 vI wv ((docs.take i).map fun d => d.1) words w1 wr)) (fun _ iv _ => docs.length - (intOf iv).toNat)
 case atStart => exact ⟨0, none, 0, [], .slice none 0 0, Nat.zero_le _, rfl, rfl, Lib.hid rfl, Lib.hid ⟨Hk3.out, Own.nil _ _ _ _ _, Own.nil _ _ _ _ _, (fun b h => by cases h), Sav.refl _ _ _, Nat.le_refl _⟩⟩
 case round =>
  obtain ⟨i, A4, c4, words, vI, hi, rfl, rfl, hwd, hM⟩ := hrel
  have hbw : Below w.heap.size w wr := hM.out.apart.whole H0.out.2.2 Hg.out.2.1 Hg.out.1
  by_cases hlt : i < docs.length
  ·obtain ⟨b, off, hA, _, p0, p1, r0, r1⟩ := (H0.out.1.ext hbw).docAt hlt
   subst hA
   obtain ⟨⟨id, tx⟩, hx⟩ : ∃ x, x = docs[i] := ⟨_, rfl⟩
   have htx : tx.length ≤ 4000 := by have := ht _ (List.getElem_mem hlt); rw [← hx] at this; exact this
   rw [← hx] at p0 p1 r0 r1
   dsimp only at p0 p1 r0 r1
   have Hx := Lib.hid hx
   have hik : (i : Int) < (docs.length : Int) := by omega
   have hi0 : (0 : Int) ≤ (i : Int) := by omega
   have hiw : IntKind.i64.wrap (i : Int) = (i : Int) := IntWalk.i64_in _ (by omega)
   obtain ⟨x0, x1, x2, x3, _⟩ := hM.out.kx.two
   have hSS : ∀ W', Below wr.heap.size wr W' → W'.cell? ⟨g3, 0, none⟩ = some vI ∧ W'.cell? ⟨b, off + i * 2, none⟩ = some (.int .i64 id) := fun W' hb => ⟨cell_ext hb x0, cell_ext hb p0⟩
   have HS := Lib.hid hSS
   have hS := HS.out _ (below_drewN' wr.heap.size wr 1)
   have Hr := Lib.hid (And.intro r0 r1); have Hb := Lib.hid hbw
   clear hSS x0 x1 x2 x3 hx r0 r1 p0 p1 hbw
   go_wp2_with fail
   refine wp_region_D (fun W => W.cell? ⟨g3, 0, none⟩ = some vI ∧ W.cell? ⟨b, off + i * 2, none⟩ = some (.int .i64 id)) (fun j => j == 10) (by kernel_rfl) ?_
   change anyD _ _ _ _ _ _ _ _ _ (wr.drewN 1)
   have hbV := below_drewN' wr.heap.size wr 1
   generalize wr.drewN 1 = V0 at hS hbV ⊢
   (refine anyD_l5 (i := 0) (v := ?_) rfl (by kernel_rfl) (fun _ _ _ h => h) (.inl ⟨by kernel_rfl, fun W9 hW9 => ?_⟩) hS ?_; rotate_left; · (obtain ⟨hw0, hw1⟩ := hW9; go_simp; rfl))
   (refine anyD_l5 (i := 1) (v := ?_) rfl (by kernel_rfl) (fun _ _ _ h => h) (.inl ⟨by kernel_rfl, fun W9 hW9 => ?_⟩) hS ?_; rotate_left; · (obtain ⟨hw0, hw1⟩ := hW9; go_simp; rfl))
   (refine anyD_l5 (i := 2) (v := ?_) rfl (by kernel_rfl) (fun _ _ _ h => h) (.inl ⟨by kernel_rfl, fun W9 hW9 => ?_⟩) hS ?_; rotate_left; · (obtain ⟨hw0, hw1⟩ := hW9; go_simp; rfl))
   (refine anyD_l5 (i := 3) (v := ?_) rfl (by kernel_rfl) (fun _ _ _ h => h) (.inl ⟨by kernel_rfl, fun W9 hW9 => ?_⟩) hS ?_; rotate_left; · (obtain ⟨hw0, hw1⟩ := hW9; go_simp; rfl))
   (refine anyD_l5 (i := 4) (v := ?_) rfl (by kernel_rfl) (fun _ _ _ h => h) (.inl ⟨by kernel_rfl, fun W9 hW9 => ?_⟩) hS ?_; rotate_left; · (obtain ⟨hw0, hw1⟩ := hW9; go_simp; rfl))
   (refine anyD_l5 (i := 5) (v := ?_) rfl (by kernel_rfl) (fun _ _ _ h => h) (.inl ⟨by kernel_rfl, fun W9 hW9 => ?_⟩) hS ?_; rotate_left; · (obtain ⟨hw0, hw1⟩ := hW9; go_simp; rfl))
   go_simp
   (refine anyD_l5 (i := 6) (v := ?_) rfl (by kernel_rfl) (fun _ _ _ h => h) (.inl ⟨by kernel_rfl, fun W9 hW9 => ?_⟩) hS ?_; rotate_left; · (obtain ⟨hw0, hw1⟩ := hW9; go_simp; rfl))
   go_simp
   refine anyD_one (i := 7) (by kernel_rfl) rfl rfl (fun K hK => ?_)
   have HK := Lib.hid hK
   clear hK
   unfold Oper.wp
   go_simp
   generalize hV : World.alloc V0 (.cells #[.int .i64 id] 3) = V1
   have hal8 : Below wr.heap.size wr V1 := by rw [← hV]; exact hbV.alloc hbV.size _
   have xr : SlR intC (fun b => M0 b ∨ vI.ownBlock = some b) V1 (.slice (some ⟨V0.heap.size, 0, none⟩) 1 1) [id] := by rw [← hV]; exact SlR.built (C := intC) (cs := [.int .i64 id]) _ ⟨rfl, Hr.out.1, Hr.out.2⟩ (fun b hb => hb.elim (fun h => h.elim) fun h => Nat.lt_of_lt_of_le (hM.out.ownI.lt b h) hbV.size)
   clear hS hV
   have hS := HS.out _ hal8
   refine HK.out _ _ (fun _ => hS) ?_
   clear HK
   go_simp
   refine anyD_one (i := 8) (by kernel_rfl) rfl rfl (fun K hK => ?_)
   have HK := Lib.hid hK
   clear hK
   refine wp_append_Own intC TInts (.tmp 21) (.tmp 27) rfl rfl (hM.out.ownI.ext hal8) rfl xr (by simp only [maxLen, List.length_singleton, List.length_map, List.length_take]; omega) (by simp only [List.length_singleton, List.length_map, List.length_take]; omega) (Nat.le_trans hM.out.big hal8.size) ?_
   intro A8 c8 L8 V2 hL8 own8 hbl8 hgr8 hor8
   have keep : ∀ b, b < wr.heap.size → vI.ownBlock ≠ some b → V2.heap[b]? = V1.heap[b]? := fun b hb ho => hgr8.block b (Nat.lt_of_lt_of_le hb hal8.size) fun e => ho e.symm
   have hg8 := keep g3 hM.out.kx.lt (fun e => by have := hM.out.ownI.base g3 e; have := Hg.out; omega)
   have k38 := (hM.out.kx.ext hal8).keep hg8
   obtain ⟨y0, y1, y2, y3, _⟩ := k38.two
   have hdoc : V2.cell? ⟨b, off + i * 2, none⟩ = some (.int .i64 id) := by obtain ⟨b9, off9, hA9, hb9, _⟩ := (H0.out.1).docAt hlt; injection hA9 with hA9; injection hA9 with hA1 hA2; subst hA1 hA2; exact (World.cell?_of_block (a := ⟨b, off + i * 2, none⟩) (keep b (Nat.lt_of_lt_of_le hb9 (Hb.out.size)) fun e => by have := hM.out.ownI.base b e; have := Hg.out; omega)).trans hS.2
   have hS8 := And.intro y0 hdoc
   clear hS xr keep hg8 k38 hdoc
   have hS := hS8
   clear hS8
   refine HK.out _ _ (fun _ => hS) ?_
   clear HK
   (refine anyD_l5 (i := 9) (v := ?_) rfl (by kernel_rfl) (fun _ _ _ h => h) (.inl ⟨by kernel_rfl, fun W9 hW9 => ?_⟩) hS ?_; rotate_left; · (obtain ⟨hw0, hw1⟩ := hW9; go_simp; rfl))
   go_simp
   refine anyD_one (i := 10) (by kernel_rfl) rfl rfl (fun K hK => ?_)
   have HK := Lib.hid hK
   clear hK
   obtain ⟨_, hq9⟩ := hS
   unfold Oper.wp
   go_simp
   refine HK.out _ _ (fun h => by cases h) ?_
   clear HK
   go_simp
   refine anyD_done (by kernel_rfl) ?_ _
   obtain ⟨W8, hW8⟩ : ∃ W8, V2.setCell ⟨g3, 0, none⟩ (.slice A8 L8.length c8) = W8 := ⟨_, rfl⟩
   have hM8 := hM.out.push Hg.out.2.2.1 hal8 hgr8 own8 hor8 hW8
   rw [hW8]
   have hids : L8 = (docs.take (i + 1)).map fun d => d.1 := by rw [hL8.out, List.take_succ_eq_append_getElem hlt, List.map_append, ← Hx.out]; rfl
   have Hids := Lib.hid hids
   have hb8 : Below w.heap.size w W8 := hM8.apart.whole H0.out.2.2 Hg.out.2.1 Hg.out.1
   obtain ⟨b9, off9, hA9, _, _, p1, _, _⟩ := (H0.out.1.ext hb8).docAt hlt
   injection hA9 with hA9
   injection hA9 with hA1 hA2
   subst hA1 hA2
   rw [← Hx.out] at p1
   dsimp only at p1
   have HM8 := Lib.hid hM8; have Hb8 := Lib.hid hb8
   clear hM8 hb8 hW8 own8 hgr8 hor8 hbl8 hids hL8 hal8 HS hq9 y0 y1 y2 y3 hM Hr
   go_wp2_with fail
   refine (refStems_ok tx (by omega) W8 (H0.out.2.1.ext Hb8.out)).mono ?_
   rintro e ws ⟨As, cs, Sx, rfl, hSx, ownS, hbs⟩
   have HM9 := Lib.hid (HM8.out.ext hbs)
   clear p1 HM8
   have hSl : Sx.length ≤ 4000 := by rw [hSx.out]; exact Nat.le_trans (stems_count tx) htx
   have Hown := Lib.hid ownS; have Hbs := Lib.hid hbs
   clear ownS hbs
   go_wp2
   go_loopw [4, 7] (fun wv kv wq => ∃ (k : Nat) (A5 : Option Addr) (c5 : Nat) (words2 : List Str), k ≤ Sx.length ∧ kv = .int .i64 (k : Int) ∧ wv = .slice A5 words2.length c5 ∧ Hid (words2 = (Sx.take k).foldl Ix.putW words) ∧ Hid (Mk1 w1.heap.size g3 (.slice A8 L8.length c8) wv L8 words2 w1 wq) ∧ Hid (Below ws.heap.size ws wq)) (fun _ kv _ => Sx.length - (intOf kv).toNat)
   case atStart => exact ⟨0, A4, c4, words, Nat.zero_le _, rfl, rfl, Lib.hid rfl, HM9, Lib.hid (Below.refl _ _)⟩
   case round =>
    obtain ⟨wq, rfl⟩ : ∃ W0, W0 = wr := ⟨_, rfl⟩
    obtain ⟨k, A5, c5, words2, hk, rfl, rfl, hw2, hMq, hbq⟩ := hrel
    clear HM9
    by_cases hkt : k < Sx.length
    ·obtain ⟨bS, offS, hAS, _, _, s0, hsl⟩ := (Hown.out.read0.ext hbq.out).strAt hkt
     subst hAS
     obtain ⟨x, hxx⟩ : ∃ x, x = Sx[k] := ⟨_, rfl⟩
     rw [← hxx] at s0 hsl
     have Hxx := Lib.hid hxx
     have hkk : (k : Int) < (Sx.length : Int) := by omega
     have hk0 : (0 : Int) ≤ (k : Int) := by omega
     have hkw : IntKind.i64.wrap (k : Int) = (k : Int) := IntWalk.i64_in _ (by omega)
     have hwl2 : words2.length ≤ 500000 := by
      have h1 := Ix.foldW_len (Sx.take k) words
      rw [← hw2.out, List.length_take] at h1
      have h2 := Hwl.out i
      rw [← hwd.out] at h2
      omega
     have hht := hasText_ok M0 (.slice A5 words2.length c5) words2 x wq hMq.out.ownW.read0
     obtain ⟨t, ht2⟩ : ∃ t, words2.any (· == x) = t := ⟨_, rfl⟩
     rw [ht2] at hht
     have Hht := Lib.hid hht; have Ht2 := Lib.hid ht2
     clear hht ht2 hxx
     go_wp2_with fail
     refine Hht.out.mono ?_
     rintro e wz ⟨rfl, rfl⟩
     cases t with
     | true =>
      have hin : x ∈ words2 := by obtain ⟨y, hy, e⟩ := List.any_eq_true.1 Ht2.out; rw [beq_iff_eq] at e; exact e ▸ hy
      have Hnx := Lib.hid (show words2 = (Sx.take (k + 1)).foldl Ix.putW words by rw [List.take_succ_eq_append_getElem hkt, List.foldl_append, ← hw2.out, ← Hxx.out]; show words2 = Ix.putW words2 x; unfold Ix.putW; rw [if_pos hin])
      clear hin
      go_wp2
      go_roundw
      case rel => exact ⟨k + 1, A5, c5, words2, by omega, by go_num, rfl, Hnx, hMq, hbq⟩
      case measure => simp [intOf]; omega
     | false =>
      have hin : x ∉ words2 := fun hm => by
       have := Ht2.out
       have h9 : words2.any (· == x) = true := List.any_eq_true.2 ⟨x, hm, beq_self_eq_true x⟩
       rw [h9] at this
       cases this
      have hnx : Ix.insW words2 x = (Sx.take (k + 1)).foldl Ix.putW words := by rw [List.take_succ_eq_append_getElem hkt, List.foldl_append, ← hw2.out, ← Hxx.out]; show _ = Ix.putW words2 x; unfold Ix.putW; rw [if_neg hin]
      have Hnx := Lib.hid hnx
      clear hin hnx
      have hins := refInsert_ok (.slice A5 words2.length c5) words2 x wq hMq.out.ownW.read0 (by omega) hsl
      have Hins := Lib.hid hins
      clear hins
      go_wp2_with fail
      refine Hins.out.mono ?_
      rintro e wy ⟨A6, c6, words3, rfl, hw3, own3, hb3⟩
      have HM3 := Lib.hid (hMq.out.word hb3 own3)
      have Hbq3 := Lib.hid (hbq.out.trans (hb3.mono hbq.out.size))
      clear own3 hb3 s0
      go_wp2
      go_roundw
      case rel => exact ⟨k + 1, A6, c6, words3, by omega, by go_num, rfl, Lib.hid (hw3.out.trans Hnx.out), HM3, Hbq3⟩
      case measure => simp [intOf]; omega
    ·obtain rfl : k = Sx.length := by omega
     have Hnx := Lib.hid (show words2 = Ix.wordsD (docs.take (i + 1)) by rw [Ix.wordsD_take docs hlt, ← hwd.out, ← Hx.out, ← hSx.out, hw2.out, List.take_length])
     go_wp2
     go_roundw
     case rel => exact ⟨i + 1, A5, c5, words2, _, by omega, by go_num, rfl, Hnx, Lib.hid (by have h := hMq.out; rw [Hids.out] at h; exact h)⟩
     case measure => simp [intOf]; omega
  ·obtain rfl : i = docs.length := by omega
   obtain ⟨w2, rfl⟩ : ∃ W0, W0 = wr := ⟨_, rfl⟩
   have hwd' : words = Ix.wordsD docs := by rw [hwd.out, List.take_length]
   have hMM := hM.out
   rw [List.take_length] at hMM
   have hwl : words.length ≤ 400000 := by have := Hwl.out docs.length; rw [List.take_length, ← hwd'] at this; exact this
   have kI : SlR intC (fun b => b ≤ g3) w2 vI (docs.map fun d => d.1) := (hMM.ownI.flatC (M' := fun b => b ≤ g3) flatC_int fun _ _ => rfl).read fun b hb (e : b ≤ g3) => by have := hMM.ownI.base b hb; have := Hg.out; omega
   have kW : SlR strC (fun b => b ≤ g3) w2 (.slice A4 words.length c4) words := (hMM.ownW.flatC (M' := fun b => b ≤ g3) flatC_str fun _ _ => rfl).read fun b hb (e : b ≤ g3) => by have := hMM.ownW.base b hb; have := Hg.out; omega
   have k2 : Blk w2 g2 25 #[.slice none 0 0, .slice none 0 0] := Hk2.out.keep (hMM.apart.block g2 (by have := Hg.out; omega) (by have := Hg.out; omega))
   have k3 := hMM.kx
   have hg3s : g3 < w2.heap.size := k3.lt
   have HI := Lib.hid kI; have HWd := Lib.hid kW; have H2 := Lib.hid k2; have H3 := Lib.hid k3; have Hwd' := Lib.hid hwd'; have Hb := Lib.hid hbw
   clear hMM kI kW k2 k3 hwd' hwd hM hbw Hk2 Hk3 Hwl
   go_wp2
   go_loopw [8] (fun nv wq => ∃ (n : Nat) (vT : Value) (T : List Ix.Term), n ≤ words.length ∧ nv = .int .i64 (n : Int) ∧ Hid (T = Ix.termsD docs (words.take n)) ∧ Hid (Mk2 g3 vI vT T w2 wq)) (fun nv _ => words.length - (intOf nv).toNat)
   case atStart => exact ⟨0, .slice none 0 0, [], Nat.zero_le _, rfl, Lib.hid rfl, Lib.hid ⟨H3.out, Own.nil _ _ _ _ _, Sav.refl _ _ _⟩⟩
   case round =>
    obtain ⟨wq, rfl⟩ : ∃ W0, W0 = wr := ⟨_, rfl⟩
    obtain ⟨n, vT, T, hnk, rfl, hTt, hM⟩ := hrel
    by_cases hnt : n < words.length
    ·obtain ⟨bW, offW, hAW, _, _, s0, hxl⟩ := (HWd.out.apart hM.out.apart).strAt hnt
     subst hAW
     obtain ⟨x, hxx⟩ : ∃ x, x = words[n] := ⟨_, rfl⟩
     rw [← hxx] at s0 hxl
     have Hxx := Lib.hid hxx
     clear hxx
     have hn1 : (n : Int) < (words.length : Int) := by omega
     have hn0 : (0 : Int) ≤ (n : Int) := by omega
     have hnw : IntKind.i64.wrap (n : Int) = (n : Int) := IntWalk.i64_in _ (by omega)
     have Hs0 := Lib.hid s0
     obtain ⟨W9, g9, hW9, hg9, hs9, kt, hal9⟩ := box1 wq #[.string (bs x), .slice none 0 0] 62
     have HW9 := Lib.hid (And.intro hW9 (And.intro hg9 hs9)); have Hkt := Lib.hid kt; have Hal9 := Lib.hid hal9
     clear hW9 hg9 hs9 kt hal9
     go_wp2
     rw [HW9.out.1, HW9.out.2.1]
     clear s0
     go_loopw [10] (fun iv w4 => ∃ (i2 : Nat) (vP : Value) (P : List Ix.Post), i2 ≤ docs.length ∧ iv = .int .i64 (i2 : Int) ∧ Hid (P = Ix.postsOf (Ix.stemsD (docs.take i2)) x) ∧ Hid (Blk w4 g9 62 #[.string (bs x), vP]) ∧ Hid (Own postC (Old (g9 + 1)) w4 (g9 + 1) 64 vP P) ∧ Hid (Below wq.heap.size wq w4)) (fun iv _ => docs.length - (intOf iv).toNat)
     case atStart => exact ⟨0, .slice none 0 0, [], Nat.zero_le _, rfl, Lib.hid rfl, Hkt, Lib.hid (Own.nil _ _ _ _ _), Hal9⟩
     case round =>
      obtain ⟨w4, rfl⟩ : ∃ W0, W0 = wr := ⟨_, rfl⟩
      obtain ⟨i2, vP, P, hi2, rfl, hP, kt, ownP, hb4⟩ := hrel
      have hbq : Below w.heap.size w wq := hM.out.apart.whole Hb.out Hb.out.size Hg.out.1
      have hbw4 := hbq.trans (hb4.out.mono hbq.size)
      by_cases hit : i2 < docs.length
      ·obtain ⟨b, off, hA, hbl, p0, p1, r0, r1⟩ := (H0.out.1.ext hbw4).docAt hit
       subst hA
       obtain ⟨⟨id, tx⟩, hx⟩ : ∃ x, x = docs[i2] := ⟨_, rfl⟩
       have htx : tx.length ≤ 4000 := by have := ht _ (List.getElem_mem hit); rw [← hx] at this; exact this
       rw [← hx] at p0 p1 r0 r1
       dsimp only at p0 p1 r0 r1
       have hik : (i2 : Int) < (docs.length : Int) := by omega
       have hi0 : (0 : Int) ≤ (i2 : Int) := by omega
       have hiw : IntKind.i64.wrap (i2 : Int) = (i2 : Int) := IntWalk.i64_in _ (by omega)
       have Hx := Lib.hid hx; have Hr := Lib.hid (And.intro r0 r1); have Hp0 := Lib.hid p0; have Hbw4 := Lib.hid hbw4
       clear hx r0 r1 p0 hbw4 hbq
       go_wp2_with fail
       refine (refStems_ok tx (by omega) w4 (H0.out.2.1.ext Hbw4.out)).mono ?_
       rintro e w5 ⟨As, cs, Sx, rfl, hSx, ownS, hb5⟩
       have hSl : Sx.length ≤ 4000 := by rw [hSx.out]; exact Nat.le_trans (stems_count tx) htx
       have Hown := Lib.hid ownS; have Hb5 := Lib.hid hb5
       clear p1 ownS hb5
       go_wp2
       go_loopw [11, 13] (fun lv kv w6 => ∃ (k : Nat) (AL : Option Addr) (cL : Nat) (L : List Int), k ≤ Sx.length ∧ kv = .int .i64 (k : Int) ∧ lv = .slice AL L.length cL ∧ Hid (L = Ix.occ x (Sx.take k) 0) ∧ Hid (L.length ≤ k) ∧ Hid (Own intC M0 w6 w5.heap.size 3 lv L) ∧ Hid (Below w5.heap.size w5 w6)) (fun _ kv _ => Sx.length - (intOf kv).toNat)
       case atStart => exact ⟨0, none, 0, [], Nat.zero_le _, rfl, rfl, Lib.hid rfl, Lib.hid (Nat.le_refl _), Lib.hid (Own.nil _ _ _ _ _), Lib.hid (Below.refl _ _)⟩
       case round =>
        obtain ⟨w6, rfl⟩ : ∃ W0, W0 = wr := ⟨_, rfl⟩
        obtain ⟨k, AL, cL, L, hk, rfl, rfl, hL, hLl, ownL, hb6⟩ := hrel
        have hb46 : Below w4.heap.size w4 w6 := Hb5.out.trans (hb6.out.mono Hb5.out.size)
        by_cases hkt : k < Sx.length
        ·obtain ⟨bS, offS, hAS, _, _, s0, hsl⟩ := (Hown.out.read0.ext hb6.out).strAt hkt
         subst hAS
         obtain ⟨y, hy⟩ : ∃ y, y = Sx[k] := ⟨_, rfl⟩
         rw [← hy] at s0 hsl
         have Hy := Lib.hid hy
         clear hy
         have t0 := cell_ext (hb4.out.trans (hb46.mono hb4.out.size)) Hs0.out
         have hkk : (k : Int) < (Sx.length : Int) := by omega
         have hk0 : (0 : Int) ≤ (k : Int) := by omega
         have hkw : IntKind.i64.wrap (k : Int) = (k : Int) := IntWalk.i64_in _ (by omega)
         have H46 := Lib.hid hb46
         clear hb46
         by_cases e : y = x
         ·have hee : (y == x) = true := by rw [e]; exact beq_self_eq_true x
          have He := Lib.hid e
          clear e
          go_wp2
          go_quiet (fail)
          have hb67 := below_drewN' w6.heap.size w6 nq
          have own7 := ownL.out.ext hb67
          generalize w6.drewN nq = w7 at hb67 own7 ⊢
          have hb57 : Below w5.heap.size w5 w7 := hb6.out.trans (hb67.mono hb6.out.size)
          have hs57 := hb57.size
          have Hb57 := Lib.hid hb57
          clear hb57 s0 t0
          go_wp2_with (at_builtin; refine wpList_push_Own intC (M := M0) (B := w5.heap.size) TInts rfl (.tmp 93) (.tmp 95) rfl rfl own7 rfl (cs := [.int .i64 (k : Int)]) (y := (k : Int)) ⟨rfl, by omega, by omega⟩ (fun _ h => h.elim) ?a1 ?b1 hs57 ?_)
          case a1 => have := hLl.out; unfold maxLen; omega
          case b1 => have := hLl.out; omega
          intro A8 c8 L8 w8 hL8 own8 hb8 _ _
          have Hfin := Lib.hid (And.intro own8 (Hb57.out.trans hb8))
          clear own8 hb8 own7
          go_wp2
          go_roundw
          case rel => exact ⟨k + 1, A8, c8, L8, by omega, by go_num, rfl, Lib.hid (by rw [hL8.out, hL.out, Ix.occ_take x Sx hkt, ← Hy.out, if_pos He.out]), Lib.hid (by rw [hL8.out, List.length_append, List.length_singleton]; have := hLl.out; omega), Lib.hid Hfin.out.1, Lib.hid Hfin.out.2⟩
          case measure => simp [intOf]; omega
         ·have hee : (y == x) = false := by rw [beq_eq_false_iff_ne]; exact e
          have He := Lib.hid e
          clear e
          go_wp2
          go_quiet (fail)
          have hb67 := below_drewN' w6.heap.size w6 nq
          have own7 := ownL.out.ext hb67
          generalize w6.drewN nq = w7 at hb67 own7 ⊢
          have Hfin := Lib.hid (And.intro own7 (hb6.out.trans (hb67.mono hb6.out.size)))
          clear own7 hb67 s0 t0
          go_wp2
          go_roundw
          case rel => exact ⟨k + 1, AL, cL, L, by omega, by go_num, rfl, Lib.hid (by rw [hL.out, Ix.occ_take x Sx hkt, ← Hy.out, if_neg He.out, List.append_nil]), Lib.hid (by have := hLl.out; omega), Lib.hid Hfin.out.1, Lib.hid Hfin.out.2⟩
          case measure => simp [intOf]; omega
        ·obtain rfl : k = Sx.length := by omega
         have hLo : L = Ix.occ x (Sm.stems tx) 0 := by rw [hL.out, List.take_length, hSx.out]
         have hPn := Ix.postsOf_take docs x hit
         rw [← hP.out, ← Hx.out] at hPn
         dsimp only at hPn
         rw [← hLo] at hPn
         have kt6 := kt.out.ext hb46
         have own6 := ownP.out.ext hb46
         have hb06 := hb4.out.trans (hb46.mono hb4.out.size)
         have p0 := cell_ext hb46 Hp0.out
         by_cases hL0 : L = []
         ·subst hL0
          rw [if_pos rfl, List.append_nil] at hPn
          have Hfin := Lib.hid (And.intro hPn.symm (And.intro kt6 (And.intro own6 hb06)))
          clear hPn kt6 own6 hb06 hb46 p0 hLo
          go_wp2
          go_roundw
          case rel => exact ⟨i2 + 1, vP, P, by omega, by go_num, Lib.hid Hfin.out.1, Lib.hid Hfin.out.2.1, Lib.hid Hfin.out.2.2.1, Lib.hid Hfin.out.2.2.2⟩
          case measure => simp [intOf]; omega
         ·rw [if_neg hL0] at hPn
          have hl0 : (0 : Int) < (L.length : Int) := by have := List.length_pos_iff.2 hL0; omega
          have hPl : P.length ≤ 100 := by rw [hP.out]; exact Nat.le_trans (posts_count _ _) (by rw [List.length_take]; omega)
          obtain ⟨z0, z1, z2, z3, _⟩ := kt6.two
          have hSS : ∀ W', Below w6.heap.size w6 W' → W'.cell? ⟨g9, 1, none⟩ = some vP ∧ W'.cell? ⟨b, off + i2 * 2, none⟩ = some (.int .i64 id) := fun W' hb => ⟨cell_ext hb z1, cell_ext hb p0⟩
          have HS := Lib.hid hSS
          have hS := HS.out _ (below_drewN' w6.heap.size w6 1)
          have HPn := Lib.hid hPn; have K6 := Lib.hid (And.intro kt6 (And.intro own6 hb06)); have Hbl := Lib.hid (Nat.lt_of_lt_of_le hbl hb46.size)
          have Hb9 : Hid (b < g9) := Lib.hid (by
           obtain ⟨b8, off8, hA8, hb8, _⟩ := H0.out.1.docAt hit
           injection hA8 with hA8
           injection hA8 with hA1 hA2
           have := Hbw4.out.size
           have h9 := (hM.out.apart.whole Hb.out Hb.out.size Hg.out.1).size
           have := HW9.out.2.1
           omega)
          clear hSS hPn kt6 own6 hb06 hb46 p0 hLo hL0 z0 z1 z2 z3 hbl
          go_wp2_with fail
          refine wp_region_D (fun W => W.cell? ⟨g9, 1, none⟩ = some vP ∧ W.cell? ⟨b, off + i2 * 2, none⟩ = some (.int .i64 id)) (fun j => j == 12) (by kernel_rfl) ?_
          change anyD _ _ _ _ _ _ _ _ _ (w6.drewN 1)
          have hbV := below_drewN' w6.heap.size w6 1
          generalize w6.drewN 1 = V0 at hS hbV ⊢
          (refine anyD_l5 (i := 0) (v := ?_) rfl (by kernel_rfl) (fun _ _ _ h => h) (.inl ⟨by kernel_rfl, fun W9 hW9 => ?_⟩) hS ?_; rotate_left; · (obtain ⟨hw0, hw1⟩ := hW9; go_simp; rfl))
          (refine anyD_l5 (i := 1) (v := ?_) rfl (by kernel_rfl) (fun _ _ _ h => h) (.inl ⟨by kernel_rfl, fun W9 hW9 => ?_⟩) hS ?_; rotate_left; · (obtain ⟨hw0, hw1⟩ := hW9; go_simp; rfl))
          (refine anyD_l5 (i := 2) (v := ?_) rfl (by kernel_rfl) (fun _ _ _ h => h) (.inl ⟨by kernel_rfl, fun W9 hW9 => ?_⟩) hS ?_; rotate_left; · (obtain ⟨hw0, hw1⟩ := hW9; go_simp; rfl))
          (refine anyD_l5 (i := 3) (v := ?_) rfl (by kernel_rfl) (fun _ _ _ h => h) (.inl ⟨by kernel_rfl, fun W9 hW9 => ?_⟩) hS ?_; rotate_left; · (obtain ⟨hw0, hw1⟩ := hW9; go_simp; rfl))
          (refine anyD_l5 (i := 4) (v := ?_) rfl (by kernel_rfl) (fun _ _ _ h => h) (.inl ⟨by kernel_rfl, fun W9 hW9 => ?_⟩) hS ?_; rotate_left; · (obtain ⟨hw0, hw1⟩ := hW9; go_simp; rfl))
          (refine anyD_l5 (i := 5) (v := ?_) rfl (by kernel_rfl) (fun _ _ _ h => h) (.inl ⟨by kernel_rfl, fun W9 hW9 => ?_⟩) hS ?_; rotate_left; · (obtain ⟨hw0, hw1⟩ := hW9; go_simp; rfl))
          go_simp
          (refine anyD_l5 (i := 6) (v := ?_) rfl (by kernel_rfl) (fun _ _ _ h => h) (.inl ⟨by kernel_rfl, fun W9 hW9 => ?_⟩) hS ?_; rotate_left; · (obtain ⟨hw0, hw1⟩ := hW9; go_simp; rfl))
          (refine anyD_l5 (i := 7) (v := ?_) rfl (by kernel_rfl) (fun _ _ _ h => h) (.inl ⟨by kernel_rfl, fun W9 hW9 => ?_⟩) hS ?_; rotate_left; · (obtain ⟨hw0, hw1⟩ := hW9; go_simp; rfl))
          (refine anyD_l5 (i := 8) (v := ?_) rfl (by kernel_rfl) (fun _ _ _ h => h) (.inl ⟨by kernel_rfl, fun W9 hW9 => ?_⟩) hS ?_; rotate_left; · (obtain ⟨hw0, hw1⟩ := hW9; go_simp; rfl))
          go_simp
          refine anyD_one (i := 9) (by kernel_rfl) rfl rfl (fun K hK => ?_)
          have HK := Lib.hid hK
          clear hK
          unfold Oper.wp
          go_simp
          generalize hV : World.alloc V0 (.cells #[.int .i64 id, .slice AL L.length cL] 64) = V1
          have hal8 : Below w6.heap.size w6 V1 := by rw [← hV]; exact hbV.alloc hbV.size _
          have hrdL : SlR intC (fun b => Old (g9 + 1) b ∨ vP.ownBlock = some b) V0 (.slice AL L.length cL) L := ((ownL.out.ext hbV).flatC (M' := fun b => Old (g9 + 1) b ∨ vP.ownBlock = some b) flatC_int fun _ _ => rfl).read fun b hb hor => by
           have h1 := ownL.out.base b hb
           have h2 := Hb5.out.size
           have h3 := kt.out.lt
           rcases hor with h4 | h4
           ·have h5 : b < g9 + 1 := h4; omega
           ·have h5 := ownP.out.lt b h4; omega
          have xr : SlR postC (fun b => Old (g9 + 1) b ∨ vP.ownBlock = some b) V1 (.slice (some ⟨V0.heap.size, 0, none⟩) 1 1) [(id, L)] := by rw [← hV]; exact SlR.built (C := postC) (M := fun b => Old (g9 + 1) b ∨ vP.ownBlock = some b) (w := V0) (a := (id, L)) (cs := [.int .i64 id] ++ [.slice AL L.length cL]) _ ⟨[.int .i64 id], [.slice AL L.length cL], rfl, ⟨rfl, Hr.out.1, Hr.out.2⟩, _, rfl, hrdL⟩ (fun b hb => by
           have h6 := hbV.size
           have h7 := K6.out.1.lt
           rcases hb with h4 | h4
           ·have h5 : b < g9 + 1 := h4; omega
           ·have h5 := K6.out.2.1.lt b h4; omega)
          clear hS hV hrdL
          have hS := HS.out _ hal8
          refine HK.out _ _ (fun _ => hS) ?_
          clear HK
          go_simp
          refine anyD_one (i := 10) (by kernel_rfl) rfl rfl (fun K hK => ?_)
          have HK := Lib.hid hK
          clear hK
          refine wp_append_Own postC TPosts (.tmp 101) (.tmp 109) rfl rfl (K6.out.2.1.ext hal8) rfl xr (by simp only [maxLen, List.length_singleton]; omega) (by simp only [List.length_singleton]; omega) (by have := K6.out.1.lt; have := hal8.size; omega) ?_
          intro A8 c8 L8 V2 hL8 own8 hbl8 hgr8 hor8
          have keep : ∀ b, b < w6.heap.size → vP.ownBlock ≠ some b → V2.heap[b]? = V1.heap[b]? := fun b hb ho => hgr8.block b (Nat.lt_of_lt_of_le hb hal8.size) fun e => ho e.symm
          have k98 := (K6.out.1.ext hal8).keep (keep g9 K6.out.1.lt (fun e => by have := K6.out.2.1.base g9 e; omega))
          obtain ⟨y0, y1, y2, y3, _⟩ := k98.two
          have hdoc : V2.cell? ⟨b, off + i2 * 2, none⟩ = some (.int .i64 id) := (World.cell?_of_block (a := ⟨b, off + i2 * 2, none⟩) (keep b Hbl.out fun e => by have := K6.out.2.1.base b e; have := Hb9.out; omega)).trans hS.2
          have hS8 := And.intro y1 hdoc
          have K98 := Lib.hid k98; have Hbl8 := Lib.hid (K6.out.2.2.trans ((hal8.mono K6.out.2.2.size).trans (hbl8.mono (by have := HW9.out.2.1; omega))))
          clear hS xr keep k98 hdoc hbl8
          have hS := hS8
          clear hS8
          refine HK.out _ _ (fun _ => hS) ?_
          clear HK
          (refine anyD_l5 (i := 11) (v := ?_) rfl (by kernel_rfl) (fun _ _ _ h => h) (.inl ⟨by kernel_rfl, fun W9 hW9 => ?_⟩) hS ?_; rotate_left; · (obtain ⟨hw0, hw1⟩ := hW9; go_simp; rfl))
          go_simp
          refine anyD_one (i := 12) (by kernel_rfl) rfl rfl (fun K hK => ?_)
          have HK := Lib.hid hK
          clear hK
          obtain ⟨hq8, hq9⟩ := hS
          unfold Oper.wp
          go_simp
          refine HK.out _ _ (fun h => by cases h) ?_
          clear HK
          go_simp
          refine anyD_done (by kernel_rfl) ?_ _
          obtain ⟨W8, hW8⟩ : ∃ W8, V2.setCell ⟨g9, 1, none⟩ (.slice A8 L8.length c8) = W8 := ⟨_, rfl⟩
          have k9 : Blk W8 g9 62 #[.string (bs x), .slice A8 L8.length c8] := hW8 ▸ K98.out.set_ 1 (.slice A8 L8.length c8)
          have own9 : Own postC (Old (g9 + 1)) W8 (g9 + 1) 64 (.slice A8 L8.length c8) L8 := own8.keep (fun b _ hor => by
           rw [← hW8]
           refine heap_set_ne _ _ _ ?_
           rcases hor with h1 | h1
           ·intro e; exact h1 (show b < g9 + 1 by rw [e]; show g9 < g9 + 1; omega)
           ·have h5 := own8.base b h1
            show b ≠ g9
            omega) (by rw [← hW8]; simp) (fun b hb (e : b < g9 + 1) => by have := own8.base b hb; omega)
          have hb9 : Below wq.heap.size wq W8 := by rw [← hW8]; exact Hbl8.out.setCell (p := ⟨g9, 1, none⟩) (by have := HW9.out.2.1; show wq.heap.size ≤ g9; omega) _
          have Hfin := Lib.hid (And.intro (hL8.out.trans HPn.out.symm) (And.intro k9 (And.intro own9 hb9)))
          rw [hW8]
          clear k9 own9 hb9 hW8 y0 y1 y2 y3 hq8 hq9 own8 hgr8 hor8
          go_wp2
          go_roundw
          case rel => exact ⟨i2 + 1, .slice A8 L8.length c8, L8, by omega, by go_num, Lib.hid Hfin.out.1, Lib.hid Hfin.out.2.1, Lib.hid Hfin.out.2.2.1, Lib.hid Hfin.out.2.2.2⟩
          case measure => simp [intOf]; omega
      ·obtain rfl : i2 = docs.length := by omega
       have hPn : P = Ix.postsOf (Ix.stemsD docs) x := by rw [hP.out, List.take_length]
       have hM4 := hM.out.ext hb4.out
       obtain ⟨AP, cP, hvP, _, _⟩ := ownP.out.shape
       subst hvP
       have hlq : wq.heap.size = g9 := HW9.out.2.1
       have hPr : SlR postC (fun b => b ≤ g3 ∨ vT.ownBlock = some b) w4 (.slice AP P.length cP) P := (ownP.out.readB fun _ h => h).sub fun b _ hor => by
        show b < g9 + 1
        rcases hor with h1 | h1
        ·have := hM.out.apart.size; omega
        ·have := hM.out.own.lt b h1; omega
       have hTl : T.length ≤ 400000 := by rw [hTt.out]; unfold Ix.termsD; rw [List.length_map, List.length_take]; omega
       obtain ⟨z0, z1, _, _, _⟩ := kt.out.two
       obtain ⟨x0, x1, _, _, _⟩ := hM4.kx.two
       have hsz4 := hM4.apart.size
       have own4 := hM4.own
       have HM4 := Lib.hid hM4; have HPn := Lib.hid hPn
       clear hM4 hPn hbq hbw4
       go_wp2_with (at_builtin; refine wpList_push_Own termC (M := fun b => b ≤ g3) (B := w2.heap.size) TTerms rfl (.tmp 113) (.tmp 115) rfl rfl own4 rfl (cs := [.string (bs x), .slice AP P.length cP]) (y := (x, P)) ⟨[.string (bs x)], [.slice AP P.length cP], rfl, ⟨rfl, hxl⟩, _, rfl, hPr⟩ (fun b (e : b ≤ g3) => by omega) ?a1 ?b1 hsz4 ?_)
       case a1 => unfold maxLen; omega
       case b1 => omega
       intro A8 c8 L8 V2 hL8 own8 hb8 hgr8 hor8
       have k38 : Blk V2 g3 25 #[vI, vT] := HM4.out.kx.keep (hgr8.block g3 HM4.out.kx.lt fun e => by have := HM4.out.own.base g3 e.symm; omega)
       obtain ⟨y0, y1, y2, y3, _⟩ := k38.two
       obtain ⟨W8, hW8⟩ : ∃ W8, V2.setCell ⟨g3, 1, none⟩ (.slice A8 L8.length c8) = W8 := ⟨_, rfl⟩
       have Hfin := Lib.hid (HM4.out.push hg3s hb8 hgr8 own8 hW8)
       have HL8 := Lib.hid (show L8 = Ix.termsD docs (words.take (n + 1)) by rw [hL8.out, hTt.out, HPn.out, List.take_succ_eq_append_getElem hnt, ← Hxx.out]; unfold Ix.termsD; rw [List.map_append]; rfl)
       have HW8 := Lib.hid hW8
       clear own8 hb8 hgr8 hor8 k38 hW8 hPr own4 z0 z1 x0 x1
       go_wp2
       rw [HW8.out]
       go_roundw
       case rel => exact ⟨n + 1, _, L8, by omega, by go_num, HL8, Hfin⟩
       case measure => simp [intOf]; omega
    ·obtain rfl : n = words.length := by omega
     have hTn : T = Ix.termsD docs words := by rw [hTt.out, List.take_length]
     rw [Hwd'.out] at hTn
     obtain ⟨AI, cI, hvI, _, _⟩ := HI.out.form
     subst hvI
     obtain ⟨AT, cT, hvT, _, _⟩ := hM.out.own.shape
     subst hvT
     have k2 := H2.out.keep (hM.out.apart.block g2 (by have := H2.out.lt; omega) (by have := Hg.out; omega))
     obtain ⟨z0, z1, z2, z3, _⟩ := k2.two
     obtain ⟨x0, x1, _, _, _⟩ := hM.out.kx.two
     obtain ⟨mI, hmI⟩ : ∃ m, (docs.map fun d => d.1).length = m := ⟨_, rfl⟩
     rw [hmI] at x0
     have HmI := Lib.hid hmI; have Hk2 := Lib.hid k2; have HTn := Lib.hid hTn
     clear hmI k2 hTn
     go_wp2
     obtain ⟨W9, hW9⟩ : ∃ W9, (wq.setCell ⟨g2, 0, none⟩ (.slice AI mI cI)).setCell ⟨g2, 1, none⟩ (.slice AT T.length cT) = W9 := ⟨_, rfl⟩
     obtain ⟨p7, hp7⟩ := put2 Hk2.out _ _ hW9
     have hbe : Below w.heap.size w W9 := below_put2 (hM.out.apart.whole Hb.out Hb.out.size Hg.out.1) (by have := Hg.out; omega) _ _ hW9
     rw [hW9]
     obtain ⟨e2, e3, _⟩ := p7.two
     refine bodyPost_ret (v := .agg #[.slice AI mI cI, .slice AT T.length cT]) (by simp [results, Tryz.results18, go_sem, e2, e3]) rfl ?_
     refine ⟨_, _, rfl, ?_, ?_, hbe⟩
     ·rw [← HmI.out]
      exact ((HI.out.apart hM.out.apart).keep (fun b _ hb => hp7 b fun e => hb (by rw [e]; have := Hg.out; omega)) (by rw [← hW9]; simp)).weak
     ·rw [← HTn.out]
      refine SlR.weak (M := fun b => b ≤ g3) ((hM.out.own.read fun b hb (e : b ≤ g3) => by have := hM.out.own.base b hb; omega).keep (fun b _ hb => hp7 b fun e => hb (by rw [e]; have := Hg.out; omega)) (by rw [← hW9]; simp))
end Go.Proofs.YtnlhocbaighedaaGreatDoor
namespace Go.Proofs.YtnlhocbaighedaaGreatDoor
open Go.RowKit
set_option linter.unusedVariables false
namespace Rk
open Ix
theorem stemsD_fst (docs : List (Int × Str)) : (stemsD docs).map (fun d => d.1) = docs.map fun d => d.1 := by unfold stemsD; rw [List.map_map]; rfl
theorem canon_none : Canon ([], []) := (indexF_zero ([], [])).1 rfl
theorem addR_of' {x : Idx} {id : Int} {t : Str} (hc : Canon x) (hr : 1 ≤ id ∧ id ≤ 1000000) (ht : t.length ≤ 4000) (hid : id ∉ x.1) (hn : x.1.length ≠ 300) (hm : (putAll id (Sm.stems t) 0 x.2).length ≤ 1000000) : addR x id t = (addF x id (Sm.stems t), 0, 0) := by
 unfold addR
 rw [if_neg (by simpa using (indexF_zero x).2 hc), if_neg (by omega), if_neg (by omega), if_neg (by omega), if_neg hid, if_neg hn, if_neg (by omega)]
/-- one text more, under a greater number -/
theorem made_step {docs : List (Int × Str)} {d : Int × Str} (hs : ((docs ++ [d]).map fun d => d.1).Pairwise (· < ·)) (hall : ∀ e ∈ docs ++ [d], e.2.length ≤ 4000) (hn : docs.length < 100) (hid : 1 ≤ d.1 ∧ d.1 ≤ 1000000) (hc : Canon (madeF (stemsD docs))) : Canon (madeF (stemsD (docs ++ [d]))) := by
 have hst : stemsD (docs ++ [d]) = stemsD docs ++ [(d.1, Sm.stems d.2)] := by unfold stemsD; rw [List.map_append]; rfl
 have hsn : madeF (stemsD (docs ++ [d])) = addF (madeF (stemsD docs)) d.1 (Sm.stems d.2) := by
  rw [hst]
  refine made_snoc ?_
  rw [← hst, stemsD_fst]
  exact hs
 have hids : (madeF (stemsD docs)).1 = docs.map fun d => d.1 := by rw [made_eq]
 have hnot : d.1 ∉ (madeF (stemsD docs)).1 := by
  rw [hids]
  intro hm
  rw [List.map_append, List.pairwise_append] at hs
  have := hs.2.2 _ hm d.1 (by simp)
  omega
 have hterms : (putAll d.1 (Sm.stems d.2) 0 (madeF (stemsD docs)).2).length ≤ 1000000 := by
  have : (madeF (stemsD (docs ++ [d]))).2 = putAll d.1 (Sm.stems d.2) 0 (madeF (stemsD docs)).2 := by rw [hsn]; rfl
  rw [← this, made_eq]
  show (termsD _ _).length ≤ _
  unfold termsD
  rw [List.length_map]
  have := wordsD_len (docs ++ [d]) hall (by simp; omega)
  omega
 have h := addR_of' hc hid (hall d (by simp)) hnot (by rw [hids, List.length_map]; omega) hterms
 have hg := addR_good (x := madeF (stemsD docs)) (id := d.1) (t := d.2) (by rw [h])
 rw [hsn]
 exact hg.2.2.2.2
theorem two_canon {t u : Str} (ht : t.length ≤ 4000) (hu : u.length ≤ 4000) {i j : Int} (hi : 1 ≤ i ∧ i < j ∧ j ≤ 1000000) : Canon (madeF (stemsD [(i, t), (j, u)])) := by
 have h1 : Canon (madeF (stemsD ([] ++ [(i, t)]))) := made_step (by simp) (by simpa using ht) (by simp) (by simp; omega) canon_none
 exact made_step (docs := [(i, t)]) (d := (j, u)) (by simp; omega) (by simp; exact ⟨ht, hu⟩) (by simp) (by simp; omega) h1
theorem canon_sz {x : Idx} (h : Canon x) : SzIx x.2 := fun t ht => by
 have := (h.small.posts _ ht).1
 omega
end Rk
end Go.Proofs.YtnlhocbaighedaaGreatDoor
