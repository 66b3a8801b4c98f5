/-
  Contracts and plain facts, one after another: mailbox.Apply; Items of records: strconv.AppendInt, and what the writer holds.
-/
import Derived.Test.YtjamjkjmlckgeaaGreatDoorBxN
import Derived.Test.YtjamjkjmlckgeaaGreatDoorShelf
import Derived.Deep.AppendSrc
import Derived.Lib.SlBytesConst
import Derived.Lib.OthersKept
namespace Go.Proofs.YtjamjkjmlckgeaaGreatDoor
open Go.RowKit
set_option linter.unusedVariables false

set_option maxRecDepth 100000 in
set_option maxHeartbeats 8000000 in
theorem Apply_ok (M : Nat → Prop) (b : Mb.Box) (c : Mb.Chg) (es gs f bd : Value) (w : World) (hM : ∀ x, M x → x < w.heap.size) (he : SlR entC M w es b.es) (hg : SlR gnC M w gs b.gs) (hf : SlR fldC M0 w f c.2.2.2.2.2.1) (hb : SlR byteC M0 w bd c.2.2.2.2.2.2) (hsz : ∀ e ∈ b.es, e.2.2.2.2.2.length ≤ 140737480000000) (hfl : c.2.2.2.2.2.1.length ≤ 1000000000) (hlen : c.2.2.2.2.2.2.length ≤ 1000000000) (hgl : ¬ c.1 = 1 → b.gs.length < 400) :
    Calls Tryz.prog 11 #[boxV b es gs, chgV c f bd] w fun e w' => ∃ es' gs', e = .returned (.tuple #[boxV (Mb.appF b c).1 es' gs', .agg #[.int .i64 (Mb.appF b c).2.1, .int .i64 (Mb.appF b c).2.2]]) ∧ Own entC (fun x => M x ∨ gs'.ownBlock = some x) w' w.heap.size 65 es' (Mb.appF b c).1.es ∧ Own gnC M w' w.heap.size 82 gs' (Mb.appF b c).1.gs ∧ Below w.heap.size w w' := by
  unfold chgV
  obtain ⟨⟨rb, r1, r2⟩, hr⟩ : ∃ r, r = Mb.appF b c := ⟨_, rfl⟩
  rw [← hr]
  dsimp only
  have hva := fun W (h1 : SlR entC M0 W es b.es) (h2 : SlR gnC M0 W gs b.gs) => validate_ok b es gs W h1 h2 hsz
  have hap := fun W (Mx : Nat → Prop) (h0 : ∀ x, Mx x → x < W.heap.size) (h1 : SlR entC Mx W es b.es) (h2 : SlR gnC Mx W gs b.gs) (h3 : SlR fldC M0 W f c.2.2.2.2.2.1) (h4 : SlR byteC M0 W bd c.2.2.2.2.2.2) (h5 : Mb.Good b) => apply_ok Mx b c es gs f bd W h0 h1 h2 h3 h4 hfl hlen h5 hgl
  obtain ⟨v1, hv1⟩ : ∃ x, x = (Mb.boxF b).1 := ⟨_, rfl⟩
  obtain ⟨v2, hv2⟩ : ∃ x, x = (Mb.boxF b).2 := ⟨_, rfl⟩
  have hgood : v1 = 0 → Mb.Good b := fun h => Mb.boxF_good.1 (by rw [← hv1]; exact h)
  unfold Mb.appF at hr
  rw [← hv1] at hr hva
  rw [← hv2] at hva
  have hr2 : v1 ≠ 0 → (rb, r1, r2) = (Mb.emptyB, v1, v2) := fun h => by rw [hr, if_pos h, hv1, hv2]
  have hr3 : v1 = 0 → (rb, r1, r2) = Mb.applF b c := fun h => by rw [hr, if_neg (fun h9 => h9 h)]
  clear hv1 hv2 hr
  obtain ⟨Ae, ce, rfl, hec, hem⟩ := he.form
  obtain ⟨Ag, cg, rfl, hgc, hgm⟩ := hg.form
  obtain ⟨Af, cf, rfl, hfc, hfm⟩ := hf.form
  obtain ⟨Ab, cb, rfl, hbc, hbm⟩ := hb.form
  obtain ⟨kd, ud, st, cl, tm, fl, bdl⟩ := c
  unfold boxV chgV at hap
  unfold boxV at hva ⊢
  dsimp only at hf hb hfl hlen hap hr2 hr3 ⊢
  have Hva := Lib.hid hva; have Hap := Lib.hid hap; have Hr2 := Lib.hid hr2; have Hr3 := Lib.hid hr3; have Hgood := Lib.hid hgood
  clear hva hap hr2 hr3 hgood
  obtain ⟨wa, g2, g3, hwa, hg2, hg3, hsza, ka, kb, hba⟩ := box2 w #[.int .i64 b.nu, .int .i64 b.ns, .int .i64 b.hz, .slice Ae b.es.length ce, .slice Ag b.gs.length cg] 26 #[.int .i64 kd, .int .i64 ud, .int .i64 st, .int .i64 cl, .int .i64 tm, .slice Af fl.length cf, .slice Ab bdl.length cb] 47
  obtain ⟨w0, g4, g5, hw0, hg4, hg5, hsz0, k4, k5, hbb⟩ := box2 wa #[.int .i64 0, .int .i64 0, .int .i64 0, .slice none 0 0, .slice none 0 0] 26 #[.int .i64 0, .int .i64 0] 31
  have k2 := ka.ext hbb; have k3 := kb.ext hbb; have hb0 := below2 hba hbb
  have hne45 : g4 ≠ g5 := by omega
  have hgl4 : w.heap.size ≤ g4 := by omega
  have hgl5 : w.heap.size ≤ g5 := by omega
  have hg34 : g3 < g4 := by omega
  have hg23 : g2 < g3 := by omega
  have hg50 : g5 < w0.heap.size := k5.lt
  have he0 := he.zero.ext hb0; have hg0 := hg.zero.ext hb0; have hf0 := hf.ext hb0; have hb0d := hb.ext hb0
  have c0 := k2.cell 0; have c1 := k2.cell 1; have c2 := k2.cell 2; have c3 := k2.cell 3; have c4 := k2.cell 4
  clear hsza hsz0 ka kb
  go_enter Tryz.func11, Tryz.ntmps11
  go_wp2_with fail
  refine (Hva.out w0 he0 hg0).mono ?_
  rintro e w1 ⟨rfl, hb1⟩
  obtain ⟨w2, g6, hw2, hg6, hsz2, k6, hb2⟩ := box1 w1 #[.int .i64 v1, .int .i64 v2] 31
  have hb2' := below2 hb1 hb2
  have hg6' : w0.heap.size ≤ g6 := by have := hb1.size; omega
  obtain ⟨q0, q1, _, _, _⟩ := k6.two
  clear hsz2 c0 c1 c2 c3 c4 Hva
  go_wp2_with fail
  refine (failed_ok v1 v2 w2).mono ?_
  rintro e w3 ⟨rfl, hb3⟩
  have hb3' := below2 hb2' hb3
  by_cases hv1 : v1 = 0
  · subst hv1
    have hG := Hgood.out rfl
    have HE := Hr3.out rfl
    have hz : ((0 : Int) != 0) = false := rfl
    have hap := Hap.out w3
    rw [← HE] at hap
    dsimp only at hap
    clear HE q0 q1 Hr2 Hr3 Hgood Hap
    obtain ⟨M1, hM1⟩ : ∃ M1 : Nat → Prop, M1 = fun x => M x ∨ x = g4 ∨ x = g5 := ⟨_, rfl⟩
    have hMg4 : M1 g4 := by rw [hM1]; exact .inr (.inl rfl)
    have hMg5 : M1 g5 := by rw [hM1]; exact .inr (.inr rfl)
    have hM1M : ∀ x, M x → M1 x := fun x hx => by rw [hM1]; exact .inl hx
    have hM1lt : ∀ x, M1 x → x < w0.heap.size := by
      intro x hx
      rw [hM1] at hx
      have := hb0.size
      rcases hx with hx | hx | hx
      · have := hM x hx; omega
      · omega
      · omega
    have hbw3 := below2 hb0 hb3'
    have hs3 := hb3'.size; have hs0 := hb0.size
    have hsub : ∀ x, x < w.heap.size → M1 x → M x := fun x hx h => by
      rw [hM1] at h
      rcases h with h | h | h
      · exact h
      · omega
      · omega
    have hap2 := hap M1 (fun x hx => Nat.lt_of_lt_of_le (hM1lt x hx) hs3) ((he.sub hsub).ext hbw3) ((hg.sub hsub).ext hbw3) (hf0.ext hb3') (hb0d.ext hb3') hG
    have Hap2 := Lib.hid hap2
    clear hap hap2 hM1
    have k2W := k2.ext hb3'; have k3W := k3.ext hb3'
    have c0 := k2W.cell 0; have c1 := k2W.cell 1; have c2 := k2W.cell 2; have c3 := k2W.cell 3; have c4 := k2W.cell 4
    have d0 := k3W.cell 0; have d1 := k3W.cell 1; have d2 := k3W.cell 2; have d3 := k3W.cell 3; have d4 := k3W.cell 4; have d5 := k3W.cell 5; have d6 := k3W.cell 6
    go_wp2_with fail
    refine Hap2.out.mono ?_
    rintro e w4 ⟨esv, gsv, rfl, oE, oG, hb4⟩
    obtain ⟨Aes, ces, rfl, _, _⟩ := oE.shape
    obtain ⟨Ags, cgs, rfl, _, _⟩ := oG.shape
    have hb4' := below2 hb3' hb4
    have k4W := k4.ext hb4'; have k5W := k5.ext hb4'
    obtain ⟨z0, z1, z2, z3, z4, y0, y1, hbZ, hTz⟩ := res7 k4W k5W hne45 (.int .i64 rb.nu) (.int .i64 rb.ns) (.int .i64 rb.hz) (.slice Aes rb.es.length ces) (.slice Ags rb.gs.length cgs) (.int .i64 r1) (.int .i64 r2)
    have m0 := k4W.cell 0; have m1 := k4W.cell 1; have m2 := k4W.cell 2; have m3 := k4W.cell 3; have m4 := k4W.cell 4
    have x0 := k4W.frozen 0; have x1 := k4W.frozen 1; have x2 := k4W.frozen 2; have x3 := k4W.frozen 3; have x4 := k4W.frozen 4; have xl := k4W.lt
    have n0 := (k5W.turned (put5_turned w4 g4 (.int .i64 rb.nu) (.int .i64 rb.ns) (.int .i64 rb.hz) (.slice Aes rb.es.length ces) (.slice Ags rb.gs.length cgs)) hne45.symm).cell 0; have n1 := (k5W.turned (put5_turned w4 g4 (.int .i64 rb.nu) (.int .i64 rb.ns) (.int .i64 rb.hz) (.slice Aes rb.es.length ces) (.slice Ags rb.gs.length cgs)) hne45.symm).cell 1
    obtain ⟨_, _, u0, u1, ul⟩ := k5W.two
    have u0b := (put5_turned w4 g4 (.int .i64 rb.nu) (.int .i64 rb.ns) (.int .i64 rb.hz) (.slice Aes rb.es.length ces) (.slice Ags rb.gs.length cgs)).frozen0 k5W hne45.symm; have u1b := (put5_turned w4 g4 (.int .i64 rb.nu) (.int .i64 rb.ns) (.int .i64 rb.hz) (.slice Aes rb.es.length ces) (.slice Ags rb.gs.length cgs)).frozen1 k5W hne45.symm
    have hapE4 : ∀ x, _ → x ≠ g4 := fun x hx => by have h1 := oE.base x hx; have h2 := hM1lt g4 hMg4; omega
    have hapE5 : ∀ x, _ → x ≠ g5 := fun x hx => by have h1 := oE.base x hx; have h2 := hM1lt g5 hMg5; omega
    have hapG4 : ∀ x, _ → x ≠ g4 := fun x hx => by have h1 := oG.base x hx; have h2 := hM1lt g4 hMg4; omega
    have hapG5 : ∀ x, _ → x ≠ g5 := fun x hx => by have h1 := oG.base x hx; have h2 := hM1lt g5 hMg5; omega
    unfold put5 at *
    go_wp2_with fail
    refine bodyPost_ret (v := .tuple #[.agg #[.int .i64 rb.nu, .int .i64 rb.ns, .int .i64 rb.hz, .slice Aes rb.es.length ces, .slice Ags rb.gs.length cgs], .agg #[.int .i64 r1, .int .i64 r2]]) (by simp [results, Tryz.results11, go_sem, z0, z1, z2, z3, z4, y0, y1]) rfl ⟨_, _, rfl, ?_, ?_, ?_⟩
    · exact own_lower (own_sub (own_two oE hTz (.inl hMg4) (.inl hMg5) hapE4 hapE5) fun x _ hx => hx.imp (hM1M x) id) (by omega)
    · exact own_lower (own_sub (own_two oG hTz hMg4 hMg5 hapG4 hapG5) fun x _ hx => hM1M x hx) (by omega)
    · exact (below2 hb0 hb4').trans (hbZ _ (by omega) (by omega))
  · have hz : (v1 != 0) = true := by simpa using hv1
    have HE := Hr2.out hv1
    obtain ⟨rfl, rfl, rfl⟩ : rb = Mb.emptyB ∧ r1 = v1 ∧ r2 = v2 := by injection HE with a b; injection b with b c; exact ⟨a, b, c⟩
    clear HE hv1 q0 q1 Hr2 Hr3 Hgood Hap
    have HS := Lib.hid (show ∀ W, Below w2.heap.size w2 W → W.cell? ⟨g6, 0, none⟩ = some (.int .i64 r1) ∧ W.cell? ⟨g6, 1, none⟩ = some (.int .i64 r2) from fun W hW => ⟨(k6.ext hW).cell 0, (k6.ext hW).cell 1⟩)
    go_wp2_with fail
    refine wp_region_D (fun W => W.cell? ⟨g6, 0, none⟩ = some (.int .i64 r1) ∧ W.cell? ⟨g6, 1, none⟩ = some (.int .i64 r2)) (fun j => j == 3) (by kernel_rfl) ?_
    change anyD _ _ _ _ _ _ _ _ _ (w3.drewN 1)
    have hbV := below_drewN' w3.heap.size w3 1
    generalize w3.drewN 1 = V1 at hbV ⊢
    have hbR := below2 hb3' hbV
    have hS := HS.out V1 (below2 hb3 hbV)
    (refine anyD_light (i := 0) (v := ?_) rfl (by kernel_rfl) (by kernel_rfl) (by kernel_rfl) (by kernel_rfl) (by kernel_rfl) (fun _ _ _ h => h) (.inl ⟨by kernel_rfl, fun W9 hW9 => ?_⟩) hS ?_; rotate_left; · (obtain ⟨hw0, hw1⟩ := hW9; go_simp; rfl))
    (refine anyD_light (i := 1) (v := ?_) rfl (by kernel_rfl) (by kernel_rfl) (by kernel_rfl) (by kernel_rfl) (by kernel_rfl) (fun _ _ _ h => h) (.inl ⟨by kernel_rfl, fun W9 hW9 => ?_⟩) hS ?_; rotate_left; · (obtain ⟨hw0, hw1⟩ := hW9; go_simp; rfl))
    go_simp
    refine anyD_one (i := 2) (by kernel_rfl) rfl rfl (fun K hK => ?_)
    have HK := Lib.hid hK
    clear hK
    clear hS
    have k4W := k4.ext hbR; have k5W := k5.ext hbR
    obtain ⟨z0, z1, z2, z3, z4, y0, y1, hbZ, hTz⟩ := res7 k4W k5W hne45 (.int .i64 0) (.int .i64 0) (.int .i64 0) (.slice none 0 0) (.slice none 0 0) (.int .i64 r1) (.int .i64 r2)
    have m0 := k4W.cell 0; have m1 := k4W.cell 1; have m2 := k4W.cell 2; have m3 := k4W.cell 3; have m4 := k4W.cell 4
    have x0 := k4W.frozen 0; have x1 := k4W.frozen 1; have x2 := k4W.frozen 2; have x3 := k4W.frozen 3; have x4 := k4W.frozen 4; have xl := k4W.lt
    have n0 := (k5W.turned (put5_turned V1 g4 (.int .i64 0) (.int .i64 0) (.int .i64 0) (.slice none 0 0) (.slice none 0 0)) hne45.symm).cell 0; have n1 := (k5W.turned (put5_turned V1 g4 (.int .i64 0) (.int .i64 0) (.int .i64 0) (.slice none 0 0) (.slice none 0 0)) hne45.symm).cell 1
    obtain ⟨_, _, u0, u1, ul⟩ := k5W.two
    have u0b := (put5_turned V1 g4 (.int .i64 0) (.int .i64 0) (.int .i64 0) (.slice none 0 0) (.slice none 0 0)).frozen0 k5W hne45.symm; have u1b := (put5_turned V1 g4 (.int .i64 0) (.int .i64 0) (.int .i64 0) (.slice none 0 0) (.slice none 0 0)).frozen1 k5W hne45.symm
    have k6b := ((k6.ext (below2 hb3 hbV)).turned (put5_turned V1 g4 (.int .i64 0) (.int .i64 0) (.int .i64 0) (.slice none 0 0) (.slice none 0 0)) (by omega))
    have hS3 := (⟨k6b.cell 0, k6b.cell 1⟩ : _ ∧ _)
    unfold put5 at *
    unfold Oper.wp
    go_simp
    refine HK.out _ _ (fun _ => hS3) ?_
    clear HK
    have hS := hS3
    go_simp
    refine anyD_one (i := 3) (by kernel_rfl) rfl rfl (fun K hK => ?_)
    have HK := Lib.hid hK
    clear hK
    unfold Oper.wp
    go_simp
    refine HK.out _ _ (fun h => by cases h) ?_
    clear HK
    go_simp
    refine anyD_done (by kernel_rfl) ?_ _
    go_wp2_with fail
    refine bodyPost_ret (v := .tuple #[.agg #[.int .i64 0, .int .i64 0, .int .i64 0, .slice none 0 0, .slice none 0 0], .agg #[.int .i64 r1, .int .i64 r2]]) (by simp [results, Tryz.results11, go_sem, z0, z1, z2, z3, z4, y0, y1]) rfl ⟨_, _, rfl, ?_, ?_, ?_⟩
    · exact Own.nil _ _ _ _ _
    · exact Own.nil _ _ _ _ _
    · exact (below2 hb0 hbR).trans (hbZ _ (by omega) (by omega))
end Go.Proofs.YtjamjkjmlckgeaaGreatDoor
namespace Go.Proofs.YtjamjkjmlckgeaaGreatDoor
open Go.RowKit
set_option linter.unusedVariables false

/-- the table of powers of ten and a bound of the library's, both in blocks below n0 -/
def Env (n0 : Nat) (w : World) : Prop := Lib.TabBelow Tryz.prog n0 w "internal/strconv.uint64pow10" .u64 Lib.pow10Tab ∧ ∃ m : Int, ∀ w', Below n0 w w' → w'.cell? ⟨0, 0, none⟩ = some (.int .i64 m)
theorem Env.on {n0 : Nat} {w w' : World} (h : Env n0 w) (hb : Below n0 w w') : Env n0 w' := ⟨h.1.on hb, by
  obtain ⟨m, hm⟩ := h.2
  exact ⟨m, fun W hW => hm W (hb.trans hW)⟩⟩
theorem Env.ext {n0 B : Nat} {w w' : World} (h : Env n0 w) (hb : Below B w w') (hB : n0 ≤ B) : Env n0 w' := h.on (hb.mono hB)
theorem Env.tab {n0 B : Nat} {w : World} (h : Env n0 w) (hB : n0 ≤ B) : Lib.TabBelow Tryz.prog B w "internal/strconv.uint64pow10" .u64 Lib.pow10Tab := fun W hW => h.1 W (hW.mono hB)
theorem appendInt_own {w : World} {B : Nat} {v : Value} {l : List UInt8} (n : Nat) (hn : n ≤ 1000000000) (h : Own byteC M0 w B 5 v l) (hBw : B ≤ w.heap.size) (hl : l.length ≤ 1000000000) (ht : Lib.TabBelow Tryz.prog B w "internal/strconv.uint64pow10" .u64 Lib.pow10Tab) :
    Calls Tryz.prog 114 #[v, .int .i64 (n : Int), .int .i64 10] w fun e w' => ∃ v', e = .returned v' ∧ Own byteC M0 w' B 5 v' (l ++ Lib.itoa (n : Int)) ∧ Below B w w' ∧ Lib.OthersKept 5 none w w' := by
  obtain ⟨xs, ho, he⟩ := h
  refine (Tryz.strconv_AppendInt_10 B l.length (n : Int) (by omega) (by omega) v xs w ho hBw (by omega) ht).mono ?_
  rintro e w' ⟨v', rfl, ho', hb, hk⟩
  refine ⟨v', rfl, ⟨xs ++ Lib.byteCells (Lib.itoa (n : Int)), by rw [List.length_append]; exact ho', ?_⟩, hb, hk⟩
  have e1 : Els byteC (fun b => M0 b ∨ v'.ownBlock = some b) w' xs l := ⟨he.1, fun i hi => flat_byte.2 _ _ _ _ _ _ (he.2 i hi)⟩
  exact e1.append (lit_bytes _ w' (Lib.itoa (n : Int)))
/-- a text behind the one byte of a full row -/
theorem run_append_full (w : World) (q : Nat) (c : UInt8) (s : List UInt8) (ty : TypeId) (hc : w.cell? ⟨q, 0, none⟩ = some (.int .u8 (c.toNat : Int))) (hs : 0 < s.length) (hl : s.length ≤ 1000) :
    ∃ v' w', (Builtin.append_ #[29, 9] ty #[.slice (some ⟨q, 0, none⟩) 1 1, .string (bs s)]).run Tryz.prog w = .ok v' w' ∧ Own byteC M0 w' w.heap.size 5 v' (c :: s) ∧ Below w.heap.size w w' := by
  obtain ⟨i, hi, hz, h1, h2⟩ := info_parts uInfo
  have hlen : (bs s).size = s.length := bs_size s
  have hold := run_firstCells_some (P := Tryz.prog) w.drew i.size 1 ⟨q, 0, none⟩ 1 1 [.int .u8 (c.toNat : Int)] (by rw [h1]; rfl) (fun j u hu => by
    rcases j with _ | j
    · simp at hu; subst hu; simpa [Addr.add] using hc
    · simp at hu)
  have hsrc : Src Tryz.prog i.size 9 (.string (bs s)) (bs s).size (byteCells (bs s)) w := by rw [h1]; exact Src.ofString w Tryz.underlying9 (bs s)
  have hr := run_append_grow_src (P := Tryz.prog) w 29 9 ty 5 i (.int .u8 0) Tryz.underlying29 hi hz (some ⟨q, 0, none⟩) 1 1 [.int .u8 (c.toNat : Int)] hold (.string (bs s)) (bs s).size (byteCells (bs s)) hsrc (by omega) (by omega) (growslice_fits (by omega) (by rw [h2, hlen]; omega))
  have hge := grownCap_ge w (1 + (bs s).size) 1 5
  have hcm : grownCap w (1 + (bs s).size) 1 5 ≤ maxLen := grownCap_le_maxLen w (1 + (bs s).size) 1 5 (by unfold maxLen; omega)
  rw [hlen] at hr hge hcm
  have hbc : byteCells (bs s) = s.map fun b => Value.int .u8 (b.toNat : Int) := by simp [byteCells, bs]
  refine ⟨_, _, hr, ⟨.int .u8 (c.toNat : Int) :: s.map (fun b => Value.int .u8 (b.toNat : Int)), ⟨by simp [byteC], .inr ⟨w.heap.size, _, _, by rw [List.length_cons, Nat.add_comm], Nat.le_refl _, heap_alloc_new w.drew _, by rw [List.length_cons]; omega, hcm, ?_, ?_⟩⟩, lit_bytes _ _ (c :: s)⟩, ?_⟩
  · simp only [Array.size_append, List.size_toArray, size_zeroCells, List.length_append, List.length_cons, List.length_nil, hbc, List.length_map, show (Value.int IntKind.u8 0).cells.size = 1 from rfl, show byteC.n = 1 from rfl]
    omega
  · rw [hbc]
    simp [byteC]
  · exact (below_drew (Below.refl _ _)).alloc (Nat.le_refl _) _
set_option maxHeartbeats 1000000 in
theorem appendInt_full {w : World} (n : Nat) (hn : n < 100) (q : Nat) (c : UInt8) (hc : w.cell? ⟨q, 0, none⟩ = some (.int .u8 (c.toNat : Int))) :
    Calls Tryz.prog 114 #[.slice (some ⟨q, 0, none⟩) 1 1, .int .i64 (n : Int), .int .i64 10] w fun e w' => ∃ v', e = .returned v' ∧ Own byteC M0 w' w.heap.size 5 v' (c :: Lib.decDigits n) ∧ Below w.heap.size w w' := by
  have hsm := Tryz.internal_strconv_small n hn w
  have hnd : 0 < (Lib.decDigits n).length ∧ (Lib.decDigits n).length ≤ 1000 := by
    rw [Lib.decDigits_length]
    have := Lib.nDigits_pos n
    have := Mb.nDigits_le 2 n (by omega) (by omega)
    omega
  obtain ⟨v', w', hrun, hown, hbel⟩ := run_append_full w q c (Lib.decDigits n) 29 hc hnd.1 hnd.2
  have Hsm := Lib.hid hsm
  have hu : IntKind.u64.wrap (n : Int) = (n : Int) := by rw [IntKind.wrap_u64]; omega
  have hu2 : IntKind.i64.wrap (n : Int) = (n : Int) := by rw [IntKind.wrap_i64]; omega
  have h1 : Calls Tryz.prog 158 #[.slice (some ⟨q, 0, none⟩) 1 1, .int .u64 (n : Int), .int .i64 10] w fun e w' => ∃ v', e = .returned v' ∧ Own byteC M0 w' w.heap.size 5 v' (c :: Lib.decDigits n) ∧ Below w.heap.size w w' := by
    have hlt : (n : Int) < 100 := by omega
    have Hrun := Lib.hid hrun
    clear hrun hsm
    go_enter Tryz.func158, Tryz.ntmps158
    go_wp2_with (first
      | (go_at_call 159; refine Hsm.out.mono ?_; rintro e w1 ⟨rfl, rfl⟩)
      | (at_builtin; refine wpList_append_run' rfl (.tmp 13) (.tmp 16) rfl rfl rfl Hrun.out ?_))
    go_ret
    exact ⟨v', rfl, hown, hbel⟩
  have H1 := Lib.hid h1
  have hnn : ¬ (n : Int) < 0 := by omega
  clear h1 hsm hrun hown hbel
  have h2 : Calls Tryz.prog 138 #[.slice (some ⟨q, 0, none⟩) 1 1, .int .i64 (n : Int), .int .i64 10] w fun e w' => ∃ v', e = .returned v' ∧ Own byteC M0 w' w.heap.size 5 v' (c :: Lib.decDigits n) ∧ Below w.heap.size w w' := by
    go_enter Tryz.func138, Tryz.ntmps138
    go_wp2_with (go_at_call 158; refine H1.out.mono ?_; rintro e w1 ⟨v2, rfl, own2, hb2⟩)
    go_ret
    exact ⟨v2, rfl, own2, hb2⟩
  have H2 := Lib.hid h2
  clear h2
  go_enter Tryz.func114, Tryz.ntmps114
  go_wp2_with (go_at_call 138; refine H2.out.mono ?_; rintro e w1 ⟨v2, rfl, own2, hb2⟩)
  go_ret
  exact ⟨v2, rfl, own2, hb2⟩
/-! ### what the writer holds -/
/-- the writer's block, and its bytes, all made from B on -/
def WrO (w : World) (B g : Nat) (l : List UInt8) : Prop := B ≤ g ∧ ∃ v, Blk w g 132 #[v] ∧ Own byteC M0 w B 5 v l
/-- the writer behind its first byte -/
def WrC (w : World) (B g : Nat) (c : UInt8) : Prop := B ≤ g ∧ ∃ q, B ≤ q ∧ q ≠ g ∧ q < w.heap.size ∧ Blk w g 132 #[.slice (some ⟨q, 0, none⟩) 1 1] ∧ w.cell? ⟨q, 0, none⟩ = some (.int .u8 (c.toNat : Int))
/-- what a writer leaves as it was -/
def Spared (g : Nat) (w w' : World) : Prop := Lib.OthersKept 5 (some g) w w'
theorem Blk.spared {w w' : World} {g k : Nat} {t : TypeId} {cs : Array Value} (h : Blk w k t cs) (hs : Spared g w w') (hk : k ≠ g) (ht : t ≠ 5) : Blk w' k t cs := hs k _ h (fun e => hk (Option.some.inj e)) fun c fz e => by injection e with _ e; exact ht e
theorem Spared.none {g : Nat} {w w' : World} (h : Lib.OthersKept 5 none w w') : Spared g w w' := fun k o h1 _ h3 => h k o h1 (by simp) h3
theorem Spared.below {g : Nat} {w w1 w' : World} (h : Spared g w w1) (hb : Below w1.heap.size w1 w') : Spared g w w' := fun k o h1 h2 h3 => by
  have h4 := h k o h1 h2 h3
  rw [hb.block k (Array.getElem?_eq_some_iff.1 h4).1]
  exact h4
theorem own_kind {α : Type} {C : Codec α} {M : Nat → Prop} {w : World} {B : Nat} {e : TypeId} {v : Value} {l : List α} (h : Own C M w B e v l) : ∀ g, v.ownBlock = some g → ∃ c fz, w.heap[g]? = some (.cells c e fz) := by
  obtain ⟨xs, ho, _⟩ := h
  intro g hg
  rcases ho.2 with ⟨rfl, _⟩ | ⟨g', cap, cur, rfl, _, hgg, _⟩
  · simp [Value.ownBlock] at hg
  · simp [Value.ownBlock] at hg
    subst hg
    exact ⟨cur, _, hgg⟩
end Go.Proofs.YtjamjkjmlckgeaaGreatDoor
