/-
  Contracts and plain facts, one after another: mailbox.Apply; Items of records: strconv.AppendInt, and what the writer holds; The writer of records: items, numbers, messages.
-/
import Derived.Test.YtjamjkjmlckgeaaGreatDoorF41
import Derived.Test.YtjamjkjmlckgeaaGreatDoorShelf
import Derived.Deep.AppendSrc
import Derived.Lib.SlBytesConst
import Derived.Lib.OthersKept
namespace Go.Proofs.YtjamjkjmlckgeaaGreatDoor
open Go.RowKit
set_option linter.unusedVariables false

set_option maxRecDepth 100000 in
set_option maxHeartbeats 8000000 in
theorem Apply_ok (M : Nat → Prop) (b : Mb.Box) (c : Mb.Chg) (es gs f bd : Value) (w : World) (hM : ∀ x, M x → x < w.heap.size) (he : SlR entC M w es b.es) (hg : SlR gnC M w gs b.gs) (hf : SlR fldC M0 w f c.2.2.2.2.2.1) (hb : SlR byteC M0 w bd c.2.2.2.2.2.2) (hsz : ∀ e ∈ b.es, e.2.2.2.2.2.length ≤ 140737488355328) (hfl : c.2.2.2.2.2.1.length ≤ 4398046511104) (hlen : c.2.2.2.2.2.2.length ≤ 140737488355328) (hgl : ¬ c.1 = 1 → b.gs.length < 400) :
    Calls Tryz.prog 11 #[boxV b es gs, chgV c f bd] w fun e w' => ∃ es' gs', e = .returned (.tuple #[boxV (Mb.appF b c).1 es' gs', .agg #[.int .i64 (Mb.appF b c).2.1, .int .i64 (Mb.appF b c).2.2]]) ∧ Own entC (fun x => M x ∨ gs'.ownBlock = some x) w' w.heap.size 65 es' (Mb.appF b c).1.es ∧ Own gnC M w' w.heap.size 82 gs' (Mb.appF b c).1.gs ∧ Below w.heap.size w w' := by
  unfold chgV
  obtain ⟨⟨rb, r1, r2⟩, hr⟩ : ∃ r, r = Mb.appF b c := ⟨_, rfl⟩
  rw [← hr]
  dsimp only
  have hva := fun W (h1 : SlR entC M0 W es b.es) (h2 : SlR gnC M0 W gs b.gs) => validate_ok b es gs W h1 h2 hsz
  have hap := fun W (Mx : Nat → Prop) (h0 : ∀ x, Mx x → x < W.heap.size) (h1 : SlR entC Mx W es b.es) (h2 : SlR gnC Mx W gs b.gs) (h3 : SlR fldC M0 W f c.2.2.2.2.2.1) (h4 : SlR byteC M0 W bd c.2.2.2.2.2.2) (h5 : Mb.Good b) => apply_ok Mx b c es gs f bd W h0 h1 h2 h3 h4 hfl hlen h5 hgl
  obtain ⟨v1, hv1⟩ : ∃ x, x = (Mb.boxF b).1 := ⟨_, rfl⟩
  obtain ⟨v2, hv2⟩ : ∃ x, x = (Mb.boxF b).2 := ⟨_, rfl⟩
  have hgood : v1 = 0 → Mb.Good b := fun h => Mb.boxF_good.1 (by rw [← hv1]; exact h)
  unfold Mb.appF at hr
  rw [← hv1] at hr hva
  rw [← hv2] at hva
  have hr2 : v1 ≠ 0 → (rb, r1, r2) = (Mb.emptyB, v1, v2) := fun h => by rw [hr, if_pos h, hv1, hv2]
  have hr3 : v1 = 0 → (rb, r1, r2) = Mb.applF b c := fun h => by rw [hr, if_neg (fun h9 => h9 h)]
  clear hv1 hv2 hr
  obtain ⟨Ae, ce, rfl, hec, hem⟩ := he.form
  obtain ⟨Ag, cg, rfl, hgc, hgm⟩ := hg.form
  obtain ⟨Af, cf, rfl, hfc, hfm⟩ := hf.form
  obtain ⟨Ab, cb, rfl, hbc, hbm⟩ := hb.form
  obtain ⟨kd, ud, st, cl, tm, fl, bdl⟩ := c
  unfold boxV chgV at hap
  unfold boxV at hva ⊢
  dsimp only at hf hb hfl hlen hap hr2 hr3 ⊢
  have Hva := Lib.hid hva; have Hap := Lib.hid hap; have Hr2 := Lib.hid hr2; have Hr3 := Lib.hid hr3; have Hgood := Lib.hid hgood
  clear hva hap hr2 hr3 hgood
  obtain ⟨wa, g2, g3, hwa, hg2, hg3, hsza, ka, kb, hba⟩ := box2 w #[.int .i64 b.nu, .int .i64 b.ns, .int .i64 b.hz, .slice Ae b.es.length ce, .slice Ag b.gs.length cg] 26 #[.int .i64 kd, .int .i64 ud, .int .i64 st, .int .i64 cl, .int .i64 tm, .slice Af fl.length cf, .slice Ab bdl.length cb] 47
  obtain ⟨w0, g4, g5, hw0, hg4, hg5, hsz0, k4, k5, hbb⟩ := box2 wa #[.int .i64 0, .int .i64 0, .int .i64 0, .slice none 0 0, .slice none 0 0] 26 #[.int .i64 0, .int .i64 0] 31
  have k2 := ka.ext hbb; have k3 := kb.ext hbb; have hb0 := below2 hba hbb
  have hne45 : g4 ≠ g5 := by omega
  have hgl4 : w.heap.size ≤ g4 := by omega
  have hgl5 : w.heap.size ≤ g5 := by omega
  have hg34 : g3 < g4 := by omega
  have hg23 : g2 < g3 := by omega
  have hg50 : g5 < w0.heap.size := k5.lt
  have he0 := he.zero.ext hb0; have hg0 := hg.zero.ext hb0; have hf0 := hf.ext hb0; have hb0d := hb.ext hb0
  have c0 := k2.cell 0; have c1 := k2.cell 1; have c2 := k2.cell 2; have c3 := k2.cell 3; have c4 := k2.cell 4
  clear hsza hsz0 ka kb
  go_enter Tryz.func11, Tryz.ntmps11
  go_wp2_with fail
  refine (Hva.out w0 he0 hg0).mono ?_
  rintro e w1 ⟨rfl, hb1⟩
  obtain ⟨w2, g6, hw2, hg6, hsz2, k6, hb2⟩ := box1 w1 #[.int .i64 v1, .int .i64 v2] 31
  have hb2' := below2 hb1 hb2
  have hg6' : w0.heap.size ≤ g6 := by have := hb1.size; omega
  obtain ⟨q0, q1, _, _, _⟩ := k6.two
  clear hsz2 c0 c1 c2 c3 c4 Hva
  go_wp2_with fail
  refine (failed_ok v1 v2 w2).mono ?_
  rintro e w3 ⟨rfl, hb3⟩
  have hb3' := below2 hb2' hb3
  by_cases hv1 : v1 = 0
  · subst hv1
    have hG := Hgood.out rfl
    have HE := Hr3.out rfl
    have hz : ((0 : Int) != 0) = false := rfl
    have hap := Hap.out w3
    rw [← HE] at hap
    dsimp only at hap
    clear HE q0 q1 Hr2 Hr3 Hgood Hap
    obtain ⟨M1, hM1⟩ : ∃ M1 : Nat → Prop, M1 = fun x => M x ∨ x = g4 ∨ x = g5 := ⟨_, rfl⟩
    have hMg4 : M1 g4 := by rw [hM1]; exact .inr (.inl rfl)
    have hMg5 : M1 g5 := by rw [hM1]; exact .inr (.inr rfl)
    have hM1M : ∀ x, M x → M1 x := fun x hx => by rw [hM1]; exact .inl hx
    have hM1lt : ∀ x, M1 x → x < w0.heap.size := by
      intro x hx
      rw [hM1] at hx
      have := hb0.size
      rcases hx with hx | hx | hx
      · have := hM x hx; omega
      · omega
      · omega
    have hbw3 := below2 hb0 hb3'
    have hs3 := hb3'.size; have hs0 := hb0.size
    have hsub : ∀ x, x < w.heap.size → M1 x → M x := fun x hx h => by
      rw [hM1] at h
      rcases h with h | h | h
      · exact h
      · omega
      · omega
    have hap2 := hap M1 (fun x hx => Nat.lt_of_lt_of_le (hM1lt x hx) hs3) ((he.sub hsub).ext hbw3) ((hg.sub hsub).ext hbw3) (hf0.ext hb3') (hb0d.ext hb3') hG
    have Hap2 := Lib.hid hap2
    clear hap hap2 hM1
    have k2W := k2.ext hb3'; have k3W := k3.ext hb3'
    have c0 := k2W.cell 0; have c1 := k2W.cell 1; have c2 := k2W.cell 2; have c3 := k2W.cell 3; have c4 := k2W.cell 4
    have d0 := k3W.cell 0; have d1 := k3W.cell 1; have d2 := k3W.cell 2; have d3 := k3W.cell 3; have d4 := k3W.cell 4; have d5 := k3W.cell 5; have d6 := k3W.cell 6
    go_wp2_with fail
    refine Hap2.out.mono ?_
    rintro e w4 ⟨esv, gsv, rfl, oE, oG, hb4⟩
    obtain ⟨Aes, ces, rfl, _, _⟩ := oE.shape
    obtain ⟨Ags, cgs, rfl, _, _⟩ := oG.shape
    have hb4' := below2 hb3' hb4
    have k4W := k4.ext hb4'; have k5W := k5.ext hb4'
    obtain ⟨z0, z1, z2, z3, z4, y0, y1, hbZ, hTz⟩ := res7 k4W k5W hne45 (.int .i64 rb.nu) (.int .i64 rb.ns) (.int .i64 rb.hz) (.slice Aes rb.es.length ces) (.slice Ags rb.gs.length cgs) (.int .i64 r1) (.int .i64 r2)
    have m0 := k4W.cell 0; have m1 := k4W.cell 1; have m2 := k4W.cell 2; have m3 := k4W.cell 3; have m4 := k4W.cell 4
    have x0 := k4W.frozen 0; have x1 := k4W.frozen 1; have x2 := k4W.frozen 2; have x3 := k4W.frozen 3; have x4 := k4W.frozen 4; have xl := k4W.lt
    have n0 := (k5W.turned (put5_turned w4 g4 (.int .i64 rb.nu) (.int .i64 rb.ns) (.int .i64 rb.hz) (.slice Aes rb.es.length ces) (.slice Ags rb.gs.length cgs)) hne45.symm).cell 0; have n1 := (k5W.turned (put5_turned w4 g4 (.int .i64 rb.nu) (.int .i64 rb.ns) (.int .i64 rb.hz) (.slice Aes rb.es.length ces) (.slice Ags rb.gs.length cgs)) hne45.symm).cell 1
    obtain ⟨_, _, u0, u1, ul⟩ := k5W.two
    have u0b := (put5_turned w4 g4 (.int .i64 rb.nu) (.int .i64 rb.ns) (.int .i64 rb.hz) (.slice Aes rb.es.length ces) (.slice Ags rb.gs.length cgs)).frozen0 k5W hne45.symm; have u1b := (put5_turned w4 g4 (.int .i64 rb.nu) (.int .i64 rb.ns) (.int .i64 rb.hz) (.slice Aes rb.es.length ces) (.slice Ags rb.gs.length cgs)).frozen1 k5W hne45.symm
    have hapE4 : ∀ x, _ → x ≠ g4 := fun x hx => by have h1 := oE.base x hx; have h2 := hM1lt g4 hMg4; omega
    have hapE5 : ∀ x, _ → x ≠ g5 := fun x hx => by have h1 := oE.base x hx; have h2 := hM1lt g5 hMg5; omega
    have hapG4 : ∀ x, _ → x ≠ g4 := fun x hx => by have h1 := oG.base x hx; have h2 := hM1lt g4 hMg4; omega
    have hapG5 : ∀ x, _ → x ≠ g5 := fun x hx => by have h1 := oG.base x hx; have h2 := hM1lt g5 hMg5; omega
    unfold put5 at *
    go_wp2_with fail
    refine bodyPost_ret (v := .tuple #[.agg #[.int .i64 rb.nu, .int .i64 rb.ns, .int .i64 rb.hz, .slice Aes rb.es.length ces, .slice Ags rb.gs.length cgs], .agg #[.int .i64 r1, .int .i64 r2]]) (by simp [results, Tryz.results11, go_sem, z0, z1, z2, z3, z4, y0, y1]) rfl ⟨_, _, rfl, ?_, ?_, ?_⟩
    · exact own_lower (own_sub (own_two oE hTz (.inl hMg4) (.inl hMg5) hapE4 hapE5) fun x _ hx => hx.imp (hM1M x) id) (by omega)
    · exact own_lower (own_sub (own_two oG hTz hMg4 hMg5 hapG4 hapG5) fun x _ hx => hM1M x hx) (by omega)
    · exact (below2 hb0 hb4').trans (hbZ _ (by omega) (by omega))
  · have hz : (v1 != 0) = true := by simpa using hv1
    have HE := Hr2.out hv1
    obtain ⟨rfl, rfl, rfl⟩ : rb = Mb.emptyB ∧ r1 = v1 ∧ r2 = v2 := by injection HE with a b; injection b with b c; exact ⟨a, b, c⟩
    clear HE hv1 q0 q1 Hr2 Hr3 Hgood Hap
    have HS := Lib.hid (show ∀ W, Below w2.heap.size w2 W → W.cell? ⟨g6, 0, none⟩ = some (.int .i64 r1) ∧ W.cell? ⟨g6, 1, none⟩ = some (.int .i64 r2) from fun W hW => ⟨(k6.ext hW).cell 0, (k6.ext hW).cell 1⟩)
    go_wp2_with fail
    refine wp_region_D (fun W => W.cell? ⟨g6, 0, none⟩ = some (.int .i64 r1) ∧ W.cell? ⟨g6, 1, none⟩ = some (.int .i64 r2)) (fun j => j == 3) (by kernel_rfl) ?_
    change anyD _ _ _ _ _ _ _ _ _ (w3.drewN 1)
    have hbV := below_drewN' w3.heap.size w3 1
    generalize w3.drewN 1 = V1 at hbV ⊢
    have hbR := below2 hb3' hbV
    have hS := HS.out V1 (below2 hb3 hbV)
    (refine anyD_light (i := 0) (v := ?_) rfl (by kernel_rfl) (by kernel_rfl) (by kernel_rfl) (by kernel_rfl) (by kernel_rfl) (fun _ _ _ h => h) (.inl ⟨by kernel_rfl, fun W9 hW9 => ?_⟩) hS ?_; rotate_left; · (obtain ⟨hw0, hw1⟩ := hW9; go_simp; rfl))
    (refine anyD_light (i := 1) (v := ?_) rfl (by kernel_rfl) (by kernel_rfl) (by kernel_rfl) (by kernel_rfl) (by kernel_rfl) (fun _ _ _ h => h) (.inl ⟨by kernel_rfl, fun W9 hW9 => ?_⟩) hS ?_; rotate_left; · (obtain ⟨hw0, hw1⟩ := hW9; go_simp; rfl))
    go_simp
    refine anyD_one (i := 2) (by kernel_rfl) rfl rfl (fun K hK => ?_)
    have HK := Lib.hid hK
    clear hK
    clear hS
    have k4W := k4.ext hbR; have k5W := k5.ext hbR
    obtain ⟨z0, z1, z2, z3, z4, y0, y1, hbZ, hTz⟩ := res7 k4W k5W hne45 (.int .i64 0) (.int .i64 0) (.int .i64 0) (.slice none 0 0) (.slice none 0 0) (.int .i64 r1) (.int .i64 r2)
    have m0 := k4W.cell 0; have m1 := k4W.cell 1; have m2 := k4W.cell 2; have m3 := k4W.cell 3; have m4 := k4W.cell 4
    have x0 := k4W.frozen 0; have x1 := k4W.frozen 1; have x2 := k4W.frozen 2; have x3 := k4W.frozen 3; have x4 := k4W.frozen 4; have xl := k4W.lt
    have n0 := (k5W.turned (put5_turned V1 g4 (.int .i64 0) (.int .i64 0) (.int .i64 0) (.slice none 0 0) (.slice none 0 0)) hne45.symm).cell 0; have n1 := (k5W.turned (put5_turned V1 g4 (.int .i64 0) (.int .i64 0) (.int .i64 0) (.slice none 0 0) (.slice none 0 0)) hne45.symm).cell 1
    obtain ⟨_, _, u0, u1, ul⟩ := k5W.two
    have u0b := (put5_turned V1 g4 (.int .i64 0) (.int .i64 0) (.int .i64 0) (.slice none 0 0) (.slice none 0 0)).frozen0 k5W hne45.symm; have u1b := (put5_turned V1 g4 (.int .i64 0) (.int .i64 0) (.int .i64 0) (.slice none 0 0) (.slice none 0 0)).frozen1 k5W hne45.symm
    have k6b := ((k6.ext (below2 hb3 hbV)).turned (put5_turned V1 g4 (.int .i64 0) (.int .i64 0) (.int .i64 0) (.slice none 0 0) (.slice none 0 0)) (by omega))
    have hS3 := (⟨k6b.cell 0, k6b.cell 1⟩ : _ ∧ _)
    unfold put5 at *
    unfold Oper.wp
    go_simp
    refine HK.out _ _ (fun _ => hS3) ?_
    clear HK
    have hS := hS3
    go_simp
    refine anyD_one (i := 3) (by kernel_rfl) rfl rfl (fun K hK => ?_)
    have HK := Lib.hid hK
    clear hK
    unfold Oper.wp
    go_simp
    refine HK.out _ _ (fun h => by cases h) ?_
    clear HK
    go_simp
    refine anyD_done (by kernel_rfl) ?_ _
    go_wp2_with fail
    refine bodyPost_ret (v := .tuple #[.agg #[.int .i64 0, .int .i64 0, .int .i64 0, .slice none 0 0, .slice none 0 0], .agg #[.int .i64 r1, .int .i64 r2]]) (by simp [results, Tryz.results11, go_sem, z0, z1, z2, z3, z4, y0, y1]) rfl ⟨_, _, rfl, ?_, ?_, ?_⟩
    · exact Own.nil _ _ _ _ _
    · exact Own.nil _ _ _ _ _
    · exact (below2 hb0 hbR).trans (hbZ _ (by omega) (by omega))
end Go.Proofs.YtjamjkjmlckgeaaGreatDoor
namespace Go.Proofs.YtjamjkjmlckgeaaGreatDoor
open Go.RowKit
set_option linter.unusedVariables false

/-- the table of powers of ten and a bound of the library's, both in blocks below n0 -/
def Env (n0 : Nat) (w : World) : Prop := Lib.TabBelow Tryz.prog n0 w "internal/strconv.uint64pow10" .u64 Lib.pow10Tab ∧ ∃ m : Int, ∀ w', Below n0 w w' → w'.cell? ⟨0, 0, none⟩ = some (.int .i64 m)
theorem Env.on {n0 : Nat} {w w' : World} (h : Env n0 w) (hb : Below n0 w w') : Env n0 w' := ⟨h.1.on hb, by
  obtain ⟨m, hm⟩ := h.2
  exact ⟨m, fun W hW => hm W (hb.trans hW)⟩⟩
theorem Env.ext {n0 B : Nat} {w w' : World} (h : Env n0 w) (hb : Below B w w') (hB : n0 ≤ B) : Env n0 w' := h.on (hb.mono hB)
theorem Env.tab {n0 B : Nat} {w : World} (h : Env n0 w) (hB : n0 ≤ B) : Lib.TabBelow Tryz.prog B w "internal/strconv.uint64pow10" .u64 Lib.pow10Tab := fun W hW => h.1 W (hW.mono hB)
theorem appendInt_own {w : World} {B : Nat} {v : Value} {l : List UInt8} (n : Nat) (hn : n ≤ 1000000000) (h : Own byteC M0 w B 5 v l) (hBw : B ≤ w.heap.size) (hl : l.length ≤ 1000000000) (ht : Lib.TabBelow Tryz.prog B w "internal/strconv.uint64pow10" .u64 Lib.pow10Tab) :
    Calls Tryz.prog 114 #[v, .int .i64 (n : Int), .int .i64 10] w fun e w' => ∃ v', e = .returned v' ∧ Own byteC M0 w' B 5 v' (l ++ Lib.itoa (n : Int)) ∧ Below B w w' ∧ Lib.OthersKept 5 none w w' := by
  obtain ⟨xs, ho, he⟩ := h
  refine (Tryz.strconv_AppendInt_10 B l.length (n : Int) (by omega) (by omega) v xs w ho hBw (by omega) ht).mono ?_
  rintro e w' ⟨v', rfl, ho', hb, hk⟩
  refine ⟨v', rfl, ⟨xs ++ Lib.byteCells (Lib.itoa (n : Int)), by rw [List.length_append]; exact ho', ?_⟩, hb, hk⟩
  have e1 : Els byteC (fun b => M0 b ∨ v'.ownBlock = some b) w' xs l := ⟨he.1, fun i hi => flat_byte.2 _ _ _ _ _ _ (he.2 i hi)⟩
  exact e1.append (lit_bytes _ w' (Lib.itoa (n : Int)))
/-- a text behind the one byte of a full row -/
theorem run_append_full (w : World) (q : Nat) (c : UInt8) (s : List UInt8) (ty : TypeId) (hc : w.cell? ⟨q, 0, none⟩ = some (.int .u8 (c.toNat : Int))) (hs : 0 < s.length) (hl : s.length ≤ 1000) :
    ∃ v' w', (Builtin.append_ #[29, 9] ty #[.slice (some ⟨q, 0, none⟩) 1 1, .string (bs s)]).run Tryz.prog w = .ok v' w' ∧ Own byteC M0 w' w.heap.size 5 v' (c :: s) ∧ Below w.heap.size w w' := by
  obtain ⟨i, hi, hz, h1, h2⟩ := info_parts uInfo
  have hlen : (bs s).size = s.length := bs_size s
  have hold := run_firstCells_some (P := Tryz.prog) w.drew i.size 1 ⟨q, 0, none⟩ 1 1 [.int .u8 (c.toNat : Int)] (by rw [h1]; rfl) (fun j u hu => by
    rcases j with _ | j
    · simp at hu; subst hu; simpa [Addr.add] using hc
    · simp at hu)
  have hsrc : Src Tryz.prog i.size 9 (.string (bs s)) (bs s).size (byteCells (bs s)) w := by rw [h1]; exact Src.ofString w Tryz.underlying9 (bs s)
  have hr := run_append_grow_src (P := Tryz.prog) w 29 9 ty 5 i (.int .u8 0) Tryz.underlying29 hi hz (some ⟨q, 0, none⟩) 1 1 [.int .u8 (c.toNat : Int)] hold (.string (bs s)) (bs s).size (byteCells (bs s)) hsrc (by omega) (by omega) (growslice_fits (by omega) (by rw [h2, hlen]; omega))
  have hge := grownCap_ge w (1 + (bs s).size) 1 5
  have hcm : grownCap w (1 + (bs s).size) 1 5 ≤ maxLen := grownCap_le_maxLen w (1 + (bs s).size) 1 5 (by unfold maxLen; omega)
  rw [hlen] at hr hge hcm
  have hbc : byteCells (bs s) = s.map fun b => Value.int .u8 (b.toNat : Int) := by simp [byteCells, bs]
  refine ⟨_, _, hr, ⟨.int .u8 (c.toNat : Int) :: s.map (fun b => Value.int .u8 (b.toNat : Int)), ⟨by simp [byteC], .inr ⟨w.heap.size, _, _, by rw [List.length_cons, Nat.add_comm], Nat.le_refl _, heap_alloc_new w.drew _, by rw [List.length_cons]; omega, hcm, ?_, ?_⟩⟩, lit_bytes _ _ (c :: s)⟩, ?_⟩
  · simp only [Array.size_append, List.size_toArray, size_zeroCells, List.length_append, List.length_cons, List.length_nil, hbc, List.length_map, show (Value.int IntKind.u8 0).cells.size = 1 from rfl, show byteC.n = 1 from rfl]
    omega
  · rw [hbc]
    simp [byteC]
  · exact (below_drew (Below.refl _ _)).alloc (Nat.le_refl _) _
set_option maxHeartbeats 1000000 in
theorem appendInt_full {w : World} (n : Nat) (hn : n < 100) (q : Nat) (c : UInt8) (hc : w.cell? ⟨q, 0, none⟩ = some (.int .u8 (c.toNat : Int))) :
    Calls Tryz.prog 114 #[.slice (some ⟨q, 0, none⟩) 1 1, .int .i64 (n : Int), .int .i64 10] w fun e w' => ∃ v', e = .returned v' ∧ Own byteC M0 w' w.heap.size 5 v' (c :: Lib.decDigits n) ∧ Below w.heap.size w w' := by
  have hsm := Tryz.internal_strconv_small n hn w
  have hnd : 0 < (Lib.decDigits n).length ∧ (Lib.decDigits n).length ≤ 1000 := by
    rw [Lib.decDigits_length]
    have := Lib.nDigits_pos n
    have := Mb.nDigits_le 2 n (by omega) (by omega)
    omega
  obtain ⟨v', w', hrun, hown, hbel⟩ := run_append_full w q c (Lib.decDigits n) 29 hc hnd.1 hnd.2
  have Hsm := Lib.hid hsm
  have hu : IntKind.u64.wrap (n : Int) = (n : Int) := by rw [IntKind.wrap_u64]; omega
  have hu2 : IntKind.i64.wrap (n : Int) = (n : Int) := by rw [IntKind.wrap_i64]; omega
  have h1 : Calls Tryz.prog 158 #[.slice (some ⟨q, 0, none⟩) 1 1, .int .u64 (n : Int), .int .i64 10] w fun e w' => ∃ v', e = .returned v' ∧ Own byteC M0 w' w.heap.size 5 v' (c :: Lib.decDigits n) ∧ Below w.heap.size w w' := by
    have hlt : (n : Int) < 100 := by omega
    have Hrun := Lib.hid hrun
    clear hrun hsm
    go_enter Tryz.func158, Tryz.ntmps158
    go_wp2_with (first
      | (go_at_call 159; refine Hsm.out.mono ?_; rintro e w1 ⟨rfl, rfl⟩)
      | (at_builtin; refine wpList_append_run' rfl (.tmp 13) (.tmp 16) rfl rfl rfl Hrun.out ?_))
    go_ret
    exact ⟨v', rfl, hown, hbel⟩
  have H1 := Lib.hid h1
  have hnn : ¬ (n : Int) < 0 := by omega
  clear h1 hsm hrun hown hbel
  have h2 : Calls Tryz.prog 138 #[.slice (some ⟨q, 0, none⟩) 1 1, .int .i64 (n : Int), .int .i64 10] w fun e w' => ∃ v', e = .returned v' ∧ Own byteC M0 w' w.heap.size 5 v' (c :: Lib.decDigits n) ∧ Below w.heap.size w w' := by
    go_enter Tryz.func138, Tryz.ntmps138
    go_wp2_with (go_at_call 158; refine H1.out.mono ?_; rintro e w1 ⟨v2, rfl, own2, hb2⟩)
    go_ret
    exact ⟨v2, rfl, own2, hb2⟩
  have H2 := Lib.hid h2
  clear h2
  go_enter Tryz.func114, Tryz.ntmps114
  go_wp2_with (go_at_call 138; refine H2.out.mono ?_; rintro e w1 ⟨v2, rfl, own2, hb2⟩)
  go_ret
  exact ⟨v2, rfl, own2, hb2⟩
/-! ### what the writer holds -/
/-- the writer's block, and its bytes, all made from B on -/
def WrO (w : World) (B g : Nat) (l : List UInt8) : Prop := B ≤ g ∧ ∃ v, Blk w g 132 #[v] ∧ Own byteC M0 w B 5 v l
/-- the writer behind its first byte -/
def WrC (w : World) (B g : Nat) (c : UInt8) : Prop := B ≤ g ∧ ∃ q, B ≤ q ∧ q ≠ g ∧ q < w.heap.size ∧ Blk w g 132 #[.slice (some ⟨q, 0, none⟩) 1 1] ∧ w.cell? ⟨q, 0, none⟩ = some (.int .u8 (c.toNat : Int))
/-- what a writer leaves as it was -/
def Spared (g : Nat) (w w' : World) : Prop := Lib.OthersKept 5 (some g) w w'
theorem Blk.spared {w w' : World} {g k : Nat} {t : TypeId} {cs : Array Value} (h : Blk w k t cs) (hs : Spared g w w') (hk : k ≠ g) (ht : t ≠ 5) : Blk w' k t cs := hs k _ h (fun e => hk (Option.some.inj e)) fun c fz e => by injection e with _ e; exact ht e
theorem Spared.none {g : Nat} {w w' : World} (h : Lib.OthersKept 5 none w w') : Spared g w w' := fun k o h1 _ h3 => h k o h1 (by simp) h3
theorem Spared.below {g : Nat} {w w1 w' : World} (h : Spared g w w1) (hb : Below w1.heap.size w1 w') : Spared g w w' := fun k o h1 h2 h3 => by
  have h4 := h k o h1 h2 h3
  rw [hb.block k (Array.getElem?_eq_some_iff.1 h4).1]
  exact h4
theorem own_kind {α : Type} {C : Codec α} {M : Nat → Prop} {w : World} {B : Nat} {e : TypeId} {v : Value} {l : List α} (h : Own C M w B e v l) : ∀ g, v.ownBlock = some g → ∃ c fz, w.heap[g]? = some (.cells c e fz) := by
  obtain ⟨xs, ho, _⟩ := h
  intro g hg
  rcases ho.2 with ⟨rfl, _⟩ | ⟨g', cap, cur, rfl, _, hgg, _⟩
  · simp [Value.ownBlock] at hg
  · simp [Value.ownBlock] at hg
    subst hg
    exact ⟨cur, _, hgg⟩
end Go.Proofs.YtjamjkjmlckgeaaGreatDoor
namespace Go.Proofs.YtjamjkjmlckgeaaGreatDoor
open Go.RowKit
set_option linter.unusedVariables false

theorem below_growN (w : World) (k : Nat) (os : Array Obj) : Below w.heap.size w (Sort.grow (w.drewN k) os) :=
  ⟨rfl, rfl, rfl, by show w.heap.size ≤ (w.heap ++ os).size; simp, fun b hb => Sort.heap_grow_old (w.drewN k) os hb⟩
theorem Blk.kept0 {w w' : World} {k : Nat} {t : TypeId} {cs : Array Value} (h : Blk w k t cs) (hs : Lib.OthersKept 5 none w w') (ht : t ≠ 5) : Blk w' k t cs := hs k _ h (by simp) fun c fz e => by injection e with _ e; exact ht e
set_option maxRecDepth 100000 in
set_option maxHeartbeats 2000000 in
/-- an item, from what strconv.AppendInt does -/
theorem item_from (w : World) (B g : Nat) (v0 : Value) (L1 s : List UInt8) (hBg : B ≤ g) (kb : Blk w g 132 #[v0]) (hs : s.length ≤ 100000000) (hl : L1.length ≤ 100000000)
    (hap : Calls Tryz.prog 114 #[v0, .int .i64 (s.length : Int), .int .i64 10] w fun e w1 => ∃ v1, e = .returned v1 ∧ Own byteC M0 w1 B 5 v1 L1 ∧ Below B w w1 ∧ Lib.OthersKept 5 none w w1) :
    Calls Tryz.prog 96 #[.pointer (some ⟨g, 0, none⟩), .string (bs s)] w fun e w' => e = .returned (.tuple #[]) ∧ WrO w' B g (L1 ++ 58 :: s) ∧ Below B w w' ∧ Spared g w w' := by
  obtain ⟨c0, z0, hgl⟩ := kb.one
  have hBw : B ≤ w.heap.size := by omega
  have Hap := Lib.hid hap
  clear hap
  go_enter Tryz.func96, Tryz.ntmps96
  go_wp2_with (go_at_call 114; refine Hap.out.mono ?_; rintro e w1 ⟨v1, rfl, own1, hb1, hk1⟩; refine Hid.out ?_)
  obtain ⟨A1, c1, rfl, _, _⟩ := own1.shape
  have kb1 := kb.kept0 hk1 (by decide)
  have hz1 := hb1.size
  have hlit : SlR byteC (fun b => M0 b ∨ (Value.slice A1 L1.length c1).ownBlock = some b) (w1.alloc (.cells #[.int .u8 58] 5)) (.slice (some ⟨w1.heap.size, 0, none⟩) 1 1) [58] := SlR.built (C := byteC) (cs := [.int .u8 58]) 5 rfl fun x hx => hx.elim (fun h => h.elim) fun h => own1.lt x h
  have hal : Below w1.heap.size w1 (w1.alloc (.cells #[.int .u8 58] 5)) := (Below.refl _ _).alloc (Nat.le_refl _) _
  have own2 := own1.ext hal
  have kb2 := kb1.ext hal
  have hb2 : Below B w (w1.alloc (.cells #[.int .u8 58] 5)) := hb1.trans (hal.mono (by omega))
  have sp2 : Spared g w (w1.alloc (.cells #[.int .u8 58] 5)) := (Spared.none hk1).below hal
  have hBz : B ≤ (w1.alloc (.cells #[.int .u8 58] 5)).heap.size := by have := hal.size; omega
  clear kb1 own1 hal
  refine Lib.hid ?_
  go_wp2_with (at_builtin; refine wpList_append_Own byteC TBy rfl (.tmp 11) (.tmp 12) rfl rfl own2 rfl hlit ?a1 ?b1 hBz ?_)
  case a1 => simp only [List.length_cons, List.length_nil]; unfold maxLen; omega
  case b1 => simp only [List.length_cons, List.length_nil]; omega
  intro A3 c3 L3 w3 hL3 own3 hb3 hg3 hor3
  have kb3 := kb2.grown hg3 (fun e => own_ne_blk own2 kb2 (by decide) g e.symm rfl)
  have hb3' := hb2.trans hb3
  have sp3 : Spared g w w3 := sp2.grown hg3 (own_kind own2)
  have hl3 := Lib.hid (show L3.length = L1.length + 1 by rw [hL3.out, List.length_append]; rfl)
  have hz3 : B ≤ w3.heap.size := Nat.le_trans hBz hg3.size
  clear own2 kb2 hb2 sp2 hlit hb3 hg3 hor3
  go_wp2_with (at_builtin; refine wpList_appendStr uInfo Tryz.underlying29 Tryz.underlying9 rfl (.tmp 13) (.tmp 14) rfl rfl own3 (m := s) rfl ?a2 hz3 ?_)
  case a2 => have := hl3.out; omega
  intro A5 c5 L5 w5 hL5 own5 hb5 hg5
  have kb5 := kb3.grown hg5 (fun e => own_ne_blk own3 kb3 (by decide) g e.symm rfl)
  have hb5' := hb3'.trans hb5
  have sp5 : Spared g w w5 := sp3.grown hg5 (own_kind own3)
  obtain ⟨d0, d1, d2⟩ := kb5.one
  have hT : Turned g w5 (w5.setCell ⟨g, 0, none⟩ (.slice A5 L5.length c5)) := (Turned.refl g w5).set 0 _
  have kb6 : Blk (w5.setCell ⟨g, 0, none⟩ (.slice A5 L5.length c5)) g 132 #[.slice A5 L5.length c5] := by simpa using kb5.set_ 0 (.slice A5 L5.length c5)
  have own6 : Own byteC M0 (w5.setCell ⟨g, 0, none⟩ (.slice A5 L5.length c5)) B 5 (.slice A5 L5.length c5) L5 := own_flatM flat_byte (Own.turned (M := fun _ => True) (own_flatM flat_byte own5) hT trivial (own_ne_blk own5 kb5 (by decide)))
  have sp6 : Spared g w (w5.setCell ⟨g, 0, none⟩ (.slice A5 L5.length c5)) := Lib.OthersKept.setCell sp5 ⟨g, 0, none⟩ rfl _
  have hb6 := hb5'.trans (hT.rest B hBg)
  have HL : L5 = L1 ++ 58 :: s := by rw [hL5.out, hL3.out]; simp
  have HL5 := Lib.hid HL
  clear own3 kb3 hb3' sp3 hg5 kb5 own5 hb5 sp5 HL hT hL5
  go_wp2_with fail
  refine bodyPost_end (results_none rfl _ _ _) rfl ⟨rfl, ⟨hBg, _, kb6, ?_⟩, hb6, sp6⟩
  rw [← HL5.out]
  exact own6
theorem item_len2 (s : List UInt8) (h : s.length ≤ 100000000) : (Lib.itoa (s.length : Int)).length ≤ 21 := Lib.itoa_length_le _ (by omega) (by omega)
theorem item_own (n0 : Nat) (w : World) (B g : Nat) (l s : List UInt8) (hE : Env n0 w) (hn : n0 ≤ B) (hW : WrO w B g l) (hs : s.length ≤ 100000000) (hl : l.length ≤ 90000000) :
    Calls Tryz.prog 96 #[.pointer (some ⟨g, 0, none⟩), .string (bs s)] w fun e w' => e = .returned (.tuple #[]) ∧ WrO w' B g (l ++ Mb.item s) ∧ Below B w w' ∧ Spared g w w' := by
  obtain ⟨hBg, v, kb, own⟩ := hW
  have h1 := item_len2 s hs
  have h := item_from w B g v (l ++ Lib.itoa (s.length : Int)) s hBg kb hs (by rw [List.length_append]; omega) (appendInt_own s.length (by omega) own (Nat.le_trans hBg (Nat.le_of_lt kb.lt)) (by omega) (hE.tab hn))
  rw [List.append_assoc] at h
  exact h
theorem item_first (w : World) (B g : Nat) (c : UInt8) (s : List UInt8) (hW : WrC w B g c) (hs : s.length < 100) :
    Calls Tryz.prog 96 #[.pointer (some ⟨g, 0, none⟩), .string (bs s)] w fun e w' => e = .returned (.tuple #[]) ∧ WrO w' B g (c :: Mb.item s) ∧ Below B w w' ∧ Spared g w w' := by
  obtain ⟨hBg, q, hBq, hqg, hql, kb, hc⟩ := hW
  have hBw : B ≤ w.heap.size := Nat.le_trans hBg (Nat.le_of_lt kb.lt)
  have h1 := item_len2 s (by omega)
  have hi : Lib.itoa (s.length : Int) = Lib.decDigits s.length := by
    unfold Lib.itoa
    rw [if_neg (by omega), show ((s.length : Int)).toNat = s.length from Int.toNat_natCast _]
  rw [hi] at h1
  have h := item_from w B g _ (c :: Lib.decDigits s.length) s hBg kb (by omega) (by rw [List.length_cons]; omega) ((appendInt_full s.length hs q c hc).mono fun e w1 h => by
    obtain ⟨v1, he, ho, hb⟩ := h
    exact ⟨v1, he, own_lower ho hBw, hb.mono hBw, (Lib.OthersKept.refl _ _ w).below hb⟩)
  unfold Mb.item
  rw [hi]
  exact h
/-- either -/
def WrX (w : World) (B g : Nat) (l : List UInt8) : Prop := WrO w B g l ∨ ∃ c, l = [c] ∧ WrC w B g c
theorem item_x (n0 : Nat) (w : World) (B g : Nat) (l s : List UInt8) (hE : Env n0 w) (hn : n0 ≤ B) (hW : WrX w B g l) (hs : s.length < 100) (hl : l.length ≤ 90000000) :
    Calls Tryz.prog 96 #[.pointer (some ⟨g, 0, none⟩), .string (bs s)] w fun e w' => e = .returned (.tuple #[]) ∧ WrO w' B g (l ++ Mb.item s) ∧ Below B w w' ∧ Spared g w w' := by
  rcases hW with h | ⟨c, rfl, h⟩
  · exact item_own n0 w B g l s hE hn h (by omega) hl
  · exact item_first w B g c s h hs
theorem WrX.le {w : World} {B g : Nat} {l : List UInt8} (h : WrX w B g l) : B ≤ g := h.elim (fun h => h.1) fun ⟨_, _, h⟩ => h.1
theorem WrX.glt {w : World} {B g : Nat} {l : List UInt8} (h : WrX w B g l) : g < w.heap.size := h.elim (fun ⟨_, _, h, _⟩ => h.lt) fun ⟨_, _, _, _, _, _, _, h, _⟩ => h.lt
theorem WrX.ext {w w' : World} {B g : Nat} {l : List UInt8} (h : WrX w B g l) (hb : Below w.heap.size w w') : WrX w' B g l := by
  rcases h with ⟨h1, v, h2, h3⟩ | ⟨c, hc, h1, q, h2, h3, h4, h5, h6⟩
  · exact .inl ⟨h1, v, h2.ext hb, h3.ext hb⟩
  · exact .inr ⟨c, hc, h1, q, h2, h3, Nat.lt_of_lt_of_le h4 hb.size, h5.ext hb, (hb.cell (p := ⟨q, 0, none⟩) h4).trans h6⟩
theorem WrO.ext {w w' : World} {B g : Nat} {l : List UInt8} (h : WrO w B g l) (hb : Below w.heap.size w w') : WrO w' B g l := by
  obtain ⟨h1, v, h2, h3⟩ := h
  exact ⟨h1, v, h2.ext hb, h3.ext hb⟩
theorem flat_le {α β : Type} (f : α → List β) (l : List α) (k : Nat) : ((l.take k).flatMap f).length ≤ (l.flatMap f).length := by
  conv => rhs; rw [← List.take_append_drop k l, List.flatMap_append, List.length_append]
  omega
theorem flat_take1 {α β : Type} (f : α → List β) (l : List α) (k : Nat) (hk : k < l.length) : ((l.take k).flatMap f).length + (f l[k]).length ≤ (l.flatMap f).length := by
  have := flat_le f l (k + 1)
  rw [take_flat f l k hk, List.length_append] at this
  exact this
set_option maxRecDepth 100000 in
set_option maxHeartbeats 2000000 in
theorem numbers_ok (n0 : Nat) (w : World) (B g q : Nat) (l : List UInt8) (ns : List Int) (hE : Env n0 w) (hn : n0 ≤ B) (hW : WrX w B g l) (hq : Blk w q 3 (ns.map fun n => Value.int .i64 n).toArray) (hns : 0 < ns.length) (hnl : ns.length ≤ 1000) (hr : ∀ n ∈ ns, -9223372036854775808 ≤ n ∧ n ≤ 9223372036854775807) (hl : l.length + (Mb.numsB ns).length ≤ 90000000) :
    Calls Tryz.prog 62 #[.pointer (some ⟨g, 0, none⟩), .slice (some ⟨q, 0, none⟩) ns.length ns.length] w fun e w' => e = .returned (.tuple #[]) ∧ WrO w' B g (l ++ Mb.numsB ns) ∧ Below B w w' ∧ Spared g w w' := by
  have hqg : q ≠ g := fun e => by
    subst e
    rcases hW with ⟨_, v, h, _⟩ | ⟨_, _, _, _, _, _, _, h, _⟩
    · unfold Blk at h hq; rw [hq] at h; injection h with h; injection h with _ h; exact absurd h (by decide)
    · unfold Blk at h hq; rw [hq] at h; injection h with h; injection h with _ h; exact absurd h (by decide)
  have hBw : B ≤ w.heap.size := Nat.le_trans hW.le (Nat.le_of_lt hW.glt)
  go_enter Tryz.func62, Tryz.ntmps62
  go_wp2_with fail
  go_loopw [8] (fun i wr => ∃ k : Nat, k ≤ ns.length ∧ i = .int .i64 (k : Int) ∧ Hid (WrX wr B g (l ++ Mb.numsB (ns.take k)) ∧ (0 < k → WrO wr B g (l ++ Mb.numsB (ns.take k)))) ∧ Blk wr q 3 (ns.map fun n => Value.int .i64 n).toArray ∧ Below B w wr ∧ Hid (Spared g w wr)) (fun i _ => ns.length - (intOf i).toNat)
  case atStart => exact ⟨0, Nat.zero_le _, rfl, Lib.hid ⟨by simpa [Mb.numsB] using hW, fun h => absurd h (by omega)⟩, hq, Below.refl _ _, Lib.hid (Lib.OthersKept.refl _ _ _)⟩
  case round =>
    obtain ⟨k, hk, rfl, hX, hqr, hbr, hsr⟩ := hrel
    have hzr := hbr.size
    by_cases hlt : k < ns.length
    · have hcell : wr.cell? ⟨q, k, none⟩ = some (.int .i64 ns[k]) := by rw [hqr.cell]; simp [hlt]
      have hrk := hr _ (List.getElem_mem hlt)
      have htk := flat_take1 Mb.numb ns k hlt
      have hcat : Mb.numsB (ns.take (k + 1)) = Mb.numsB (ns.take k) ++ Mb.numb ns[k] := take_flat Mb.numb ns k hlt
      obtain ⟨n, hnn⟩ : ∃ n, n = ns[k] := ⟨_, rfl⟩
      rw [← hnn] at hcell hrk htk hcat
      have hil := Lib.itoa_length_le n hrk.1 hrk.2
      have Hit := Lib.hid (fun W (h : Lib.TabIs Tryz.prog W "internal/strconv.uint64pow10" .u64 Lib.pow10Tab) => Tryz.strconv_Itoa n hrk.1 hrk.2 W h)
      have hEr := hE.ext hbr hn
      have Hcat := Lib.hid hcat
      have Hlen := Lib.hid (show (l ++ Mb.numsB (ns.take k)).length ≤ 90000000 by
        rw [List.length_append]
        unfold Mb.numsB at hl ⊢
        omega)
      clear hcat htk hnn
      go_wp2_with (first
        | (go_at_call 97; refine (Hit.out wr hEr.1.here).mono ?_; rintro e w2 ⟨rfl, k2, os2, hw2⟩; have hb2 : Below wr.heap.size wr w2 := hw2 ▸ below_growN wr k2 os2; clear hw2; refine Hid.out ?_))
      refine Lib.hid ?_
      have hE2 := hEr.ext hb2 (by omega)
      have hX2 := hX.out.1.ext hb2
      have hb2' := hbr.trans (hb2.mono (by omega))
      have hs2 := hsr.out.below hb2
      have Hcall := Lib.hid (item_x n0 w2 B g _ (Lib.itoa n) hE2 hn hX2 (by omega) Hlen.out)
      have hq2 := hqr.ext hb2
      have hz2 := hb2.size
      clear hX hX2 hEr hE2 hb2 hbr hsr Hit hqr
      go_wp2_with (go_at_call 96; refine Hcall.out.mono ?_; rintro e w3 ⟨rfl, hO3, hb3, hs3⟩)
      go_roundw
      case rel =>
        have hO : WrO w3 B g (l ++ Mb.numsB (ns.take (k + 1))) := by
          rw [Hcat.out, ← List.append_assoc]
          exact hO3
        exact ⟨k + 1, by omega, by go_num, Lib.hid ⟨.inl hO, fun _ => hO⟩, hq2.spared hs3 hqg (by decide), hb2'.trans hb3, Lib.hid (Lib.OthersKept.trans hs2 hs3)⟩
      case measure => simp [intOf]; omega
    · have hO := hX.out.2 (by omega)
      rw [List.take_of_length_le (by omega)] at hO
      go_wp2_with fail
      refine bodyPost_end (results_none rfl _ _ _) rfl ⟨rfl, hO, hbr, hsr.out⟩
end Go.Proofs.YtjamjkjmlckgeaaGreatDoor
