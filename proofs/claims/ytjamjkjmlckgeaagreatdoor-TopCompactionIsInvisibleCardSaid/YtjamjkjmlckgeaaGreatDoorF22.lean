/-
  Contracts and plain facts, one after another: n09Box; Plain: logs that lead to a mailbox, however it goes on; Rows of changes; A value of five cells, of two cells, stored into a block; Plain: the steps of a run; the runs of changes that an Apply takes; What stands behind a call of Apply in the law.
-/
import Derived.Test.YtjamjkjmlckgeaaGreatDoorF21
import Derived.Test.YtjamjkjmlckgeaaGreatDoorF47
import Derived.Test.YtjamjkjmlckgeaaGreatDoorF19
import Derived.Test.YtjamjkjmlckgeaaGreatDoorF45
namespace Go.Proofs.YtjamjkjmlckgeaaGreatDoor
open Go.RowKit
set_option linter.unusedVariables false

set_option maxRecDepth 100000 in
set_option maxHeartbeats 8000000 in
theorem nbox_ok (M : Nat → Prop) (w : World) (hM : ∀ x, M x → x < w.heap.size) :
    Calls Tryz.prog 5 #[] w fun e w' => ∃ es gs, e = .returned (.tuple #[boxV Mb.exB es gs, .bool true]) ∧ SlR entC M w' es Mb.exB.es ∧ SlR gnC M w' gs Mb.exB.gs ∧ Below w.heap.size w w' := by
  obtain ⟨w0, g0, hw0, hg0, hsz0, k0, hb0⟩ := box1 w #[.int .i64 0, .int .i64 0, .int .i64 0, .slice none 0 0, .slice none 0 0] 26
  obtain ⟨M', hM'⟩ : ∃ M' : Nat → Prop, M' = fun x => M x ∨ x = g0 := ⟨_, rfl⟩
  have hM'l : ∀ x, M' x → x < w0.heap.size := fun x hx => by
    rw [hM'] at hx
    rcases hx with hx | hx
    · have := hM x hx; omega
    · omega
  have hM0 : M' g0 := by rw [hM']; exact .inr rfl
  have hMs : ∀ x, M x → M' x := fun x hx => by rw [hM']; exact .inl hx
  have hg0l : w.heap.size ≤ g0 := by omega
  have hg0u : g0 < w0.heap.size := by omega
  have hz0 := hb0.size
  clear hM' hsz0
  go_enter Tryz.func5, Tryz.ntmps5
  go_wp2_with fail
  refine (new_ok w0).mono ?_
  rintro e w1 ⟨he, hb1⟩
  have he : e = .returned (.agg #[.int .i64 1, .int .i64 1, .int .i64 0, .slice none 0 0, .slice none 0 0]) := he
  subst he
  go_wp2_with fail
  refine (n9letter_ok Mb.dog w1 (show Mb.dog.length ≤ maxLen by decide)).mono ?_
  rintro e w2 ⟨f, bd, rfl, hf, hbd, hb2⟩
  obtain ⟨Af, cf, rfl, _, _⟩ := hf.form
  obtain ⟨Ab, cb, rfl, _, _⟩ := hbd.form
  have hb02 := below2 hb1 hb2
  have hap := Apply_ok M' Mb.newB (1, 0, 4, 0, 0, Mb.dogF, Mb.xB) (.slice none 0 0) (.slice none 0 0) _ _ w2 (fun x hx => by have := hM'l x hx; have := hb02.size; omega) (SlR.nil _ _ _) (SlR.nil _ _ _) hf hbd (fun e he => by cases he) (show Mb.dogF.length ≤ 4398046511104 by decide) (show Mb.xB.length ≤ 140737488355328 by decide) (fun _ => show Mb.newB.gs.length < 400 by decide)
  rw [Mb.ex_app] at hap
  obtain ⟨z, hz9⟩ : ∃ z : Int, z = 0 := ⟨_, rfl⟩
  have hz0z : (z == 0) = true := by rw [hz9]; rfl
  dsimp only at hap
  have Hz9 := Lib.hid hz9
  have Hap := Lib.hid hap
  unfold chgV boxV at Hap
  clear hap hz9 hf hbd
  go_wp2_with fail
  refine Hap.out.mono ?_
  rintro e w3 ⟨es, gs, he, own3, ogs3, hb3⟩
  rw [← Hz9.out] at he
  obtain ⟨Ae, ce, rfl, _, _⟩ := own3.shape
  obtain ⟨Ag, cg, rfl, _, _⟩ := ogs3.shape
  have hE3 : SlR entC M' w3 (.slice Ae Mb.exB.es.length ce) Mb.exB.es := (own3.read fun x hx h => h.elim (fun h => by obtain ⟨xs, ho, _⟩ := own3; have h1 := (ho.lt x hx).1; have := hM'l x h; have := hb02.size; omega) fun h => own_apart ogs3 own3 (by decide) x hx h).sub fun x _ hx => .inl hx
  have hG3 : SlR gnC M' w3 (.slice Ag Mb.exB.gs.length cg) Mb.exB.gs := ogs3.readB fun x hx => by have := hM'l x hx; have := hb02.size; omega
  have he : e = .returned (.tuple #[.agg #[.int .i64 2, .int .i64 2, .int .i64 0, .slice Ae 1 ce, .slice Ag 0 cg], .agg #[.int .i64 z, .int .i64 z]]) := he
  subst he
  have hb03 := below2 hb02 hb3
  have hz3 := hb03.size
  obtain ⟨wa, g2, g3, hwa, hg2, hg3, hsza, k2a, k3a, hba⟩ := box2 w3 #[.int .i64 0, .int .i64 0, .int .i64 0, .slice none 0 0, .slice none 0 0] 26 #[.int .i64 0, .int .i64 0] 31
  obtain ⟨wv, wz, hwv, hwz, ⟨m0, m1, m2, m3, m4⟩, ⟨x0, x1, x2, x3, x4, xl⟩, ⟨n0', n1', u0, u1, ul⟩, k2z, k3z, hbz, _⟩ := land52 k2a k3a (by omega) (.int .i64 2) (.int .i64 2) (.int .i64 0) (.slice Ae 1 ce) (.slice Ag 0 cg) (.int .i64 z) (.int .i64 z)
  have hb3z : Below w3.heap.size w3 wz := hba.trans (hbz _ (by omega) (by omega))
  have hb0z := below2 hb03 hb3z
  have hEz := hE3.ext hb3z; have hGz := hG3.ext hb3z
  obtain ⟨be, off, Af2, cf2, Ab2, cb2, hA, hMb, hbe, q0, _, _, _, _, _, _, _⟩ := hEz.entAt (k := 0) (by decide)
  subst hA
  have hbne : be ≠ g0 := fun e => hMb (by rw [e]; exact hM0)
  rw [Nat.zero_mul, Nat.add_zero] at q0
  have q0 : wz.cell? ⟨be, off, none⟩ = some (.int .i64 1) := q0
  have hg20 : g2 ≠ g0 := by omega
  have hg30 : g3 ≠ g0 := by omega
  clear k2a k3a hsza Hap own3 ogs3 hE3 hG3 hba hbz
  go_wp2_with fail
  have HS := Lib.hid (show ∀ W, Below wz.heap.size wz W → W.cell? ⟨g2, 0, none⟩ = some (.int .i64 2) ∧ W.cell? ⟨g2, 1, none⟩ = some (.int .i64 2) ∧ W.cell? ⟨g2, 2, none⟩ = some (.int .i64 0) ∧ W.cell? ⟨g2, 3, none⟩ = some (.slice (some ⟨be, off, none⟩) 1 ce) ∧ W.cell? ⟨g2, 4, none⟩ = some (.slice Ag 0 cg) ∧ W.cell? ⟨g3, 0, none⟩ = some (.int .i64 z) ∧ W.cell? ⟨be, off, none⟩ = some (.int .i64 1) from fun W hW => ⟨(k2z.ext hW).cell 0, (k2z.ext hW).cell 1, (k2z.ext hW).cell 2, (k2z.ext hW).cell 3, (k2z.ext hW).cell 4, (k3z.ext hW).cell 0, (hW.cell (p := ⟨be, off, none⟩) hbe).trans q0⟩)
  have Hk := Lib.hid (And.intro k2z k3z)
  have Hq := Lib.hid q0
  clear k2z k3z q0 m0 m1 m2 m3 m4 x0 x1 x2 x3 x4 xl n0' n1' u0 u1 ul hwv hwz hwa
  refine wp_region_D (fun W => W.cell? ⟨g2, 0, none⟩ = some (.int .i64 2) ∧ W.cell? ⟨g2, 1, none⟩ = some (.int .i64 2) ∧ W.cell? ⟨g2, 2, none⟩ = some (.int .i64 0) ∧ W.cell? ⟨g2, 3, none⟩ = some (.slice (some ⟨be, off, none⟩) 1 ce) ∧ W.cell? ⟨g2, 4, none⟩ = some (.slice Ag 0 cg) ∧ W.cell? ⟨g3, 0, none⟩ = some (.int .i64 z) ∧ W.cell? ⟨be, off, none⟩ = some (.int .i64 1)) (fun _ => false) (by kernel_rfl) ?_
  change anyD _ _ _ _ _ _ _ _ _ (wz.drewN 1)
  have hbV := below_drewN' wz.heap.size wz 1
  generalize wz.drewN 1 = V0 at hbV ⊢
  have hS := HS.out V0 hbV
  (refine anyD_light (i := 0) (v := ?_) rfl (by kernel_rfl) (by kernel_rfl) (by kernel_rfl) (by kernel_rfl) (by kernel_rfl) (fun _ _ _ h => h) (.inl ⟨by kernel_rfl, fun W9 hW9 => ?_⟩) hS ?_; rotate_left; · (obtain ⟨hw0, hw1, hw2, hw3, hw4, hw5, hw6⟩ := hW9; go_simp; rfl))
  (refine anyD_light (i := 1) (v := ?_) rfl (by kernel_rfl) (by kernel_rfl) (by kernel_rfl) (by kernel_rfl) (by kernel_rfl) (fun _ _ _ h => h) (.inl ⟨by kernel_rfl, fun W9 hW9 => ?_⟩) hS ?_; rotate_left; · (obtain ⟨hw0, hw1, hw2, hw3, hw4, hw5, hw6⟩ := hW9; go_simp; rfl))
  (refine anyD_light (i := 2) (v := ?_) rfl (by kernel_rfl) (by kernel_rfl) (by kernel_rfl) (by kernel_rfl) (by kernel_rfl) (fun _ _ _ h => h) (.inl ⟨by kernel_rfl, fun W9 hW9 => ?_⟩) hS ?_; rotate_left; · (obtain ⟨hw0, hw1, hw2, hw3, hw4, hw5, hw6⟩ := hW9; go_simp; rfl))
  (refine anyD_light (i := 3) (v := ?_) rfl (by kernel_rfl) (by kernel_rfl) (by kernel_rfl) (by kernel_rfl) (by kernel_rfl) (fun _ _ _ h => h) (.inl ⟨by kernel_rfl, fun W9 hW9 => ?_⟩) hS ?_; rotate_left; · (obtain ⟨hw0, hw1, hw2, hw3, hw4, hw5, hw6⟩ := hW9; go_simp; rfl))
  (refine anyD_light (i := 4) (v := ?_) rfl (by kernel_rfl) (by kernel_rfl) (by kernel_rfl) (by kernel_rfl) (by kernel_rfl) (fun _ _ _ h => h) (.inl ⟨by kernel_rfl, fun W9 hW9 => ?_⟩) hS ?_; rotate_left; · (obtain ⟨hw0, hw1, hw2, hw3, hw4, hw5, hw6⟩ := hW9; go_simp; rfl))
  (refine anyD_light (i := 5) (v := ?_) rfl (by kernel_rfl) (by kernel_rfl) (by kernel_rfl) (by kernel_rfl) (by kernel_rfl) (fun _ _ _ h => h) (.inl ⟨by kernel_rfl, fun W9 hW9 => ?_⟩) hS ?_; rotate_left; · (obtain ⟨hw0, hw1, hw2, hw3, hw4, hw5, hw6⟩ := hW9; go_simp; rfl))
  go_simp
  (refine anyD_light (i := 6) (v := ?_) rfl (by kernel_rfl) (by kernel_rfl) (by kernel_rfl) (by kernel_rfl) (by kernel_rfl) (fun _ _ _ h => h) (.inl ⟨by kernel_rfl, fun W9 hW9 => ?_⟩) hS ?_; rotate_left; · (obtain ⟨hw0, hw1, hw2, hw3, hw4, hw5, hw6⟩ := hW9; go_simp; rfl))
  (refine anyD_light (i := 7) (v := ?_) rfl (by kernel_rfl) (by kernel_rfl) (by kernel_rfl) (by kernel_rfl) (by kernel_rfl) (fun _ _ _ h => h) (.inl ⟨by kernel_rfl, fun W9 hW9 => ?_⟩) hS ?_; rotate_left; · (obtain ⟨hw0, hw1, hw2, hw3, hw4, hw5, hw6⟩ := hW9; go_simp; rfl))
  (refine anyD_light (i := 8) (v := ?_) rfl (by kernel_rfl) (by kernel_rfl) (by kernel_rfl) (by kernel_rfl) (by kernel_rfl) (fun _ _ _ h => h) (.inl ⟨by kernel_rfl, fun W9 hW9 => ?_⟩) hS ?_; rotate_left; · (obtain ⟨hw0, hw1, hw2, hw3, hw4, hw5, hw6⟩ := hW9; go_simp; rfl))
  (refine anyD_light (i := 9) (v := ?_) rfl (by kernel_rfl) (by kernel_rfl) (by kernel_rfl) (by kernel_rfl) (by kernel_rfl) (fun _ _ _ h => h) (.inl ⟨by kernel_rfl, fun W9 hW9 => ?_⟩) hS ?_; rotate_left; · (obtain ⟨hw0, hw1, hw2, hw3, hw4, hw5, hw6⟩ := hW9; go_simp; rfl))
  (refine anyD_light (i := 10) (v := ?_) rfl (by kernel_rfl) (by kernel_rfl) (by kernel_rfl) (by kernel_rfl) (by kernel_rfl) (fun _ _ _ h => h) (.inl ⟨by kernel_rfl, fun W9 hW9 => ?_⟩) hS ?_; rotate_left; · (obtain ⟨hw0, hw1, hw2, hw3, hw4, hw5, hw6⟩ := hW9; go_simp; rfl))
  (refine anyD_light (i := 11) (v := ?_) rfl (by kernel_rfl) (by kernel_rfl) (by kernel_rfl) (by kernel_rfl) (by kernel_rfl) (fun _ _ _ h => h) (.inl ⟨by kernel_rfl, fun W9 hW9 => ?_⟩) hS ?_; rotate_left; · (obtain ⟨hw0, hw1, hw2, hw3, hw4, hw5, hw6⟩ := hW9; go_simp; rfl))
  go_simp
  (refine anyD_light (i := 12) (v := ?_) rfl (by kernel_rfl) (by kernel_rfl) (by kernel_rfl) (by kernel_rfl) (by kernel_rfl) (fun _ _ _ h => h) (.inl ⟨by kernel_rfl, fun W9 hW9 => ?_⟩) hS ?_; rotate_left; · (obtain ⟨hw0, hw1, hw2, hw3, hw4, hw5, hw6⟩ := hW9; go_simp; rfl))
  (refine anyD_light (i := 13) (v := ?_) rfl (by kernel_rfl) (by kernel_rfl) (by kernel_rfl) (by kernel_rfl) (by kernel_rfl) (fun _ _ _ h => h) (.inl ⟨by kernel_rfl, fun W9 hW9 => ?_⟩) hS ?_; rotate_left; · (obtain ⟨hw0, hw1, hw2, hw3, hw4, hw5, hw6⟩ := hW9; go_simp; rfl))
  (refine anyD_light (i := 14) (v := ?_) rfl (by kernel_rfl) (by kernel_rfl) (by kernel_rfl) (by kernel_rfl) (by kernel_rfl) (fun _ _ _ h => h) (.inl ⟨by kernel_rfl, fun W9 hW9 => ?_⟩) hS ?_; rotate_left; · (obtain ⟨hw0, hw1, hw2, hw3, hw4, hw5, hw6⟩ := hW9; go_simp; rfl))
  (refine anyD_light (i := 15) (v := ?_) rfl (by kernel_rfl) (by kernel_rfl) (by kernel_rfl) (by kernel_rfl) (by kernel_rfl) (fun _ _ _ h => h) (.inl ⟨by kernel_rfl, fun W9 hW9 => ?_⟩) hS ?_; rotate_left; · (obtain ⟨hw0, hw1, hw2, hw3, hw4, hw5, hw6⟩ := hW9; go_simp; rfl))
  (refine anyD_light (i := 16) (v := ?_) rfl (by kernel_rfl) (by kernel_rfl) (by kernel_rfl) (by kernel_rfl) (by kernel_rfl) (fun _ _ _ h => h) (.inl ⟨by kernel_rfl, fun W9 hW9 => ?_⟩) hS ?_; rotate_left; · (obtain ⟨hw0, hw1, hw2, hw3, hw4, hw5, hw6⟩ := hW9; go_simp; rfl))
  (refine anyD_light (i := 17) (v := ?_) rfl (by kernel_rfl) (by kernel_rfl) (by kernel_rfl) (by kernel_rfl) (by kernel_rfl) (fun _ _ _ h => h) (.inl ⟨by kernel_rfl, fun W9 hW9 => ?_⟩) hS ?_; rotate_left; · (obtain ⟨hw0, hw1, hw2, hw3, hw4, hw5, hw6⟩ := hW9; go_simp; rfl))
  go_simp
  go_simp
  refine anyD_one (i := 18) (by kernel_rfl) rfl rfl (fun K hK => ?_)
  have HK := Lib.hid hK
  clear hK
  have hbR := below2 hb0z hbV
  have k0V := k0.ext hbR
  have m0 := k0V.cell 0; have m1 := k0V.cell 1; have m2 := k0V.cell 2; have m3 := k0V.cell 3; have m4 := k0V.cell 4
  have x0 := k0V.frozen 0; have x1 := k0V.frozen 1; have x2 := k0V.frozen 2; have x3 := k0V.frozen 3; have x4 := k0V.frozen 4; have xl := k0V.lt
  have hT := put5_turned V0 g0 (.int .i64 2) (.int .i64 2) (.int .i64 0) (.slice (some ⟨be, off, none⟩) 1 ce) (.slice Ag 0 cg)
  have k0W := k0V.of5 (.int .i64 2) (.int .i64 2) (.int .i64 0) (.slice (some ⟨be, off, none⟩) 1 ce) (.slice Ag 0 cg)
  unfold put5 at hT k0W
  obtain ⟨Wv, hWv⟩ : ∃ W, (((((V0.setCell ⟨g0, 0, none⟩ (.int .i64 2)).setCell ⟨g0, 1, none⟩ (.int .i64 2)).setCell ⟨g0, 2, none⟩ (.int .i64 0)).setCell ⟨g0, 3, none⟩ (.slice (some ⟨be, off, none⟩) 1 ce)).setCell ⟨g0, 4, none⟩ (.slice Ag 0 cg)) = W := ⟨_, rfl⟩
  rw [hWv] at hT k0W
  have k2W := (Hk.out.1.ext hbV).turned hT hg20; have k3W := (Hk.out.2.ext hbV).turned hT hg30
  have hS2 : Wv.cell? ⟨g2, 0, none⟩ = some (.int .i64 2) ∧ Wv.cell? ⟨g2, 1, none⟩ = some (.int .i64 2) ∧ Wv.cell? ⟨g2, 2, none⟩ = some (.int .i64 0) ∧ Wv.cell? ⟨g2, 3, none⟩ = some (.slice (some ⟨be, off, none⟩) 1 ce) ∧ Wv.cell? ⟨g2, 4, none⟩ = some (.slice Ag 0 cg) ∧ Wv.cell? ⟨g3, 0, none⟩ = some (.int .i64 z) ∧ Wv.cell? ⟨be, off, none⟩ = some (.int .i64 1) := ⟨k2W.cell 0, k2W.cell 1, k2W.cell 2, k2W.cell 3, k2W.cell 4, k3W.cell 0, (Turned.cell hT ⟨be, off, none⟩ hbne).trans (HS.out V0 hbV).2.2.2.2.2.2⟩
  have z0 := k0W.cell 0; have z1 := k0W.cell 1; have z2 := k0W.cell 2; have z3 := k0W.cell 3; have z4 := k0W.cell 4
  have Hfin := Lib.hid hT
  clear hS hT k2W k3W k0W
  unfold Oper.wp
  go_simp
  have hS := hS2
  refine HK.out _ _ (fun _ => hS) ?_
  clear HK
  (refine anyD_light (i := 19) (v := ?_) rfl (by kernel_rfl) (by kernel_rfl) (by kernel_rfl) (by kernel_rfl) (by kernel_rfl) (fun _ _ _ h => h) (.inl ⟨by kernel_rfl, fun W9 hW9 => ?_⟩) hS ?_; rotate_left; · (obtain ⟨hw0, hw1, hw2, hw3, hw4, hw5, hw6⟩ := hW9; go_simp; rfl))
  go_simp
  refine anyD_done (by kernel_rfl) ?_ _
  go_wp2_with fail
  have hT := Hfin.out
  refine bodyPost_ret (v := .tuple #[.agg #[.int .i64 2, .int .i64 2, .int .i64 0, .slice (some ⟨be, off, none⟩) 1 ce, .slice Ag 0 cg], .bool true]) (by simp [results, Tryz.results5, go_sem, z0, z1, z2, z3, z4]) rfl ⟨_, _, rfl, ?_, ?_, ?_⟩
  · exact ((hEz.ext hbV).turned hT hM0).sub fun x _ hx => hMs x hx
  · exact ((hGz.ext hbV).turned hT hM0).sub fun x _ hx => hMs x hx
  · exact (below2 hb0 hbR).trans (hT.rest _ hg0l)
end Go.Proofs.YtjamjkjmlckgeaaGreatDoor
namespace Go.Proofs.YtjamjkjmlckgeaaGreatDoor
set_option linter.unusedVariables false
namespace Mb
/-- the records S lead to the box b, whatever changes follow; made of at most k changes -/
structure Lead (S : List Rc) (b : Box) (k : Nat) : Prop where
  good : Good b
  es : b.es.length ≤ k
  gs : b.gs.length ≤ k
  inn : ∀ r ∈ S, RcIn r
  len : logLen S ≤ 107 + 12675 * k
  play : ∀ (m : List Chg) (b' : Box), Runs b m b' → m.length + k ≤ 300 → Plays newB false true (S ++ m.map .chg) b'
theorem lead_nil (h : Good newB) : Lead [] newB 0 :=
  ⟨h, Nat.le_refl _, Nat.le_refl _, fun r hr => (by cases hr), (by simp [logLen]), fun m b' hr hm => plays_runs m newB b' false true hr h (by show 0 + m.length ≤ 400; omega)⟩
theorem lead_chg {S : List Rc} {b : Box} {k : Nat} {c : Chg} (h : Lead S b k) (hk : k ≤ 20) (hc : (applF b c).2.1 = 0) : Lead (S ++ [.chg c]) (applF b c).1 (k + 1) := by
  have h1 := appl_len hc
  have h2 := applied_in h.good hc
  have h3 := chgB_len h2
  have h4 := h.es
  have h5 := h.gs
  refine ⟨appl_good h.good (by omega) hc, by omega, by omega, fun r hr => ?_, ?_, fun m b' hr hm => ?_⟩
  · rcases List.mem_append.1 hr with hr | hr
    · exact h.inn r hr
    · rcases List.mem_cons.1 hr with rfl | hr
      · exact h2
      · cases hr
  · rw [logLen_append]
    have h6 := h.len
    have h7 : logLen [.chg c] = (chgB c).length + 10 := by simp [logLen, rcB]
    omega
  · have h6 := h.play (c :: m) b' ⟨hc, hr⟩ (by rw [List.length_cons]; omega)
    rw [List.append_assoc]
    exact h6
theorem lead_box {S : List Rc} {b : Box} {k : Nat} (h : Lead S b k) (hk : k ≤ 20) : Lead (boxC b) b k := by
  have h4 := h.es
  have h5 := h.gs
  refine ⟨h.good, h4, h5, box_in h.good, ?_, fun m b' hr hm => ?_⟩
  · have h6 := box_len h.good
    have h7 : 48 * b.gs.length ≤ 48 * k := Nat.mul_le_mul_left _ h5
    have h8 : 12627 * b.es.length ≤ 12627 * k := Nat.mul_le_mul_left _ h4
    omega
  · exact plays_box h.good _ (plays_runs m b b' true false hr h.good (by omega))
theorem Lead.plays {S : List Rc} {b : Box} {k : Nat} (h : Lead S b k) (hk : k ≤ 20) : Plays newB false true S b := by
  have h1 := h.play [] b rfl (by simp; omega)
  simpa using h1
theorem Lead.fit {S : List Rc} {b : Box} {k : Nat} (h : Lead S b k) (hk : k ≤ 13) : logLen S ≤ 390000 := by
  have h1 := h.len
  have h2 : 12675 * k ≤ 12675 * 13 := Nat.mul_le_mul_left _ hk
  omega
/-- behind one more change the log still takes the record -/
theorem Lead.fit1 {S : List Rc} {b : Box} {k : Nat} {c : Chg} (h : Lead S b k) (hk : k ≤ 12) (hc : (applF b c).2.1 = 0) : logLen (S ++ [.chg c]) ≤ 400000 := by
  have h1 := (lead_chg h (by omega) hc).fit (by omega)
  omega
theorem Lead.read {S : List Rc} {b : Box} {k : Nat} (h : Lead S b k) (hk : k ≤ 13) : (readF (logB S)).1 = S.map rcB ∧ (readF (logB S)).2.2 = (0, 0) := by
  rw [read_log h.inn (by have := h.fit hk; omega)]
  exact ⟨rfl, rfl⟩
theorem Lead.torn {S : List Rc} {b : Box} {k : Nat} (h : Lead S b k) (hk : k ≤ 13) (t : List UInt8) (ht : t = [0, 9] ∨ t = [0, 7, 67]) : (readF (logB S ++ t)).1 = S.map rcB ∧ (readF (logB S ++ t)).2.2 = (0, 0) := read_torn h.inn t ht (h.fit hk)
theorem Lead.append {S : List Rc} {b : Box} {k : Nat} {c : Chg} (h : Lead S b k) (hk : k ≤ 12) (hc : (applF b c).2.1 = 0) : appendF (logB S) (chgB c) = (logB (S ++ [.chg c]), 0, 0) :=
  append_log h.inn (applied_in h.good hc) (h.fit1 hk hc)
end Mb
end Go.Proofs.YtjamjkjmlckgeaaGreatDoor
namespace Go.Proofs.YtjamjkjmlckgeaaGreatDoor
open Go.RowKit
set_option linter.unusedVariables false

def chgC : Codec Mb.Chg := pairC intC (pairC intC (pairC intC (pairC intC (pairC intC msgC))))
theorem SlR.chgAt {M : Nat → Prop} {w : World} {A : Option Addr} {n c : Nat} {l : List Mb.Chg} (h : SlR chgC M w (.slice A n c) l) {k : Nat} (hk : k < l.length) :
    ∃ b off Af cf Ab cb, A = some ⟨b, off, none⟩ ∧ ¬ M b ∧ b < w.heap.size ∧ (w.cell? ⟨b, off + k * 7, none⟩ = some (.int .i64 l[k].1) ∧ w.cell? ⟨b, off + k * 7 + 1, none⟩ = some (.int .i64 l[k].2.1) ∧ w.cell? ⟨b, off + k * 7 + 2, none⟩ = some (.int .i64 l[k].2.2.1) ∧ w.cell? ⟨b, off + k * 7 + 3, none⟩ = some (.int .i64 l[k].2.2.2.1) ∧ w.cell? ⟨b, off + k * 7 + 4, none⟩ = some (.int .i64 l[k].2.2.2.2.1) ∧ w.cell? ⟨b, off + k * 7 + 5, none⟩ = some (.slice Af l[k].2.2.2.2.2.1.length cf) ∧ w.cell? ⟨b, off + k * 7 + 6, none⟩ = some (.slice Ab l[k].2.2.2.2.2.2.length cb)) ∧
      SlR fldC M w (.slice Af l[k].2.2.2.2.2.1.length cf) l[k].2.2.2.2.2.1 ∧ SlR byteC M w (.slice Ab l[k].2.2.2.2.2.2.length cb) l[k].2.2.2.2.2.2 ∧
      (∀ x ∈ [l[k].1, l[k].2.1, l[k].2.2.1, l[k].2.2.2.1, l[k].2.2.2.2.1], -9223372036854775808 ≤ x ∧ x ≤ 9223372036854775807) := by
  obtain ⟨b, off, cs, rfl, hM, hb, hr, hc⟩ := h.at_ hk
  obtain ⟨c0, d0, rfl, ⟨rfl, g0⟩, c1, d1, rfl, ⟨rfl, g1⟩, c2, d2, rfl, ⟨rfl, g2⟩, c3, d3, rfl, ⟨rfl, g3⟩, c4, d4, rfl, ⟨rfl, g4⟩, c5, d5, rfl, ⟨v5, rfl, h5⟩, ⟨v6, rfl, h6⟩⟩ := hr
  obtain ⟨Af, cf, rfl, _⟩ := h5.form
  obtain ⟨Ab, cb, rfl, _⟩ := h6.form
  refine ⟨b, off, Af, cf, Ab, cb, rfl, hM, hb, ⟨hc 0 _ rfl, hc 1 _ rfl, hc 2 _ rfl, hc 3 _ rfl, hc 4 _ rfl, hc 5 _ rfl, hc 6 _ rfl⟩, h5, h6, fun x hx => ?_⟩
  simp only [List.mem_cons, List.not_mem_nil, or_false] at hx
  rcases hx with rfl | rfl | rfl | rfl | rfl
  · exact g0
  · exact g1
  · exact g2
  · exact g3
  · exact g4
theorem TChgs : SlT Tryz.prog 7 22 47 88 := SlT.mk' Tryz.underlying22 (by kernel_rfl : (Tryz.prog.info? 47).map (fun i => (i.zero, i.size, i.bytes)) = some (some (.agg #[.int .i64 0, .int .i64 0, .int .i64 0, .int .i64 0, .int .i64 0, .slice none 0 0, .slice none 0 0]), 7, 88)) rfl
end Go.Proofs.YtjamjkjmlckgeaaGreatDoor
namespace Go.Proofs.YtjamjkjmlckgeaaGreatDoor
open Go.RowKit
set_option linter.unusedVariables false

theorem land5 {W : World} {g4 : Nat} {t4 : TypeId} {x0 x1 x2 x3 x4 : Value} (k4 : Blk W g4 t4 #[x0, x1, x2, x3, x4]) (a b c d e : Value) :
    ∃ V, (((((W.setCell ⟨g4, 0, none⟩ a).setCell ⟨g4, 1, none⟩ b).setCell ⟨g4, 2, none⟩ c).setCell ⟨g4, 3, none⟩ d).setCell ⟨g4, 4, none⟩ e) = V ∧
      (W.cell? ⟨g4, 0, none⟩ = some x0 ∧ W.cell? ⟨g4, 1, none⟩ = some x1 ∧ W.cell? ⟨g4, 2, none⟩ = some x2 ∧ W.cell? ⟨g4, 3, none⟩ = some x3 ∧ W.cell? ⟨g4, 4, none⟩ = some x4) ∧
      (W.frozen? ⟨g4, 0, none⟩ = false ∧ W.frozen? ⟨g4, 1, none⟩ = false ∧ W.frozen? ⟨g4, 2, none⟩ = false ∧ W.frozen? ⟨g4, 3, none⟩ = false ∧ W.frozen? ⟨g4, 4, none⟩ = false ∧ g4 < W.heap.size) ∧
      Blk V g4 t4 #[a, b, c, d, e] ∧ Turned g4 W V := by
  have hT1 := put5_turned W g4 a b c d e
  exact ⟨_, rfl, ⟨k4.cell 0, k4.cell 1, k4.cell 2, k4.cell 3, k4.cell 4⟩, ⟨k4.frozen 0, k4.frozen 1, k4.frozen 2, k4.frozen 3, k4.frozen 4, k4.lt⟩, k4.of5 a b c d e, hT1⟩
theorem land2 {W : World} {g4 : Nat} {t4 : TypeId} {x0 x1 : Value} (k4 : Blk W g4 t4 #[x0, x1]) (a b : Value) :
    ∃ V, ((W.setCell ⟨g4, 0, none⟩ a).setCell ⟨g4, 1, none⟩ b) = V ∧ (W.cell? ⟨g4, 0, none⟩ = some x0 ∧ W.cell? ⟨g4, 1, none⟩ = some x1) ∧ (W.frozen? ⟨g4, 0, none⟩ = false ∧ W.frozen? ⟨g4, 1, none⟩ = false ∧ g4 < W.heap.size) ∧
      Blk V g4 t4 #[a, b] ∧ Turned g4 W V := by
  have k1 : Blk ((W.setCell ⟨g4, 0, none⟩ a).setCell ⟨g4, 1, none⟩ b) g4 t4 #[a, b] := by simpa using (k4.set_ 0 a).set_ 1 b
  exact ⟨_, rfl, ⟨k4.cell 0, k4.cell 1⟩, ⟨k4.frozen 0, k4.frozen 1, k4.lt⟩, k1, ((Turned.refl g4 _).set 0 a).set 1 b⟩
namespace Mb
theorem ex_lead : Lead (boxC exB) exB 1 := by
  have h0 : (applF newB (1, 0, 4, 0, 0, dogF, xB)).2.1 = 0 := by kernel_rfl
  have h1 := lead_chg (lead_nil good_new) (by omega) h0
  have h2 : (applF newB (1, 0, 4, 0, 0, dogF, xB)).1 = exB := by kernel_rfl
  rw [h2] at h1
  exact lead_box h1 (by omega)
end Mb
end Go.Proofs.YtjamjkjmlckgeaaGreatDoor
namespace Go.Proofs.YtjamjkjmlckgeaaGreatDoor
set_option linter.unusedVariables false
namespace Mb
theorem runs_at {b b' : Box} {l : List Chg} (hr : Runs b l b') {i : Nat} (hi : i < l.length) : ∃ bi, Runs b (l.take i) bi ∧ (applF bi l[i]).2.1 = 0 ∧ Runs (applF bi l[i]).1 (l.drop (i + 1)) b' := by
  have h1 : l.take i ++ l.drop i = l := List.take_append_drop i l
  rw [← h1] at hr
  obtain ⟨bi, h2, h3⟩ := runs_split _ _ _ _ hr
  rw [List.drop_eq_getElem_cons hi] at h3
  exact ⟨bi, h2, h3.1, h3.2⟩
theorem runs_one : ∀ (l : List Chg) (b b1 b2 : Box), Runs b l b1 → Runs b l b2 → b1 = b2
  | [], _, _, _, h, h' => h.symm.trans h'
  | _ :: l, _, _, _, h, h' => runs_one l _ _ _ h.2 h'.2
theorem runs_snoc {b b' : Box} {l : List Chg} {c : Chg} (hr : Runs b l b') (hc : (applF b' c).2.1 = 0) : Runs b (l ++ [c]) (applF b' c).1 := runs_app l [c] b b' _ hr ⟨hc, rfl⟩
/-- a run of Apply that is not refused is a change of the box -/
theorem app_good {b : Box} {c : Chg} (h : Good b) : appF b c = applF b c := by
  unfold appF
  rw [if_neg (by rw [boxF_good.2 h]; simp)]
theorem appl_pair {b : Box} {c : Chg} (h : (applF b c).2.1 = 0) : (applF b c).2 = (0, 0) := by
  unfold applF at h ⊢
  split
  · rename_i h1
    rw [if_pos h1] at h
    exact absurd h h1
  · rename_i h1
    rw [if_neg h1] at h
    split
    · rename_i h2
      rw [if_pos h2] at h
      cases h
    · rename_i h2
      rw [if_neg h2] at h
      split
      · rename_i h3
        rw [if_pos h3] at h
        cases h
      · rename_i h3
        rw [if_neg h3] at h
        split
        · rename_i h4
          rw [if_pos h4] at h
          cases h
        · rfl
end Mb
end Go.Proofs.YtjamjkjmlckgeaaGreatDoor
namespace Go.Proofs.YtjamjkjmlckgeaaGreatDoor
open Go.RowKit
set_option linter.unusedVariables false

/-- what M says, and the row of a value -/
def OwnB (M : Nat → Prop) (v : Value) : Nat → Prop := fun x => M x ∨ v.ownBlock = some x
structure RnAt (Mx : Nat → Prop) (wo : World) (rb : Mb.Box) (r1 r2 : Int) (g21 g22 : Nat) (es gs : Value) (W : World) : Prop where
  k21 : Blk W g21 26 #[.int .i64 rb.nu, .int .i64 rb.ns, .int .i64 rb.hz, es, gs]
  k22 : Blk W g22 31 #[.int .i64 r1, .int .i64 r2]
  rE : SlR entC Mx W es rb.es
  rG : SlR gnC Mx W gs rb.gs
  bel : Below wo.heap.size wo W
  h21 : wo.heap.size ≤ g21
  h22 : wo.heap.size ≤ g22
theorem RnAt.make {Mx : Nat → Prop} {wo c : World} {rb : Mb.Box} {r1 r2 : Int} {g21 g22 n1 n2 : Nat} {es gs x0 x1 x2 x3 x4 y0 y1 : Value} (hbc : Below wo.heap.size wo c) (k21 : Blk c g21 26 #[x0, x1, x2, x3, x4]) (k22 : Blk c g22 31 #[y0, y1]) (hne : g21 ≠ g22) (h21 : wo.heap.size ≤ g21) (h22 : wo.heap.size ≤ g22) (o21 : g21 < n1 ∨ n2 ≤ g21) (o22 : g22 < n1 ∨ n2 ≤ g22)
    (rE : SlR entC (fun x => (Mx x ∨ (wo.heap.size ≤ x ∧ x < n1)) ∨ n2 ≤ x) c es rb.es) (rG : SlR gnC (fun x => (Mx x ∨ (wo.heap.size ≤ x ∧ x < n1)) ∨ n2 ≤ x) c gs rb.gs) {W : World} (hW : (((put5 c g21 (.int .i64 rb.nu) (.int .i64 rb.ns) (.int .i64 rb.hz) es gs).setCell ⟨g22, 0, none⟩ (.int .i64 r1)).setCell ⟨g22, 1, none⟩ (.int .i64 r2)) = W) : RnAt Mx wo rb r1 r2 g21 g22 es gs W := by
  subst hW
  have hT1 := put5_turned c g21 (.int .i64 rb.nu) (.int .i64 rb.ns) (.int .i64 rb.hz) es gs
  have hT2 : Turned g22 (put5 c g21 (.int .i64 rb.nu) (.int .i64 rb.ns) (.int .i64 rb.hz) es gs) (((put5 c g21 (.int .i64 rb.nu) (.int .i64 rb.ns) (.int .i64 rb.hz) es gs).setCell ⟨g22, 0, none⟩ (.int .i64 r1)).setCell ⟨g22, 1, none⟩ (.int .i64 r2)) := ((Turned.refl g22 _).set 0 _).set 1 _
  have m21 : (Mx g21 ∨ (wo.heap.size ≤ g21 ∧ g21 < n1)) ∨ n2 ≤ g21 := o21.elim (fun h => .inl (.inr ⟨h21, h⟩)) .inr
  have m22 : (Mx g22 ∨ (wo.heap.size ≤ g22 ∧ g22 < n1)) ∨ n2 ≤ g22 := o22.elim (fun h => .inl (.inr ⟨h22, h⟩)) .inr
  refine ⟨(k21.of5 _ _ _ _ _).turned hT2 hne, by simpa using ((k22.turned hT1 hne.symm).set_ 0 (.int .i64 r1)).set_ 1 (.int .i64 r2), ?_, ?_, (hbc.trans (hT1.rest _ h21)).trans (hT2.rest _ h22), h21, h22⟩
  · exact ((rE.turned hT1 m21).turned hT2 m22).sub fun x _ hx => .inl (.inl hx)
  · exact ((rG.turned hT1 m21).turned hT2 m22).sub fun x _ hx => .inl (.inl hx)
/-- the rows that a call of Apply made, as they are read -/
theorem rows_of {M : Nat → Prop} {n : Nat} {V : World} {rb : Mb.Box} {es gs : Value} (hM : ∀ x, M x → x < n) (own : Own entC (fun x => M x ∨ gs.ownBlock = some x) V n 65 es rb.es) (ogs : Own gnC M V n 82 gs rb.gs) : SlR entC (fun x => M x ∨ V.heap.size ≤ x) V es rb.es ∧ SlR gnC (fun x => M x ∨ V.heap.size ≤ x) V gs rb.gs :=
  ⟨((own.read fun x hx h => h.elim (fun h => by have h1 := own.base x hx; have h2 := hM x h; omega) fun h => own_apart ogs own (by decide) x hx h).sub fun x hb hx => .inl (hx.elim id fun h => absurd hb (by omega))),
    (ogs.readB hM).sub fun x hb hx => hx.elim id fun h => absurd hb (by omega)⟩
/-- what lies outside a row, where an element is appended to it -/
theorem SlR.pushed {α : Type} {C : Codec α} {M : Nat → Prop} {w w' : World} {v v0 v1 : Value} {l : List α} (h : SlR C (OwnB M v0) w v l) (hg : w.grownBy w' v0.ownBlock) (hor : v1.ownBlock = v0.ownBlock ∨ v1.ownBlock = some (w.heap.size + 1)) : SlR C (OwnB M v1) w' v l := by
  have h1 : SlR C (fun x => OwnB M v0 x ∨ w.heap.size ≤ x) w v l := h.sub fun x hx hm => hm.elim id fun h9 => absurd hx (by omega)
  have h2 : SlR C (fun x => OwnB M v0 x ∨ w.heap.size ≤ x) w' v l := h1.keep (fun x hx hm => hg.block x hx fun e => hm (.inl (.inr e.symm))) hg.size
  refine h2.sub fun x _ hm => ?_
  rcases hm with hm | hm
  · exact .inl (.inl hm)
  · rcases hor with e | e
    · exact .inl (.inr (e ▸ hm))
    · rw [e] at hm
      injection hm with hm
      exact .inr (by omega)
/-- a new row of bytes -/
theorem row_new (cs : List Value) (l : List UInt8) (w : World) (he : ∀ M, Els byteC M w cs l) (hm : l.length ≤ maxLen) : ∃ W g, w.alloc (.cells cs.toArray 5) = W ∧ w.heap.size = g ∧ SlR byteC (fun x => x < g) W (.slice (some ⟨g, 0, none⟩) l.length l.length) l ∧ Below w.heap.size w W :=
  ⟨_, _, rfl, rfl, (Own.built (M := fun x => x < w.heap.size) (B := w.heap.size) 5 (he _) (Nat.le_refl _) hm).readB fun x hx => hx, (Below.refl _ _).alloc (Nat.le_refl _) _⟩
theorem row09 (w : World) : ∃ W g, w.alloc (.cells #[.int .u8 0, .int .u8 9] 5) = W ∧ w.heap.size = g ∧ SlR byteC (fun x => x < g) W (.slice (some ⟨g, 0, none⟩) 2 2) [0, 9] ∧ Below w.heap.size w W :=
  row_new [.int .u8 0, .int .u8 9] [0, 9] w (fun M => (Els.single (byte_rd M w 0 0 rfl)).append (Els.single (byte_rd M w 9 9 rfl))) (by decide)
theorem row07 (w : World) : ∃ W g, w.alloc (.cells #[.int .u8 0, .int .u8 7, .int .u8 67] 5) = W ∧ w.heap.size = g ∧ SlR byteC (fun x => x < g) W (.slice (some ⟨g, 0, none⟩) 3 3) [0, 7, 67] ∧ Below w.heap.size w W :=
  row_new [.int .u8 0, .int .u8 7, .int .u8 67] [0, 7, 67] w (fun M => ((Els.single (byte_rd M w 0 0 rfl)).append (Els.single (byte_rd M w 7 7 rfl))).append (Els.single (byte_rd M w 67 67 rfl))) (by decide)
end Go.Proofs.YtjamjkjmlckgeaaGreatDoor
