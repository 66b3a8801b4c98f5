/-
  Contracts and plain facts, one after another: views.Of, of a mailbox in order; resync.since; slices.BinarySearchFunc on what is seen, with the closure of views.Update.
-/
import Derived.Test.YtjamjkjmlckgeaaGreatDoorF23
import Derived.Test.YtjamjkjmlckgeaaGreatDoorF4
namespace Go.Proofs.YtjamjkjmlckgeaaGreatDoor
open Go.RowKit
set_option linter.unusedVariables false

set_option maxRecDepth 100000 in
set_option maxHeartbeats 8000000 in
theorem vof_ok (M : Nat → Prop) (b : Mb.Box) (es gs : Value) (w : World) (hM : ∀ x, M x → x < w.heap.size) (hes : SlR entC M0 w es b.es) (hgs : SlR gnC M0 w gs b.gs) (hG : Mb.Good b) :
    Calls Tryz.prog 35 #[boxV b es gs] w fun e w' => ∃ v, e = .returned (.tuple #[.agg #[.int .i64 b.ns, v], .agg #[.int .i64 0, .int .i64 0]]) ∧ SlR gnC M w' v (Mb.allV b) ∧ Below w.heap.size w w' := by
  have hval := fun W h1 h2 => validate_ok b es gs W h1 h2 (fun e he => by have h9 := (Mb.msg_ok (hG.es e he).2.2.2.2).2.2; omega)
  rw [Mb.boxF_pair (Mb.boxF_good.2 hG)] at hval
  have hall := fun W h1 => vall_ok b es gs W h1 hG
  obtain ⟨Ae, ce, rfl, hec, hem⟩ := hes.form
  obtain ⟨Ag, cg, rfl, hgc, hgm⟩ := hgs.form
  dsimp only at hval
  unfold boxV at hval hall ⊢
  obtain ⟨w0, g, g2, g3, hw0, hg, hg2, hg3, hsz0, k, k2, k3, hb0⟩ := box3 w #[.int .i64 b.nu, .int .i64 b.ns, .int .i64 b.hz, .slice Ae b.es.length ce, .slice Ag b.gs.length cg] 26 #[.int .i64 0, .slice none 0 0] 40 #[.int .i64 0, .int .i64 0] 31
  have hgl2 : w.heap.size ≤ g2 := by omega
  have hgl3 : w.heap.size ≤ g3 := by omega
  have hgu2 : g2 < w0.heap.size := by omega
  have hgu3 : g3 < w0.heap.size := by omega
  have hne : g2 ≠ g3 := by omega
  have hz0 := hb0.size
  have he0 := hes.ext hb0; have hg0 := hgs.ext hb0
  have Hval := Lib.hid (hval w0 he0 hg0)
  have Hall := Lib.hid hall
  have HM := Lib.hid hM
  have c0 := k.cell 0; have c1 := k.cell 1; have c2 := k.cell 2; have c3 := k.cell 3; have c4 := k.cell 4
  clear hval hall hes hgs hsz0 hG hM
  obtain ⟨z, hz9⟩ : ∃ z : Int, z = 0 := ⟨_, rfl⟩
  rw [← hz9] at Hval
  have hzz : (z != 0) = false := by rw [hz9]; rfl
  clear hz9
  go_enter Tryz.func35, Tryz.ntmps35
  go_wp2_with fail
  refine Hval.out.mono ?_
  rintro e w1 ⟨rfl, hb1⟩
  refine Hid.out ?_
  refine Lib.hid ?_
  obtain ⟨w2, g4, hw2, hg4, hsz2, k4, hb2⟩ := box1 w1 #[.int .i64 z, .int .i64 z] 31
  have hb02 := below2 hb1 hb2
  obtain ⟨p0, p1, _, _, _⟩ := k4.two
  clear k4 hsz2 c0 c1 c2 c3 c4
  go_wp2_with fail
  refine (failed_ok z z w2).mono ?_
  rintro e w3 ⟨rfl, hb3⟩
  have hb03 := below2 hb02 hb3
  have k03 := k.ext hb03
  clear p0 p1 hw2
  have HS := Lib.hid (show ∀ W, Below w3.heap.size w3 W → W.cell? ⟨g, 0, none⟩ = some (.int .i64 b.nu) ∧ W.cell? ⟨g, 1, none⟩ = some (.int .i64 b.ns) ∧ W.cell? ⟨g, 2, none⟩ = some (.int .i64 b.hz) ∧ W.cell? ⟨g, 3, none⟩ = some (.slice Ae b.es.length ce) ∧ W.cell? ⟨g, 4, none⟩ = some (.slice Ag b.gs.length cg) from fun W hW => ⟨(k03.ext hW).cell 0, (k03.ext hW).cell 1, (k03.ext hW).cell 2, (k03.ext hW).cell 3, (k03.ext hW).cell 4⟩)
  refine Hid.out ?_
  refine Lib.hid ?_
  go_wp2_with fail
  refine Hid.out ?_
  refine wp_region_D (fun W => W.cell? ⟨g, 0, none⟩ = some (.int .i64 b.nu) ∧ W.cell? ⟨g, 1, none⟩ = some (.int .i64 b.ns) ∧ W.cell? ⟨g, 2, none⟩ = some (.int .i64 b.hz) ∧ W.cell? ⟨g, 3, none⟩ = some (.slice Ae b.es.length ce) ∧ W.cell? ⟨g, 4, none⟩ = some (.slice Ag b.gs.length cg)) (fun j => j == 6 || j == 7) (by kernel_rfl) ?_
  change anyD _ _ _ _ _ _ _ _ _ (w3.drewN 1)
  have hbV := below_drewN' w3.heap.size w3 1
  generalize w3.drewN 1 = V0 at hbV ⊢
  have hS := HS.out V0 hbV
  (refine anyD_light (i := 0) (v := ?_) rfl (by kernel_rfl) (by kernel_rfl) (by kernel_rfl) (by kernel_rfl) (by kernel_rfl) (fun _ _ _ h => h) (.inl ⟨by kernel_rfl, fun W9 hW9 => ?_⟩) hS ?_; rotate_left; · (obtain ⟨hw0, hw1, hw2, hw3, hw4⟩ := hW9; go_simp; rfl))
  (refine anyD_light (i := 1) (v := ?_) rfl (by kernel_rfl) (by kernel_rfl) (by kernel_rfl) (by kernel_rfl) (by kernel_rfl) (fun _ _ _ h => h) (.inl ⟨by kernel_rfl, fun W9 hW9 => ?_⟩) hS ?_; rotate_left; · (obtain ⟨hw0, hw1, hw2, hw3, hw4⟩ := hW9; go_simp; rfl))
  (refine anyD_light (i := 2) (v := ?_) rfl (by kernel_rfl) (by kernel_rfl) (by kernel_rfl) (by kernel_rfl) (by kernel_rfl) (fun _ _ _ h => h) (.inl ⟨by kernel_rfl, fun W9 hW9 => ?_⟩) hS ?_; rotate_left; · (obtain ⟨hw0, hw1, hw2, hw3, hw4⟩ := hW9; go_simp; rfl))
  go_simp
  refine anyD_one (i := 3) (by kernel_rfl) rfl rfl (fun K hK => ?_)
  have HK := Lib.hid hK
  clear hK
  clear hS
  unfold Oper.wp
  go_simp
  refine (Hall.out V0 (he0.ext (below2 hb03 hbV))).mono ?_
  rintro e V1 ⟨v1, rfl, own1, hb1'⟩
  obtain ⟨A1, c1, rfl, _, _⟩ := own1.shape
  have hb1x := below2 hbV hb1'
  have hS := HS.out V1 hb1x
  refine HK.out _ _ (fun _ => hS) ?_
  clear HK
  (refine anyD_light (i := 4) (v := ?_) rfl (by kernel_rfl) (by kernel_rfl) (by kernel_rfl) (by kernel_rfl) (by kernel_rfl) (fun _ _ _ h => h) (.inl ⟨by kernel_rfl, fun W9 hW9 => ?_⟩) hS ?_; rotate_left; · (obtain ⟨hw0, hw1, hw2, hw3, hw4⟩ := hW9; go_simp; rfl))
  go_simp
  refine anyD_one (i := 5) (by kernel_rfl) rfl rfl (fun K hK => ?_)
  have HK := Lib.hid hK
  clear hK
  clear hS
  unfold Oper.wp
  go_simp
  refine (none_ok V1).mono ?_
  rintro e V2 ⟨rfl, hb2'⟩
  have hb2x := below2 hb1x hb2'
  have hS := HS.out V2 hb2x
  refine HK.out _ _ (fun _ => hS) ?_
  clear HK
  go_simp
  refine anyD_one (i := 6) (by kernel_rfl) rfl rfl (fun K hK => ?_)
  have HK := Lib.hid hK
  clear hK
  have hbR := below2 hb03 hb2x
  have own2 := Lib.hid (own1.ext hb2')
  obtain ⟨Wv, Wz, hWv, hWz, ⟨m0, m1⟩, ⟨x0, x1, xl⟩, ⟨n0, n1, u0, u1, ul⟩, k4z, k5z, hbz, hT1, hT2⟩ := land22 (k2.ext hbR) (k3.ext hbR) hne (.int .i64 b.ns) (.slice A1 (Mb.allV b).length c1) (.int .i64 0) (.int .i64 0)
  have z0 := k4z.cell 0; have z1 := k4z.cell 1; have y0 := k5z.cell 0; have y1 := k5z.cell 1
  have Hfin := Lib.hid (And.intro hbz (And.intro hT1 hT2))
  clear k4z k5z hbz hT1 hT2 hS own1
  unfold Oper.wp
  go_simp
  refine HK.out _ _ (fun h => by cases h) ?_
  clear HK
  go_simp
  refine anyD_one (i := 7) (by kernel_rfl) rfl rfl (fun K hK => ?_)
  have HK := Lib.hid hK
  clear hK
  unfold Oper.wp
  go_simp
  refine HK.out _ _ (fun h => by cases h) ?_
  clear HK
  go_simp
  refine anyD_done (by kernel_rfl) ?_ _
  go_wp2_with fail
  obtain ⟨hbz, hT1, hT2⟩ := Hfin.out
  refine bodyPost_ret (v := .tuple #[.agg #[.int .i64 b.ns, .slice A1 (Mb.allV b).length c1], .agg #[.int .i64 0, .int .i64 0]]) (by simp [results, Tryz.results35, go_sem, z0, z1, y0, y1]) rfl ⟨_, rfl, ?_, ?_⟩
  · have hzR := hb03.size; have hzV := hbV.size
    have h1 : SlR gnC (fun x => M x ∨ x = g2 ∨ x = g3) V2 (.slice A1 (Mb.allV b).length c1) (Mb.allV b) := own_freeR free_gn own2.out fun x hx => by
      rcases hx with hx | hx | hx
      · have := HM.out x hx; omega
      · omega
      · omega
    exact ((h1.turned hT1 (.inr (.inl rfl))).turned hT2 (.inr (.inr rfl))).sub fun x _ hx => .inl hx
  · exact (below2 hb0 hbR).trans (hbz _ (by omega) (by omega))
end Go.Proofs.YtjamjkjmlckgeaaGreatDoor
namespace Go.Proofs.YtjamjkjmlckgeaaGreatDoor
open Go.RowKit
set_option linter.unusedVariables false

theorem TIntsV : SlT Tryz.prog 1 54 3 8 := SlT.mk' Tryz.underlying54 (by kernel_rfl : (Tryz.prog.info? 3).map (fun i => (i.zero, i.size, i.bytes)) = some (some (.int .i64 0), 1, 8)) rfl
theorem take_filter_map {α β : Type} (l : List α) (p : α → Bool) (f : α → β) (k : Nat) (hk : k < l.length) : ((l.take (k + 1)).filter p).map f = ((l.take k).filter p).map f ++ (if p l[k] then [f l[k]] else []) := by
  rw [List.take_succ_eq_append_getElem hk, List.filter_append, List.map_append]
  congr 1
  by_cases h : p l[k] = true
  · simp [h]
  · simp [h]
set_option maxRecDepth 100000 in
set_option maxHeartbeats 8000000 in
theorem since_ok (b : Mb.Box) (q : Int) (es gs : Value) (w : World) (hes : SlR entC M0 w es b.es) (hgs : SlR gnC M0 w gs b.gs) (hG : Mb.Good b) :
    Calls Tryz.prog 33 #[boxV b es gs, .int .i64 q] w fun e w' => ∃ u v, e = .returned (.tuple #[u, v]) ∧ SlR gnC M0 w' u (Mb.sinceC b q) ∧ SlR intC M0 w' v (Mb.sinceG b q) ∧ Below w.heap.size w w' := by
  have hle := hG.le
  have hlg := hG.lg
  have hb9 : ∀ e ∈ b.es, (-9223372036854775808 ≤ e.1 ∧ e.1 ≤ 9223372036854775807) ∧ (-9223372036854775808 ≤ e.2.2.1 ∧ e.2.2.1 ≤ 9223372036854775807) := fun e he => by
    have h := hG.es e he
    have h1 := hG.nu
    exact ⟨⟨by have := h.1.1; omega, by have := h.1.2; omega⟩, ⟨by have := h.2.2.1.1; omega, by have := h.2.2.1.2; omega⟩⟩
  have hg9 : ∀ e ∈ b.gs, (-9223372036854775808 ≤ e.1 ∧ e.1 ≤ 9223372036854775807) := fun e he => by
    have h := hG.gs e he
    have h1 := hG.nu
    exact ⟨by have := h.1.1; omega, by have := h.1.2; omega⟩
  obtain ⟨Ae, ce, rfl, hec, hem⟩ := hes.form
  obtain ⟨Ag, cg, rfl, hgc, hgm⟩ := hgs.form
  unfold boxV
  obtain ⟨w0, g, hw0, hg, hsz0, k0, hb0⟩ := box1 w #[.int .i64 b.nu, .int .i64 b.ns, .int .i64 b.hz, .slice Ae b.es.length ce, .slice Ag b.gs.length cg] 26
  have he0 := hes.ext hb0
  have hg0 := hgs.ext hb0
  have c3 := k0.cell 3; have c4 := k0.cell 4
  have Hb9 := Lib.hid hb9; have Hg9 := Lib.hid hg9
  have hz0 := hb0.size
  clear hb9 hg9 hes hgs hsz0 hG
  go_enter Tryz.func33, Tryz.ntmps33
  go_wp2_with fail
  go_loopw [4, 13] (fun o i wr => ∃ (k : Nat) (A : Option Addr) (c : Nat) (L : List (Int × Int)), k ≤ b.es.length ∧ i = .int .i64 (k : Int) ∧ o = .slice A L.length c ∧ Hid (L = (((b.es.take k).filter fun e => decide (q ≤ e.2.1)).map fun e => (e.1, e.2.2.1))) ∧ Own gnC M0 wr w0.heap.size 84 (.slice A L.length c) L ∧ Below w0.heap.size w0 wr) (fun _ i _ => b.es.length - (intOf i).toNat)
  case atStart => exact ⟨0, none, 0, [], Nat.zero_le _, rfl, rfl, Lib.hid (by simp), Own.nil _ _ _ _ _, Below.refl _ _⟩
  case round =>
    obtain ⟨k, A, c, L, hk, rfl, rfl, hL, own, hbr⟩ := hrel
    clear c3 c4
    have hzr := hbr.size
    by_cases hlt : k < b.es.length
    · obtain ⟨bb, off, Af, cf, Ab, cb, rfl, _, _, q0, q1, q2, q3, q4, q5, qf, qb⟩ := (he0.ext hbr).entAt hlt
      have hcat := take_filter_map b.es (fun e => decide (q ≤ e.2.1)) (fun e => (e.1, e.2.2.1)) k hlt
      have hLl : L.length ≤ k := by rw [hL.out, List.length_map]; exact Nat.le_trans (List.length_filter_le _ _) (by rw [List.length_take]; omega)
      have hrg := Hb9.out _ (List.getElem_mem hlt)
      obtain ⟨x, hx⟩ : ∃ x, x = b.es[k] := ⟨_, rfl⟩
      rw [← hx] at q0 q1 q2 q3 q4 q5 qf qb hcat hrg
      obtain ⟨x1, x2, x3, x4, f, bd⟩ := x
      dsimp only at q0 q1 q2 q3 q4 q5 hrg hcat
      obtain ⟨wx, gx, hwx, hgx, hszx, kx, hbx⟩ := box1 wr #[.int .i64 x1, .int .i64 x2, .int .i64 x3, .int .i64 x4, .slice Af f.length cf, .slice Ab bd.length cb] 65
      have y0 := kx.cell 0; have y1 := kx.cell 1; have y2 := kx.cell 2
      have ownx := own.ext hbx
      have hbwx := hbr.trans (hbx.mono hzr)
      have hzx := hbwx.size
      by_cases hq : q ≤ x2
      · have hrd : gnC.rd (fun x => M0 x ∨ (Value.slice A L.length c).ownBlock = some x) wx [.int .i64 x1, .int .i64 x3] (x1, x3) := ⟨_, _, rfl, ⟨rfl, hrg.1⟩, ⟨rfl, hrg.2⟩⟩
        rw [if_pos (decide_eq_true hq)] at hcat
        have HLl := Lib.hid hLl; have Hcat := Lib.hid hcat
        clear own kx hszx hLl hcat hx qf qb hrg
        go_wp2_with (at_builtin; refine wpList_push_Own gnC (M := M0) (B := w0.heap.size) TSns rfl (.tmp 21) (.tmp 27) rfl rfl ownx rfl (cs := [.int .i64 x1, .int .i64 x3]) (y := (x1, x3)) hrd (fun _ h => h.elim) ?a1 ?b1 hzx ?_)
        case a1 => have := HLl.out; unfold maxLen; omega
        case b1 => have := HLl.out; omega
        intro A4 c4 L4 w4 hL4 own4 hb4 hg4 hor4
        have HL4 := Lib.hid (show L4 = (((b.es.take (k + 1)).filter fun e => decide (q ≤ e.2.1)).map fun e => (e.1, e.2.2.1)) by rw [hL4.out, hL.out, Hcat.out])
        have hbw4 := hbwx.trans hb4
        clear ownx hrd hL4 hg4 hor4 hb4
        go_wp2_with fail
        go_roundw
        case rel => exact ⟨k + 1, A4, c4, L4, by omega, by go_num, rfl, HL4, own4, hbw4⟩
        case measure => simp [intOf]; omega
      · rw [if_neg (by simpa using hq), List.append_nil] at hcat
        have HL4 := Lib.hid (show L = (((b.es.take (k + 1)).filter fun e => decide (q ≤ e.2.1)).map fun e => (e.1, e.2.2.1)) by rw [hcat]; exact hL.out)
        clear own kx hszx hLl hcat hx qf qb hrg
        go_wp2_with fail
        go_roundw
        case rel => exact ⟨k + 1, A, c, L, by omega, by go_num, rfl, HL4, ownx, hbwx⟩
        case measure => simp [intOf]; omega
    · have hL2 : L = Mb.sinceC b q := by rw [hL.out, List.take_of_length_le (by omega)]; rfl
      have HL2 := Lib.hid hL2
      have hL1 : SlR gnC M0 wr (.slice A L.length c) L := own.read0
      have c4 := (k0.ext hbr).cell 4
      have Hbr := Lib.hid hbr
      clear hL hL2 own
      obtain rfl : k = b.es.length := by omega
      clear hlt
      obtain ⟨wo, rfl⟩ : ∃ W0, W0 = wr := ⟨_, rfl⟩
      go_wp2_with fail
      go_loopw [5, 33] (fun o i wr => ∃ (k : Nat) (A : Option Addr) (c : Nat) (L : List Int), k ≤ b.gs.length ∧ i = .int .i64 (k : Int) ∧ o = .slice A L.length c ∧ Hid (L = (((b.gs.take k).filter fun e => decide (q ≤ e.2)).map fun e => e.1)) ∧ Own intC M0 wr wo.heap.size 3 (.slice A L.length c) L ∧ Below wo.heap.size wo wr) (fun _ i _ => b.gs.length - (intOf i).toNat)
      case atStart => exact ⟨0, none, 0, [], Nat.zero_le _, rfl, rfl, Lib.hid (by simp), Own.nil _ _ _ _ _, Below.refl _ _⟩
      case round =>
        obtain ⟨k', A', c', L', hk', rfl, rfl, hL', own', hbr'⟩ := hrel
        clear c4
        have hzr' := hbr'.size
        by_cases hlt' : k' < b.gs.length
        · obtain ⟨bb, off, rfl, _, _, q0, q1⟩ := ((hg0.ext Hbr.out).ext hbr').gnAt hlt'
          have hcat := take_filter_map b.gs (fun e => decide (q ≤ e.2)) (fun e => e.1) k' hlt'
          have hLl : L'.length ≤ k' := by rw [hL'.out, List.length_map]; exact Nat.le_trans (List.length_filter_le _ _) (by rw [List.length_take]; omega)
          have hrg := Hg9.out _ (List.getElem_mem hlt')
          obtain ⟨x, hx⟩ : ∃ x, x = b.gs[k'] := ⟨_, rfl⟩
          rw [← hx] at q0 q1 hcat hrg
          obtain ⟨x1, x2⟩ := x
          dsimp only at q0 q1 hrg hcat
          obtain ⟨wx, gx, hwx, hgx, hszx, kx, hbx⟩ := box1 wr #[.int .i64 x1, .int .i64 x2] 82
          have y0 := kx.cell 0; have y1 := kx.cell 1
          have ownx := own'.ext hbx
          have hbwx := hbr'.trans (hbx.mono hzr')
          have hzx := hbwx.size
          by_cases hq : q ≤ x2
          · have hrd : intC.rd (fun x => M0 x ∨ (Value.slice A' L'.length c').ownBlock = some x) wx [.int .i64 x1] x1 := ⟨rfl, hrg⟩
            rw [if_pos (decide_eq_true hq)] at hcat
            have HLl := Lib.hid hLl; have Hcat := Lib.hid hcat
            clear own' kx hszx hLl hcat hx hrg
            go_wp2_with (at_builtin; refine wpList_push_Own intC (M := M0) (B := wo.heap.size) TIntsV rfl (.tmp 41) (.tmp 44) rfl rfl ownx rfl (cs := [.int .i64 x1]) (y := x1) hrd (fun _ h => h.elim) ?a1 ?b1 hzx ?_)
            case a1 => have := HLl.out; unfold maxLen; omega
            case b1 => have := HLl.out; omega
            intro A4 c4 L4 w4 hL4 own4 hb4 hg4 hor4
            have HL4 := Lib.hid (show L4 = (((b.gs.take (k' + 1)).filter fun e => decide (q ≤ e.2)).map fun e => e.1) by rw [hL4.out, hL'.out, Hcat.out])
            have hbw4 := hbwx.trans hb4
            clear ownx hrd hL4 hg4 hor4 hb4
            go_wp2_with fail
            go_roundw
            case rel => exact ⟨k' + 1, A4, c4, L4, by omega, by go_num, rfl, HL4, own4, hbw4⟩
            case measure => simp [intOf]; omega
          · rw [if_neg (by simpa using hq), List.append_nil] at hcat
            have HL4 := Lib.hid (show L' = (((b.gs.take (k' + 1)).filter fun e => decide (q ≤ e.2)).map fun e => e.1) by rw [hcat]; exact hL'.out)
            clear own' kx hszx hLl hcat hx hrg
            go_wp2_with fail
            go_roundw
            case rel => exact ⟨k' + 1, A', c', L', by omega, by go_num, rfl, HL4, ownx, hbwx⟩
            case measure => simp [intOf]; omega
        · have hL3 : L' = Mb.sinceG b q := by rw [hL'.out, List.take_of_length_le (by omega)]; rfl
          have HL3 := Lib.hid hL3
          clear hL' hL3
          go_wp2_with fail
          refine bodyPost_ret (v := .tuple #[.slice A L.length c, .slice A' L'.length c']) (by simp [results, Tryz.results33, go_sem]) rfl ⟨_, _, rfl, ?_, ?_, below2 hb0 (Hbr.out.trans (hbr'.mono Hbr.out.size))⟩
          · rw [← HL2.out]; exact hL1.ext hbr'
          · rw [← HL3.out]; exact own'.read0
end Go.Proofs.YtjamjkjmlckgeaaGreatDoor
namespace Go.Proofs.YtjamjkjmlckgeaaGreatDoor
open Go.RowKit
set_option linter.unusedVariables false

def KnB (l : List Mb.Seen) : Prop := ∀ s ∈ l, 0 ≤ s.1 ∧ s.1 ≤ 1000000
theorem below_cut {l : List Mb.Seen} (hl : Mb.Rising l) {u : Int} {k : Nat} (hk : k ≤ l.length) (h1 : ∀ (m : Nat) (hm : m < l.length), m + 1 = k → l[m].1 < u) (h2 : ∀ hm : k < l.length, u ≤ l[k].1) : k = Mb.below l u := by
  have hb := Mb.below_le l u
  by_cases h : k < Mb.below l u
  · have h3 := Mb.below_lt h
    have h4 := h2 (by omega)
    omega
  · by_cases h' : Mb.below l u < k
    · have h3 := Mb.below_up hl (u := u) (i := k - 1) (by omega) (by omega)
      have h4 := h1 (k - 1) (by omega) (by omega)
      exact absurd h4 h3
    · omega
theorem upd1_ok (a1 a2 b1 b2 : Int) (ha : 0 ≤ a1 ∧ a1 ≤ 1000000) (hb : 0 ≤ b1 ∧ b1 ≤ 1000000) (w : World) : Calls Tryz.prog 67 #[.agg #[.int .i64 a1, .int .i64 a2], .agg #[.int .i64 b1, .int .i64 b2]] w fun e w' => e = .returned (.int .i64 (a1 - b1)) ∧ Below w.heap.size w w' := by
  have hq : IntKind.i64.wrap (a1 - b1) = a1 - b1 := IntWalk.i64_in _ (by omega)
  go_enter Tryz.func67, Tryz.ntmps67
  go_wp2
  go_ret
  exact ⟨rfl, ((Below.refl _ _).alloc (Nat.le_refl _) _).alloc (by simp) _⟩
def hitS (l : List Mb.Seen) (u : Int) (k : Nat) : Bool := match l[k]? with | some y => y.1 - u == 0 | none => false
set_option maxRecDepth 100000 in
set_option maxHeartbeats 4000000 in
theorem bsearchSn_ok (M : Nat → Prop) (l : List Mb.Seen) (x1 x2 : Int) (v : Value) (w : World) (h : SlR gnC M w v l) (hln : l.length ≤ 1000000) (hkn : KnB l) (hx : 0 ≤ x1 ∧ x1 ≤ 1000000) :
    Calls Tryz.prog 66 #[v, .agg #[.int .i64 x1, .int .i64 x2], .func (.func 67) #[] #[]] w fun e w' => ∃ k : Nat, e = .returned (.tuple #[.int .i64 k, .bool (hitS l x1 k)]) ∧ k ≤ l.length ∧ (∀ (m : Nat) (hm : m < l.length), m + 1 = k → l[m].1 < x1) ∧ (∀ hm : k < l.length, x1 ≤ l[k].1) ∧ Below w.heap.size w w' := by
  obtain ⟨A, c, rfl, hlc, hcm⟩ := h.form
  unfold maxLen at hcm
  have Hh := Lib.hid h; have Hkn := Lib.hid hkn; have Hx := Lib.hid hx
  clear h hkn hx
  go_enter Tryz.func66, Tryz.ntmps66
  go_wp2
  go_loopw [9, 10, 11] (fun i j _ wr => ∃ a b : Nat, a ≤ b ∧ b ≤ l.length ∧ i = .int .i64 a ∧ j = .int .i64 b ∧ Hid (∀ (m : Nat) (hm : m < l.length), m + 1 = a → l[m].1 < x1) ∧ Hid (∀ hm : b < l.length, x1 ≤ l[b].1) ∧ Blk wr w.heap.size 84 #[.int .i64 x1, .int .i64 x2] ∧ Below w.heap.size w wr) (fun i j _ _ => (intOf j - intOf i).toNat)
  case atStart =>
    refine ⟨0, l.length, Nat.zero_le _, Nat.le_refl _, rfl, rfl, Lib.hid fun m _ h => absurd h (by omega), Lib.hid fun h => absurd h (by omega), heap_alloc_new _ _, (Below.refl _ _).alloc (Nat.le_refl _) _⟩
  case round =>
    obtain ⟨a, b, hab, hbl, rfl, rfl, ha, hcut2, kb, hb⟩ := hrel
    have hx1 := Hh.out.ext hb
    by_cases hlt : a < b
    · obtain ⟨m, hm⟩ : ∃ m, m = (a + b) / 2 := ⟨_, rfl⟩
      have hml : m < l.length := by omega
      have hma : a ≤ m := by omega
      have hmb : m < b := by omega
      obtain ⟨bb, off, rfl, _, hbl2, p0, p1⟩ := hx1.gnAt hml
      have hkm := Hkn.out _ (List.getElem_mem hml)
      obtain ⟨⟨ps, pn⟩, hp⟩ : ∃ x, x = l[m] := ⟨_, rfl⟩
      rw [← hp] at p0 p1 hkm
      dsimp only at p0 p1 hkm
      have Hm := Lib.hid hm
      clear hm
      obtain ⟨o, ho⟩ : ∃ o, ps - x1 = o := ⟨_, rfl⟩
      have hol : l[m].1 - x1 = o := by rw [← hp]; exact ho
      have hoc : ∀ W, Calls Tryz.prog 67 #[.agg #[.int .i64 ps, .int .i64 pn], .agg #[.int .i64 x1, .int .i64 x2]] W fun e w' => e = .returned (.int .i64 o) ∧ Below W.heap.size W w' := fun W => by
        have := upd1_ok ps pn x1 x2 hkm Hx.out W
        rw [ho] at this
        exact this
      have kbl := kb.lt
      have hS : ∀ W, Below wr.heap.size wr W → W.cell? ⟨bb, off + m * 2, none⟩ = some (.int .i64 ps) ∧ W.cell? ⟨bb, off + m * 2 + 1, none⟩ = some (.int .i64 pn) ∧ W.cell? ⟨w.heap.size, 0, none⟩ = some (.int .i64 x1) ∧ W.cell? ⟨w.heap.size, 1, none⟩ = some (.int .i64 x2) := fun W hW =>
        ⟨(hW.cell (p := ⟨bb, off + m * 2, none⟩) hbl2).trans p0, (hW.cell (p := ⟨bb, off + m * 2 + 1, none⟩) hbl2).trans p1,
          (hW.cell (p := ⟨w.heap.size, 0, none⟩) kbl).trans (kb.cell 0), (hW.cell (p := ⟨w.heap.size, 1, none⟩) kbl).trans (kb.cell 1)⟩
      have Hoc := Lib.hid hoc; have HS := Lib.hid hS; have Hol := Lib.hid hol
      have hS0 := HS.out _ (below_drewN' wr.heap.size wr 1)
      clear hoc ho hp p0 p1 hS hol hkm
      have hi0 : (0 : Int) ≤ (m : Int) := by omega
      have hi1 : (m : Int) < (l.length : Int) := by omega
      have hq1 : IntKind.i64.wrap (m : Int) = (m : Int) := IntWalk.i64_in _ (by omega)
      go_wp2
      have e : ((a : Int) + (b : Int)) / 2 = (m : Int) := by have := Hm.out; omega
      rw [e]
      clear e
      go_region_held3 (fun W => W.cell? ⟨bb, off + m * 2, none⟩ = some (.int .i64 ps) ∧ W.cell? ⟨bb, off + m * 2 + 1, none⟩ = some (.int .i64 pn) ∧ W.cell? ⟨w.heap.size, 0, none⟩ = some (.int .i64 x1) ∧ W.cell? ⟨w.heap.size, 1, none⟩ = some (.int .i64 x2)) (first | exact hS0 | exact hS2) ((go_at_call 67; refine (Hoc.out _).mono ?_; rintro e w2 ⟨rfl, hb2⟩; have hb12 : Below wr.heap.size wr w2 := Below.trans (below_drewN' wr.heap.size wr 1) hb2; have hS2 := HS.out _ hb12))
      have kb2 := kb.ext hb12
      have hb2w := hb.trans (hb12.mono hb.size)
      clear hS0 hS2 hq1
      by_cases hneg : o < 0
      · go_wp2
        go_roundw
        case rel => exact ⟨m + 1, b, by omega, hbl, by go_num, rfl, Lib.hid fun m' hm' e => by
          obtain rfl : m' = m := by omega
          have := Hol.out; omega, hcut2, kb2, hb2w⟩
        case measure => simp [intOf]; omega
      · go_wp2
        go_roundw
        case rel => exact ⟨a, m, by omega, by omega, rfl, rfl, ha, Lib.hid fun _ => by have := Hol.out; omega, kb2, hb2w⟩
        case measure => simp [intOf]; omega
    · obtain rfl : a = b := by omega
      by_cases hal : a < l.length
      · obtain ⟨bb, off, rfl, _, hbl2, p0, p1⟩ := hx1.gnAt hal
        have hkm := Hkn.out _ (List.getElem_mem hal)
        obtain ⟨⟨ps, pn⟩, hp⟩ : ∃ x, x = l[a] := ⟨_, rfl⟩
        rw [← hp] at p0 p1 hkm
        dsimp only at p0 p1 hkm
        obtain ⟨o, ho⟩ : ∃ o, ps - x1 = o := ⟨_, rfl⟩
        have hhit : hitS l x1 a = (o == 0) := by unfold hitS; rw [List.getElem?_eq_getElem hal, ← hp, ← ho]
        have hoc : ∀ W, Calls Tryz.prog 67 #[.agg #[.int .i64 ps, .int .i64 pn], .agg #[.int .i64 x1, .int .i64 x2]] W fun e w' => e = .returned (.int .i64 o) ∧ Below W.heap.size W w' := fun W => by
          have := upd1_ok ps pn x1 x2 hkm Hx.out W
          rw [ho] at this
          exact this
        have kbl := kb.lt
        have hS : ∀ W, Below wr.heap.size wr W → W.cell? ⟨bb, off + a * 2, none⟩ = some (.int .i64 ps) ∧ W.cell? ⟨bb, off + a * 2 + 1, none⟩ = some (.int .i64 pn) ∧ W.cell? ⟨w.heap.size, 0, none⟩ = some (.int .i64 x1) ∧ W.cell? ⟨w.heap.size, 1, none⟩ = some (.int .i64 x2) := fun W hW =>
          ⟨(hW.cell (p := ⟨bb, off + a * 2, none⟩) hbl2).trans p0, (hW.cell (p := ⟨bb, off + a * 2 + 1, none⟩) hbl2).trans p1,
            (hW.cell (p := ⟨w.heap.size, 0, none⟩) kbl).trans (kb.cell 0), (hW.cell (p := ⟨w.heap.size, 1, none⟩) kbl).trans (kb.cell 1)⟩
        have Hoc := Lib.hid hoc; have HS := Lib.hid hS; have Hhit := Lib.hid hhit
        have hS0 := HS.out _ (below_drewN' wr.heap.size wr 1)
        clear hoc ho hp p0 p1 hS hhit hkm
        have hi0 : (0 : Int) ≤ (a : Int) := by omega
        have hi1 : (a : Int) < (l.length : Int) := by omega
        have hq1 : IntKind.i64.wrap (a : Int) = (a : Int) := IntWalk.i64_in _ (by omega)
        go_wp2
        go_region_held3 (fun W => W.cell? ⟨bb, off + a * 2, none⟩ = some (.int .i64 ps) ∧ W.cell? ⟨bb, off + a * 2 + 1, none⟩ = some (.int .i64 pn) ∧ W.cell? ⟨w.heap.size, 0, none⟩ = some (.int .i64 x1) ∧ W.cell? ⟨w.heap.size, 1, none⟩ = some (.int .i64 x2)) (first | exact hS0 | exact hS2) ((go_at_call 67; refine (Hoc.out _).mono ?_; rintro e w2 ⟨rfl, hb2⟩; have hb12 : Below wr.heap.size wr w2 := Below.trans (below_drewN' wr.heap.size wr 1) hb2; have hS2 := HS.out _ hb12))
        have hb2w := hb.trans (hb12.mono hb.size)
        clear hS0 hS2 hq1
        go_wp2
        refine bodyPost_ret (v := .tuple #[.int .i64 a, .bool (o == 0)]) (by simp [results, Tryz.results66, go_sem]) rfl ?_
        exact ⟨a, by rw [Hhit.out], hbl, ha.out, hcut2.out, hb2w⟩
      · obtain rfl : a = l.length := by omega
        have hhit : hitS l x1 l.length = false := by unfold hitS; simp
        have Hhit := Lib.hid hhit
        clear hhit hx1
        go_wp2
        go_quiet (fail)
        go_wp2
        refine bodyPost_ret (v := .tuple #[.int .i64 l.length, .bool false]) (by simp [results, Tryz.results66, go_sem]) rfl ?_
        exact ⟨l.length, by rw [Hhit.out], Nat.le_refl _, ha.out, hcut2.out, hb.trans (below_drewN' _ _ _)⟩
end Go.Proofs.YtjamjkjmlckgeaaGreatDoor
