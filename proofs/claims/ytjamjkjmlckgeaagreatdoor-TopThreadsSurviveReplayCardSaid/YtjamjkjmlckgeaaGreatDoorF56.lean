/-
  n09Letters: the letters of a mailbox in order.
-/
import Derived.Test.YtjamjkjmlckgeaaGreatDoorF13
import Derived.Test.YtjamjkjmlckgeaaGreatDoorF11
import Derived.Test.YtjamjkjmlckgeaaGreatDoorF55
import Derived.Test.YtjamjkjmlckgeaaGreatDoorF8
import Derived.Test.YtjamjkjmlckgeaaGreatDoorF6
import Derived.Test.YtjamjkjmlckgeaaGreatDoorF14
import Derived.Deep.CutRange
import Derived.Deep.CutBlock
namespace Go.Proofs.YtjamjkjmlckgeaaGreatDoor
open Go.RowKit
set_option linter.unusedVariables false
namespace Mb
def fl (es : List Ent) (k : Nat) (f : Int) : List Ent := (es.take k).filter fun e => e.2.2.1 == f
theorem fl_succ {es : List Ent} {k : Nat} (h : k < es.length) (f : Int) : fl es (k + 1) f = fl es k f ++ (if es[k].2.2.1 == f then [es[k]] else []) := by
  unfold fl
  rw [List.take_succ_eq_append_getElem h, List.filter_append]
  congr 1
  cases h1 : es[k].2.2.1 == f <;> simp [List.filter, h1]
theorem fl_no {es : List Ent} {k : Nat} (h : k < es.length) {f : Int} (hf : (es[k].2.2.1 == f) = false) : fl es (k + 1) f = fl es k f := by
  rw [fl_succ h, hf]
  simp
theorem fl_yes {es : List Ent} {k : Nat} (h : k < es.length) {f : Int} (hf : (es[k].2.2.1 == f) = true) : fl es (k + 1) f = fl es k f ++ [es[k]] := by
  rw [fl_succ h, hf]
  simp
theorem fl_pre (es : List Ent) (f : Int) {k i : Nat} (h : k ≤ i) : ∃ r, fl es i f = fl es k f ++ r := by
  unfold fl
  have h1 : es.take i = es.take k ++ (es.take i).drop k := by
    have h2 := List.take_append_drop k (es.take i)
    rw [List.take_take, Nat.min_eq_left h] at h2
    exact h2.symm
  rw [h1, List.filter_append]
  exact ⟨_, rfl⟩
theorem refs_done {es : List Ent} {i k : Nat} {f : Int} {R : List Str} (hR : R = (fl es k f).map fun e => digF e.1) (hl : R.length ≤ 30) (hk : k ≤ i) (h : k = i ∨ R.length = 30) : R = refsF es i f := by
  unfold refsF
  change R = ((fl es i f).take 30).map _
  have hl2 : (fl es k f).length = R.length := by rw [hR, List.length_map]
  rcases h with h | h
  · subst h
    rw [List.take_of_length_le (by omega), hR]
  · obtain ⟨r, hr⟩ := fl_pre es f hk
    rw [hr, List.take_append_of_le_length (by omega), List.take_of_length_le (by omega), hR]
end Mb
theorem free_str : FreeC strC := fun _ _ _ _ _ _ h => h
theorem own_turnS {M : Nat → Prop} {w W : World} {B : Nat} {e : TypeId} {v : Value} {l : List Str} {g : Nat} (h : Own strC M w B e v l) (hT : Turned g w W) (hv : ∀ b, v.ownBlock = some b → b ≠ g) : Own strC M W B e v l :=
  own_freeM (M' := M) free_str ((own_freeM (M' := fun b => b = g) free_str h).turned hT rfl hv)
theorem TLets : SlT Tryz.prog 3 57 101 48 := SlT.mk' Tryz.underlying57 (by kernel_rfl : (Tryz.prog.info? 101).map (fun i => (i.zero, i.size, i.bytes)) = some (some (.agg #[.string ⟨#[]⟩, .slice none 0 0, .int .i64 0]), 3, 48)) rfl
set_option maxRecDepth 100000 in
set_option maxHeartbeats 8000000 in
theorem nletters_ok (b : Mb.Box) (es gs : Value) (w : World) (hes : SlR entC M0 w es b.es) (hG : Mb.Good b) :
    Calls Tryz.prog 17 #[boxV b es gs] w fun e w' => ∃ v, e = .returned v ∧ Own letterC M0 w' w.heap.size 101 v (Mb.lettersB b.es) ∧ Below w.heap.size w w' := by
  have hle := hG.le
  have hb9 : ∀ e ∈ b.es, (0 ≤ e.1 ∧ e.1 ≤ 1000000) ∧ (-9223372036854775808 ≤ e.2.2.2.1 ∧ e.2.2.2.1 ≤ 9223372036854775807) := fun e he => by
    have h := hG.es e he
    have h1 := hG.nu
    exact ⟨⟨by have := h.1.1; omega, by have := h.1.2; omega⟩, ⟨by have := h.2.2.2.1.1; omega, by have := h.2.2.2.1.2; omega⟩⟩
  obtain ⟨Ae, ce, rfl, hec, hem⟩ := hes.form
  unfold boxV
  obtain ⟨w0, g, hw0, hg, hsz0, k0, hb0⟩ := box1 w #[.int .i64 b.nu, .int .i64 b.ns, .int .i64 b.hz, .slice Ae b.es.length ce, gs] 26
  have he0 := hes.ext hb0
  have c0 := k0.cell 0; have c1 := k0.cell 1; have c2 := k0.cell 2; have c3 := k0.cell 3; have c4 := k0.cell 4
  have Hb9 := Lib.hid hb9
  have hz0 := hb0.size
  obtain ⟨n, hn⟩ : ∃ n, n = b.es.length := ⟨_, rfl⟩
  rw [← hn] at hle k0 c3
  have Hn := Lib.hid hn
  clear hb9 hes hsz0 hG
  go_enter Tryz.func17, Tryz.ntmps17
  go_wp2_with fail
  clear hn
  go_loopw [3, 4] (fun u i wr => ∃ (k : Nat) (A : Option Addr) (c : Nat) (L : List Letter), k ≤ n ∧ i = .int .i64 (k : Int) ∧ u = .slice A L.length c ∧ Hid (L = (List.range k).map (Mb.letterF b.es)) ∧ Own letterC M0 wr w0.heap.size 101 (.slice A L.length c) L ∧ Below w0.heap.size w0 wr) (fun _ i _ => n - (intOf i).toNat)
  case atStart => exact ⟨0, none, 0, [], Nat.zero_le _, rfl, rfl, Lib.hid (by simp), Own.nil _ _ _ _ _, Below.refl _ _⟩
  case round =>
    obtain ⟨k, A, c, L, hk, rfl, rfl, hL, own, hbr⟩ := hrel
    obtain ⟨wo, rfl⟩ : ∃ W0, W0 = wr := ⟨_, rfl⟩
    have hzr := hbr.size
    have k0r := k0.ext hbr
    clear c0 c1 c2 c3 c4 hw0
    have c3 := k0r.cell 3
    by_cases hlt : k < n
    · have hltL : k < b.es.length := by rw [← Hn.out]; exact hlt
      have hea := (he0.ext hbr).entAt hltL
      obtain ⟨be, off, Af, cf, Ab, cb, rfl, _, hbe, q0, q1, q2, q3, q4, q5, qf, qb⟩ := hea
      have hLl : L.length = k := by rw [hL.out, List.length_map, List.length_range]
      have hrg := Hb9.out _ (List.getElem_mem hltL)
      have hgetk : b.es.getD k (0, 0, 0, 0, [], []) = b.es[k] := Mb.gD _ hltL
      have hLF : Mb.letterF b.es k = (Mb.digF b.es[k].1, Mb.refsF b.es k b.es[k].2.2.1, b.es[k].2.2.2.1) := by unfold Mb.letterF; rw [hgetk]
      obtain ⟨x, hx⟩ : ∃ x, x = b.es[k] := ⟨_, rfl⟩
      rw [← hx] at q0 q1 q2 q3 q4 q5 hrg hLF
      obtain ⟨x1, x2, x3, x4, f, bd⟩ := x
      dsimp only at q0 q1 q2 q3 q4 q5 hrg hLF
      obtain ⟨un, rfl⟩ : ∃ un : Nat, x1 = (un : Int) := ⟨x1.toNat, by omega⟩
      have hun : un ≤ 1000000 := by omega
      have HD := digits_ok un hun
      obtain ⟨dg, hdg⟩ : ∃ d, d = Lib.decDigits un := ⟨_, rfl⟩
      have hdl : dg.length ≤ 7 := by rw [hdg, Lib.decDigits_length]; exact Mb.nDigits_le 7 _ (by omega) (by omega)
      rw [← hdg] at HD
      have HLF := Lib.hid (show Mb.letterF b.es k = (dg, Mb.refsF b.es k x3, x4) by rw [hLF, hdg]; rfl)
      have Hx := Lib.hid hx; have HLl := Lib.hid hLl; have HD := Lib.hid HD
      have hi0 : (0 : Int) ≤ (k : Int) := by omega
      have hi1 : (k : Int) < (n : Int) := by omega
      have hq1 : IntKind.i64.wrap (k : Int) = (k : Int) := IntWalk.i64_in _ (by omega)
      have HS := Lib.hid (show ∀ W, Below wo.heap.size wo W → W.cell? ⟨g, 3, none⟩ = some (.slice (some ⟨be, off, none⟩) n ce) ∧ W.cell? ⟨be, off + k * 6, none⟩ = some (.int .i64 (un : Int)) ∧ W.cell? ⟨be, off + k * 6 + 3, none⟩ = some (.int .i64 x4) from fun W hW => ⟨(k0r.ext hW).cell 3, (hW.cell (p := ⟨be, off + k * 6, none⟩) hbe).trans q0, (hW.cell (p := ⟨be, off + k * 6 + 3, none⟩) hbe).trans q3⟩)
      have hS := HS.out _ (below_drewN' wo.heap.size wo 1)
      have Hrg := Lib.hid hrg
      clear q0 q1 q2 q3 q4 q5 qf qb hLF hx hgetk hdg hLl hrg
      go_upto_region 5 with fail
      go_cut [5] from 14 to 27 (fun v5 wx => ∃ g5, v5 = .pointer (some ⟨g5, 0, none⟩) ∧ Hid (Blk wx g5 101 #[.string (bs dg), .slice none 0 0, .int .i64 x4] ∧ Below wo.heap.size wo wx ∧ wo.heap.size ≤ g5))
      case first =>
        refine wp_region_D (fun W => W.cell? ⟨g, 3, none⟩ = some (.slice (some ⟨be, off, none⟩) n ce) ∧ W.cell? ⟨be, off + k * 6, none⟩ = some (.int .i64 (un : Int)) ∧ W.cell? ⟨be, off + k * 6 + 3, none⟩ = some (.int .i64 x4)) (fun j => j == 15) (by kernel_rfl) ?_
        change anyD _ _ _ _ _ _ _ _ _ (wo.drewN 1)
        have hbc := below_drewN' wo.heap.size wo 1
        generalize wo.drewN 1 = V0 at hS hbc ⊢
        (refine anyD_light (i := 0) (v := ?_) rfl (by kernel_rfl) (by kernel_rfl) (by kernel_rfl) (by kernel_rfl) (by kernel_rfl) (fun _ _ _ h => h) (.inl ⟨by kernel_rfl, fun W9 hW9 => ?_⟩) hS ?_; rotate_left; · (obtain ⟨hw0, hw1, hw2⟩ := hW9; go_simp; rfl))
        (refine anyD_light (i := 1) (v := ?_) rfl (by kernel_rfl) (by kernel_rfl) (by kernel_rfl) (by kernel_rfl) (by kernel_rfl) (fun _ _ _ h => h) (.inl ⟨by kernel_rfl, fun W9 hW9 => ?_⟩) hS ?_; rotate_left; · (obtain ⟨hw0, hw1, hw2⟩ := hW9; go_simp; rfl))
        (refine anyD_light (i := 2) (v := ?_) rfl (by kernel_rfl) (by kernel_rfl) (by kernel_rfl) (by kernel_rfl) (by kernel_rfl) (fun _ _ _ h => h) (.inl ⟨by kernel_rfl, fun W9 hW9 => ?_⟩) hS ?_; rotate_left; · (obtain ⟨hw0, hw1, hw2⟩ := hW9; go_simp; rfl))
        (refine anyD_light (i := 3) (v := ?_) rfl (by kernel_rfl) (by kernel_rfl) (by kernel_rfl) (by kernel_rfl) (by kernel_rfl) (fun _ _ _ h => h) (.inl ⟨by kernel_rfl, fun W9 hW9 => ?_⟩) hS ?_; rotate_left; · (obtain ⟨hw0, hw1, hw2⟩ := hW9; go_simp; rfl))
        go_simp
        (refine anyD_light (i := 4) (v := ?_) rfl (by kernel_rfl) (by kernel_rfl) (by kernel_rfl) (by kernel_rfl) (by kernel_rfl) (fun _ _ _ h => h) (.inl ⟨by kernel_rfl, fun W9 hW9 => ?_⟩) hS ?_; rotate_left; · (obtain ⟨hw0, hw1, hw2⟩ := hW9; go_simp; rfl))
        (refine anyD_light (i := 5) (v := ?_) rfl (by kernel_rfl) (by kernel_rfl) (by kernel_rfl) (by kernel_rfl) (by kernel_rfl) (fun _ _ _ h => h) (.inl ⟨by kernel_rfl, fun W9 hW9 => ?_⟩) hS ?_; rotate_left; · (obtain ⟨hw0, hw1, hw2⟩ := hW9; go_simp; rfl))
        (refine anyD_light (i := 7) (v := ?_) rfl (by kernel_rfl) (by kernel_rfl) (by kernel_rfl) (by kernel_rfl) (by kernel_rfl) (fun _ _ _ h => h) (.inl ⟨by kernel_rfl, fun W9 hW9 => ?_⟩) hS ?_; rotate_left; · (obtain ⟨hw0, hw1, hw2⟩ := hW9; go_simp; rfl))
        (refine anyD_light (i := 8) (v := ?_) rfl (by kernel_rfl) (by kernel_rfl) (by kernel_rfl) (by kernel_rfl) (by kernel_rfl) (fun _ _ _ h => h) (.inl ⟨by kernel_rfl, fun W9 hW9 => ?_⟩) hS ?_; rotate_left; · (obtain ⟨hw0, hw1, hw2⟩ := hW9; go_simp; rfl))
        go_simp
        (refine anyD_light (i := 9) (v := ?_) rfl (by kernel_rfl) (by kernel_rfl) (by kernel_rfl) (by kernel_rfl) (by kernel_rfl) (fun _ _ _ h => h) (.inl ⟨by kernel_rfl, fun W9 hW9 => ?_⟩) hS ?_; rotate_left; · (obtain ⟨hw0, hw1, hw2⟩ := hW9; go_simp; rfl))
        (refine anyD_light (i := 10) (v := ?_) rfl (by kernel_rfl) (by kernel_rfl) (by kernel_rfl) (by kernel_rfl) (by kernel_rfl) (fun _ _ _ h => h) (.inl ⟨by kernel_rfl, fun W9 hW9 => ?_⟩) hS ?_; rotate_left; · (obtain ⟨hw0, hw1, hw2⟩ := hW9; go_simp; rfl))
        (refine anyD_light (i := 11) (v := ?_) rfl (by kernel_rfl) (by kernel_rfl) (by kernel_rfl) (by kernel_rfl) (by kernel_rfl) (fun _ _ _ h => h) (.inl ⟨by kernel_rfl, fun W9 hW9 => ?_⟩) hS ?_; rotate_left; · (obtain ⟨hw0, hw1, hw2⟩ := hW9; go_simp; rfl))
        (refine anyD_light (i := 12) (v := ?_) rfl (by kernel_rfl) (by kernel_rfl) (by kernel_rfl) (by kernel_rfl) (by kernel_rfl) (fun _ _ _ h => h) (.inl ⟨by kernel_rfl, fun W9 hW9 => ?_⟩) hS ?_; rotate_left; · (obtain ⟨hw0, hw1, hw2⟩ := hW9; go_simp; rfl))
        go_simp
        go_simp
        refine anyD_pick [6, 14] (by kernel_rfl) (by decide) ?_
        intro j hj
        simp only [List.mem_cons, List.not_mem_nil, or_false] at hj
        rcases hj with rfl | rfl
        · refine ⟨_, rfl, rfl, fun K hK => ?_⟩
          have HK := Lib.hid hK
          clear hK
          unfold Oper.wp
          go_simp
          refine (HD.out V0).mono ?_
          rintro e V' ⟨rfl, rfl⟩
          clear hS
          have hS := HS.out _ hbc
          refine HK.out _ _ (fun _ => hS) ?_
          clear HK
          (refine anyD_light (i := 13) (v := ?_) rfl (by kernel_rfl) (by kernel_rfl) (by kernel_rfl) (by kernel_rfl) (by kernel_rfl) (fun _ _ _ h => h) (.inl ⟨by kernel_rfl, fun W9 hW9 => ?_⟩) hS ?_; rotate_left; · (obtain ⟨hw0, hw1, hw2⟩ := hW9; go_simp; rfl))
          go_simp
          refine anyD_one (i := 14) (by kernel_rfl) rfl rfl (fun K hK => ?_)
          have HK := Lib.hid hK
          clear hK
          unfold Oper.wp
          go_simp
          obtain ⟨V2, g5, hV, hgg5, hss5, k5, hal⟩ := box1 V0 #[.string ⟨#[]⟩, .slice none 0 0, .int .i64 0] 101
          rw [hV, hgg5]
          have Hg5 : Hid (wo.heap.size ≤ g5) := Lib.hid (by have := hbc.size; omega)
          clear hV hgg5 hss5
          replace hbc := hbc.trans (hal.mono hbc.size)
          clear hal
          clear hS
          have hS := HS.out _ hbc
          refine HK.out _ _ (fun _ => hS) ?_
          clear HK
          go_simp
          obtain ⟨W, hW⟩ : ∃ W, ((V2.setCell ⟨g5, 0, none⟩ (.string (bs dg))).setCell ⟨g5, 1, none⟩ (.slice none 0 0)).setCell ⟨g5, 2, none⟩ (.int .i64 x4) = W := ⟨_, rfl⟩
          have hTq : Turned g5 V2 W := by rw [← hW]; exact (((Turned.refl g5 _).set 0 _).set 1 _).set 2 _
          have k5W : Blk W g5 101 #[.string (bs dg), .slice none 0 0, .int .i64 x4] := by rw [← hW]; simpa using (((k5.set_ 0 (.string (bs dg))).set_ 1 (.slice none 0 0)).set_ 2 (.int .i64 x4))
          have Hfin := Lib.hid (And.intro k5W (And.intro (hbc.trans (hTq.rest _ Hg5.out)) Hg5.out))
          have m0 := k5.cell 0; have m1 := k5.cell 1; have m2 := k5.cell 2; have z0 := k5.frozen 0; have z1 := k5.frozen 1; have z2 := k5.frozen 2; have xl := k5.lt
          clear k5W hTq k5 hbc
          go_simp
          refine anyD_one (i := 15) (by kernel_rfl) rfl rfl (fun K hK => ?_)
          have HK := Lib.hid hK
          clear hK
          unfold Oper.wp
          go_simp
          try rw [hW]
          refine HK.out _ _ (fun h => by cases h) ?_
          clear HK
          go_simp
          refine anyD_done (by kernel_rfl) ?_ _
          clear m0 m1 m2 z0 z1 z2 xl hS
          go_wp2
          go_meet
          exact ⟨g5, rfl, Hfin⟩
        · refine ⟨_, rfl, rfl, fun K hK => ?_⟩
          have HK := Lib.hid hK
          clear hK
          unfold Oper.wp
          go_simp
          obtain ⟨V1, g5, hV, hgg5, hss5, k5, hal⟩ := box1 V0 #[.string ⟨#[]⟩, .slice none 0 0, .int .i64 0] 101
          rw [hV, hgg5]
          have Hg5 : Hid (wo.heap.size ≤ g5) := Lib.hid (by have := hbc.size; omega)
          clear hV hgg5 hss5
          replace hbc := hbc.trans (hal.mono hbc.size)
          clear hal
          clear hS
          have hS := HS.out _ hbc
          refine HK.out _ _ (fun _ => hS) ?_
          clear HK
          go_simp
          refine anyD_one (i := 6) (by kernel_rfl) rfl rfl (fun K hK => ?_)
          have HK := Lib.hid hK
          clear hK
          unfold Oper.wp
          go_simp
          refine (HD.out V1).mono ?_
          rintro e V' ⟨rfl, rfl⟩
          clear hS
          have hS := HS.out _ hbc
          refine HK.out _ _ (fun _ => hS) ?_
          clear HK
          (refine anyD_light (i := 13) (v := ?_) rfl (by kernel_rfl) (by kernel_rfl) (by kernel_rfl) (by kernel_rfl) (by kernel_rfl) (fun _ _ _ h => h) (.inl ⟨by kernel_rfl, fun W9 hW9 => ?_⟩) hS ?_; rotate_left; · (obtain ⟨hw0, hw1, hw2⟩ := hW9; go_simp; rfl))
          go_simp
          obtain ⟨W, hW⟩ : ∃ W, ((V1.setCell ⟨g5, 0, none⟩ (.string (bs dg))).setCell ⟨g5, 1, none⟩ (.slice none 0 0)).setCell ⟨g5, 2, none⟩ (.int .i64 x4) = W := ⟨_, rfl⟩
          have hTq : Turned g5 V1 W := by rw [← hW]; exact (((Turned.refl g5 _).set 0 _).set 1 _).set 2 _
          have k5W : Blk W g5 101 #[.string (bs dg), .slice none 0 0, .int .i64 x4] := by rw [← hW]; simpa using (((k5.set_ 0 (.string (bs dg))).set_ 1 (.slice none 0 0)).set_ 2 (.int .i64 x4))
          have Hfin := Lib.hid (And.intro k5W (And.intro (hbc.trans (hTq.rest _ Hg5.out)) Hg5.out))
          have m0 := k5.cell 0; have m1 := k5.cell 1; have m2 := k5.cell 2; have z0 := k5.frozen 0; have z1 := k5.frozen 1; have z2 := k5.frozen 2; have xl := k5.lt
          clear k5W hTq k5 hbc
          go_simp
          refine anyD_one (i := 15) (by kernel_rfl) rfl rfl (fun K hK => ?_)
          have HK := Lib.hid hK
          clear hK
          unfold Oper.wp
          go_simp
          try rw [hW]
          refine HK.out _ _ (fun h => by cases h) ?_
          clear HK
          go_simp
          refine anyD_done (by kernel_rfl) ?_ _
          clear m0 m1 m2 z0 z1 z2 xl hS
          go_wp2
          go_meet
          exact ⟨g5, rfl, Hfin⟩
      case rest =>
        obtain ⟨g5, rfl, hX⟩ := hcut
        clear hS
        obtain ⟨k5, hbw, hg5⟩ := hX.out
        have hzc := hbw.size
        have hg5c := k5.lt
        have ownc := own.ext hbw
        have k0c := k0r.ext hbw
        have HX := Lib.hid k5
        clear hX
        go_wp2_with fail
        obtain ⟨wd, rfl⟩ : ∃ W0, W0 = wc := ⟨_, rfl⟩
        have d1 := k5.cell 1
        go_loopw [6] (fun i wr => ∃ (m : Nat) (Ar : Option Addr) (cr : Nat) (R : List Str), m ≤ k ∧ i = .int .i64 (m : Int) ∧ Hid (R = (Mb.fl b.es m x3).map fun e => Mb.digF e.1) ∧ R.length ≤ 30 ∧ Hid (Blk wr g5 101 #[.string (bs dg), .slice Ar R.length cr, .int .i64 x4]) ∧ Own strC M0 wr wd.heap.size 9 (.slice Ar R.length cr) R ∧ Below wo.heap.size wo wr ∧ wd.heap.size ≤ wr.heap.size) (fun i _ => k - (intOf i).toNat)
        case atStart => exact ⟨0, none, 0, [], Nat.zero_le _, rfl, Lib.hid (by simp [Mb.fl]), by simp, HX, Own.nil _ _ _ _ _, hbw, Nat.le_refl _⟩
        case round =>
          obtain ⟨m, Ar, cr, R, hm, rfl, hR, hRl, hk5, ownR, hbm, hzm⟩ := hrel
          clear d1
          have k0m := k0r.ext hbm
          have c3m := k0m.cell 3
          have d0 := hk5.out.cell 0
          have d1 := hk5.out.cell 1
          have d2 := hk5.out.cell 2
          by_cases hmk : m < k
          · have hmi : (m : Int) < (k : Int) := by omega
            by_cases hR3 : R.length < 30
            · have hRi : (R.length : Int) < 30 := by omega
              have hltm : m < b.es.length := by rw [← Hn.out]; omega
              have hem2 := (he0.ext (hbr.trans (hbm.mono hzr))).entAt hltm
              have hek2 := (he0.ext (hbr.trans (hbm.mono hzr))).entAt (show k < b.es.length by rw [← Hn.out]; exact hlt)
              obtain ⟨be1, off1, _, _, _, _, e1, _, hbe1, r0, r1, r2, r3, r4, r5, r6, r7⟩ := hem2
              obtain ⟨be2, off2, _, _, _, _, e2, _, _, s0, s1, s2, s3, s4, s5, s6, s7⟩ := hek2
              cases e1
              cases e2
              have hrgm := Hb9.out _ (List.getElem_mem hltm)
              rw [← Hx.out] at s2
              obtain ⟨y, hy⟩ : ∃ y, y = b.es[m] := ⟨_, rfl⟩
              rw [← hy] at r0 r1 r2 r3 hrgm
              obtain ⟨y1, y2, y3, y4, yf, yb⟩ := y
              dsimp only at r0 r1 r2 r3 s2 hrgm
              have hj0 : (0 : Int) ≤ (m : Int) := by omega
              have hj1 : (m : Int) < (n : Int) := by omega
              have hq2 : IntKind.i64.wrap (m : Int) = (m : Int) := IntWalk.i64_in _ (by omega)
              have Hmm := Lib.hid (And.intro hltm hy)
              obtain ⟨vn, rfl⟩ : ∃ vn : Nat, y1 = (vn : Int) := ⟨y1.toNat, by omega⟩
              have hvn : vn ≤ 1000000 := by omega
              have hbm0 := hbm
              have hbL : be < wr.heap.size := Nat.lt_of_lt_of_le hbe hbm.size
              have HE := Lib.hid (digits_ok vn hvn)
              have Hr0 := Lib.hid ((hbm0.cell (p := ⟨be, off + m * 6, none⟩) hbe).symm.trans r0)
              have HSm := Lib.hid (show ∀ W, Below wr.heap.size wr W → W.cell? ⟨g5, 1, none⟩ = some (.slice Ar R.length cr) ∧ W.cell? ⟨g, 3, none⟩ = some (.slice (some ⟨be, off, none⟩) n ce) ∧ W.cell? ⟨be, off + m * 6, none⟩ = some (.int .i64 (vn : Int)) from fun W hW => ⟨(hk5.out.ext hW).cell 1, (k0m.ext hW).cell 3, (hW.cell (p := ⟨be, off + m * 6, none⟩) hbL).trans r0⟩)
              clear r4 r5 r6 r7 s0 s1 s3 s4 s5 s6 s7 hrgm hy r0 r1 r3 hbe1 d0 d2
              by_cases hf : y3 = x3
              · have hff : (y3 == x3) = true := by simp [hf]
                obtain ⟨dm, hdm⟩ : ∃ d, d = Lib.decDigits vn := ⟨_, rfl⟩
                have hdml : dm.length ≤ 7 := by rw [hdm, Lib.decDigits_length]; exact Mb.nDigits_le 7 _ (by omega) (by omega)
                have HR2 := Lib.hid (show R ++ [dm] = (Mb.fl b.es (m + 1) x3).map fun e => Mb.digF e.1 by rw [Mb.fl_yes Hmm.out.1 (by rw [← Hmm.out.2]; exact hff), List.map_append, ← hR.out, ← Hmm.out.2, hdm]; rfl)
                rw [← hdm] at HE
                clear hf hdm
                go_wp2_with fail
                go_quiet (fail)
                have hbq := below_drewN' wr.heap.size wr nq
                generalize wr.drewN nq = Wq at hbq ⊢
                clear c3m d1
                go_wp2_with fail
                refine wp_region_D (fun W => W.cell? ⟨g5, 1, none⟩ = some (.slice Ar R.length cr) ∧ W.cell? ⟨g, 3, none⟩ = some (.slice (some ⟨be, off, none⟩) n ce) ∧ W.cell? ⟨be, off + m * 6, none⟩ = some (.int .i64 (vn : Int))) (fun j => j == 12) (by kernel_rfl) ?_
                change anyD _ _ _ _ _ _ _ _ _ (Wq.drewN 1)
                have hbV := below2 hbq (below_drewN' Wq.heap.size Wq 1)
                generalize Wq.drewN 1 = V0 at hbV ⊢
                have hS := HSm.out V0 hbV
                (refine anyD_light (i := 0) (v := ?_) rfl (by kernel_rfl) (by kernel_rfl) (by kernel_rfl) (by kernel_rfl) (by kernel_rfl) (fun _ _ _ h => h) (.inl ⟨by kernel_rfl, fun W9 hW9 => ?_⟩) hS ?_; rotate_left; · (obtain ⟨hw0, hw1, hw2⟩ := hW9; go_simp; rfl))
                (refine anyD_light (i := 1) (v := ?_) rfl (by kernel_rfl) (by kernel_rfl) (by kernel_rfl) (by kernel_rfl) (by kernel_rfl) (fun _ _ _ h => h) (.inl ⟨by kernel_rfl, fun W9 hW9 => ?_⟩) hS ?_; rotate_left; · (obtain ⟨hw0, hw1, hw2⟩ := hW9; go_simp; rfl))
                (refine anyD_light (i := 2) (v := ?_) rfl (by kernel_rfl) (by kernel_rfl) (by kernel_rfl) (by kernel_rfl) (by kernel_rfl) (fun _ _ _ h => h) (.inl ⟨by kernel_rfl, fun W9 hW9 => ?_⟩) hS ?_; rotate_left; · (obtain ⟨hw0, hw1, hw2⟩ := hW9; go_simp; rfl))
                (refine anyD_light (i := 3) (v := ?_) rfl (by kernel_rfl) (by kernel_rfl) (by kernel_rfl) (by kernel_rfl) (by kernel_rfl) (fun _ _ _ h => h) (.inl ⟨by kernel_rfl, fun W9 hW9 => ?_⟩) hS ?_; rotate_left; · (obtain ⟨hw0, hw1, hw2⟩ := hW9; go_simp; rfl))
                (refine anyD_light (i := 4) (v := ?_) rfl (by kernel_rfl) (by kernel_rfl) (by kernel_rfl) (by kernel_rfl) (by kernel_rfl) (fun _ _ _ h => h) (.inl ⟨by kernel_rfl, fun W9 hW9 => ?_⟩) hS ?_; rotate_left; · (obtain ⟨hw0, hw1, hw2⟩ := hW9; go_simp; rfl))
                (refine anyD_light (i := 5) (v := ?_) rfl (by kernel_rfl) (by kernel_rfl) (by kernel_rfl) (by kernel_rfl) (by kernel_rfl) (fun _ _ _ h => h) (.inl ⟨by kernel_rfl, fun W9 hW9 => ?_⟩) hS ?_; rotate_left; · (obtain ⟨hw0, hw1, hw2⟩ := hW9; go_simp; rfl))
                go_simp
                (refine anyD_light (i := 6) (v := ?_) rfl (by kernel_rfl) (by kernel_rfl) (by kernel_rfl) (by kernel_rfl) (by kernel_rfl) (fun _ _ _ h => h) (.inl ⟨by kernel_rfl, fun W9 hW9 => ?_⟩) hS ?_; rotate_left; · (obtain ⟨hw0, hw1, hw2⟩ := hW9; go_simp; rfl))
                (refine anyD_light (i := 7) (v := ?_) rfl (by kernel_rfl) (by kernel_rfl) (by kernel_rfl) (by kernel_rfl) (by kernel_rfl) (fun _ _ _ h => h) (.inl ⟨by kernel_rfl, fun W9 hW9 => ?_⟩) hS ?_; rotate_left; · (obtain ⟨hw0, hw1, hw2⟩ := hW9; go_simp; rfl))
                go_simp
                refine anyD_one (i := 8) (by kernel_rfl) rfl rfl (fun K hK => ?_)
                have HK := Lib.hid hK
                clear hK
                clear hS
                unfold Oper.wp
                go_simp
                refine (HE.out V0).mono ?_
                rintro e V' ⟨rfl, rfl⟩
                have hS := HSm.out V0 hbV
                refine HK.out _ _ (fun _ => hS) ?_
                clear HK
                go_simp
                refine anyD_one (i := 9) (by kernel_rfl) rfl rfl (fun K hK => ?_)
                have HK := Lib.hid hK
                clear hK
                clear hS
                unfold Oper.wp
                go_simp
                have ownV := ownR.ext hbV
                have xr : SlR strC (fun x => M0 x ∨ (Value.slice Ar R.length cr).ownBlock = some x) (V0.alloc (.cells #[.string (bs dm)] 9)) (.slice (some ⟨V0.heap.size, 0, none⟩) 1 1) [dm] := SlR.built (C := strC) (cs := [.string (bs dm)]) 9 ⟨rfl, by unfold maxLen; omega⟩ fun x hx => hx.elim (fun h => h.elim) fun h => ownV.lt x h
                have hal : Below V0.heap.size V0 (V0.alloc (.cells #[.string (bs dm)] 9)) := (Below.refl _ _).alloc (Nat.le_refl _) _
                generalize hV3 : V0.alloc (.cells #[.string (bs dm)] 9) = V3 at xr hal ⊢
                have own3 := ownV.ext hal
                have hb3 := below2 hbV hal
                have hz3 : wd.heap.size ≤ V3.heap.size := Nat.le_trans hzm hb3.size
                have k53 := hk5.out.ext hb3
                have hS := HSm.out V3 hb3
                refine HK.out _ _ (fun _ => hS) ?_
                clear HK
                go_simp
                refine anyD_one (i := 10) (by kernel_rfl) rfl rfl (fun K hK => ?_)
                have HK := Lib.hid hK
                clear hK
                clear hS
                refine wp_append_Own strC (M := M0) (v := .slice Ar R.length cr) (l := R) (l' := [dm]) TStrs (.tmp 53) (.tmp 61) rfl rfl own3 rfl xr (by simp only [maxLen, List.length_cons, List.length_nil]; omega) (by simp only [List.length_cons, List.length_nil]; omega) hz3 ?_
                intro A4 c4 L4 V4 hL4 own4 hbl4 hgr4 hor4
                have k54 := k53.keep (hbl4.block g5 hg5c)
                have hb4 : Below wo.heap.size wr V4 := (hb3.mono hbm.size).trans (hbl4.mono hzc)
                have hz4 : wd.heap.size ≤ V4.heap.size := Nat.le_trans hz3 hbl4.size
                have hS := (show V4.cell? ⟨g5, 1, none⟩ = some (.slice Ar R.length cr) ∧ V4.cell? ⟨g, 3, none⟩ = some (.slice (some ⟨be, off, none⟩) n ce) ∧ V4.cell? ⟨be, off + m * 6, none⟩ = some (.int .i64 (vn : Int)) from ⟨k54.cell 1, (k0r.keep ((hbm.trans hb4).block g (k0r.lt))).cell 3, (((hbm.trans hb4)).cell (p := ⟨be, off + m * 6, none⟩) hbe).trans Hr0.out⟩)
                refine HK.out _ _ (fun _ => hS) ?_
                clear HK
                (refine anyD_light (i := 11) (v := ?_) rfl (by kernel_rfl) (by kernel_rfl) (by kernel_rfl) (by kernel_rfl) (by kernel_rfl) (fun _ _ _ h => h) (.inl ⟨by kernel_rfl, fun W9 hW9 => ?_⟩) hS ?_; rotate_left; · (obtain ⟨hw0, hw1, hw2⟩ := hW9; go_simp; rfl))
                go_simp
                refine anyD_one (i := 12) (by kernel_rfl) rfl rfl (fun K hK => ?_)
                have HK := Lib.hid hK
                clear hK
                have x1 := k54.frozen 1; have xl := k54.lt; have y1 := k54.cell 1
                have hT5 : Turned g5 V4 (V4.setCell ⟨g5, 1, none⟩ (.slice A4 L4.length c4)) := (Turned.refl g5 V4).set 1 _
                have k55 : Blk (V4.setCell ⟨g5, 1, none⟩ (.slice A4 L4.length c4)) g5 101 #[.string (bs dg), .slice A4 L4.length c4, .int .i64 x4] := by simpa using k54.set_ 1 (.slice A4 L4.length c4)
                unfold Oper.wp
                go_simp
                refine HK.out _ _ (fun h => by cases h) ?_
                clear HK
                go_simp
                refine anyD_done (by kernel_rfl) ?_ _
                have own5 := own_turnS own4 hT5 (fun x hx e => by have := own4.base x hx; omega)
                have hb5 : Below wo.heap.size wo (V4.setCell ⟨g5, 1, none⟩ (.slice A4 L4.length c4)) := (hbm.trans hb4).trans (hT5.rest _ hg5)
                have hz5 : wd.heap.size ≤ (V4.setCell ⟨g5, 1, none⟩ (.slice A4 L4.length c4)).heap.size := by have h1 := hT5.size; omega
                generalize V4.setCell ⟨g5, 1, none⟩ (.slice A4 L4.length c4) = V5 at k55 own5 hb5 hz5 ⊢
                have HL4 := Lib.hid (show L4 = (Mb.fl b.es (m + 1) x3).map fun e => Mb.digF e.1 by rw [hL4.out]; exact HR2.out)
                have hL4l : L4.length ≤ 30 := by rw [hL4.out]; simp only [List.length_append, List.length_cons, List.length_nil]; omega
                have Hk55 := Lib.hid k55
                clear hT5 hL4 k54 own4 k53 own3 xr hb4 hz4 hbl4 hgr4 hor4 hS x1 xl y1 hV3 hal hb3 hz3 ownV k55 hbV hbq
                go_wp2
                go_roundw
                case rel => exact ⟨m + 1, A4, c4, L4, by omega, by go_num, HL4, hL4l, Hk55, own5, hb5, hz5⟩
                case measure => simp [intOf]; omega
              · have hff : (y3 == x3) = false := by simpa using hf
                have HR2 := Lib.hid (show R = (Mb.fl b.es (m + 1) x3).map fun e => Mb.digF e.1 by rw [Mb.fl_no Hmm.out.1 (by rw [← Hmm.out.2]; exact hff)]; exact hR.out)
                clear hf
                go_wp2_with fail
                go_quiet (fail)
                have hbq := below_drewN' wr.heap.size wr nq
                generalize wr.drewN nq = Wq at hbq ⊢
                have Hk5 := Lib.hid (hk5.out.ext hbq); have ownq := ownR.ext hbq; have hbmq := hbm.trans (hbq.mono hbm.size)
                have hzq : wd.heap.size ≤ Wq.heap.size := Nat.le_trans hzm hbq.size
                clear hk5 ownR hbq
                go_wp2
                go_roundw
                case rel => exact ⟨m + 1, Ar, cr, R, by omega, by go_num, HR2, hRl, Hk5, ownq, hbmq, hzq⟩
                case measure => simp [intOf]; omega
            · have hRi : ¬ (R.length : Int) < 30 := by omega
              have HRF := Lib.hid (Mb.refs_done hR.out hRl hm (.inr (by omega)))
              have e0 := hk5.out.cell 0; have e1 := hk5.out.cell 1; have e2 := hk5.out.cell 2
              have ownx := own.ext hbm
              have hzx : w0.heap.size ≤ wr.heap.size := Nat.le_trans hzr hbm.size
              have hrd : letterC.rd (fun x => M0 x ∨ (Value.slice A L.length c).ownBlock = some x) wr [.string (bs dg), .slice Ar R.length cr, .int .i64 x4] (dg, R, x4) := ⟨[.string (bs dg)], [.slice Ar R.length cr, .int .i64 x4], rfl, ⟨rfl, by dsimp only; unfold maxLen; omega⟩, ⟨[.slice Ar R.length cr], [.int .i64 x4], rfl, ⟨_, rfl, own_freeR free_str ownR fun x hx => hx.elim (fun h => h.elim) fun h => by have := own.lt x h; omega⟩, ⟨rfl, Hrg.out.2⟩⟩⟩
              have Hb := Lib.hid hbm
              have Hrd := Lib.hid hrd
              clear hR hk5 own ownR hbm hrd d1 d0 d2 ownc
              go_wp2_with (at_builtin; refine wpList_push_Own letterC (M := M0) (B := w0.heap.size) TLets rfl (.tmp 64) (.tmp 66) rfl rfl ownx rfl (cs := [.string (bs dg), .slice Ar R.length cr, .int .i64 x4]) (y := (dg, R, x4)) Hrd.out (fun _ h => h.elim) ?a1 ?b1 hzx ?_)
              case a1 => have := HLl.out; unfold maxLen; omega
              case b1 => have := HLl.out; omega
              intro A9 c9 L9 w9 hL9 own9 hb9 hg9 hor9
              have HL9 := Lib.hid (show L9 = (List.range (k + 1)).map (Mb.letterF b.es) by rw [hL9.out, hL.out, List.range_succ, List.map_append, HRF.out]; show _ ++ [_] = _ ++ [_]; rw [HLF.out])
              have hbf := hbr.trans ((Hb.out.mono hzr).trans hb9)
              clear ownx hL9 hb9 hg9 hor9
              go_wp2
              go_roundw
              case rel => exact ⟨k + 1, A9, c9, L9, by omega, by go_num, rfl, HL9, own9, hbf⟩
              case measure => simp [intOf]; omega
          · have hmi : ¬ (m : Int) < (k : Int) := by omega
            have HRF := Lib.hid (Mb.refs_done hR.out hRl hm (.inl (by omega)))
            have e0 := hk5.out.cell 0; have e1 := hk5.out.cell 1; have e2 := hk5.out.cell 2
            have ownx := own.ext hbm
            have hzx : w0.heap.size ≤ wr.heap.size := Nat.le_trans hzr hbm.size
            have hrd : letterC.rd (fun x => M0 x ∨ (Value.slice A L.length c).ownBlock = some x) wr [.string (bs dg), .slice Ar R.length cr, .int .i64 x4] (dg, R, x4) := ⟨[.string (bs dg)], [.slice Ar R.length cr, .int .i64 x4], rfl, ⟨rfl, by dsimp only; unfold maxLen; omega⟩, ⟨[.slice Ar R.length cr], [.int .i64 x4], rfl, ⟨_, rfl, own_freeR free_str ownR fun x hx => hx.elim (fun h => h.elim) fun h => by have := own.lt x h; omega⟩, ⟨rfl, Hrg.out.2⟩⟩⟩
            have Hb := Lib.hid hbm
            have Hrd := Lib.hid hrd
            clear hR hk5 own ownR hbm hrd d1 d0 d2 ownc
            go_wp2_with (at_builtin; refine wpList_push_Own letterC (M := M0) (B := w0.heap.size) TLets rfl (.tmp 64) (.tmp 66) rfl rfl ownx rfl (cs := [.string (bs dg), .slice Ar R.length cr, .int .i64 x4]) (y := (dg, R, x4)) Hrd.out (fun _ h => h.elim) ?a1 ?b1 hzx ?_)
            case a1 => have := HLl.out; unfold maxLen; omega
            case b1 => have := HLl.out; omega
            intro A9 c9 L9 w9 hL9 own9 hb9 hg9 hor9
            have HL9 := Lib.hid (show L9 = (List.range (k + 1)).map (Mb.letterF b.es) by rw [hL9.out, hL.out, List.range_succ, List.map_append, HRF.out]; show _ ++ [_] = _ ++ [_]; rw [HLF.out])
            have hbf := hbr.trans ((Hb.out.mono hzr).trans hb9)
            clear ownx hL9 hb9 hg9 hor9
            go_wp2
            go_roundw
            case rel => exact ⟨k + 1, A9, c9, L9, by omega, by go_num, rfl, HL9, own9, hbf⟩
            case measure => simp [intOf]; omega
    · have hlt : ¬ (k : Int) < (n : Int) := by omega
      have hkn : k = n := by omega
      have hLf : L = Mb.lettersB b.es := by rw [hL.out, hkn, Hn.out]; rfl
      have HLf := Lib.hid hLf
      have Hown := Lib.hid own
      clear hL hLf own
      go_wp2_with fail
      go_ret
      refine ⟨_, rfl, ?_, hg ▸ below2 hb0 hbr⟩
      rw [← HLf.out]
      exact own_lower Hown.out (hg ▸ hb0.size)
end Go.Proofs.YtjamjkjmlckgeaaGreatDoor
