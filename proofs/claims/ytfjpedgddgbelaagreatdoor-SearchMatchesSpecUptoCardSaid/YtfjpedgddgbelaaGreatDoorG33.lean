/-
  Contracts and plain facts, one after another: The reference's Found; The law's plain: an index of small places and plain words.
-/
import Derived.Test.YtfjpedgddgbelaaGreatDoorSrDo
import Derived.Test.YtfjpedgddgbelaaGreatDoorSrMa
import Derived.Test.YtfjpedgddgbelaaGreatDoorG23
import Derived.Test.YtfjpedgddgbelaaGreatDoorG31
import Derived.Test.YtfjpedgddgbelaaGreatDoorIxB
namespace Go.Proofs.YtfjpedgddgbelaaGreatDoor
open Go.RowKit
set_option linter.unusedVariables false
theorem filter_step {α : Type} (p : α → Bool) {l : List α} {m : Nat} (h : m < l.length) : (l.take (m + 1)).filter p = (l.take m).filter p ++ (if p l[m] then [l[m]] else []) := by
  rw [List.take_succ_eq_append_getElem h, List.filter_append]
  congr 1
  cases hp : p l[m] <;> simp [hp]
set_option maxRecDepth 100000 in
set_option maxHeartbeats 8000000 in
theorem refFound_ok (a b qv : Value) (ids : List Int) (ts : List Ix.Term) (f : Nat) (q : Q) (w : World) (h0 : SlR intC M0 w a ids) (h1 : SlR termC M0 w b ts) (hpos : ∀ t ∈ ts, ∀ p ∈ t.2, ∀ n ∈ p.2, 0 ≤ n) (hn : ids.length ≤ 1048576) (hK : Sr.costT ts ≤ 4000000000000) (hv : ∀ t ∈ ts, t.1.length ≤ 1048576) (hq : QAt f M0 w qv q) (hbk : q.bulk ≤ 1048576) (hgd : Good (f + 1) q) :
    Calls Tryz.prog 36 #[.agg #[a, b], qv] w fun e w' => ∃ (A : Option Addr) (c : Nat) (L : List Int), e = .returned (.slice A L.length c) ∧ Hid (L = ids.filter fun id => Sr.matchesF (f + 1) q (Sr.docF (ids, ts) id)) ∧ Own intC M0 w' w.heap.size 3 (.slice A L.length c) L ∧ Below w.heap.size w w' := by
  obtain ⟨A0, c0, rfl, _, _⟩ := h0.form
  obtain ⟨A1, c1, rfl, _, _⟩ := h1.form
  have hqv := hq
  obtain ⟨Aq, cq, rfl, _, _, _, _⟩ := hq
  obtain ⟨ql, hql⟩ : ∃ n, q.parts.length = n := ⟨_, rfl⟩
  rw [hql] at hqv ⊢
  obtain ⟨W0, g, hW, hg, hs, kx, kq, hal⟩ := boxPair w #[.slice A0 ids.length c0, .slice A1 ts.length c1] 25 #[.int .i64 q.kind, .string (bs q.text), .int .i64 q.num, .slice Aq ql cq] 50
  replace h0 := h0.ext hal
  replace h1 := h1.ext hal
  replace hqv := hqv.ext hal
  obtain ⟨x0, x1, _⟩ := kx.two
  obtain ⟨p0, p1, p2, p3, _⟩ := kq.four
  rw [← hW] at x0 x1 p0 p1 p2 p3
  have hd := docs_ok _ _ ids ts W0 h0 h1 hpos hn hK hv
  have HW := Lib.hid hW; have Hd := Lib.hid hd; have Hq := Lib.hid (And.intro kx (And.intro kq (And.intro hal hqv))); have Hg := Lib.hid hgd
  have HK := Lib.hid hK
  clear hW hs hql hd hpos hv h1 hqv kx kq hal hgd hK
  go_enter Tryz.func36, Tryz.ntmps36
  go_wp2_with fail
  rw [HW.out]
  clear x0 x1 p0 p1 p2 p3
  refine Hd.out.mono ?_
  rintro e w1 ⟨Ad, cd, Ld, rfl, hLd, ownd, hb1⟩
  have hLdl : Ld.length = ids.length := by rw [hLd.out, List.length_map]
  have rd := ownd.read0
  rw [hLdl] at rd ⊢
  clear ownd Hd
  go_wp2_with fail
  go_loopw [6, 7] (fun ov iv wr => ∃ (i : Nat) (A : Option Addr) (c : Nat) (L : List Int), i ≤ ids.length ∧ iv = .int .i64 (i : Int) ∧ ov = .slice A L.length c ∧ Hid (L = (ids.take i).filter fun id => Sr.matchesF (f + 1) q (Sr.docF (ids, ts) id)) ∧ L.length ≤ i ∧ Own intC M0 wr w1.heap.size 3 (.slice A L.length c) L ∧ Below w1.heap.size w1 wr) (fun _ iv _ => ids.length - (intOf iv).toNat)
  case atStart => exact ⟨0, none, 0, [], Nat.zero_le _, rfl, rfl, Lib.hid rfl, Nat.zero_le _, Own.nil _ _ _ _ _, Below.refl _ _⟩
  case round =>
    obtain ⟨i, A, c, L, hi, rfl, rfl, hL, hLl, own, hb⟩ := hrel
    obtain ⟨wi, rfl⟩ : ∃ W, W = wr := ⟨_, rfl⟩
    have hb0 : Below W0.heap.size W0 wi := hb1.trans (hb.mono hb1.size)
    obtain ⟨x0, x1, _⟩ := (Hq.out.1.ext hb0).two
    have hi0 : (0 : Int) ≤ (i : Int) := by omega
    by_cases hlt : i < ids.length
    · have hii : (i : Int) < (ids.length : Int) := by omega
      obtain ⟨bi, oi, rfl, _, hbi, u0, hz1, hz2⟩ := (h0.ext hb0).intAt hlt
      obtain ⟨bd, od, A8, c8, rfl, _, hbd, v0, hrow⟩ := (rd.ext hb).sliceAt (k := i) (by omega)
      have hst := filter_step (fun id => Sr.matchesF (f + 1) q (Sr.docF (ids, ts) id)) hlt
      have hde : Ld[i]'(by omega) = Sr.docF (ids, ts) ids[i] := by simp [hLd.out]
      rw [hde] at v0 hrow
      obtain ⟨id, hid⟩ : ∃ id, id = ids[i] := ⟨_, rfl⟩
      rw [← hid] at u0 hst v0 hrow hz1 hz2
      have hdt := Sr.doc_tot (ids, ts) id
      dsimp only at hdt
      have hdl := Sr.doc_len (ids, ts) id
      obtain ⟨D, hD⟩ : ∃ D, Sr.docF (ids, ts) id = D := ⟨_, rfl⟩
      rw [hD] at hdt hdl v0 hrow hst
      obtain ⟨dl, hdl2⟩ : ∃ n, D.length = n := ⟨_, rfl⟩
      have hS0 : ∀ W, Below wi.heap.size wi W → W.cell? ⟨g + 1, 0, none⟩ = some (.int .i64 q.kind) ∧ W.cell? ⟨g + 1, 1, none⟩ = some (.string (bs q.text)) ∧ W.cell? ⟨g + 1, 2, none⟩ = some (.int .i64 q.num) ∧ W.cell? ⟨g + 1, 3, none⟩ = some (.slice Aq ql cq) ∧ W.cell? ⟨bd, od + i, none⟩ = some (.slice A8 dl c8) := fun W hbW => by
        obtain ⟨y0, y1, y2, y3, _⟩ := ((Hq.out.2.1.ext hb0).ext hbW).four
        exact ⟨y0, y1, y2, y3, (hbW.cell hbd).trans (by rw [← hdl2]; exact v0)⟩
      have HS := Lib.hid hS0
      have hbr := fun W (hbW : Below wi.heap.size wi W) => matches_ok f q _ (.slice A8 D.length c8) D W (Hq.out.2.2.2.ext (hb0.trans (hbW.mono hb0.size))) hbk Hg.out (hrow.ext hbW) (fun s hs => by have := Sr.tot_mem hs; have := HK.out; omega) hdl
      rw [hdl2] at hbr
      obtain ⟨r, hr⟩ : ∃ r, Sr.matchesF (f + 1) q D = r := ⟨_, rfl⟩
      simp only [hr] at hbr hst
      have Hc := Lib.hid hbr; have Hst := Lib.hid hst; have Hown := Lib.hid own; have Hb := Lib.hid hb; have Hu := Lib.hid (And.intro u0 hbi); have Hx := Lib.hid (Hq.out.1.ext hb0)
      have hS := HS.out (wi.drewN 1) (below_drewN' _ _ _)
      clear hbr hst own hb u0 hbi hS0 v0 hrow hde hD hdl2 hdt hr hid hb0
      go_wp2_with fail
      clear x0 x1
      refine wp_region_D (fun W => W.cell? ⟨g + 1, 0, none⟩ = some (.int .i64 q.kind) ∧ W.cell? ⟨g + 1, 1, none⟩ = some (.string (bs q.text)) ∧ W.cell? ⟨g + 1, 2, none⟩ = some (.int .i64 q.num) ∧ W.cell? ⟨g + 1, 3, none⟩ = some (.slice Aq ql cq) ∧ W.cell? ⟨bd, od + i, none⟩ = some (.slice A8 dl c8)) (fun _ => false) (by kernel_rfl) ?_
      change anyD _ _ _ _ _ _ _ _ _ (wi.drewN 1)
      have hbV := below_drewN' wi.heap.size wi 1
      generalize wi.drewN 1 = V0 at hS hbV ⊢
      (refine anyD_light (i := 0) (v := ?_) rfl (by kernel_rfl) (by kernel_rfl) (by kernel_rfl) (by kernel_rfl) (by kernel_rfl) (fun _ _ _ h => h) (.inl ⟨by kernel_rfl, fun W9 hW9 => ?_⟩) hS ?_; rotate_left; · (obtain ⟨hw0, hw1, hw2, hw3, hw4⟩ := hW9; go_simp; rfl))
      (refine anyD_light (i := 1) (v := ?_) rfl (by kernel_rfl) (by kernel_rfl) (by kernel_rfl) (by kernel_rfl) (by kernel_rfl) (fun _ _ _ h => h) (.inl ⟨by kernel_rfl, fun W9 hW9 => ?_⟩) hS ?_; rotate_left; · (obtain ⟨hw0, hw1, hw2, hw3, hw4⟩ := hW9; go_simp; rfl))
      (refine anyD_light (i := 2) (v := ?_) rfl (by kernel_rfl) (by kernel_rfl) (by kernel_rfl) (by kernel_rfl) (by kernel_rfl) (fun _ _ _ h => h) (.inl ⟨by kernel_rfl, fun W9 hW9 => ?_⟩) hS ?_; rotate_left; · (obtain ⟨hw0, hw1, hw2, hw3, hw4⟩ := hW9; go_simp; rfl))
      (refine anyD_light (i := 3) (v := ?_) rfl (by kernel_rfl) (by kernel_rfl) (by kernel_rfl) (by kernel_rfl) (by kernel_rfl) (fun _ _ _ h => h) (.inl ⟨by kernel_rfl, fun W9 hW9 => ?_⟩) hS ?_; rotate_left; · (obtain ⟨hw0, hw1, hw2, hw3, hw4⟩ := hW9; go_simp; rfl))
      (refine anyD_light (i := 4) (v := ?_) rfl (by kernel_rfl) (by kernel_rfl) (by kernel_rfl) (by kernel_rfl) (by kernel_rfl) (fun _ _ _ h => h) (.inl ⟨by kernel_rfl, fun W9 hW9 => ?_⟩) hS ?_; rotate_left; · (obtain ⟨hw0, hw1, hw2, hw3, hw4⟩ := hW9; go_simp; rfl))
      go_simp
      refine anyD_one (i := 5) (by kernel_rfl) rfl rfl (fun K hK => ?_)
      have HK := Lib.hid hK
      clear hK
      have hc := Hc.out V0 hbV
      have Hcc := Lib.hid hc
      clear hc
      unfold Oper.wp
      go_simp
      refine (Hcc.out).mono ?_
      rintro e w2 ⟨rfl, hb2⟩
      replace hbV := hbV.trans (hb2.mono hbV.size)
      clear hb2 hS Hcc
      have hS := HS.out _ hbV
      refine HK.out _ _ (fun _ => hS) ?_
      clear HK
      go_simp
      refine anyD_done (by kernel_rfl) ?_ _
      have hx := Hx.out.ext hbV
      obtain ⟨x0, x1, _⟩ := hx.two
      have u0 := (hbV.cell Hu.out.2).trans Hu.out.1
      have own2 := Hown.out.ext hbV
      have hb2 := Hb.out.trans (hbV.mono Hb.out.size)
      clear hS hx HS
      cases r with
      | true =>
        have hbs := hb2.size
        go_wp2_with (at_builtin; refine wpList_push_Own intC (M := M0) (B := w1.heap.size) TInts rfl (.tmp 23) (.tmp 29) rfl rfl own2 rfl (cs := [.int .i64 id]) (y := id) ⟨rfl, hz1, hz2⟩ (fun _ h => h.elim) ?a1 ?b1 hbs ?_)
        case a1 => unfold maxLen; omega
        case b1 => omega
        intro A5 c5 L5 w5 hL5 own5 hb5 _ _
        go_wp2
        go_roundw
        case rel => exact ⟨i + 1, A5, c5, L5, by omega, by go_num, rfl, Lib.hid (by rw [hL5.out, Hst.out, hL.out]; rfl), by rw [hL5.out, List.length_append]; simp; omega, own5, hb2.trans hb5⟩
        case measure => simp [intOf]; omega
      | false =>
        go_wp2
        go_roundw
        case rel => exact ⟨i + 1, A, c, L, by omega, by go_num, rfl, Lib.hid (by rw [Hst.out, hL.out]; simp), by omega, own2, hb2⟩
        case measure => simp [intOf]; omega
    · obtain rfl : i = ids.length := by omega
      go_wp2
      go_ret
      exact ⟨A, c, L, rfl, Lib.hid (by rw [hL.out, List.take_length]), own.lower (Nat.le_trans Hq.out.2.2.1.size hb1.size), Hq.out.2.2.1.trans (hb0.mono Hq.out.2.2.1.size)⟩
end Go.Proofs.YtfjpedgddgbelaaGreatDoor
namespace Go.Proofs.YtfjpedgddgbelaaGreatDoor
open Go.RowKit
set_option linter.unusedVariables false
theorem all_at {α : Type} {l : List α} {p : α → Bool} (h : ∀ (j : Nat) (hj : j < l.length), p l[j] = true) : l.all p = true := by
  rw [List.all_eq_true]; intro x hx; obtain ⟨j, hj, rfl⟩ := List.mem_iff_getElem.1 hx; exact h j hj
theorem all_not {α : Type} {l : List α} {p : α → Bool} {j : Nat} (hj : j < l.length) (h : p l[j] = false) : l.all p = false := by
  rw [Bool.eq_false_iff]; intro e; have := List.all_eq_true.1 e _ (List.getElem_mem hj); rw [h] at this; cases this
set_option maxRecDepth 100000 in
set_option maxHeartbeats 4000000 in
theorem plain_ok (a b : Value) (ids : List Int) (ts : List Ix.Term) (w : World) (h1 : SlR termC M0 w b ts) (hv : ∀ t ∈ ts, t.1.length ≤ 1048576) :
    Calls Tryz.prog 34 #[.agg #[a, b]] w fun e w' => e = .returned (.bool (Sr.plainF (ids, ts))) ∧ Below w.heap.size w w' := by
  obtain ⟨A1, c1, rfl, _, _⟩ := h1.form
  have hm1 := h1.len_le
  unfold maxLen at hm1
  unfold Sr.plainF
  obtain ⟨W0, g, hW, hg, hs, kx, hal⟩ := boxA w #[a, .slice A1 ts.length c1] 25
  replace h1 := h1.ext hal
  have HW := Lib.hid hW; have Hv := Lib.hid hv
  clear hW hs hv
  go_enter Tryz.func34, Tryz.ntmps34
  go_wp2_with fail
  rw [HW.out]
  go_loopw [3] (fun iv wr => ∃ i : Nat, i ≤ ts.length ∧ iv = .int .i64 (i : Int) ∧ Hid (∀ (j : Nat) (hj : j < ts.length), j < i → (!decide (1 < (splitS ts[j].1).length) && ts[j].2.all Sr.plainP) = true) ∧ Below W0.heap.size W0 wr) (fun iv _ => ts.length - (intOf iv).toNat)
  case atStart => exact ⟨0, Nat.zero_le _, rfl, Lib.hid fun j _ h => absurd h (by omega), Below.refl _ _⟩
  case round =>
    obtain ⟨i, hi, rfl, hpre, hb⟩ := hrel
    obtain ⟨wi, rfl⟩ : ∃ W, W = wr := ⟨_, rfl⟩
    obtain ⟨x0, x1, _⟩ := (kx.ext hb).two
    have hi0 : (0 : Int) ≤ (i : Int) := by omega
    by_cases hlt : i < ts.length
    · have hii : (i : Int) < (ts.length : Int) := by omega
      obtain ⟨b1, o1, A4, c3, rfl, _, hbl, r0, r1, _, hps⟩ := (h1.ext hb).termAt hlt
      have hvy := Hv.out _ (List.getElem_mem hlt)
      obtain ⟨⟨y, ps⟩, hy⟩ : ∃ t, t = ts[i] := ⟨_, rfl⟩
      rw [← hy] at hvy r0 r1 hps
      dsimp only at hvy r0 r1 hps
      have hpm := hps.len_le
      unfold maxLen at hpm
      have hsp := refSplit_ok y (by omega) wi
      have hlen := splitS_len y
      have Hsp := Lib.hid hsp; have Hy := Lib.hid hy; have Hb := Lib.hid hb
      clear hsp hy hb
      go_wp2_with fail
      refine Hsp.out.mono ?_
      rintro e w1 ⟨Aw, cw, Lw, rfl, hLw, _, hb1⟩
      have hb2 := Hb.out.trans (hb1.mono Hb.out.size)
      replace x0 := (hb1.cell (World.block_lt_of_cell? _ _ x0)).trans x0
      replace x1 := (hb1.cell (World.block_lt_of_cell? _ _ x1)).trans x1
      replace r0 := (hb1.cell hbl).trans r0
      replace r1 := (hb1.cell hbl).trans r1
      replace hps := hps.ext hb1
      clear Hsp hlen
      by_cases h1s : 1 < Lw.length
      · have h1i : (1 : Int) < (Lw.length : Int) := by omega
        go_wp2
        go_ret
        exact ⟨ret_bool (by rw [all_not hlt]; rw [← Hy.out]; dsimp only; rw [← hLw.out, decide_eq_true h1s]; rfl), hal.trans (hb2.mono hal.size)⟩
      · have h1i : ¬ (1 : Int) < (Lw.length : Int) := by omega
        have Hb2 := Lib.hid hb2; have Hr := Lib.hid (And.intro x1 (And.intro r1 (And.intro (World.block_lt_of_cell? _ _ x1) (World.block_lt_of_cell? _ _ r1)))); have Hps := Lib.hid hps
        clear hb2 hps
        go_wp2_with fail
        clear x0 x1 r0 r1
        go_loopw [4] (fun kv wr => ∃ k : Nat, k ≤ ps.length ∧ kv = .int .i64 (k : Int) ∧ Hid (∀ (j : Nat) (hj : j < ps.length), j < k → Sr.plainP ps[j] = true) ∧ wr = w1) (fun kv _ => ps.length - (intOf kv).toNat)
        case atStart => exact ⟨0, Nat.zero_le _, rfl, Lib.hid fun j _ h => absurd h (by omega), rfl⟩
        case round =>
          obtain ⟨k, hk, rfl, hpk, hwr⟩ := hrel
          obtain ⟨wk, rfl⟩ : ∃ W, W = wr := ⟨_, rfl⟩
          subst hwr
          obtain ⟨x1, r1, _, _⟩ := Hr.out
          have hk0 : (0 : Int) ≤ (k : Int) := by omega
          by_cases hlk : k < ps.length
          · have hki : (k : Int) < (ps.length : Int) := by omega
            obtain ⟨b3, o3, A6, c4, rfl, _, _, s0, s1, _, _, hns⟩ := Hps.out.postAt hlk
            obtain ⟨⟨pid, ns⟩, hp⟩ : ∃ p, p = ps[k] := ⟨_, rfl⟩
            rw [← hp] at s0 s1 hns
            dsimp only at s0 s1 hns
            have hnm := hns.len_le
            unfold maxLen at hnm
            have hpp : Sr.plainP (pid, ns) = !(decide (0 < ns.length) && decide (5000 < ns.getD (ns.length - 1) 0)) := rfl
            have Hp := Lib.hid hp
            clear hp
            by_cases hz : 0 < ns.length
            · have hz2 : (0 : Int) < (ns.length : Int) := by omega
              obtain ⟨b5, o5, rfl, _, _, u0, _, _⟩ := hns.intAt (k := ns.length - 1) (by omega)
              rw [decide_eq_true hz, Bool.true_and, Ix.getD_get (show ns.length - 1 < ns.length by omega)] at hpp
              obtain ⟨z, hz9⟩ : ∃ z, z = ns[ns.length - 1] := ⟨_, rfl⟩
              rw [← hz9] at u0 hpp
              have hsub : IntKind.i64.wrap ((ns.length : Int) - 1) = ((ns.length - 1 : Nat) : Int) := by rw [show (ns.length : Int) - 1 = ((ns.length - 1 : Nat) : Int) by omega]; exact IntWalk.i64_in _ (by omega)
              have hsi : ((ns.length - 1 : Nat) : Int) < (ns.length : Int) := by omega
              have hs0 : (0 : Int) ≤ ((ns.length - 1 : Nat) : Int) := by omega
              obtain ⟨nl, hnl⟩ : ∃ nl, ns.length - 1 = nl := ⟨_, rfl⟩
              rw [hnl] at u0 hsub hsi hs0
              have Hpp := Lib.hid hpp
              clear hpp hz9 hnl hns
              by_cases h5 : 5000 < z
              · go_wp2
                go_ret
                exact ⟨ret_bool (by rw [all_not hlt]; rw [← Hy.out]; dsimp only; rw [all_not hlk, Bool.and_false]; rw [← Hp.out, Hpp.out, decide_eq_true h5]; rfl), hal.trans (Hb2.out.mono hal.size)⟩
              · go_wp2
                go_roundw
                case rel => exact ⟨k + 1, by omega, by go_num, Lib.hid fun j hj hjk => by
                  by_cases e : j = k
                  · subst e; rw [← Hp.out, Hpp.out, decide_eq_false h5]; rfl
                  · exact hpk.out j hj (by omega), trivial⟩
                case measure => simp [intOf]; omega
            · have hz2 : ¬ (0 : Int) < (ns.length : Int) := by omega
              rw [decide_eq_false hz, Bool.false_and] at hpp
              have Hpp := Lib.hid hpp
              clear hpp hns
              go_wp2
              go_roundw
              case rel => exact ⟨k + 1, by omega, by go_num, Lib.hid fun j hj hjk => by
                by_cases e : j = k
                · subst e; rw [← Hp.out, Hpp.out]; rfl
                · exact hpk.out j hj (by omega), trivial⟩
              case measure => simp [intOf]; omega
          · go_wp2
            go_roundw
            case rel => exact ⟨i + 1, by omega, by go_num, Lib.hid fun j hj hji => by
              by_cases e : j = i
              · subst e
                rw [← Hy.out]; dsimp only
                rw [← hLw.out, decide_eq_false h1s, all_at fun a ha => hpk.out a ha (by omega)]; rfl
              · exact hpre.out j hj (by omega), Hb2.out⟩
            case measure => simp [intOf]; omega
    · go_wp2
      go_ret
      exact ⟨ret_bool (by rw [all_at fun a ha => hpre.out a ha (by omega)]), hal.trans (hb.mono hal.size)⟩
end Go.Proofs.YtfjpedgddgbelaaGreatDoor
