/-
  The reference's Ordered.
-/
import Derived.Test.YtnlhocbaighedaaGreatDoorRkF
import Derived.Test.YtnlhocbaighedaaGreatDoorR3
import Derived.Deep.CutRange
namespace Go.Proofs.YtnlhocbaighedaaGreatDoor
open Go.RowKit
set_option linter.unusedVariables false
namespace Rk
theorem insRef_at (sc : Int → Int) (x : Int) : ∀ (L : List Int) (k : Nat), k ≤ L.length → (∀ (j : Nat) (h : j < L.length), j < k → sc x ≤ sc L[j]) → (∀ (h : k < L.length), sc L[k] < sc x) → insRef sc x L = L.take k ++ [x] ++ L.drop k
 | [], k, hk, _, _ => by
  simp [insRef]
 | y :: t, 0, hk, h1, h2 => by
  have := h2 (by simp)
  rw [List.getElem_cons_zero] at this
  rw [insRef, if_neg (by omega)]
  simp
 | y :: t, k + 1, hk, h1, h2 => by
  have h0 := h1 0 (by simp) (by omega)
  rw [List.getElem_cons_zero] at h0
  have ih := insRef_at sc x t k (by simpa using hk) (fun j hj hjk => by have := h1 (j + 1) (by simpa using hj) (by omega); simpa using this) (fun h => by have := h2 (by simpa using h); simpa using this)
  rw [insRef, if_pos h0, ih]
  simp
theorem ordRef_step (sc : Int → Int) (m : Int → Bool) (ids : List Int) {i : Nat} (h : i < ids.length) : ordRef sc ((ids.take (i + 1)).filter m) = if m ids[i] then insRef sc ids[i] (ordRef sc ((ids.take i).filter m)) else ordRef sc ((ids.take i).filter m) := by
 rw [filter_step m h]
 unfold ordRef
 rw [List.foldl_append]
 cases m ids[i] <;> rfl
end Rk
theorem MB.sub' {w : World} {v : Value} {l : List Int} {B : Nat} {u : Value} (h : SlR intC (fun b => B ≤ b) w v l) (hb : ∀ b, u.ownBlock = some b → B ≤ b) : SlR intC (fun b => M0 b ∨ u.ownBlock = some b) w v l :=
 h.sub fun b _ hor => hor.elim (fun h => h.elim) fun h => hb b h
theorem SlR.front {α : Type} {C : Codec α} {M : Nat → Prop} {w : World} {A : Option Addr} {n c : Nat} {l : List α} (h : SlR C M w (.slice A n c) l) {k : Nat} (hk : k ≤ l.length) : SlR C M w (.slice A k c) (l.take k) := by
 obtain ⟨A', n', c', xs, hv, rfl, hc, hm, he, ha⟩ := h
 injection hv with e1 e2 e3
 subst e1 e2 e3
 refine ⟨_, _, _, xs.take (k * C.n), rfl, by rw [List.length_take]; omega, by omega, hm, he.take k, fun h0 => ?_⟩
 obtain ⟨b, off, rfl, hM, hb, hcell⟩ := ha (by omega)
 refine ⟨b, off, rfl, hM, hb, fun j u hu => ?_⟩
 rw [List.getElem?_take] at hu
 split at hu
 ·exact hcell j u hu
 ·cases hu
theorem SlR.back {M : Nat → Prop} {w : World} {A : Option Addr} {n c : Nat} {l : List Int} (h : SlR intC M w (.slice A n c) l) {k : Nat} (hk : k ≤ l.length) : SlR intC M w (.slice (if c = k then A else Option.map (fun x => x.add k) A) (n - k) (c - k)) (l.drop k) := by
 have hn : n = l.length := by obtain ⟨_, _, _, _, e, h1, _⟩ := h; injection e with _ e _; omega
 have := h.cut (lo := k) (hi := l.length) hk (Nat.le_refl _)
 rw [List.take_length, show k * intC.n = k from Nat.mul_one k, ← hn] at this
 exact this
set_option maxRecDepth 100000 in
set_option maxHeartbeats 8000000 in
theorem refOrdered_ok (a b qv : Value) (ids : List Int) (ts : List Ix.Term) (f : Nat) (q : Q) (sc : Int → Int) (w : World) (h0 : SlR intC M0 w a ids) (h1 : SlR termC M0 w b ts) (hpos : ∀ t ∈ ts, ∀ p ∈ t.2, ∀ n ∈ p.2, 0 ≤ n) (hn : ids.length ≤ 300) (hK : Sr.costT ts ≤ 4000000000000) (hv : ∀ t ∈ ts, t.1.length ≤ 1048576) (hq : QAt f M0 w qv q) (hbk : q.bulk ≤ 1048576) (hgd : Good (f + 1) q)
  (hsc : ∀ (i : Nat) (h : i < ids.length), Rk.scoreRef (ids.map (Sr.docF (ids, ts))) (Rk.cntR f q []) i = sc ids[i]) :
  Calls Tryz.prog 14 #[.agg #[a, b], qv] w fun e w' => ∃ (A : Option Addr) (c : Nat) (L : List Int), e = .returned (.slice A L.length c) ∧ Hid (L = Rk.ordRef sc (ids.filter fun id => Sr.matchesF (f + 1) q (Sr.docF (ids, ts) id))) ∧ Own intC M0 w' w.heap.size 3 (.slice A L.length c) L ∧ Below w.heap.size w w' := by
 obtain ⟨A0, c0, rfl, _, _⟩ := h0.form
 obtain ⟨A1, c1, rfl, _, _⟩ := h1.form
 have hqv := hq
 obtain ⟨Aq, cq, rfl, _, _, _, _⟩ := hq
 obtain ⟨ql, hql⟩ : ∃ n, q.parts.length = n := ⟨_, rfl⟩
 rw [hql] at hqv ⊢
 obtain ⟨W0, g, hW, hg, hs, kx, kq, hal⟩ := boxPair w #[.slice A0 ids.length c0, .slice A1 ts.length c1] 25 #[.int .i64 q.kind, .string (bs q.text), .int .i64 q.num, .slice Aq ql cq] 28
 replace h0 := h0.ext hal
 replace h1 := h1.ext hal
 replace hqv := hqv.ext hal
 obtain ⟨x0, x1, _⟩ := kx.two
 have hd := docs_ok _ _ ids ts W0 h0 h1 hpos (by omega) hK hv
 have hscore := fun (i : Nat) (hi : i < ids.length) W (hb : Below W0.heap.size W0 W) => refScore_ok _ _ _ ids ts f q (i : Int) W (h0.ext hb) (h1.ext hb) hpos hn hK hv (hqv.ext hb) hbk (by omega) (by omega)
 simp only [Int.toNat_natCast] at hscore
 have hscb : ∀ (i : Nat) (h : i < ids.length), 0 ≤ sc ids[i] ∧ sc ids[i] ≤ 9000000000000 := fun i h => by
  rw [← hsc i h]
  have h1 := Rk.sum_take (fun s => Rk.partF (ids.map (Sr.docF (ids, ts))) s i) (fun s => Rk.partF_bound _ s i (by rw [List.length_map]; omega)) (Rk.cntR f q []) _ (Nat.le_refl _)
  rw [List.take_length] at h1
  have h2 := Rk.cntR_len f q []
  simp only [List.length_nil, Nat.zero_add] at h2
  have h3 : Rk.scoreRef (ids.map (Sr.docF (ids, ts))) (Rk.cntR f q []) i = ((Rk.cntR f q []).map fun s => Rk.partF (ids.map (Sr.docF (ids, ts))) s i).sum := rfl
  rw [h3]
  omega
 have HW := Lib.hid hW; have Hd := Lib.hid hd; have Hq := Lib.hid (And.intro kx (And.intro kq (And.intro hal hqv))); have Hg := Lib.hid hgd; have Hscore := Lib.hid hscore; have Hscb := Lib.hid hscb; have Hsc := Lib.hid hsc
 have HK := Lib.hid hK
 clear hW hs hql hd hpos hv h1 hqv kx kq hal hgd hK hscore hscb hsc
 go_enter Tryz.func14, Tryz.ntmps14
 go_wp2_with fail
 rw [HW.out]
 clear x0 x1
 refine Hd.out.mono ?_
 rintro e w1 ⟨Ad, cd, Ld, rfl, hLd, ownd, hb1⟩
 have hLdl : Ld.length = ids.length := by rw [hLd.out, List.length_map]
 have rd := ownd.read0
 rw [hLdl] at rd ⊢
 clear ownd Hd
 go_wp2_with fail
 go_loopw [6, 7, 8] (fun ov sv iv wr => ∃ (i : Nat) (A : Option Addr) (c : Nat) (A' : Option Addr) (c' : Nat) (L : List Int), i ≤ ids.length ∧ iv = .int .i64 (i : Int) ∧ ov = .slice A L.length c ∧ sv = .slice A' L.length c' ∧ Hid (L = Rk.ordRef sc ((ids.take i).filter fun id => Sr.matchesF (f + 1) q (Sr.docF (ids, ts) id))) ∧ L.length ≤ i ∧ Own intC M0 wr w1.heap.size 3 (.slice A L.length c) L ∧ Own intC M0 wr w1.heap.size 3 (.slice A' L.length c') (L.map sc) ∧ Below w1.heap.size w1 wr) (fun _ _ iv _ => ids.length - (intOf iv).toNat)
 case atStart => exact ⟨0, none, 0, none, 0, [], Nat.zero_le _, rfl, rfl, rfl, Lib.hid rfl, Nat.zero_le _, Own.nil _ _ _ _ _, Own.nil _ _ _ _ _, Below.refl _ _⟩
 case round =>
  obtain ⟨i, A, c, A', c', L, hi, rfl, rfl, rfl, hL, hLl, own, owns, hb⟩ := hrel
  obtain ⟨wi, rfl⟩ : ∃ W, W = wr := ⟨_, rfl⟩
  have hb0 : Below W0.heap.size W0 wi := hb1.trans (hb.mono hb1.size)
  obtain ⟨x0, x1, _⟩ := (Hq.out.1.ext hb0).two
  have hi0 : (0 : Int) ≤ (i : Int) := by omega
  by_cases hlt : i < ids.length
  ·have hii : (i : Int) < (ids.length : Int) := by omega
   obtain ⟨bi, oi, rfl, _, hbi, u0, hz1, hz2⟩ := (h0.ext hb0).intAt hlt
   obtain ⟨bd, od, A8, c8, rfl, _, hbd, v0, hrow⟩ := (rd.ext hb).sliceAt (k := i) (by omega)
   have hst := Rk.ordRef_step sc (fun id => Sr.matchesF (f + 1) q (Sr.docF (ids, ts) id)) ids hlt
   have hde : Ld[i]'(by omega) = Sr.docF (ids, ts) ids[i] := by simp [hLd.out]
   rw [hde] at v0 hrow
   have hscr := Hscore.out i hlt
   rw [Hsc.out i hlt] at hscr
   have hsb := Hscb.out i hlt
   obtain ⟨id, hid⟩ : ∃ id, id = ids[i] := ⟨_, rfl⟩
   rw [← hid] at u0 hst v0 hrow hz1 hz2 hscr hsb
   have hdt := Sr.doc_tot (ids, ts) id
   dsimp only at hdt
   have hdl := Sr.doc_len (ids, ts) id
   obtain ⟨D, hD⟩ : ∃ D, Sr.docF (ids, ts) id = D := ⟨_, rfl⟩
   rw [hD] at hdt hdl v0 hrow hst
   obtain ⟨dl, hdl2⟩ : ∃ n, D.length = n := ⟨_, rfl⟩
   have hS0 : ∀ W, Below wi.heap.size wi W → W.cell? ⟨g + 1, 0, none⟩ = some (.int .i64 q.kind) ∧ W.cell? ⟨g + 1, 1, none⟩ = some (.string (bs q.text)) ∧ W.cell? ⟨g + 1, 2, none⟩ = some (.int .i64 q.num) ∧ W.cell? ⟨g + 1, 3, none⟩ = some (.slice Aq ql cq) ∧ W.cell? ⟨bd, od + i, none⟩ = some (.slice A8 dl c8) := fun W hbW => by
    obtain ⟨y0, y1, y2, y3, _⟩ := ((Hq.out.2.1.ext hb0).ext hbW).four
    exact ⟨y0, y1, y2, y3, (hbW.cell hbd).trans (by rw [← hdl2]; exact v0)⟩
   have HS := Lib.hid hS0
   have hbr := fun W (hbW : Below wi.heap.size wi W) => matches_ok f q _ (.slice A8 D.length c8) D W (Hq.out.2.2.2.ext (hb0.trans (hbW.mono hb0.size))) hbk Hg.out (hrow.ext hbW) (fun s hs => by have := Sr.tot_mem hs; have := HK.out; omega) hdl
   rw [hdl2] at hbr
   obtain ⟨r, hr⟩ : ∃ r, Sr.matchesF (f + 1) q D = r := ⟨_, rfl⟩
   simp only [hr] at hbr hst
   have Hc := Lib.hid hbr; have Hst := Lib.hid hst; have Hown := Lib.hid own; have Howns := Lib.hid owns; have Hb := Lib.hid hb; have Hu := Lib.hid (And.intro u0 hbi); have Hx := Lib.hid (Hq.out.1.ext hb0); have Hb0 := Lib.hid hb0; have Hscr := Lib.hid hscr
   have hS := HS.out (wi.drewN 1) (below_drewN' _ _ _)
   clear hbr hst own owns hb u0 hbi hS0 v0 hrow hde hD hdl2 hdt hr hid hb0 hscr
   go_wp2_with fail
   clear x0 x1
   refine wp_region_D (fun W => W.cell? ⟨g + 1, 0, none⟩ = some (.int .i64 q.kind) ∧ W.cell? ⟨g + 1, 1, none⟩ = some (.string (bs q.text)) ∧ W.cell? ⟨g + 1, 2, none⟩ = some (.int .i64 q.num) ∧ W.cell? ⟨g + 1, 3, none⟩ = some (.slice Aq ql cq) ∧ W.cell? ⟨bd, od + i, none⟩ = some (.slice A8 dl c8)) (fun _ => false) (by kernel_rfl) ?_
   change anyD _ _ _ _ _ _ _ _ _ (wi.drewN 1)
   have hbV := below_drewN' wi.heap.size wi 1
   generalize wi.drewN 1 = V0 at hS hbV ⊢
   have HBV := Lib.hid hbV
   (refine anyD_l5 (i := 0) (v := ?_) rfl (by kernel_rfl) (fun _ _ _ h => h) (.inl ⟨by kernel_rfl, fun W9 hW9 => ?_⟩) hS ?_; rotate_left; · (obtain ⟨hw0, hw1, hw2, hw3, hw4⟩ := hW9; go_simp; rfl))
   (refine anyD_l5 (i := 1) (v := ?_) rfl (by kernel_rfl) (fun _ _ _ h => h) (.inl ⟨by kernel_rfl, fun W9 hW9 => ?_⟩) hS ?_; rotate_left; · (obtain ⟨hw0, hw1, hw2, hw3, hw4⟩ := hW9; go_simp; rfl))
   (refine anyD_l5 (i := 2) (v := ?_) rfl (by kernel_rfl) (fun _ _ _ h => h) (.inl ⟨by kernel_rfl, fun W9 hW9 => ?_⟩) hS ?_; rotate_left; · (obtain ⟨hw0, hw1, hw2, hw3, hw4⟩ := hW9; go_simp; rfl))
   (refine anyD_l5 (i := 3) (v := ?_) rfl (by kernel_rfl) (fun _ _ _ h => h) (.inl ⟨by kernel_rfl, fun W9 hW9 => ?_⟩) hS ?_; rotate_left; · (obtain ⟨hw0, hw1, hw2, hw3, hw4⟩ := hW9; go_simp; rfl))
   (refine anyD_l5 (i := 4) (v := ?_) rfl (by kernel_rfl) (fun _ _ _ h => h) (.inl ⟨by kernel_rfl, fun W9 hW9 => ?_⟩) hS ?_; rotate_left; · (obtain ⟨hw0, hw1, hw2, hw3, hw4⟩ := hW9; go_simp; rfl))
   go_simp
   refine anyD_one (i := 5) (by kernel_rfl) rfl rfl (fun K hK => ?_)
   have HK := Lib.hid hK
   clear hK
   unfold Oper.wp
   go_simp
   refine (Hc.out V0 HBV.out).mono ?_
   rintro e w2 ⟨rfl, hb2⟩
   have hb02 := HBV.out.trans (hb2.mono HBV.out.size)
   have hS := HS.out _ hb02
   refine HK.out _ _ (fun _ => hS) ?_
   clear HK
   (refine anyD_l5 (i := 6) (v := ?_) rfl (by kernel_rfl) (fun _ _ _ h => h) (.inl ⟨by kernel_rfl, fun W9 hW9 => ?_⟩) hS ?_; rotate_left; · (obtain ⟨hw0, hw1, hw2, hw3, hw4⟩ := hW9; go_simp; rfl))
   go_simp
   refine anyD_done (by kernel_rfl) ?_ _
   have Hb2 := Lib.hid hb02
   have hx := Hx.out.ext hb02
   obtain ⟨x0, x1, _⟩ := hx.two
   clear hS hx hb2 hb02 hbV
   cases r with
   | false =>
    go_wp2_with fail
    go_roundw
    case rel => exact ⟨i + 1, A, c, A', c', L, by omega, by go_num, rfl, rfl, Lib.hid (by rw [Hst.out, if_neg (by decide)]; exact hL.out), by omega, Hown.out.ext Hb2.out, Howns.out.ext Hb2.out, Hb.out.trans (Hb2.out.mono Hb.out.size)⟩
    case measure => simp [intOf]; omega
   | true =>
    have Hsr := Lib.hid (Hscr.out w2 (Hb0.out.trans (Hb2.out.mono Hb0.out.size)))
    obtain ⟨q0, q1, q2, q3, _⟩ := ((Hq.out.2.1.ext Hb0.out).ext Hb2.out).four
    go_wp2_with fail
    refine Hsr.out.mono ?_
    clear Hsr q0 q1 q2 q3 x0 x1 HS Hc Hscr
    rintro e w3 ⟨rfl, hb3⟩
    have hb23 := Hb2.out.trans (hb3.mono Hb2.out.size)
    have hx := Hx.out.ext hb23
    obtain ⟨x0, x1, _⟩ := hx.two
    have hown3 := Hown.out.ext hb23
    have howns3 := Howns.out.ext hb23
    have Hb3 := Lib.hid (Hb.out.trans (hb23.mono Hb.out.size)); have Hu3 := Lib.hid ((hb23.cell Hu.out.2).trans Hu.out.1); have Hx3 := Lib.hid hx
    obtain ⟨s, hs⟩ : ∃ s, sc id = s := ⟨_, rfl⟩
    rw [hs] at hsb ⊢
    have Hs := Lib.hid hs
    have HO := Lib.hid hown3; have HOs := Lib.hid howns3; have Hbi := Lib.hid (Nat.lt_of_lt_of_le Hu.out.2 hb23.size)
    clear hb3 hb23 hx hs hown3 howns3 Hb2 Hb Hu Hx Hb0 Hown Howns
    obtain ⟨n, hn⟩ : ∃ n, L.length = n := ⟨_, rfl⟩
    rw [hn] at HO HOs hLl ⊢
    have Hn := Lib.hid hn
    clear hn
    go_wp2_with fail
    go_loopw [10] (fun kv wr => ∃ k : Nat, k ≤ n ∧ kv = .int .i64 (k : Int) ∧ Hid (∀ (j : Nat) (h : j < L.length), j < k → s ≤ sc L[j]) ∧ wr = w3) (fun kv _ => n - (intOf kv).toNat)
    case atStart => exact ⟨0, Nat.zero_le _, rfl, Lib.hid fun j _ h => absurd h (by omega), rfl⟩
    case round =>
     obtain ⟨k, hkn, rfl, Hpre, rfl⟩ := hrel
     have hk0 : (0 : Int) ≤ (k : Int) := by omega
     have hfinish : ∀ (hlast : ∀ (h : k < L.length), sc L[k] < s), Hid (Rk.insRef sc id L = L.take k ++ [id] ++ L.drop k) := fun hlast => by
      have hs := Hs.out
      have := Rk.insRef_at sc id L k (by rw [Hn.out]; exact hkn) (fun j hj hjk => by rw [hs]; exact Hpre.out j hj hjk) (fun h => by rw [hs]; exact hlast h)
      exact Lib.hid this
     go_upto_region 10 with fail
     go_cut [44] from 33 to 46 (fun bv wc => bv = .bool (decide (∃ h : k < L.length, s ≤ sc L[k])) ∧ wc = wr)
     case first =>
      by_cases hlk : k < n
      ·have hki : (k : Int) < (n : Int) := by omega
       have hlk' : k < L.length := by rw [Hn.out]; exact hlk
       have hrs := HOs.out.read0
       obtain ⟨bs', os', rfl, _, _, t0, _, _⟩ := hrs.intAt (k := k) (by rw [List.length_map]; exact hlk')
       rw [List.getElem_map] at t0
       obtain ⟨y, hy⟩ : ∃ y, sc L[k] = y := ⟨_, rfl⟩
       have hdec : decide (∃ h : k < L.length, s ≤ sc L[k]) = decide (s ≤ y) := by
        rw [← hy]
        exact decide_eq_decide.2 ⟨fun h => h.2, fun h => ⟨hlk', h⟩⟩
       rw [hy] at t0
       have Hdec := Lib.hid hdec
       clear hrs hy hfinish hdec
       go_wp2_with fail
       go_meet
       case rel => exact ⟨by rw [Hdec.out], rfl⟩
      ·have hki : ¬ (k : Int) < (n : Int) := by omega
       clear hfinish
       go_wp2_with fail
       go_meet
       case rel => exact ⟨congrArg Value.bool (decide_eq_false fun h => hlk (by rw [← Hn.out]; exact h.1)).symm, rfl⟩
     case rest =>
     obtain ⟨rfl, hw9⟩ := hcut
     obtain rfl : wr = wc := hw9.symm
     clear hw9
     by_cases hgo : ∃ h : k < L.length, s ≤ sc L[k]
     ·rw [decide_eq_true hgo]
      obtain ⟨hlk', hge⟩ := hgo
      have hlk : k < n := by rw [← Hn.out]; exact hlk'
      have Hpre2 := Lib.hid (show ∀ (j : Nat) (h : j < L.length), j < k + 1 → s ≤ sc L[j] from fun j hj hjk => by
       by_cases e : j = k
       ·subst e; exact hge
       ·exact Hpre.out j hj (by omega))
      clear hfinish Hpre hge
      go_wp2_with fail
      go_roundw
      case rel => exact ⟨k + 1, by omega, by go_num, Hpre2, by first | trivial | rfl⟩
      case measure => simp [intOf]; omega
     ·rw [decide_eq_false hgo]
      have Hins := hfinish fun h => Int.not_le.1 fun h' => hgo ⟨h, h'⟩
      clear hfinish Hpre hgo
      have hl1 : (L.take k).length = k := by rw [List.length_take, Hn.out]; omega
      have hl2 : (L.drop k).length = n - k := by rw [List.length_drop, Hn.out]
      go_upto_region 14 with fail
      have hshape : n ≤ c := by obtain ⟨_, _, e, h, _⟩ := HO.out.shape; injection e with _ _ e; rw [Hn.out] at h; omega
      have hshape2 : n ≤ c' := by obtain ⟨_, _, e, h, _⟩ := HOs.out.shape; injection e with _ _ e; rw [List.length_map, Hn.out] at h; omega
      obtain ⟨w3, rfl⟩ : ∃ W, W = wr := ⟨_, rfl⟩
      go_cut [11] from 15 to 76 (fun v wc => ∃ (A9 : Option Addr) (c9 : Nat) (L9 : List Int), v = .slice A9 L9.length c9 ∧ Hid (L9 = L.take k ++ [id] ++ L.drop k) ∧ Own intC M0 wc w3.heap.size 3 (.slice A9 L9.length c9) L9 ∧ Below w3.heap.size w3 wc)
      case first =>
       have hkc : k ≤ c := by omega
       have hnc : n ≤ c := by omega
       have hki2 : (k : Int) ≤ (n : Int) := by omega
       have Hr1 := Lib.hid (show ∀ W, Below w3.heap.size w3 W → SlR intC (fun b => w3.heap.size ≤ b) W (.slice A k c) (L.take k) from fun W hW => ((HO.out.read0.toMB.sub fun b _ h => .inr h).ext hW).front (by first | omega | (rw [Hn.out]; exact hkn)))
       have Hr2 := Lib.hid (show ∀ W, Below w3.heap.size w3 W → SlR intC (fun b => w3.heap.size ≤ b) W (.slice (if c = k then A else Option.map (fun x => x.add k) A) (n - k) (c - k)) (L.drop k) from fun W hW => ((HO.out.read0.toMB.sub fun b _ h => .inr h).ext hW).back (by first | omega | (rw [Hn.out]; exact hkn)))
       have hSS : ∀ W, Below w3.heap.size w3 W → W.cell? ⟨g, 0, none⟩ = some (.slice (some ⟨bi, oi, none⟩) ids.length c0) ∧ W.cell? ⟨bi, oi + i, none⟩ = some (.int .i64 id) := fun W hW => ⟨(Hx3.out.ext hW).two.1, (hW.cell Hbi.out).trans Hu3.out⟩
       clear x0 x1
       have HS := Lib.hid hSS
       have hS := HS.out _ (below_drewN' w3.heap.size w3 1)
       clear hSS
       refine wp_region_D (fun W => W.cell? ⟨g, 0, none⟩ = some (.slice (some ⟨bi, oi, none⟩) ids.length c0) ∧ W.cell? ⟨bi, oi + i, none⟩ = some (.int .i64 id)) (fun _ => false) (by kernel_rfl) ?_
       change anyD _ _ _ _ _ _ _ _ _ (w3.drewN 1)
       have hbV := below_drewN' w3.heap.size w3 1
       generalize w3.drewN 1 = V0 at hS hbV ⊢
       have HBV := Lib.hid hbV
       clear hbV
       (refine anyD_l5 (i := 0) (v := ?_) rfl (by kernel_rfl) (fun _ _ _ h => h) (.inl ⟨by kernel_rfl, fun W9 hW9 => ?_⟩) hS ?_; rotate_left; · (obtain ⟨hw0, hw1⟩ := hW9; go_simp; rfl))
       (refine anyD_l5 (i := 1) (v := ?_) rfl (by kernel_rfl) (fun _ _ _ h => h) (.inl ⟨by kernel_rfl, fun W9 hW9 => ?_⟩) hS ?_; rotate_left; · (obtain ⟨hw0, hw1⟩ := hW9; go_simp; rfl))
       (refine anyD_l5 (i := 2) (v := ?_) rfl (by kernel_rfl) (fun _ _ _ h => h) (.inl ⟨by kernel_rfl, fun W9 hW9 => ?_⟩) hS ?_; rotate_left; · (obtain ⟨hw0, hw1⟩ := hW9; go_simp; rfl))
       (refine anyD_l5 (i := 3) (v := ?_) rfl (by kernel_rfl) (fun _ _ _ h => h) (.inl ⟨by kernel_rfl, fun W9 hW9 => ?_⟩) hS ?_; rotate_left; · (obtain ⟨hw0, hw1⟩ := hW9; go_simp; rfl))
       (refine anyD_l5 (i := 5) (v := ?_) rfl (by kernel_rfl) (fun _ _ _ h => h) (.inl ⟨by kernel_rfl, fun W9 hW9 => ?_⟩) hS ?_; rotate_left; · (obtain ⟨hw0, hw1⟩ := hW9; go_simp; rfl))
       (refine anyD_l5 (i := 6) (v := ?_) rfl (by kernel_rfl) (fun _ _ _ h => h) (.inl ⟨by kernel_rfl, fun W9 hW9 => ?_⟩) hS ?_; rotate_left; · (obtain ⟨hw0, hw1⟩ := hW9; go_simp; rfl))
       go_simp
       (refine anyD_l5 (i := 7) (v := ?_) rfl (by kernel_rfl) (fun _ _ _ h => h) (.inl ⟨by kernel_rfl, fun W9 hW9 => ?_⟩) hS ?_; rotate_left; · (obtain ⟨hw0, hw1⟩ := hW9; go_simp; rfl))
       (refine anyD_l5 (i := 8) (v := ?_) rfl (by kernel_rfl) (fun _ _ _ h => h) (.inl ⟨by kernel_rfl, fun W9 hW9 => ?_⟩) hS ?_; rotate_left; · (obtain ⟨hw0, hw1⟩ := hW9; go_simp; rfl))
       (refine anyD_l5 (i := 9) (v := ?_) rfl (by kernel_rfl) (fun _ _ _ h => h) (.inl ⟨by kernel_rfl, fun W9 hW9 => ?_⟩) hS ?_; rotate_left; · (obtain ⟨hw0, hw1⟩ := hW9; go_simp; rfl))
       (refine anyD_l5 (i := 12) (v := ?_) rfl (by kernel_rfl) (fun _ _ _ h => h) (.inl ⟨by kernel_rfl, fun W9 hW9 => ?_⟩) hS ?_; rotate_left; · (obtain ⟨hw0, hw1⟩ := hW9; go_simp; rfl))
       (refine anyD_l5 (i := 13) (v := ?_) rfl (by kernel_rfl) (fun _ _ _ h => h) (.inl ⟨by kernel_rfl, fun W9 hW9 => ?_⟩) hS ?_; rotate_left; · (obtain ⟨hw0, hw1⟩ := hW9; go_simp; rfl))
       (refine anyD_l5 (i := 14) (v := ?_) rfl (by kernel_rfl) (fun _ _ _ h => h) (.inl ⟨by kernel_rfl, fun W9 hW9 => ?_⟩) hS ?_; rotate_left; · (obtain ⟨hw0, hw1⟩ := hW9; go_simp; rfl))
       go_simp
       go_simp
       refine anyD_pick [4, 10] (by kernel_rfl) (by decide) ?_
       intro j hj
       simp only [List.mem_cons, List.not_mem_nil, or_false] at hj
       rcases hj with rfl | rfl
       ·refine ⟨_, rfl, rfl, fun K hK => ?_⟩
        have HK := Lib.hid hK
        clear hK hS
        refine wp_append_Own intC (M := M0) (v := .slice none 0 0) (l := []) (l' := L.take k) TInts (.tmp 47) (.tmp 50) rfl rfl (Own.nil intC M0 V0 w3.heap.size 3) rfl (MB.sub' (Hr1.out V0 HBV.out) fun b h => by cases h) (by rw [hl1]; unfold maxLen; simp; omega) (by rw [hl1]; simp; omega) HBV.out.size ?_
        intro A2 c2 L2 V1 hL2 own2 hbl2 hgr2 hor2
        have HlL2 := Lib.hid (show L2.length = k by rw [hL2.out, List.nil_append, hl1])
        have hb2 := HBV.out.trans hbl2
        have hS := HS.out V1 hb2
        refine HK.out _ _ (fun _ => hS) ?_
        clear HK
        go_simp
        refine anyD_one (i := 10) (by kernel_rfl) rfl rfl (fun K hK => ?_)
        have HK := Lib.hid hK
        clear hK hS
        unfold Oper.wp
        go_simp
        generalize hV : World.alloc V1 (.cells #[.int .i64 id] 3) = V2
        have hal2 : Below V1.heap.size V1 V2 := by rw [← hV]; exact (Below.refl _ _).alloc (Nat.le_refl _) _
        have hb3 := hb2.trans (hal2.mono hb2.size)
        have xr : SlR intC (fun b => M0 b ∨ (Value.slice A2 L2.length c2).ownBlock = some b) V2 (.slice (some ⟨V1.heap.size, 0, none⟩) 1 1) [id] := by rw [← hV]; exact SlR.built (C := intC) (cs := [.int .i64 id]) _ ⟨rfl, hz1, hz2⟩ (fun b hb => hb.elim (fun h => h.elim) fun h => own2.lt b h)
        have own3 := own2.ext hal2
        clear own2 hV hal2 hbl2 hgr2 hor2
        have hS := HS.out V2 hb3
        refine HK.out _ _ (fun _ => hS) ?_
        clear HK
        go_simp
        refine anyD_one (i := 11) (by kernel_rfl) rfl rfl (fun K hK => ?_)
        have HK := Lib.hid hK
        clear hK hS
        refine wp_append_Own intC (M := M0) (v := .slice A2 L2.length c2) (l := L2) (l' := [id]) TInts (.tmp 51) (.tmp 57) rfl rfl own3 rfl xr (by have := HlL2.out; simp only [maxLen, List.length_singleton]; omega) (by have := HlL2.out; simp only [List.length_singleton]; omega) hb3.size ?_
        intro A4 c4 L4 V4 hL4 own4 hbl4 hgr4 hor4
        have hb4 := hb3.trans hbl4
        have HlL4 := Lib.hid (show L4.length = k + 1 by rw [hL4.out, List.length_append, HlL2.out]; rfl)
        clear own3 xr hbl4 hgr4 hor4
        have hS := HS.out V4 hb4
        refine HK.out _ _ (fun _ => hS) ?_
        clear HK
        go_simp
        refine anyD_one (i := 15) (by kernel_rfl) rfl rfl (fun K hK => ?_)
        have HK := Lib.hid hK
        clear hK hS
        refine wp_append_Own intC (M := M0) (v := .slice A4 L4.length c4) (l := L4) (l' := L.drop k) TInts (.tmp 58) (.tmp 61) rfl rfl own4 rfl (MB.sub' (Hr2.out V4 hb4) fun b h => own4.base b h) (by have := HlL4.out; rw [hl2]; unfold maxLen; omega) (by have := HlL4.out; rw [hl2]; omega) hb4.size ?_
        intro A5 c5 L5 V5 hL5 own5 hbl5 hgr5 hor5
        have hb5 := hb4.trans hbl5
        clear own4 hbl5 hgr5 hor5
        have hS := HS.out V5 hb5
        refine HK.out _ _ (fun _ => hS) ?_
        clear HK
        go_simp
        (refine anyD_l5 (i := 16) (v := ?_) rfl (by kernel_rfl) (fun _ _ _ h => h) (.inl ⟨by kernel_rfl, fun W9 hW9 => ?_⟩) hS ?_; rotate_left; · (obtain ⟨hw0, hw1⟩ := hW9; go_simp; rfl))
        go_simp
        refine anyD_done (by kernel_rfl) ?_ _
        have Hb5 := Lib.hid hb5; have Hown5 := Lib.hid own5; have HL5 := Lib.hid (show L5 = L.take k ++ [id] ++ L.drop k by rw [hL5.out, hL4.out, hL2.out, List.nil_append])
        clear hb5 own5 hS hL5 hL4 hL2 hb4 hb3 hb2 HlL2 HlL4
        generalize (if c = k then A else Option.map (fun x => x.add k) A) = A61
        go_wp2_with fail
        go_meet
        case rel => exact ⟨A5, c5, L5, rfl, HL5, Hown5.out, Hb5.out⟩
       ·refine ⟨_, rfl, rfl, fun K hK => ?_⟩
        have HK := Lib.hid hK
        clear hK hS
        unfold Oper.wp
        go_simp
        generalize hV : World.alloc V0 (.cells #[.int .i64 id] 3) = V1
        have hal2 : Below V0.heap.size V0 V1 := by rw [← hV]; exact (Below.refl _ _).alloc (Nat.le_refl _) _
        have hb2 := HBV.out.trans (hal2.mono HBV.out.size)
        have xr1 : SlR intC (MB M0 V1.heap.size) V1 (.slice (some ⟨V0.heap.size, 0, none⟩) 1 1) [id] := by rw [← hV]; exact (SlR.built (C := intC) (M := M0) (cs := [.int .i64 id]) _ ⟨rfl, hz1, hz2⟩ (fun b hb => hb.elim)).toMB
        clear hV hal2
        have hS := HS.out V1 hb2
        refine HK.out _ _ (fun _ => hS) ?_
        clear HK
        go_simp
        refine anyD_one (i := 4) (by kernel_rfl) rfl rfl (fun K hK => ?_)
        have HK := Lib.hid hK
        clear hK hS
        refine wp_append_Own intC (M := M0) (v := .slice none 0 0) (l := []) (l' := L.take k) TInts (.tmp 47) (.tmp 50) rfl rfl (Own.nil intC M0 V1 w3.heap.size 3) rfl (MB.sub' (Hr1.out V1 hb2) fun b h => by cases h) (by rw [hl1]; unfold maxLen; simp; omega) (by rw [hl1]; simp; omega) hb2.size ?_
        intro A2 c2 L2 V2 hL2 own3 hbl2 hgr2 hor2
        have HlL2 := Lib.hid (show L2.length = k by rw [hL2.out, List.nil_append, hl1])
        have hb3 := hb2.trans hbl2
        have xr := (xr1.ext (grow_below hgr2 rfl)).sub (M' := fun b => M0 b ∨ (Value.slice A2 L2.length c2).ownBlock = some b) fun b _ hor => hor.elim (fun h => h.elim) fun h => .inr (by rcases hor2 with h2 | h2 <;> rw [h2] at h <;> first | (cases h; done) | (injection h with h; omega))
        clear xr1 hbl2 hgr2 hor2
        have hS := HS.out V2 hb3
        refine HK.out _ _ (fun _ => hS) ?_
        clear HK
        go_simp
        refine anyD_one (i := 11) (by kernel_rfl) rfl rfl (fun K hK => ?_)
        have HK := Lib.hid hK
        clear hK hS
        refine wp_append_Own intC (M := M0) (v := .slice A2 L2.length c2) (l := L2) (l' := [id]) TInts (.tmp 51) (.tmp 57) rfl rfl own3 rfl xr (by have := HlL2.out; simp only [maxLen, List.length_singleton]; omega) (by have := HlL2.out; simp only [List.length_singleton]; omega) hb3.size ?_
        intro A4 c4 L4 V4 hL4 own4 hbl4 hgr4 hor4
        have hb4 := hb3.trans hbl4
        have HlL4 := Lib.hid (show L4.length = k + 1 by rw [hL4.out, List.length_append, HlL2.out]; rfl)
        clear own3 xr hbl4 hgr4 hor4
        have hS := HS.out V4 hb4
        refine HK.out _ _ (fun _ => hS) ?_
        clear HK
        go_simp
        refine anyD_one (i := 15) (by kernel_rfl) rfl rfl (fun K hK => ?_)
        have HK := Lib.hid hK
        clear hK hS
        refine wp_append_Own intC (M := M0) (v := .slice A4 L4.length c4) (l := L4) (l' := L.drop k) TInts (.tmp 58) (.tmp 61) rfl rfl own4 rfl (MB.sub' (Hr2.out V4 hb4) fun b h => own4.base b h) (by have := HlL4.out; rw [hl2]; unfold maxLen; omega) (by have := HlL4.out; rw [hl2]; omega) hb4.size ?_
        intro A5 c5 L5 V5 hL5 own5 hbl5 hgr5 hor5
        have hb5 := hb4.trans hbl5
        clear own4 hbl5 hgr5 hor5
        have hS := HS.out V5 hb5
        refine HK.out _ _ (fun _ => hS) ?_
        clear HK
        go_simp
        (refine anyD_l5 (i := 16) (v := ?_) rfl (by kernel_rfl) (fun _ _ _ h => h) (.inl ⟨by kernel_rfl, fun W9 hW9 => ?_⟩) hS ?_; rotate_left; · (obtain ⟨hw0, hw1⟩ := hW9; go_simp; rfl))
        go_simp
        refine anyD_done (by kernel_rfl) ?_ _
        have Hb5 := Lib.hid hb5; have Hown5 := Lib.hid own5; have HL5 := Lib.hid (show L5 = L.take k ++ [id] ++ L.drop k by rw [hL5.out, hL4.out, hL2.out, List.nil_append])
        clear hb5 own5 hS hL5 hL4 hL2 hb4 hb3 hb2 HlL2 HlL4
        generalize (if c = k then A else Option.map (fun x => x.add k) A) = A61
        go_wp2_with fail
        go_meet
        case rel => exact ⟨A5, c5, L5, rfl, HL5, Hown5.out, Hb5.out⟩
      case rest =>
      obtain ⟨A9, c9, L9, rfl, HL9, hown9, hb9⟩ := hcut
      obtain ⟨w4, rfl⟩ : ∃ W, W = wc := ⟨_, rfl⟩
      have Hown9 := Lib.hid hown9; have Hb9 := Lib.hid hb9
      clear hown9 hb9 x0 x1
      obtain ⟨T, hT⟩ : ∃ T, L.map sc = T := ⟨_, rfl⟩
      rw [hT] at HOs
      have HOs4 := Lib.hid (HOs.out.ext Hb9.out)
      have HT := Lib.hid hT
      have hlT : T.length = n := by rw [← hT, List.length_map, Hn.out]
      have hl1 : (T.take k).length = k := by rw [List.length_take, hlT]; omega
      have hl2 : (T.drop k).length = n - k := by rw [List.length_drop, hlT]
      clear hT
      go_upto_region 15 with fail
      go_cut [12] from 15 to 76 (fun v wc => ∃ (A10 : Option Addr) (c10 : Nat) (T9 : List Int), v = .slice A10 T9.length c10 ∧ Hid (T9 = T.take k ++ [s] ++ T.drop k) ∧ Own intC M0 wc w4.heap.size 3 (.slice A10 T9.length c10) T9 ∧ Below w4.heap.size w4 wc)
      case first =>
       have hkc : k ≤ c' := by omega
       have hnc : n ≤ c' := by omega
       have hki2 : (k : Int) ≤ (n : Int) := by omega
       have Hr1 := Lib.hid (show ∀ W, Below w4.heap.size w4 W → SlR intC (fun b => w4.heap.size ≤ b) W (.slice A' k c') (T.take k) from fun W hW => ((HOs4.out.read0.toMB.sub fun b _ h => .inr h).ext hW).front (by first | omega | (rw [Hn.out]; exact hkn)))
       have Hr2 := Lib.hid (show ∀ W, Below w4.heap.size w4 W → SlR intC (fun b => w4.heap.size ≤ b) W (.slice (if c' = k then A' else Option.map (fun x => x.add k) A') (n - k) (c' - k)) (T.drop k) from fun W hW => ((HOs4.out.read0.toMB.sub fun b _ h => .inr h).ext hW).back (by first | omega | (rw [Hn.out]; exact hkn)))
       have hSS : ∀ W, Below w4.heap.size w4 W → True := fun _ _ => trivial
       have HS := Lib.hid hSS
       have hS := HS.out _ (below_drewN' w4.heap.size w4 1)
       clear hSS
       refine wp_region_D (fun W => True) (fun _ => false) (by kernel_rfl) ?_
       change anyD _ _ _ _ _ _ _ _ _ (w4.drewN 1)
       have hbV := below_drewN' w4.heap.size w4 1
       generalize w4.drewN 1 = V0 at hS hbV ⊢
       have HBV := Lib.hid hbV
       clear hbV
       (refine anyD_l5 (i := 0) (v := ?_) rfl (by kernel_rfl) (fun _ _ _ h => h) (.inl ⟨by kernel_rfl, fun W9 hW9 => ?_⟩) hS ?_; rotate_left; · (go_simp; rfl))
       (refine anyD_l5 (i := 1) (v := ?_) rfl (by kernel_rfl) (fun _ _ _ h => h) (.inl ⟨by kernel_rfl, fun W9 hW9 => ?_⟩) hS ?_; rotate_left; · (go_simp; rfl))
       (refine anyD_l5 (i := 2) (v := ?_) rfl (by kernel_rfl) (fun _ _ _ h => h) (.inl ⟨by kernel_rfl, fun W9 hW9 => ?_⟩) hS ?_; rotate_left; · (go_simp; rfl))
       (refine anyD_l5 (i := 3) (v := ?_) rfl (by kernel_rfl) (fun _ _ _ h => h) (.inl ⟨by kernel_rfl, fun W9 hW9 => ?_⟩) hS ?_; rotate_left; · (go_simp; rfl))
       (refine anyD_l5 (i := 5) (v := ?_) rfl (by kernel_rfl) (fun _ _ _ h => h) (.inl ⟨by kernel_rfl, fun W9 hW9 => ?_⟩) hS ?_; rotate_left; · (go_simp; rfl))
       (refine anyD_l5 (i := 8) (v := ?_) rfl (by kernel_rfl) (fun _ _ _ h => h) (.inl ⟨by kernel_rfl, fun W9 hW9 => ?_⟩) hS ?_; rotate_left; · (go_simp; rfl))
       go_simp
       (refine anyD_l5 (i := 9) (v := ?_) rfl (by kernel_rfl) (fun _ _ _ h => h) (.inl ⟨by kernel_rfl, fun W9 hW9 => ?_⟩) hS ?_; rotate_left; · (go_simp; rfl))
       (refine anyD_l5 (i := 10) (v := ?_) rfl (by kernel_rfl) (fun _ _ _ h => h) (.inl ⟨by kernel_rfl, fun W9 hW9 => ?_⟩) hS ?_; rotate_left; · (go_simp; rfl))
       go_simp
       refine anyD_pick [4, 6] (by kernel_rfl) (by decide) ?_
       intro j hj
       simp only [List.mem_cons, List.not_mem_nil, or_false] at hj
       rcases hj with rfl | rfl
       ·refine ⟨_, rfl, rfl, fun K hK => ?_⟩
        have HK := Lib.hid hK
        clear hK hS
        refine wp_append_Own intC (M := M0) (v := .slice none 0 0) (l := []) (l' := T.take k) TInts (.tmp 63) (.tmp 66) rfl rfl (Own.nil intC M0 V0 w4.heap.size 3) rfl (MB.sub' (Hr1.out V0 HBV.out) fun b h => by cases h) (by rw [hl1]; unfold maxLen; simp; omega) (by rw [hl1]; simp; omega) HBV.out.size ?_
        intro A2 c2 L2 V1 hL2 own2 hbl2 hgr2 hor2
        have HlL2 := Lib.hid (show L2.length = k by rw [hL2.out, List.nil_append, hl1])
        have hb2 := HBV.out.trans hbl2
        have hS := HS.out V1 hb2
        refine HK.out _ _ (fun _ => hS) ?_
        clear HK
        go_simp
        refine anyD_one (i := 6) (by kernel_rfl) rfl rfl (fun K hK => ?_)
        have HK := Lib.hid hK
        clear hK hS
        unfold Oper.wp
        go_simp
        generalize hV : World.alloc V1 (.cells #[.int .i64 s] 3) = V2
        have hal2 : Below V1.heap.size V1 V2 := by rw [← hV]; exact (Below.refl _ _).alloc (Nat.le_refl _) _
        have hb3 := hb2.trans (hal2.mono hb2.size)
        have xr : SlR intC (fun b => M0 b ∨ (Value.slice A2 L2.length c2).ownBlock = some b) V2 (.slice (some ⟨V1.heap.size, 0, none⟩) 1 1) [s] := by rw [← hV]; exact SlR.built (C := intC) (cs := [.int .i64 s]) _ ⟨rfl, (by omega), (by omega)⟩ (fun b hb => hb.elim (fun h => h.elim) fun h => own2.lt b h)
        have own3 := own2.ext hal2
        clear own2 hV hal2 hbl2 hgr2 hor2
        have hS := HS.out V2 hb3
        refine HK.out _ _ (fun _ => hS) ?_
        clear HK
        go_simp
        refine anyD_one (i := 7) (by kernel_rfl) rfl rfl (fun K hK => ?_)
        have HK := Lib.hid hK
        clear hK hS
        refine wp_append_Own intC (M := M0) (v := .slice A2 L2.length c2) (l := L2) (l' := [s]) TInts (.tmp 67) (.tmp 69) rfl rfl own3 rfl xr (by have := HlL2.out; simp only [maxLen, List.length_singleton]; omega) (by have := HlL2.out; simp only [List.length_singleton]; omega) hb3.size ?_
        intro A4 c4 L4 V4 hL4 own4 hbl4 hgr4 hor4
        have hb4 := hb3.trans hbl4
        have HlL4 := Lib.hid (show L4.length = k + 1 by rw [hL4.out, List.length_append, HlL2.out]; rfl)
        clear own3 xr hbl4 hgr4 hor4
        have hS := HS.out V4 hb4
        refine HK.out _ _ (fun _ => hS) ?_
        clear HK
        go_simp
        refine anyD_one (i := 11) (by kernel_rfl) rfl rfl (fun K hK => ?_)
        have HK := Lib.hid hK
        clear hK hS
        refine wp_append_Own intC (M := M0) (v := .slice A4 L4.length c4) (l := L4) (l' := T.drop k) TInts (.tmp 70) (.tmp 73) rfl rfl own4 rfl (MB.sub' (Hr2.out V4 hb4) fun b h => own4.base b h) (by have := HlL4.out; rw [hl2]; unfold maxLen; omega) (by have := HlL4.out; rw [hl2]; omega) hb4.size ?_
        intro A5 c5 L5 V5 hL5 own5 hbl5 hgr5 hor5
        have hb5 := hb4.trans hbl5
        clear own4 hbl5 hgr5 hor5
        have hS := HS.out V5 hb5
        refine HK.out _ _ (fun _ => hS) ?_
        clear HK
        go_simp
        (refine anyD_l5 (i := 12) (v := ?_) rfl (by kernel_rfl) (fun _ _ _ h => h) (.inl ⟨by kernel_rfl, fun W9 hW9 => ?_⟩) hS ?_; rotate_left; · (go_simp; rfl))
        go_simp
        refine anyD_done (by kernel_rfl) ?_ _
        have Hb5 := Lib.hid hb5; have Hown5 := Lib.hid own5; have HL5 := Lib.hid (show L5 = T.take k ++ [s] ++ T.drop k by rw [hL5.out, hL4.out, hL2.out, List.nil_append])
        clear hb5 own5 hS hL5 hL4 hL2 hb4 hb3 hb2 HlL2 HlL4
        generalize (if c' = k then A' else Option.map (fun x => x.add k) A') = A61
        go_wp2_with fail
        go_meet
        case rel => exact ⟨A5, c5, L5, rfl, HL5, Hown5.out, Hb5.out⟩
       ·refine ⟨_, rfl, rfl, fun K hK => ?_⟩
        have HK := Lib.hid hK
        clear hK hS
        unfold Oper.wp
        go_simp
        generalize hV : World.alloc V0 (.cells #[.int .i64 s] 3) = V1
        have hal2 : Below V0.heap.size V0 V1 := by rw [← hV]; exact (Below.refl _ _).alloc (Nat.le_refl _) _
        have hb2 := HBV.out.trans (hal2.mono HBV.out.size)
        have xr1 : SlR intC (MB M0 V1.heap.size) V1 (.slice (some ⟨V0.heap.size, 0, none⟩) 1 1) [s] := by rw [← hV]; exact (SlR.built (C := intC) (M := M0) (cs := [.int .i64 s]) _ ⟨rfl, (by omega), (by omega)⟩ (fun b hb => hb.elim)).toMB
        clear hV hal2
        have hS := HS.out V1 hb2
        refine HK.out _ _ (fun _ => hS) ?_
        clear HK
        go_simp
        refine anyD_one (i := 4) (by kernel_rfl) rfl rfl (fun K hK => ?_)
        have HK := Lib.hid hK
        clear hK hS
        refine wp_append_Own intC (M := M0) (v := .slice none 0 0) (l := []) (l' := T.take k) TInts (.tmp 63) (.tmp 66) rfl rfl (Own.nil intC M0 V1 w4.heap.size 3) rfl (MB.sub' (Hr1.out V1 hb2) fun b h => by cases h) (by rw [hl1]; unfold maxLen; simp; omega) (by rw [hl1]; simp; omega) hb2.size ?_
        intro A2 c2 L2 V2 hL2 own3 hbl2 hgr2 hor2
        have HlL2 := Lib.hid (show L2.length = k by rw [hL2.out, List.nil_append, hl1])
        have hb3 := hb2.trans hbl2
        have xr := (xr1.ext (grow_below hgr2 rfl)).sub (M' := fun b => M0 b ∨ (Value.slice A2 L2.length c2).ownBlock = some b) fun b _ hor => hor.elim (fun h => h.elim) fun h => .inr (by rcases hor2 with h2 | h2 <;> rw [h2] at h <;> first | (cases h; done) | (injection h with h; omega))
        clear xr1 hbl2 hgr2 hor2
        have hS := HS.out V2 hb3
        refine HK.out _ _ (fun _ => hS) ?_
        clear HK
        go_simp
        refine anyD_one (i := 7) (by kernel_rfl) rfl rfl (fun K hK => ?_)
        have HK := Lib.hid hK
        clear hK hS
        refine wp_append_Own intC (M := M0) (v := .slice A2 L2.length c2) (l := L2) (l' := [s]) TInts (.tmp 67) (.tmp 69) rfl rfl own3 rfl xr (by have := HlL2.out; simp only [maxLen, List.length_singleton]; omega) (by have := HlL2.out; simp only [List.length_singleton]; omega) hb3.size ?_
        intro A4 c4 L4 V4 hL4 own4 hbl4 hgr4 hor4
        have hb4 := hb3.trans hbl4
        have HlL4 := Lib.hid (show L4.length = k + 1 by rw [hL4.out, List.length_append, HlL2.out]; rfl)
        clear own3 xr hbl4 hgr4 hor4
        have hS := HS.out V4 hb4
        refine HK.out _ _ (fun _ => hS) ?_
        clear HK
        go_simp
        refine anyD_one (i := 11) (by kernel_rfl) rfl rfl (fun K hK => ?_)
        have HK := Lib.hid hK
        clear hK hS
        refine wp_append_Own intC (M := M0) (v := .slice A4 L4.length c4) (l := L4) (l' := T.drop k) TInts (.tmp 70) (.tmp 73) rfl rfl own4 rfl (MB.sub' (Hr2.out V4 hb4) fun b h => own4.base b h) (by have := HlL4.out; rw [hl2]; unfold maxLen; omega) (by have := HlL4.out; rw [hl2]; omega) hb4.size ?_
        intro A5 c5 L5 V5 hL5 own5 hbl5 hgr5 hor5
        have hb5 := hb4.trans hbl5
        clear own4 hbl5 hgr5 hor5
        have hS := HS.out V5 hb5
        refine HK.out _ _ (fun _ => hS) ?_
        clear HK
        go_simp
        (refine anyD_l5 (i := 12) (v := ?_) rfl (by kernel_rfl) (fun _ _ _ h => h) (.inl ⟨by kernel_rfl, fun W9 hW9 => ?_⟩) hS ?_; rotate_left; · (go_simp; rfl))
        go_simp
        refine anyD_done (by kernel_rfl) ?_ _
        have Hb5 := Lib.hid hb5; have Hown5 := Lib.hid own5; have HL5 := Lib.hid (show L5 = T.take k ++ [s] ++ T.drop k by rw [hL5.out, hL4.out, hL2.out, List.nil_append])
        clear hb5 own5 hS hL5 hL4 hL2 hb4 hb3 hb2 HlL2 HlL4
        generalize (if c' = k then A' else Option.map (fun x => x.add k) A') = A61
        go_wp2_with fail
        go_meet
        case rel => exact ⟨A5, c5, L5, rfl, HL5, Hown5.out, Hb5.out⟩
      case rest =>
      obtain ⟨A10, c10, T9, rfl, HT9, hown10, hb11⟩ := hcut
      obtain ⟨w5, rfl⟩ : ∃ W, W = wc := ⟨_, rfl⟩
      have Hown10 := Lib.hid hown10; have Hb11 := Lib.hid hb11
      clear hown10 hb11
      go_wp2_with fail
      go_roundw
      case rel =>
       have e1 : L9 = Rk.ordRef sc ((ids.take (i + 1)).filter fun id => Sr.matchesF (f + 1) q (Sr.docF (ids, ts) id)) := by rw [HL9.out, ← Hins.out, Hst.out, if_pos trivial, ← hL.out]
       have e2 : T9 = L9.map sc := by rw [HT9.out, HL9.out, ← HT.out, List.map_append, List.map_append, List.map_take, List.map_drop, List.map_singleton, Hs.out]
       have e3 : T9.length = L9.length := by rw [e2, List.length_map]
       have e4 : L9.length = n + 1 := by rw [HL9.out]; simp only [List.length_append, List.length_take, List.length_drop, List.length_singleton, Hn.out]; omega
       have hle := Hb3.out.size
       have hle2 := Hb9.out.size
       exact ⟨i + 1, A9, c9, A10, c10, L9, by omega, by go_num, rfl, by rw [e3], Lib.hid e1, by omega, (Hown9.out.ext Hb11.out).lower hle, by have := Hown10.out.lower (Nat.le_trans hle hle2); rw [e3, e2] at this; exact this, Hb3.out.trans ((Hb9.out.mono hle).trans (Hb11.out.mono (Nat.le_trans hle hle2)))⟩
      case measure => simp [intOf]; omega
  ·have hii : ¬ (i : Int) < (ids.length : Int) := by omega
   have hres : L = Rk.ordRef sc (ids.filter fun id => Sr.matchesF (f + 1) q (Sr.docF (ids, ts) id)) := by
    rw [hL.out, List.take_of_length_le (by omega)]
   have Hres := Lib.hid hres
   have Hbf := Lib.hid (Hq.out.2.2.1.trans (hb0.mono Hq.out.2.2.1.size)); have Hown := Lib.hid (own.lower (Nat.le_trans Hq.out.2.2.1.size hb1.size))
   clear hres own owns hb hb0 hL
   go_wp2_with fail
   go_ret
   exact ⟨A, c, L, rfl, Hres, by first | exact Hown.out | (have := Hown.out; rw [hg] at this; exact this), by first | exact Hbf.out | (have := Hbf.out; rw [hg] at this; exact this)⟩
end Go.Proofs.YtnlhocbaighedaaGreatDoor
