/-
  Contracts and plain facts, one after another: The reference's Matches; The reference's Found; Queries, as the rows take them.
-/
import Derived.Test.YtnlhocbaighedaaGreatDoorR24
import Derived.Test.YtnlhocbaighedaaGreatDoorR8
import Derived.Test.YtnlhocbaighedaaGreatDoorR1
import Derived.Test.YtnlhocbaighedaaGreatDoorR19
import Derived.Test.YtnlhocbaighedaaGreatDoorR17
import Derived.Test.YtnlhocbaighedaaGreatDoorR10
namespace Go.Proofs.YtnlhocbaighedaaGreatDoor
open Go.RowKit
set_option linter.unusedVariables false
/-- a node of a valid query, and the nodes below it -/
def Good (f : Nat) (q : Q) : Prop := ∀ p ∈ Q.pre f q, Q.errOf p = 0
theorem Good.part {f : Nat} {q p : Q} (h : Good (f + 1) q) (hp : p ∈ q.parts) : Good f p := fun r hr => h r (by rw [Q.pre]; exact .tail _ (List.mem_flatMap.2 ⟨p, hp, hr⟩))
theorem Good.self {f : Nat} {q : Q} (h : Good (f + 1) q) : Q.errOf q = 0 := h q (by rw [Q.pre]; exact .head _)
theorem near_range {q : Q} (h : Q.errOf q = 0) (hk : q.kind = 5) : 1 ≤ q.num ∧ q.num ≤ 50 := by
 unfold Q.errOf at h
 split at h
 ·cases h
 ·split at h
  ·cases h
  ·split at h
   ·cases h
   ·rename_i h2
    omega
theorem rstem_ok (s : Str) (hs : s.length ≤ maxLen) (w : World) : Calls Tryz.prog 52 #[.string (bs s)] w fun e w' => e = .returned (.string (bs (Sm.stem s))) ∧ Below w.heap.size w w' := stem_ok _ s (Nat.le_refl _) hs w
set_option maxRecDepth 100000 in
set_option maxHeartbeats 8000000 in
theorem matches_ok : ∀ (f : Nat) (q : Q) (v : Value) (lv : Value) (l : List Str) (w : World), QAt f M0 w v q → q.bulk ≤ 1048576 → Good (f + 1) q → SlR strC M0 w lv l → (∀ s ∈ l, s.length ≤ 4398046511104) → l.length ≤ 5001 →
  Calls Tryz.prog 32 #[v, lv] w fun e w' => e = .returned (.bool (Sr.matchesF (f + 1) q l)) ∧ Below w.heap.size w w' := by
 intro f
 induction f using Nat.strongRecOn with | _ f ih => ?_
 intro q v lv l w hq hbk hgd hl hls hlen
 obtain ⟨A, c, rfl, k1, t1, n1, hv⟩ := hq
 obtain ⟨Al, cl, rfl, _, _⟩ := hl.form
 have hnt := Sr.node_text hgd.self
 obtain ⟨hk18, hw23, hw4, hw5, hw8⟩ := hnt
 have hnr := near_range hgd.self
 have hbe := Q.bulk_eq q
 have htl : q.text.length ≤ 1048576 := by omega
 have hpl := Q.bulks_len q.parts
 obtain ⟨res, hres⟩ : ∃ r, Sr.matchesF (f + 1) q l = r := ⟨_, rfl⟩
 rw [hres]
 rw [Sr.matchesF] at hres
 have hgp : ∀ p ∈ q.parts, Good f p := fun p hp => hgd.part hp
 have hbp : ∀ p ∈ q.parts, p.bulk ≤ 1048576 := fun p hp => by have := Q.bulks_mem hp; omega
 obtain ⟨⟨k, t, n, ps⟩, rfl⟩ : ∃ q', q' = q := ⟨q, rfl⟩
 simp only [Q.kind_node, Q.text_node, Q.num_node, Q.parts_node] at *
 have hpm : ps.length ≤ 1048576 := by omega
 obtain ⟨W0, g, hW, hg, hs, kq, hal⟩ := boxA w #[.int .i64 k, .string (bs t), .int .i64 n, .slice A ps.length c] 28
 replace hv := hv.ext hal
 replace hl := hl.ext hal
 obtain ⟨q0, q1, q2, q3, _⟩ := kq.four
 rw [← hW, ← hg] at q3
 have HW := Lib.hid hW; have Hg := Lib.hid hg
 have Hres := Lib.hid hres; have Ih := Lib.hid ih; have Hls := Lib.hid hls; have Hgp := Lib.hid hgp; have Hbp := Lib.hid hbp
 have H23 := Lib.hid hw23; have H4 := Lib.hid hw4; have H5 := Lib.hid hw5; have H8 := Lib.hid hw8; have Hnr := Lib.hid hnr
 have Hkq := Lib.hid kq; have Hal := Lib.hid hal
 clear hnr hW hs hg hres ih hls hgp hbp hw23 hw4 hw5 hw8 hgd hbe hpl k1 t1 n1 kq hal q0 q1 q2 hbk
 go_enter Tryz.func32, Tryz.ntmps32
 go_wp2_with fail
 rw [HW.out, Hg.out]
 clear q3
 go_loopw [5, 6] (fun nv iv wr => ∃ m : Nat, m ≤ ps.length ∧ iv = .int .i64 (m : Int) ∧ nv = .int .i64 ((ps.take m).countP (fun p => Sr.matchesF f p l) : Nat) ∧ Below W0.heap.size W0 wr) (fun _ iv _ => ps.length - (intOf iv).toNat)
 case atStart => exact ⟨0, Nat.zero_le _, rfl, rfl, Below.refl _ _⟩
 case round =>
  obtain ⟨m, hm, rfl, rfl, hb⟩ := hrel
  obtain ⟨q0, q1, q2, q3, _⟩ := (Hkq.out.ext hb).four
  obtain ⟨cn, hcn⟩ : ∃ cn, (ps.take m).countP (fun p => Sr.matchesF f p l) = cn := ⟨_, rfl⟩
  have hcl : cn ≤ m := by
   have : (ps.take m).countP (fun p => Sr.matchesF f p l) ≤ (ps.take m).length := List.countP_le_length
   rw [List.length_take] at this
   omega
  by_cases hlt : m < ps.length
  ·obtain ⟨b, off, g2, A2, c2, rfl, hfg, _, _, s0, s1, s2, s3, hqa⟩ := (hv.ext hb).qAt hlt
   have hst := Sr.count_step (fun p => Sr.matchesF f p l) hlt
   rw [hcn] at hst ⊢
   have hc := Ih.out g2 (by omega) ps[m] _ (.slice Al l.length cl) l wr hqa (Hbp.out _ (List.getElem_mem hlt)) (by rw [← hfg]; exact Hgp.out _ (List.getElem_mem hlt)) (hl.ext hb) Hls.out hlen
   rw [← hfg] at hc
   obtain ⟨p, hp⟩ : ∃ p, p = ps[m] := ⟨_, rfl⟩
   rw [← hp] at s0 s1 s2 s3 hc hst
   obtain ⟨r, hr⟩ : ∃ r, Sr.matchesF f p l = r := ⟨_, rfl⟩
   simp only [hr] at hc hst
   have Hc := Lib.hid hc; have Hst := Lib.hid hst; have Hb := Lib.hid hb
   have hmi : (m : Int) < (ps.length : Int) := by omega
   have hm0 : (0 : Int) ≤ (m : Int) := by omega
   clear hc hst hb hqa hp hr hcn q0 q1 q2
   go_wp2_with fail
   refine Hc.out.mono ?_
   rintro e w9 ⟨rfl, hb9⟩
   clear q3 s0 s1 s2 s3
   cases r with
   | true =>
    go_wp2
    go_roundw
    case rel => exact ⟨m + 1, by omega, by go_num, by rw [Hst.out]; go_num, Hb.out.trans (hb9.mono Hb.out.size)⟩
    case measure => simp [intOf]; omega
   | false =>
    go_wp2
    go_roundw
    case rel => exact ⟨m + 1, by omega, by go_num, by rw [Hst.out]; rfl, Hb.out.trans (hb9.mono Hb.out.size)⟩
    case measure => simp [intOf]; omega
  ·obtain rfl : m = ps.length := by omega
   rw [List.take_length] at hcn
   rw [List.take_length, hcn]
   have hres := Hres.out
   simp only [hcn] at hres
   obtain ⟨wo, rfl⟩ : ∃ W, W = wr := ⟨_, rfl⟩
   have HR := Lib.hid hres
   have Hb := Lib.hid hb
   have hend : ∀ w9, Below wo.heap.size wo w9 → Below w.heap.size w w9 := fun w9 h => Hal.out.trans ((Hb.out.trans (h.mono Hb.out.size)).mono Hal.out.size)
   have Hend := Lib.hid hend
   clear hres hb hcn hend hv
   by_cases c6 : k = 6
   ·subst c6
    have hr := HR.out
    rw [if_pos rfl] at hr
    have Hr := Lib.hid hr
    clear hr HR H23 H4 H5 H8
    by_cases e : cn = ps.length
    ·subst e
     go_wp2
     go_ret
     exact ⟨ret_bool (by rw [← Hr.out]; simp), Hend.out _ (Below.refl _ _)⟩
    ·have e2 : ((cn : Int) == (ps.length : Int)) = false := beq_eq_false_iff_ne.2 (by omega)
     go_wp2
     go_ret
     exact ⟨ret_bool (by rw [← Hr.out, decide_eq_false e]), Hend.out _ (Below.refl _ _)⟩
   by_cases c7 : k = 7
   ·subst c7
    have hr := HR.out
    rw [if_neg (by decide), if_pos rfl] at hr
    have Hr := Lib.hid hr
    clear hr HR H23 H4 H5 H8
    go_wp2
    go_ret
    exact ⟨ret_bool (by rw [← Hr.out]), Hend.out _ (Below.refl _ _)⟩
   by_cases c8 : k = 8
   ·subst c8
    have hr := HR.out
    rw [if_neg (by decide), if_neg (by decide), if_pos rfl] at hr
    have Hr := Lib.hid hr
    clear hr HR H23 H4 H5 H8
    by_cases e : cn = 0
    ·subst e
     go_wp2
     go_ret
     exact ⟨ret_bool (by rw [← Hr.out]; simp), Hend.out _ (Below.refl _ _)⟩
    ·have e2 : ((cn : Int) == 0) = false := beq_eq_false_iff_ne.2 (by omega)
     go_wp2
     go_ret
     exact ⟨ret_bool (by rw [← Hr.out, decide_eq_false e]), Hend.out _ (Below.refl _ _)⟩
   by_cases c1 : k = 1
   ·subst c1
    have hr : res = true := by have h := HR.out; simp at h; exact h
    have Hr := Lib.hid hr
    clear hr HR H23 H4 H5 H8
    go_wp2
    go_ret
    exact ⟨ret_bool (by rw [Hr.out]), Hend.out _ (Below.refl _ _)⟩
   have hr : (if k = 3 then Sr.prefixM l t else if k = 5 then Sr.nearM l ((splitS t).headD []) ((splitS t).getD 1 []) n else (List.range l.length).any fun i => Sr.rowM l i (splitS t)) = res := by
    have h := HR.out
    simp only [c6, c7, c8, c1, if_false] at h
    exact h
   have d6 : (k == 6) = false := by simpa using c6
   have d7 : (k == 7) = false := by simpa using c7
   have d8 : (k == 8) = false := by simpa using c8
   have d1 : (k == 1) = false := by simpa using c1
   have hsp := refSplit_ok t (by omega) wo
   have Hsp := Lib.hid hsp
   clear hsp HR c6 c7 c8 c1 H8
   have hlo := hl.ext Hb.out
   have hql : ∀ wr, Below wo.heap.size wo wr → Blk wr g 28 #[.int .i64 k, .string (bs t), .int .i64 n, .slice A ps.length c] := fun wr h => Hkq.out.ext (Hb.out.trans (h.mono Hb.out.size))
   have Hql := Lib.hid hql
   clear hql hl hpm hm hcl
   by_cases c3 : k = 3
   ·subst c3
    rw [if_pos rfl] at hr
    have Hr := Lib.hid hr
    clear hr H23 H4 H5 Hnr
    go_wp2_with fail
    refine Hsp.out.mono ?_
    rintro e w1 ⟨Aw, cw, Lw, rfl, _, _, hb1⟩
    clear q0 q1 q2 q3 Hsp
    go_wp2_with fail
    go_loopw [8] (fun iv wr => ∃ i : Nat, i ≤ l.length ∧ iv = .int .i64 (i : Int) ∧ Hid (∀ (j : Nat) (hj : j < l.length), j < i → ((splitS l[j]).any fun v => t.isPrefixOf v) = false) ∧ Below wo.heap.size wo wr) (fun iv _ => l.length - (intOf iv).toNat)
    case atStart => exact ⟨0, Nat.zero_le _, rfl, Lib.hid fun j _ h => absurd h (by omega), hb1⟩
    case round =>
     obtain ⟨i, hi, rfl, hpre, hbi⟩ := hrel
     obtain ⟨wi, rfl⟩ : ∃ W, W = wr := ⟨_, rfl⟩
     obtain ⟨q0, q1, q2, q3, _⟩ := (Hql.out wi hbi).four
     have hi0 : (0 : Int) ≤ (i : Int) := by omega
     by_cases hlt : i < l.length
     ·obtain ⟨b, off, rfl, _, _, p0, _⟩ := (hlo.ext hbi).strAt hlt
      have hs := refSplit_ok l[i] (Hls.out _ (List.getElem_mem hlt)) wi
      obtain ⟨y, hy⟩ : ∃ y, y = l[i] := ⟨_, rfl⟩
      rw [← hy] at p0 hs
      have Hs := Lib.hid hs; have Hy := Lib.hid hy; have Hbi := Lib.hid hbi
      have hii : (i : Int) < (l.length : Int) := by omega
      clear hs hy hbi
      go_wp2_with fail
      refine Hs.out.mono ?_
      rintro e w2 ⟨Ax, cx, X, rfl, hX, ownx, hb2⟩
      have rx := ownx.read0
      have hxl := rx.len_le
      unfold maxLen at hxl
      clear q0 q1 q2 q3 p0 Hs ownx
      go_wp2_with fail
      go_loopw [10] (fun kv wr => ∃ j : Nat, j ≤ X.length ∧ kv = .int .i64 (j : Int) ∧ Hid (∀ (a : Nat) (ha : a < X.length), a < j → t.isPrefixOf X[a] = false) ∧ Below w2.heap.size w2 wr) (fun kv _ => X.length - (intOf kv).toNat)
      case atStart => exact ⟨0, Nat.zero_le _, rfl, Lib.hid fun j _ h => absurd h (by omega), Below.refl _ _⟩
      case round =>
       obtain ⟨j, hj, rfl, hpj, hbj⟩ := hrel
       obtain ⟨wj, rfl⟩ : ∃ W, W = wr := ⟨_, rfl⟩
       have hbij : Below wo.heap.size wo wj := Hbi.out.trans ((hb2.trans (hbj.mono hb2.size)).mono Hbi.out.size)
       obtain ⟨q0, q1, q2, q3, _⟩ := (Hql.out wj hbij).four
       have hj0 : (0 : Int) ≤ (j : Int) := by omega
       by_cases hlj : j < X.length
       ·obtain ⟨b5, off5, rfl, _, _, p5, hxm⟩ := (rx.ext hbj).strAt hlj
        obtain ⟨x, hx⟩ : ∃ x, x = X[j] := ⟨_, rfl⟩
        rw [← hx] at p5 hxm
        have hpt := Sr.pre_take t x
        have hji : (j : Int) < (X.length : Int) := by omega
        unfold maxLen at hxm
        have Hbij := Lib.hid hbij; have Hbj := Lib.hid hbj; have Hx := Lib.hid hx
        clear hbij hbj hx
        by_cases hle : t.length ≤ x.length
        ·rw [decide_eq_true hle, Bool.true_and] at hpt
         have hle1 : (t.length : Int) ≤ (x.length : Int) := by omega
         have ht0 : (0 : Int) ≤ (t.length : Int) := by omega
         have htt : x.take (t.length - 0) = x.take t.length := rfl
         cases hb9 : (x.take t.length == t) with
         | true =>
          rw [hb9] at hpt
          have Hpt := Lib.hid hpt
          clear hpt
          go_wp2_with fail
          go_region
          go_wp2
          go_ret
          exact ⟨ret_bool (by
           rw [← Hr.out]
           refine Eq.symm (List.any_eq_true.2 ⟨l[i], List.getElem_mem _, ?_⟩)
           rw [← Hy.out, ← hX.out]
           exact List.any_eq_true.2 ⟨X[j], List.getElem_mem _, by rw [← Hx.out]; exact Hpt.out⟩), Hend.out _ Hbij.out.drew⟩
         | false =>
          rw [hb9] at hpt
          have Hpt := Lib.hid hpt
          clear hpt
          go_wp2_with fail
          go_region
          go_wp2
          go_roundw
          case rel => exact ⟨j + 1, by omega, by go_num, Lib.hid fun a ha haj => by
           by_cases e : a = j
           ·subst e; rw [← Hx.out]; exact Hpt.out
           ·exact hpj.out a ha (by omega), Hbj.out.drew⟩
          case measure => simp [intOf]; omega
        ·rw [decide_eq_false hle, Bool.false_and] at hpt
         have hle1 : ¬ (t.length : Int) ≤ (x.length : Int) := by omega
         have Hpt := Lib.hid hpt
         clear hpt
         go_wp2_with fail
         go_region
         go_wp2
         go_roundw
         case rel => exact ⟨j + 1, by omega, by go_num, Lib.hid fun a ha haj => by
          by_cases e : a = j
          ·subst e; rw [← Hx.out]; exact Hpt.out
          ·exact hpj.out a ha (by omega), Hbj.out.drew⟩
         case measure => simp [intOf]; omega
       ·clear q0 q1 q2 q3
        go_wp2
        go_roundw
        case rel => exact ⟨i + 1, by omega, by go_num, Lib.hid fun a ha hai => by
         by_cases e : a = i
         ·subst e
          rw [← Hy.out, ← hX.out, List.any_eq_false]
          intro x hx
          obtain ⟨z, hz, rfl⟩ := List.mem_iff_getElem.1 hx
          rw [hpj.out z hz (by omega)]; decide
         ·exact hpre.out a ha (by omega), hbij⟩
        case measure => simp [intOf]; omega
     ·go_wp2
      go_ret
      exact ⟨ret_bool (by
       rw [← Hr.out]
       unfold Sr.prefixM
       rw [List.any_eq_false.2]
       intro x hx
       obtain ⟨z, hz, rfl⟩ := List.mem_iff_getElem.1 hx
       rw [hpre.out z hz (by omega)]; decide), Hend.out _ hbi⟩
   rw [if_neg c3] at hr
   have d3 : (k == 3) = false := by simpa using c3
   by_cases c5 : k = 5
   ·subst c5
    rw [if_pos rfl] at hr
    obtain ⟨wa, wb, hwab, hwa, hwb⟩ := H5.out rfl
    have hnn := Hnr.out rfl
    rw [hwab] at hr
    simp only [List.headD_cons, List.getD_cons_succ, List.getD_cons_zero] at hr
    have hwla : wa.length ≤ 1048576 := Nat.le_trans ((splitS_mem t wa (by rw [hwab]; exact .head _)).2) htl
    have hwlb : wb.length ≤ 1048576 := Nat.le_trans ((splitS_mem t wb (by rw [hwab]; exact .tail _ (.head _))).2) htl
    have Hr := Lib.hid hr; have Hwab := Lib.hid hwab
    clear hr H23 H4 H5 Hnr hwab hwa hwb
    go_wp2_with fail
    refine Hsp.out.mono ?_
    rintro e w1 ⟨Aw, cw, Lw, rfl, hLw, ownw, hb1⟩
    obtain rfl : Lw = [wa, wb] := hLw.out.trans Hwab.out
    have rw0 := ownw.read0
    clear q0 q1 q2 q3 Hsp hLw ownw
    go_wp2_with fail
    go_loopw [8] (fun iv wr => ∃ i : Nat, i ≤ l.length ∧ iv = .int .i64 (i : Int) ∧ Hid (∀ j, j < i → ((List.range l.length).any fun k => (!decide (k = j) && (decide (-n ≤ (k : Int) - (j : Int)) && decide ((k : Int) - (j : Int) ≤ n))) && (Sr.standsF l j (Sm.stem wa) && Sr.standsF l k (Sm.stem wb))) = false) ∧ Below wo.heap.size wo wr ∧ Below w1.heap.size w1 wr) (fun iv _ => l.length - (intOf iv).toNat)
    case atStart => exact ⟨0, Nat.zero_le _, rfl, Lib.hid fun j h => absurd h (by omega), hb1, Below.refl _ _⟩
    case round =>
     obtain ⟨i, hi, rfl, hpre, hbi, hbi1⟩ := hrel
     obtain ⟨wi, rfl⟩ : ∃ W, W = wr := ⟨_, rfl⟩
     obtain ⟨q0, q1, q2, q3, _⟩ := (Hql.out wi hbi).four
     have hi0 : (0 : Int) ≤ (i : Int) := by omega
     by_cases hlt : i < l.length
     ·have hii : (i : Int) < (l.length : Int) := by omega
      have Hbi := Lib.hid hbi; have Hbi1 := Lib.hid hbi1
      go_wp2_with fail
      clear q0 q1 q2 q3 hbi hbi1
      go_loopw [11] (fun kv wr => ∃ j : Nat, j ≤ l.length ∧ kv = .int .i64 (j : Int) ∧ Hid (∀ k, k < j → ((!decide (k = i) && (decide (-n ≤ (k : Int) - (i : Int)) && decide ((k : Int) - (i : Int) ≤ n))) && (Sr.standsF l i (Sm.stem wa) && Sr.standsF l k (Sm.stem wb))) = false) ∧ Below wi.heap.size wi wr) (fun kv _ => l.length - (intOf kv).toNat)
      case atStart => exact ⟨0, Nat.zero_le _, rfl, Lib.hid fun j h => absurd h (by omega), Below.refl _ _⟩
      case round =>
       obtain ⟨j, hj, rfl, hpj, hbj⟩ := hrel
       obtain ⟨wj, rfl⟩ : ∃ W, W = wr := ⟨_, rfl⟩
       have hbij := Hbi.out.trans (hbj.mono Hbi.out.size)
       have hbij1 := Hbi1.out.trans (hbj.mono Hbi1.out.size)
       by_cases hlj : j < l.length
       ·obtain ⟨q0, q1, q2, q3, _⟩ := (Hql.out wj hbij).four
        have hji : (j : Int) < (l.length : Int) := by omega
        have next : ∀ w9, Below wj.heap.size wj w9 → Below wi.heap.size wi w9 := fun w9 h => hbj.trans (h.mono hbj.size)
        have Next := Lib.hid next
        have hneg : IntKind.i64.wrap (-n) = -n := IntWalk.i64_in _ (by omega)
        have hsub : IntKind.i64.wrap ((j : Int) - (i : Int)) = (j : Int) - (i : Int) := IntWalk.i64_in _ (by omega)
        obtain ⟨b7, o7, hA7, _, _, v0, _⟩ := (rw0.ext hbij1).strAt (k := 0) (by simp)
        obtain ⟨b8, o8, hA8, _, _, v1, _⟩ := (rw0.ext hbij1).strAt (k := 1) (by simp)
        subst hA7
        injection hA8 with hA8
        injection hA8 with hA81 hA82
        subst hA81 hA82
        simp only [List.getElem_cons_zero, List.getElem_cons_succ, Nat.add_zero] at v0 v1
        have Hbij := Lib.hid hbij; have Hbij1 := Lib.hid hbij1
        have skip : ((!decide (j = i) && (decide (-n ≤ (j : Int) - (i : Int)) && decide ((j : Int) - (i : Int) ≤ n))) && (Sr.standsF l i (Sm.stem wa) && Sr.standsF l j (Sm.stem wb))) = false → ∀ k, k < j + 1 → ((!decide (k = i) && (decide (-n ≤ (k : Int) - (i : Int)) && decide ((k : Int) - (i : Int) ≤ n))) && (Sr.standsF l i (Sm.stem wa) && Sr.standsF l k (Sm.stem wb))) = false := fun h k hk => by
         by_cases e : k = j
         ·subst e; exact h
         ·exact hpj.out k (by omega)
        have Skip := Lib.hid skip
        clear next hbij hbij1 hbj skip
        by_cases he : j = i
        ·subst he
         have hne : ((j : Int) != (j : Int)) = false := by simp
         go_wp2_with fail
         go_roundw
         case rel => exact ⟨j + 1, by omega, by go_num, Lib.hid (Skip.out (by simp)), Next.out _ (Below.refl _ _)⟩
         case measure => simp [intOf]; omega
        ·have hne : ((j : Int) != (i : Int)) = true := by simp; omega
         have hin := in_ok ((j : Int) - (i : Int)) (-n) n wj
         obtain ⟨r1, hr1⟩ : ∃ r, (decide (-n ≤ (j : Int) - (i : Int)) && decide ((j : Int) - (i : Int) ≤ n)) = r := ⟨_, rfl⟩
         rw [hr1] at hin
         have Hin := Lib.hid hin; have Hr1 := Lib.hid hr1
         clear hin hr1
         go_wp2_with fail
         refine Hin.out.mono ?_
         rintro e w4 ⟨rfl, rfl⟩
         clear Hin
         cases r1 with
         | false =>
          go_wp2_with fail
          go_roundw
          case rel => exact ⟨j + 1, by omega, by go_num, Lib.hid (Skip.out (by rw [Hr1.out]; simp)), Next.out _ (Below.refl _ _)⟩
          case measure => simp [intOf]; omega
         | true =>
          go_wp2_with fail
          refine (rstem_ok wa (by unfold maxLen; omega) wj).mono ?_
          rintro e w5 ⟨rfl, hb5⟩
          have hst := stands_ok (.slice Al l.length cl) l (i : Int) (Sm.stem wa) w5 (hlo.ext (Hbij.out.trans (hb5.mono Hbij.out.size))) (by omega) (by omega) Hls.out
          rw [Int.toNat_natCast] at hst
          obtain ⟨r2, hr2⟩ : ∃ r, Sr.standsF l i (Sm.stem wa) = r := ⟨_, rfl⟩
          rw [hr2] at hst
          have Hst := Lib.hid hst; have Hr2 := Lib.hid hr2
          replace v1 := (hb5.cell (World.block_lt_of_cell? _ _ v1)).trans v1
          clear hst hr2 v0 q0 q1 q2 q3
          go_wp2_with fail
          refine Hst.out.mono ?_
          rintro e w6 ⟨rfl, hb6⟩
          have hb56 := hb5.trans (hb6.mono hb5.size)
          replace v1 := (hb6.cell (World.block_lt_of_cell? _ _ v1)).trans v1
          clear Hst hb5 hb6
          cases r2 with
          | false =>
           go_wp2_with fail
           go_roundw
           case rel => exact ⟨j + 1, by omega, by go_num, Lib.hid (Skip.out (by rw [Hr2.out]; simp)), Next.out _ hb56⟩
           case measure => simp [intOf]; omega
          | true =>
           go_wp2_with fail
           refine (rstem_ok wb (by unfold maxLen; omega) w6).mono ?_
           rintro e w7 ⟨rfl, hb7⟩
           have hst := stands_ok (.slice Al l.length cl) l (j : Int) (Sm.stem wb) w7 (hlo.ext (Hbij.out.trans ((hb56.trans (hb7.mono hb56.size)).mono Hbij.out.size))) (by omega) (by omega) Hls.out
           rw [Int.toNat_natCast] at hst
           obtain ⟨r3, hr3⟩ : ∃ r, Sr.standsF l j (Sm.stem wb) = r := ⟨_, rfl⟩
           rw [hr3] at hst
           have Hst := Lib.hid hst; have Hr3 := Lib.hid hr3
           clear hst hr3 v1
           go_wp2_with fail
           refine Hst.out.mono ?_
           rintro e w8 ⟨rfl, hb8⟩
           have hb58 := hb56.trans ((hb7.trans (hb8.mono hb7.size)).mono hb56.size)
           clear Hst hb56 hb7 hb8
           cases r3 with
           | false =>
            go_wp2_with fail
            go_roundw
            case rel => exact ⟨j + 1, by omega, by go_num, Lib.hid (Skip.out (by rw [Hr3.out]; simp)), Next.out _ hb58⟩
            case measure => simp [intOf]; omega
           | true =>
            go_wp2_with fail
            go_ret
            exact ⟨ret_bool (by
             rw [← Hr.out]
             unfold Sr.nearM
             refine Eq.symm (Sr.range_any hlt (Sr.range_any hlj ?_))
             rw [Hr1.out, Hr2.out, Hr3.out, decide_eq_false he]; rfl), Hend.out _ (Hbij.out.trans (hb58.mono Hbij.out.size))⟩
       ·go_wp2_with fail
        go_roundw
        case rel => exact ⟨i + 1, by omega, by go_num, Lib.hid fun a hai => by
         by_cases e : a = i
         ·subst e; exact Sr.range_none fun k hk => hpj.out k (by omega)
         ·exact hpre.out a (by omega), hbij, hbij1⟩
        case measure => simp [intOf]; omega
     ·go_wp2_with fail
      go_ret
      exact ⟨ret_bool (by
       rw [← Hr.out]
       unfold Sr.nearM
       rw [Sr.range_none fun a ha => hpre.out a (by omega)]), Hend.out _ hbi⟩
   rw [if_neg c5] at hr
   have d5 : (k == 5) = false := by simpa using c5
   have hwl : ∀ x ∈ splitS t, x.length ≤ 1048576 := fun x hx => Nat.le_trans (splitS_mem t x hx).2 htl
   have hwc : (splitS t).length ≤ 1048577 := by have := splitS_size t; omega
   obtain ⟨ws, hws⟩ : ∃ ws, splitS t = ws := ⟨_, rfl⟩
   rw [hws] at hr hwl hwc
   have Hr := Lib.hid hr; have Hwl := Lib.hid hwl; have Hws := Lib.hid hws
   clear hr hwl hws H23 H4 H5 Hnr c3 c5
   go_wp2_with fail
   refine Hsp.out.mono ?_
   rintro e w1 ⟨Aw, cw, Lw, rfl, hLw, ownw, hb1⟩
   obtain rfl : Lw = ws := hLw.out.trans Hws.out
   have rw0 := ownw.read0
   clear q0 q1 q2 q3 Hsp hLw ownw Hws
   go_wp2_with fail
   go_loopw [8] (fun iv wr => ∃ i : Nat, i ≤ l.length ∧ iv = .int .i64 (i : Int) ∧ Hid (∀ j, j < i → Sr.rowM l j Lw = false) ∧ Below wo.heap.size wo wr ∧ Below w1.heap.size w1 wr) (fun iv _ => l.length - (intOf iv).toNat)
   case atStart => exact ⟨0, Nat.zero_le _, rfl, Lib.hid fun j h => absurd h (by omega), hb1, Below.refl _ _⟩
   case round =>
    obtain ⟨i, hi, rfl, hpre, hbi, hbi1⟩ := hrel
    obtain ⟨wi, rfl⟩ : ∃ W, W = wr := ⟨_, rfl⟩
    obtain ⟨q0, q1, q2, q3, _⟩ := (Hql.out wi hbi).four
    have hi0 : (0 : Int) ≤ (i : Int) := by omega
    by_cases hlt : i < l.length
    ·have hii : (i : Int) < (l.length : Int) := by omega
     have Hbi := Lib.hid hbi; have Hbi1 := Lib.hid hbi1
     go_wp2_with fail
     clear q0 q1 q2 q3 hbi hbi1
     go_loopw [12, 13] (fun av kv wr => ∃ j : Nat, j ≤ Lw.length ∧ kv = .int .i64 (j : Int) ∧ av = .bool ((List.range j).all fun k => Sr.standsF l (i + k) (Sm.stem (Lw.getD k []))) ∧ Below wi.heap.size wi wr) (fun _ kv _ => Lw.length - (intOf kv).toNat)
     case atStart => exact ⟨0, Nat.zero_le _, rfl, rfl, Below.refl _ _⟩
     case round =>
      obtain ⟨j, hj, rfl, rfl, hbj⟩ := hrel
      obtain ⟨wj, rfl⟩ : ∃ W, W = wr := ⟨_, rfl⟩
      have hbij := Hbi.out.trans (hbj.mono Hbi.out.size)
      have hbij1 := Hbi1.out.trans (hbj.mono Hbi1.out.size)
      have hstp := Sr.range_all_step j fun k => Sr.standsF l (i + k) (Sm.stem (Lw.getD k []))
      obtain ⟨ac, hac⟩ : ∃ r, ((List.range j).all fun k => Sr.standsF l (i + k) (Sm.stem (Lw.getD k []))) = r := ⟨_, rfl⟩
      rw [hac] at hstp ⊢
      by_cases hlj : j < Lw.length
      ·have hji : (j : Int) < (Lw.length : Int) := by omega
       have hj0 : (0 : Int) ≤ (j : Int) := by omega
       rw [Ix.getD_get hlj] at hstp
       cases ac with
       | false =>
        have Hst := Lib.hid hstp
        clear hstp hac
        go_wp2_with fail
        go_roundw
        case rel => exact ⟨j + 1, by omega, by go_num, by rw [Hst.out]; rfl, hbj⟩
        case measure => simp [intOf]; omega
       | true =>
        obtain ⟨b7, o7, rfl, _, _, v0, _⟩ := (rw0.ext hbij1).strAt hlj
        have hxl := Hwl.out _ (List.getElem_mem hlj)
        obtain ⟨x, hx⟩ : ∃ x, x = Lw[j] := ⟨_, rfl⟩
        rw [← hx] at v0 hxl hstp
        have hadd : IntKind.i64.wrap ((i : Int) + (j : Int)) = ((i + j : Nat) : Int) := by rw [show (i : Int) + (j : Int) = ((i + j : Nat) : Int) by omega]; exact IntWalk.i64_in _ (by omega)
        obtain ⟨r2, hr2⟩ : ∃ r, Sr.standsF l (i + j) (Sm.stem x) = r := ⟨_, rfl⟩
        rw [hr2, Bool.true_and] at hstp
        have Hst := Lib.hid hstp; have Hr2 := Lib.hid hr2; have Hbij := Lib.hid hbij
        clear hstp hac hx hr2 hbij hbij1
        go_wp2_with fail
        refine (rstem_ok x (by unfold maxLen; omega) wj).mono ?_
        rintro e w5 ⟨rfl, hb5⟩
        have hst := stands_ok (.slice Al l.length cl) l ((i + j : Nat) : Int) (Sm.stem x) w5 (hlo.ext (Hbij.out.trans (hb5.mono Hbij.out.size))) (by omega) (by omega) Hls.out
        rw [Int.toNat_natCast, Hr2.out] at hst
        have Hs := Lib.hid hst
        clear hst v0
        go_wp2_with fail
        refine Hs.out.mono ?_
        rintro e w6 ⟨rfl, hb6⟩
        have hb56 := hb5.trans (hb6.mono hb5.size)
        have hbn := hbj.trans (hb56.mono hbj.size)
        clear Hs hb5 hb6 hb56
        go_wp2_with fail
        go_roundw
        case rel => exact ⟨j + 1, by omega, by go_num, by rw [Hst.out], hbn⟩
        case measure => simp [intOf]; omega
      ·obtain rfl : j = Lw.length := by omega
       have hrow : Sr.rowM l i Lw = ac := hac
       have Hrow := Lib.hid hrow
       clear hstp hac hrow
       cases ac with
       | true =>
        go_wp2_with fail
        go_ret
        exact ⟨ret_bool (by rw [← Hr.out]; exact (Sr.range_any (p := fun i => Sr.rowM l i Lw) hlt Hrow.out).symm), Hend.out _ hbij⟩
       | false =>
        go_wp2_with fail
        go_roundw
        case rel => exact ⟨i + 1, by omega, by go_num, Lib.hid fun a hai => by
         by_cases e : a = i
         ·subst e; exact Hrow.out
         ·exact hpre.out a (by omega), hbij, hbij1⟩
        case measure => simp [intOf]; omega
    ·go_wp2_with fail
     go_ret
     exact ⟨ret_bool (by rw [← Hr.out]; exact (Sr.range_none (p := fun i => Sr.rowM l i Lw) fun a ha => hpre.out a (by omega)).symm), Hend.out _ hbi⟩
end Go.Proofs.YtnlhocbaighedaaGreatDoor
namespace Go.Proofs.YtnlhocbaighedaaGreatDoor
open Go.RowKit
set_option linter.unusedVariables false
theorem filter_step {α : Type} (p : α → Bool) {l : List α} {m : Nat} (h : m < l.length) : (l.take (m + 1)).filter p = (l.take m).filter p ++ (if p l[m] then [l[m]] else []) := by
 rw [List.take_succ_eq_append_getElem h, List.filter_append]
 congr 1
 cases hp : p l[m] <;> simp [hp]
end Go.Proofs.YtnlhocbaighedaaGreatDoor
namespace Go.Proofs.YtnlhocbaighedaaGreatDoor
open Go.ChangeShapes Go.WideShapes Go.ChangeAt Go.RowKit
theorem slice_read {P : Program} {t e : TypeId} {α : Type} {C : Codec α} {bk : α → Nat} {H : Type} {enc : TypeId × Value → H} {w : World} {spare : Nat → Bool} {held : Bool} {m : Nat} {cs : List Value} {x : DataW H × List MemPlace} (hn : P.cellsOf e = C.n)
  (hR : ∀ (cs' : List Value) (y : DataW H × List MemPlace), DataW.trod enc P w 0 spare held m e cs' = some y → ∃ a : α, C.rd M0 w cs' a ∧ bk a ≤ Rows.uptoBulk y.1) (ht : P.underlying t = some (.slice e)) (h : DataW.trod enc P w 0 spare held (m + 1) t cs = some x) :
  ∃ a : List α, (sliceC C).rd M0 w cs a ∧ 1 + (a.map bk).sum ≤ Rows.uptoBulk x.1 := by
 rcases DataW.trod_slice ht h with ⟨rfl, rfl⟩ | ⟨a, len, cap, elems, rest, n, hmn, rfl, rfl, _, hl, hm, hlen, hel, _, _⟩
 ·exact ⟨[], ⟨_, rfl, SlR.nil C M0 w⟩, by simp [Rows.uptoBulk]⟩
 ·obtain rfl : m = n := by omega
  rw [hn] at hel
  have each : ∀ i, i < len → ∃ y : α, (∃ cs' : List Value, cs'.length = C.n ∧ (∀ j, j < C.n → w.cell? ((a.add (i * C.n)).add j) = cs'[j]?) ∧ C.rd M0 w cs' y) ∧ ∀ (hi : i < elems.length), bk y ≤ Rows.uptoBulk (elems[i].1) := by
   intro i hi
   have h1 := hel i hi
   have hi' : i < elems.length := by omega
   rw [List.getElem?_eq_getElem hi', Option.bind_eq_some_iff] at h1
   obtain ⟨cs', hc', ht'⟩ := h1
   obtain ⟨_, hcl, hat⟩ := World.cells?_some hc'
   obtain ⟨y, hy1, hy2⟩ := hR cs' _ ht'
   exact ⟨y, ⟨cs', hcl, fun j hj => hat j hj, hy1⟩, fun _ => hy2⟩
  obtain ⟨l, hll, hp⟩ := exists_list len _ each
  obtain ⟨xs, hxl, hx⟩ := exists_list (len * C.n) (fun j (u : Value) => w.cell? (a.add j) = some u) (fun j hj => by
   have hq : j / C.n < len := (Nat.div_lt_iff_lt_mul C.pos).2 hj
   obtain ⟨y, ⟨cs', hcl, hat, _⟩, _⟩ := each _ hq
   have hm := Nat.mod_lt j C.pos
   have hc := hat (j % C.n) hm
   rw [add_add'] at hc
   have hdm := Nat.div_add_mod j C.n
   rw [Nat.mul_comm] at hdm
   rw [hdm] at hc
   rw [List.getElem?_eq_getElem (by omega)] at hc
   exact ⟨_, hc⟩)
  refine ⟨l, ⟨_, rfl, some a, len, cap, xs, rfl, hll.symm, hl, hm, ⟨by rw [hxl, hll], fun i hi => ?_⟩, fun h0 => ?_⟩, ?_⟩
  ·obtain ⟨⟨cs', hcl, hat, hrd⟩, _⟩ := hp i hi
   have hik : (i + 1) * C.n ≤ len * C.n := Nat.mul_le_mul_right _ (by omega)
   rw [Nat.add_mul, Nat.one_mul] at hik
   have : (xs.drop (i * C.n)).take C.n = cs' := by
    apply List.ext_getElem?
    intro j
    by_cases hj : j < C.n
    ·rw [List.getElem?_take, if_pos hj, List.getElem?_drop, ← hat j hj, add_add', hx (i * C.n + j) (by omega), List.getElem?_eq_getElem (by omega)]
    ·rw [List.getElem?_eq_none (by rw [List.length_take]; omega), List.getElem?_eq_none (by omega)]
   rw [this]
   exact hrd
  ·have hp := C.pos
   have h00 : 0 < xs.length := by rw [hxl]; exact Nat.mul_pos h0 hp
   have hc0 := hx 0 h00
   have hspot : a.spot = none := by
    have : a.add 0 = a := by simp [Addr.add]
    rw [this] at hc0
    exact World.cell?_spot hc0
   obtain ⟨b, off, spot⟩ := a
   simp only at hspot
   subst hspot
   have hlt := World.block_lt_of_cell? w _ hc0
   refine ⟨b, off, rfl, fun h => h.elim, by simpa [Addr.add] using hlt, fun j u hu => ?_⟩
   have hj : j < xs.length := (List.getElem?_eq_some_iff.1 hu).1
   have := hx j hj
   rw [Addr.add_lit] at this
   rw [this, ← hu, List.getElem?_eq_getElem hj]
  ·have := sum_le_of bk (fun y : DataW H × List MemPlace => Rows.uptoBulk y.1) l elems (by omega) fun i h1 h2 => (hp i h1).2 h2
   simp only [Rows.uptoBulk, bulk_all, List.map_map]
   have e : (Rows.uptoBulk ∘ fun x : DataW H × List MemPlace => x.1) = fun y : DataW H × List MemPlace => Rows.uptoBulk y.1 := rfl
   rw [e]
   omega
theorem bulks_sum (l : List Q) : Q.bulks l = (l.map Q.bulk).sum := by
 induction l with
 | nil => rfl
 | cons a l ih => rw [Q.bulks, ih, List.map_cons, List.sum_cons]
theorem trod_four {P : Program} {H : Type} {enc : TypeId × Value → H} {w : World} {spare : Nat → Bool} {held : Bool} {t : TypeId} {f0 f1 f2 f3 : Field} {fuel : Nat} {cs : List Value} {x : DataW H × List MemPlace} (ht : P.underlying t = some (.struct #[f0, f1, f2, f3])) (h : DataW.trod enc P w 0 spare held fuel t cs = some x) :
  ∃ y0 y1 y2 y3 n, fuel = n + 1 ∧ x.1 = .agg [y0.1, y1.1, y2.1, y3.1] ∧ cs.length = P.cellsOf t ∧ DataW.trod enc P w 0 spare held n f0.type ((cs.drop f0.offset).take (P.cellsOf f0.type)) = some y0 ∧
   DataW.trod enc P w 0 spare held n f1.type ((cs.drop f1.offset).take (P.cellsOf f1.type)) = some y1 ∧ DataW.trod enc P w 0 spare held n f2.type ((cs.drop f2.offset).take (P.cellsOf f2.type)) = some y2 ∧
   DataW.trod enc P w 0 spare held n f3.type ((cs.drop f3.offset).take (P.cellsOf f3.type)) = some y3 := by
 obtain ⟨xs, n, e, rfl, hl, hlen, hf⟩ := DataW.trod_struct ht h
 match xs, hlen with
 | [y0, y1, y2, y3], _ => exact ⟨y0, y1, y2, y3, n, e, rfl, hl, by simpa using hf 0 f0 rfl, by simpa using hf 1 f1 rfl, by simpa using hf 2 f2 rfl, by simpa using hf 3 f3 rfl⟩
theorem list_four {α : Type} {cs : List α} (h : cs.length = 4) : ∃ c0 c1 c2 c3, cs = [c0, c1, c2, c3] := by
 match cs, h with
 | [a, b, c, d], _ => exact ⟨a, b, c, d, rfl⟩
theorem query_read {H : Type} (enc : TypeId × Value → H) (w : World) (spare : Nat → Bool) (held : Bool) : ∀ (fuel : Nat) (cs : List Value) (x : DataW H × List MemPlace), DataW.trod enc Tryz.prog w 0 spare held fuel 28 cs = some x →
  ∃ q : Q, (qF fuel).rd M0 w cs q ∧ q.bulk ≤ Rows.uptoBulk x.1 := by
 intro fuel
 induction fuel using Nat.strongRecOn with
 | _ fuel ih =>
  intro cs x h
  obtain ⟨x0, x1, x2, x3, n, rfl, hx, hl, e0, e1, e2, e3⟩ := trod_four Tryz.underlying28 h
  have k0 : Tryz.prog.cellsOf 3 = 1 := by kernel_rfl
  have k1 : Tryz.prog.cellsOf 9 = 1 := by kernel_rfl
  have k3 : Tryz.prog.cellsOf 26 = 1 := by kernel_rfl
  have k4 : Tryz.prog.cellsOf 28 = 4 := by kernel_rfl
  rw [k4] at hl
  obtain ⟨c0, c1, c2, c3, rfl⟩ := list_four hl
  rw [k0] at e0
  rw [k1] at e1
  rw [k0] at e2
  rw [k3] at e3
  replace e0 : DataW.trod enc Tryz.prog w 0 spare held n 3 [c0] = some x0 := e0
  replace e1 : DataW.trod enc Tryz.prog w 0 spare held n 9 [c1] = some x1 := e1
  replace e2 : DataW.trod enc Tryz.prog w 0 spare held n 3 [c2] = some x2 := e2
  replace e3 : DataW.trod enc Tryz.prog w 0 spare held n 26 [c3] = some x3 := e3
  obtain ⟨a0, ⟨h0, b0, b0'⟩, _⟩ := (reads_int Tryz.underlying3 k0).2 H enc w spare held n _ x0 e0
  obtain ⟨a1, ⟨h1, b1⟩, g1⟩ := (reads_string Tryz.underlying9 k1).2 H enc w spare held n _ x1 e1
  obtain ⟨a2, ⟨h2, b2, b2'⟩, _⟩ := (reads_int Tryz.underlying3 k0).2 H enc w spare held n _ x2 e2
  cases n with
  | zero => simp [DataW.trod] at e3
  | succ m =>
   obtain ⟨a3, ⟨v, h3, s3⟩, g3⟩ := slice_read (C := qF m) (bk := Q.bulk) k4 (fun cs' y hy => ih m (by omega) cs' y hy) Tryz.underlying26 e3
   injection h0 with h0
   injection h1 with h1
   injection h2 with h2
   injection h3 with h3
   subst h0 h1 h2 h3
   refine ⟨.node a0 a1 a2 a3, ⟨c3, rfl, ⟨b0, b0'⟩, b1, ⟨b2, b2'⟩, s3.qMono (by omega)⟩, ?_⟩
   have p0 := bulk_pos x0.1
   have p2 := bulk_pos x2.1
   replace g1 : a1.length + 1 ≤ Rows.uptoBulk x1.1 := g1
   rw [hx]
   simp only [Rows.uptoBulk, bulk_all, List.map_cons, List.map_nil, List.sum_cons, List.sum_nil, Q.bulk, bulks_sum]
   omega
theorem query_arg {H : Type} {enc : TypeId × Value → H} {w : World} {spare : Nat → Bool} {held : Bool} {a : Array Value} {d : DataW H} {p : List MemPlace}
  (h : ∃ fuel, DataW.trod enc Tryz.prog w 0 spare held fuel 28 (Value.agg a).cells.toList = some (d, p)) : ∃ (f : Nat) (q : Q), QAt f M0 w (.agg a) q ∧ q.bulk ≤ Rows.uptoBulk d := by
 obtain ⟨fuel, h⟩ := h
 obtain ⟨q, h1, h2⟩ := query_read enc w spare held fuel _ _ h
 obtain ⟨g, _, hq⟩ := QAt.of_rd h1
 exact ⟨g, q, hq, h2⟩
end Go.Proofs.YtnlhocbaighedaaGreatDoor
