/-
  The reference's Matches.
-/
import Derived.Test.YtfjpedgddgbelaaGreatDoorG32
import Derived.Test.YtfjpedgddgbelaaGreatDoorG10
import Derived.Test.YtfjpedgddgbelaaGreatDoorIn
namespace Go.Proofs.YtfjpedgddgbelaaGreatDoor
open Go.RowKit
set_option linter.unusedVariables false
/-- a node of a valid query, and the nodes below it -/
def Good (f : Nat) (q : Q) : Prop := ∀ p ∈ Q.pre f q, Q.errOf p = 0
theorem Good.part {f : Nat} {q p : Q} (h : Good (f + 1) q) (hp : p ∈ q.parts) : Good f p := fun r hr => h r (by rw [Q.pre]; exact .tail _ (List.mem_flatMap.2 ⟨p, hp, hr⟩))
theorem Good.self {f : Nat} {q : Q} (h : Good (f + 1) q) : Q.errOf q = 0 := h q (by rw [Q.pre]; exact .head _)
theorem near_range {q : Q} (h : Q.errOf q = 0) (hk : q.kind = 5) : 1 ≤ q.num ∧ q.num ≤ 50 := by
  unfold Q.errOf at h
  split at h
  · cases h
  · split at h
    · cases h
    · split at h
      · cases h
      · rename_i h2
        omega
theorem rstem_ok (s : Str) (hs : s.length ≤ maxLen) (w : World) : Calls Tryz.prog 26 #[.string (bs s)] w fun e w' => e = .returned (.string (bs (Sm.stem s))) ∧ Below w.heap.size w w' := stem_ok _ s (Nat.le_refl _) hs w
set_option maxRecDepth 100000 in
set_option maxHeartbeats 8000000 in
theorem matches_ok : ∀ (f : Nat) (q : Q) (v : Value) (lv : Value) (l : List Str) (w : World), QAt f M0 w v q → q.bulk ≤ 1048576 → Good (f + 1) q → SlR strC M0 w lv l → (∀ s ∈ l, s.length ≤ 4398046511104) → l.length ≤ 5001 →
    Calls Tryz.prog 82 #[v, lv] w fun e w' => e = .returned (.bool (Sr.matchesF (f + 1) q l)) ∧ Below w.heap.size w w' := by
  intro f
  induction f using Nat.strongRecOn with | _ f ih => ?_
  intro q v lv l w hq hbk hgd hl hls hlen
  obtain ⟨A, c, rfl, k1, t1, n1, hv⟩ := hq
  obtain ⟨Al, cl, rfl, _, _⟩ := hl.form
  have hnt := Sr.node_text hgd.self
  obtain ⟨hk18, hw23, hw4, hw5, hw8⟩ := hnt
  have hnr := near_range hgd.self
  have hbe := Q.bulk_eq q
  have htl : q.text.length ≤ 1048576 := by omega
  have hpl := Q.bulks_len q.parts
  obtain ⟨res, hres⟩ : ∃ r, Sr.matchesF (f + 1) q l = r := ⟨_, rfl⟩
  rw [hres]
  rw [Sr.matchesF] at hres
  have hgp : ∀ p ∈ q.parts, Good f p := fun p hp => hgd.part hp
  have hbp : ∀ p ∈ q.parts, p.bulk ≤ 1048576 := fun p hp => by have := Q.bulks_mem hp; omega
  obtain ⟨⟨k, t, n, ps⟩, rfl⟩ : ∃ q', q' = q := ⟨q, rfl⟩
  simp only [Q.kind_node, Q.text_node, Q.num_node, Q.parts_node] at *
  have hpm : ps.length ≤ 1048576 := by omega
  obtain ⟨W0, g, hW, hg, hs, kq, hal⟩ := boxA w #[.int .i64 k, .string (bs t), .int .i64 n, .slice A ps.length c] 50
  replace hv := hv.ext hal
  replace hl := hl.ext hal
  obtain ⟨q0, q1, q2, q3, _⟩ := kq.four
  rw [← hW, ← hg] at q3
  have HW := Lib.hid hW; have Hg := Lib.hid hg
  have Hres := Lib.hid hres; have Ih := Lib.hid ih; have Hls := Lib.hid hls; have Hgp := Lib.hid hgp; have Hbp := Lib.hid hbp
  have H23 := Lib.hid hw23; have H4 := Lib.hid hw4; have H5 := Lib.hid hw5; have H8 := Lib.hid hw8; have Hnr := Lib.hid hnr
  have Hkq := Lib.hid kq; have Hal := Lib.hid hal
  clear hnr hW hs hg hres ih hls hgp hbp hw23 hw4 hw5 hw8 hgd hbe hpl k1 t1 n1 kq hal q0 q1 q2 hbk
  go_enter Tryz.func82, Tryz.ntmps82
  go_wp2_with fail
  rw [HW.out, Hg.out]
  clear q3
  go_loopw [5, 6] (fun nv iv wr => ∃ m : Nat, m ≤ ps.length ∧ iv = .int .i64 (m : Int) ∧ nv = .int .i64 ((ps.take m).countP (fun p => Sr.matchesF f p l) : Nat) ∧ Below W0.heap.size W0 wr) (fun _ iv _ => ps.length - (intOf iv).toNat)
  case atStart => exact ⟨0, Nat.zero_le _, rfl, rfl, Below.refl _ _⟩
  case round =>
    obtain ⟨m, hm, rfl, rfl, hb⟩ := hrel
    obtain ⟨q0, q1, q2, q3, _⟩ := (Hkq.out.ext hb).four
    obtain ⟨cn, hcn⟩ : ∃ cn, (ps.take m).countP (fun p => Sr.matchesF f p l) = cn := ⟨_, rfl⟩
    have hcl : cn ≤ m := by
      have : (ps.take m).countP (fun p => Sr.matchesF f p l) ≤ (ps.take m).length := List.countP_le_length
      rw [List.length_take] at this
      omega
    by_cases hlt : m < ps.length
    · obtain ⟨b, off, g2, A2, c2, rfl, hfg, _, _, s0, s1, s2, s3, hqa⟩ := (hv.ext hb).qAt hlt
      have hst := Sr.count_step (fun p => Sr.matchesF f p l) hlt
      rw [hcn] at hst ⊢
      have hc := Ih.out g2 (by omega) ps[m] _ (.slice Al l.length cl) l wr hqa (Hbp.out _ (List.getElem_mem hlt)) (by rw [← hfg]; exact Hgp.out _ (List.getElem_mem hlt)) (hl.ext hb) Hls.out hlen
      rw [← hfg] at hc
      obtain ⟨p, hp⟩ : ∃ p, p = ps[m] := ⟨_, rfl⟩
      rw [← hp] at s0 s1 s2 s3 hc hst
      obtain ⟨r, hr⟩ : ∃ r, Sr.matchesF f p l = r := ⟨_, rfl⟩
      simp only [hr] at hc hst
      have Hc := Lib.hid hc; have Hst := Lib.hid hst; have Hb := Lib.hid hb
      have hmi : (m : Int) < (ps.length : Int) := by omega
      have hm0 : (0 : Int) ≤ (m : Int) := by omega
      clear hc hst hb hqa hp hr hcn q0 q1 q2
      go_wp2_with fail
      refine Hc.out.mono ?_
      rintro e w9 ⟨rfl, hb9⟩
      clear q3 s0 s1 s2 s3
      cases r with
      | true =>
        go_wp2
        go_roundw
        case rel => exact ⟨m + 1, by omega, by go_num, by rw [Hst.out]; go_num, Hb.out.trans (hb9.mono Hb.out.size)⟩
        case measure => simp [intOf]; omega
      | false =>
        go_wp2
        go_roundw
        case rel => exact ⟨m + 1, by omega, by go_num, by rw [Hst.out]; rfl, Hb.out.trans (hb9.mono Hb.out.size)⟩
        case measure => simp [intOf]; omega
    · obtain rfl : m = ps.length := by omega
      rw [List.take_length] at hcn
      rw [List.take_length, hcn]
      have hres := Hres.out
      simp only [hcn] at hres
      obtain ⟨wo, rfl⟩ : ∃ W, W = wr := ⟨_, rfl⟩
      have HR := Lib.hid hres
      have Hb := Lib.hid hb
      have hend : ∀ w9, Below wo.heap.size wo w9 → Below w.heap.size w w9 := fun w9 h => Hal.out.trans ((Hb.out.trans (h.mono Hb.out.size)).mono Hal.out.size)
      have Hend := Lib.hid hend
      clear hres hb hcn hend hv
      by_cases c6 : k = 6
      · subst c6
        have hr := HR.out
        rw [if_pos rfl] at hr
        have Hr := Lib.hid hr
        clear hr HR H23 H4 H5 H8
        by_cases e : cn = ps.length
        · subst e
          go_wp2
          go_ret
          exact ⟨ret_bool (by rw [← Hr.out]; simp), Hend.out _ (Below.refl _ _)⟩
        · have e2 : ((cn : Int) == (ps.length : Int)) = false := beq_eq_false_iff_ne.2 (by omega)
          go_wp2
          go_ret
          exact ⟨ret_bool (by rw [← Hr.out, decide_eq_false e]), Hend.out _ (Below.refl _ _)⟩
      by_cases c7 : k = 7
      · subst c7
        have hr := HR.out
        rw [if_neg (by decide), if_pos rfl] at hr
        have Hr := Lib.hid hr
        clear hr HR H23 H4 H5 H8
        go_wp2
        go_ret
        exact ⟨ret_bool (by rw [← Hr.out]), Hend.out _ (Below.refl _ _)⟩
      by_cases c8 : k = 8
      · subst c8
        have hr := HR.out
        rw [if_neg (by decide), if_neg (by decide), if_pos rfl] at hr
        have Hr := Lib.hid hr
        clear hr HR H23 H4 H5 H8
        by_cases e : cn = 0
        · subst e
          go_wp2
          go_ret
          exact ⟨ret_bool (by rw [← Hr.out]; simp), Hend.out _ (Below.refl _ _)⟩
        · have e2 : ((cn : Int) == 0) = false := beq_eq_false_iff_ne.2 (by omega)
          go_wp2
          go_ret
          exact ⟨ret_bool (by rw [← Hr.out, decide_eq_false e]), Hend.out _ (Below.refl _ _)⟩
      by_cases c1 : k = 1
      · subst c1
        have hr : res = true := by have h := HR.out; simp at h; exact h
        have Hr := Lib.hid hr
        clear hr HR H23 H4 H5 H8
        go_wp2
        go_ret
        exact ⟨ret_bool (by rw [Hr.out]), Hend.out _ (Below.refl _ _)⟩
      have hr : (if k = 3 then Sr.prefixM l t else if k = 5 then Sr.nearM l ((splitS t).headD []) ((splitS t).getD 1 []) n else (List.range l.length).any fun i => Sr.rowM l i (splitS t)) = res := by
        have h := HR.out
        simp only [c6, c7, c8, c1, if_false] at h
        exact h
      have d6 : (k == 6) = false := by simpa using c6
      have d7 : (k == 7) = false := by simpa using c7
      have d8 : (k == 8) = false := by simpa using c8
      have d1 : (k == 1) = false := by simpa using c1
      have hsp := refSplit_ok t (by omega) wo
      have Hsp := Lib.hid hsp
      clear hsp HR c6 c7 c8 c1 H8
      have hlo := hl.ext Hb.out
      have hql : ∀ wr, Below wo.heap.size wo wr → Blk wr g 50 #[.int .i64 k, .string (bs t), .int .i64 n, .slice A ps.length c] := fun wr h => Hkq.out.ext (Hb.out.trans (h.mono Hb.out.size))
      have Hql := Lib.hid hql
      clear hql hl hpm hm hcl
      by_cases c3 : k = 3
      · subst c3
        rw [if_pos rfl] at hr
        have Hr := Lib.hid hr
        clear hr H23 H4 H5 Hnr
        go_wp2_with fail
        refine Hsp.out.mono ?_
        rintro e w1 ⟨Aw, cw, Lw, rfl, _, _, hb1⟩
        clear q0 q1 q2 q3 Hsp
        go_wp2_with fail
        go_loopw [8] (fun iv wr => ∃ i : Nat, i ≤ l.length ∧ iv = .int .i64 (i : Int) ∧ Hid (∀ (j : Nat) (hj : j < l.length), j < i → ((splitS l[j]).any fun v => t.isPrefixOf v) = false) ∧ Below wo.heap.size wo wr) (fun iv _ => l.length - (intOf iv).toNat)
        case atStart => exact ⟨0, Nat.zero_le _, rfl, Lib.hid fun j _ h => absurd h (by omega), hb1⟩
        case round =>
          obtain ⟨i, hi, rfl, hpre, hbi⟩ := hrel
          obtain ⟨wi, rfl⟩ : ∃ W, W = wr := ⟨_, rfl⟩
          obtain ⟨q0, q1, q2, q3, _⟩ := (Hql.out wi hbi).four
          have hi0 : (0 : Int) ≤ (i : Int) := by omega
          by_cases hlt : i < l.length
          · obtain ⟨b, off, rfl, _, _, p0, _⟩ := (hlo.ext hbi).strAt hlt
            have hs := refSplit_ok l[i] (Hls.out _ (List.getElem_mem hlt)) wi
            obtain ⟨y, hy⟩ : ∃ y, y = l[i] := ⟨_, rfl⟩
            rw [← hy] at p0 hs
            have Hs := Lib.hid hs; have Hy := Lib.hid hy; have Hbi := Lib.hid hbi
            have hii : (i : Int) < (l.length : Int) := by omega
            clear hs hy hbi
            go_wp2_with fail
            refine Hs.out.mono ?_
            rintro e w2 ⟨Ax, cx, X, rfl, hX, ownx, hb2⟩
            have rx := ownx.read0
            have hxl := rx.len_le
            unfold maxLen at hxl
            clear q0 q1 q2 q3 p0 Hs ownx
            go_wp2_with fail
            go_loopw [10] (fun kv wr => ∃ j : Nat, j ≤ X.length ∧ kv = .int .i64 (j : Int) ∧ Hid (∀ (a : Nat) (ha : a < X.length), a < j → t.isPrefixOf X[a] = false) ∧ Below w2.heap.size w2 wr) (fun kv _ => X.length - (intOf kv).toNat)
            case atStart => exact ⟨0, Nat.zero_le _, rfl, Lib.hid fun j _ h => absurd h (by omega), Below.refl _ _⟩
            case round =>
              obtain ⟨j, hj, rfl, hpj, hbj⟩ := hrel
              obtain ⟨wj, rfl⟩ : ∃ W, W = wr := ⟨_, rfl⟩
              have hbij : Below wo.heap.size wo wj := Hbi.out.trans ((hb2.trans (hbj.mono hb2.size)).mono Hbi.out.size)
              obtain ⟨q0, q1, q2, q3, _⟩ := (Hql.out wj hbij).four
              have hj0 : (0 : Int) ≤ (j : Int) := by omega
              by_cases hlj : j < X.length
              · obtain ⟨b5, off5, rfl, _, _, p5, hxm⟩ := (rx.ext hbj).strAt hlj
                obtain ⟨x, hx⟩ : ∃ x, x = X[j] := ⟨_, rfl⟩
                rw [← hx] at p5 hxm
                have hpt := Sr.pre_take t x
                have hji : (j : Int) < (X.length : Int) := by omega
                unfold maxLen at hxm
                have Hbij := Lib.hid hbij; have Hbj := Lib.hid hbj; have Hx := Lib.hid hx
                clear hbij hbj hx
                by_cases hle : t.length ≤ x.length
                · rw [decide_eq_true hle, Bool.true_and] at hpt
                  have hle1 : (t.length : Int) ≤ (x.length : Int) := by omega
                  have ht0 : (0 : Int) ≤ (t.length : Int) := by omega
                  have htt : x.take (t.length - 0) = x.take t.length := rfl
                  cases hb9 : (x.take t.length == t) with
                  | true =>
                    rw [hb9] at hpt
                    have Hpt := Lib.hid hpt
                    clear hpt
                    go_wp2_with fail
                    go_region
                    go_wp2
                    go_ret
                    exact ⟨ret_bool (by
                      rw [← Hr.out]
                      refine Eq.symm (List.any_eq_true.2 ⟨l[i], List.getElem_mem _, ?_⟩)
                      rw [← Hy.out, ← hX.out]
                      exact List.any_eq_true.2 ⟨X[j], List.getElem_mem _, by rw [← Hx.out]; exact Hpt.out⟩), Hend.out _ Hbij.out.drew⟩
                  | false =>
                    rw [hb9] at hpt
                    have Hpt := Lib.hid hpt
                    clear hpt
                    go_wp2_with fail
                    go_region
                    go_wp2
                    go_roundw
                    case rel => exact ⟨j + 1, by omega, by go_num, Lib.hid fun a ha haj => by
                      by_cases e : a = j
                      · subst e; rw [← Hx.out]; exact Hpt.out
                      · exact hpj.out a ha (by omega), Hbj.out.drew⟩
                    case measure => simp [intOf]; omega
                · rw [decide_eq_false hle, Bool.false_and] at hpt
                  have hle1 : ¬ (t.length : Int) ≤ (x.length : Int) := by omega
                  have Hpt := Lib.hid hpt
                  clear hpt
                  go_wp2_with fail
                  go_region
                  go_wp2
                  go_roundw
                  case rel => exact ⟨j + 1, by omega, by go_num, Lib.hid fun a ha haj => by
                    by_cases e : a = j
                    · subst e; rw [← Hx.out]; exact Hpt.out
                    · exact hpj.out a ha (by omega), Hbj.out.drew⟩
                  case measure => simp [intOf]; omega
              · clear q0 q1 q2 q3
                go_wp2
                go_roundw
                case rel => exact ⟨i + 1, by omega, by go_num, Lib.hid fun a ha hai => by
                  by_cases e : a = i
                  · subst e
                    rw [← Hy.out, ← hX.out, List.any_eq_false]
                    intro x hx
                    obtain ⟨z, hz, rfl⟩ := List.mem_iff_getElem.1 hx
                    rw [hpj.out z hz (by omega)]; decide
                  · exact hpre.out a ha (by omega), hbij⟩
                case measure => simp [intOf]; omega
          · go_wp2
            go_ret
            exact ⟨ret_bool (by
              rw [← Hr.out]
              unfold Sr.prefixM
              rw [List.any_eq_false.2]
              intro x hx
              obtain ⟨z, hz, rfl⟩ := List.mem_iff_getElem.1 hx
              rw [hpre.out z hz (by omega)]; decide), Hend.out _ hbi⟩
      rw [if_neg c3] at hr
      have d3 : (k == 3) = false := by simpa using c3
      by_cases c5 : k = 5
      · subst c5
        rw [if_pos rfl] at hr
        obtain ⟨wa, wb, hwab, hwa, hwb⟩ := H5.out rfl
        have hnn := Hnr.out rfl
        rw [hwab] at hr
        simp only [List.headD_cons, List.getD_cons_succ, List.getD_cons_zero] at hr
        have hwla : wa.length ≤ 1048576 := Nat.le_trans ((splitS_mem t wa (by rw [hwab]; exact .head _)).2) htl
        have hwlb : wb.length ≤ 1048576 := Nat.le_trans ((splitS_mem t wb (by rw [hwab]; exact .tail _ (.head _))).2) htl
        have Hr := Lib.hid hr; have Hwab := Lib.hid hwab
        clear hr H23 H4 H5 Hnr hwab hwa hwb
        go_wp2_with fail
        refine Hsp.out.mono ?_
        rintro e w1 ⟨Aw, cw, Lw, rfl, hLw, ownw, hb1⟩
        obtain rfl : Lw = [wa, wb] := hLw.out.trans Hwab.out
        have rw0 := ownw.read0
        clear q0 q1 q2 q3 Hsp hLw ownw
        go_wp2_with fail
        go_loopw [8] (fun iv wr => ∃ i : Nat, i ≤ l.length ∧ iv = .int .i64 (i : Int) ∧ Hid (∀ j, j < i → ((List.range l.length).any fun k => (!decide (k = j) && (decide (-n ≤ (k : Int) - (j : Int)) && decide ((k : Int) - (j : Int) ≤ n))) && (Sr.standsF l j (Sm.stem wa) && Sr.standsF l k (Sm.stem wb))) = false) ∧ Below wo.heap.size wo wr ∧ Below w1.heap.size w1 wr) (fun iv _ => l.length - (intOf iv).toNat)
        case atStart => exact ⟨0, Nat.zero_le _, rfl, Lib.hid fun j h => absurd h (by omega), hb1, Below.refl _ _⟩
        case round =>
          obtain ⟨i, hi, rfl, hpre, hbi, hbi1⟩ := hrel
          obtain ⟨wi, rfl⟩ : ∃ W, W = wr := ⟨_, rfl⟩
          obtain ⟨q0, q1, q2, q3, _⟩ := (Hql.out wi hbi).four
          have hi0 : (0 : Int) ≤ (i : Int) := by omega
          by_cases hlt : i < l.length
          · have hii : (i : Int) < (l.length : Int) := by omega
            have Hbi := Lib.hid hbi; have Hbi1 := Lib.hid hbi1
            go_wp2_with fail
            clear q0 q1 q2 q3 hbi hbi1
            go_loopw [11] (fun kv wr => ∃ j : Nat, j ≤ l.length ∧ kv = .int .i64 (j : Int) ∧ Hid (∀ k, k < j → ((!decide (k = i) && (decide (-n ≤ (k : Int) - (i : Int)) && decide ((k : Int) - (i : Int) ≤ n))) && (Sr.standsF l i (Sm.stem wa) && Sr.standsF l k (Sm.stem wb))) = false) ∧ Below wi.heap.size wi wr) (fun kv _ => l.length - (intOf kv).toNat)
            case atStart => exact ⟨0, Nat.zero_le _, rfl, Lib.hid fun j h => absurd h (by omega), Below.refl _ _⟩
            case round =>
              obtain ⟨j, hj, rfl, hpj, hbj⟩ := hrel
              obtain ⟨wj, rfl⟩ : ∃ W, W = wr := ⟨_, rfl⟩
              have hbij := Hbi.out.trans (hbj.mono Hbi.out.size)
              have hbij1 := Hbi1.out.trans (hbj.mono Hbi1.out.size)
              by_cases hlj : j < l.length
              · obtain ⟨q0, q1, q2, q3, _⟩ := (Hql.out wj hbij).four
                have hji : (j : Int) < (l.length : Int) := by omega
                have next : ∀ w9, Below wj.heap.size wj w9 → Below wi.heap.size wi w9 := fun w9 h => hbj.trans (h.mono hbj.size)
                have Next := Lib.hid next
                have hneg : IntKind.i64.wrap (-n) = -n := IntWalk.i64_in _ (by omega)
                have hsub : IntKind.i64.wrap ((j : Int) - (i : Int)) = (j : Int) - (i : Int) := IntWalk.i64_in _ (by omega)
                obtain ⟨b7, o7, hA7, _, _, v0, _⟩ := (rw0.ext hbij1).strAt (k := 0) (by simp)
                obtain ⟨b8, o8, hA8, _, _, v1, _⟩ := (rw0.ext hbij1).strAt (k := 1) (by simp)
                subst hA7
                injection hA8 with hA8
                injection hA8 with hA81 hA82
                subst hA81 hA82
                simp only [List.getElem_cons_zero, List.getElem_cons_succ, Nat.add_zero] at v0 v1
                have Hbij := Lib.hid hbij; have Hbij1 := Lib.hid hbij1
                have skip : ((!decide (j = i) && (decide (-n ≤ (j : Int) - (i : Int)) && decide ((j : Int) - (i : Int) ≤ n))) && (Sr.standsF l i (Sm.stem wa) && Sr.standsF l j (Sm.stem wb))) = false → ∀ k, k < j + 1 → ((!decide (k = i) && (decide (-n ≤ (k : Int) - (i : Int)) && decide ((k : Int) - (i : Int) ≤ n))) && (Sr.standsF l i (Sm.stem wa) && Sr.standsF l k (Sm.stem wb))) = false := fun h k hk => by
                  by_cases e : k = j
                  · subst e; exact h
                  · exact hpj.out k (by omega)
                have Skip := Lib.hid skip
                clear next hbij hbij1 hbj skip
                by_cases he : j = i
                · subst he
                  have hne : ((j : Int) != (j : Int)) = false := by simp
                  go_wp2_with fail
                  go_roundw
                  case rel => exact ⟨j + 1, by omega, by go_num, Lib.hid (Skip.out (by simp)), Next.out _ (Below.refl _ _)⟩
                  case measure => simp [intOf]; omega
                · have hne : ((j : Int) != (i : Int)) = true := by simp; omega
                  have hin := in_ok ((j : Int) - (i : Int)) (-n) n wj
                  obtain ⟨r1, hr1⟩ : ∃ r, (decide (-n ≤ (j : Int) - (i : Int)) && decide ((j : Int) - (i : Int) ≤ n)) = r := ⟨_, rfl⟩
                  rw [hr1] at hin
                  have Hin := Lib.hid hin; have Hr1 := Lib.hid hr1
                  clear hin hr1
                  go_wp2_with fail
                  refine Hin.out.mono ?_
                  rintro e w4 ⟨rfl, rfl⟩
                  clear Hin
                  cases r1 with
                  | false =>
                    go_wp2_with fail
                    go_roundw
                    case rel => exact ⟨j + 1, by omega, by go_num, Lib.hid (Skip.out (by rw [Hr1.out]; simp)), Next.out _ (Below.refl _ _)⟩
                    case measure => simp [intOf]; omega
                  | true =>
                    go_wp2_with fail
                    refine (rstem_ok wa (by unfold maxLen; omega) wj).mono ?_
                    rintro e w5 ⟨rfl, hb5⟩
                    have hst := stands_ok (.slice Al l.length cl) l (i : Int) (Sm.stem wa) w5 (hlo.ext (Hbij.out.trans (hb5.mono Hbij.out.size))) (by omega) (by omega) Hls.out
                    rw [Int.toNat_natCast] at hst
                    obtain ⟨r2, hr2⟩ : ∃ r, Sr.standsF l i (Sm.stem wa) = r := ⟨_, rfl⟩
                    rw [hr2] at hst
                    have Hst := Lib.hid hst; have Hr2 := Lib.hid hr2
                    replace v1 := (hb5.cell (World.block_lt_of_cell? _ _ v1)).trans v1
                    clear hst hr2 v0 q0 q1 q2 q3
                    go_wp2_with fail
                    refine Hst.out.mono ?_
                    rintro e w6 ⟨rfl, hb6⟩
                    have hb56 := hb5.trans (hb6.mono hb5.size)
                    replace v1 := (hb6.cell (World.block_lt_of_cell? _ _ v1)).trans v1
                    clear Hst hb5 hb6
                    cases r2 with
                    | false =>
                      go_wp2_with fail
                      go_roundw
                      case rel => exact ⟨j + 1, by omega, by go_num, Lib.hid (Skip.out (by rw [Hr2.out]; simp)), Next.out _ hb56⟩
                      case measure => simp [intOf]; omega
                    | true =>
                      go_wp2_with fail
                      refine (rstem_ok wb (by unfold maxLen; omega) w6).mono ?_
                      rintro e w7 ⟨rfl, hb7⟩
                      have hst := stands_ok (.slice Al l.length cl) l (j : Int) (Sm.stem wb) w7 (hlo.ext (Hbij.out.trans ((hb56.trans (hb7.mono hb56.size)).mono Hbij.out.size))) (by omega) (by omega) Hls.out
                      rw [Int.toNat_natCast] at hst
                      obtain ⟨r3, hr3⟩ : ∃ r, Sr.standsF l j (Sm.stem wb) = r := ⟨_, rfl⟩
                      rw [hr3] at hst
                      have Hst := Lib.hid hst; have Hr3 := Lib.hid hr3
                      clear hst hr3 v1
                      go_wp2_with fail
                      refine Hst.out.mono ?_
                      rintro e w8 ⟨rfl, hb8⟩
                      have hb58 := hb56.trans ((hb7.trans (hb8.mono hb7.size)).mono hb56.size)
                      clear Hst hb56 hb7 hb8
                      cases r3 with
                      | false =>
                        go_wp2_with fail
                        go_roundw
                        case rel => exact ⟨j + 1, by omega, by go_num, Lib.hid (Skip.out (by rw [Hr3.out]; simp)), Next.out _ hb58⟩
                        case measure => simp [intOf]; omega
                      | true =>
                        go_wp2_with fail
                        go_ret
                        exact ⟨ret_bool (by
                          rw [← Hr.out]
                          unfold Sr.nearM
                          refine Eq.symm (Sr.range_any hlt (Sr.range_any hlj ?_))
                          rw [Hr1.out, Hr2.out, Hr3.out, decide_eq_false he]; rfl), Hend.out _ (Hbij.out.trans (hb58.mono Hbij.out.size))⟩
              · go_wp2_with fail
                go_roundw
                case rel => exact ⟨i + 1, by omega, by go_num, Lib.hid fun a hai => by
                  by_cases e : a = i
                  · subst e; exact Sr.range_none fun k hk => hpj.out k (by omega)
                  · exact hpre.out a (by omega), hbij, hbij1⟩
                case measure => simp [intOf]; omega
          · go_wp2_with fail
            go_ret
            exact ⟨ret_bool (by
              rw [← Hr.out]
              unfold Sr.nearM
              rw [Sr.range_none fun a ha => hpre.out a (by omega)]), Hend.out _ hbi⟩
      rw [if_neg c5] at hr
      have d5 : (k == 5) = false := by simpa using c5
      have hwl : ∀ x ∈ splitS t, x.length ≤ 1048576 := fun x hx => Nat.le_trans (splitS_mem t x hx).2 htl
      have hwc : (splitS t).length ≤ 1048577 := by have := splitS_size t; omega
      obtain ⟨ws, hws⟩ : ∃ ws, splitS t = ws := ⟨_, rfl⟩
      rw [hws] at hr hwl hwc
      have Hr := Lib.hid hr; have Hwl := Lib.hid hwl; have Hws := Lib.hid hws
      clear hr hwl hws H23 H4 H5 Hnr c3 c5
      go_wp2_with fail
      refine Hsp.out.mono ?_
      rintro e w1 ⟨Aw, cw, Lw, rfl, hLw, ownw, hb1⟩
      obtain rfl : Lw = ws := hLw.out.trans Hws.out
      have rw0 := ownw.read0
      clear q0 q1 q2 q3 Hsp hLw ownw Hws
      go_wp2_with fail
      go_loopw [8] (fun iv wr => ∃ i : Nat, i ≤ l.length ∧ iv = .int .i64 (i : Int) ∧ Hid (∀ j, j < i → Sr.rowM l j Lw = false) ∧ Below wo.heap.size wo wr ∧ Below w1.heap.size w1 wr) (fun iv _ => l.length - (intOf iv).toNat)
      case atStart => exact ⟨0, Nat.zero_le _, rfl, Lib.hid fun j h => absurd h (by omega), hb1, Below.refl _ _⟩
      case round =>
        obtain ⟨i, hi, rfl, hpre, hbi, hbi1⟩ := hrel
        obtain ⟨wi, rfl⟩ : ∃ W, W = wr := ⟨_, rfl⟩
        obtain ⟨q0, q1, q2, q3, _⟩ := (Hql.out wi hbi).four
        have hi0 : (0 : Int) ≤ (i : Int) := by omega
        by_cases hlt : i < l.length
        · have hii : (i : Int) < (l.length : Int) := by omega
          have Hbi := Lib.hid hbi; have Hbi1 := Lib.hid hbi1
          go_wp2_with fail
          clear q0 q1 q2 q3 hbi hbi1
          go_loopw [12, 13] (fun av kv wr => ∃ j : Nat, j ≤ Lw.length ∧ kv = .int .i64 (j : Int) ∧ av = .bool ((List.range j).all fun k => Sr.standsF l (i + k) (Sm.stem (Lw.getD k []))) ∧ Below wi.heap.size wi wr) (fun _ kv _ => Lw.length - (intOf kv).toNat)
          case atStart => exact ⟨0, Nat.zero_le _, rfl, rfl, Below.refl _ _⟩
          case round =>
            obtain ⟨j, hj, rfl, rfl, hbj⟩ := hrel
            obtain ⟨wj, rfl⟩ : ∃ W, W = wr := ⟨_, rfl⟩
            have hbij := Hbi.out.trans (hbj.mono Hbi.out.size)
            have hbij1 := Hbi1.out.trans (hbj.mono Hbi1.out.size)
            have hstp := Sr.range_all_step j fun k => Sr.standsF l (i + k) (Sm.stem (Lw.getD k []))
            obtain ⟨ac, hac⟩ : ∃ r, ((List.range j).all fun k => Sr.standsF l (i + k) (Sm.stem (Lw.getD k []))) = r := ⟨_, rfl⟩
            rw [hac] at hstp ⊢
            by_cases hlj : j < Lw.length
            · have hji : (j : Int) < (Lw.length : Int) := by omega
              have hj0 : (0 : Int) ≤ (j : Int) := by omega
              rw [Ix.getD_get hlj] at hstp
              cases ac with
              | false =>
                have Hst := Lib.hid hstp
                clear hstp hac
                go_wp2_with fail
                go_roundw
                case rel => exact ⟨j + 1, by omega, by go_num, by rw [Hst.out]; rfl, hbj⟩
                case measure => simp [intOf]; omega
              | true =>
                obtain ⟨b7, o7, rfl, _, _, v0, _⟩ := (rw0.ext hbij1).strAt hlj
                have hxl := Hwl.out _ (List.getElem_mem hlj)
                obtain ⟨x, hx⟩ : ∃ x, x = Lw[j] := ⟨_, rfl⟩
                rw [← hx] at v0 hxl hstp
                have hadd : IntKind.i64.wrap ((i : Int) + (j : Int)) = ((i + j : Nat) : Int) := by rw [show (i : Int) + (j : Int) = ((i + j : Nat) : Int) by omega]; exact IntWalk.i64_in _ (by omega)
                obtain ⟨r2, hr2⟩ : ∃ r, Sr.standsF l (i + j) (Sm.stem x) = r := ⟨_, rfl⟩
                rw [hr2, Bool.true_and] at hstp
                have Hst := Lib.hid hstp; have Hr2 := Lib.hid hr2; have Hbij := Lib.hid hbij
                clear hstp hac hx hr2 hbij hbij1
                go_wp2_with fail
                refine (rstem_ok x (by unfold maxLen; omega) wj).mono ?_
                rintro e w5 ⟨rfl, hb5⟩
                have hst := stands_ok (.slice Al l.length cl) l ((i + j : Nat) : Int) (Sm.stem x) w5 (hlo.ext (Hbij.out.trans (hb5.mono Hbij.out.size))) (by omega) (by omega) Hls.out
                rw [Int.toNat_natCast, Hr2.out] at hst
                have Hs := Lib.hid hst
                clear hst v0
                go_wp2_with fail
                refine Hs.out.mono ?_
                rintro e w6 ⟨rfl, hb6⟩
                have hb56 := hb5.trans (hb6.mono hb5.size)
                have hbn := hbj.trans (hb56.mono hbj.size)
                clear Hs hb5 hb6 hb56
                go_wp2_with fail
                go_roundw
                case rel => exact ⟨j + 1, by omega, by go_num, by rw [Hst.out], hbn⟩
                case measure => simp [intOf]; omega
            · obtain rfl : j = Lw.length := by omega
              have hrow : Sr.rowM l i Lw = ac := hac
              have Hrow := Lib.hid hrow
              clear hstp hac hrow
              cases ac with
              | true =>
                go_wp2_with fail
                go_ret
                exact ⟨ret_bool (by rw [← Hr.out]; exact (Sr.range_any (p := fun i => Sr.rowM l i Lw) hlt Hrow.out).symm), Hend.out _ hbij⟩
              | false =>
                go_wp2_with fail
                go_roundw
                case rel => exact ⟨i + 1, by omega, by go_num, Lib.hid fun a hai => by
                  by_cases e : a = i
                  · subst e; exact Hrow.out
                  · exact hpre.out a (by omega), hbij, hbij1⟩
                case measure => simp [intOf]; omega
        · go_wp2_with fail
          go_ret
          exact ⟨ret_bool (by rw [← Hr.out]; exact (Sr.range_none (p := fun i => Sr.rowM l i Lw) fun a ha => hpre.out a (by omega)).symm), Hend.out _ hbi⟩
end Go.Proofs.YtfjpedgddgbelaaGreatDoor
