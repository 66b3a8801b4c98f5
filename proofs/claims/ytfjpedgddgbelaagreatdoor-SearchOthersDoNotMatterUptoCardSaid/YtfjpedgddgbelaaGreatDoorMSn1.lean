/-
  Contracts and plain facts, one after another: Indexes: the laws of Add and Remove, with their faults; plain; SearchOthersDoNotMatter: the law's walk; The walk of SearchOthersDoNotMatter, as its row takes it; The card of the law SearchOthersDoNotMatter, from its walk.
-/
import Derived.Test.YtfjpedgddgbelaaGreatDoorMSo12
import Derived.Test.YtfjpedgddgbelaaGreatDoorMSo19
import Derived.Test.YtfjpedgddgbelaaGreatDoorMSo21
import Derived.Test.YtfjpedgddgbelaaGreatDoorMSo22
import Derived.Test.YtfjpedgddgbelaaGreatDoorMSo6
import Derived.Test.YtfjpedgddgbelaaGreatDoorMSo7
import Derived.Test.YtfjpedgddgbelaaGreatDoorCards
import Derived.Test.YtfjpedgddgbelaaGreatDoorTie
import Derived.Test.YtfjpedgddgbelaaGreatDoorMSo3
import Derived.ProofKit
import Derived.OpenShut
import Derived.ShutString
import Derived.ChangeOld
import Derived.Below
import Derived.Deep.DeepHandedRow
import Derived.Lib.LaidTab
import Derived.Lay
import Derived.SevenTiedAt
import Derived.SizedLaws
import Derived.ChangeMaps5
/-
  Indexes: the laws of Add and Remove, with their faults; plain.
-/
namespace Go.Proofs.YtfjpedgddgbelaaGreatDoor
namespace Ix
set_option linter.unusedVariables false
theorem addR_bad {x : Idx} {id : Int} {t : Str} (h : (addR x id t).2.1 ≠ 0) : (addR x id t).1 = ([], []) := by
  unfold addR at h ⊢
  split; · rfl
  split; · rfl
  split; · rfl
  split; · rfl
  split; · rfl
  split; · rfl
  split; · rfl
  rename_i h0 h1 h2 h3 h4 h5 h6
  rw [if_neg h0, if_neg h1, if_neg h2, if_neg h3, if_neg h4, if_neg h5, if_neg h6] at h
  exact absurd rfl h
theorem addR_sz (x : Idx) (id : Int) (t : Str) : SzIx (addR x id t).1.2 := by
  by_cases h : (addR x id t).2.1 = 0
  · have := addR_good h
    rw [this.1]
    exact this.2.2.2.2.sz
  · rw [addR_bad h]
    intro t h
    cases h
theorem removeR_addR {x : Idx} {id : Int} {t : Str} (h : (addR x id t).2.1 = 0) : removeR (addR x id t).1 id = (x, 0, 0) := by
  obtain ⟨e, hc, hr, hid, hc'⟩ := addR_good h
  rw [e]
  unfold removeR
  rw [if_neg (by simpa using (indexF_zero _).2 hc'), if_pos (show id ∈ (addF x id (Sm.stems t), (0 : Int), (0 : Int)).1.1 from mem_insId.2 (.inl rfl)), remove_add hc hid]
theorem addR_of {x : Idx} {id : Int} {t : Str} (hc : Canon x) (hr : 1 ≤ id ∧ id ≤ 1000000) (ht : t.length ≤ 4000) (hid : id ∉ x.1) (hn : x.1.length ≠ 300) (hm : (putAll id (Sm.stems t) 0 x.2).length ≤ 1000000) : addR x id t = (addF x id (Sm.stems t), 0, 0) := by
  unfold addR
  rw [if_neg (by simpa using (indexF_zero x).2 hc), if_neg (by omega), if_neg (by omega), if_neg (by omega), if_neg hid, if_neg hn, if_neg (by omega)]
theorem addR_room {x : Idx} {id : Int} {t : Str} (h : (addR x id t).2.1 = 0) : t.length ≤ 4000 ∧ x.1.length ≠ 300 := by
  unfold addR at h
  split at h
  · rename_i h0; exact absurd h h0
  split at h
  · simp at h
  rename_i h1
  split at h
  · simp at h
  split at h
  · simp at h
  split at h
  · simp at h
  split at h
  · simp at h
  rename_i h5
  exact ⟨by omega, h5⟩
theorem addR_comm {x : Idx} {id other : Int} {t m : Str} (h1 : (addR x id t).2.1 = 0) (h2 : (addR (addR x id t).1 other m).2.1 = 0) (h3 : (addR x other m).2.1 = 0) : addR (addR x other m).1 id t = ((addR (addR x id t).1 other m).1, 0, 0) := by
  obtain ⟨e1, hc, hr, hid, hc1⟩ := addR_good h1
  have ht := addR_room h1
  have hn2 := (addR_room h2).2
  obtain ⟨e2, _, hr2, hid2, hc2⟩ := addR_good h2
  obtain ⟨e3, _, _, hid3, hc3⟩ := addR_good h3
  rw [e1] at e2 hid2 hc2 hn2 ⊢
  rw [e2, e3]
  simp only at hid2 hc2 hn2 ⊢
  have hne : id ≠ other := fun e => hid2 (mem_insId.2 (.inl e.symm))
  have hcm := add_comm hc (Sm.stems t) (Sm.stems m) hne
  have hm := hc2.many
  rw [hcm] at hm ⊢
  refine addR_of hc3 hr ht.1 (fun e => ?_) ?_ hm
  · rcases mem_insId.1 e with e | e
    · exact hne e
    · exact hid e
  · have e1 : (addF x id (Sm.stems t)).1.length = x.1.length + 1 := insId_len hid hc.ids
    have e2 : (addF x other (Sm.stems m)).1.length = x.1.length + 1 := insId_len hid3 hc.ids
    omega
end Ix
end Go.Proofs.YtfjpedgddgbelaaGreatDoor
/-
  SearchOthersDoNotMatter: the law's walk.
-/
namespace Go.Proofs.YtfjpedgddgbelaaGreatDoor
open Go.RowKit
set_option linter.unusedVariables false
theorem found_key {x : Ix.Idx} {r : Q} (h : (Sr.findR x r).2.1 = 0) : Ix.Canon x ∧ (Sr.findR x r).1 = Sr.foundF x r := by
  unfold Sr.findR at h ⊢
  by_cases hi : (Ix.indexF x).1 ≠ 0
  · rw [if_pos hi] at h; exact absurd h hi
  · rw [if_neg hi] at h ⊢
    by_cases hq : (Q.fault r).1 ≠ 0
    · rw [if_pos hq] at h; exact absurd h hq
    · rw [if_neg hq]; exact ⟨(Ix.indexF_zero x).1 (by simpa using hi), rfl⟩
/-- where all three go well -/
theorem others_all {x : Ix.Idx} {q : Q} {id : Int} {text : Str} (h0 : (Ix.addR x id text).2.1 = 0) (h1 : (Sr.findR x q).2.1 = 0) (h2 : (Sr.findR (Ix.addR x id text).1 q).2.1 = 0) :
    (∀ i ∈ x.1, (Sr.findR (Ix.addR x id text).1 q).1.contains i = (Sr.findR x q).1.contains i) ∧ (Sr.findR (Ix.addR x id text).1 q).1.length ≤ (Sr.findR x q).1.length + 1 ∧ (Sr.findR x q).1.length ≤ 300 := by
  obtain ⟨g1, _, _, g4, g5⟩ := Ix.addR_good h0
  obtain ⟨c1, e1⟩ := found_key h1
  obtain ⟨_, e2⟩ := found_key h2
  rw [e1, e2, g1]
  refine ⟨fun i hi => ?_, Sr.others_len c1 g4 _ g5 q, Nat.le_trans (by unfold Sr.foundF; exact List.length_filter_le _ _) c1.few⟩
  rw [Sr.found_mem hi]
  have hm : i ∈ (Ix.addF x id (Sm.stems text)).1 := Ix.mem_insId.2 (.inr hi)
  refine (Sr.found_mem hm).trans ?_
  exact Sr.others c1 (by intro e; rw [e] at hi; exact g4 hi) _ g5 q
set_option maxRecDepth 100000 in
set_option maxHeartbeats 8000000 in
theorem sothers_ok (a b qv : Value) (x : Ix.Idx) (q : Q) (id : Int) (text : Str) (f : Nat) (w : World) (hx0 : SlR intC M0 w a x.1) (hx1 : SlR termC M0 w b x.2) (hq : QAt f M0 w qv q) (hsz : SzIx x.2) (hbq : q.bulk ≤ 1048576) (hT : TabsU w) :
    Calls Tryz.prog 7 #[.agg #[a, b], qv, .int .i64 id, .string (bs text)] w fun e w' => e = .returned (.bool true) ∧ Below w.heap.size w w' := by
  have hbw := Below.refl w.heap.size w
  obtain ⟨A0, c0, rfl, hlc0, hcm0⟩ := hx0.form
  obtain ⟨A1, c1, rfl, _, _⟩ := hx1.form
  unfold maxLen at hcm0
  have qq := hq
  obtain ⟨Aq, cq, rfl, _, _, _, _⟩ := hq
  have hall := @others_all x q id text
  have s1 := Ix.addR_sz x id text
  obtain ⟨⟨⟨ai, at_⟩, z1, y1⟩, hA⟩ : ∃ r, Ix.addR x id text = r := ⟨_, rfl⟩
  rw [hA] at hall s1
  dsimp only at hall s1
  obtain ⟨⟨L1, z2, y2⟩, hr1⟩ : ∃ r, Sr.findR x q = r := ⟨_, rfl⟩
  obtain ⟨⟨L2, z3, y3⟩, hr2⟩ : ∃ r, Sr.findR (ai, at_) q = r := ⟨_, rfl⟩
  rw [hr1, hr2] at hall
  dsimp only at hall
  have Hall := Lib.hid hall; have HA := Lib.hid hA
  have Hr1 := Lib.hid hr1; have Hr2 := Lib.hid hr2; have S1 := Lib.hid s1
  clear hall hr1 hr2 hA s1
  obtain ⟨ql, hql⟩ : ∃ n, q.parts.length = n := ⟨_, rfl⟩
  rw [hql] at qq ⊢
  obtain ⟨W0, g, hW, hg, hs, kx, kq, hal⟩ := boxPair w #[.slice A0 x.1.length c0, .slice A1 x.2.length c1] 25 #[.int .i64 q.kind, .string (bs q.text), .int .i64 q.num, .slice Aq ql cq] 50
  have HW := Lib.hid hW
  clear hW hs hql
  replace hx0 := hx0.ext hal
  replace hx1 := hx1.ext hal
  replace hT := hT.ext hal
  replace qq := qq.ext hal
  replace hbw := hbw.trans (hal.mono hbw.size)
  clear hal
  go_enter Tryz.func7, Tryz.ntmps7
  go_wp2_with fail
  rw [HW.out]
  refine (srchExample_ok W0 hT).mono ?_
  rintro e w1 ⟨rfl, hb1⟩
  replace hx0 := hx0.ext hb1
  replace hx1 := hx1.ext hb1
  replace hT := hT.ext hb1
  replace qq := qq.ext hb1
  replace kx := kx.ext hb1
  replace kq := kq.ext hb1
  replace hbw := hbw.trans (hb1.mono hbw.size)
  clear hb1
  have hc := add_ok (.slice A0 x.1.length c0) (.slice A1 x.2.length c1) x.1 x.2 id text w1 hx0 hx1 hsz hT
  unfold AddAt at hc
  rw [show Ix.addR (x.1, x.2) id text = _ from HA.out] at hc
  have Hc := Lib.hid hc
  clear hc
  obtain ⟨x0, x1, _, _, _⟩ := kx.two
  go_wp2_with fail
  clear x0 x1
  refine Hc.out.mono ?_
  rintro e w2 ⟨a1, b1, rfl, ha0, ha1, hb2⟩
  clear Hc
  dsimp only at ha0 ha1 ⊢
  obtain ⟨A2, c2, rfl, _, _⟩ := ha0.form
  obtain ⟨A3, c3, rfl, _, _⟩ := ha1.form
  replace hx0 := hx0.ext hb2
  replace hx1 := hx1.ext hb2
  replace hT := hT.ext hb2
  replace qq := qq.ext hb2
  replace kx := kx.ext hb2
  replace kq := kq.ext hb2
  replace hbw := hbw.trans (hb2.mono hbw.size)
  clear hb2
  obtain ⟨W2, g1, hW2, hg1, hs1, ka, k1, hal⟩ := boxPair w2 #[.slice A2 ai.length c2, .slice A3 at_.length c3] 25 #[.int .i64 z1, .int .i64 y1] 27
  have HW2 := Lib.hid hW2
  clear hs1
  replace hx0 := hx0.ext hal
  replace hx1 := hx1.ext hal
  replace hT := hT.ext hal
  replace qq := qq.ext hal
  replace kx := kx.ext hal
  replace kq := kq.ext hal
  replace ha0 := ha0.ext hal
  replace ha1 := ha1.ext hal
  replace hbw := hbw.trans (hal.mono hbw.size)
  clear hal
  obtain ⟨x0, x1, _, _, _⟩ := kx.two
  obtain ⟨q0, q1, q2, q3, _⟩ := kq.four
  rw [← hW2] at x0 x1 q0 q1 q2 q3
  clear hW2
  have hc := sfind_ok (.slice A0 x.1.length c0) (.slice A1 x.2.length c1) (.agg #[.int .i64 q.kind, .string (bs q.text), .int .i64 q.num, .slice Aq ql cq]) x q f W2 hx0 hx1 qq hsz (by omega) hT
  unfold SFindAt at hc
  rw [Hr1.out] at hc
  dsimp only at hc
  have Hc := Lib.hid hc
  clear hc
  go_wp2_with fail
  rw [HW2.out]
  clear x0 x1 q0 q1 q2 q3
  refine Hc.out.mono ?_
  rintro e w3 ⟨B1, d1, M1, rfl, hM1, hown, hb3⟩
  clear Hc
  have r1 := hown.read0
  clear hown
  obtain rfl : M1 = L1 := hM1.out
  clear hM1
  replace hx0 := hx0.ext hb3
  replace hx1 := hx1.ext hb3
  replace hT := hT.ext hb3
  replace qq := qq.ext hb3
  replace kx := kx.ext hb3
  replace kq := kq.ext hb3
  replace ha0 := ha0.ext hb3
  replace ha1 := ha1.ext hb3
  replace ka := ka.ext hb3
  replace k1 := k1.ext hb3
  replace hbw := hbw.trans (hb3.mono hbw.size)
  clear hb3
  obtain ⟨W3, g2, hW3, hg2, hs2, k2, hal⟩ := boxA w3 #[.int .i64 z2, .int .i64 y2] 27
  have HW3 := Lib.hid hW3
  clear hs2
  replace hx0 := hx0.ext hal
  replace hx1 := hx1.ext hal
  replace hT := hT.ext hal
  replace qq := qq.ext hal
  replace kx := kx.ext hal
  replace kq := kq.ext hal
  replace ha0 := ha0.ext hal
  replace ha1 := ha1.ext hal
  replace ka := ka.ext hal
  replace k1 := k1.ext hal
  replace r1 := r1.ext hal
  replace hbw := hbw.trans (hal.mono hbw.size)
  clear hal
  obtain ⟨x0, x1, _, _, _⟩ := ka.two
  obtain ⟨q0, q1, q2, q3, _⟩ := kq.four
  rw [← hW3] at x0 x1 q0 q1 q2 q3
  clear hW3
  have hc := sfind_ok (.slice A2 ai.length c2) (.slice A3 at_.length c3) (.agg #[.int .i64 q.kind, .string (bs q.text), .int .i64 q.num, .slice Aq ql cq]) (ai, at_) q f W3 ha0 ha1 qq S1.out (by omega) hT
  unfold SFindAt at hc
  rw [Hr2.out] at hc
  dsimp only at hc
  have Hc := Lib.hid hc
  clear hc
  go_wp2_with fail
  rw [HW3.out]
  clear x0 x1 q0 q1 q2 q3
  refine Hc.out.mono ?_
  rintro e w4 ⟨B2, d2, M2, rfl, hM2, hown, hb4⟩
  clear Hc
  have r2 := hown.read0
  clear hown
  obtain rfl : M2 = L2 := hM2.out
  clear hM2
  replace hx0 := hx0.ext hb4
  replace hx1 := hx1.ext hb4
  replace hT := hT.ext hb4
  replace qq := qq.ext hb4
  replace kx := kx.ext hb4
  replace kq := kq.ext hb4
  replace ha0 := ha0.ext hb4
  replace ha1 := ha1.ext hb4
  replace ka := ka.ext hb4
  replace k1 := k1.ext hb4
  replace r1 := r1.ext hb4
  replace k2 := k2.ext hb4
  replace hbw := hbw.trans (hb4.mono hbw.size)
  clear hb4
  obtain ⟨W4, g3, hW4, hg3, hs3, k3, hal⟩ := boxA w4 #[.int .i64 z3, .int .i64 y3] 27
  have HW4 := Lib.hid hW4
  clear hs3
  replace hx0 := hx0.ext hal
  replace hx1 := hx1.ext hal
  replace hT := hT.ext hal
  replace qq := qq.ext hal
  replace kx := kx.ext hal
  replace kq := kq.ext hal
  replace ha0 := ha0.ext hal
  replace ha1 := ha1.ext hal
  replace ka := ka.ext hal
  replace k1 := k1.ext hal
  replace r1 := r1.ext hal
  replace k2 := k2.ext hal
  replace r2 := r2.ext hal
  replace hbw := hbw.trans (hal.mono hbw.size)
  clear hal
  obtain ⟨t1, _, _, _, _⟩ := k1.two
  rw [← hW4] at t1
  obtain ⟨t2, _, _, _, _⟩ := k2.two
  rw [← hW4] at t2
  obtain ⟨t3, _, _, _, _⟩ := k3.two
  rw [← hW4] at t3
  clear hW4 k1 k2 k3 kq qq ka ha0 ha1 hx1 hT
  by_cases e1 : z1 = 0
  rotate_left
  · have n1 : (z1 != 0) = true := by simpa using e1
    go_wp2_with fail
    go_ret
    exact ⟨rfl, by rw [HW4.out]; exact hbw⟩
  · have n1 : (z1 != 0) = false := by simpa using e1
    by_cases e2 : z2 = 0
    rotate_left
    · have n2 : (z2 != 0) = true := by simpa using e2
      go_wp2_with fail
      go_ret
      exact ⟨rfl, by rw [HW4.out]; exact hbw⟩
    · have n2 : (z2 != 0) = false := by simpa using e2
      by_cases e3 : z3 = 0
      rotate_left
      · have n3 : (z3 != 0) = true := by simpa using e3
        go_wp2_with fail
        go_ret
        exact ⟨rfl, by rw [HW4.out]; exact hbw⟩
      · have n3 : (z3 != 0) = false := by simpa using e3
        have hall := Hall.out e1 e2 e3
        have Hall2 := Lib.hid hall
        clear hall e1 e2 e3
        obtain ⟨xl, hxl⟩ : ∃ l, x.1 = l := ⟨_, rfl⟩
        rw [hxl] at hx0 kx Hall2 hlc0
        go_wp2_with fail
        rw [HW4.out]
        clear t1 t2 t3 n1 n2 n3
        go_loopw [15] (fun i wr => ∃ m : Nat, m ≤ xl.length ∧ i = .int .i64 m ∧ Below W4.heap.size W4 wr) (fun i _ => xl.length - (intOf i).toNat)
        case atStart => exact ⟨0, Nat.zero_le _, rfl, Below.refl _ _⟩
        case round =>
          obtain ⟨m, hm, rfl, hbr⟩ := hrel
          obtain ⟨x0, x1, _, _, _⟩ := (kx.ext hbr).two
          have Hbr := Lib.hid hbr
          by_cases hlt : m < xl.length
          · obtain ⟨b, off, rfl, _, _, q0, _, _⟩ := (hx0.ext hbr).intAt hlt
            have hal := Hall2.out.1 xl[m] (List.getElem_mem hlt)
            obtain ⟨i, hid⟩ : ∃ y, y = xl[m] := ⟨_, rfl⟩
            rw [← hid] at q0 hal
            clear hid hbr
            have hh1 := fun n => (refHas_ok M0 _ M1 i (wr.drewN n) ((r1.ext Hbr.out).ext (below_drewN' _ _ _))).mono fun e w' hh => (⟨hh.1, hh.2.symm⟩ : e = .returned (.bool (M1.contains i)) ∧ w' = wr.drewN n)
            have hh2 := fun n => (refHas_ok M0 _ M2 i (wr.drewN n) ((r2.ext Hbr.out).ext (below_drewN' _ _ _))).mono fun e w' hh => (⟨hh.1, hh.2.symm⟩ : e = .returned (.bool (M2.contains i)) ∧ w' = wr.drewN n)
            rw [hal] at hh2
            clear hal
            obtain ⟨s, hs⟩ : ∃ b, M1.contains i = b := ⟨_, rfl⟩
            rw [hs] at hh1 hh2
            have Hh1 := Lib.hid hh1; have Hh2 := Lib.hid hh2
            clear hh1 hh2 hs
            have hss : (s != s) = false := by cases s <;> rfl
            go_wp2_with fail
            go_quiet ((first
              | (go_at_call 23; with_reducible exact Calls.quiet_of_same (Hh1.out _))
              | (go_at_call 23; with_reducible exact Calls.quiet_of_same (Hh2.out _))))
            go_wp2_with fail
            go_roundw
            case rel => exact ⟨m + 1, by omega, by go_num, Hbr.out.trans (below_drewN' _ _ _)⟩
            case measure => simp [intOf]; omega
          · obtain rfl : m = xl.length := by omega
            have hle := Hall2.out.2.1
            have hn1 := Hall2.out.2.2
            have hi : ((M2.length : Int) ≤ (M1.length : Int) + 1) := by omega
            have hw1 : IntKind.i64.wrap ((M1.length : Int) + 1) = (M1.length : Int) + 1 := IntWalk.i64_in _ (by omega)
            clear hle hn1
            go_wp2_with fail
            go_ret
            exact ⟨rfl, hbw.trans (Hbr.out.mono hbw.size)⟩
end Go.Proofs.YtfjpedgddgbelaaGreatDoor
/-
  The walk of SearchOthersDoNotMatter, as its row takes it.
-/
namespace Go.Proofs.YtfjpedgddgbelaaGreatDoor
open Go.RowKit
theorem sothers_row (a0 : Array Value) (x0 : Ix.Idx) (qa : Array Value) (f : Nat) (q : Q) (id : Int) (text : Str) (w : World) (h0 : idxC.rd M0 w (Value.agg a0).cells.toList x0) (hq : QAt f M0 w (.agg qa) q) (z0 : szIdx x0) (bq : q.bulk ≤ 1048576) (hT : TabsU w) :
    Calls Tryz.prog 7 #[.agg a0, .agg qa, .int .i64 id, .string (bs text)] w fun e w' => e = .returned (.bool true) ∧ Below w.heap.size w w' := by
  obtain ⟨u, v, e, h1, h2⟩ := idx_of_rd h0
  rw [e]
  exact sothers_ok u v (.agg qa) x0 q id text f w h1 h2 hq (szIdx_sz z0) bq hT
end Go.Proofs.YtfjpedgddgbelaaGreatDoor
/-
  The card of the law SearchOthersDoNotMatter, from its walk.
-/
namespace Go.Proofs.YtfjpedgddgbelaaGreatDoor
open Go.ChangeShapes Go.WideShapes Go.ChangeAt Go.RowKit
set_option linter.unusedVariables false
namespace searchOthersDoNotMatterUptoDone
theorem own : ownKnob Tryz.prog.godebug = none := by kernel_rfl
theorem laidOut : laidOutB Tryz.prog = true := by kernel_rfl
noncomputable def w0 (os : Os) : World := World.laidAll Tryz.prog os Rows.searchOthersDoNotMatterUptoRow.laid
theorem laid_met (os : Os) : laidMet Tryz.prog Rows.searchOthersDoNotMatterUptoRow.laid ((w0 os).forCall (fun _ _ => 0) ⟨#[], #[.agg #[.slice none 0 0, .slice none 0 0], .agg #[.int .i64 0, .string ByteArray.empty, .int .i64 0, .slice none 0 0], .int .i64 0, .string ByteArray.empty], []⟩).memory :=
  laidMet_laidAll _ (by kernel_rfl) (by kernel_rfl)
theorem reads (os : Os) {H : Type} (enc : TypeId × Value → H) : ∃ places, DataW.whole enc Tryz.prog ((w0 os).forCall (fun _ _ => 0) ⟨#[], #[.agg #[.slice none 0 0, .slice none 0 0], .agg #[.int .i64 0, .string ByteArray.empty, .int .i64 0, .slice none 0 0], .int .i64 0, .string ByteArray.empty], []⟩).memory Tryz.f7.params.toList Rows.searchOthersDoNotMatterSpec.vars false (#[.agg #[.slice none 0 0, .slice none 0 0], .agg #[.int .i64 0, .string ByteArray.empty, .int .i64 0, .slice none 0 0], .int .i64 0, .string ByteArray.empty] : Array Value).toList 8 = some ([.agg [.nil, .nil], .agg [.lit (.int .i64 0), .lit (.string []), .lit (.int .i64 0), .nil], .lit (.int .i64 0), .lit (.string [])], [], places) :=
  ⟨[], by kernel_rfl⟩
set_option maxRecDepth 100000 in
theorem lifted (os : Os) (started : os.Started) (H : Type) (enc : TypeId × Value → H) (F : Stop.Interp) :
    ReturnsInHanded {} Tryz.checked os 7 .any ((Rows.OpenSpec.upto Rows.searchOthersDoNotMatterSpec).preRow enc Tryz.prog Tryz.f7 Rows.searchOthersDoNotMatterUptoRow.domain false Rows.searchOthersDoNotMatterUptoRow.laid) (((Rows.OpenSpec.upto Rows.searchOthersDoNotMatterSpec).at F).post enc Tryz.prog Tryz.f7 false true false false) := by
  obtain ⟨places, hx⟩ := reads os enc
  refine returnsInHanded_of_row (C := Tryz.checked) (s := (Rows.OpenSpec.upto Rows.searchOthersDoNotMatterSpec)) own started (by kernel_rfl) Tryz.func7
    (?_) ?_
  · exact ⟨w0 os, fun _ _ => 0, ⟨#[], #[.agg #[.slice none 0 0, .slice none 0 0], .agg #[.int .i64 0, .string ByteArray.empty, .int .i64 0, .slice none 0 0], .int .i64 0, .string ByteArray.empty], []⟩, World.laidAll_os _ _ _, World.shaped_of_ZipB (by kernel_rfl) (by kernel_rfl), rfl, (Input.okWide_of_okWideB (by kernel_rfl)).2, OpenSpec.preRow_of_cond 8 hx (by kernel_rfl) (fun k hk => by cases hk; kernel_rfl) (by kernel_rfl) (laid_met os), by simp [Assume.holds]⟩
  intro W base args ds gs before hval0 hW _ hcond hwt hL _ _
  have hval : ∀ (j : Nat) t v, Tryz.f7.params[j]? = some t → args[j]? = some v → Value.okWide Tryz.prog W .any base t v := hval0
  have hW' := hW
  obtain ⟨p, q, hA0, hV, rfl, hfz, hnd⟩ := hW
  have hA : DataW.TrodAll enc Tryz.prog W 0 (fun _ => true) true Tryz.f7.params.toList args.toList ds p := hA0
  rw [Tryz.params7] at hA hval
  obtain ⟨v0, vs0, d0, ds0, p0, q0, hargs, rfl, rfl, h0, r0⟩ := trodAll_cons hA
  obtain ⟨v1, vs1, d1, ds1, p1, q1, rfl, rfl, rfl, h1, r1⟩ := trodAll_cons r0
  obtain ⟨v2, vs2, d2, ds2, p2, q2, rfl, rfl, rfl, h2, r2⟩ := trodAll_cons r1
  obtain ⟨v3, vs3, d3, ds3, p3, q3, rfl, rfl, rfl, h3, r3⟩ := trodAll_cons r2
  obtain ⟨rfl, rfl, rfl⟩ := trodAll_nil r3
  obtain rfl : args = #[v0, v1, v2, v3] := by cases args; simp_all
  obtain ⟨rfl, rfl⟩ := trodVars_none hV
  have hbd : Rows.uptoBulkAll ([d0, d1, d2, d3] ++ []) ≤ 1048576 := of_decide_eq_true (hcond _ rfl)
  simp only [List.append_nil, Rows.uptoBulkAll] at hbd
  have k0 := h0
  have lt0 : ∀ x ∈ p0, x.block < W.heap.size := by obtain ⟨m, hm⟩ := k0; exact DataW.trod_lt m _ _ _ hm
  obtain ⟨x0, rd0, bk0, z0⟩ := readsS_arg (rIdx) h0
  replace z0 := z0 (sized_arg hwt (j := 0) (t := 25) rfl rfl)
  obtain ⟨a0, rfl, _⟩ := okWide_struct Tryz.underlying25 (hval 0 25 v0 rfl rfl)
  have k1 := h1
  have lt1 : ∀ x ∈ p1, x.block < W.heap.size := by obtain ⟨m, hm⟩ := k1; exact DataW.trod_lt m _ _ _ hm
  obtain ⟨a1, rfl, _⟩ := okWide_struct Tryz.underlying50 (hval 1 50 v1 rfl rfl)
  obtain ⟨f1, x1, rd1, bk1⟩ := query_arg h1
  have k2 := h2
  have lt2 : ∀ x ∈ p2, x.block < W.heap.size := by obtain ⟨m, hm⟩ := k2; exact DataW.trod_lt m _ _ _ hm
  obtain ⟨x2, rd2, bk2⟩ := reads_arg (reads_int Tryz.underlying3 (by kernel_rfl)) h2
  obtain ⟨a2, rfl⟩ := okWide_int Tryz.underlying3 (hval 2 3 v2 rfl rfl)
  obtain ⟨rfl, s2⟩ := of_rd_int rd2
  have k3 := h3
  have lt3 : ∀ x ∈ p3, x.block < W.heap.size := by obtain ⟨m, hm⟩ := k3; exact DataW.trod_lt m _ _ _ hm
  obtain ⟨x3, rd3, bk3⟩ := reads_arg (reads_string Tryz.underlying9 (by kernel_rfl)) h3
  obtain ⟨a3, rfl⟩ := okWide_string Tryz.underlying9 (hval 3 9 v3 rfl rfl)
  obtain ⟨rfl, s3⟩ := of_rd_str rd3
  clear hA0 hval0
  have hTT : TabsU W := tabs_of (l := Rows.searchOthersDoNotMatterUptoRow.laid) hL (.tail _ (.tail _ (.tail _ (.tail _ (.tail _ (.tail _ (.head _))))))) (.head _) (.tail _ (.head _)) (.tail _ (.tail _ (.head _))) (.tail _ (.tail _ (.tail _ (.tail _ (.head _))))) (.tail _ (.tail _ (.tail _ (.head _)))) (.tail _ (.tail _ (.tail _ (.tail _ (.tail _ (.head _))))))
  refine (sothers_row  _ _ _ _ _ _ _ W rd0 rd1 z0 (by omega) hTT).mono fun e W' ⟨he, bel⟩ => ?_
  subst he
  exact ⟨_, rfl, _, _, _, [], _, [], hW', trodAll_mk1 (shut_bool Tryz.underlying4 _), (trodAll_cons_mk (Below.trod laidOut (by kernel_rfl) (of_decide_eq_true (by kernel_rfl)) k0 bel lt0) (trodAll_cons_mk (Below.trod laidOut (by kernel_rfl) (of_decide_eq_true (by kernel_rfl)) k1 bel lt1) (trodAll_cons_mk (Below.trod laidOut (by kernel_rfl) (of_decide_eq_true (by kernel_rfl)) k2 bel lt2) (trodAll_cons_mk (Below.trod laidOut (by kernel_rfl) (of_decide_eq_true (by kernel_rfl)) k3 bel lt3) trodAll_mk0)))), rfl, bel.frame _, fun h => by cases h⟩
end searchOthersDoNotMatterUptoDone
end Go.Proofs.YtfjpedgddgbelaaGreatDoor
