/-
  Contracts and plain facts, one after another: The reference's Levels; The reference's Nodes; The reference's isWord, stands.
-/
import Derived.Test.YtfjpedgddgbelaaGreatDoorG19
import Derived.Test.YtfjpedgddgbelaaGreatDoorG31
import Derived.Test.YtfjpedgddgbelaaGreatDoorG7
namespace Go.Proofs.YtfjpedgddgbelaaGreatDoor
open Go.RowKit
set_option linter.unusedVariables false
theorem lev_one (q : Q) : Q.lev 1 q = 1 := by
  have : Q.top (q.parts.map (Q.lev 0)) ≤ 0 := Q.top_le.2 fun a ha => by
    obtain ⟨p, _, rfl⟩ := List.mem_map.1 ha
    exact Nat.le_refl _
  show Q.top (q.parts.map (Q.lev 0)) + 1 = 1
  omega
theorem lev_take (n : Nat) (l : List Q) {m : Nat} (h : m < l.length) : Q.top ((l.take (m + 1)).map (Q.lev n)) = max (Q.top ((l.take m).map (Q.lev n))) (Q.lev n l[m]) := by
  rw [List.take_succ_eq_append_getElem h, List.map_append, List.map_cons, List.map_nil, top_snoc]
set_option maxRecDepth 100000 in
set_option maxHeartbeats 4000000 in
theorem levels_ok : ∀ (n f : Nat) (q : Q) (v : Value) (w : World) (hn : n ≤ 60) (hq : QAt f M0 w v q),
    Calls Tryz.prog 85 #[v, .int .i64 ((n + 1 : Nat) : Int)] w fun r w' => r = .returned (.int .i64 (Q.lev (n + 1) q : Nat)) ∧ Below w.heap.size w w' := by
  intro n
  induction n with
  | zero =>
    intro f q v w hn hq
    rw [lev_one]
    obtain ⟨A, c, rfl, _, _, _, hv⟩ := hq
    obtain ⟨ql, hql⟩ : ∃ k, q.parts.length = k := ⟨_, rfl⟩
    rw [hql]
    obtain ⟨W0, g, hW, rfl, hs, kq, hal⟩ := boxA w #[.int .i64 q.kind, .string (bs q.text), .int .i64 q.num, .slice A ql c] 50
    obtain ⟨q0, q1, q2, q3, _⟩ := kq.four
    rw [← hW] at q3
    have HW := Lib.hid hW
    clear hs hW kq q0 q1 q2 hv hql
    go_enter Tryz.func85, Tryz.ntmps85
    go_wp2_with fail
    rw [HW.out] at q3 ⊢
    go_loopw [5, 6] (fun a i wr => a = .int .i64 0 ∧ i = .int .i64 0 ∧ wr = W0) (fun _ _ _ => 0)
    case atStart => exact ⟨rfl, rfl, rfl⟩
    case round =>
      obtain ⟨rfl, rfl, rfl⟩ := hrel
      by_cases h0 : 0 < ql
      · have h0i : (0 : Int) < (ql : Int) := by omega
        go_wp2_with fail

        go_ret
        exact ⟨rfl, hal⟩
      · have h0i : ¬ (0 : Int) < (ql : Int) := by omega
        go_wp2_with fail
        go_ret
        exact ⟨rfl, hal⟩
  | succ n ih =>
    intro f q v w hn hq
    have qq := hq
    obtain ⟨A, c, rfl, _, _, _, hv⟩ := hq
    have hqm := hv.len_le
    obtain ⟨ps, hps⟩ : ∃ l, q.parts = l := ⟨_, rfl⟩
    have hgoal : Q.lev (n + 1 + 1) q = Q.top (ps.map (Q.lev (n + 1))) + 1 := by rw [← hps]; rfl
    have htop := Q.top_lev_le (n + 1) ps
    rw [hps] at hv hqm ⊢
    rw [hgoal]
    obtain ⟨res, hres⟩ : ∃ r, Q.top (ps.map (Q.lev (n + 1))) + 1 = r := ⟨_, rfl⟩
    rw [hres]
    have Hres := Lib.hid hres
    clear hres
    obtain ⟨W0, g, hW, rfl, hs, kq, hal⟩ := boxA w #[.int .i64 q.kind, .string (bs q.text), .int .i64 q.num, .slice A ps.length c] 50
    replace hv := hv.ext hal
    have HW := Lib.hid hW
    have Htop := Lib.hid htop
    have Ih := Lib.hid ih
    clear hs hW hps hgoal qq ih htop
    unfold maxLen at hqm
    have hn1 : (1 : Int) < ((n + 1 + 1 : Nat) : Int) := by omega
    have hnw : IntKind.i64.wrap (((n + 1 + 1 : Nat) : Int) - 1) = ((n + 1 : Nat) : Int) := by rw [show ((n + 1 + 1 : Nat) : Int) - 1 = ((n + 1 : Nat) : Int) by omega]; exact IntWalk.i64_in _ (by omega)
    obtain ⟨lim, hlim⟩ : ∃ lim : Int, ((n + 1 + 1 : Nat) : Int) = lim := ⟨_, rfl⟩
    rw [hlim] at hn1 hnw ⊢
    clear hlim
    go_enter Tryz.func85, Tryz.ntmps85
    go_wp2_with fail
    rw [HW.out]
    go_loopw [5, 6] (fun a i wr => ∃ m : Nat, m ≤ ps.length ∧ i = .int .i64 m ∧ a = .int .i64 (Q.top ((ps.take m).map (Q.lev (n + 1))) : Nat) ∧ Below W0.heap.size W0 wr) (fun _ i _ => ps.length - (intOf i).toNat)
    case atStart => exact ⟨0, Nat.zero_le _, rfl, rfl, Below.refl _ _⟩
    case round =>
      obtain ⟨m, hm, rfl, rfl, hbr⟩ := hrel
      obtain ⟨q0, q1, q2, q3, _⟩ := (kq.ext hbr).four
      by_cases hlt : m < ps.length
      · obtain ⟨b, off, g2, A2, c2, rfl, hfg, _, _, s0, s1, s2, s3, hqa⟩ := (hv.ext hbr).qAt hlt
        have hlev := lev_take (n + 1) ps hlt
        have hle1 := Q.lev_le (n + 1) ps[m]
        have hle2 := Q.top_lev_le (n + 1) (ps.take m)
        have hc := Ih.out g2 ps[m] _ wr (by omega) hqa
        obtain ⟨p, hp⟩ : ∃ p, p = ps[m] := ⟨_, rfl⟩
        rw [← hp] at s0 s1 s2 s3 hc hlev hle1
        obtain ⟨t, ht⟩ : ∃ t, Q.top ((ps.take m).map (Q.lev (n + 1))) = t := ⟨_, rfl⟩
        obtain ⟨r, hr⟩ : ∃ r, Q.lev (n + 1) p = r := ⟨_, rfl⟩
        rw [ht, hr] at hlev
        rw [ht] at hle2 ⊢
        rw [hr] at hle1 hc
        have hmax : max (t : Int) (r : Int) = ((max t r : Nat) : Int) := by omega
        have Hlev := Lib.hid hlev; have Hc := Lib.hid hc; have Hbr := Lib.hid hbr
        have hmi : (m : Int) < (ps.length : Int) := by omega
        have hm0 : (0 : Int) ≤ (m : Int) := by omega
        clear hlev hc hbr hp hqa ht hr
        go_wp2_with fail
        refine Hc.out.mono ?_
        rintro e w9 ⟨rfl, hb9⟩
        clear q0 q1 q2 q3 s0 s1 s2 s3
        go_wp2_with fail
        go_roundw
        case rel => exact ⟨m + 1, by omega, by go_num, by rw [Hlev.out], Hbr.out.trans (hb9.mono Hbr.out.size)⟩
        case measure => simp [intOf]; omega
      · obtain rfl : m = ps.length := by omega
        rw [List.take_length]
        have htop := Htop.out
        obtain ⟨t, ht⟩ : ∃ t, Q.top (ps.map (Q.lev (n + 1))) = t := ⟨_, rfl⟩
        have hres := Hres.out
        rw [ht] at htop hres ⊢
        have HR := Lib.hid hres
        clear hres
        have htw : IntKind.i64.wrap ((t : Int) + 1) = ((t + 1 : Nat) : Int) := by rw [show (t : Int) + 1 = ((t + 1 : Nat) : Int) by omega]; exact IntWalk.i64_in _ (by omega)
        clear ht
        go_wp2_with fail
        go_ret
        exact ⟨by rw [← HR.out]; rfl, hal.trans (hbr.mono hal.size)⟩
end Go.Proofs.YtfjpedgddgbelaaGreatDoor
namespace Go.Proofs.YtfjpedgddgbelaaGreatDoor
open Go.RowKit
set_option linter.unusedVariables false
theorem TQs : SlT Tryz.prog 4 48 50 56 := SlT.mk' Tryz.underlying48 (by kernel_rfl : (Tryz.prog.info? 50).map (fun i => (i.zero, i.size, i.bytes)) = some (some (.agg #[.int .i64 0, .string ⟨#[]⟩, .int .i64 0, .slice none 0 0]), 4, 56)) rfl
theorem QAt.sub {f : Nat} {M M' : Nat → Prop} {w : World} {v : Value} {q : Q} (h : QAt f M w v q) (hm : ∀ b, b < w.heap.size → M' b → M b) : QAt f M' w v q := by
  obtain ⟨A, c, e, h1, h2, h3, hv⟩ := h
  exact ⟨A, c, e, h1, h2, h3, hv.sub hm⟩
set_option maxRecDepth 100000 in
set_option maxHeartbeats 4000000 in
theorem nodes_ok : ∀ (f : Nat) (q : Q) (v : Value) (n : Nat) (w : World) (M : Nat → Prop), n ≤ 60 → (∀ b, M b → b < w.heap.size) → QAt f M w v q → q.bulk ≤ 4000000 →
    Calls Tryz.prog 86 #[v, .int .i64 (n : Int)] w fun r w' => ∃ (A : Option Addr) (c : Nat) (L : List Q), r = .returned (.slice A L.length c) ∧ Hid (Sr.Cut L (Q.pre (f + 1) q) n) ∧ Own (qF (f + 1)) M w' w.heap.size 50 (.slice A L.length c) L ∧ Below w.heap.size w w' := by
  intro f
  induction f using Nat.strongRecOn with | _ f ih => ?_
  intro q v n w M hn hM hq hbk
  have hqr := hq.rd
  obtain ⟨A, c, rfl, _, _, _, hv⟩ := hq
  obtain ⟨ps, hps⟩ : ∃ l, q.parts = l := ⟨_, rfl⟩
  have hpre : Q.pre (f + 1) q = q :: ps.flatMap (Q.pre f) := by rw [← hps]; rfl
  have hbk2 := Q.bulk_eq q
  rw [hps] at hv hqr hbk2 ⊢
  have hpm : ∀ (m : Nat) (h : m < ps.length), ps[m].bulk ≤ 4000000 := fun m h => by
    have := Q.bulks_mem (List.getElem_mem h)
    omega
  have hqm := hv.len_le
  unfold maxLen at hqm
  rw [hpre]
  have hvB := hv.toMB
  obtain ⟨W0, g, hW, hg, hs, kq, hal⟩ := boxA w #[.int .i64 q.kind, .string (bs q.text), .int .i64 q.num, .slice A ps.length c] 50
  obtain ⟨q0, q1, q2, q3, _⟩ := kq.four
  have own0 : Own (qF (f + 1)) M (W0.alloc (.cells [.int .i64 q.kind, .string (bs q.text), .int .i64 q.num, .slice A ps.length c].toArray 50)) W0.heap.size 50 (.slice (some ⟨W0.heap.size, 0, none⟩) [q].length [q].length) [q] :=
    Own.built (w := W0) (M := M) (C := qF (f + 1)) 50 (Els.single (Codec.ext hqr hal)) (Nat.le_refl _) (by simp [maxLen])
  obtain ⟨W1, g1, hW1, hg1, hs1, _, hal1⟩ := boxA W0 #[.int .i64 q.kind, .string (bs q.text), .int .i64 q.num, .slice A ps.length c] 50
  rw [show (W0.alloc (.cells [.int .i64 q.kind, .string (bs q.text), .int .i64 q.num, .slice A ps.length c].toArray 50)) = W1 from hW1] at own0
  have hsl : (Value.slice (some ⟨W0.heap.size, 0, none⟩) [q].length [q].length) = .slice (some ⟨g + 1, 0, none⟩) [q].length 1 := by rw [hs]; rfl
  rw [hsl] at own0
  rw [← hW, ← hg] at q0 q1 q2 q3
  have hss : w.heap.size ≤ W0.heap.size := hal.size
  have HW := Lib.hid hW; have HW1 := Lib.hid hW1; have Hg := Lib.hid hg; have Hg1 := Lib.hid hg1; have Hq := Lib.hid kq; have Hih := Lib.hid ih; have Hpm := Lib.hid hpm; have Hhal := Lib.hid hal; have HvB := Lib.hid hvB; have HM := Lib.hid hM; have Hown0 := Lib.hid own0
  clear hsl hW hW1 hg hg1 kq ih hpm hal hvB hM hs hs1 hqr hv hps hpre hbk2 own0
  go_enter Tryz.func86, Tryz.ntmps86
  go_wp2_with fail
  rw [HW.out, HW1.out]
  try rw [Hg.out]
  try rw [Hg1.out]
  clear q0 q1 q2 q3
  go_loopw [5, 6] (fun ov iv wr => ∃ (m : Nat) (A2 : Option Addr) (c2 : Nat) (L : List Q), m ≤ ps.length ∧ iv = .int .i64 (m : Int) ∧ ov = .slice A2 L.length c2 ∧ Hid (Sr.Cut L (q :: (ps.take m).flatMap (Q.pre f)) n) ∧ Own (qF (f + 1)) M wr W0.heap.size 50 (.slice A2 L.length c2) L ∧ Below W0.heap.size W0 wr) (fun _ iv _ => ps.length - (intOf iv).toNat)
  case atStart => exact ⟨0, _, 1, [q], Nat.zero_le _, rfl, rfl, Lib.hid ⟨List.prefix_rfl, .inl rfl⟩, Hown0.out, hal1⟩
  case round =>
    obtain ⟨m, A2, c2, L, hm, rfl, rfl, hL, own, hb⟩ := hrel
    obtain ⟨wo, rfl⟩ : ∃ W, W = wr := ⟨_, rfl⟩
    obtain ⟨q0, q1, q2, q3, _⟩ := (Hq.out.ext hb).four
    have hm0 : (0 : Int) ≤ (m : Int) := by omega
    have hLl := own.len_le
    unfold maxLen at hLl
    by_cases hlt : m < ps.length
    · have hmi : (m : Int) < (ps.length : Int) := by omega
      by_cases hle : L.length ≤ n
      · have hli : (L.length : Int) ≤ (n : Int) := by omega
        have hbw : Below w.heap.size w wo := Hhal.out.trans (hb.mono Hhal.out.size)
        obtain ⟨b, off, e, A4, c4, rfl, hfe, _, _, s0, s1, s2, s3, hqa⟩ := (HvB.out.ext hbw).qAt hlt
        have hM2 : ∀ b, (M b ∨ (Value.slice A2 L.length c2).ownBlock = some b) → b < wo.heap.size := fun b h => by
          rcases h with h | h
          · have := HM.out b h; have := hbw.size; omega
          · exact own.lt b h
        have hq2 := hqa.sub (M' := fun b => M b ∨ (Value.slice A2 L.length c2).ownBlock = some b) fun b hb h => by
          rcases h with h | h
          · exact .inl h
          · exact .inr (Nat.le_trans hss (own.base b h))
        have hc := Hih.out e (by omega) ps[m] _ (n - L.length) wo _ (by omega) hM2 hq2 (Hpm.out m hlt)
        have hpb := Q.pre_bulk (e + 1) ps[m]
        have hpm := Hpm.out m hlt
        rw [← hfe] at hc hpb
        have hcs := fun L' h' => Sr.Cut.step (q := q) (f := f) (lim := n) (L := L) (L' := L') hlt hL.out hle h'
        obtain ⟨p, hp⟩ : ∃ p, p = ps[m] := ⟨_, rfl⟩
        rw [← hp] at s0 s1 s2 s3 hc hpb hpm hcs
        have hsub : IntKind.i64.wrap ((n : Int) - (L.length : Int)) = ((n - L.length : Nat) : Int) := by rw [show (n : Int) - (L.length : Int) = ((n - L.length : Nat) : Int) by omega]; exact IntWalk.i64_in _ (by omega)
        have Hc := Lib.hid hc; have Hcs := Lib.hid hcs; have Hb := Lib.hid hb; have HM2 := Lib.hid hM2; have Hfe := Lib.hid hfe
        clear hfe hc hcs hb hM2 hq2 hqa hbw hp q0 q1 q2
        go_wp2_with fail
        refine Hc.out.mono ?_
        rintro r w4 ⟨A3, c3, L3, rfl, hL3, own3, hb4⟩
        have own4 := own.ext hb4
        have hsrc := (own3.readB HM2.out).qMono (g := f + 1) (by have := Hfe.out; omega)
        have hl3 : L3.length ≤ 1000000 := by have := hL3.out.1.length_le; omega
        have hbw4 := Hb.out.trans (hb4.mono Hb.out.size)
        have hbs := hbw4.size
        clear Hc own own3 hb4 q3 s0 s1 s2 s3
        go_wp2_with (at_builtin; refine wpList_append_Own (qF (f + 1)) (M := M) (B := W0.heap.size) (l := L) (l' := L3) TQs rfl (.tmp 22) (.tmp 32) rfl (v := .slice A2 L.length c2) rfl own4 rfl hsrc ?a1 ?b1 hbs ?_)
        case a1 => unfold maxLen; omega
        case b1 => omega
        intro A5 c5 L5 w5 hL5 own5 hb5 _ _
        go_wp2
        go_roundw
        case rel => exact ⟨m + 1, A5, c5, L5, by omega, by go_num, rfl, Lib.hid (by rw [hL5.out]; exact Hcs.out L3 hL3.out), own5, hbw4.trans hb5⟩
        case measure => simp [intOf]; omega
      · have hli : ¬ (L.length : Int) ≤ (n : Int) := by omega
        clear q0 q1 q2
        go_wp2
        go_ret
        exact ⟨A2, c2, L, rfl, Lib.hid (hL.out.all (.inr (by omega))), own.lower hss, Hhal.out.trans (hb.mono Hhal.out.size)⟩
    · have hmi : ¬ (m : Int) < (ps.length : Int) := by omega
      clear q0 q1 q2
      go_wp2
      go_ret
      exact ⟨A2, c2, L, rfl, Lib.hid (hL.out.all (.inl (by omega))), own.lower hss, Hhal.out.trans (hb.mono Hhal.out.size)⟩
end Go.Proofs.YtfjpedgddgbelaaGreatDoor
namespace Go.Proofs.YtfjpedgddgbelaaGreatDoor
open Go.RowKit
set_option linter.unusedVariables false
theorem beq_lists (a b : List Str) : (a == b) = decide (a = b) := by rw [Bool.eq_iff_iff]; simp
set_option maxRecDepth 100000 in
set_option maxHeartbeats 4000000 in
theorem isWord_ok (s : Str) (hs : s.length ≤ 4000000) (w : World) (hT : TabsU w) : Calls Tryz.prog 87 #[.string (bs s)] w fun e w' => e = .returned (.bool (Q.wordOk s)) ∧ Below w.heap.size w w' := by
  have hw := refWords_ok s hs w hT
  have Hw := Lib.hid hw
  clear hw hT
  go_enter Tryz.func87, Tryz.ntmps87
  go_wp2_with fail
  refine Hw.out.mono ?_
  rintro e w1 ⟨A, c, L, rfl, hL, own, hb⟩
  have hw : Q.wordOk s = (decide (s.length ≤ 8000) && (L == [s])) := by rw [hL.out]; rfl
  clear Hw
  by_cases h1 : s.length ≤ 8000
  · have h1i : (s.length : Int) ≤ 8000 := by omega
    match L, own, hw with
    | [x], own, hw =>
      obtain ⟨b, off, rfl, _, _, p0, _⟩ := own.read0.strAt (k := 0) (by simp)
      have hw2 : Q.wordOk s = (x == s) := by
        rw [hw, decide_eq_true h1, Bool.true_and, Bool.eq_iff_iff]; simp
      have Hw := Lib.hid hw2
      clear hw hw2
      simp only [List.getElem_cons_zero, Nat.add_zero] at p0
      cases ht : (x == s) with
      | true =>
        go_wp2
        go_ret
        exact ⟨ret_bool (by rw [Hw.out, ht]), hb⟩
      | false =>
        go_wp2
        go_ret
        exact ⟨ret_bool (by rw [Hw.out, ht]), hb⟩
    | [], own, hw =>
      have hw2 : Q.wordOk s = false := by rw [hw, Bool.eq_false_iff]; simp
      have Hw := Lib.hid hw2
      clear hw hw2
      go_wp2
      go_ret
      exact ⟨ret_bool (by rw [Hw.out]), hb⟩
    | x :: y :: r, own, hw =>
      have hw2 : Q.wordOk s = false := by rw [hw, Bool.eq_false_iff]; simp
      have hl : (((x :: y :: r).length : Int) == 1) = false := by rw [beq_eq_false_iff_ne]; simp only [List.length_cons]; omega
      have Hw := Lib.hid hw2
      clear hw hw2
      go_wp2
      go_ret
      exact ⟨ret_bool (by rw [Hw.out]), hb⟩
  · have h1i : ¬ (s.length : Int) ≤ 8000 := by omega
    have hw2 : Q.wordOk s = false := by rw [hw, decide_eq_false h1, Bool.false_and]
    have Hw := Lib.hid hw2
    clear hw hw2
    go_wp2
    go_ret
    exact ⟨ret_bool (by rw [Hw.out]), hb⟩
set_option maxRecDepth 100000 in
set_option maxHeartbeats 4000000 in
theorem stands_ok (v : Value) (l : List Str) (i : Int) (x : Str) (w : World) (h : SlR strC M0 w v l) (h0 : 0 ≤ i) (hi : i ≤ 9223372036854775807) (hl : ∀ s ∈ l, s.length ≤ 4398046511104) :
    Calls Tryz.prog 102 #[v, .int .i64 i, .string (bs x)] w fun e w' => e = .returned (.bool (Sr.standsF l i.toNat x)) ∧ Below w.heap.size w w' := by
  obtain ⟨A, c, rfl, _, _⟩ := h.form
  have hcm := h.len_le
  unfold maxLen at hcm
  by_cases hlt : i.toNat < l.length
  · obtain ⟨b, off, rfl, _, _, p0, _⟩ := h.strAt hlt
    have hs := refSplit_ok l[i.toNat] (hl _ (List.getElem_mem hlt)) w
    have hf : Sr.standsF l i.toNat x = (splitS l[i.toNat]).any (· == x) := by
      unfold Sr.standsF
      rw [decide_eq_true hlt, Bool.true_and, Ix.getD_get hlt, contains_anyS]
    obtain ⟨k, rfl⟩ : ∃ k : Nat, i = (k : Int) := ⟨i.toNat, by omega⟩
    simp only [Int.toNat_natCast] at p0 hs hf hlt ⊢
    obtain ⟨y, hy⟩ : ∃ y, y = l[k] := ⟨_, rfl⟩
    rw [← hy] at p0 hs hf
    have Hs := Lib.hid hs; have Hf := Lib.hid hf
    have hki : (k : Int) < (l.length : Int) := by omega
    clear hs hf hy hl
    go_enter Tryz.func102, Tryz.ntmps102
    go_wp2_with fail
    refine Hs.out.mono ?_
    rintro e w1 ⟨A2, c2, L, rfl, hL, own, hb⟩
    have hh := hasText_ok M0 _ L x w1 own.read0
    have Hh := Lib.hid hh
    clear hh
    go_wp2_with fail
    refine Hh.out.mono ?_
    rintro e w2 ⟨rfl, rfl⟩
    go_wp2
    go_ret
    exact ⟨ret_bool (by rw [Hf.out, hL.out]), hb⟩
  · have hf : Sr.standsF l i.toNat x = false := by unfold Sr.standsF; rw [decide_eq_false hlt, Bool.false_and]
    have hki : ¬ i < (l.length : Int) := by omega
    have Hf := Lib.hid hf
    clear hf hl
    go_enter Tryz.func102, Tryz.ntmps102
    go_wp2
    go_ret
    exact ⟨ret_bool (by rw [Hf.out]), Below.refl _ _⟩
end Go.Proofs.YtfjpedgddgbelaaGreatDoor
