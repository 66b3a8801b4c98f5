/-
  Contracts and plain facts, one after another: (search.finder).found: the iterator; search.Find; search.Find; The reference insert: a text into a sorted row.
-/
import Derived.Test.YtfjpedgddgbelaaGreatDoorG11
import Derived.Test.YtfjpedgddgbelaaGreatDoorSrF
import Derived.Test.YtfjpedgddgbelaaGreatDoorG7
import Derived.Test.YtfjpedgddgbelaaGreatDoorG22
import Derived.Test.YtfjpedgddgbelaaGreatDoorG8
import Derived.Test.YtfjpedgddgbelaaGreatDoorG2
import Derived.Deep.QuietTactic
import Derived.BigQuiet
namespace Go.Proofs.YtfjpedgddgbelaaGreatDoor
open Go.RowKit
set_option linter.unusedVariables false
/-- What the iterator reads: the finder, the query. -/
structure FdAt (gF gQ f : Nat) (a b qv : Value) (qc : Array Value) (x : Ix.Idx) (q : Q) (w : World) : Prop where
  kF : Blk w gF 110 #[a, b]
  kQ : Blk w gQ 50 qc
  ids : SlR intC M0 w a x.1
  terms : SlR termC M0 w b x.2
  q : QAt f M0 w qv q
theorem FdAt.ext {gF gQ f : Nat} {a b qv : Value} {qc : Array Value} {x : Ix.Idx} {q : Q} {w w' : World} (h : FdAt gF gQ f a b qv qc x q w) (hb : Below w.heap.size w w') : FdAt gF gQ f a b qv qc x q w' :=
  ⟨h.kF.ext hb, h.kQ.ext hb, h.ids.ext hb, h.terms.ext hb, h.q.ext hb⟩
def fdFP (gF gQ f : Nat) (a b qv : Value) (qc : Array Value) (x : Ix.Idx) (q : Q) (S : Nat → Prop) (w : World) : Prop := ∃ w0, FdAt gF gQ f a b qv qc x q w0 ∧ Below w0.heap.size w0 w ∧ ∀ b, S b → w0.heap.size ≤ b
theorem fdFP.at {gF gQ f : Nat} {a b qv : Value} {qc : Array Value} {x : Ix.Idx} {q : Q} {S : Nat → Prop} {w : World} (h : fdFP gF gQ f a b qv qc x q S w) : FdAt gF gQ f a b qv qc x q w := by
  obtain ⟨w0, h1, h2, _⟩ := h
  exact h1.ext h2
theorem fdFP.ext {gF gQ f : Nat} {a b qv : Value} {qc : Array Value} {x : Ix.Idx} {q : Q} {S : Nat → Prop} {w w' : World} (h : fdFP gF gQ f a b qv qc x q S w) (hb : Below w.heap.size w w') : fdFP gF gQ f a b qv qc x q S w' := by
  obtain ⟨w0, h1, h2, h3⟩ := h
  exact ⟨w0, h1, h2.trans (hb.mono h2.size), h3⟩
theorem fdFP.chg {gF gQ f : Nat} {a b qv : Value} {qc : Array Value} {x : Ix.Idx} {q : Q} {S S' : Nat → Prop} {w w' : World} (h : fdFP gF gQ f a b qv qc x q S w) (hc : Chg S S' w w') : fdFP gF gQ f a b qv qc x q S' w' := by
  obtain ⟨w0, h1, h2, h3⟩ := h
  refine ⟨w0, h1, ⟨hc.os.trans h2.os, hc.tape.trans h2.tape, hc.output.trans h2.output, Nat.le_trans h2.size hc.size, fun b hb => ?_⟩, fun b hb => ?_⟩
  · exact (hc.same b (by have := h2.size; omega) fun hS => by have := h3 b hS; omega).trans (h2.block b hb)
  · have h4 := h2.size
    rcases (hc.own b hb).2 with h | h
    · exact h3 b h
    · omega
set_option maxRecDepth 100000 in
set_option maxHeartbeats 4000000 in
theorem found_iter (gF gQ f : Nat) (A0 A1 A : Option Addr) (n0 c0 n1 c1 m c : Nat) (k n : Int) (t : Str) (x : Ix.Idx) (q : Q) (hcan : Ix.Canon x) (hbk : q.bulk ≤ 4000000) (hok : ∀ p ∈ Q.pre (f + 1) q, Q.errOf p = 0) :
    Iter Tryz.prog 126 #[.pointer (some ⟨gF, 0, none⟩), .pointer (some ⟨gQ, 0, none⟩)] encI1 (x.1.filter fun id => Sr.findsF (f + 1) x q id) (fdFP gF gQ f (.slice A0 n0 c0) (.slice A1 n1 c1) (.agg #[.int .i64 k, .string (bs t), .int .i64 n, .slice A m c]) #[.int .i64 k, .string (bs t), .int .i64 n, .slice A m c] x q) := by
  intro ll J Jx S W hFP hS hJ hJx hY h0
  refine callsIn_of_wp Tryz.func126 rfl trivial ?_ rfl
  simp only [Tryz.ntmps126, List.size_toArray, List.length_cons, List.length_nil, Nat.reduceAdd, Nat.reduceSub, Array.replicate_succ, Array.replicate_zero, List.push_toArray, List.append_toArray, List.nil_append, List.cons_append]
  have hF1 : Fence.wide.fn 127 := trivial
  have hF3 : Fence.wide.depth = none := rfl
  have hF4 : Fence.wide.round = none := rfl
  obtain ⟨p, hp⟩ : ∃ p : Int → Bool, (fun id => Sr.findsF (f + 1) x q id) = p := ⟨_, rfl⟩
  have Hp := Lib.hid hp
  rw [hp] at hY ⊢
  have HY := Lib.hid hY; have HJ := Lib.hid hJ; have HJx := Lib.hid hJx; have HS := Lib.hid hS
  obtain ⟨R, hR⟩ : ∃ R, x.1.filter p = R := ⟨_, rfl⟩
  rw [hR] at HY ⊢
  have HR := Lib.hid hR
  have hfd := hFP.at
  obtain ⟨A0', c0', he, hlc, hcm⟩ := hfd.ids.form
  injection he with e1 e2 e3
  subst e1 e2 e3
  obtain ⟨f0, f1, _, _, _⟩ := hfd.kF.two
  unfold maxLen at hcm
  clear hY hJ hJx hS hR hp hfd
  gi_wp2
  clear f0 f1
  gi_loopw [10] (fun i wr => ∃ (pos kk : Nat) (T : Nat → Prop), i = .int .i64 (pos : Int) ∧ J kk T wr ∧ fdFP gF gQ f (.slice A0 x.1.length c0) (.slice A1 n1 c1) (.agg #[.int .i64 k, .string (bs t), .int .i64 n, .slice A m c]) #[.int .i64 k, .string (bs t), .int .i64 n, .slice A m c] x q T wr ∧ Hid (∀ b, T b → b < wr.heap.size) ∧ W.heap.size ≤ wr.heap.size ∧
      Hid (R = R.take kk ++ (x.1.drop pos).filter p) ∧ pos ≤ x.1.length ∧ kk ≤ R.length) (fun i _ => x.1.length - (intOf i).toNat)
  case atStart => exact ⟨0, 0, S, rfl, h0, hFP, HS, Nat.le_refl _, Lib.hid (by rw [List.drop_zero, HR.out]; rfl), by omega, by omega⟩
  case round =>
    obtain ⟨pos, kk, T, rfl, hj, hfp, hT, hsz, hrec, hpl, hkk⟩ := hrel
    have hfd := hfp.at
    obtain ⟨f0, f1, _, _, _⟩ := hfd.kF.two
    obtain ⟨p0, p1, p2, p3, _⟩ := hfd.kQ.four
    by_cases hlt : pos < x.1.length
    · obtain ⟨b, off, rfl, _, _, q0, hl1, hl2⟩ := hfd.ids.intAt hlt
      have hst : (x.1.drop pos).filter p = if p x.1[pos] then x.1[pos] :: (x.1.drop (pos + 1)).filter p else (x.1.drop (pos + 1)).filter p := by
        rw [List.drop_eq_getElem_cons hlt, List.filter_cons]
      obtain ⟨id, hid⟩ : ∃ y, y = x.1[pos] := ⟨_, rfl⟩
      rw [← hid] at q0 hst
      have hfin := finds_ok (.slice (some ⟨b, off, none⟩) x.1.length c0) (.slice A1 n1 c1) x id hcan f q (.agg #[.int .i64 k, .string (bs t), .int .i64 n, .slice A m c]) wr hfd.ids hfd.terms hfd.q hbk hok
      have hpe : Sr.findsF (f + 1) x q id = p id := by rw [← Hp.out]
      rw [hpe] at hfin
      rw [hst] at hrec
      obtain ⟨tt, htt⟩ : ∃ tt, p id = tt := ⟨_, rfl⟩
      rw [htt] at hfin hrec
      have Hfin := Lib.hid hfin
      clear hfin hst hid htt hpe hl1 hl2 hfd
      gi_wp2_with fail
      refine (callsIn_wide.2 Hfin.out).mono ?_
      rintro e w2 ⟨rfl, hb2⟩
      have hfp2 := hfp.ext hb2
      have hj2 := HJ.out _ _ _ _ hj (Kept.of_below hb2)
      have hsz2 : W.heap.size ≤ w2.heap.size := Nat.le_trans hsz hb2.size
      have hT2 : Hid (∀ b, T b → b < w2.heap.size) := Lib.hid fun b hb => by have := hT.out b hb; have := hb2.size; omega
      clear hb2 hfp hj hsz hT q0 f0 f1 p0 p1 p2 p3 Hfin
      cases tt with
      | false =>
        gi_wp2
        refine ⟨fun _ h => (by cases h), ?_⟩
        gi_wp2
        go_roundw
        case rel => exact ⟨pos + 1, kk, T, by go_num, hj2, hfp2, hT2, hsz2, Lib.hid (by have := hrec.out; simpa using this), by omega, hkk⟩
        case measure => simp [intOf]; omega
      | true =>
        have h := hrec.out
        simp only [if_true] at h
        obtain ⟨hk', hx, hr'⟩ := list_at hkk h
        have hy := HY.out kk hk' T w2 hj2 hsz2
        rw [hx] at hy
        have Hr' := Lib.hid hr'
        clear hx hr' h hrec
        obtain ⟨fn, tmps, assign, body, hyy, hRR⟩ := hy
        dsimp only [encI1] at hyy
        gi_wp2_with fail
        refine hRR.mono ?_
        rintro e w4 ⟨T', hchg, hor4⟩
        obtain ⟨tt, rfl⟩ : ∃ tt, e = .returned (.bool tt) := hor4.elim (fun h => ⟨_, h.1⟩) (fun h => ⟨_, h.1⟩)
        have Hor4 := Lib.hid hor4
        clear hor4 hyy hRR
        have hfp4 := hfp2.chg hchg
        have hsz4 : W.heap.size ≤ w4.heap.size := Nat.le_trans hsz2 hchg.size
        cases tt with
        | true =>
          have hj4 : J (kk + 1) T' w4 := Hor4.out.elim (fun h => h.2) (fun h => by cases h.1)
          gi_wp2
          go_roundw
          case rel => exact ⟨pos + 1, kk + 1, T', by go_num, hj4, hfp4, Lib.hid (fun b hb => (hchg.own b hb).1), hsz4, Hr', by omega, hk'⟩
          case measure => simp [intOf]; omega
        | false =>
          have hx4 : Jx (kk + 1) T' w4 := Hor4.out.elim (fun h => by cases h.1) (fun h => h.2)
          gi_wp2
          exact bodyPost_ret (results_none rfl _ _ _) rfl ⟨⟨_, rfl⟩, .inr ⟨kk + 1, T', hx4⟩⟩
    · obtain rfl : pos = x.1.length := by omega
      have hke : kk = R.length := by
        have h := congrArg List.length hrec.out
        rw [List.drop_length, List.filter_nil, List.append_nil, List.length_take] at h
        omega
      have Hke := Lib.hid hke
      clear hke hrec
      gi_wp2
      exact bodyPost_end (results_none rfl _ _ _) rfl ⟨⟨_, rfl⟩, .inl ⟨T, by rw [← Hke.out]; exact hj⟩⟩
end Go.Proofs.YtfjpedgddgbelaaGreatDoor
namespace Go.Proofs.YtfjpedgddgbelaaGreatDoor
open Go.RowKit
set_option linter.unusedVariables false
set_option maxHeartbeats 2000000 in
theorem found_ok (A0 A1 A : Option Addr) (n0 c0 n1 c1 m c : Nat) (k n : Int) (t : Str) (w : World) : Calls Tryz.prog 79 #[.agg #[.slice A0 n0 c0, .slice A1 n1 c1], .agg #[.int .i64 k, .string (bs t), .int .i64 n, .slice A m c]] w fun e w' =>
    ∃ g, e = .returned (.func (.func 126) #[] #[.pointer (some ⟨g, 0, none⟩), .pointer (some ⟨g + 1, 0, none⟩)]) ∧ Blk w' g 110 #[.slice A0 n0 c0, .slice A1 n1 c1] ∧ Blk w' (g + 1) 50 #[.int .i64 k, .string (bs t), .int .i64 n, .slice A m c] ∧ Below w.heap.size w w' := by
  obtain ⟨W, g, hW, hg, hs, kF, kQ, hal⟩ := boxPair w #[.slice A0 n0 c0, .slice A1 n1 c1] 110 #[.int .i64 k, .string (bs t), .int .i64 n, .slice A m c] 50
  have HW := Lib.hid hW
  clear hW
  go_enter Tryz.func79, Tryz.ntmps79
  go_wp2_with fail
  rw [HW.out]
  go_ret
  exact ⟨g, rfl, kF, kQ, hal⟩
/-- what Find answers -/
def SFindAt (x : Ix.Idx) (q : Q) (w : World) (e : Ending) (w' : World) : Prop :=
  ∃ (A : Option Addr) (c : Nat) (L : List Int), e = .returned (.tuple #[.slice A L.length c, .agg #[.int .i64 (Sr.findR x q).2.1, .int .i64 (Sr.findR x q).2.2]]) ∧ Hid (L = (Sr.findR x q).1) ∧ Own intC M0 w' w.heap.size 3 (.slice A L.length c) L ∧ Below w.heap.size w w'
theorem pre8 {q : Q} (h : (Q.fault q).1 = 0) {f : Nat} (hf : 8 ≤ f) : ∀ p ∈ Q.pre f q, Q.errOf p = 0 := by
  have hg := Q.fault_zero.1 h
  rw [(pre_up hg.1 hf).1]
  exact hg.2.2
set_option maxRecDepth 100000 in
set_option maxHeartbeats 8000000 in
theorem sfind_ok (a b qv : Value) (x : Ix.Idx) (q : Q) (f : Nat) (w : World) (h0 : SlR intC M0 w a x.1) (h1 : SlR termC M0 w b x.2) (hq0 : QAt f M0 w qv q) (hsz : SzIx x.2) (hbk : q.bulk ≤ 4000000) (hT : TabsU w) :
    Calls Tryz.prog 31 #[.agg #[a, b], qv] w (SFindAt x q w) := by
  have hq := hq0.mono (g := max f 7) (Nat.le_max_left _ _)
  have hf7 : 8 ≤ max f 7 + 1 := by omega
  generalize max f 7 = f at hq hf7
  have hqv := hq
  obtain ⟨A0, c0, rfl, _, _⟩ := h0.form
  obtain ⟨A1, c1, rfl, _, _⟩ := h1.form
  obtain ⟨A, c, rfl, _, htm, _, hv⟩ := hq
  obtain ⟨W, g, hW, hg, hs, kX, kQ, kR, hal⟩ := box3 w #[.slice A0 x.1.length c0, .slice A1 x.2.length c1] #[.int .i64 q.kind, .string (bs q.text), .int .i64 q.num, .slice A q.parts.length c] #[.int .i64 0, .int .i64 0] 25 50 27
  have hval := validate_ok (.slice A0 x.1.length c0) (.slice A1 x.2.length c1) x.1 x.2 W (h0.ext hal) (h1.ext hal) hsz
  rw [show Ix.indexF (x.1, x.2) = Ix.indexF x from rfl] at hval
  have hres : Sr.findR x q = if (Ix.indexF x).1 ≠ 0 then ([], Ix.indexF x) else if (Q.fault q).1 ≠ 0 then ([], (Q.fault q).1, -5) else (Sr.foundF x q, 0, 0) := rfl
  obtain ⟨⟨fl, ra, rb⟩, hr⟩ : ∃ r, Sr.findR x q = r := ⟨_, rfl⟩
  unfold SFindAt
  rw [hr] at hres ⊢
  dsimp only
  have hcan := Ix.indexF_zero x
  obtain ⟨⟨ia, ib⟩, hia⟩ : ∃ r, Ix.indexF x = r := ⟨_, rfl⟩
  rw [hia] at hval hres hcan
  dsimp only at hval hres hcan
  obtain ⟨n0, hn0⟩ : ∃ n, x.1.length = n := ⟨_, rfl⟩
  obtain ⟨n1, hn1⟩ : ∃ n, x.2.length = n := ⟨_, rfl⟩
  rw [hn0, hn1] at kX hval hW ⊢
  obtain ⟨f0, f1, _, _, _⟩ := kX.two
  have HW := Lib.hid hW; have Hval := Lib.hid hval; have Hres := Lib.hid hres; have Hcan := Lib.hid hcan; have HX := Lib.hid (And.intro h0 (And.intro h1 (And.intro hqv hT)))
  have Hn : Hid (x.1.length = n0 ∧ x.2.length = n1) := Lib.hid ⟨hn0, hn1⟩
  rw [← hW] at f0 f1
  clear hW hval hres hcan h0 h1 hqv hT hn0 hn1 hia hr hq0 hv
  go_enter Tryz.func31, Tryz.ntmps31
  go_wp2_with fail
  rw [HW.out]
  refine Hval.out.mono ?_
  rintro e w2 ⟨rfl, hb2⟩
  obtain ⟨V, g2, hV, hg2, hs2, kV, hbV⟩ := boxA w2 #[.int .i64 ia, .int .i64 ib] 27
  obtain ⟨v0, v1, _, _, _⟩ := kV.two
  have hb02 := hb2.trans (hbV.mono hb2.size)
  have kX2 := kX.ext hb02
  have kQ2 := kQ.ext hb02
  have kR2 := kR.ext hb02
  have hbv := hal.trans (hb02.mono hal.size)
  have HV := Lib.hid hV; have HkX := Lib.hid kX2; have HkQ := Lib.hid kQ2; have HkR := Lib.hid kR2; have Hbv := Lib.hid hbv; have HkV := Lib.hid kV
  rw [← hV] at v0 v1
  clear f0 f1 hV kX kQ kR kX2 kQ2 kR2 hb02 hbv kV hb2 hbV hal
  go_wp2_with fail
  rw [HV.out]
  rw [HV.out] at v0 v1
  refine (failed_ok ia ib _).mono ?_
  rintro e w3 ⟨rfl, hb3⟩
  have hbw3 := Hbv.out.trans (hb3.mono Hbv.out.size)
  have hgw : w.heap.size ≤ g + 1 + 1 := by omega
  by_cases hi : ia = 0
  · have hi0 : (ia != 0) = false := by simpa using hi
    have hres := Hres.out
    rw [if_neg (by simp [hi])] at hres
    have hx3 := HX.out
    have hvq := qvalidate_ok f q _ w3 (hx3.2.2.1.ext hbw3) hbk (hx3.2.2.2.ext hbw3)
    have hfz : (Q.fault q).1 = 0 → ∀ p ∈ Q.pre (f + 1) q, Q.errOf p = 0 := fun h => pre8 h hf7
    have hup : (Q.fault q).1 = 0 → ∀ id, Sr.findsF (f + 1) x q id = Sr.findsF 8 x q id := fun h id => Sr.finds_up h hf7 x id
    have hff : Sr.foundF x q = x.1.filter fun id => Sr.findsF 8 x q id := rfl
    obtain ⟨⟨qa, qb⟩, hqf⟩ : ∃ r, Q.fault q = r := ⟨_, rfl⟩
    rw [hqf] at hvq hres hfz hup
    dsimp only at hvq hres hfz hup
    obtain ⟨q0, q1, q2, q3, _⟩ := (HkQ.out.ext hb3).four
    have kR3 := HkR.out.ext hb3
    have Hvq := Lib.hid hvq; have Hres2 := Lib.hid hres; have Hfz := Lib.hid hfz; have Hup := Lib.hid hup; have Hff := Lib.hid hff; have HkR3 := Lib.hid kR3
    clear hvq hres hfz hup hff kR3 v0 v1 hx3
    go_wp2_with fail
    refine Hvq.out.mono ?_
    rintro e w4 ⟨rfl, hb4⟩
    obtain ⟨U, g4, hU, hg4, hs4, kU, hbU⟩ := boxA w4 #[.int .i64 qa, .int .i64 qb] 27
    have hbw4 := hbw3.trans ((hb4.trans (hbU.mono hb4.size)).mono hbw3.size)
    have hb34 := hb4.trans (hbU.mono hb4.size)
    have kR4 := HkR3.out.ext hb34
    have kQ4 := (HkQ.out.ext hb3).ext hb34
    have kX4 := (HkX.out.ext hb3).ext hb34
    obtain ⟨u0, u1, _, _, _⟩ := kU.two
    have HU := Lib.hid hU; have HkR4 := Lib.hid kR4; have HkQ4 := Lib.hid kQ4; have HkX4 := Lib.hid kX4; have Hb4 := Lib.hid hbw4; have HkU := Lib.hid kU
    rw [← hU] at u0 u1
    clear q0 q1 q2 q3 hU kR4 kQ4 kX4 hbw4 hb34 kU hb4 hbU hbw3
    go_wp2_with fail
    rw [HU.out]
    refine (failed_ok qa qb _).mono ?_
    rintro e w5 ⟨rfl, hb5⟩
    have hbw5 := Hb4.out.trans (hb5.mono Hb4.out.size)
    have kR5 := HkR4.out.ext hb5
    by_cases hq : qa = 0
    · have hqn : (qa != 0) = false := by simpa using hq
      have hres := Hres2.out
      rw [if_neg (by simp [hq])] at hres
      injection hres with r1 r2
      injection r2 with r2 r3
      have hcan := Hcan.out.1 hi
      have hx5 := HX.out
      obtain ⟨q0, q1, q2, q3, _⟩ := (HkQ4.out.ext hb5).four
      obtain ⟨y0, y1, _, _, _⟩ := (HkX4.out.ext hb5).two
      have Hr := Lib.hid (And.intro r1 (And.intro r2 r3)); have HkR5 := Lib.hid kR5; have Hb5 := Lib.hid hbw5
      clear u0 u1 r1 r2 r3 kR5 hbw5
      go_wp2_with fail
      refine (found_ok A0 A1 A n0 c0 n1 c1 q.parts.length c q.kind q.num q.text w5).mono ?_
      rintro e w6 ⟨gg, rfl, kF6, kQ6, hb6⟩
      have hbw6 := Hb5.out.trans (hb6.mono Hb5.out.size)
      have hfd : FdAt gg (gg + 1) f (.slice A0 n0 c0) (.slice A1 n1 c1) (.agg #[.int .i64 q.kind, .string (bs q.text), .int .i64 q.num, .slice A q.parts.length c]) #[.int .i64 q.kind, .string (bs q.text), .int .i64 q.num, .slice A q.parts.length c] x q w6 := by
        have e1 := Hn.out.1; have e2 := Hn.out.2
        exact ⟨kF6, kQ6, by rw [← e1]; exact hx5.1.ext hbw6, by rw [← e2]; exact hx5.2.1.ext hbw6, hx5.2.2.1.ext hbw6⟩
      have hcol := collect_ok 126 #[.pointer (some ⟨gg, 0, none⟩), .pointer (some ⟨gg + 1, 0, none⟩)] _ _ (found_iter gg (gg + 1) f A0 A1 A n0 c0 n1 c1 q.parts.length c q.kind q.num q.text x q hcan hbk (Hfz.out hq)) (fun args w => enters_of Tryz.func126 (by kernel_rfl) rfl args w)
        (fun id hid => by have := hcan.idr id (List.mem_filter.1 hid).1; omega) (by have h1 := List.length_filter_le (fun id => Sr.findsF (f + 1) x q id) x.1; have h2 := hcan.few; omega) w6 (fun S' W' hS' hb' => ⟨w6, hfd, hb', hS'⟩)
      have hl : (x.1.filter fun id => Sr.findsF (f + 1) x q id) = fl := by
        rw [Hr.out.1, Hff.out]
        exact List.filter_congr fun id _ => Hup.out hq id
      rw [hl] at hcol
      have Hcol := Lib.hid hcol; have HkR6 := Lib.hid (HkR5.out.ext hb6); have Hb6 := Lib.hid hbw6
      clear hcol hl hfd kF6 kQ6 hbw6 hcan hx5 hb6 q0 q1 q2 q3 y0 y1
      go_wp2_with fail
      refine Hcol.out.mono ?_
      rintro e w7 ⟨A7, c7, L, rfl, hL, hown, hb7⟩
      have kR7 := HkR6.out.ext hb7
      have hbw7 := Hb6.out.trans (hb7.mono Hb6.out.size)
      go_wp2_with fail
      refine (none_ok _).mono ?_
      rintro e w8 ⟨rfl, hb8⟩
      have kR8 := kR7.ext hb8
      have hbw8 := hbw7.trans (hb8.mono hbw7.size)
      obtain ⟨z0, z1, z2, z3, _⟩ := kR8.two
      have hown8 := hown.ext hb8
      have hlow : w.heap.size ≤ w6.heap.size := Hb6.out.size
      have hgl := HkR6.out.lt
      clear hown
      go_wp2_with fail
      obtain ⟨e0, e1⟩ := kR8.put2 (.int .i64 0) (.int .i64 0)
      have h1 := Hr.out.2.1; have h2 := Hr.out.2.2
      refine bodyPost_ret (v := .tuple #[.slice A7 L.length c7, .agg #[.int .i64 0, .int .i64 0]]) (by simp [results, Tryz.results31, go_sem, e0, e1]) rfl ⟨A7, c7, L, by rw [h1, h2], hL, ?_, below_set2 hbw8 hgw _ _⟩
      exact (hown8.flatC flatC_int (fun b hb => by have hx := hown8.base b hb; exact (Below.heap_setCell _ _ _ _ (by show b ≠ g + 1 + 1; omega)).trans (Below.heap_setCell _ _ _ _ (by show b ≠ g + 1 + 1; omega)))).weak (by omega) (fun _ h => h)
    · have hqn : (qa != 0) = true := by simpa using hq
      have hres := Hres2.out
      rw [if_pos hq] at hres
      injection hres with r1 r2
      injection r2 with r2 r3
      obtain ⟨y0, y1, _, _, _⟩ := (HkU.out.ext hb5).two
      have Hr := Lib.hid (And.intro r1 (And.intro r2 r3)); have HkR5 := Lib.hid kR5; have Hb5 := Lib.hid hbw5
      clear u0 u1 r1 r2 r3 kR5 hbw5
      go_wp2_with fail
      refine (fault_ok qa (-5) _).mono ?_
      rintro e w6 ⟨rfl, hb6⟩
      have kR6 := HkR5.out.ext hb6
      have hbw6 := Hb5.out.trans (hb6.mono Hb5.out.size)
      obtain ⟨z0, z1, z2, z3, _⟩ := kR6.two
      clear y0 y1
      go_wp2_with fail
      obtain ⟨e0, e1⟩ := kR6.put2 (.int .i64 qa) (.int .i64 (-5))
      have h1 := Hr.out.2.1; have h2 := Hr.out.2.2
      exact bodyPost_ret (v := .tuple #[.slice none 0 0, .agg #[.int .i64 qa, .int .i64 (-5)]]) (by simp [results, Tryz.results31, go_sem, e0, e1]) rfl ⟨none, 0, [], by rw [h1, h2]; rfl, Lib.hid Hr.out.1.symm, Own.nil _ _ _ _ _, below_set2 hbw6 hgw _ _⟩
  · have hi0 : (ia != 0) = true := by simpa using hi
    have hres := Hres.out
    rw [if_pos hi] at hres
    injection hres with r1 r2
    injection r2 with r2 r3
    have Hr := Lib.hid (And.intro r1 (And.intro r2 r3))
    have kR3 := HkR.out.ext hb3
    obtain ⟨y0, y1, _, _, _⟩ := (HkV.out.ext hb3).two
    obtain ⟨z0, z1, z2, z3, _⟩ := kR3.two
    clear v0 v1 r1 r2 r3
    go_wp2_with fail
    go_region
    obtain ⟨e0, e1⟩ := kR3.put2 (.int .i64 ia) (.int .i64 ib)
    obtain ⟨W9, hW9⟩ : ∃ W9, (w3.setCell ⟨g + 1 + 1, 0, none⟩ (.int .i64 ia)).setCell ⟨g + 1 + 1, 1, none⟩ (.int .i64 ib) = W9 := ⟨_, rfl⟩
    have hbw9 : Below w.heap.size w W9 := by rw [← hW9]; exact below_set2 hbw3 hgw _ _
    rw [hW9] at e0 e1 ⊢
    go_wp2_with fail
    have h1 := Hr.out.2.1; have h2 := Hr.out.2.2
    have e0' : W9.drew.cell? ⟨g + 1 + 1, 0, none⟩ = some (.int .i64 ia) := e0
    have e1' : W9.drew.cell? ⟨g + 1 + 1, 1, none⟩ = some (.int .i64 ib) := e1
    exact bodyPost_ret (v := .tuple #[.slice none 0 0, .agg #[.int .i64 ia, .int .i64 ib]]) (by simp [results, Tryz.results31, go_sem, e0', e1']) rfl ⟨none, 0, [], by rw [h1, h2]; rfl, Lib.hid Hr.out.1.symm, Own.nil _ _ _ _ _, below_drew hbw9⟩
end Go.Proofs.YtfjpedgddgbelaaGreatDoor
namespace Go.Proofs.YtfjpedgddgbelaaGreatDoor
open Go.RowKit
set_option linter.unusedVariables false
theorem insW_at {l : List Str} {s : Str} {k : Nat} (hk : k ≤ l.length) (h1 : ∀ (j : Nat) (hj : j < l.length), j < k → ltS l[j] s = true) (h2 : ∀ (h : k < l.length), ltS l[k] s = false) : Ix.insW l s = l.take k ++ [s] ++ l.drop k := by
  have ht : l.takeWhile (fun a => ltS a s) = l.take k ∧ l.dropWhile (fun a => ltS a s) = l.drop k := by
    induction l generalizing k with
    | nil => cases k with
      | zero => exact ⟨rfl, rfl⟩
      | succ k => simp at hk
    | cons a l ih =>
      cases k with
      | zero =>
        have := h2 (by simp)
        rw [List.getElem_cons_zero] at this
        simp [this]
      | succ k =>
        have h0 := h1 0 (by simp) (by omega)
        rw [List.getElem_cons_zero] at h0
        have ih := ih (k := k) (by simpa using hk) (fun j hj hjk => by have := h1 (j + 1) (by simpa using hj) (by omega); simpa using this) (fun h => by have := h2 (by simpa using h); simpa using this)
        simp [h0, ih.1, ih.2]
  unfold Ix.insW
  rw [ht.1, ht.2]
  simp
theorem SlR.zeroA {α : Type} (C : Codec α) (M : Nat → Prop) (w : World) (A : Option Addr) (m : Nat) (hm : m ≤ maxLen) : SlR C M w (.slice A 0 m) [] := ⟨A, 0, m, [], rfl, rfl, Nat.zero_le _, hm, Els.nil C M w, fun h => absurd h (by omega)⟩
set_option maxRecDepth 20000 in
set_option maxHeartbeats 4000000 in
theorem refInsert_ok (v : Value) (l : List Str) (s : Str) (w : World) (h : SlR strC M0 w v l) (hn : l.length ≤ 1000000) (hsl : s.length ≤ maxLen) : Calls Tryz.prog 103 #[v, .string (bs s)] w fun e w' => ∃ (A : Option Addr) (c : Nat) (L : List Str), e = .returned (.slice A L.length c) ∧ Hid (L = Ix.insW l s) ∧ Own strC M0 w' w.heap.size 9 (.slice A L.length c) L ∧ Below w.heap.size w w' := by
  obtain ⟨A, c, rfl, hlc, hcm⟩ := h.form
  have hB := h.toMB
  unfold maxLen at hcm
  go_enter Tryz.func103, Tryz.ntmps103
  go_wp2
  go_loopw [5, 6] (fun ov iv wr => ∃ (k : Nat) (A2 : Option Addr) (c2 : Nat) (L : List Str), k ≤ l.length ∧ iv = .int .i64 (k : Int) ∧ ov = .slice A2 L.length c2 ∧ Hid (L = l.take k) ∧ Hid (∀ (j : Nat) (hj : j < l.length), j < k → ltS l[j] s = true) ∧ Own strC M0 wr w.heap.size 9 ov L ∧ Below w.heap.size w wr) (fun _ iv _ => l.length - (intOf iv).toNat)
  case atStart => exact ⟨0, none, 0, [], Nat.zero_le _, rfl, rfl, Lib.hid rfl, Lib.hid fun j _ h => absurd h (by omega), Own.nil _ _ _ _ _, Below.refl _ _⟩
  case round =>
    obtain ⟨k, A2, c2, L, hk, rfl, rfl, hL, hpre, own, hb⟩ := hrel
    have hLl : L.length = k := by rw [hL.out, List.length_take]; omega
    have hkw : IntKind.i64.wrap (k : Int) = (k : Int) := IntWalk.i64_in _ (by omega)
    have hk0 : (0 : Int) ≤ (k : Int) := by omega
    by_cases hlt : k < l.length
    · obtain ⟨b, off, rfl, _, _, p0, _⟩ := (h.ext hb).strAt hlt
      have hki : (k : Int) < (l.length : Int) := by omega
      obtain ⟨x, hx⟩ : ∃ x, x = l[k] := ⟨_, rfl⟩
      rw [← hx] at p0
      have Hx := Lib.hid hx
      clear hx
      by_cases hc : ltS x s = true
      · have hd : Op.bytesLess x s = true := hc
        clear hB
        have hxl : x.length ≤ maxLen := by obtain ⟨_, _, _, _, _, _, hxl⟩ := (h.ext hb).strAt hlt; rw [Hx.out]; exact hxl
        have HLl := Lib.hid hLl
        clear hLl
        have hbs := hb.size
        go_wp2_with (at_builtin; refine wpList_push_Own strC (M := M0) (B := w.heap.size) TStrs rfl (.tmp 19) (.tmp 24) rfl rfl own rfl (cs := [.string (bs x)]) (y := x) ⟨rfl, hxl⟩ (fun _ h => h.elim) ?a1 ?b1 hbs ?_)
        case a1 => have := HLl.out; unfold maxLen; omega
        case b1 => have := HLl.out; omega
        intro A4 c4 L4 w4 hL4 own4 hb4 _ _
        go_wp2
        go_roundw
        case rel => exact ⟨k + 1, A4, c4, L4, by omega, by go_num, rfl, Lib.hid (by rw [hL4.out, hL.out, List.take_succ_eq_append_getElem hlt, ← Hx.out]), Lib.hid (fun j hj hjk => by
          by_cases e : j = k
          · subst e; rw [← Hx.out]; exact hc
          · exact hpre.out j hj (by omega)), own4, hb.trans hb4⟩
        case measure => simp [intOf]; omega
      · replace hc : ltS x s = false := by simpa using hc
        have hd : Op.bytesLess x s = false := hc
        have hins : Ix.insW l s = l.take k ++ [s] ++ l.drop k := insW_at hk hpre.out (fun _ => by rw [← Hx.out]; exact hc)
        have Hins := Lib.hid hins
        have hk1 : (k : Int) ≤ (l.length : Int) := by omega
        have hk2 : (l.length : Int) ≤ (c : Int) := by omega
        have hk3 : (c : Int) ≤ 9223372036854775807 := by omega
        have HLl := Lib.hid hLl; have HB := Lib.hid hB
        clear hins hB hpre hLl
        have hbs := hb.size
        go_wp2_with (at_builtin; refine wpList_push_Own strC (M := M0) (B := w.heap.size) TStrs rfl (.tmp 28) (.tmp 30) rfl rfl own rfl (cs := [.string (bs s)]) (y := s) ⟨rfl, hsl⟩ (fun _ h => h.elim) ?a1 ?b1 hbs ?_)
        case a1 => have := HLl.out; unfold maxLen; omega
        case b1 => have := HLl.out; omega
        intro A4 c4 L4 w4 hL4 own4 hb4 _ _
        have Hb4 := Lib.hid (hb.trans hb4)
        have hL4l : L4.length = k + 1 := by rw [hL4.out, List.length_append, HLl.out]; rfl
        have hcut := (HB.out.ext Hb4.out).cutS (lo := k) (hi := l.length) hk (Nat.le_refl _) (by omega)
        rw [List.take_length, show k * strC.n = k from Nat.mul_one k] at hcut
        have hc4 := hcut.sub (M' := fun b => M0 b ∨ (Value.slice A4 L4.length c4).ownBlock = some b) fun b _ hor => hor.elim (fun h => h.elim) fun h => .inr (own4.base b h)
        have hdl : (l.drop k).length = l.length - k := List.length_drop
        have hs4 := Hb4.out.size
        go_wp2_with (at_builtin; refine wpList_append_Own strC (M := M0) (B := w.heap.size) (l := L4) (l' := l.drop k) TStrs rfl (.tmp 32) (.tmp 35) rfl (v := .slice A4 L4.length c4) rfl own4 rfl hc4 ?c1 ?d1 hs4 ?_)
        case c1 => unfold maxLen; omega
        case d1 => omega
        intro A5 c5 L5 w5 hL5 own5 hb5 _ _
        go_wp2
        go_ret
        exact ⟨A5, c5, L5, rfl, Lib.hid (by rw [hL5.out, hL4.out, hL.out, Hins.out]), own5, Hb4.out.trans hb5⟩
    · skip
      have hins : Ix.insW l s = l.take k ++ [s] ++ l.drop k := insW_at hk hpre.out (fun h => absurd h hlt)
      have Hins := Lib.hid hins
      have hk1 : (k : Int) ≤ (l.length : Int) := by omega
      have hk2 : (l.length : Int) ≤ (c : Int) := by omega
      have hk3 : (c : Int) ≤ 9223372036854775807 := by omega
      have HLl := Lib.hid hLl; have HB := Lib.hid hB
      clear hins hB hpre hLl
      have hbs := hb.size
      go_wp2_with (at_builtin; refine wpList_push_Own strC (M := M0) (B := w.heap.size) TStrs rfl (.tmp 28) (.tmp 30) rfl rfl own rfl (cs := [.string (bs s)]) (y := s) ⟨rfl, hsl⟩ (fun _ h => h.elim) ?a1 ?b1 hbs ?_)
      case a1 => have := HLl.out; unfold maxLen; omega
      case b1 => have := HLl.out; omega
      intro A4 c4 L4 w4 hL4 own4 hb4 _ _
      have Hb4 := Lib.hid (hb.trans hb4)
      have hL4l : L4.length = k + 1 := by rw [hL4.out, List.length_append, HLl.out]; rfl
      have hc4 : ∀ A m, m ≤ maxLen → SlR strC (fun b => M0 b ∨ (Value.slice A4 L4.length c4).ownBlock = some b) w4 (.slice A 0 m) (l.drop k) := fun A m hm => by rw [List.drop_of_length_le (by omega)]; exact SlR.zeroA _ _ _ _ _ hm
      obtain rfl : k = l.length := by omega
      have hfin : l.take l.length ++ [s] ++ l.drop l.length = l.take l.length ++ [s] := by rw [List.drop_length, List.append_nil]
      have Hfin := Lib.hid hfin
      clear hfin
      by_cases hck : c = l.length
      · subst hck
        have hdl : (l.drop l.length).length = l.length - l.length := List.length_drop
        have hs4 := Hb4.out.size
        go_wp2_with (at_builtin; refine wpList_append_Own strC (M := M0) (B := w.heap.size) (l := L4) (l' := l.drop l.length) TStrs rfl (.tmp 32) (.tmp 35) rfl (v := .slice A4 L4.length c4) rfl own4 rfl (hc4 _ _ (by unfold maxLen; omega)) ?c1 ?d1 hs4 ?_)
        case c1 => unfold maxLen; omega
        case d1 => omega
        intro A5 c5 L5 w5 hL5 own5 hb5 _ _
        go_wp2
        go_ret
        exact ⟨A5, c5, L5, rfl, Lib.hid (by rw [hL5.out, hL4.out, hL.out, Hins.out, Hfin.out]), own5, Hb4.out.trans hb5⟩
      · have hdl : (l.drop l.length).length = l.length - l.length := List.length_drop
        have hs4 := Hb4.out.size
        go_wp2_with (at_builtin; refine wpList_append_Own strC (M := M0) (B := w.heap.size) (l := L4) (l' := l.drop l.length) TStrs rfl (.tmp 32) (.tmp 35) rfl (v := .slice A4 L4.length c4) rfl own4 rfl (hc4 _ _ (by unfold maxLen; omega)) ?c1 ?d1 hs4 ?_)
        case c1 => unfold maxLen; omega
        case d1 => omega
        intro A5 c5 L5 w5 hL5 own5 hb5 _ _
        go_wp2
        go_ret
        exact ⟨A5, c5, L5, rfl, Lib.hid (by rw [hL5.out, hL4.out, hL.out, Hins.out, Hfin.out]), own5, Hb4.out.trans hb5⟩
end Go.Proofs.YtfjpedgddgbelaaGreatDoor
