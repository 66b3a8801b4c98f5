/-
  Contracts and plain facts, one after another: query.Validate; Where the stem of a word occurs in a text: (search.finder).places; (search.finder).prefix, near and phrase.
-/
import Derived.Test.YtiohhajkegpebaaGreatDoorQyNd
import Derived.Test.YtiohhajkegpebaaGreatDoorR9
import Derived.Test.YtiohhajkegpebaaGreatDoorR13
import Derived.Test.YtiohhajkegpebaaGreatDoorR4
namespace Go.Proofs.YtiohhajkegpebaaGreatDoor
open Go.RowKit
set_option linter.unusedVariables false
/-- all blocks but one are as they were -/
structure But (g : Nat) (w w' : World) : Prop where
  os : w'.os = w.os
  tape : w'.tape = w.tape
  output : w'.output = w.output
  size : w.heap.size ≤ w'.heap.size
  block : ∀ k, k < w.heap.size → k ≠ g → w'.heap[k]? = w.heap[k]?
theorem But.refl (g : Nat) (w : World) : But g w w := ⟨rfl, rfl, rfl, Nat.le_refl _, fun _ _ _ => rfl⟩
theorem But.trans {g : Nat} {a b c : World} (h : But g a b) (k : But g b c) : But g a c :=
  ⟨k.os.trans h.os, k.tape.trans h.tape, k.output.trans h.output, Nat.le_trans h.size k.size, fun i hi hg => (k.block i (Nat.lt_of_lt_of_le hi h.size) hg).trans (h.block i hi hg)⟩
theorem But.of_below (g : Nat) {w w' : World} (h : Below w.heap.size w w') : But g w w' := ⟨h.os, h.tape, h.output, h.size, fun k hk _ => h.block k hk⟩
theorem But.set {g : Nat} {a w : World} (h : But g a w) (i : Nat) (u : Value) : But g a (w.setCell ⟨g, i, none⟩ u) :=
  h.trans ⟨rfl, rfl, rfl, by simp [World.setCell], fun k _ hk => Below.heap_setCell _ _ _ _ hk⟩
theorem But.put {g : Nat} {a w : World} (h : But g a w) {p : Addr} (hp : a.heap.size ≤ p.block) (u : Value) : But g a (w.setCell p u) :=
  ⟨h.os, h.tape, h.output, by simpa [World.setCell] using h.size, fun k hk hg => (Below.heap_setCell _ _ _ _ (by omega)).trans (h.block k hk hg)⟩
theorem But.blk {g b : Nat} {w w' : World} {t : TypeId} {cs : Array Value} (h : But g w w') (k : Blk w b t cs) (hb : b ≠ g) : Blk w' b t cs := (h.block b k.lt hb).trans k
theorem But.below {g : Nat} {w0 w w' : World} (h : But g w w') (h0 : Below w0.heap.size w0 w) (hg : w0.heap.size ≤ g) : Below w0.heap.size w0 w' :=
  ⟨h.os.trans h0.os, h.tape.trans h0.tape, h.output.trans h0.output, Nat.le_trans h0.size h.size, fun k hk => (h.block k (Nat.lt_of_lt_of_le hk h0.size) (by omega)).trans (h0.block k hk)⟩
theorem But.under {g B : Nat} {w w' : World} (h : But g w w') (hg : B ≤ g) (hB : B ≤ w.heap.size) : Below B w w' := ⟨h.os, h.tape, h.output, h.size, fun k hk => h.block k (by omega) (by omega)⟩
theorem qF_fits : ∀ {f : Nat} {M : Nat → Prop} {w : World} {cs : List Value} {q : Q}, (qF f).rd M w cs q → Q.Fits f q
  | 0, _, _, _, _, h => h.elim
  | f + 1, M, w, _, q, ⟨v, e, h1, h2, h3, hv⟩ => fun p hp => by
    obtain ⟨k, hk, rfl⟩ := List.mem_iff_getElem.1 hp
    obtain ⟨A, c, rfl, _⟩ := hv.form
    obtain ⟨b, off, cs, _, _, _, hr, _⟩ := hv.at_ hk
    exact qF_fits hr
theorem QAt.fits {f : Nat} {M : Nat → Prop} {w : World} {v : Value} {q : Q} (h : QAt f M w v q) : Q.Fits (f + 1) q := qF_fits h.rd
theorem boxPair (w : World) (cs : Array Value) (t : TypeId) (ds : Array Value) (t' : TypeId) : ∃ W g, (w.alloc (.cells cs t)).alloc (.cells ds t') = W ∧ w.heap.size = g ∧ W.heap.size = g + 1 + 1 ∧ Blk W g t cs ∧ Blk W (g + 1) t' ds ∧ Below w.heap.size w W := by
  refine ⟨_, _, rfl, rfl, by simp, (Blk.new w t cs).alloc _, ?_, ((Below.refl _ _).alloc (Nat.le_refl _) _).alloc (by simp) _⟩
  have := Blk.new (w.alloc (.cells cs t)) t' ds
  rw [World.size_alloc] at this
  exact this
theorem errGo_step (P : Q → List Q) (ps : List Q) {m : Nat} (h : m < ps.length) (n : Int) (h0 : (Q.errGo ((ps.take m).flatMap P) n).1 = 0) :
    ((Q.errGo (P ps[m]) (n + (((ps.take m).flatMap P).length : Nat))).1 = 0 → (Q.errGo ((ps.take (m + 1)).flatMap P) n).1 = 0) ∧
    ((Q.errGo (P ps[m]) (n + (((ps.take m).flatMap P).length : Nat))).1 ≠ 0 → Q.errGo (ps.flatMap P) n = Q.errGo (P ps[m]) (n + (((ps.take m).flatMap P).length : Nat))) := by
  constructor
  · intro h1
    rw [List.take_succ_eq_append_getElem h, List.flatMap_append, Q.errGo_append, if_pos h0, List.flatMap_cons, List.flatMap_nil, List.append_nil]
    exact h1
  · intro h1
    have e : ps = ps.take m ++ ps[m] :: ps.drop (m + 1) := by rw [← List.drop_eq_getElem_cons h, List.take_append_drop]
    have e2 : ps.flatMap P = (ps.take m).flatMap P ++ (P ps[m] ++ (ps.drop (m + 1)).flatMap P) := by
      conv => lhs; rw [e]
      rw [List.flatMap_append, List.flatMap_cons]
    rw [e2, Q.errGo_append, if_pos h0, Q.errGo_append, if_neg h1]
/-- the boxes of the check: the node's number, the function -/
structure Chk (w : World) (gN gC : Nat) (N : Int) : Prop where
  n : Blk w gN 3 #[.int .i64 N]
  c : Blk w gC 28 #[.func (.func 48) #[] #[.pointer (some ⟨gN, 0, none⟩), .pointer (some ⟨gC, 0, none⟩)]]
theorem Chk.ext {w w' : World} {gN gC : Nat} {N : Int} (h : Chk w gN gC N) (hb : Below w.heap.size w w') : Chk w' gN gC N := ⟨h.n.ext hb, h.c.ext hb⟩
theorem Chk.put {w : World} {gN gC : Nat} {N : Int} (h : Chk w gN gC N) (hne : gN ≠ gC) (N' : Int) : Chk (w.setCell ⟨gN, 0, none⟩ (.int .i64 N')) gN gC N' := by
  refine ⟨?_, h.c.far (p := ⟨gN, 0, none⟩) hne.symm _⟩
  have := h.n.set_ 0 (.int .i64 N')
  simpa using this
theorem Chk.far {w : World} {gN gC : Nat} {N : Int} (h : Chk w gN gC N) {p : Addr} (h1 : gN ≠ p.block) (h2 : gC ≠ p.block) (u : Value) : Chk (w.setCell p u) gN gC N := ⟨h.n.far h1 u, h.c.far h2 u⟩
set_option maxRecDepth 100000 in
set_option maxHeartbeats 8000000 in
theorem check_ok (w0 : World) (hT : TabsU w0) (gN gC : Nat) (hN0 : w0.heap.size ≤ gN) (hC0 : w0.heap.size ≤ gC) (hne : gN ≠ gC) : ∀ (f : Nat) (q : Q) (v : Value) (w : World) (N : Int), QAt f M0 w0 v q → q.bulk ≤ 4000000 → Below w0.heap.size w0 w → Chk w gN gC N → 0 ≤ N → N + q.bulk ≤ 4611686018427387904 →
    Calls Tryz.prog 48 #[v, .pointer (some ⟨gN, 0, none⟩), .pointer (some ⟨gC, 0, none⟩)] w fun e w' => ∃ N', e = .returned (.agg #[.int .i64 (Q.errGo (Q.pre (f + 1) q) N).1, .int .i64 (Q.errGo (Q.pre (f + 1) q) N).2]) ∧ But gN w w' ∧ Chk w' gN gC N' ∧ ((Q.errGo (Q.pre (f + 1) q) N).1 = 0 → N' = N + ((Q.pre (f + 1) q).length : Nat)) := by
  intro f
  induction f using Nat.strongRecOn with | _ f ih => ?_
  intro q v w N hq hbk hB hx hN hNb
  have hqv := hq
  obtain ⟨A, c, rfl, _, _, _, hv⟩ := hq
  obtain ⟨k, t, n, ps⟩ := q
  simp only [Q.kind_node, Q.text_node, Q.num_node, Q.parts_node] at hv hqv ⊢
  have hps := hv.len_le
  unfold maxLen at hps
  have hbe := Q.bulk_eq (.node k t n ps)
  simp only [Q.text_node, Q.parts_node] at hbe
  obtain ⟨W1, gB, hW, hgB, hs1, kB, kR, hb1⟩ := boxPair w #[.int .i64 k, .string (bs t), .int .i64 n, .slice A ps.length c] 25 #[.int .i64 0, .int .i64 0] 27
  have HW : Hid (_ = W1) := Lib.hid hW
  have hx1 := hx.ext hb1
  have hlN := hx.n.lt
  have hlC := hx.c.lt
  have hB1 := hB.trans (hb1.mono hB.size)
  have hnode := node_ok f (.node k t n ps) _ W1 (hqv.ext hB1) (fun W hb => words_ok _ W (by show t.length ≤ 4000000; omega) (hT.ext (hB1.trans (hb.mono hB1.size))))
  obtain ⟨p0, p1, p2, p3, _⟩ := kB.four
  have Hnode := Lib.hid hnode; have Hs1 := Lib.hid hs1
  have hpre : Q.pre (f + 1) (.node k t n ps) = .node k t n ps :: ps.flatMap (Q.pre f) := by rw [Q.pre]; rfl
  rw [hpre]
  obtain ⟨er, her⟩ : ∃ r, Q.errOf (.node k t n ps) = r := ⟨_, rfl⟩
  have Her := Lib.hid her
  obtain ⟨⟨ra, rb⟩, hr⟩ : ∃ r, Q.errGo (.node k t n ps :: ps.flatMap (Q.pre f)) N = r := ⟨_, rfl⟩
  have Hr := Lib.hid hr
  rw [hr]
  dsimp only
  clear hr
  rw [her] at Hnode
  clear hnode hW hs1 hpre her
  go_enter Tryz.func48, Tryz.ntmps48
  go_wp2_with fail
  rw [HW.out]
  refine Hnode.out.mono ?_
  rintro e w2 ⟨rfl, hb2⟩
  have hb12 := hb1.trans (hb2.mono hb1.size)
  have hx2 := hx1.ext hb2
  have kR2 := kR.ext hb2
  have kB2 := kB.ext hb2
  have hBut := But.of_below gN hb12
  have hgNB : gN < gB := by omega
  have hgCB : gC < gB := by omega
  obtain ⟨x0, x1, _⟩ := hx2.n.one
  have Hlt : Hid (gN < gB ∧ gC < gB) := Lib.hid ⟨hgNB, hgCB⟩
  clear hx1 kR kB hb1 hb2 hlN hlC p0 p1 p2 p3 hgNB hgCB hx Hs1
  by_cases he : er = 0
  · subst he
    have hW3 := hx2.put hne (N + 1)
    have hB3 := hBut.set (w := w2) 0 (.int .i64 (N + 1))
    have kR3 := kR2.far (p := ⟨gN, 0, none⟩) (by have := Hlt.out; show gB + 1 ≠ gN; omega) (.int .i64 (N + 1))
    have kB3 := kB2.far (p := ⟨gN, 0, none⟩) (by have := Hlt.out; show gB ≠ gN; omega) (.int .i64 (N + 1))
    obtain ⟨_, _, _, p3, _⟩ := kB3.four
    obtain ⟨W3, hW3e⟩ : ∃ W3, w2.setCell ⟨gN, 0, none⟩ (.int .i64 (N + 1)) = W3 := ⟨_, rfl⟩
    have HW3 := Lib.hid hW3e
    rw [hW3e] at hW3 hB3 kR3
    clear hW3e hx2 kR2 kB2 hBut kB3
    go_wp2_with fail
    rw [HW3.out]
    clear x0 x1 p3
    go_loopw [21] (fun i wr => ∃ (m : Nat) (Nm : Int), m ≤ ps.length ∧ i = .int .i64 m ∧ Hid (Nm = N + 1 + (((ps.take m).flatMap (Q.pre f)).length : Nat) ∧ (Q.errGo ((ps.take m).flatMap (Q.pre f)) (N + 1)).1 = 0) ∧ But gN w wr ∧ Chk wr gN gC Nm ∧ Blk wr (gB + 1) 27 #[.int .i64 0, .int .i64 0]) (fun i _ => ps.length - (intOf i).toNat)
    case atStart => exact ⟨0, N + 1, Nat.zero_le _, rfl, Lib.hid ⟨by simp, rfl⟩, hB3, hW3, kR3⟩
    case round =>
      obtain ⟨m, Nm, hm, rfl, hNm, hb, hx, kR⟩ := hrel
      by_cases hlt : m < ps.length
      · have hB0r := hb.below hB hN0
        obtain ⟨b, off, g, A2, c2, rfl, rfl, _, hbs, q0, q1, q2, q3, hqa⟩ := hv.qAt hlt
        replace q0 := (hB0r.cell (p := ⟨b, off + m * 4, none⟩) hbs).trans q0
        replace q1 := (hB0r.cell (p := ⟨b, off + m * 4 + 1, none⟩) hbs).trans q1
        replace q2 := (hB0r.cell (p := ⟨b, off + m * 4 + 2, none⟩) hbs).trans q2
        replace q3 := (hB0r.cell (p := ⟨b, off + m * 4 + 3, none⟩) hbs).trans q3
        have hst := errGo_step (Q.pre (g + 1)) ps hlt (N + 1) hNm.out.2
        rw [← hNm.out.1] at hst
        have hbm := Q.take_bulk hlt
        have hfl := Q.flat_bulk (g + 1) (ps.take m)
        have htk : ((ps.take (m + 1)).flatMap (Q.pre (g + 1))).length = ((ps.take m).flatMap (Q.pre (g + 1))).length + (Q.pre (g + 1) ps[m]).length := by
          rw [List.take_succ_eq_append_getElem hlt, List.flatMap_append, List.length_append, List.flatMap_cons, List.flatMap_nil, List.append_nil]
        obtain ⟨x, hxe⟩ : ∃ x, x = ps[m] := ⟨_, rfl⟩
        rw [← hxe] at q0 q1 q2 q3 hqa hst hbm htk
        have hNme := hNm.out.1
        have hal := (Below.refl wr.heap.size wr).alloc (Nat.le_refl _) (.cells #[.int .i64 x.kind, .string (bs x.text), .int .i64 x.num, .slice A2 x.parts.length c2] 25)
        have hcall := ih g (by omega) x _ _ Nm hqa (by omega) (hB0r.trans (hal.mono hB0r.size)) (hx.ext hal) (by omega) (by omega)
        obtain ⟨⟨sa, sb⟩, hs⟩ : ∃ r, Q.errGo (Q.pre (g + 1) x) Nm = r := ⟨_, rfl⟩
        rw [hs] at hcall hst
        dsimp only at hcall hst
        obtain ⟨z0, _, _⟩ := hx.c.one
        have Hc := Lib.hid hcall; have Hst := Lib.hid hst; have Htk := Lib.hid htk; have Hb := Lib.hid hb; have HkR := Lib.hid (kR.ext hal); have Hal := Lib.hid hal
        clear hcall hst htk hb kR hx hal hqa hbm hfl hs hxe hB0r hNme
        go_wp2_with fail
        refine Hc.out.mono ?_
        rintro e w4 ⟨N4, rfl, hb4, hx4, hN4⟩
        have kR4 := hb4.blk HkR.out (by have := Hlt.out; omega)
        have hb14 := (Hb.out.trans (But.of_below gN Hal.out)).trans hb4
        have hal4 := (Below.refl w4.heap.size w4).alloc (Nat.le_refl _) (.cells #[.int .i64 sa, .int .i64 sb] 27)
        have kF := Blk.new w4 27 #[.int .i64 sa, .int .i64 sb]
        obtain ⟨f0, f1, _, _, _⟩ := kF.two
        have kR5 := kR4.ext hal4
        have hx5 := hx4.ext hal4
        have hb15 := hb14.trans (But.of_below gN hal4)
        have HF := Lib.hid kF; have HkR5 := Lib.hid kR5; have Hx5 := Lib.hid hx5; have Hb15 := Lib.hid hb15; have HN4 := Lib.hid hN4
        clear kR4 hb14 hal4 kF kR5 hx5 hb15 hx4 hb4 hN4 q0 q1 q2 q3 z0 Hc HkR Hb Hal
        go_wp2_with fail
        refine (failed_ok sa sb _).mono ?_
        rintro e w5 ⟨rfl, hb5⟩
        obtain ⟨u0, u1, _, _, _⟩ := (HF.out.ext hb5).two
        have kR6 := HkR5.out.ext hb5
        have hx6 := Hx5.out.ext hb5
        have hb16 := Hb15.out.trans (But.of_below gN hb5)
        clear f0 f1
        by_cases hsa : sa = 0
        · have hen : (sa != 0) = false := by simpa using hsa
          go_wp2_with fail
          go_roundw
          case rel => exact ⟨m + 1, N4, by omega, by go_num, Lib.hid ⟨by rw [HN4.out hsa, Htk.out, hNm.out.1]; omega, Hst.out.1 hsa⟩, hb16, hx6, kR6⟩
          case measure => simp [intOf]; omega
        · have hen : (sa != 0) = true := by simpa using hsa
          have hr := Hr.out
          rw [Q.errGo, Her.out, if_pos rfl, Hst.out.2 hsa] at hr
          injection hr with hr1 hr2
          subst hr1 hr2
          obtain ⟨v0, v1, v2, v3, _⟩ := kR6.two
          have HkR6 := Lib.hid kR6; have Hx6 := Lib.hid hx6; have Hb16 := Lib.hid hb16
          clear kR6 hx6 hb16
          go_wp2_with fail
          obtain ⟨e0, e1⟩ := HkR6.out.put2 (.int .i64 sa) (.int .i64 sb)
          refine bodyPost_ret (v := .agg #[.int .i64 sa, .int .i64 sb]) (by simp [results, Tryz.results48, go_sem, e0, e1]) rfl ⟨N4, rfl, ?_, ?_, fun h => absurd h hsa⟩
          · exact (Hb16.out.put (p := ⟨gB + 1, 0, none⟩) (by show w.heap.size ≤ gB + 1; omega) _).put (p := ⟨gB + 1, 1, none⟩) (by show w.heap.size ≤ gB + 1; omega) _
          · have := Hlt.out
            exact (Hx6.out.far (p := ⟨gB + 1, 0, none⟩) (by show gN ≠ gB + 1; omega) (by show gC ≠ gB + 1; omega) _).far (p := ⟨gB + 1, 1, none⟩) (by show gN ≠ gB + 1; omega) (by show gC ≠ gB + 1; omega) _
      · obtain rfl : m = ps.length := by omega
        obtain ⟨hN1, hN2⟩ := hNm.out
        rw [List.take_length] at hN1 hN2
        have hr := Hr.out
        rw [Q.errGo, Her.out, if_pos rfl, Q.errGo_zero2 hN2] at hr
        injection hr with hr1 hr2
        have Hr12 := Lib.hid (And.intro hr1 hr2)
        clear hr1 hr2
        have Hb := Lib.hid hb; have Hx := Lib.hid hx; have HkR := Lib.hid kR
        clear hb hx kR
        go_wp2_with fail
        refine (none_ok _).mono ?_
        rintro e w5 ⟨rfl, hb5⟩
        have kR6 := HkR.out.ext hb5
        obtain ⟨v0, v1, v2, v3, _⟩ := kR6.two
        go_wp2_with fail
        obtain ⟨e0, e1⟩ := kR6.put2 (.int .i64 0) (.int .i64 0)
        refine bodyPost_ret (v := .agg #[.int .i64 0, .int .i64 0]) (by simp [results, Tryz.results48, go_sem, e0, e1]) rfl ⟨Nm, by rw [← Hr12.out.1, ← Hr12.out.2], ?_, ?_, fun _ => by rw [hN1]; omega⟩
        · exact ((Hb.out.trans (But.of_below gN hb5)).put (p := ⟨gB + 1, 0, none⟩) (by show w.heap.size ≤ gB + 1; omega) _).put (p := ⟨gB + 1, 1, none⟩) (by show w.heap.size ≤ gB + 1; omega) _
        · have := Hlt.out
          exact ((Hx.out.ext hb5).far (p := ⟨gB + 1, 0, none⟩) (by show gN ≠ gB + 1; omega) (by show gC ≠ gB + 1; omega) _).far (p := ⟨gB + 1, 1, none⟩) (by show gN ≠ gB + 1; omega) (by show gC ≠ gB + 1; omega) _
  · have hen : (er != 0) = true := by simpa using he
    have hgo : Q.errGo (.node k t n ps :: ps.flatMap (Q.pre f)) N = (er, N) := by rw [Q.errGo, Her.out, if_neg he]
    have hr := Hr.out
    rw [hgo] at hr
    injection hr with hr1 hr2
    subst hr1 hr2
    clear hgo
    have Hx2 := Lib.hid hx2; have HB := Lib.hid hBut; have Hk := Lib.hid kR2
    go_wp2_with fail
    refine (fault_ok er N w2).mono ?_
    rintro e w3 ⟨rfl, hb3⟩
    have kR3 := Hk.out.ext hb3
    obtain ⟨z0, z1, y0, y1, _⟩ := kR3.two
    clear x0 x1
    go_wp2_with fail
    obtain ⟨e0, e1⟩ := kR3.put2 (.int .i64 er) (.int .i64 N)
    refine bodyPost_ret (v := .agg #[.int .i64 er, .int .i64 N]) (by simp [results, Tryz.results48, go_sem, e0, e1]) rfl ⟨N, rfl, ?_, ?_, fun h => absurd h he⟩
    · exact ((HB.out.trans (But.of_below gN hb3)).put (p := ⟨gB + 1, 0, none⟩) (by show w.heap.size ≤ gB + 1; omega) _).put (p := ⟨gB + 1, 1, none⟩) (by show w.heap.size ≤ gB + 1; omega) _
    · have := Hlt.out
      exact ((Hx2.out.ext hb3).far (p := ⟨gB + 1, 0, none⟩) (by show gN ≠ gB + 1; omega) (by show gC ≠ gB + 1; omega) _).far (p := ⟨gB + 1, 1, none⟩) (by show gN ≠ gB + 1; omega) (by show gC ≠ gB + 1; omega) _
/-- what the code answers: where nodes are too many to be counted it does not say so -/
theorem fault_form {q : Q} : Q.fault q = if 8 < Q.lev 9 q then (2, -3) else if 60 < (Q.pre 9 q).length then (2, -2) else Q.errGo (Q.pre 9 q) 0 := rfl
theorem pre_up {q : Q} {f g : Nat} (h : Q.Fits f q) (hg : f ≤ g) : Q.pre g q = Q.pre f q ∧ Q.Fits g q := by
  obtain ⟨n, rfl⟩ : ∃ n, g = f + n := ⟨g - f, by omega⟩
  clear hg
  induction n with
  | zero => exact ⟨rfl, h⟩
  | succ n ih => exact ⟨(Q.pre_fits ih.2).trans ih.1, ih.2.succ⟩
set_option maxRecDepth 100000 in
set_option maxHeartbeats 4000000 in
theorem qvalidate_ok (f : Nat) (q : Q) (v : Value) (w : World) (hq : QAt f M0 w v q) (hbk : q.bulk ≤ 4000000) (hT : TabsU w) :
    Calls Tryz.prog 31 #[v] w fun e w' => e = .returned (.agg #[.int .i64 (Q.fault q).1, .int .i64 (Q.fault q).2]) ∧ Below w.heap.size w w' := by
  have hqv := hq
  have hfit := hq.fits
  obtain ⟨A, c, rfl, _, _, _, hv⟩ := hq
  obtain ⟨k, t, n, ps⟩ := q
  simp only [Q.kind_node, Q.text_node, Q.num_node, Q.parts_node] at hv hqv ⊢
  obtain ⟨W1, gB, hW, hgB, hs1, kB, kR, hb1⟩ := boxPair w #[.int .i64 k, .string (bs t), .int .i64 n, .slice A ps.length c] 25 #[.int .i64 0, .int .i64 0] 27
  have HW : Hid (_ = W1) := Lib.hid hW
  have hm := measure_ok f (.node k t n ps) _ W1 (hqv.ext hb1) (by omega)
  obtain ⟨p0, p1, p2, p3, _⟩ := kB.four
  have hff := fault_form (q := .node k t n ps)
  have h89 : Q.lev 9 (.node k t n ps) ≤ 8 ↔ Q.Fits 8 (.node k t n ps) := Q.lev_fits 8 _
  have hpf : Q.Fits 8 (.node k t n ps) → Q.pre 9 (.node k t n ps) = Q.pre (f + 1) (.node k t n ps) := fun h8 => by
    rw [Q.pre_fits h8]
    rcases Nat.le_total 8 (f + 1) with h | h
    · exact (pre_up h8 h).1.symm
    · exact (pre_up hfit h).1
  have hpb := Q.pre_bulk 9 (.node k t n ps)
  obtain ⟨⟨ra, rb⟩, hr⟩ : ∃ r, Q.fault (.node k t n ps) = r := ⟨_, rfl⟩
  rw [hr] at hff ⊢
  dsimp only
  obtain ⟨lv, hlv⟩ : ∃ x, Q.lev 9 (.node k t n ps) = x := ⟨_, rfl⟩
  obtain ⟨pl, hpl⟩ : ∃ x, Q.pre 9 (.node k t n ps) = x := ⟨_, rfl⟩
  rw [hlv, hpl] at hm hff
  rw [hlv] at h89
  rw [hpl] at hpf hpb
  have Hm := Lib.hid hm; have Hff := Lib.hid hff; have H89 := Lib.hid h89; have Hpf := Lib.hid hpf
  clear hm hff h89 hpf hr hlv hpl hW
  go_enter Tryz.func31, Tryz.ntmps31
  go_wp2_with fail
  rw [HW.out]
  refine Hm.out.mono ?_
  rintro e w2 ⟨rfl, hb2⟩
  have hb12 := hb1.trans (hb2.mono hb1.size)
  have kR2 := kR.ext hb2
  have kB2 := kB.ext hb2
  clear p0 p1 p2 p3 kR kB
  by_cases c1 : 8 < lv
  · have hi : (8 : Int) < (lv : Int) := by omega
    have hr := Hff.out
    rw [if_pos c1] at hr
    injection hr with hr1 hr2
    subst hr1 hr2
    have HkR := Lib.hid kR2; have Hb := Lib.hid hb12
    clear kR2 kB2 hb12 c1
    go_wp2_with fail
    refine (fault_ok 2 (-3) _).mono ?_
    rintro e w3 ⟨rfl, hb3⟩
    have kR3 := HkR.out.ext hb3
    obtain ⟨z0, z1, y0, y1, _⟩ := kR3.two
    go_wp2_with fail
    obtain ⟨e0, e1⟩ := kR3.put2 (.int .i64 2) (.int .i64 (-3))
    exact bodyPost_ret (v := .agg #[.int .i64 2, .int .i64 (-3)]) (by simp [results, Tryz.results31, go_sem, e0, e1]) rfl ⟨rfl, below_set2 (Hb.out.trans (hb3.mono Hb.out.size)) (by omega) _ _⟩
  have hi : ¬ (8 : Int) < (lv : Int) := by omega
  by_cases c2 : 60 < pl.length
  · have hj : (60 : Int) < (pl.length : Int) := by omega
    have hr := Hff.out
    rw [if_neg c1, if_pos c2] at hr
    injection hr with hr1 hr2
    subst hr1 hr2
    have HkR := Lib.hid kR2; have Hb := Lib.hid hb12
    clear kR2 kB2 hb12 c1 c2
    go_wp2_with fail
    refine (fault_ok 2 (-2) _).mono ?_
    rintro e w3 ⟨rfl, hb3⟩
    have kR3 := HkR.out.ext hb3
    obtain ⟨z0, z1, y0, y1, _⟩ := kR3.two
    go_wp2_with fail
    obtain ⟨e0, e1⟩ := kR3.put2 (.int .i64 2) (.int .i64 (-2))
    exact bodyPost_ret (v := .agg #[.int .i64 2, .int .i64 (-2)]) (by simp [results, Tryz.results31, go_sem, e0, e1]) rfl ⟨rfl, below_set2 (Hb.out.trans (hb3.mono Hb.out.size)) (by omega) _ _⟩
  have hj : ¬ (60 : Int) < (pl.length : Int) := by omega
  have hr := Hff.out
  rw [if_neg c1, if_neg c2, Hpf.out (H89.out.1 (by omega))] at hr
  have Hr := Lib.hid hr
  obtain ⟨V, gN, hV, hgN, hsV, kN, kC, hbV⟩ := boxPair w2 #[.int .i64 0] 3 #[.func (.func 48) #[] #[.pointer (some ⟨w2.heap.size, 0, none⟩), .pointer (some ⟨w2.heap.size + 1, 0, none⟩)]] 28
  rw [hgN] at kC hV
  have hbv := hb12.trans (hbV.mono hb12.size)
  have kR3 := kR2.ext hbV
  have kB3 := kB2.ext hbV
  have hlR := kR2.lt
  have hlw : w.heap.size ≤ gN := by have := hb12.size; omega
  have hcall := check_ok w hT gN (gN + 1) hlw (by omega) (by omega) f (.node k t n ps) _ V 0 hqv hbk hbv ⟨kN, kC⟩ (by omega) (by omega)
  rw [← hr] at hcall
  dsimp only at hcall
  obtain ⟨p0, p1, p2, p3, _⟩ := kB3.four
  obtain ⟨z0, _, _⟩ := kC.one
  have HV : Hid (_ = V) := Lib.hid hV
  have Hcall := Lib.hid hcall; have HkR := Lib.hid kR3; have Hbv := Lib.hid hbv; have HgN := Lib.hid hgN
  clear hr hcall hV kR3 kB3 hbv kN kC kR2 kB2 hb12 c1 c2 hsV hbV hb2
  rw [← HV.out] at p0 p1 p2 p3 z0
  go_wp2_with fail
  rw [HV.out]
  refine Hcall.out.mono ?_
  rintro e w4 ⟨N4, rfl, hb4, _, _⟩
  have kR4 := hb4.blk HkR.out (by omega)
  have hbw := hb4.below Hbv.out hlw
  obtain ⟨y0, y1, y2, y3, _⟩ := kR4.two
  clear p0 p1 p2 p3 z0
  go_wp2_with fail
  obtain ⟨e0, e1⟩ := kR4.put2 (.int .i64 ra) (.int .i64 rb)
  exact bodyPost_ret (v := .agg #[.int .i64 ra, .int .i64 rb]) (by simp [results, Tryz.results31, go_sem, e0, e1]) rfl ⟨rfl, below_set2 hbw (by omega) _ _⟩
end Go.Proofs.YtiohhajkegpebaaGreatDoor
namespace Go.Proofs.YtiohhajkegpebaaGreatDoor
open Go.RowKit
set_option linter.unusedVariables false
theorem look_drop {V : Type} (l : List (Int × V)) (id : Int) {k : Nat} (hk : k < l.length) : Al.look (l.drop k) id = if l[k].1 = id then some l[k].2 else Al.look (l.drop (k + 1)) id := by
  rw [List.drop_eq_getElem_cons hk, Al.look]
set_option maxRecDepth 100000 in
set_option maxHeartbeats 4000000 in
theorem places_ok (a b : Value) (x : Ix.Idx) (word : Str) (id : Int) (w : World) (h0 : SlR intC M0 w a x.1) (h1 : SlR termC M0 w b x.2) (hc : Ix.Canon x) (hwl : word.length ≤ maxLen) :
    Calls Tryz.prog 75 #[.agg #[a, b], .string (bs word), .int .i64 id] w fun e w' => ∃ v, e = .returned v ∧ SlR intC M0 w' v (Sr.places x word id) ∧ Below w.heap.size w w' := by
  rw [Sr.places_eq]
  obtain ⟨A0, c0, rfl, _, _⟩ := h0.form
  obtain ⟨A1, c1, rfl, _, _⟩ := h1.form
  have hcs := hc.srt; have hcm := hc.many; have hsp : ∀ t ∈ x.2, t.2.length ≤ 1000000 ∧ ∀ p ∈ t.2, p.2.length ≤ 1000001 := hc.small.posts
  obtain ⟨W0, g, hW, hg, hs, kb, hal⟩ := boxA w #[.slice A0 x.1.length c0, .slice A1 x.2.length c1] 70
  have hof := fun V (hb : Below W0.heap.size W0 V) => indexOf_ok (.slice A0 x.1.length c0) (.slice A1 x.2.length c1) x.2 (Sm.stem word) V (h1.ext (hal.trans (hb.mono hal.size))) hcs hcm hsp
  obtain ⟨l, hl⟩ : ∃ l, (Al.look x.2 (Sm.stem word)).getD [] = l := ⟨_, rfl⟩
  rw [hl] at hof ⊢
  obtain ⟨n0, hn0⟩ : ∃ n, x.1.length = n := ⟨_, rfl⟩
  obtain ⟨n1, hn1⟩ : ∃ n, x.2.length = n := ⟨_, rfl⟩
  rw [hn0, hn1] at hof kb hW ⊢
  have hSS : ∀ W', Below W0.heap.size W0 W' → W'.cell? ⟨g, 0, none⟩ = some (.slice A0 n0 c0) ∧ W'.cell? ⟨g, 1, none⟩ = some (.slice A1 n1 c1) := fun W' hb => ⟨(kb.ext hb).two.1, (kb.ext hb).two.2.1⟩
  have HW := Lib.hid hW; have HS := Lib.hid hSS; have Hof := Lib.hid hof; have Hal := Lib.hid hal; have Hg := Lib.hid hg
  clear hW hSS hof hal hl h0 h1 hc hcs hcm hsp hn0 hn1 hs kb hg
  go_enter Tryz.func75, Tryz.ntmps75
  go_wp2_with fail
  rw [HW.out, Hg.out]
  have hS := HS.out _ (below_drewN' W0.heap.size W0 1)
  refine wp_region_D (fun W => W.cell? ⟨g, 0, none⟩ = some (.slice A0 n0 c0) ∧ W.cell? ⟨g, 1, none⟩ = some (.slice A1 n1 c1)) (fun _ => false) (by kernel_rfl) ?_
  change anyD _ _ _ _ _ _ _ _ _ (W0.drewN 1)
  have hbV := below_drewN' W0.heap.size W0 1
  generalize W0.drewN 1 = V0 at hS hbV ⊢
  (refine anyD_light (i := 0) (v := ?_) rfl (by kernel_rfl) (by kernel_rfl) (by kernel_rfl) (by kernel_rfl) (by kernel_rfl) (fun _ _ _ h => h) (.inl ⟨by kernel_rfl, fun W9 hW9 => ?_⟩) hS ?_; rotate_left; · (obtain ⟨hw0, hw1⟩ := hW9; go_simp; rfl))
  (refine anyD_light (i := 1) (v := ?_) rfl (by kernel_rfl) (by kernel_rfl) (by kernel_rfl) (by kernel_rfl) (by kernel_rfl) (fun _ _ _ h => h) (.inl ⟨by kernel_rfl, fun W9 hW9 => ?_⟩) hS ?_; rotate_left; · (obtain ⟨hw0, hw1⟩ := hW9; go_simp; rfl))
  (refine anyD_light (i := 2) (v := ?_) rfl (by kernel_rfl) (by kernel_rfl) (by kernel_rfl) (by kernel_rfl) (by kernel_rfl) (fun _ _ _ h => h) (.inl ⟨by kernel_rfl, fun W9 hW9 => ?_⟩) hS ?_; rotate_left; · (obtain ⟨hw0, hw1⟩ := hW9; go_simp; rfl))
  (refine anyD_light (i := 6) (v := ?_) rfl (by kernel_rfl) (by kernel_rfl) (by kernel_rfl) (by kernel_rfl) (by kernel_rfl) (fun _ _ _ h => h) (.inl ⟨by kernel_rfl, fun W9 hW9 => ?_⟩) hS ?_; rotate_left; · (obtain ⟨hw0, hw1⟩ := hW9; go_simp; rfl))
  go_simp
  refine anyD_one (i := 3) (by kernel_rfl) rfl rfl (fun K hK => ?_)
  have HK := Lib.hid hK
  clear hK
  unfold Oper.wp
  go_simp
  refine ((of_ok word hwl V0)).mono ?_
  rintro e w1 ⟨rfl, hb1⟩
  replace hbV := hbV.trans (hb1.mono hbV.size)
  clear hb1 hS
  have hS := HS.out _ hbV
  refine HK.out _ _ (fun _ => hS) ?_
  clear HK
  go_simp
  refine anyD_one (i := 4) (by kernel_rfl) rfl rfl (fun K hK => ?_)
  have HK := Lib.hid hK
  clear hK
  unfold Oper.wp
  go_simp
  refine ((Hof.out w1 hbV)).mono ?_
  rintro e w2 ⟨v, rfl, hv, hb2⟩
  obtain ⟨A2, c2, rfl, _, _⟩ := hv.form
  replace hbV := hbV.trans (hb2.mono hbV.size)
  have Hv := Lib.hid hv.zero
  clear hb2 hS hv
  have hS := HS.out _ hbV
  refine HK.out _ _ (fun _ => hS) ?_
  clear HK
  (refine anyD_light (i := 5) (v := ?_) rfl (by kernel_rfl) (by kernel_rfl) (by kernel_rfl) (by kernel_rfl) (by kernel_rfl) (fun _ _ _ h => h) (.inl ⟨by kernel_rfl, fun W9 hW9 => ?_⟩) hS ?_; rotate_left; · (obtain ⟨hw0, hw1⟩ := hW9; go_simp; rfl))
  go_simp
  refine anyD_done (by kernel_rfl) ?_ _
  have hb0 := Hal.out.trans (hbV.mono Hal.out.size)
  have hv := Hv.out
  obtain ⟨W2, rfl⟩ : ∃ W2, W2 = w2 := ⟨_, rfl⟩
  have Hb0 := Lib.hid hb0
  clear hS hbV HS Hof hb0
  obtain ⟨hlc, hcm⟩ := hv.lenM
  go_wp2_with fail
  go_loopw [15] (fun i wr => ∃ k : Nat, k ≤ l.length ∧ i = .int .i64 k ∧ Hid (Al.look (l.drop k) id = Al.look l id) ∧ Below W2.heap.size W2 wr) (fun i _ => l.length - (intOf i).toNat)
  case atStart => exact ⟨0, Nat.zero_le _, rfl, Lib.hid rfl, Below.refl _ _⟩
  case round =>
    obtain ⟨k, hk, rfl, hlo, hb⟩ := hrel
    by_cases hlt : k < l.length
    · have hx1 := hv.ext hb
      obtain ⟨b, off, A3, c3, rfl, _, _, q0, q1, hl1, hl2, hsl⟩ := hx1.postAt hlt
      have hst := look_drop l id hlt
      obtain ⟨⟨i, ps⟩, hx⟩ : ∃ y, y = l[k] := ⟨_, rfl⟩
      rw [← hx] at q0 q1 hsl hst
      dsimp only at q0 q1 hsl hst
      have hab := (Below.refl wr.heap.size wr).alloc (Nat.le_refl _) (.cells #[.int .i64 i, .slice A3 ps.length c3] 56)
      obtain ⟨f0, f1, _, _, _⟩ := (Blk.new wr 56 #[.int .i64 i, .slice A3 ps.length c3]).two
      have Hst := Lib.hid hst; have Hsl := Lib.hid (hsl.ext hab); have Hb := Lib.hid (hb.trans (hab.mono hb.size))
      clear hst hsl hx hx1 hl1 hl2 hab hb
      by_cases e : i = id
      · subst e
        have e' : (i == i) = true := by simp
        go_wp2_with fail
        go_ret
        refine ⟨_, rfl, ?_, Hb0.out.trans (Hb.out.mono Hb0.out.size)⟩
        rw [← hlo.out, Hst.out, if_true]
        exact Hsl.out
      · have e' : (i == id) = false := by simpa using e
        go_wp2_with fail
        go_roundw
        case rel => exact ⟨k + 1, by omega, by go_num, Lib.hid (by rw [← hlo.out, Hst.out, if_neg e]), Hb.out⟩
        case measure => simp [intOf]; omega
    · obtain rfl : k = l.length := by omega
      go_wp2_with fail
      go_ret
      refine ⟨_, rfl, ?_, Hb0.out.trans (hb.mono Hb0.out.size)⟩
      have := hlo.out
      rw [List.drop_length] at this
      rw [← this]
      exact SlR.nil _ _ _
end Go.Proofs.YtiohhajkegpebaaGreatDoor
namespace Go.Proofs.YtiohhajkegpebaaGreatDoor
open Go.RowKit
set_option linter.unusedVariables false
/-- slices.Contains of ints. -/
theorem contInt_ok (l : List Int) (v : Value) (x : Int) (w : World) (h : SlR intC M0 w v l) : Calls Tryz.prog 21 #[v, .int .i64 x] w fun e w' => e = .returned (.bool (l.contains x)) ∧ w' = w := by
  obtain ⟨A, c, rfl, hlc, hcm⟩ := h.form
  rcases Nat.eq_zero_or_pos l.length with h0 | h0
  · obtain rfl := List.eq_nil_of_length_eq_zero h0
    exact (Tryz.slices_Contains_int_empty A c x w).mono fun e w' ⟨h1, h2⟩ => ⟨by rw [h1]; rfl, h2⟩
  · obtain ⟨b, off, rfl, _, _, _⟩ := h.intAt h0
    unfold maxLen at hcm
    have := Tryz.slices_Contains_int b off l.length c l x w (Nat.le_refl _) (by omega) (fun j hj => by
      obtain ⟨b', off', he, _, _, hc, _⟩ := h.intAt hj
      injection he with he
      injection he with e1 e2
      subst e1 e2
      rw [hc, Ix.getD_get hj])
    rw [List.take_length] at this
    exact this
theorem pre11_ok (gI : Nat) (id : Int) (x : Int) (u : Value) (w : World) (hI : w.cell? ⟨gI, 0, none⟩ = some (.int .i64 id)) : Calls Tryz.prog 103 #[.agg #[.int .i64 x, u], .pointer (some ⟨gI, 0, none⟩)] w fun e w' => e = .returned (.bool (x == id)) ∧ Below w.heap.size w w' := by
  have hal := (Below.refl w.heap.size w).alloc (Nat.le_refl _) (.cells #[.int .i64 x, u] 56)
  obtain ⟨f0, f1, _, _, _⟩ := (Blk.new w 56 #[.int .i64 x, u]).two
  have hI' : (w.alloc (.cells #[.int .i64 x, u] 56)).cell? ⟨gI, 0, none⟩ = some (.int .i64 id) := (hal.cell (World.block_lt_of_cell? w _ hI)).trans hI
  go_enter Tryz.func103, Tryz.ntmps103
  go_wp2_with fail
  go_ret
  exact ⟨rfl, hal⟩
set_option maxHeartbeats 2000000 in
theorem pre1_ok (gS gI : Nat) (s : Str) (id : Int) (t : Ix.Term) (A : Option Addr) (c : Nat) (w : World) (hS : w.cell? ⟨gS, 0, none⟩ = some (.string (bs s))) (hI : w.cell? ⟨gI, 0, none⟩ = some (.int .i64 id)) (hv : SlR postC M0 w (.slice A t.2.length c) t.2) :
    Calls Tryz.prog 100 #[.agg #[.string (bs t.1), .slice A t.2.length c], .pointer (some ⟨gS, 0, none⟩), .pointer (some ⟨gI, 0, none⟩)] w fun e w' => e = .returned (.bool (s.isPrefixOf t.1 && t.2.any fun p => p.1 == id)) ∧ Below w.heap.size w w' := by
  obtain ⟨W, hW⟩ : ∃ W, w.alloc (.cells #[.string (bs t.1), .slice A t.2.length c] 54) = W := ⟨_, rfl⟩
  have hal : Below w.heap.size w W := by rw [← hW]; exact (Below.refl w.heap.size w).alloc (Nat.le_refl _) _
  have kb : Blk W w.heap.size 54 #[.string (bs t.1), .slice A t.2.length c] := by rw [← hW]; exact Blk.new w _ _
  obtain ⟨f0, f1, _, _, _⟩ := kb.two
  have hS' : W.cell? ⟨gS, 0, none⟩ = some (.string (bs s)) := (hal.cell (World.block_lt_of_cell? w _ hS)).trans hS
  have hI' : W.cell? ⟨gI, 0, none⟩ = some (.int .i64 id) := (hal.cell (World.block_lt_of_cell? w _ hI)).trans hI
  have hp := Tryz.strings_HasPrefix (bs t.1) (bs s) W
  have e1 : (bs t.1).data.toList = t.1 := by simp [bs]
  have e2 : (bs s).data.toList = s := by simp [bs]
  rw [e1, e2] at hp
  have hpe : Lib.hasPrefix t.1 s = s.isPrefixOf t.1 := rfl
  rw [hpe] at hp
  obtain ⟨b, hb⟩ : ∃ b, s.isPrefixOf t.1 = b := ⟨_, rfl⟩
  rw [hb] at hp ⊢
  have hcont := postCont_ok 103 #[.pointer (some ⟨gI, 0, none⟩)] (fun p => p.1 == id) t.2 _ W (hv.ext hal) (fun args w => enters_of Tryz.func103 (by kernel_rfl) rfl args w)
    (fun x A2 c2 w1 _ hb1 _ _ _ => by
      have := pre11_ok gI id x.1 (.slice A2 x.2.length c2) w1 ((hb1.cell (World.block_lt_of_cell? W _ hI')).trans hI')
      simpa using this)
  have HW := Lib.hid hW; have Hp := Lib.hid hp; have Hcont := Lib.hid hcont
  clear hp hcont hb e1 e2 hpe hS hI kb hv
  rw [← hW] at f0 f1 hS' hI'
  clear hW
  go_enter Tryz.func100, Tryz.ntmps100
  go_wp2_with fail
  rw [HW.out]
  refine Hp.out.mono ?_
  rintro e w1 ⟨rfl, rfl⟩
  rw [HW.out] at f0 f1 hS' hI'
  cases b with
  | false =>
    go_wp2_with fail
    go_ret
    exact ⟨rfl, hal⟩
  | true =>
    go_wp2_with fail
    refine Hcont.out.mono ?_
    rintro e w2 ⟨rfl, hb2⟩
    go_wp2_with fail
    go_ret
    exact ⟨rfl, hal.trans (hb2.mono hal.size)⟩
theorem box3 (w : World) (c0 c1 c2 : Array Value) (t0 t1 t2 : TypeId) : ∃ W g, ((w.alloc (.cells c0 t0)).alloc (.cells c1 t1)).alloc (.cells c2 t2) = W ∧ w.heap.size = g ∧ W.heap.size = g + 1 + 1 + 1 ∧ Blk W g t0 c0 ∧ Blk W (g + 1) t1 c1 ∧ Blk W (g + 1 + 1) t2 c2 ∧ Below w.heap.size w W := by
  have e1 : (w.alloc (.cells c0 t0)).heap.size = w.heap.size + 1 := World.size_alloc ..
  have e2 : ((w.alloc (.cells c0 t0)).alloc (.cells c1 t1)).heap.size = w.heap.size + 1 + 1 := by rw [World.size_alloc, e1]
  have k1 := Blk.new (w.alloc (.cells c0 t0)) t1 c1
  have k2 := Blk.new ((w.alloc (.cells c0 t0)).alloc (.cells c1 t1)) t2 c2
  rw [e1] at k1
  rw [e2] at k2
  exact ⟨_, _, rfl, rfl, by rw [World.size_alloc, e2], ((Blk.new w t0 c0).alloc _).alloc _, k1.alloc _, k2, (((Below.refl _ w).alloc (Nat.le_refl _) _).alloc (by omega) _).alloc (by omega) _⟩
set_option maxHeartbeats 2000000 in
theorem prefix_ok (a b : Value) (x : Ix.Idx) (s : Str) (id : Int) (w : World) (h1 : SlR termC M0 w b x.2) (ha : ∃ A n c, a = .slice A n c) :
    Calls Tryz.prog 76 #[.agg #[a, b], .string (bs s), .int .i64 id] w fun e w' => e = .returned (.bool (Sr.prefixF x s id)) ∧ Below w.heap.size w w' := by
  obtain ⟨A0, n0, c0, rfl⟩ := ha
  obtain ⟨A1, c1, rfl, _, _⟩ := h1.form
  obtain ⟨W, g, hW, hg, hs, kb, kS, kI, hal⟩ := box3 w #[.slice A0 n0 c0, .slice A1 x.2.length c1] #[.string (bs s)] #[.int .i64 id] 70 9 3
  obtain ⟨f0, f1, _, _, _⟩ := kb.two
  have hcont := termCont_ok 100 #[.pointer (some ⟨g + 1, 0, none⟩), .pointer (some ⟨g + 1 + 1, 0, none⟩)] (fun t => s.isPrefixOf t.1 && t.2.any fun p => p.1 == id) x.2 _ W (h1.ext hal) (fun args w => enters_of Tryz.func100 (by kernel_rfl) rfl args w)
    (fun t A2 c2 w1 _ hb1 _ hv => by
      have := pre1_ok (g + 1) (g + 1 + 1) s id t A2 c2 w1 (kS.ext hb1).one.1 (kI.ext hb1).one.1 hv
      simpa using this)
  have HW := Lib.hid hW; have Hcont := Lib.hid hcont
  rw [← hW] at f0 f1
  clear hcont hW kb kS kI h1
  unfold Sr.prefixF
  go_enter Tryz.func76, Tryz.ntmps76
  go_wp2_with fail
  rw [HW.out]
  refine Hcont.out.mono ?_
  rintro e w2 ⟨rfl, hb2⟩
  clear f0 f1
  go_wp2_with fail
  go_ret
  exact ⟨rfl, hal.trans (hb2.mono hal.size)⟩
/-! ### near -/
theorem wrap_sub (a b : Int) (ha : 0 ≤ a ∧ a ≤ 1000000) (hb : 0 ≤ b ∧ b ≤ 1000000) : IntKind.i64.wrap (a - b) = a - b := IntWalk.i64_in _ (by omega)
set_option maxHeartbeats 2000000 in
theorem near11_ok (gA gM : Nat) (i most k : Int) (w : World) (hA : w.cell? ⟨gA, 0, none⟩ = some (.int .i64 i)) (hM : w.cell? ⟨gM, 0, none⟩ = some (.int .i64 most)) (hi : 0 ≤ i ∧ i ≤ 1000000) (hk : 0 ≤ k ∧ k ≤ 1000000) :
    Calls Tryz.prog 107 #[.int .i64 k, .pointer (some ⟨gA, 0, none⟩), .pointer (some ⟨gM, 0, none⟩)] w fun e w' => e = .returned (.bool ((!(k == i) && decide (k - i ≤ most)) && decide (i - k ≤ most))) ∧ Below w.heap.size w w' := by
  have w1 := wrap_sub k i hk hi
  have w2 := wrap_sub i k hi hk
  by_cases e : k = i
  · have e' : (k != i) = false := by simp [e]
    have e2 : (k == i) = true := by simp [e]
    rw [e2]
    go_enter Tryz.func107, Tryz.ntmps107
    go_wp2_with fail
    go_ret
    exact ⟨rfl, Below.refl _ _⟩
  · have e' : (k != i) = true := by simp [e]
    have e2 : (k == i) = false := by simp [e]
    rw [e2]
    by_cases h1 : k - i ≤ most
    · rw [decide_eq_true h1]
      go_enter Tryz.func107, Tryz.ntmps107
      go_wp2_with fail
      go_ret
      exact ⟨by simp, Below.refl _ _⟩
    · rw [decide_eq_false h1]
      go_enter Tryz.func107, Tryz.ntmps107
      go_wp2_with fail
      go_ret
      exact ⟨rfl, Below.refl _ _⟩
end Go.Proofs.YtiohhajkegpebaaGreatDoor
