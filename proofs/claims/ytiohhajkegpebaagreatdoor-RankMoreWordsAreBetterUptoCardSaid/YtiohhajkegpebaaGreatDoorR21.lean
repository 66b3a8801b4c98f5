/-
  Contracts and plain facts, one after another: strings.SplitSeq at a space: the iterator; rank.stems: the words of a leaf of a query; rank.stems: the iterator, at a leaf of a query.
-/
import Derived.Test.YtiohhajkegpebaaGreatDoorR3
import Derived.Test.YtiohhajkegpebaaGreatDoorR20
import Derived.Test.YtiohhajkegpebaaGreatDoorR8
import Derived.Test.YtiohhajkegpebaaGreatDoorShelf
import Derived.Test.YtiohhajkegpebaaGreatDoorR4
import Derived.Stop.RegionWithIn
import Derived.Laws.EntriesVeiled
namespace Go.Proofs.YtiohhajkegpebaaGreatDoor
open Go.RowKit
set_option linter.unusedVariables false
/-- What the iterator reads: what is left of the text, the space, how much of it is kept. -/
def spFP (g : Nat) (s : Str) (S : Nat → Prop) (w : World) : Prop :=
  Blk w g 9 #[.string (bs s)] ∧ ¬ S g ∧ Blk w (g + 1) 9 #[.string (bs [32])] ∧ ¬ S (g + 1) ∧ Blk w (g + 2) 3 #[.int .i64 0] ∧ ¬ S (g + 2)
theorem spFP.chg {g : Nat} {s : Str} {S S' : Nat → Prop} {w w' : World} (h : spFP g s S w) (hc : Chg S S' w w') : spFP g s S' w' :=
  ⟨(h.1.chg h.2.1 hc).1, (h.1.chg h.2.1 hc).2, (h.2.2.1.chg h.2.2.2.1 hc).1, (h.2.2.1.chg h.2.2.2.1 hc).2, (h.2.2.2.2.1.chg h.2.2.2.2.2 hc).1, (h.2.2.2.2.1.chg h.2.2.2.2.2 hc).2⟩
theorem spFP.move {g : Nat} {s : Str} {S : Nat → Prop} {w : World} (h : spFP g s S w) (t : Str) : spFP g t S (w.setCell ⟨g, 0, none⟩ (.string (bs t))) := by
  refine ⟨?_, h.2.1, h.2.2.1.far (p := ⟨g, 0, none⟩) (by show g + 1 ≠ g; omega) _, h.2.2.2.1, h.2.2.2.2.1.far (p := ⟨g, 0, none⟩) (by show g + 2 ≠ g; omega) _, h.2.2.2.2.2⟩
  have := h.1.set_ 0 (.string (bs t))
  simpa using this
def restLen (g : Nat) (w : World) : Nat := match w.cell? ⟨g, 0, none⟩ with | some (.string b) => b.size | _ => 0
set_option maxRecDepth 100000 in
set_option maxHeartbeats 4000000 in
theorem spseq_iter (g : Nat) (s : Str) (hs : s.length ≤ 4000000) :
    IterX Tryz.prog 121 #[.pointer (some ⟨g + 1, 0, none⟩), .pointer (some ⟨g, 0, none⟩), .pointer (some ⟨g + 2, 0, none⟩)] encW (splitS s) (fun b => b = g) (spFP g s) := by
  intro ll J Jx S W hFP hS hJ hJx hY h0
  refine callsIn_of_wp Tryz.func121 rfl trivial ?_ rfl
  simp only [Tryz.ntmps121, List.size_toArray, List.length_cons, List.length_nil, Nat.reduceAdd, Nat.reduceSub, Array.replicate_succ, Array.replicate_zero, List.push_toArray, List.append_toArray, List.nil_append, List.cons_append]
  have hF1 : Fence.wide.fn 122 := trivial
  have hF3 : Fence.wide.depth = none := rfl
  have hF4 : Fence.wide.round = none := rfl
  have HY := Lib.hid hY; have HJ := Lib.hid hJ; have HJx := Lib.hid hJx; have HS := Lib.hid hS
  obtain ⟨R, hR⟩ : ∃ R, splitS s = R := ⟨_, rfl⟩
  rw [hR] at HY ⊢
  have HR := Lib.hid hR
  obtain ⟨b0, b1, b2⟩ := hFP.2.2.1.one
  have HFP := Lib.hid hFP
  clear hY hJ hJx hS hR hFP
  gi_wp2
  clear b0 b1 b2
  gi_loopw [] (fun wr => ∃ (r : Str) (kk : Nat) (T : Nat → Prop), J kk T wr ∧ spFP g r T wr ∧ Hid (∀ b, T b → b < wr.heap.size) ∧ W.heap.size ≤ wr.heap.size ∧ Hid (R = R.take kk ++ splitS r) ∧ r.length ≤ s.length ∧ kk ≤ R.length) (fun wr => restLen g wr)
  case atStart => exact ⟨s, 0, S, h0, HFP.out, HS, Nat.le_refl _, Lib.hid (by rw [HR.out]; rfl), Nat.le_refl _, by omega⟩
  case round =>
    obtain ⟨r, kk, T, hj, hfp, hT, hsz, hrec, hrl, hkk⟩ := hrel
    obtain ⟨wo, rfl⟩ : ∃ W, W = wr := ⟨_, rfl⟩
    obtain ⟨a0, a1, a2⟩ := hfp.1.one
    obtain ⟨b0, b1, b2⟩ := hfp.2.2.1.one
    obtain ⟨c0, c1, c2⟩ := hfp.2.2.2.2.1.one
    have hm0 : Hid (restLen g wo = r.length) := Lib.hid (by unfold restLen; rw [a0]; simp)
    have hix := Tryz.strings_Index_one (bs r) 32 wo
    rw [bs_toList] at hix
    have hbe : (⟨#[32]⟩ : ByteArray) = bs [32] := rfl
    rw [hbe] at hix
    rcases split_piece r with ⟨h32, hsp, hi⟩ | ⟨a, t, hrt, h32, hsp, hi⟩
    · rw [hi] at hix
      rw [hsp] at hrec
      obtain ⟨hk', hx, hr'⟩ := list_at hkk hrec.out
      have hy := HY.out kk hk' T wo hj hsz
      rw [hx] at hy
      have hke : kk + 1 = R.length := by
        have h := congrArg List.length hr'
        rw [List.append_nil, List.length_take] at h
        omega
      have Hke := Lib.hid hke; have Hix := Lib.hid hix
      clear hke hx hr' hrec hix hbe hi hsp h32
      obtain ⟨fn, tmps, assign, body, hyy, hRR⟩ := hy
      dsimp only [encW] at hyy
      gi_wp2_with fail
      refine (callsIn_wide.2 Hix.out).mono ?_
      rintro e w2 ⟨rfl, rfl⟩
      gi_wp2_with fail
      refine hRR.mono ?_
      rintro e w4 ⟨T', hchg, hor4⟩
      obtain ⟨tt, rfl⟩ : ∃ tt, e = .returned (.bool tt) := hor4.elim (fun h => ⟨_, h.1⟩) (fun h => ⟨_, h.1⟩)
      have Hor4 := Lib.hid hor4
      clear hor4 hyy hRR a0 a1 a2 b0 b1 b2 c0 c1 c2
      cases tt with
      | true =>
        have hj4 : J (kk + 1) T' w4 := Hor4.out.elim (fun h => h.2) (fun h => by cases h.1)
        gi_wp2
        exact bodyPost_end (results_none rfl _ _ _) rfl ⟨⟨_, rfl⟩, .inl ⟨T', by rw [← Hke.out]; exact hj4⟩⟩
      | false =>
        have hx4 : Jx (kk + 1) T' w4 := Hor4.out.elim (fun h => by cases h.1) (fun h => h.2)
        gi_wp2
        exact bodyPost_end (results_none rfl _ _ _) rfl ⟨⟨_, rfl⟩, .inr ⟨kk + 1, T', hx4⟩⟩
    · rw [hi] at hix
      rw [hsp] at hrec
      obtain ⟨hk', hx, hr'⟩ := list_at hkk hrec.out
      have hy := HY.out kk hk' T wo hj hsz
      rw [hx] at hy
      have hrll : r.length = a.length + (t.length + 1) := by rw [hrt, List.length_append, List.length_cons]
      have hd1 : r.take a.length = a := by rw [hrt, List.take_left]
      have hd2 : r.drop (a.length + 1) = t := by rw [hrt, ← List.drop_drop, List.drop_left]; rfl
      have ha0 : ¬ (a.length : Int) < 0 := by omega
      have ha1 : (0 : Int) ≤ (a.length : Int) := by omega
      have ha2 : (a.length : Int) ≤ (r.length : Int) := by omega
      have ha3 : (a.length : Int) + 1 ≤ (r.length : Int) := by omega
      have hw0 : IntKind.i64.wrap ((a.length : Int) + 0) = (a.length : Int) := by rw [Int.add_zero]; exact IntWalk.i64_in _ (by omega)
      have hw0' : IntKind.i64.wrap (a.length : Int) = (a.length : Int) := IntWalk.i64_in _ (by omega)
      have hw1 : IntKind.i64.wrap ((a.length : Int) + 1) = ((a.length + 1 : Nat) : Int) := by rw [show (a.length : Int) + 1 = ((a.length + 1 : Nat) : Int) by omega]; exact IntWalk.i64_in _ (by omega)
      have htk : t.take (r.length - (a.length + 1)) = t := List.take_of_length_le (by omega)
      have Hr' := Lib.hid hr'; have Hix := Lib.hid hix; have Hrt := Lib.hid hrt; have Hrll := Lib.hid hrll
      clear hx hr' hrec hix hbe hi hsp h32 hrt hrll
      obtain ⟨fn, tmps, assign, body, hyy, hRR⟩ := hy
      dsimp only [encW] at hyy
      gi_wp2_with fail
      refine (callsIn_wide.2 Hix.out).mono ?_
      rintro e w2 ⟨rfl, rfl⟩
      gi_wp2_with fail
      refine hRR.mono ?_
      rintro e w4 ⟨T', hchg, hor4⟩
      obtain ⟨tt, rfl⟩ : ∃ tt, e = .returned (.bool tt) := hor4.elim (fun h => ⟨_, h.1⟩) (fun h => ⟨_, h.1⟩)
      have Hor4 := Lib.hid hor4
      have hfp4 := hfp.chg hchg
      have hsz4 : W.heap.size ≤ w4.heap.size := Nat.le_trans hsz hchg.size
      clear hor4 hyy hRR a0 a1 a2 b0 b1 b2 c0 c1 c2
      cases tt with
      | true =>
        have hj4 : J (kk + 1) T' w4 := Hor4.out.elim (fun h => h.2) (fun h => by cases h.1)
        obtain ⟨a0, a1, a2⟩ := hfp4.1.one
        obtain ⟨b0, b1, b2⟩ := hfp4.2.2.1.one
        gi_wp2
        have hfp5 := hfp4.move t
        have hj5 := HJ.out _ _ _ _ hj4 (KeptX.setCell (X := fun b => b = g) (n := W.heap.size) (S := T') (w := w4) (p := ⟨g, 0, none⟩) rfl (.string (bs t)))
        obtain ⟨w5, hw5⟩ : ∃ w5, w4.setCell ⟨g, 0, none⟩ (.string (bs t)) = w5 := ⟨_, rfl⟩
        rw [hw5] at hfp5 hj5 ⊢
        have hs5 : w5.heap.size = w4.heap.size := by rw [← hw5]; simp
        go_roundw
        case rel => exact ⟨t, kk + 1, T', hj5, hfp5, Lib.hid (fun b hb => by rw [hs5]; exact (hchg.own b hb).1), by omega, Hr', by have := Hrll.out; omega, hk'⟩
        case measure =>
          obtain ⟨d0, _⟩ := hfp5.1.one
          have h5 : restLen g w5 = t.length := by unfold restLen; rw [d0]; simp
          have := Hrll.out; rw [h5, hm0.out]; omega
      | false =>
        have hx4 : Jx (kk + 1) T' w4 := Hor4.out.elim (fun h => by cases h.1) (fun h => h.2)
        gi_wp2
        exact bodyPost_ret (results_none rfl _ _ _) rfl ⟨⟨_, rfl⟩, .inr ⟨kk + 1, T', hx4⟩⟩
set_option maxRecDepth 100000 in
set_option maxHeartbeats 4000000 in
theorem splitSeq0_ok (s : Str) (w : World) : Calls Tryz.prog 89 #[.string (bs s), .string ⟨#[32]⟩, .int .i64 0] w fun e w' =>
    e = .returned (.func (.func 121) #[] #[.pointer (some ⟨w.heap.size + 1, 0, none⟩), .pointer (some ⟨w.heap.size, 0, none⟩), .pointer (some ⟨w.heap.size + 2, 0, none⟩)]) ∧ ((w.alloc (.cells #[.string (bs s)] 9)).alloc (.cells #[.string ⟨#[32]⟩] 9)).alloc (.cells #[.int .i64 0] 3) = w' := by
  have hmf : ∀ (fn : Fn) (first cap : Array Value) (w : World), (Instr.makeFunc fn first cap).run Tryz.prog w = .ok (.func fn first cap) w := fun _ _ _ _ => rfl
  go_enter Tryz.func89, Tryz.ntmps89
  go_wp2_with fail
  go_ret
  exact ⟨rfl, rfl⟩
/-- what SplitSeq hands back -/
def SplitAt (s : Str) (w : World) (e : Ending) (w' : World) : Prop := ∃ g, e = .returned (.func (.func 121) #[] #[.pointer (some ⟨g + 1, 0, none⟩), .pointer (some ⟨g, 0, none⟩), .pointer (some ⟨g + 2, 0, none⟩)]) ∧ w.heap.size = g ∧
    w'.heap.size = g + 3 ∧ Blk w' g 9 #[.string (bs s)] ∧ Blk w' (g + 1) 9 #[.string (bs [32])] ∧ Blk w' (g + 2) 3 #[.int .i64 0] ∧ Below w.heap.size w w'
theorem splitSeq_ok (s : Str) (w : World) : Calls Tryz.prog 59 #[.string (bs s), .string ⟨#[32]⟩] w (SplitAt s w) := by
  have h0 := splitSeq0_ok s w
  have H0 := Lib.hid h0
  clear h0
  go_enter Tryz.func59, Tryz.ntmps59
  go_wp2_with fail
  refine H0.out.mono ?_
  rintro e w1 ⟨rfl, hw⟩
  have k0 : Blk w1 w.heap.size 9 #[.string (bs s)] := hw ▸ (((Blk.new w _ _).alloc _).alloc _)
  have k1 : Blk w1 (w.heap.size + 1) 9 #[.string (bs [32])] := hw ▸ (by have := (Blk.new (w.alloc (.cells #[.string (bs s)] 9)) 9 #[.string ⟨#[32]⟩]).alloc (.cells #[.int .i64 0] 3); rw [show bs [32] = (⟨#[32]⟩ : ByteArray) from rfl]; simpa using this)
  have k2 : Blk w1 (w.heap.size + 2) 3 #[.int .i64 0] := hw ▸ (by have := Blk.new ((w.alloc (.cells #[.string (bs s)] 9)).alloc (.cells #[.string ⟨#[32]⟩] 9)) 3 #[.int .i64 0]; simpa using this)
  have hb : Below w.heap.size w w1 := by rw [← hw]; exact (((Below.refl _ w).alloc (Nat.le_refl _) _).alloc (by simp) _).alloc (by simp; omega) _
  have hz : w1.heap.size = w.heap.size + 3 := by rw [← hw]; simp
  have Hend := Lib.hid (And.intro hz (And.intro k0 (And.intro k1 (And.intro k2 hb))))
  clear hw k0 k1 k2 hb hz
  go_wp2_with fail
  go_ret
  exact ⟨_, rfl, rfl, Hend.out.1, Hend.out.2.1, Hend.out.2.2.1, Hend.out.2.2.2.1, Hend.out.2.2.2.2⟩
end Go.Proofs.YtiohhajkegpebaaGreatDoor
namespace Go.Proofs.YtiohhajkegpebaaGreatDoor
open Go.RowKit
set_option linter.unusedVariables false
theorem boxPairV (w : World) (cs : Array Value) (t : TypeId) (ds : Array Value) (t' : TypeId) : ∃ W g, (w.alloc (.cells cs t)).alloc (.cells ds t') = W ∧ w.heap.size = g ∧ W.heap.size = g + 1 + 1 ∧ Blk W g t cs ∧ Blk W (g + 1) t' ds ∧ Below w.heap.size w W := by
  refine ⟨_, _, rfl, rfl, by simp, (Blk.new w t cs).alloc _, ?_, ((Below.refl _ _).alloc (Nat.le_refl _) _).alloc (by simp) _⟩
  have := Blk.new (w.alloc (.cells cs t)) t' ds
  rw [World.size_alloc] at this
  exact this
theorem Blk.fourV {w : World} {g : Nat} {t : TypeId} {a b c d : Value} (h : Blk w g t #[a, b, c, d]) : w.cell? ⟨g, 0, none⟩ = some a ∧ w.cell? ⟨g, 1, none⟩ = some b ∧ w.cell? ⟨g, 2, none⟩ = some c ∧ w.cell? ⟨g, 3, none⟩ = some d ∧ g < w.heap.size :=
  ⟨h.cell 0, h.cell 1, h.cell 2, h.cell 3, h.lt⟩
/-- what visit hands back -/
def VisitAt (n : Nat) (J Jx : Nat → (Nat → Prop) → World → Prop) (e : Ending) (W' : World) : Prop := (e = .returned (.bool true) ∧ ∃ S', J n S' W') ∨ (e = .returned (.bool false) ∧ ∃ k S', Jx k S' W')
/-- between the rounds of the pieces -/
def InV (gy g2 g : Nat) (yv : Value) (rv : Bool) (J : (Nat → Prop) → World → Prop) (U : Nat → Prop) (W : World) : Prop :=
  ∃ T, (∀ b, U b ↔ T b ∨ b = g2) ∧ J T W ∧ Blk W gy 49 #[yv] ∧ ¬ T gy ∧ Blk W g2 4 #[.bool rv] ∧ ¬ T g2 ∧ ¬ T g ∧ (∀ b, T b → b < W.heap.size)
theorem InV.kept {gy g2 g n0 n3 : Nat} {yv : Value} {rv : Bool} {J : (Nat → Prop) → World → Prop} (hJ : ∀ T V V', J T V → Kept n0 T V V' → J T V') (h0 : n0 ≤ g) (h3 : n0 ≤ n3) (hy3 : gy < n3) (h23 : g2 < n3) (hyg : gy ≠ g) (h2g : g2 ≠ g) {U : Nat → Prop} {V V' : World} (h : InV gy g2 g yv rv J U V) (hk : KeptX (fun b => b = g) n3 U V V') : InV gy g2 g yv rv J U V' := by
  obtain ⟨T, hU, hj, ky, hTy, kr, hT2, hTg, hlt⟩ := h
  refine ⟨T, hU, hJ T _ _ hj ⟨hk.os, hk.tape, hk.output, hk.size, fun b hb ho => hk.same b hb (fun e => ?_) ?_⟩, ky.keep (hk.same gy ky.lt hyg (.inl hy3)), hTy, kr.keep (hk.same g2 kr.lt h2g (.inl h23)), hT2, hTg, fun b hb => Nat.lt_of_lt_of_le (hlt b hb) hk.size⟩
  · rcases ho with h | h
    · omega
    · exact hTg (e ▸ h)
  · rcases ho with h | h
    · exact .inl (by omega)
    · exact .inr ((hU b).2 (.inl h))
set_option maxRecDepth 100000 in
set_option maxHeartbeats 8000000 in
theorem visit_leaf (gy gv : Nat) (t : Str) (ht : t.length ≤ 4000000) (nv : Int) (A : Option Addr) (n c : Nat) (l : Nat) (J Jx : Nat → (Nat → Prop) → World → Prop) (S : Nat → Prop) (W : World) (n0 : Nat) (hn0 : n0 ≤ W.heap.size)
    (ky : Blk W gy 49 #[.func (.yield l) #[] #[]]) (hSy : ¬ S gy) (hS : ∀ b, S b → b < W.heap.size)
    (hJ : ∀ k S W1 W2, J k S W1 → Kept n0 S W1 W2 → J k S W2) (hJx : ∀ k S W1 W2, Jx k S W1 → Kept n0 S W1 W2 → Jx k S W2)
    (hY : ∀ k (h : k < (splitS t).length) S W1, J k S W1 → n0 ≤ W1.heap.size → YieldAt Fence.wide 0 Tryz.prog l (encW (Sm.stem (splitS t)[k])) W1 fun e W' => ∃ S', Chg S S' W1 W' ∧ ((e = .returned (.bool true) ∧ J (k + 1) S' W') ∨ (e = .returned (.bool false) ∧ Jx (k + 1) S' W')))
    (h0 : J 0 S W) :
    CallsIn Fence.wide 0 Tryz.prog 58 #[.agg #[.int .i64 2, .string (bs t), .int .i64 nv, .slice A n c], .pointer (some ⟨gy, 0, none⟩), .pointer (some ⟨gv, 0, none⟩)] W (VisitAt (splitS t).length J Jx) := by
  obtain ⟨W1, g1, hW1, hg1, hs1, kq, kr, hal⟩   := boxPairV W #[.int .i64 2, .string (bs t), .int .i64 nv, .slice A n c] 25 #[.bool false] 4
  obtain ⟨q0, q1, q2, q3, _⟩ := kq.fourV
  have hsp := splitSeq_ok t W1
  have HW1 := Lib.hid hW1; have Hg1 := Lib.hid hg1; have Hsp := Lib.hid hsp; have Hkr := Lib.hid kr; have Hal := Lib.hid hal; have HJ := Lib.hid hJ; have HJx := Lib.hid hJx; have HY := Lib.hid hY; have HS := Lib.hid hS; have Hky := Lib.hid (ky.ext hal); have Hkq := Lib.hid kq
  clear hsp kr hal hJ hJx hY hS kq
  refine callsIn_of_wp_marks (F := Fence.wide) (n := 0) Tryz.func58 rfl trivial ((wpIn_wide (n := 0)).2 ?_) rfl
  simp only [Tryz.ntmps58, List.size_toArray, List.length_cons, List.length_nil, Nat.reduceAdd, Nat.reduceSub, Array.replicate_succ, Array.replicate_zero, List.push_toArray, List.append_toArray, List.nil_append, List.cons_append]
  go_wp2_with fail
  clear hW1 hg1
  refine Hsp.out.mono ?_
  clear Hsp q0 q1 q2 q3
  rintro e w3 ⟨g, rfl, hg, hsz3, k0, k1, k2, hb3⟩
  go_wp2
  obtain ⟨g2, hg2⟩ : ∃ g2, g1 + 1 = g2 := ⟨_, rfl⟩
  have hWg : W.heap.size = g1 := Hg1.out
  have hgle : g2 < g := by omega
  have hz3 : g + 3 ≤ w3.heap.size := by omega
  clear hsz3
  rw [hg2]
  have hkr3 := Hkr.out.ext hb3
  rw [hg2] at hkr3
  have hky3 := Hky.out.ext hb3
  have hb13 := Hal.out.trans (hb3.mono Hal.out.size)
  have hgyl : gy < W.heap.size := ky.lt
  have Hb13 := Lib.hid hb13; have Hkr3 := Lib.hid hkr3; have Hky3 := Lib.hid hky3; have Hk0 := Lib.hid (And.intro k0 (And.intro k1 k2))
  clear k0 k1 k2 hb3 hkr3 hky3 hb13
  refine wp_rangeFunc_iterX (X := fun b => b = g) ?_ (spseq_iter g t ht) rfl (enters_of Tryz.func121 (by kernel_rfl) rfl) (fun _ => rfl)
    (fun k => InV gy g2 g (.func (.yield l) #[] #[]) false (J k)) (fun c k U V => c = .ret ∧ InV gy g2 g (.func (.yield l) #[] #[]) false (Jx k) U V) (fun b => S b ∨ b = g2) ?_ ?_ ?_ ?_ ?_
    (fun x => { tmps := #[.agg #[.int .i64 2, .string (bs t), .int .i64 nv, .slice A n c], .pointer (some ⟨gy, 0, none⟩), .pointer (some ⟨gv, 0, none⟩), .pointer (some ⟨g1, 0, none⟩), .pointer (some ⟨g2, 0, none⟩), .string (bs x),
      undef, undef, .pointer (some ⟨g1, 0, none⟩), .int .i64 2, .bool true, .bool true, undef, undef, .pointer (some ⟨g1, 1, none⟩), .string (bs t),
      .func (.func 121) #[] #[.pointer (some ⟨g + 1, 0, none⟩), .pointer (some ⟨g, 0, none⟩), .pointer (some ⟨g + 2, 0, none⟩)],
      .string (bs x), undef, undef, undef, undef, undef, undef, undef, undef, undef, undef, undef, undef, undef, undef, undef, undef, undef, undef, undef, undef], defers := [] }) ?_ ?_ ?_ ?_
  · rintro b rfl; omega
  · rintro b (h | h)
    · have := HS.out b h; omega
    · omega
  · intro S' V hS' hbV
    obtain ⟨k0, k1, k2⟩ := Hk0.out
    have hno : ∀ b, g ≤ b → b < g + 3 → ¬ S' b := fun b h1 h2 h => by
      rcases hS' b h with (h' | h') | h'
      · have := HS.out b h'; omega
      · omega
      · omega
    exact ⟨k0.ext hbV, hno _ (by omega) (by omega), k1.ext hbV, hno _ (by omega) (by omega), k2.ext hbV, hno _ (by omega) (by omega)⟩
  · intro k U V V' h hk
    exact h.kept (HJ.out k) (n0 := n0) (by omega) (by omega) (by omega) (by omega) (by omega) (by omega) hk
  · rintro c k U V V' ⟨hc, h⟩ hk
    exact ⟨hc, h.kept (HJx.out k) (n0 := n0) (by omega) (by omega) (by omega) (by omega) (by omega) (by omega) hk⟩
  · refine ⟨S, fun b => Iff.rfl, HJ.out _ _ _ _ h0 (Kept.of_below Hb13.out), Hky3.out, hSy, Hkr3.out, fun h => ?_, fun h => ?_, fun b hb => ?_⟩
    · have := HS.out _ h; omega
    · have := HS.out _ h; omega
    · have := HS.out _ hb; have := Hb13.out.size; omega
  · intro l' x V K hK
    simp only [encW]
    gi_wp2_with (rw [Oper.semAt_eq _ _ _ (fun c h => by cases h)]; go_simp)
    exact hK
  · rintro l' k hk U V ⟨T, hU, hj, ky2, hTy, kr2, hT2, hTg, hTl⟩ hlt hsz
    have hF1 : Fence.wide.fn 60 := trivial
    have hF3 : Fence.wide.depth = none := rfl
    have hF4 : (Fence.wide.inRound l').round = some l' := rfl
    obtain ⟨y0, y1, _⟩ := ky2.one
    obtain ⟨p, hp⟩ : ∃ p, (splitS t)[k] = p := ⟨_, rfl⟩
    have hpl : p.length ≤ maxLen := by
      have := (splitS_mem t p (by rw [← hp]; exact List.getElem_mem hk)).2
      unfold maxLen; omega
    have hof := fun V' => of_ok p hpl V'
    have hy := fun (V' : World) (hb : Below V.heap.size V V') => HY.out k hk T V' (HJ.out _ _ _ _ hj (Kept.of_below hb)) (by have := hb.size; omega)
    simp only [hp] at hy
    rw [hp]
    obtain ⟨q, hq⟩ : ∃ q, Sm.stem p = q := ⟨_, rfl⟩
    rw [hq] at hof hy
    have Hof := Lib.hid hof; have Hy := Lib.hid hy; have Hky2 := Lib.hid ky2
    clear hof hy hq hp hpl
    gi_wp2_with (rw [Oper.semAt_eq _ _ _ (fun c h => by cases h)]; go_simp)
    gi_region_with (first
      | (gi_at_call 60; go_loud (have hcd := CallsIn.inRound l' ((callsIn_wide (n := 0)).2 (Hof.out V.drew)); refine hcd.mono ?_; clear hcd; rintro e w5 ⟨rfl, hb5⟩; have hb05 : Below V.heap.size V w5 := (Below.refl V.heap.size V).drew.trans hb5; obtain ⟨fn, tmps, assign, body, hyy, hRR⟩ := Hy.out w5 hb05; dsimp only [encW] at hyy; obtain ⟨y2, y3, _⟩ := (Hky2.out.ext hb05).one))
      | (refine hRR.mono ?_; rintro e w6 ⟨T', hchg, hor4⟩; obtain ⟨tt, rfl⟩ : ∃ tt, e = .returned (.bool tt) := hor4.elim (fun h => ⟨_, h.1⟩) (fun h => ⟨_, h.1⟩); have Hor4 := Lib.hid hor4; clear hor4)
      | (rw [Oper.semAt_eq _ _ _ (fun c h => by cases h)]; go_simp))
    all_goals
      have hcU : Chg U (fun b => T' b ∨ b = g2) V w6 := by
        refine ⟨hchg.os.trans hb05.os, hchg.tape.trans hb05.tape, hchg.output.trans hb05.output, Nat.le_trans hb05.size hchg.size, fun b hb hn => ?_, fun b hb => ?_⟩
        · exact (hchg.same b (Nat.lt_of_lt_of_le hb hb05.size) fun h => hn ((hU b).2 (.inl h))).trans (hb05.block b hb)
        · rcases hb with h | h
          · obtain ⟨h1, h2⟩ := hchg.own b h
            refine ⟨h1, h2.elim (fun h => .inl ((hU b).2 (.inl h))) fun h => .inr (Nat.le_trans hb05.size h)⟩
          · rw [h]
            exact ⟨Nat.lt_of_lt_of_le kr2.lt (Nat.le_trans hb05.size hchg.size), .inl ((hU g2).2 (.inr rfl))⟩
      obtain ⟨ky6, hTy6⟩ := (Hky2.out.ext hb05).chg hTy hchg
      obtain ⟨kr6, hTr6⟩ := (kr2.ext hb05).chg hT2 hchg
      have hTg6 : ¬ T' g := fun h => (hchg.own g h).2.elim hTg fun h => by have := hb05.size; omega
      have HcU := Lib.hid hcU; have Hky6 := Lib.hid ky6; have Hkr6 := Lib.hid kr6
      clear hyy hRR y0 y1 y2 y3 hcU ky6 kr6 ky2 kr2 hj hb5
      obtain ⟨z0, z1, z2⟩ := Hkr6.out.one
      cases tt with
      | true =>
        have hj6 : J (k + 1) T' w6 := Hor4.out.elim (fun h => h.2) (fun h => by cases h.1)
        gi_wp2_with (rw [Oper.semAt_eq _ _ _ (fun c h => by cases h)]; go_simp)
        exact ⟨_, HcU.out, T', fun b => Iff.rfl, hj6, Hky6.out, hTy6, Hkr6.out, hTr6, hTg6, fun b hb => (hchg.own b hb).1⟩
      | false =>
        have hx6 : Jx (k + 1) T' w6 := Hor4.out.elim (fun h => by cases h.1) (fun h => h.2)
        gi_wp2_with (rw [Oper.semAt_eq _ _ _ (fun c h => by cases h)]; go_simp)
        have hs6 : (w6.setCell ⟨g2, 0, none⟩ (.bool false)).heap.size = w6.heap.size := by simp
        have hne : ∀ b, b ≠ g2 → (w6.setCell ⟨g2, 0, none⟩ (.bool false)).heap[b]? = w6.heap[b]? := fun b hb => Below.heap_setCell _ _ _ _ hb
        refine ⟨fun b => T' b ∨ b = g2, ⟨HcU.out.os, HcU.out.tape, HcU.out.output, by rw [hs6]; exact HcU.out.size, fun b hb hn => (hne b fun e => hn ((hU b).2 (.inr e))).trans (HcU.out.same b hb hn), fun b hb => by rw [hs6]; exact HcU.out.own b hb⟩, rfl, T', fun b => Iff.rfl, ?_, Hky6.out.keep (hne gy (by omega)), hTy6, ?_, hTr6, hTg6, fun b hb => by rw [hs6]; exact (hchg.own b hb).1⟩
        · exact HJx.out _ _ _ _ hx6 ⟨rfl, rfl, rfl, by rw [hs6]; exact Nat.le_refl _, fun b hb ho => hne b fun e => by
            rcases ho with h | h
            · omega
            · exact hTr6 (e ▸ h)⟩
        · have := Hkr6.out.set_ 0 (.bool false)
          simpa using this
  · rintro D U V hD hUD ⟨T, hU, hj, ky2, hTy, kr2, hT2, hTg, hTl⟩ hWD
    obtain ⟨z0, z1, z2⟩ := kr2.one
    have hDg : D ≠ g2 := fun e => hUD ((hU D).2 (.inr e))
    have hTD : ¬ T D := fun h => hUD ((hU D).2 (.inl h))
    have Hkr2 := Lib.hid kr2
    clear kr2 ky2
    go_wp2
    have hne : ∀ b, b ≠ g2 → (V.setCell ⟨g2, 0, none⟩ (.bool true)).heap[b]? = V.heap[b]? := fun b hb => Below.heap_setCell _ _ _ _ hb
    have k9 : Blk (V.setCell ⟨g2, 0, none⟩ (.bool true)) g2 4 #[.bool true] := by
      have := Hkr2.out.set_ 0 (.bool true)
      simpa using this
    have hs9 : (V.setCell ⟨g2, 0, none⟩ (.bool true)).heap.size = V.heap.size := by simp
    obtain ⟨V9, hV9⟩ : ∃ V9, V.setCell ⟨g2, 0, none⟩ (.bool true) = V9 := ⟨_, rfl⟩
    rw [hV9] at hne k9 hs9 ⊢
    have hj9 : J (splitS t).length T V9 := HJ.out _ _ _ _ hj (by rw [← hV9]; exact ⟨rfl, rfl, rfl, by simp, fun b hb ho => Below.heap_setCell _ _ _ _ fun (e : b = g2) => by
      rcases ho with h | h
      · omega
      · exact hT2 (e ▸ h)⟩)
    have hj10 := HJ.out _ _ _ _ hj9 (Kept.putObj (r := D) (o := .deferred none) (by omega) hTD)
    have k10 : Blk (V9.putObj D (.deferred none)) g2 4 #[.bool true] := k9.keep (World.putObj_heap_other hDg.symm)
    obtain ⟨c0, _, _⟩ := k10.one
    exact bodyPostM_one ((hne D hDg).trans hWD) (v := .bool true) (by simp [results, Tryz.results58, go_sem, c0]) (.inl ⟨rfl, T, hj10⟩)
  · rintro D c' k U V hD hUD ⟨rfl, T, hU, hj, ky2, hTy, kr2, hT2, hTg, hTl⟩ hWD
    have hDg : D ≠ g2 := fun e => hUD ((hU D).2 (.inr e))
    have hTD : ¬ T D := fun h => hUD ((hU D).2 (.inl h))
    have hj10 := HJx.out _ _ _ _ hj (Kept.putObj (r := D) (o := .deferred none) (by omega) hTD)
    have k10 : Blk (V.putObj D (.deferred none)) g2 4 #[.bool false] := kr2.keep (World.putObj_heap_other hDg.symm)
    obtain ⟨c0, _, _⟩ := k10.one
    clear k10 kr2 ky2
    go_wp2
    exact bodyPostM_one hWD (v := .bool false) (by simp [results, Tryz.results58, go_sem, c0]) (.inr ⟨rfl, k, T, hj10⟩)
end Go.Proofs.YtiohhajkegpebaaGreatDoor
namespace Go.Proofs.YtiohhajkegpebaaGreatDoor
open Go.RowKit
set_option linter.unusedVariables false
/-- What the iterator reads: the query. -/
def stFP (gq : Nat) (t : Str) (nv : Int) (A : Option Addr) (n c : Nat) (S : Nat → Prop) (w : World) : Prop := Blk w gq 25 #[.int .i64 2, .string (bs t), .int .i64 nv, .slice A n c] ∧ ¬ S gq
set_option maxRecDepth 100000 in
set_option maxHeartbeats 8000000 in
theorem stems_iter (gq : Nat) (t : Str) (ht : t.length ≤ 4000000) (nv : Int) (A : Option Addr) (n c : Nat) :
    Iter Tryz.prog 57 #[.pointer (some ⟨gq, 0, none⟩)] encW ((splitS t).map Sm.stem) (stFP gq t nv A n c) := by
  intro ll J Jx S W hFP hS hJ hJx hY h0
  have hmf : ∀ (fn : Fn) (first cap : Array Value) (w : World), (Instr.makeFunc fn first cap).run Tryz.prog w = .ok (.func fn first cap) w := fun _ _ _ _ => rfl
  refine callsIn_of_wp Tryz.func57 rfl trivial ?_ rfl
  simp only [Tryz.ntmps57, List.size_toArray, List.length_cons, List.length_nil, Nat.reduceAdd, Nat.reduceSub, Array.replicate_succ, Array.replicate_zero, List.push_toArray, List.append_toArray, List.nil_append, List.cons_append]
  have hF1 : Fence.wide.fn 58 := trivial
  have hF3 : Fence.wide.depth = none := rfl
  have hF4 : Fence.wide.round = none := rfl
  obtain ⟨W1, gy, hW1, hgy, hs1, ky, kv, hal⟩ := boxPairV W #[.func (.yield ll) #[] #[]] 49 #[.nilFunc] 94
  obtain ⟨gv, hgv⟩ : ∃ g, gy + 1 = g := ⟨_, rfl⟩
  rw [hgv] at kv
  obtain ⟨v0, v1, _⟩ := kv.one
  obtain ⟨V, hV⟩ : ∃ V, W1.setCell ⟨gv, 0, none⟩ (.func (.func 58) #[] #[.pointer (some ⟨gy, 0, none⟩), .pointer (some ⟨gv, 0, none⟩)]) = V := ⟨_, rfl⟩
  have kv9 : Blk V gv 94 #[.func (.func 58) #[] #[.pointer (some ⟨gy, 0, none⟩), .pointer (some ⟨gv, 0, none⟩)]] := by
    rw [← hV]
    have := kv.set_ 0 (.func (.func 58) #[] #[.pointer (some ⟨gy, 0, none⟩), .pointer (some ⟨gv, 0, none⟩)])
    simpa using this
  have ky9 : Blk V gy 49 #[.func (.yield ll) #[] #[]] := by rw [← hV]; exact ky.far (p := ⟨gv, 0, none⟩) (by show gy ≠ gv; omega) _
  have hbV : Below W.heap.size W V := by rw [← hV]; exact hal.setCell (p := ⟨gv, 0, none⟩) (by show W.heap.size ≤ gv; omega) _
  have hFPV : stFP gq t nv A n c S V := ⟨hFP.1.ext hbV, hFP.2⟩
  obtain ⟨q0, q1, q2, q3, _⟩ := hFPV.1.fourV
  obtain ⟨u0, u1, _⟩ := kv9.one
  have hvis := visit_leaf gy gv t ht nv A n c ll J Jx S V W.heap.size hbV.size ky9 (fun h => by have := hS _ h; omega) (fun b hb => Nat.lt_of_lt_of_le (hS b hb) hbV.size) hJ hJx
    (fun k hk S1 W2 hj hsz => by
      have h := hY k (by rw [List.length_map]; exact hk) S1 W2 hj hsz
      rw [List.getElem_map] at h
      exact h) (hJ _ _ _ _ h0 (Kept.of_below hbV))
  have Hvis := Lib.hid hvis; have HV := Lib.hid hV; have HW1 := Lib.hid hW1
  clear hvis ky kv kv9 ky9 hFPV hY hJ hJx hS h0 hFP hs1 hal hbV
  gi_wp2_with fail
  refine Hvis.out.mono ?_
  rintro e w5 hv5
  obtain ⟨tt, rfl⟩ : ∃ tt, e = .returned (.bool tt) := hv5.elim (fun h => ⟨_, h.1⟩) (fun h => ⟨_, h.1⟩)
  have hres : ((∃ S', J (List.map Sm.stem (splitS t)).length S' w5) ∨ ∃ k S', Jx k S' w5) := by
    rw [List.length_map]
    exact hv5.elim (fun h => .inl h.2) fun h => .inr h.2
  clear hv5
  gi_wp2
  exact bodyPost_end (results_none rfl _ _ _) rfl ⟨⟨_, rfl⟩, hres⟩
end Go.Proofs.YtiohhajkegpebaaGreatDoor
