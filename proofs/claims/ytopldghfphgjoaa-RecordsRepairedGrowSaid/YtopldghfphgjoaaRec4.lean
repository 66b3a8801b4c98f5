/-
  The iterator of package records.
-/
import Derived.Test.YtopldghfphgjoaaRec3
import Derived.Test.YtopldghfphgjoaaHeldD
import Derived.Stop.RegionWithIn
namespace Go.Proofs.Ytopldghfphgjoaa
open Go.RowKit

/-- What the iterator reads: the captured log. -/
def allFP (B : Nat) (A : Option Addr) (c : Nat) (l : List UInt8) (S : Nat → Prop) (w : World) : Prop :=
  Blk w B 22 #[.slice A l.length c] ∧ ¬ S B ∧ SlR byteC S w (.slice A l.length c) l
def recEnc (A : Option Addr) (c : Nat) (x : Nat × List UInt8) : Array Value :=
  #[.slice (A.map fun a => ⟨a.block, a.off + (x.1 + 2), none⟩) x.2.length (c - (x.1 + 2)), .int .i64 ((x.1 : Int) + 10 + (x.2.length : Int))]
theorem SlR.chg {α : Type} {C : Codec α} {S S' : Nat → Prop} {w w' : World} {v : Value} {l : List α} (h : SlR C S w v l) (hc : Chg S S' w w') : SlR C S' w' v l :=
  (h.sub (M' := fun b => S b ∨ S' b) fun b hb hor => hor.elim id fun h' => (hc.own b h').2.elim id fun h2 => by omega).keep (fun b hb hn => hc.same b hb fun h' => hn (.inl h')) hc.size |>.sub fun _ _ h' => .inr h'
theorem Blk.chg {S S' : Nat → Prop} {w w' : World} {g : Nat} {t : TypeId} {cs : Array Value} (h : Blk w g t cs) (hS : ¬ S g) (hc : Chg S S' w w') : Blk w' g t cs ∧ ¬ S' g :=
  ⟨h.keep (hc.same g h.lt hS), fun h' => (hc.own g h').2.elim hS fun h2 => by have := h.lt; omega⟩
theorem allFP.chg {B : Nat} {A : Option Addr} {c : Nat} {l : List UInt8} {S S' : Nat → Prop} {w w' : World} (h : allFP B A c l S w) (hc : Chg S S' w w') : allFP B A c l S' w' :=
  ⟨(h.1.chg h.2.1 hc).1, (h.1.chg h.2.1 hc).2, h.2.2.chg hc⟩
theorem allFP.ext {B : Nat} {A : Option Addr} {c : Nat} {l : List UInt8} {S : Nat → Prop} {w w' : World} (h : allFP B A c l S w) (hb : Below w.heap.size w w') : allFP B A c l S w' :=
  ⟨h.1.ext hb, h.2.1, h.2.2.ext hb⟩

theorem or256 (x y : Nat) (hx : x < 256) (hy : y < 256) : bits .or .i64 ((x : Int) * 256) (y : Int) = 256 * (x : Int) + (y : Int) := by
  have h : (256 * x) ||| y = 256 * x + y := by
    have := Nat.two_pow_add_eq_or_of_lt (i := 8) (b := y) (by omega) x
    simpa using this.symm
  unfold bits
  have h2 : (BitVec.ofInt 64 ((x : Int) * 256) ||| BitVec.ofInt 64 (y : Int)).toNat = 256 * x + y := by
    rw [show ((x : Int) * 256) = ((256 * x : Nat) : Int) by omega, BitVec.ofInt_natCast, BitVec.ofInt_natCast, BitVec.toNat_or, BitVec.toNat_ofNat, BitVec.toNat_ofNat,
      Nat.mod_eq_of_lt (by omega), Nat.mod_eq_of_lt (by omega), h]
  have h3 : IntKind.i64.wrap (((256 * x + y : Nat) : Int)) = ((256 * x + y : Nat) : Int) := IntWalk.i64_in _ (by omega)
  exact (congrArg (fun z : Nat => IntKind.i64.wrap (z : Int)) h2).trans (h3.trans (by omega))

set_option maxHeartbeats 4000000 in
theorem all_iter (B : Nat) (A : Option Addr) (c : Nat) (l : List UInt8) (hn : l.length ≤ 400000) :
    Iter Try.prog 63 #[.pointer (some ⟨B, 0, none⟩)] (recEnc A c) (recs l) (allFP B A c l) := by
  intro ll J Jx S W hFP hS hJ hJx hY h0
  refine callsIn_of_wp Try.func63 rfl trivial ((wpIn_wide (n := 0)).2 ?_) rfl
  simp only [Try.ntmps63, List.size_toArray, List.length_cons, List.length_nil, Nat.reduceAdd, Nat.reduceSub, Array.replicate_succ, Array.replicate_zero, List.push_toArray, List.append_toArray, List.nil_append, List.cons_append]
  have HY := Lib.hid hY; clear hY
  have HJ := Lib.hid hJ; clear hJ
  have HJx := Lib.hid hJx; clear hJx
  have HS := Lib.hid hS; clear hS
  have hlc : l.length ≤ c := by obtain ⟨A', c', e, h1, _⟩ := hFP.2.2.form; cases e; exact h1
  go_wp2
  go_loopw [3] (fun i wr => ∃ (k p : Nat) (T : Nat → Prop), i = .int .i64 (p : Int) ∧ J k T wr ∧ allFP B A c l T wr ∧ Hid (∀ b, T b → b < wr.heap.size) ∧ W.heap.size ≤ wr.heap.size ∧
      Hid (p = endOf ((recs l).take k)) ∧ Hid (recs l = (recs l).take k ++ recsGo l (l.length + 1 - k) p) ∧ 10 * k ≤ p ∧ p ≤ l.length ∧ k ≤ (recs l).length) (fun i _ => l.length - (intOf i).toNat)
  case atStart => exact ⟨0, 0, S, rfl, h0, hFP, HS, Nat.le_refl _, Lib.hid rfl, Lib.hid rfl, by omega, by omega, by omega⟩
  case round =>
    obtain ⟨k, p, T, rfl, hj, hfp, hT, hsz, hp, hrec, hp1, hp2, hk⟩ := hrel
    have hfin : Hid (recAt l p = none → k = (recs l).length) := Lib.hid fun hnone => by
      have h1 := congrArg List.length hrec.out
      rw [recAt_none hnone, List.append_nil, List.length_take] at h1
      omega
    have hw := hfp.2.2
    obtain ⟨hcb, hzb, hsb⟩ := hfp.1.one
    by_cases h10 : p + 10 ≤ l.length
    · obtain ⟨b, off, rfl, _, _, hc0⟩ := hw.byteD (show p < l.length by omega)
      obtain ⟨_, _, e1, _, _, hc1⟩ := hw.byteD (show p + 1 < l.length by omega)
      cases e1
      have hx := (l.getD p 0).toNat_lt
      have hy := (l.getD (p + 1) 0).toNat_lt
      obtain ⟨x, hx1⟩ : ∃ x, x = (l.getD p 0).toNat := ⟨_, rfl⟩
      obtain ⟨y, hy1⟩ : ∃ y, y = (l.getD (p + 1) 0).toNat := ⟨_, rfl⟩
      rw [← hx1] at hc0 hx
      rw [← hy1] at hc1 hy
      have Hx := Lib.hid hx1; have Hy := Lib.hid hy1; clear hx1 hy1
      have hor := or256 x y (by omega) (by omega)
      have hq0 : IntKind.i64.wrap ((p : Int) + 2 + (256 * (x : Int) + (y : Int))) = (p : Int) + 2 + (256 * (x : Int) + (y : Int)) := IntWalk.i64_in _ (by omega)
      have hq1 : IntKind.i64.wrap ((p : Int) + 2 + (256 * (x : Int) + (y : Int)) + 8) = (p : Int) + 2 + (256 * (x : Int) + (y : Int)) + 8 := IntWalk.i64_in _ (by omega)
      by_cases hbad : 20000 < 256 * x + y ∨ l.length < p + 10 + (256 * x + y)
      · have hnone : recAt l p = none := by simp only [recAt, if_pos h10, ← Hx.out, ← Hy.out, if_pos hbad]
        have Hnone := Lib.hid hnone; clear hnone
        go_wp2
        go_quiet (fail)
        go_wp2
        all_goals first | (exfalso; omega) | skip
        all_goals
          refine bodyPost_ret (results_none rfl _ _ _) rfl ?_
          refine ⟨⟨_, rfl⟩, .inl ⟨T, ?_⟩⟩
          rw [← hfin.out Hnone.out]
          exact HJ.out _ _ _ _ hj (Kept.of_below (below_drewN' _ _ _))
      · have hcut := hw.cutN (lo := p + 2) (m := 256 * x + y) (by omega) (by omega)
        have hcut2 := hw.cutN (lo := p) (m := 10 + (256 * x + y)) (by omega) (by omega)
        obtain ⟨r, hr⟩ : ∃ r, r = (l.take (p + 2 + (256 * x + y))).drop (p + 2) := ⟨_, rfl⟩
        obtain ⟨q, hq⟩ : ∃ q, q = (l.take (p + (10 + (256 * x + y)))).drop p := ⟨_, rfl⟩
        rw [← hr] at hcut
        rw [← hq] at hcut2
        have hrl : r.length = 256 * x + y := by rw [hr, List.length_drop, List.length_take]; omega
        obtain ⟨t, ht⟩ : ∃ t, (storedF r == q) = t := ⟨_, rfl⟩
        have hat : recAt l p = if t then some r else none := by
          simp only [recAt, if_pos h10, ← Hx.out, ← Hy.out, if_neg hbad, ← hr, ← ht, hq]
          rw [show p + 10 + (256 * x + y) = p + (10 + (256 * x + y)) by omega]
        have Hr := Lib.hid hr; have Hq := Lib.hid hq; have Hrl := Lib.hid hrl; have Hat := Lib.hid hat; have Ht := Lib.hid ht; clear hr hq hrl hat ht
        go_wp2
        go_quiet (fail)
        go_wp2
        all_goals first | (exfalso; omega) | skip
        have hi1 : (p : Int) + 2 + (256 * (x : Int) + (y : Int)) + 8 ≤ (c : Int) := by omega
        have hi2 : (p : Int) ≤ (p : Int) + 2 + (256 * (x : Int) + (y : Int)) + 8 := by omega
        have hq3 : ((p : Int) + 2 + (256 * (x : Int) + (y : Int)) + 8).toNat = p + (10 + (256 * x + y)) := by omega
        have hq4 : (0 : Int) ≤ (p : Int) := by omega
        have hne : ¬ c = p := by omega
        have hcbn := (hfp.1.drewN (nq + 1)).one.1
        have hF1 : Fence.wide.fn 42 := trivial
        have hF2 : Fence.wide.fn 64 := trivial
        have hF3 : Fence.wide.depth = none := rfl
        cases t with
        | false =>
          have Hnone : Hid (recAt l p = none) := Hat
          have hS := hcbn
          refine wp_region_D (fun W' => W'.cell? ⟨B, 0, none⟩ = some (Value.slice (some ⟨b, off, none⟩) l.length c)) (fun _ => false) (by kernel_rfl) ?_
          refine anyD_light (i := 0) (v := .slice (some ⟨b, off + (p + 2), none⟩) (256 * x + y) (c - (p + 2))) rfl (by kernel_rfl) (by kernel_rfl) (by kernel_rfl) (by kernel_rfl) (by kernel_rfl) (fun _ _ _ h => h) (.inl ⟨rfl, fun W' hW' => by simp [go_sem, execOp]⟩) hS ?_
          refine anyD_light (i := 2) (v := .slice (some ⟨b, off, none⟩) l.length c) rfl (by kernel_rfl) (by kernel_rfl) (by kernel_rfl) (by kernel_rfl) (by kernel_rfl) (fun _ _ _ h => h) (.inl ⟨rfl, fun W' hW' => by simp [go_sem, hW', execOp]⟩) hS ?_
          refine anyD_light (i := 3) (v := .int .i64 (p : Int)) rfl (by kernel_rfl) (by kernel_rfl) (by kernel_rfl) (by kernel_rfl) (by kernel_rfl) (fun _ _ _ h => h) (.inl ⟨rfl, fun W' hW' => by simp [go_sem, execOp]⟩) hS ?_
          refine anyD_light (i := 4) (v := .int .i64 ((p : Int) + 2 + (256 * (x : Int) + (y : Int)) + 8)) rfl (by kernel_rfl) (by kernel_rfl) (by kernel_rfl) (by kernel_rfl) (by kernel_rfl) (fun _ _ _ h => h) (.inl ⟨rfl, fun W' hW' => by simp [go_sem, execOp]⟩) hS ?_
          refine anyD_light (i := 5) (v := .slice (some ⟨b, off + p, none⟩) (10 + (256 * x + y)) (c - p)) rfl (by kernel_rfl) (by kernel_rfl) (by kernel_rfl) (by kernel_rfl) (by kernel_rfl) (fun _ _ _ h => h) (.inl ⟨rfl, fun W' _ => by go_simp⟩) hS ?_
          refine anyD_one (i := 1) (by kernel_rfl) rfl rfl (fun K hK => ?_)
          have HK := Lib.hid hK
          clear hK
          unfold Oper.wp
          go_simp
          refine (stored_ok M0 _ r _ (fun _ h => h.elim) (hcut.zero.drewN (nq + 1)) (by rw [Hrl.out]; omega)).mono ?_
          rintro e w2 ⟨v2, rfl, hown2, hb2⟩
          have hS2 := ((hfp.1.drewN (nq + 1)).ext hb2).one.1
          refine HK.out _ _ (fun _ => hS2) ?_
          clear HK
          refine anyD_one (i := 6) (by kernel_rfl) rfl rfl (fun K hK => ?_)
          have HK := Lib.hid hK
          clear hK
          unfold Oper.wp
          go_simp
          refine (equal_bytes_ok M0 _ _ (storedF r) q _ hown2.read0 ((hcut2.zero.drewN (nq + 1)).ext hb2) hown2.len_le (hcut2.len_le)).mono ?_
          rintro e w3 ⟨he, n3, hw3⟩
          rw [Ht.out] at he
          have hb3 : Below wr.heap.size wr w3 := hw3 ▸ ((below_drewN' _ _ (nq + 1)).trans (hb2.trans (below_drewN' _ _ n3)))
          have hS3 : w3.cell? ⟨B, 0, none⟩ = some (Value.slice (some ⟨b, off, none⟩) l.length c) := hw3 ▸ hS2
          clear hw3
          subst he
          refine HK.out _ _ (fun _ => hS3) ?_
          clear HK hS
          have hS := hS3
          refine anyD_light (i := 7) (v := .bool true) rfl (by kernel_rfl) (by kernel_rfl) (by kernel_rfl) (by kernel_rfl) (by kernel_rfl) (fun _ _ _ h => h) (.inl ⟨rfl, fun W' hW' => by simp [go_sem, execOp]⟩) hS ?_
          refine anyD_light (i := 8) (v := .bool true) rfl (by kernel_rfl) (by kernel_rfl) (by kernel_rfl) (by kernel_rfl) (by kernel_rfl) (fun _ _ _ h => h) (.inl ⟨rfl, fun W' hW' => by simp [go_sem, execOp]⟩) hS ?_
          go_simp
          refine anyD_light (i := 9) (v := undef) rfl (by kernel_rfl) (by kernel_rfl) (by kernel_rfl) (by kernel_rfl) (by kernel_rfl) (fun _ _ _ h => h) (.inr ⟨rfl, rfl⟩) hS ?_
          go_simp
          refine anyD_light (i := 10) (v := undef) rfl (by kernel_rfl) (by kernel_rfl) (by kernel_rfl) (by kernel_rfl) (by kernel_rfl) (fun _ _ _ h => h) (.inr ⟨rfl, rfl⟩) hS ?_
          go_simp
          refine anyD_light (i := 11) (v := undef) rfl (by kernel_rfl) (by kernel_rfl) (by kernel_rfl) (by kernel_rfl) (by kernel_rfl) (fun _ _ _ h => h) (.inr ⟨rfl, rfl⟩) hS ?_
          go_simp
          refine anyD_light (i := 12) (v := undef) rfl (by kernel_rfl) (by kernel_rfl) (by kernel_rfl) (by kernel_rfl) (by kernel_rfl) (fun _ _ _ h => h) (.inr ⟨rfl, rfl⟩) hS ?_
          go_simp
          refine anyD_light (i := 13) (v := undef) rfl (by kernel_rfl) (by kernel_rfl) (by kernel_rfl) (by kernel_rfl) (by kernel_rfl) (fun _ _ _ h => h) (.inr ⟨rfl, rfl⟩) hS ?_
          go_simp
          refine anyD_light (i := 14) (v := .bool true) rfl (by kernel_rfl) (by kernel_rfl) (by kernel_rfl) (by kernel_rfl) (by kernel_rfl) (fun _ _ _ h => h) (.inl ⟨rfl, fun W' hW' => by simp [go_sem, execOp]⟩) hS ?_
          refine anyD_done (by kernel_rfl) ?_ _
          go_simp
          all_goals go_wp2
          all_goals
            refine bodyPost_ret (results_none rfl _ _ _) rfl ?_
            refine ⟨⟨_, rfl⟩, .inl ⟨T, ?_⟩⟩
            rw [← hfin.out Hnone.out]
            exact HJ.out _ _ _ _ hj (Kept.of_below hb3)
        | true =>
          have Hsome : Hid (recAt l p = some r) := Hat
          have Hnext : Hid ((recs l = (recs l).take (k + 1) ++ recsGo l (l.length + 1 - (k + 1)) (p + 10 + r.length) ∧ (recs l).take (k + 1) = (recs l).take k ++ [(p, r)]) ∧ ∃ hk' : k < (recs l).length, (recs l)[k] = (p, r)) := Lib.hid (by
            have h1 := recGo_step hrec.out (by simpa [Nat.min_eq_left hk] using hp1) h10 Hsome.out
            have h2 : ((recs l).take k ++ [(p, r)]).length = k + 1 := by simp [Nat.min_eq_left hk]
            have h3 : (recs l).take (k + 1) = (recs l).take k ++ [(p, r)] := by
              conv => lhs; rw [h1]
              rw [List.take_append_of_le_length (by omega), List.take_of_length_le (by omega)]
            have h4 : k < (recs l).length := by have := congrArg List.length h1; rw [List.length_append, h2] at this; omega
            refine ⟨⟨by rw [h3]; simpa [Nat.min_eq_left hk] using h1, h3⟩, h4, ?_⟩
            have h5 := List.getElem_of_eq h1 h4
            rw [h5, List.getElem_append_left (by omega), List.getElem_append_right (by simp; omega)]
            simp [Nat.min_eq_left hk])
          have Henc : Hid (recEnc (some ⟨b, off, none⟩) c (p, r) = #[.slice (some ⟨b, off + (p + 2), none⟩) (256 * x + y) (c - (p + 2)), .int .i64 ((p : Int) + 2 + (256 * (x : Int) + (y : Int)) + 8)]) := Lib.hid (by
            have h9 : (p : Int) + 10 + ((256 * x + y : Nat) : Int) = (p : Int) + 2 + (256 * (x : Int) + (y : Int)) + 8 := by omega
            simp only [recEnc, Option.map, Hrl.out, h9])
          have hF1 : Fence.wide.fn 42 := trivial
          have hF2 : Fence.wide.fn 64 := trivial
          have hF3 : Fence.wide.depth = none := rfl
          have hF4 : Fence.wide.round = none := rfl
          refine (wpIn_wide (n := 0)).1 ?_
          gi_region_with (first
            | (gi_at_call 42; have hcd := callsIn_wide (n := 0) |>.2 (stored_ok M0 _ r _ (fun _ h => h.elim) (hcut.zero.drewN (nq + 1)) (by rw [Hrl.out]; omega)); refine hcd.mono ?_; clear hcd; rintro e w2 ⟨v2, rfl, hown2, hb2⟩; obtain ⟨hcb2, hzb2, hsb2⟩ := ((hfp.1.drewN (nq + 1)).ext hb2).one)
            | (gi_at_call 64; have hce := callsIn_wide (n := 0) |>.2 (equal_bytes_ok M0 _ _ (storedF r) q _ hown2.read0 ((hcut2.zero.drewN (nq + 1)).ext hb2) hown2.len_le (hcut2.len_le)); refine hce.mono ?_; clear hce; rintro e w3 ⟨he, n3, hw3⟩; rw [Ht.out] at he; have hb3 : Below wr.heap.size wr w3 := hw3 ▸ ((below_drewN' _ _ (nq + 1)).trans (hb2.trans (below_drewN' _ _ n3))); clear hw3; subst he;
               have hy3 := HY.out k Hnext.out.2.1 T w3 (HJ.out _ _ _ _ hj (Kept.of_below hb3)) (Nat.le_trans hsz hb3.size); rw [Hnext.out.2.2] at hy3; rw [Henc.out] at hy3; obtain ⟨fn, tmps, assign, body, hy, hR⟩ := hy3)
            | (refine hR.mono ?_; rintro e w4 ⟨T', hchg, hor4⟩; obtain ⟨tt, rfl⟩ : ∃ tt, e = .returned (.bool tt) := hor4.elim (fun h => ⟨_, h.1⟩) (fun h => ⟨_, h.1⟩); have Hor4 := Lib.hid hor4; clear hor4))
          all_goals cases tt with
          | true =>
            have hj4 : J (k + 1) T' w4 := Hor4.out.elim (fun h => h.2) (fun h => by cases h.1)
            have hfp4 := (hfp.ext hb3).chg hchg
            have hsz4 : W.heap.size ≤ w4.heap.size := Nat.le_trans hsz (Nat.le_trans hb3.size hchg.size)
            go_wp2
            go_roundw
            case rel =>
              exact ⟨k + 1, p + 10 + (256 * x + y), T', congrArg (Value.int .i64) (by omega), hj4, hfp4, Lib.hid (fun b hb => (hchg.own b hb).1), hsz4,
                Lib.hid (by rw [Hnext.out.1.2, endOf_snoc, ← hp.out, Hrl.out]), Lib.hid (by have := Hnext.out.1.1; rw [Hrl.out] at this; exact this), by omega, by omega, Hnext.out.2.1⟩
            case measure => simp [intOf]; omega
          | false =>
            have hx4 : Jx (k + 1) T' w4 := Hor4.out.elim (fun h => by cases h.1) (fun h => h.2)
            go_wp2
            exact bodyPost_ret (results_none rfl _ _ _) rfl ⟨⟨_, rfl⟩, .inr ⟨k + 1, T', hx4⟩⟩
    · have hnone : recAt l p = none := by simp only [recAt, if_neg h10]
      have Hnone := Lib.hid hnone; clear hnone
      have fin : ∀ w', Below wr.heap.size wr w' → (∃ v, Ending.returned (.tuple #[]) = .returned v) ∧ ((∃ S', J (recs l).length S' w') ∨ ∃ k S', Jx k S' w') := fun w' hb' =>
        ⟨⟨_, rfl⟩, .inl ⟨T, by rw [← hfin.out Hnone.out]; exact HJ.out _ _ _ _ hj (Kept.of_below hb')⟩⟩
      have Fin := Lib.hid fin; clear fin
      by_cases h2 : p + 2 ≤ l.length
      · obtain ⟨b, off, rfl, _, _, hc0⟩ := hw.byteD (show p < l.length by omega)
        obtain ⟨_, _, e1, _, _, hc1⟩ := hw.byteD (show p + 1 < l.length by omega)
        cases e1
        have hx := (l.getD p 0).toNat_lt
        have hy := (l.getD (p + 1) 0).toNat_lt
        obtain ⟨x, hx1⟩ : ∃ x, x = (l.getD p 0).toNat := ⟨_, rfl⟩
        obtain ⟨y, hy1⟩ : ∃ y, y = (l.getD (p + 1) 0).toNat := ⟨_, rfl⟩
        rw [← hx1] at hc0 hx
        rw [← hy1] at hc1 hy
        clear hx1 hy1
        have hor := or256 x y (by omega) (by omega)
        have hq0 : IntKind.i64.wrap ((p : Int) + 2 + (256 * (x : Int) + (y : Int))) = (p : Int) + 2 + (256 * (x : Int) + (y : Int)) := IntWalk.i64_in _ (by omega)
        have hq1 : IntKind.i64.wrap ((p : Int) + 2 + (256 * (x : Int) + (y : Int)) + 8) = (p : Int) + 2 + (256 * (x : Int) + (y : Int)) + 8 := IntWalk.i64_in _ (by omega)
        go_wp2
        go_quiet (fail)
        go_wp2
        all_goals first | (exfalso; omega) | skip
        all_goals
          exact bodyPost_ret (results_none rfl _ _ _) rfl (Fin.out _ (below_drewN' _ _ _))
      · go_wp2
        all_goals first | (exfalso; omega) | skip
        all_goals
          exact bodyPost_end (results_none rfl _ _ _) rfl (Fin.out _ (Below.refl _ _))
end Go.Proofs.Ytopldghfphgjoaa
