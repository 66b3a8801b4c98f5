/-
  The reference's Counted.
-/
import Derived.Test.YtnlhocbaighedaaGreatDoorRkPl
import Derived.Test.YtnlhocbaighedaaGreatDoorR25
import Derived.Test.YtnlhocbaighedaaGreatDoorR2
import Derived.Deep.CutRange
namespace Go.Proofs.YtnlhocbaighedaaGreatDoor
open Go.RowKit
set_option linter.unusedVariables false
/-- a row that grows: nothing else has changed -/
structure Gr (kv kv' : Value) (w w' : World) : Prop where
 gr : w.grownBy w' kv.ownBlock
 own : kv'.ownBlock = kv.ownBlock ∨ ∃ b, kv'.ownBlock = some b ∧ w.heap.size ≤ b
theorem Gr.refl (kv : Value) (w : World) : Gr kv kv w w := ⟨⟨rfl, rfl, rfl, Nat.le_refl _, fun _ _ _ => rfl⟩, .inl rfl⟩
theorem Gr.trans {a b c : Value} {w w1 w2 : World} (h : Gr a b w w1) (h' : Gr b c w1 w2) : Gr a c w w2 := by
 refine ⟨⟨h'.gr.os.trans h.gr.os, h'.gr.tape.trans h.gr.tape, h'.gr.output.trans h.gr.output, Nat.le_trans h.gr.size h'.gr.size, fun k hk hne => ?_⟩, ?_⟩
 ·rw [h'.gr.block k (Nat.lt_of_lt_of_le hk h.gr.size) (fun e => ?_), h.gr.block k hk hne]
  rcases h.own with h1 | ⟨b, h1, h2⟩
  ·exact hne (e.trans h1)
  ·rw [h1] at e; injection e with e; omega
 ·rcases h'.own with h1 | ⟨b, h1, h2⟩
  ·rcases h.own with h3 | ⟨b, h3, h4⟩
   ·exact .inl (h1.trans h3)
   ·exact .inr ⟨b, h1.trans h3, h4⟩
  ·exact .inr ⟨b, h1, Nat.le_trans h.gr.size h2⟩
theorem Gr.below {a b : Value} {w w1 w2 : World} (h : Gr a b w w1) (hb : Below w1.heap.size w1 w2) : Gr a b w w2 :=
 ⟨⟨hb.os.trans h.gr.os, hb.tape.trans h.gr.tape, hb.output.trans h.gr.output, Nat.le_trans h.gr.size hb.size, fun k hk hne => (hb.block k (Nat.lt_of_lt_of_le hk h.gr.size)).trans (h.gr.block k hk hne)⟩, h.own⟩
theorem Gr.of_below (a : Value) {w w1 : World} (hb : Below w.heap.size w w1) : Gr a a w w1 := (Gr.refl a w).below hb
theorem Gr.sl {α : Type} {C : Codec α} {M : Nat → Prop} {a b v : Value} {l : List α} {w w1 : World} (h : Gr a b w w1) (hs : SlR C M w v l) (hM : ∀ k, a.ownBlock = some k → M k) : SlR C M w1 v l :=
 hs.keep (fun k hk hn => h.gr.block k hk fun e => hn (hM k e.symm)) h.gr.size
theorem Gr.blk {a b : Value} {w w1 : World} {g t : Nat} {cs : Array Value} (h : Gr a b w w1) (hk : Blk w g t cs) (hne : a.ownBlock ≠ some g) : Blk w1 g t cs :=
 hk.keep (h.gr.block g hk.lt fun e => hne e.symm)
theorem grow_below {a : Value} {w w1 : World} (h : w.grownBy w1 a.ownBlock) (hn : a.ownBlock = none) : Below w.heap.size w w1 :=
 (Below.refl w.heap.size w).grown h (Nat.le_refl _) fun k hk => by rw [hn] at hk; cases hk
namespace Rk
theorem uniq_len (l : List Str) (s : Str) : (uniqF l s).length ≤ l.length + 1 := by
 unfold uniqF
 split <;> simp
theorem uniqs_len : ∀ (xs l : List Str), (xs.foldl uniqF l).length ≤ l.length + xs.length
 | [], l => Nat.le_refl _
 | s :: xs, l => by
  rw [List.foldl_cons, List.length_cons]
  have := uniqs_len xs (uniqF l s)
  have := uniq_len l s
  omega
theorem cntR_len : ∀ (f : Nat) (q : Q) (l : List Str), (cntR f q l).length ≤ l.length + q.bulk
 | f, .node kk t nv parts, l => by
  have h1 : (if kk = 2 ∨ kk = 4 ∨ kk = 5 then ((splitS t).map Sm.stem).foldl uniqF l else l).length ≤ l.length + (t.length + 1) := by
   split
   ·have := uniqs_len ((splitS t).map Sm.stem) l
    rw [List.length_map] at this
    have := splitS_size t
    omega
   ·omega
  cases f with
  | zero =>
   unfold cntR
   simp only [Q.bulk]
   exact Nat.le_trans h1 (by omega)
  | succ f =>
   unfold cntR
   have h2 : ∀ (ps : List Q) (l : List Str), (ps.foldl (fun l p => cntR f p l) l).length ≤ l.length + Q.bulks ps := by
    intro ps
    induction ps with
    | nil => intro l; simp
    | cons p ps ih =>
     intro l
     rw [List.foldl_cons]
     have a1 := ih (cntR f p l)
     have a2 := cntR_len f p l
     simp only [Q.bulks]
     omega
   refine Nat.le_trans (h2 _ _) ?_
   have h3 : Q.bulks (if kk = 8 then [] else parts) ≤ Q.bulks parts := by
    split
    ·simp [Q.bulks]
    ·exact Nat.le_refl _
   have h4 : Q.bulk (.node kk t nv parts) = t.length + 4 + Q.bulks parts := by simp only [Q.bulk]
   show _ + Q.bulks (if kk = 8 then [] else parts) ≤ _
   rw [h4]
   exact Nat.le_trans (Nat.add_le_add h1 h3) (by omega)
/-- what Counted makes of the parts -/
def cntP (f : Nat) (ps : List Q) (l : List Str) : List Str := ps.foldl (fun l p => cntR (f - 1) p l) l
theorem cntP_step (f : Nat) (ps : List Q) (l : List Str) {m : Nat} (h : m < ps.length) : cntP f (ps.take (m + 1)) l = cntR (f - 1) ps[m] (cntP f (ps.take m) l) := by
 unfold cntP
 rw [List.take_succ_eq_append_getElem h, List.foldl_append]
 rfl
theorem cntP_len (f : Nat) : ∀ (ps : List Q) (l : List Str), (cntP f ps l).length ≤ l.length + Q.bulks ps
 | [], l => by simp [cntP]
 | p :: ps, l => by
  have a1 := cntP_len f ps (cntR (f - 1) p l)
  have a2 := cntR_len (f - 1) p l
  unfold cntP at a1 ⊢
  rw [List.foldl_cons]
  simp only [Q.bulks]
  omega
theorem cntR_split (f : Nat) (q : Q) (l : List Str) (hf : f = 0 → q.kind = 8 ∨ q.parts = []) : cntR f q l = cntP f (if q.kind = 8 then [] else q.parts) (if q.kind = 2 ∨ q.kind = 4 ∨ q.kind = 5 then ((splitS q.text).map Sm.stem).foldl uniqF l else l) := by
 cases f with
 | zero =>
  have : (if q.kind = 8 then [] else q.parts) = [] := by
   rcases hf rfl with h | h
   ·rw [if_pos h]
   ·rw [h]; split <;> rfl
  rw [this]
  rfl
 | succ f => rfl
theorem bulks_at : ∀ (ps : List Q) (m : Nat) (h : m < ps.length), Q.bulks (ps.take m) + ps[m].bulk ≤ Q.bulks ps
 | p :: ps, 0, _ => by simp [Q.bulks]
 | p :: ps, m + 1, h => by
  have := bulks_at ps m (by simpa using h)
  simp only [List.take_succ_cons, Q.bulks, List.getElem_cons_succ]
  omega
end Rk
set_option maxRecDepth 100000 in
set_option maxHeartbeats 8000000 in
theorem counted_ref : ∀ (f : Nat) (q : Q) (v kv : Value) (known : List Str) (w : World) (B : Nat), B ≤ w.heap.size → QAt f (fun b => kv.ownBlock = some b) w v q → Own strC M0 w B 9 kv known → q.bulk ≤ 1048576 → known.length + q.bulk ≤ 8000000 →
  Calls Tryz.prog 30 #[v, kv] w fun e w' => ∃ (A : Option Addr) (c : Nat) (L : List Str), e = .returned (.slice A L.length c) ∧ Hid (L = Rk.cntR f q known) ∧ Own strC M0 w' B 9 (.slice A L.length c) L ∧ Gr kv (.slice A L.length c) w w' := by
 intro f
 induction f using Nat.strongRecOn with | _ f ih => ?_
 intro q v kv known w B hB hq hown hbk hkl
 have hq' := hq
 obtain ⟨A, c, rfl, _, _, _, hv⟩ := hq'
 obtain ⟨kA, kc, rfl, _, _⟩ := hown.shape
 obtain ⟨ps, hps⟩ : ∃ l, q.parts = l := ⟨_, rfl⟩
 obtain ⟨t, ht⟩ : ∃ l, q.text = l := ⟨_, rfl⟩
 obtain ⟨kn, hkn⟩ : ∃ k, q.kind = k := ⟨_, rfl⟩
 obtain ⟨nm, hnm⟩ : ∃ k, q.num = k := ⟨_, rfl⟩
 have hbe : q.bulk = t.length + 4 + Q.bulks ps := by rw [Q.bulk_eq, ht, hps]
 rw [hps] at hv
 have hf0 : f = 0 → q.kind = 8 ∨ q.parts = [] := fun h0 => .inr (by
  rw [hps]
  cases ps with
  | nil => rfl
  | cons p ps =>
   obtain ⟨_, _, e, _, _, _, he, _⟩ := hv.qAt (k := 0) (by simp)
   omega)
 have hcnt := Rk.cntR_split f q known hf0
 rw [hkn, ht, hps] at hcnt
 rw [hkn, ht, hps, hnm]
 have hpl : ps.length ≤ 4000000 := by have := parts_bulk ps; omega
 obtain ⟨L1, hL1⟩ : ∃ l, (if kn = 2 ∨ kn = 4 ∨ kn = 5 then ((splitS t).map Sm.stem).foldl Rk.uniqF known else known) = l := ⟨_, rfl⟩
 obtain ⟨pE, hpE⟩ : ∃ l, (if kn = 8 then [] else ps) = l := ⟨_, rfl⟩
 rw [hL1, hpE] at hcnt
 have hl1 : L1.length ≤ known.length + (t.length + 1) := by
  rw [← hL1]
  split
  ·have := Rk.uniqs_len ((splitS t).map Sm.stem) known
   rw [List.length_map] at this
   have := splitS_size t
   omega
  ·omega
 obtain ⟨W, g, hW, hg, hs, kQ, hal⟩ := boxA w #[.int .i64 kn, .string (bs t), .int .i64 nm, .slice A ps.length c] 28
 obtain ⟨q0, q1, q2, q3, _⟩ := kQ.fourV
 have hownW := hown.ext hal
 have hkg : (Value.slice kA known.length kc).ownBlock ≠ some g := fun e => by
  have := hown.lt g e
  omega
 have hvB : SlR (qF f) (fun b => (Value.slice kA known.length kc).ownBlock = some b ∨ W.heap.size ≤ b) W (.slice A ps.length c) ps := (hv.ext hal).toMB
 have hBW := Nat.le_trans hB hal.size
 have HW := Lib.hid hW; have HQ := Lib.hid kQ; have Hal := Lib.hid hal; have Hown := Lib.hid hownW; have HvB := Lib.hid hvB; have Hcnt := Lib.hid hcnt; have Hih := Lib.hid ih; have Hkg := Lib.hid hkg; have HL1 := Lib.hid hL1; have HpE := Lib.hid hpE
 have Hl1 := Lib.hid hl1; have Hbe := Lib.hid (show t.length + 4 + Q.bulks ps ≤ 1048576 ∧ known.length + (t.length + 4 + Q.bulks ps) ≤ 8000000 from by omega)
 have hkn6 : known.length ≤ 8000000 := by omega
 have htl : t.length ≤ 1048576 := by omega
 clear hW kQ hal hownW hvB hcnt ih hkg hL1 hpE hq hv hps ht hkn hnm hs hbe hl1 hbk hkl hown hB
 go_enter Tryz.func30, Tryz.ntmps30
 go_upto_region 1 with fail
 rw [HW.out]
 clear HW
 go_cut [20] from 8 to 20 (fun bv wc => bv = .bool (decide (kn = 2 ∨ kn = 4 ∨ kn = 5)) ∧ wc = W)
 case first =>
  by_cases k2 : kn = 2
  ·subst k2
   have e2 : ((2 : Int) == 2) = true := rfl
   go_wp2_with fail
   go_meet
   case rel => exact ⟨by simp, rfl⟩
  ·have e2 : (kn == 2) = false := by simpa using k2
   by_cases k4 : kn = 4
   ·subst k4
    have e4 : ((4 : Int) == 4) = true := rfl
    go_wp2_with fail
    go_meet
    case rel => exact ⟨by simp, rfl⟩
   ·have e4 : (kn == 4) = false := by simpa using k4
    by_cases k5 : kn = 5
    ·subst k5
     have e5 : ((5 : Int) == 5) = true := rfl
     go_wp2_with fail
     go_meet
     case rel => exact ⟨by simp, rfl⟩
    ·have e5 : (kn == 5) = false := by simpa using k5
     go_wp2_with fail
     go_meet
     case rel => exact ⟨by simp [k2, k4, k5], rfl⟩
 case rest =>
 obtain ⟨rfl, hw9⟩ := hcut
 obtain rfl : W = wc := hw9.symm
 clear hw9
 go_upto_if 20 with fail
 go_cut [1] from 5 to 45 (fun v1 wc => ∃ (A2 : Option Addr) (c2 : Nat), v1 = .slice A2 L1.length c2 ∧ Own strC M0 wc B 9 (.slice A2 L1.length c2) L1 ∧ Gr (.slice kA known.length kc) (.slice A2 L1.length c2) W wc)
 case first =>
  by_cases hk : kn = 2 ∨ kn = 4 ∨ kn = 5
  ·rw [show decide (kn = 2 ∨ kn = 4 ∨ kn = 5) = true from decide_eq_true hk]
   have hL1 := HL1.out
   rw [if_pos hk] at hL1
   have HLs := Lib.hid hL1
   have Hsp := Lib.hid (refSplit_ok t (by omega) W)
   clear hL1 hk Hih Hcnt HpE HL1
   go_wp2_with fail
   refine Hsp.out.mono ?_
   clear Hsp q0 q1 q2 q3
   rintro e w1 ⟨A3, c3, ws, rfl, hws, how, hb1⟩
   have hwsl : ws.length ≤ t.length + 1 := by rw [hws.out]; exact splitS_size t
   have hwl : ∀ x ∈ ws, x.length ≤ t.length := fun x hx => by rw [hws.out] at hx; exact splitS_lens hx
   have hwr : SlR strC (fun b => (Value.slice kA known.length kc).ownBlock = some b) w1 (.slice A3 ws.length c3) ws := by
    have h1 : Own strC (fun b => (Value.slice kA known.length kc).ownBlock = some b) w1 W.heap.size 9 (.slice A3 ws.length c3) ws := by
     obtain ⟨xs5, ho5, he5⟩ := how
     exact ⟨xs5, ho5, strs_of_els he5 ▸ els_strs _ _ _ (strs_max he5)⟩
    exact h1.read fun b hb hbg => by
     have := how.base b hb
     have := Hown.out.lt b hbg
     omega
   have Hwr := Lib.hid hwr; have Hwl := Lib.hid hwl; have Hws := Lib.hid hws.out; have Hb1 := Lib.hid hb1
   clear hwr hwl hws how hb1
   go_wp2_with fail
   go_loopw [1, 6] (fun v1 iv wr => ∃ (m : Nat) (A2 : Option Addr) (c2 : Nat) (L : List Str), m ≤ ws.length ∧ iv = .int .i64 (m : Int) ∧ v1 = .slice A2 L.length c2 ∧ L.length ≤ known.length + m ∧ Hid (L = ((ws.take m).map Sm.stem).foldl Rk.uniqF known) ∧ Own strC M0 wr B 9 (.slice A2 L.length c2) L ∧ Gr (.slice kA known.length kc) (.slice A2 L.length c2) w1 wr) (fun _ iv _ => ws.length - (intOf iv).toNat)
   case atStart => exact ⟨0, kA, kc, known, Nat.zero_le _, rfl, rfl, Nat.le_refl _, Lib.hid rfl, Hown.out.ext Hb1.out, Gr.refl _ _⟩
   case round =>
    obtain ⟨m, A2, c2, L, hm, rfl, rfl, hLl, HL, hownL, hgr⟩ := hrel
    obtain ⟨wo, rfl⟩ : ∃ W, W = wr := ⟨_, rfl⟩
    have hm0 : (0 : Int) ≤ (m : Int) := by omega
    by_cases hlt : m < ws.length
    ·have hmi : (m : Int) < (ws.length : Int) := by omega
     obtain ⟨x, hx⟩ : ∃ x, ws[m] = x := ⟨_, rfl⟩
     have hxl : x.length ≤ 1048576 := by have := Hwl.out ws[m] (List.getElem_mem hlt); rw [hx] at this; omega
     obtain ⟨b, off, rfl, _, _, hc0, _⟩ := (hgr.sl Hwr.out fun k hk => hk).strAt hlt
     rw [hx] at hc0
     have hst : ((ws.take (m + 1)).map Sm.stem).foldl Rk.uniqF known = Rk.uniqF L (Sm.stem x) := by
      rw [List.take_succ_eq_append_getElem hlt, List.map_append, List.foldl_append, ← HL.out, hx]
      rfl
     have hsl := Sm.stem_len x
     obtain ⟨s, hs⟩ : ∃ s, Sm.stem x = s := ⟨_, rfl⟩
     rw [hs] at hst hsl
     have hcell : ∀ W', Below wo.heap.size wo W' → W'.cell? ⟨b, off + m, none⟩ = some (.string (bs x)) := fun W' hW' => by
      obtain ⟨b', off', e, _, _, hc, _⟩ := ((hgr.sl Hwr.out fun k hk => hk).ext hW').strAt hlt
      rw [hx] at hc
      injection e with e
      injection e with e1 e2
      subst e1; subst e2
      exact hc
     have Hst := Lib.hid hst; have Hs := Lib.hid hs; have HownL := Lib.hid hownL; have Hgr := Lib.hid hgr; have Hcell := Lib.hid hcell
     clear hst hx hs hownL hgr hcell HL
     go_wp2_with fail
     refine (rstem_ok x (by unfold maxLen; omega) _).mono ?_
     rintro e w5 ⟨rfl, hb5⟩
     rw [Hs.out]
     have hc5 := Hcell.out w5 hb5
     have Hht := Lib.hid (hasText_ok M0 _ L s w5 (HownL.out.ext hb5).read0)
     obtain ⟨bb, hbb⟩ : ∃ bb, L.any (· == s) = bb := ⟨_, rfl⟩
     rw [hbb] at Hht
     have Hbb := Lib.hid hbb; have Hb5 := Lib.hid hb5
     clear hc0 hb5 hbb
     go_wp2_with fail
     refine Hht.out.mono ?_
     clear Hht
     rintro e w6 ⟨rfl, rfl⟩
     have hco : L.contains s = bb := by
      rw [← Hbb.out, Bool.eq_iff_iff, List.contains_iff_mem, List.any_eq_true]
      constructor
      ·intro h; exact ⟨s, h, by simp⟩
      ·rintro ⟨y, hy, e⟩
       have : y = s := by simpa using e
       rwa [← this]
     have Hco := Lib.hid hco
     clear hco
     cases bb with
     | true =>
      go_wp2_with fail
      go_roundw
      case rel => exact ⟨m + 1, A2, c2, L, by omega, by go_num, rfl, by omega, Lib.hid (by rw [Hst.out, Rk.uniqF, if_pos Hco.out]), HownL.out.ext Hb5.out, Hgr.out.below Hb5.out⟩
      case measure => simp [intOf]; omega
     | false =>
      go_wp2_with fail
      refine (rstem_ok x (by unfold maxLen; omega) _).mono ?_
      rintro e w7 ⟨rfl, hb7⟩
      rw [Hs.out]
      have hb57 := Hb5.out.trans (hb7.mono Hb5.out.size)
      have own7 := HownL.out.ext hb57
      have hgr7 := Hgr.out.below hb57
      have hbs : B ≤ w7.heap.size := Nat.le_trans hBW (Nat.le_trans Hb1.out.size hgr7.gr.size)
      have Hgr7 := Lib.hid hgr7
      clear hc5 hb7 hb57 hgr7
      go_wp2_with (at_builtin; refine wpList_push_Own strC (M := M0) (B := B) TStrs rfl (.tmp 38) (.tmp 44) rfl rfl own7 rfl (cs := [.string (bs s)]) (y := s) ⟨rfl, by unfold maxLen; omega⟩ (fun _ h => h.elim) ?a1 ?b1 hbs ?_)
      case a1 => unfold maxLen; omega
      case b1 => omega
      intro A5 c5 L5 w8 hL5 own5 hb8 hgr8 hor8
      have hlL5 : L5.length = L.length + 1 := by rw [hL5.out]; simp
      have Hgr8 := Lib.hid (Hgr7.out.trans (c := .slice A5 L5.length c5) ⟨hgr8, hor8.elim .inl fun h => .inr ⟨_, h, by omega⟩⟩)
      have Hown5 := Lib.hid own5
      clear own7 hgr8 hor8 hb8 own5 Hgr7 hbs
      go_wp2_with fail
      go_roundw
      case rel => exact ⟨m + 1, A5, c5, L5, by omega, by go_num, rfl, by omega, Lib.hid (by rw [Hst.out, Rk.uniqF, if_neg (by rw [Hco.out]; decide), hL5.out]), Hown5.out, Hgr8.out⟩
      case measure => simp [intOf]; omega
    ·have hmi : ¬ (m : Int) < (ws.length : Int) := by omega
     have hLL : L = L1 := by
      have := HL.out
      rw [List.take_of_length_le (by omega), Hws.out] at this
      exact this.trans HLs.out
     subst hLL
     have HownL := Lib.hid hownL; have Hgr := Lib.hid hgr
     clear hownL hgr
     go_wp2_with fail
     go_meet
     case rel => exact ⟨A2, c2, rfl, HownL.out, ⟨(Gr.of_below _ Hb1.out).trans Hgr.out |>.gr, ((Gr.of_below _ Hb1.out).trans Hgr.out).own⟩⟩
  ·rw [show decide (kn = 2 ∨ kn = 4 ∨ kn = 5) = false from decide_eq_false hk]
   have hL1 := HL1.out
   rw [if_neg hk] at hL1
   subst hL1
   go_wp2_with fail
   go_meet
   case rel => exact ⟨kA, kc, rfl, Hown.out, Gr.refl _ _⟩
 case rest =>
 clear q0 q1 q2 q3
 obtain ⟨A2, c2, rfl, hown1, hgr1⟩ := hcut
 have Hown1 := Lib.hid hown1; have Hgr1 := Lib.hid hgr1
 clear hown1 hgr1
 go_wp2_with fail
 go_loopw [1, 7] (fun v1 jv wr => ∃ (m : Nat) (A4 : Option Addr) (c4 : Nat) (L : List Str), m ≤ pE.length ∧ jv = .int .i64 (m : Int) ∧ v1 = .slice A4 L.length c4 ∧ Hid (L = Rk.cntP f (pE.take m) L1) ∧ Own strC M0 wr B 9 (.slice A4 L.length c4) L ∧ Gr (.slice kA known.length kc) (.slice A4 L.length c4) W wr) (fun _ jv _ => pE.length - (intOf jv).toNat)
 case atStart => exact ⟨0, A2, c2, L1, Nat.zero_le _, rfl, rfl, Lib.hid rfl, Hown1.out, Hgr1.out⟩
 case round =>
  clear Hown1 Hgr1
  obtain ⟨m, A4, c4, L, hm, rfl, rfl, HL, hownL, hgr⟩ := hrel
  obtain ⟨wo, rfl⟩ : ∃ W, W = wr := ⟨_, rfl⟩
  obtain ⟨q0, q1, q2, q3, _⟩ := (hgr.blk HQ.out Hkg.out).fourV
  have hm0 : (0 : Int) ≤ (m : Int) := by omega
  by_cases hlt : m < pE.length
  ·have h8 : kn ≠ 8 := fun e => by
    have := HpE.out
    rw [if_pos e] at this
    rw [← this] at hlt
    exact absurd hlt (Nat.not_lt_zero _)
   have hpE := HpE.out
   rw [if_neg h8] at hpE
   subst hpE
   have h8b : (kn != 8) = true := by simpa using h8
   have hmi : (m : Int) < (ps.length : Int) := by omega
   obtain ⟨b, off, e, A6, c6, rfl, hfe, _, _, s0, s1, s2, s3, hqa⟩ := (hgr.sl HvB.out fun k hk => .inl hk).qAt hlt
   have hba := Rk.bulks_at ps m hlt
   have hLb : L.length ≤ L1.length + Q.bulks (ps.take m) := by rw [HL.out]; exact Rk.cntP_len f (ps.take m) L1
   have hbe := Hbe.out
   have hl1 := Hl1.out
   have hc := Hih.out e (by omega) ps[m] _ (.slice A4 L.length c4) L wo B (Nat.le_trans hBW hgr.gr.size) (hqa.subR fun k hk h => by
    rcases hgr.own with h1 | ⟨k2, h1, h2⟩
    ·exact .inl (h1.symm.trans h)
    ·rw [h1] at h; injection h with h; exact .inr (by omega)) hownL (by omega) (by omega)
   have hst := Rk.cntP_step f ps L1 hlt
   rw [← HL.out, show f - 1 = e by omega] at hst
   obtain ⟨p, hp⟩ : ∃ p, ps[m] = p := ⟨_, rfl⟩
   rw [hp] at s0 s1 s2 s3 hc hst
   have Hc := Lib.hid hc; have Hst := Lib.hid hst; have Hgr := Lib.hid hgr
   clear hc hst hgr hqa hp hba hLb hbe hl1 hownL hfe
   go_wp2_with fail
   refine Hc.out.mono ?_
   clear Hc q0 q1 q2 q3 s0 s1 s2 s3
   rintro e9 w4 ⟨A3, c3, L3, rfl, hL3, own3, hgr3⟩
   have Hgr3 := Lib.hid (Hgr.out.trans hgr3); have Hown3 := Lib.hid own3
   clear hgr3 own3
   go_wp2_with fail
   go_roundw
   case rel => exact ⟨m + 1, A3, c3, L3, by omega, by go_num, rfl, Lib.hid (by rw [hL3.out, Hst.out]), Hown3.out, Hgr3.out⟩
   case measure => simp [intOf]; omega
  ·have hLe : L = Rk.cntR f q known := by
    rw [Hcnt.out, HL.out, List.take_of_length_le (by omega)]
   have HLe := Lib.hid hLe; have Hgr := Lib.hid (Gr.of_below (.slice kA known.length kc) Hal.out |>.trans hgr); have HownL := Lib.hid hownL
   clear hLe hgr hownL
   by_cases hmp : m < ps.length
   ·have hmi : (m : Int) < (ps.length : Int) := by omega
    have h8 : kn = 8 := Classical.byContradiction fun h => by
     have := HpE.out
     rw [if_neg h] at this
     rw [← this] at hlt
     exact hlt hmp
    subst h8
    have h8b : ((8 : Int) != 8) = false := rfl
    go_wp2_with fail
    go_ret
    exact ⟨A4, c4, L, rfl, HLe, HownL.out, Hgr.out⟩
   ·have hmi : ¬ (m : Int) < (ps.length : Int) := by omega
    go_wp2_with fail
    go_ret
    exact ⟨A4, c4, L, rfl, HLe, HownL.out, Hgr.out⟩
end Go.Proofs.YtnlhocbaighedaaGreatDoor
