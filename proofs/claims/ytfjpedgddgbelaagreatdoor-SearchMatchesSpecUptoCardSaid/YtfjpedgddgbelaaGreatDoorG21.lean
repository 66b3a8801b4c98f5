/-
  Contracts and plain facts, one after another: (search.finder).near and phrase; What the laws of searching say, plain: the logic of queries; other texts do not matter; what is added is found; The texts of an index, place by place, and what a query matches there; plain.
-/
import Derived.Test.YtfjpedgddgbelaaGreatDoorG20
import Derived.Test.YtfjpedgddgbelaaGreatDoorG18
namespace Go.Proofs.YtfjpedgddgbelaaGreatDoor
open Go.RowKit
set_option linter.unusedVariables false
/-- a place's range -/
theorem place_range {x : Ix.Idx} (hc : Ix.Canon x) {word : Str} {id n : Int} (h : n ∈ Sr.places x word id) : 0 ≤ n ∧ n ≤ 1000000 := by
  unfold Sr.places at h
  obtain ⟨t, ht, hw, p, hp, rfl, e⟩ := Ix.mem_cont (List.ne_nil_of_mem h)
  rw [← hw, Ix.cont_mem hc.wf ht hp] at h
  exact ((hc.post t ht).2.2 p hp).2.2.2 n h
set_option maxHeartbeats 2000000 in
theorem near1_ok (gK gM : Nat) (i most : Int) (v : Value) (l : List Int) (w : World) (hK : w.cell? ⟨gK, 0, none⟩ = some v) (hv : SlR intC M0 w v l) (hM : w.cell? ⟨gM, 0, none⟩ = some (.int .i64 most)) (hi : 0 ≤ i ∧ i ≤ 1000000) (hl : ∀ k ∈ l, 0 ≤ k ∧ k ≤ 1000000) :
    Calls Tryz.prog 214 #[.int .i64 i, .pointer (some ⟨gK, 0, none⟩), .pointer (some ⟨gM, 0, none⟩)] w fun e w' => e = .returned (.bool (l.any fun k => (!(k == i) && decide (k - i ≤ most)) && decide (i - k ≤ most))) ∧ Below w.heap.size w w' := by
  obtain ⟨A, c, rfl, _, _⟩ := hv.form
  obtain ⟨W, g, hW, hg, hs, kb, hal⟩ := boxA w #[.int .i64 i] 3
  have hK' : W.cell? ⟨gK, 0, none⟩ = some (.slice A l.length c) := (hal.cell (World.block_lt_of_cell? w _ hK)).trans hK
  have hM' : W.cell? ⟨gM, 0, none⟩ = some (.int .i64 most) := (hal.cell (World.block_lt_of_cell? w _ hM)).trans hM
  have hcont := intCont_ok 215 #[.pointer (some ⟨g, 0, none⟩), .pointer (some ⟨gM, 0, none⟩)] (fun k => (!(k == i) && decide (k - i ≤ most)) && decide (i - k ≤ most)) l _ W (hv.ext hal) (fun args w => enters_of Tryz.func215 (by kernel_rfl) rfl args w)
    (fun k w1 hk hb1 _ _ => by
      have := near11_ok g gM i most k w1 (kb.ext hb1).one.1 ((hb1.cell (World.block_lt_of_cell? W _ hM')).trans hM') hi (hl k hk)
      simpa using this)
  have HW := Lib.hid hW; have Hcont := Lib.hid hcont
  rw [← hW] at hK'
  clear hcont hW hK hM hM' kb hv
  go_enter Tryz.func214, Tryz.ntmps214
  go_wp2_with fail
  rw [HW.out]
  refine Hcont.out.mono ?_
  rintro e w2 ⟨rfl, hb2⟩
  clear hK'
  go_wp2_with fail
  go_ret
  exact ⟨rfl, hal.trans (hb2.mono hal.size)⟩
set_option maxHeartbeats 4000000 in
theorem near_ok (a b : Value) (x : Ix.Idx) (s t : Str) (most id : Int) (w : World) (h0 : SlR intC M0 w a x.1) (h1 : SlR termC M0 w b x.2) (hc : Ix.Canon x) (hs : s.length ≤ maxLen) (ht : t.length ≤ maxLen) :
    Calls Tryz.prog 171 #[.agg #[a, b], .string (bs s), .string (bs t), .int .i64 most, .int .i64 id] w fun e w' => e = .returned (.bool (Sr.nearF x s t most id)) ∧ Below w.heap.size w w' := by
  unfold Sr.nearF
  obtain ⟨A0, c0, rfl, _, _⟩ := h0.form
  obtain ⟨A1, c1, rfl, _, _⟩ := h1.form
  obtain ⟨W, g, hW, hg, hs1, kb, kM, hal⟩ := boxPair w #[.slice A0 x.1.length c0, .slice A1 x.2.length c1] 110 #[.int .i64 most] 3
  have hpl := fun word (hw : word.length ≤ maxLen) V (hb : Below W.heap.size W V) => places_ok (.slice A0 x.1.length c0) (.slice A1 x.2.length c1) x word id V (h0.ext (hal.trans (hb.mono hal.size))) (h1.ext (hal.trans (hb.mono hal.size))) hc hw
  have hps := hpl s hs
  have hpt := hpl t ht W (Below.refl _ _)
  have hrs : ∀ n ∈ Sr.places x s id, 0 ≤ n ∧ n ≤ 1000000 := fun n hn => place_range hc hn
  have hrt : ∀ n ∈ Sr.places x t id, 0 ≤ n ∧ n ≤ 1000000 := fun n hn => place_range hc hn
  obtain ⟨ps, hps'⟩ : ∃ l, Sr.places x s id = l := ⟨_, rfl⟩
  obtain ⟨pt, hpt'⟩ : ∃ l, Sr.places x t id = l := ⟨_, rfl⟩
  rw [hps'] at hps hrs ⊢
  rw [hpt'] at hpt hrt ⊢
  obtain ⟨n0, hn0⟩ : ∃ n, x.1.length = n := ⟨_, rfl⟩
  obtain ⟨n1, hn1⟩ : ∃ n, x.2.length = n := ⟨_, rfl⟩
  rw [hn0, hn1] at hps hpt kb hW ⊢
  obtain ⟨f0, f1, _, _, _⟩ := kb.two
  have HW := Lib.hid hW; have Hps := Lib.hid hps; have Hpt := Lib.hid hpt; have Hal := Lib.hid hal; have Hrs := Lib.hid hrs; have Hrt := Lib.hid hrt
  rw [← hW] at f0 f1
  clear hps hpt hW hpl h0 h1 hal hrs hrt hps' hpt' hn0 hn1
  go_enter Tryz.func171, Tryz.ntmps171
  go_wp2_with fail
  rw [HW.out]
  refine Hpt.out.mono ?_
  rintro e w2 ⟨v, rfl, hv, hb2⟩
  obtain ⟨A2, c2, rfl, _, _⟩ := hv.form
  obtain ⟨V, gk, hV, hgk, hsk, kk, hbk⟩ := boxA w2 #[.slice A2 pt.length c2] 22
  have hbv := hb2.trans (hbk.mono hb2.size)
  obtain ⟨e0, e1, _, _, _⟩ := (kb.ext hbv).two
  have kM2 := kM.ext hbv
  have hvv := hv.ext hbk
  have HV := Lib.hid hV; have Hbv := Lib.hid hbv; have Hvv := Lib.hid hvv
  rw [← hV] at e0 e1
  clear f0 f1 hV hbv hv hvv hb2 hbk
  go_wp2_with fail
  rw [HV.out]
  refine (Hps.out V Hbv.out).mono ?_
  rintro e w3 ⟨v3, rfl, hv3, hb3⟩
  obtain ⟨A3, c3, rfl, _, _⟩ := hv3.form
  have hcont := intCont_ok 214 #[.pointer (some ⟨gk, 0, none⟩), .pointer (some ⟨g + 1, 0, none⟩)] (fun i => pt.any fun k => (!(k == i) && decide (k - i ≤ most)) && decide (i - k ≤ most)) ps _ w3 hv3 (fun args w => enters_of Tryz.func214 (by kernel_rfl) rfl args w)
    (fun i w1 hi hb1 _ _ => by
      have hb31 := hb3.trans (hb1.mono hb3.size)
      have := near1_ok gk (g + 1) i most (.slice A2 pt.length c2) pt w1 (kk.ext hb31).one.1 (Hvv.out.ext hb31) (kM2.ext hb31).one.1 (Hrs.out i hi) Hrt.out
      simpa using this)
  have Hcont := Lib.hid hcont
  clear hcont hv3 e0 e1
  go_wp2_with fail
  refine Hcont.out.mono ?_
  rintro e w4 ⟨rfl, hb4⟩
  go_wp2_with fail
  go_ret
  have h1 := Hbv.out.trans (hb3.mono Hbv.out.size)
  exact ⟨rfl, Hal.out.trans ((h1.trans (hb4.mono h1.size)).mono Hal.out.size)⟩
/-! ### phrase -/
theorem rowAt_step (x : Ix.Idx) (id a : Int) (l : List Str) {k : Nat} (hk : k < l.length) : Sr.rowAt x id a (l.drop k) (k : Int) = ((Sr.places x l[k] id).contains (a + (k : Int)) && Sr.rowAt x id a (l.drop (k + 1)) ((k + 1 : Nat) : Int)) := by
  rw [List.drop_eq_getElem_cons hk, Sr.rowAt]
  have : ((k + 1 : Nat) : Int) = (k : Int) + 1 := by omega
  rw [this]
set_option maxRecDepth 100000 in
set_option maxHeartbeats 4000000 in
theorem phrase1_ok (g : Nat) (A0 A1 : Option Addr) (c0 c1 : Nat) (x : Ix.Idx) (l : List Str) (v : Value) (id at_ : Int) (w : World) (h0 : SlR intC M0 w (.slice A0 x.1.length c0) x.1) (h1 : SlR termC M0 w (.slice A1 x.2.length c1) x.2) (hc : Ix.Canon x)
    (kb : Blk w g 110 #[.slice A0 x.1.length c0, .slice A1 x.2.length c1]) (kL : Blk w (g + 1) 59 #[v]) (kI : Blk w (g + 1 + 1) 3 #[.int .i64 id]) (hv : SlR strC M0 w v l) (hl : l.length ≤ 4000000) (ha : 0 ≤ at_ ∧ at_ ≤ 1000000) :
    Calls Tryz.prog 213 #[.int .i64 at_, .pointer (some ⟨g + 1, 0, none⟩), .pointer (some ⟨g, 0, none⟩), .pointer (some ⟨g + 1 + 1, 0, none⟩)] w fun e w' => e = .returned (.bool (Sr.rowAt x id at_ l 0)) ∧ Below w.heap.size w w' := by
  obtain ⟨A, c, rfl, _, _⟩ := hv.form
  obtain ⟨hlc, hcm⟩ := hv.lenM
  obtain ⟨q0, _, _⟩ := kL.one
  have hpl := fun word (hw : word.length ≤ maxLen) V (hb : Below w.heap.size w V) => places_ok (.slice A0 x.1.length c0) (.slice A1 x.2.length c1) x word id V (h0.ext hb) (h1.ext hb) hc hw
  obtain ⟨n0, hn0⟩ : ∃ n, x.1.length = n := ⟨_, rfl⟩
  obtain ⟨n1, hn1⟩ : ∃ n, x.2.length = n := ⟨_, rfl⟩
  rw [hn0, hn1] at hpl kb
  have Hpl := Lib.hid hpl
  obtain ⟨res, hres⟩ : ∃ r, Sr.rowAt x id at_ l 0 = r := ⟨_, rfl⟩
  rw [hres]
  have Hres := Lib.hid hres
  clear hpl h0 h1 hc hres hn0 hn1
  go_enter Tryz.func213, Tryz.ntmps213
  go_wp2_with fail
  clear q0
  go_loopw [10] (fun i wr => ∃ k : Nat, k ≤ l.length ∧ i = .int .i64 k ∧ Hid (Sr.rowAt x id at_ (l.drop k) (k : Int) = res) ∧ Below w.heap.size w wr) (fun i _ => l.length - (intOf i).toNat)
  case atStart => exact ⟨0, Nat.zero_le _, rfl, Lib.hid Hres.out, Below.refl _ _⟩
  case round =>
    obtain ⟨k, hk, rfl, hro, hb⟩ := hrel
    by_cases hlt : k < l.length
    · have hx1 := hv.ext hb
      obtain ⟨b, off, rfl, _, _, q0, hl1⟩ := hx1.strAt hlt
      have hst := rowAt_step x id at_ l hlt
      obtain ⟨y, hy⟩ : ∃ y, y = l[k] := ⟨_, rfl⟩
      rw [← hy] at q0 hl1 hst
      have hcall := Hpl.out y hl1 wr hb
      obtain ⟨f0, f1, _, _, _⟩ := (kb.ext hb).two
      obtain ⟨i0, _, _⟩ := (kI.ext hb).one
      obtain ⟨pl, hpl'⟩ : ∃ p, Sr.places x y id = p := ⟨_, rfl⟩
      rw [hpl'] at hcall hst
      have hwr : IntKind.i64.wrap (at_ + (k : Int)) = at_ + (k : Int) := IntWalk.i64_in _ (by omega)
      have Hcall := Lib.hid hcall; have Hst := Lib.hid hst; have Hb := Lib.hid hb
      clear hcall hst hy hpl' hx1 hb
      go_wp2_with fail
      refine Hcall.out.mono ?_
      rintro e w2 ⟨v2, rfl, hv2, hb2⟩
      have hb02 := Hb.out.trans (hb2.mono Hb.out.size)
      have hct := contInt_ok pl v2 (at_ + (k : Int)) w2 hv2
      obtain ⟨A2, c2, rfl, _, _⟩ := hv2.form
      obtain ⟨t, htt⟩ : ∃ t, pl.contains (at_ + (k : Int)) = t := ⟨_, rfl⟩
      rw [htt] at hct
      rw [htt] at Hst
      have Hct := Lib.hid hct
      clear hct htt hv2 f0 f1 i0 q0 hl1
      go_wp2_with fail
      refine Hct.out.mono ?_
      rintro e w3 ⟨rfl, rfl⟩
      cases t with
      | true =>
        go_wp2_with fail
        go_roundw
        case rel => exact ⟨k + 1, by omega, by go_num, Lib.hid (by rw [← hro.out, Hst.out, Bool.true_and]), hb02⟩
        case measure => simp [intOf]; omega
      | false =>
        have hr0 : res = false := by rw [← hro.out, Hst.out]; rfl
        subst hr0
        go_wp2_with fail
        go_ret
        exact ⟨rfl, hb02⟩
    · obtain rfl : k = l.length := by omega
      have hr0 : res = true := by
        have := hro.out
        rw [List.drop_length] at this
        rw [← this]; rfl
      subst hr0
      go_wp2_with fail
      go_ret
      exact ⟨rfl, hb⟩
set_option maxRecDepth 100000 in
set_option maxHeartbeats 4000000 in
theorem phrase_ok (a b v : Value) (x : Ix.Idx) (l : List Str) (id : Int) (w : World) (h0 : SlR intC M0 w a x.1) (h1 : SlR termC M0 w b x.2) (hc : Ix.Canon x) (hv : SlR strC M0 w v l) (hl0 : 0 < l.length) (hl : l.length ≤ 4000000) :
    Calls Tryz.prog 170 #[.agg #[a, b], v, .int .i64 id] w fun e w' => e = .returned (.bool (Sr.phraseF x l id)) ∧ Below w.heap.size w w' := by
  obtain ⟨A0, c0, rfl, _, _⟩ := h0.form
  obtain ⟨A1, c1, rfl, _, _⟩ := h1.form
  obtain ⟨Al, cl, rfl, hlc, hcm⟩ := hv.form
  obtain ⟨bl, ol, rfl, _, _, q0, hly⟩ := hv.strAt hl0
  unfold maxLen at hcm
  obtain ⟨W, g, hW, hg, hs, kb, kL, kI, hal⟩ := box3 w #[.slice A0 x.1.length c0, .slice A1 x.2.length c1] #[.slice (some ⟨bl, ol, none⟩) l.length cl] #[.int .i64 id] 110 59 3
  have hhd : l.headD [] = l[0] := by cases l with | nil => simp at hl0 | cons a r => rfl
  have hph : Sr.phraseF x l id = (Sr.places x l[0] id).any fun a => Sr.rowAt x id a l 0 := by unfold Sr.phraseF; rw [hhd]
  rw [hph]
  obtain ⟨y, hy⟩ : ∃ y, y = l[0] := ⟨_, rfl⟩
  rw [← hy] at q0 hly ⊢
  simp only [Nat.add_zero] at q0
  have hp := fun V (hb : Below W.heap.size W V) => places_ok (.slice A0 x.1.length c0) (.slice A1 x.2.length c1) x y id V (h0.ext (hal.trans (hb.mono hal.size))) (h1.ext (hal.trans (hb.mono hal.size))) hc hly
  have hrg : ∀ n ∈ Sr.places x y id, 0 ≤ n ∧ n ≤ 1000000 := fun n hn => place_range hc hn
  obtain ⟨pl, hpl⟩ : ∃ p, Sr.places x y id = p := ⟨_, rfl⟩
  rw [hpl] at hp hrg ⊢
  have hcc : ∀ V u, Below W.heap.size W V → SlR intC M0 V u pl → Calls Tryz.prog 212 #[u, .func (.func 213) #[] #[.pointer (some ⟨g + 1, 0, none⟩), .pointer (some ⟨g, 0, none⟩), .pointer (some ⟨g + 1 + 1, 0, none⟩)]] V fun e w' => e = .returned (.bool (pl.any fun a => Sr.rowAt x id a l 0)) ∧ Below V.heap.size V w' := fun V u hb hu =>
    intCont_ok 213 #[.pointer (some ⟨g + 1, 0, none⟩), .pointer (some ⟨g, 0, none⟩), .pointer (some ⟨g + 1 + 1, 0, none⟩)] (fun a => Sr.rowAt x id a l 0) pl u V hu (fun args w => enters_of Tryz.func213 (by kernel_rfl) rfl args w)
      (fun i w1 hi hb1 _ _ => by
        have hb01 := hb.trans (hb1.mono hb.size)
        have hb02 := hal.trans (hb01.mono hal.size)
        have := phrase1_ok g A0 A1 c0 c1 x l (.slice (some ⟨bl, ol, none⟩) l.length cl) id i w1 (h0.ext hb02) (h1.ext hb02) hc (kb.ext hb01) (kL.ext hb01) (kI.ext hb01) (hv.ext hb02) hl (hrg i hi)
        simpa using this)
  obtain ⟨res, hres⟩ : ∃ r, (pl.any fun a => Sr.rowAt x id a l 0) = r := ⟨_, rfl⟩
  simp only [hres] at hcc
  rw [hres]
  have hq0 : W.cell? ⟨bl, ol, none⟩ = some (.string (bs y)) := (hal.cell (World.block_lt_of_cell? w _ q0)).trans q0
  obtain ⟨ll, hll⟩ : ∃ n, l.length = n := ⟨_, rfl⟩
  rw [hll] at kL hW hl0 hlc ⊢
  have hSS : ∀ W', Below W.heap.size W W' → W'.cell? ⟨g, 0, none⟩ = some (.slice A0 x.1.length c0) ∧ W'.cell? ⟨g, 1, none⟩ = some (.slice A1 x.2.length c1) ∧ W'.cell? ⟨g + 1, 0, none⟩ = some (.slice (some ⟨bl, ol, none⟩) ll cl) ∧ W'.cell? ⟨g + 1 + 1, 0, none⟩ = some (.int .i64 id) ∧ W'.cell? ⟨bl, ol, none⟩ = some (.string (bs y)) := fun W' hb => ⟨(kb.ext hb).two.1, (kb.ext hb).two.2.1, (kL.ext hb).one.1, (kI.ext hb).one.1, (hb.cell (World.block_lt_of_cell? W _ hq0)).trans hq0⟩
  have hz0 : (0 : Int) < (ll : Int) := by omega
  have HW := Lib.hid hW; have HS := Lib.hid hSS; have Hp := Lib.hid hp; have Hc := Lib.hid hcc; have Hal := Lib.hid hal
  clear hW hSS hp hcc hal hll hres hpl hrg hy hph hhd h0 h1 hc hv kb kL kI hs q0 hq0
  go_enter Tryz.func170, Tryz.ntmps170
  go_wp2_with fail
  rw [HW.out]
  have hS := HS.out _ (below_drewN' W.heap.size W 1)
  refine wp_region_D (fun W => W.cell? ⟨g, 0, none⟩ = some (.slice A0 x.1.length c0) ∧ W.cell? ⟨g, 1, none⟩ = some (.slice A1 x.2.length c1) ∧ W.cell? ⟨g + 1, 0, none⟩ = some (.slice (some ⟨bl, ol, none⟩) ll cl) ∧ W.cell? ⟨g + 1 + 1, 0, none⟩ = some (.int .i64 id) ∧ W.cell? ⟨bl, ol, none⟩ = some (.string (bs y))) (fun _ => false) (by kernel_rfl) ?_
  change anyD _ _ _ _ _ _ _ _ _ (W.drewN 1)
  have hbV := below_drewN' W.heap.size W 1
  generalize W.drewN 1 = V0 at hS hbV ⊢
  (refine anyD_light (i := 0) (v := ?_) rfl (by kernel_rfl) (by kernel_rfl) (by kernel_rfl) (by kernel_rfl) (by kernel_rfl) (fun _ _ _ h => h) (.inl ⟨by kernel_rfl, fun W9 hW9 => ?_⟩) hS ?_; rotate_left; · (obtain ⟨hw0, hw1, hw2, hw3, hw4⟩ := hW9; go_simp; rfl))
  (refine anyD_light (i := 1) (v := ?_) rfl (by kernel_rfl) (by kernel_rfl) (by kernel_rfl) (by kernel_rfl) (by kernel_rfl) (fun _ _ _ h => h) (.inl ⟨by kernel_rfl, fun W9 hW9 => ?_⟩) hS ?_; rotate_left; · (obtain ⟨hw0, hw1, hw2, hw3, hw4⟩ := hW9; go_simp; rfl))
  (refine anyD_light (i := 2) (v := ?_) rfl (by kernel_rfl) (by kernel_rfl) (by kernel_rfl) (by kernel_rfl) (by kernel_rfl) (fun _ _ _ h => h) (.inl ⟨by kernel_rfl, fun W9 hW9 => ?_⟩) hS ?_; rotate_left; · (obtain ⟨hw0, hw1, hw2, hw3, hw4⟩ := hW9; go_simp; rfl))
  (refine anyD_light (i := 3) (v := ?_) rfl (by kernel_rfl) (by kernel_rfl) (by kernel_rfl) (by kernel_rfl) (by kernel_rfl) (fun _ _ _ h => h) (.inl ⟨by kernel_rfl, fun W9 hW9 => ?_⟩) hS ?_; rotate_left; · (obtain ⟨hw0, hw1, hw2, hw3, hw4⟩ := hW9; go_simp; rfl))
  (refine anyD_light (i := 4) (v := ?_) rfl (by kernel_rfl) (by kernel_rfl) (by kernel_rfl) (by kernel_rfl) (by kernel_rfl) (fun _ _ _ h => h) (.inl ⟨by kernel_rfl, fun W9 hW9 => ?_⟩) hS ?_; rotate_left; · (obtain ⟨hw0, hw1, hw2, hw3, hw4⟩ := hW9; go_simp; rfl))
  (refine anyD_light (i := 6) (v := ?_) rfl (by kernel_rfl) (by kernel_rfl) (by kernel_rfl) (by kernel_rfl) (by kernel_rfl) (fun _ _ _ h => h) (.inl ⟨by kernel_rfl, fun W9 hW9 => ?_⟩) hS ?_; rotate_left; · (obtain ⟨hw0, hw1, hw2, hw3, hw4⟩ := hW9; go_simp; rfl))
  go_simp
  go_simp
  refine anyD_one (i := 5) (by kernel_rfl) rfl rfl (fun K hK => ?_)
  have HK := Lib.hid hK
  clear hK
  unfold Oper.wp
  go_simp
  refine ((Hp.out V0 hbV)).mono ?_
  rintro e w1 ⟨v, rfl, hv, hb1⟩
  obtain ⟨A2, c2, rfl, _, _⟩ := hv.form
  replace hbV := hbV.trans (hb1.mono hbV.size)
  have Hv := Lib.hid hv
  clear hb1 hS hv
  have hS := HS.out _ hbV
  refine HK.out _ _ (fun _ => hS) ?_
  clear HK
  go_simp
  refine anyD_one (i := 7) (by kernel_rfl) rfl rfl (fun K hK => ?_)
  have HK := Lib.hid hK
  clear hK
  have hcc := Hc.out w1 _ hbV Hv.out
  have Hcc := Lib.hid hcc
  clear hcc
  unfold Oper.wp
  go_simp
  refine (Hcc.out).mono ?_
  rintro e w2 ⟨rfl, hb2⟩
  replace hbV := hbV.trans (hb2.mono hbV.size)
  clear hb2 hS Hcc
  have hS := HS.out _ hbV
  refine HK.out _ _ (fun _ => hS) ?_
  clear HK
  (refine anyD_light (i := 8) (v := ?_) rfl (by kernel_rfl) (by kernel_rfl) (by kernel_rfl) (by kernel_rfl) (by kernel_rfl) (fun _ _ _ h => h) (.inl ⟨by kernel_rfl, fun W9 hW9 => ?_⟩) hS ?_; rotate_left; · (obtain ⟨hw0, hw1, hw2, hw3, hw4⟩ := hW9; go_simp; rfl))
  go_simp
  refine anyD_done (by kernel_rfl) ?_ _
  clear hS
  go_wp2
  go_ret
  exact ⟨rfl, Hal.out.trans (hbV.mono Hal.out.size)⟩
end Go.Proofs.YtfjpedgddgbelaaGreatDoor
namespace Go.Proofs.YtfjpedgddgbelaaGreatDoor
set_option linter.unusedVariables false
namespace Sr
open Q
theorem prefix_iff {x : Ix.Idx} (h : Ix.Wf x.2) (s : Str) (id : Int) : prefixF x s id = true ↔ ∃ w, s.isPrefixOf w = true ∧ Ix.cont x.2 w id ≠ [] := by
  unfold prefixF
  rw [List.any_eq_true]
  constructor
  · rintro ⟨t, ht, hb⟩
    rw [Bool.and_eq_true, List.any_eq_true] at hb
    obtain ⟨h1, p, hp, h2⟩ := hb
    have e : p.1 = id := by simpa using h2
    refine ⟨t.1, h1, ?_⟩
    rw [← e, Ix.cont_mem h ht hp]
    exact (h.2 t ht).2.2 p hp
  · rintro ⟨w, h1, h2⟩
    obtain ⟨t, ht, rfl, p, hp, e, _⟩ := Ix.mem_cont h2
    refine ⟨t, ht, ?_⟩
    rw [Bool.and_eq_true, List.any_eq_true]
    exact ⟨h1, p, hp, by simpa using e⟩
/-- a query finds alike where the places are alike -/
theorem finds_same {x y : Ix.Idx} (hx : Ix.Wf x.2) (hy : Ix.Wf y.2) {id : Int} (h : ∀ w, Ix.cont x.2 w id = Ix.cont y.2 w id) : ∀ (f : Nat) (q : Q), findsF f x q id = findsF f y q id
  | 0, _ => rfl
  | f + 1, q => by
    have hp : ∀ w, places x w id = places y w id := fun w => h _
    have hpre : prefixF x q.text id = prefixF y q.text id := by
      have : prefixF x q.text id = true ↔ prefixF y q.text id = true := by
        rw [prefix_iff hx, prefix_iff hy]
        simp only [h]
      exact Bool.eq_iff_iff.2 this
    have hrow : ∀ (l : List Str) (a k : Int), rowAt x id a l k = rowAt y id a l k := by
      intro l
      induction l with
      | nil => intro a k; rfl
      | cons w l ih => intro a k; rw [rowAt, rowAt, hp, ih]
    have hph : phraseF x (splitS q.text) id = phraseF y (splitS q.text) id := by
      unfold phraseF
      rw [hp]
      exact any_same fun a _ => hrow _ _ _
    have hne : ∀ a b, nearF x a b q.num id = nearF y a b q.num id := fun a b => by unfold nearF; rw [hp, hp]
    have hr := fun p => finds_same hx hy h f p
    rw [findsF, findsF, hp, hpre, hph, hne]
    simp only [hr]
/-- the logic -/
theorem found_mem {x : Ix.Idx} {q : Q} {id : Int} (h : id ∈ x.1) : (foundF x q).contains id = findsF 8 x q id := by
  unfold foundF
  rw [Bool.eq_iff_iff, List.contains_iff_mem, List.mem_filter]
  simp [h]
theorem part_fits {q p : Q} (h : (fault q).1 = 0) (hp : p ∈ q.parts) (h' : (fault p).1 = 0) (x : Ix.Idx) (id : Int) : findsF 7 x p id = findsF 8 x p id := by
  have hf : Fits 7 p := (fault_zero.1 h).1 p hp
  have hne := notempty h'
  exact (findsF_fits x id hf (hne p (pre_self (fault_zero.1 h').1)) fun r hr => hne r (by rw [pre_fits hf]; exact hr)).symm
theorem obeys {x : Ix.Idx} {p q : Q} (hp : (fault p).1 = 0) (hq : (fault q).1 = 0) (h1 : (fault (.node 8 [] 0 [p])).1 = 0) (h2 : (fault (.node 6 [] 0 [p, q])).1 = 0) (h3 : (fault (.node 7 [] 0 [p, q])).1 = 0) (id : Int) :
    findsF 8 x (.node 8 [] 0 [p]) id = !findsF 8 x p id ∧ findsF 8 x (.node 6 [] 0 [p, q]) id = (findsF 8 x p id && findsF 8 x q id) ∧ findsF 8 x (.node 7 [] 0 [p, q]) id = (findsF 8 x p id || findsF 8 x q id) := by
  have a1 := part_fits h1 (p := p) (by simp) hp x id
  have a2 := part_fits h2 (p := p) (by simp) hp x id
  have a3 := part_fits h2 (p := q) (by simp) hq x id
  refine ⟨?_, ?_, ?_⟩
  · rw [show (8 : Nat) = 7 + 1 from rfl, findsF]
    simp [a1]
  · rw [show (8 : Nat) = 7 + 1 from rfl, findsF]
    simp [a2, a3]
  · rw [show (8 : Nat) = 7 + 1 from rfl, findsF]
    simp [a2, a3]
/-- other texts -/
theorem others {x : Ix.Idx} (h : Ix.Canon x) {id i : Int} (hi : i ≠ id) (s : List Str) (hc : Ix.Canon (Ix.addF x id s)) (q : Q) : findsF 8 (Ix.addF x id s) q i = findsF 8 x q i :=
  finds_same hc.wf h.wf (fun w => by
    show Ix.cont (Ix.putAll id s 0 x.2) w i = _
    rw [Ix.cont_putAll id s 0 h.wf, if_neg hi]) 8 q
theorem others_len {x : Ix.Idx} (h : Ix.Canon x) {id : Int} (hid : id ∉ x.1) (s : List Str) (hc : Ix.Canon (Ix.addF x id s)) (q : Q) : (foundF (Ix.addF x id s) q).length ≤ (foundF x q).length + 1 := by
  unfold foundF
  have hs : ∀ l : List Int, (∀ i ∈ l, i ≠ id) → l.filter (fun i => findsF 8 (Ix.addF x id s) q i) = l.filter (fun i => findsF 8 x q i) := fun l hl => List.filter_congr fun i hi => others h (hl i hi) s hc q
  show ((Ix.insId x.1 id).filter _).length ≤ _
  have e := Ix.filter_parts hid h.ids
  have e2 := congrArg (fun l => (l.filter fun i => findsF 8 x q i).length) e
  unfold Ix.insId
  simp only [List.filter_append, List.length_append, List.filter_cons] at e2 ⊢
  rw [hs _ (fun i hi => by have := (List.mem_filter.1 hi).2; intro e; subst e; simp at this), hs _ (fun i hi => by have := (List.mem_filter.1 hi).2; intro e; subst e; simp at this)]
  split
  · rw [List.length_cons]; omega
  · omega
end Sr
end Go.Proofs.YtfjpedgddgbelaaGreatDoor
namespace Go.Proofs.YtfjpedgddgbelaaGreatDoor
set_option linter.unusedVariables false
namespace Sr
open Q
/-- a list with a word at a place -/
def padded (l : List Str) (n : Nat) : List Str := l ++ List.replicate (n + 1 - l.length) []
def placedF (l : List Str) (n : Nat) (v : Str) : List Str :=
  if 5000 < n then l else (padded l n).set n ((if (padded l n).getD n [] = [] then [] else (padded l n).getD n [] ++ [32]) ++ v)
def placesF (l : List Str) (v : Str) (ns : List Int) : List Str := ns.foldl (fun l n => placedF l n.toNat v) l
def docP (id : Int) (v : Str) (l : List Str) (ps : List Ix.Post) : List Str := ps.foldl (fun l p => if p.1 = id then placesF l v p.2 else l) l
def docT (id : Int) (l : List Str) (ts : List Ix.Term) : List Str := ts.foldl (fun l t => docP id t.1 l t.2) l
def docF (x : Ix.Idx) (id : Int) : List Str := docT id [] x.2
/-- a word is at a place -/
def Has (l : List Str) (i : Nat) (w : Str) : Prop := ∃ h : i < l.length, w ∈ splitS l[i]
def standsF (l : List Str) (i : Nat) (w : Str) : Bool := decide (i < l.length) && (splitS (l.getD i [])).contains w
theorem stands_iff (l : List Str) (i : Nat) (w : Str) : standsF l i w = true ↔ Has l i w := by
  unfold standsF Has
  rw [Bool.and_eq_true, decide_eq_true_eq, List.contains_iff_mem]
  constructor
  · rintro ⟨h1, h2⟩; rw [Ix.getD_get h1] at h2; exact ⟨h1, h2⟩
  · rintro ⟨h1, h2⟩; refine ⟨h1, ?_⟩; rw [Ix.getD_get h1]; exact h2
theorem padded_len (l : List Str) (n : Nat) : (padded l n).length = max l.length (n + 1) := by
  unfold padded; rw [List.length_append, List.length_replicate]; omega
theorem padded_has (l : List Str) (n : Nat) {i : Nat} {w : Str} (hw : w ≠ []) : Has (padded l n) i w ↔ Has l i w := by
  unfold padded
  constructor
  · rintro ⟨h, hm⟩
    by_cases hi : i < l.length
    · rw [List.getElem_append_left hi] at hm; exact ⟨hi, hm⟩
    · rw [List.getElem_append_right (by omega), List.getElem_replicate] at hm
      simp [splitS] at hm
      exact absurd hm hw
  · rintro ⟨h, hm⟩
    refine ⟨by rw [List.length_append]; omega, ?_⟩
    rw [List.getElem_append_left h]; exact hm
theorem placed_has {l : List Str} {n : Nat} {v : Str} (hn : n ≤ 5000) (hv : v ≠ []) (hs : (32 : UInt8) ∉ v) {i : Nat} {w : Str} (hw : w ≠ []) : Has (placedF l n v) i w ↔ Has l i w ∨ (i = n ∧ w = v) := by
  have hl := padded_len l n
  have hnl : n < (padded l n).length := by omega
  rw [← padded_has l n hw]
  unfold placedF
  rw [if_neg (by omega)]
  by_cases hi : i = n
  · subst hi
    constructor
    · rintro ⟨h, hm⟩
      rw [List.getElem_set_self] at hm
      split at hm
      · rename_i he
        rw [List.nil_append, splitS_no v hs] at hm
        exact .inr ⟨rfl, by simpa using hm⟩
      · rw [List.append_assoc, List.singleton_append, splitS_append, splitS_no v hs, List.mem_append] at hm
        rcases hm with hm | hm
        · rw [Ix.getD_get hnl] at hm; exact .inl ⟨hnl, hm⟩
        · exact .inr ⟨rfl, by simpa using hm⟩
    · intro h
      refine ⟨by rw [List.length_set]; exact hnl, ?_⟩
      rw [List.getElem_set_self]
      split
      · rename_i he
        rw [Ix.getD_get hnl] at he
        rw [List.nil_append, splitS_no v hs]
        rcases h with ⟨_, hm⟩ | ⟨_, rfl⟩
        · rw [he] at hm; simp [splitS] at hm; exact absurd hm hw
        · simp
      · rw [List.append_assoc, List.singleton_append, splitS_append, splitS_no v hs, List.mem_append, Ix.getD_get hnl]
        rcases h with ⟨_, hm⟩ | ⟨_, rfl⟩
        · exact .inl hm
        · exact .inr (by simp)
  · constructor
    · rintro ⟨h, hm⟩
      rw [List.length_set] at h
      rw [List.getElem_set_ne (fun e => hi e.symm)] at hm
      exact .inl ⟨h, hm⟩
    · rintro (⟨h, hm⟩ | ⟨e, _⟩)
      · refine ⟨by rw [List.length_set]; exact h, ?_⟩
        rw [List.getElem_set_ne (fun e => hi e.symm)]; exact hm
      · exact absurd e hi
theorem places_has {v : Str} (hv : v ≠ []) (hs : (32 : UInt8) ∉ v) {i : Nat} {w : Str} (hw : w ≠ []) : ∀ (ns : List Int) (l : List Str), (∀ n ∈ ns, n ≤ 5000) → (Has (placesF l v ns) i w ↔ Has l i w ∨ ∃ n ∈ ns, i = n.toNat ∧ w = v)
  | [], l, _ => by unfold placesF; simp
  | n :: ns, l, h => by
    have ih := places_has (i := i) hv hs hw ns (placedF l n.toNat v) fun m hm => h m (.tail _ hm)
    have h0 := h n (.head _)
    unfold placesF at ih ⊢
    rw [List.foldl_cons, ih, placed_has (by omega) hv hs hw]
    constructor
    · rintro ((h | h) | ⟨m, hm, h⟩)
      · exact .inl h
      · exact .inr ⟨n, .head _, h⟩
      · exact .inr ⟨m, .tail _ hm, h⟩
    · rintro (g | ⟨m, hm, g⟩)
      · exact .inl (.inl g)
      · rcases List.mem_cons.1 hm with rfl | hm
        · exact .inl (.inr g)
        · exact .inr ⟨m, hm, g⟩
theorem docP_has {id : Int} {v : Str} (hv : v ≠ []) (hs : (32 : UInt8) ∉ v) {i : Nat} {w : Str} (hw : w ≠ []) : ∀ (ps : List Ix.Post) (l : List Str), (∀ p ∈ ps, ∀ n ∈ p.2, n ≤ 5000) → (Has (docP id v l ps) i w ↔ Has l i w ∨ ∃ p ∈ ps, p.1 = id ∧ ∃ n ∈ p.2, i = n.toNat ∧ w = v)
  | [], l, _ => by unfold docP; simp
  | p :: ps, l, h => by
    have ih := docP_has (id := id) (i := i) hv hs hw ps (if p.1 = id then placesF l v p.2 else l) fun m hm => h m (.tail _ hm)
    have h0 := h p (.head _)
    unfold docP at ih ⊢
    rw [List.foldl_cons, ih]
    by_cases e : p.1 = id
    · rw [if_pos e, places_has hv hs hw _ _ h0]
      constructor
      · rintro ((h | h) | ⟨m, hm, h⟩)
        · exact .inl h
        · exact .inr ⟨p, .head _, e, h⟩
        · exact .inr ⟨m, .tail _ hm, h⟩
      · rintro (g | ⟨m, hm, h1, g⟩)
        · exact .inl (.inl g)
        · rcases List.mem_cons.1 hm with rfl | hm
          · exact .inl (.inr g)
          · exact .inr ⟨m, hm, h1, g⟩
    · rw [if_neg e]
      constructor
      · rintro (h | ⟨m, hm, h⟩)
        · exact .inl h
        · exact .inr ⟨m, .tail _ hm, h⟩
      · rintro (h | ⟨m, hm, h1, h⟩)
        · exact .inl h
        · rcases List.mem_cons.1 hm with rfl | hm
          · exact absurd h1 e
          · exact .inr ⟨m, hm, h1, h⟩
theorem docT_has {id : Int} {i : Nat} {w : Str} (hw : w ≠ []) : ∀ (ts : List Ix.Term) (l : List Str), (∀ t ∈ ts, t.1 ≠ [] ∧ (32 : UInt8) ∉ t.1 ∧ ∀ p ∈ t.2, ∀ n ∈ p.2, n ≤ 5000) → (Has (docT id l ts) i w ↔ Has l i w ∨ ∃ t ∈ ts, ∃ p ∈ t.2, p.1 = id ∧ ∃ n ∈ p.2, i = n.toNat ∧ w = t.1)
  | [], l, _ => by unfold docT; simp
  | t :: ts, l, h => by
    have ih := docT_has (id := id) (i := i) hw ts (docP id t.1 l t.2) fun m hm => h m (.tail _ hm)
    obtain ⟨h0, h1, h2⟩ := h t (.head _)
    unfold docT at ih ⊢
    rw [List.foldl_cons, ih, docP_has h0 h1 hw _ _ h2]
    constructor
    · rintro ((h | h) | ⟨m, hm, h⟩)
      · exact .inl h
      · exact .inr ⟨t, .head _, h⟩
      · exact .inr ⟨m, .tail _ hm, h⟩
    · rintro (g | ⟨m, hm, g⟩)
      · exact .inl (.inl g)
      · rcases List.mem_cons.1 hm with rfl | hm
        · exact .inl (.inr g)
        · exact .inr ⟨m, hm, g⟩
/-- the places of an index are small and its words contain no spaces -/
def plainP (p : Ix.Post) : Bool := !(decide (0 < p.2.length) && decide (5000 < p.2.getD (p.2.length - 1) 0))
def plainF (x : Ix.Idx) : Bool := x.2.all fun t => !decide (1 < (splitS t.1).length) && t.2.all plainP
theorem last_max {l : List Int} (h : l.Pairwise (· < ·)) {m : Int} (hl : 0 < l.length → l.getD (l.length - 1) 0 ≤ m) : ∀ n ∈ l, n ≤ m := fun n hn => by
  obtain ⟨i, hi, rfl⟩ := List.mem_iff_getElem.1 hn
  have h1 := hl (by omega)
  rw [Ix.getD_get (by omega)] at h1
  by_cases e : i = l.length - 1
  · subst e; exact h1
  · have := List.pairwise_iff_getElem.1 h i (l.length - 1) hi (by omega) (by omega); omega
theorem plain_terms {x : Ix.Idx} (hc : Ix.Canon x) (h : plainF x = true) : ∀ t ∈ x.2, t.1 ≠ [] ∧ (32 : UInt8) ∉ t.1 ∧ ∀ p ∈ t.2, ∀ n ∈ p.2, n ≤ 5000 := fun t ht => by
  have h1 := List.all_eq_true.1 h t ht
  rw [Bool.and_eq_true, Bool.not_eq_true', decide_eq_false_iff_not, splitS_len] at h1
  refine ⟨(hc.word t ht).1, fun e => ?_, fun p hp => ?_⟩
  · have := List.count_pos_iff.2 e
    omega
  · have h2 := List.all_eq_true.1 h1.2 p hp
    have h3 := (hc.post t ht).2.2 p hp
    refine last_max h3.2.2.1 fun h0 => ?_
    unfold plainP at h2
    rw [decide_eq_true h0, Bool.true_and, Bool.not_eq_true', decide_eq_false_iff_not] at h2
    omega
/-- a word stands at a place just if the index says so -/
theorem doc_has {x : Ix.Idx} (hc : Ix.Canon x) (h : plainF x = true) {id : Int} {i : Nat} {w : Str} (hw : w ≠ []) : Has (docF x id) i w ↔ (i : Int) ∈ Ix.cont x.2 w id := by
  unfold docF
  rw [docT_has hw x.2 [] (plain_terms hc h)]
  constructor
  · rintro (⟨h, _⟩ | ⟨t, ht, p, hp, rfl, n, hn, rfl, rfl⟩)
    · exact absurd h (Nat.not_lt_zero _)
    · rw [Ix.cont_mem hc.wf ht hp]
      have := ((hc.post t ht).2.2 p hp).2.2.2 n hn
      rw [Int.toNat_of_nonneg this.1]; exact hn
  · intro hm
    obtain ⟨t, ht, rfl, p, hp, rfl, e⟩ := Ix.mem_cont (List.ne_nil_of_mem hm)
    rw [Ix.cont_mem hc.wf ht hp] at hm
    exact .inr ⟨t, ht, p, hp, rfl, _, hm, by simp, rfl⟩
theorem stands_eq {x : Ix.Idx} (hc : Ix.Canon x) (h : plainF x = true) {id : Int} {i : Nat} {w : Str} (hw : w ≠ []) : standsF (docF x id) i w = (Ix.cont x.2 w id).contains (i : Int) := by
  rw [Bool.eq_iff_iff, stands_iff, List.contains_iff_mem]
  exact doc_has hc h hw
/-! ### what a query matches -/
def rowM (l : List Str) (i : Nat) (w : List Str) : Bool := (List.range w.length).all fun k => standsF l (i + k) (Sm.stem (w.getD k []))
def nearM (l : List Str) (a b : Str) (n : Int) : Bool := (List.range l.length).any fun i => (List.range l.length).any fun k => (!decide (k = i) && (decide (-n ≤ (k : Int) - (i : Int)) && decide ((k : Int) - (i : Int) ≤ n))) && (standsF l i (Sm.stem a) && standsF l k (Sm.stem b))
def prefixM (l : List Str) (s : Str) : Bool := l.any fun y => (splitS y).any fun v => s.isPrefixOf v
def matchesF : Nat → Q → List Str → Bool
  | 0, _, _ => true
  | f + 1, q, l =>
    if q.kind = 6 then decide (q.parts.countP (fun p => matchesF f p l) = q.parts.length)
    else if q.kind = 7 then decide (0 < q.parts.countP (fun p => matchesF f p l))
    else if q.kind = 8 then decide (q.parts.countP (fun p => matchesF f p l) = 0)
    else if q.kind = 1 then true
    else if q.kind = 3 then prefixM l q.text
    else if q.kind = 5 then nearM l ((splitS q.text).headD []) ((splitS q.text).getD 1 []) q.num
    else (List.range l.length).any fun i => rowM l i (splitS q.text)
theorem rowAt_iff (x : Ix.Idx) (id a : Int) : ∀ (l : List Str) (k : Int), rowAt x id a l k = true ↔ ∀ (j : Nat) (h : j < l.length), (a + (k + (j : Int))) ∈ places x l[j] id
  | [], k => by simp [rowAt]
  | w :: l, k => by
    rw [rowAt, Bool.and_eq_true, List.contains_iff_mem, rowAt_iff x id a l (k + 1)]
    constructor
    · rintro ⟨h1, h2⟩ j hj
      cases j with
      | zero => simpa using h1
      | succ j =>
        have := h2 j (by simpa using hj)
        rw [List.getElem_cons_succ]
        rw [show k + ((j + 1 : Nat) : Int) = k + 1 + (j : Int) by omega]
        exact this
    · intro h
      refine ⟨by have := h 0 (by simp); simpa using this, fun j hj => ?_⟩
      have := h (j + 1) (by simpa using hj)
      rw [List.getElem_cons_succ] at this
      rw [show k + 1 + (j : Int) = k + ((j + 1 : Nat) : Int) by omega]
      exact this
theorem word_ne {s : Str} (h : wordOk s = true) : s ≠ [] ∧ Sm.stem s ≠ [] := by
  unfold wordOk at h
  rw [Bool.and_eq_true] at h
  have hne : s ≠ [] := by
    rintro rfl
    have := h.2
    rw [show Sm.words ([] : Str) = [] from rfl] at this
    cases this
  exact ⟨hne, Sm.stem_ne hne⟩
theorem place_nat {x : Ix.Idx} (hc : Ix.Canon x) {w : Str} {id n : Int} (h : n ∈ Ix.cont x.2 w id) : ∃ i : Nat, n = (i : Int) := by
  obtain ⟨t, ht, rfl, p, hp, rfl, e⟩ := Ix.mem_cont (List.ne_nil_of_mem h)
  rw [Ix.cont_mem hc.wf ht hp] at h
  have := ((hc.post t ht).2.2 p hp).2.2.2 n h
  exact ⟨n.toNat, by omega⟩
theorem any_iff_count {α : Type} (p : α → Bool) (l : List α) : l.any p = decide (0 < l.countP p) := by
  rw [Bool.eq_iff_iff, List.any_eq_true, decide_eq_true_eq, List.countP_pos_iff]
theorem all_iff_count {α : Type} (p : α → Bool) (l : List α) : (!(l.any fun a => !p a)) = decide (l.countP p = l.length) := by
  rw [Bool.eq_iff_iff, decide_eq_true_eq, List.countP_eq_length, Bool.not_eq_true', List.any_eq_false]
  simp
theorem phrase_eq {x : Ix.Idx} (hc : Ix.Canon x) (h : plainF x = true) (id : Int) {l : List Str} (hl : l ≠ []) (hw : ∀ w ∈ l, Sm.stem w ≠ []) : phraseF x l id = (List.range (docF x id).length).any fun i => rowM (docF x id) i l := by
  obtain ⟨w0, r, rfl⟩ : ∃ w0 r, l = w0 :: r := by cases l with | nil => exact absurd rfl hl | cons a b => exact ⟨a, b, rfl⟩
  rw [Bool.eq_iff_iff]
  unfold phraseF
  rw [List.any_eq_true, List.any_eq_true]
  have hrow : ∀ i : Nat, rowM (docF x id) i (w0 :: r) = true ↔ rowAt x id (i : Int) (w0 :: r) 0 = true := fun i => by
    rw [rowAt_iff]
    unfold rowM
    rw [List.all_eq_true]
    constructor
    · intro hh j hj
      have := hh j (List.mem_range.2 hj)
      rw [Ix.getD_get hj, stands_eq hc h (hw _ (List.getElem_mem hj)), List.contains_iff_mem] at this
      unfold places
      rw [Int.zero_add]
      simpa using this
    · intro hh j hj
      have hj := List.mem_range.1 hj
      have := hh j hj
      rw [Ix.getD_get hj, stands_eq hc h (hw _ (List.getElem_mem hj)), List.contains_iff_mem]
      unfold places at this
      rw [Int.zero_add] at this
      simpa using this
  constructor
  · rintro ⟨a, ha, hr⟩
    obtain ⟨i, rfl⟩ := place_nat hc ha
    have hs : Has (docF x id) i (Sm.stem w0) := (doc_has hc h (hw _ (.head _))).2 ha
    exact ⟨i, List.mem_range.2 hs.1, (hrow i).2 hr⟩
  · rintro ⟨i, hi, hr⟩
    have h1 := (hrow i).1 hr
    refine ⟨(i : Int), ?_, h1⟩
    have := (rowAt_iff x id (i : Int) (w0 :: r) 0).1 h1 0 (by simp)
    simpa using this
theorem word_eq {x : Ix.Idx} (hc : Ix.Canon x) (h : plainF x = true) (id : Int) {w : Str} (hw : Sm.stem w ≠ []) : decide (0 < (places x w id).length) = (List.range (docF x id).length).any fun i => rowM (docF x id) i [w] := by
  rw [Bool.eq_iff_iff, decide_eq_true_eq, List.any_eq_true]
  have hrow : ∀ i : Nat, rowM (docF x id) i [w] = standsF (docF x id) i (Sm.stem w) := fun i => by
    unfold rowM; simp [List.range_succ]
  constructor
  · intro h0
    obtain ⟨a, ha⟩ := List.exists_mem_of_length_pos h0
    obtain ⟨i, rfl⟩ := place_nat hc ha
    have hs := (doc_has hc h hw).2 ha
    exact ⟨i, List.mem_range.2 hs.1, by rw [hrow]; exact (stands_iff _ _ _).2 hs⟩
  · rintro ⟨i, hi, hr⟩
    rw [hrow] at hr
    exact List.length_pos_of_mem ((doc_has hc h hw).1 ((stands_iff _ _ _).1 hr))
theorem prefix_eq {x : Ix.Idx} (hc : Ix.Canon x) (h : plainF x = true) (id : Int) {s : Str} (hs : s ≠ []) : prefixF x s id = prefixM (docF x id) s := by
  rw [Bool.eq_iff_iff, prefix_iff hc.wf]
  unfold prefixM
  rw [List.any_eq_true]
  constructor
  · rintro ⟨w, h1, h2⟩
    have hw : w ≠ [] := by rintro rfl; rw [List.isPrefixOf_iff_prefix] at h1; exact hs (List.prefix_nil.1 h1)
    obtain ⟨a, ha⟩ := List.exists_mem_of_ne_nil _ h2
    obtain ⟨i, rfl⟩ := place_nat hc ha
    obtain ⟨hi, hm⟩ := (doc_has hc h hw).2 ha
    exact ⟨_, List.getElem_mem hi, List.any_eq_true.2 ⟨w, hm, h1⟩⟩
  · rintro ⟨y, hy, hb⟩
    obtain ⟨w, hm, h1⟩ := List.any_eq_true.1 hb
    obtain ⟨i, hi, rfl⟩ := List.mem_iff_getElem.1 hy
    have hw : w ≠ [] := by rintro rfl; rw [List.isPrefixOf_iff_prefix] at h1; exact hs (List.prefix_nil.1 h1)
    exact ⟨w, h1, List.ne_nil_of_mem ((doc_has hc h hw).1 ⟨hi, hm⟩)⟩
theorem near_eq {x : Ix.Idx} (hc : Ix.Canon x) (h : plainF x = true) (id : Int) {a b : Str} (ha : Sm.stem a ≠ []) (hb : Sm.stem b ≠ []) (n : Int) : nearF x a b n id = nearM (docF x id) a b n := by
  rw [Bool.eq_iff_iff]
  unfold nearF nearM
  simp only [List.any_eq_true, Bool.and_eq_true, Bool.not_eq_true', decide_eq_true_eq, decide_eq_false_iff_not, beq_eq_false_iff_ne, ne_eq]
  constructor
  · rintro ⟨i, hi, k, hk, ⟨h1, h2⟩, h3⟩
    obtain ⟨i, rfl⟩ := place_nat hc hi
    obtain ⟨k, rfl⟩ := place_nat hc hk
    have s1 := (doc_has hc h ha).2 hi
    have s2 := (doc_has hc h hb).2 hk
    exact ⟨i, List.mem_range.2 s1.1, k, List.mem_range.2 s2.1, ⟨by omega, by omega, by omega⟩, (stands_iff _ _ _).2 s1, (stands_iff _ _ _).2 s2⟩
  · rintro ⟨i, hi, k, hk, ⟨h1, h2, h3⟩, s1, s2⟩
    exact ⟨(i : Int), (doc_has hc h ha).1 ((stands_iff _ _ _).1 s1), (k : Int), (doc_has hc h hb).1 ((stands_iff _ _ _).1 s2), ⟨by omega, by omega⟩, by omega⟩
/-- what a node of a valid query is like -/
theorem node_text {q : Q} (h : errOf q = 0) : (1 ≤ q.kind ∧ q.kind ≤ 8) ∧ (q.kind = 2 ∨ q.kind = 3 → splitS q.text = [q.text] ∧ wordOk q.text = true) ∧ (q.kind = 4 → ∀ w ∈ splitS q.text, wordOk w = true) ∧
    (q.kind = 5 → ∃ a b, splitS q.text = [a, b] ∧ wordOk a = true ∧ wordOk b = true) ∧ (q.kind = 8 → ∃ p, q.parts = [p]) := by
  unfold errOf at h
  split at h
  · cases h
  · rename_i h0
    simp only [Bool.or_eq_true, decide_eq_true_eq, not_or, Int.not_lt] at h0
    split at h
    · cases h
    · rename_i h1
      split at h
      · cases h
      · split at h
        · cases h
        · rename_i h2
          refine ⟨h0, fun hk => ?_, fun hk => ?_, fun hk => ?_, fun hk => ?_⟩
          · have hwnt : wants q.kind = 1 := by rcases hk with hk | hk <;> rw [hk] <;> rfl
            rw [hwnt] at h2
            simp only [not_and, not_or, Bool.not_eq_false] at h2
            obtain ⟨g1, g2⟩ := h2 (by decide)
            have g3 : (splitS q.text).length = 1 := by have := g2 (by decide); omega
            have g4 : q.text.count 32 = 0 := by rw [splitS_len] at g3; omega
            have g5 := splitS_no q.text (List.count_eq_zero.1 g4)
            rw [g5] at g1
            exact ⟨g5, by simpa using g1⟩
          · have hwnt : wants q.kind = -1 := by rw [hk]; rfl
            rw [hwnt] at h2
            simp only [not_and, not_or, Bool.not_eq_false] at h2
            exact List.all_eq_true.1 (h2 (by decide)).1
          · have hwnt : wants q.kind = 2 := by rw [hk]; rfl
            rw [hwnt] at h2
            simp only [not_and, not_or, Bool.not_eq_false] at h2
            obtain ⟨g1, g2⟩ := h2 (by decide)
            have g3 : (splitS q.text).length = 2 := by have := g2 (by decide); omega
            match hsp : splitS q.text, g3 with
            | [a, b], _ => rw [hsp] at g1; simp at g1; exact ⟨a, b, rfl, g1⟩
          · rw [hk] at h1
            simp only [not_or, least, most] at h1
            have g3 : q.parts.length = 1 := by
              have a1 := h1.1; have a2 := h1.2.1
              simp at a1 a2; omega
            match hsp : q.parts, g3 with
            | [a], _ => exact ⟨a, rfl⟩
theorem matches_eq {x : Ix.Idx} (hc : Ix.Canon x) (h : plainF x = true) (id : Int) : ∀ (f : Nat) (q : Q), Fits f q → (∀ p ∈ pre f q, errOf p = 0) → matchesF f q (docF x id) = findsF f x q id
  | 0, q, hf, _ => hf.elim
  | f + 1, q, hf, he => by
    have hself : errOf q = 0 := he q (by rw [pre]; exact .head _)
    have ih : ∀ p ∈ q.parts, matchesF f p (docF x id) = findsF f x p id := fun p hp =>
      matches_eq hc h id f p (hf p hp) fun r hr => he r (by rw [pre]; exact .tail _ (List.mem_flatMap.2 ⟨p, hp, hr⟩))
    have hcnt : q.parts.countP (fun p => matchesF f p (docF x id)) = q.parts.countP (fun p => findsF f x p id) := List.countP_congr fun p hp => by rw [ih p hp]
    obtain ⟨⟨k1, k8⟩, t1, t4, t5, t8⟩ := node_text hself
    rw [matchesF, findsF, hcnt]
    by_cases c6 : q.kind = 6
    · rw [c6]; simp only [if_true, show ¬ (6 : Int) = 2 by decide, show ¬ (6 : Int) = 3 by decide, show ¬ (6 : Int) = 4 by decide, show ¬ (6 : Int) = 5 by decide, if_false]
      rw [all_iff_count]
    by_cases c7 : q.kind = 7
    · rw [c7]; simp only [if_true, show ¬ (7 : Int) = 2 by decide, show ¬ (7 : Int) = 3 by decide, show ¬ (7 : Int) = 4 by decide, show ¬ (7 : Int) = 5 by decide, show ¬ (7 : Int) = 6 by decide, if_false]
      rw [any_iff_count]
    by_cases c8 : q.kind = 8
    · obtain ⟨p, hp⟩ := t8 c8
      rw [c8]; simp only [if_true, show ¬ (8 : Int) = 2 by decide, show ¬ (8 : Int) = 3 by decide, show ¬ (8 : Int) = 4 by decide, show ¬ (8 : Int) = 5 by decide, show ¬ (8 : Int) = 6 by decide, show ¬ (8 : Int) = 7 by decide, if_false]
      rw [hp, List.headD_cons]
      cases hb : findsF f x p id <;> simp [hb]
    rw [if_neg c6, if_neg c7, if_neg c8, if_neg c6, if_neg c7, if_neg c8]
    by_cases c2 : q.kind = 2
    · obtain ⟨e1, e2⟩ := t1 (.inl c2)
      rw [c2]; simp only [if_true, show ¬ (2 : Int) = 1 by decide, show ¬ (2 : Int) = 3 by decide, show ¬ (2 : Int) = 5 by decide, if_false]
      rw [e1]
      exact (word_eq hc h id (word_ne e2).2).symm
    by_cases c3 : q.kind = 3
    · obtain ⟨e1, e2⟩ := t1 (.inr c3)
      rw [c3]; simp only [if_true, show ¬ (3 : Int) = 1 by decide, show ¬ (3 : Int) = 2 by decide, if_false]
      exact (prefix_eq hc h id (word_ne e2).1).symm
    by_cases c4 : q.kind = 4
    · have e := t4 c4
      rw [c4]; simp only [if_true, show ¬ (4 : Int) = 1 by decide, show ¬ (4 : Int) = 3 by decide, show ¬ (4 : Int) = 2 by decide, show ¬ (4 : Int) = 5 by decide, if_false]
      exact (phrase_eq hc h id (splitS_ne _) fun w hw => (word_ne (e w hw)).2).symm
    by_cases c5 : q.kind = 5
    · obtain ⟨a, b, e, e1, e2⟩ := t5 c5
      rw [c5]; simp only [if_true, show ¬ (5 : Int) = 1 by decide, show ¬ (5 : Int) = 3 by decide, show ¬ (5 : Int) = 2 by decide, show ¬ (5 : Int) = 4 by decide, if_false]
      rw [e]
      exact (near_eq hc h id (word_ne e1).2 (word_ne e2).2 _).symm
    have c1 : q.kind = 1 := by omega
    rw [c1]; simp
def foundM (x : Ix.Idx) (q : Q) : List Int := x.1.filter fun id => matchesF 8 q (docF x id)
theorem foundM_eq {x : Ix.Idx} (hc : Ix.Canon x) (h : plainF x = true) {q : Q} (hq : (fault q).1 = 0) : foundM x q = foundF x q := by
  have hg := fault_zero.1 hq
  exact List.filter_congr fun id _ => matches_eq hc h id 8 q hg.1 hg.2.2
end Sr
end Go.Proofs.YtfjpedgddgbelaaGreatDoor
