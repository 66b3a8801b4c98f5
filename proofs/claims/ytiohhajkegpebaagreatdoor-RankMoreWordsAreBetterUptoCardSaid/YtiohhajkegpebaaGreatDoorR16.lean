/-
  Contracts and plain facts, one after another: (search.finder).near and phrase; The reference Made: its plain steps, and the states of its walk; The reference insert: a text into a sorted row.
-/
import Derived.Test.YtiohhajkegpebaaGreatDoorR15
import Derived.Test.YtiohhajkegpebaaGreatDoorR14
import Derived.Test.YtiohhajkegpebaaGreatDoorR13
import Derived.Test.YtiohhajkegpebaaGreatDoorR2
import Derived.Test.YtiohhajkegpebaaGreatDoorR10
import Derived.Test.YtiohhajkegpebaaGreatDoorR1
import Derived.Deep.QuietTactic
import Derived.BigQuiet
namespace Go.Proofs.YtiohhajkegpebaaGreatDoor
open Go.RowKit
set_option linter.unusedVariables false
/-- a place's range -/
theorem place_range {x : Ix.Idx} (hc : Ix.Canon x) {word : Str} {id n : Int} (h : n ∈ Sr.places x word id) : 0 ≤ n ∧ n ≤ 1000000 := by
  unfold Sr.places at h
  obtain ⟨t, ht, hw, p, hp, rfl, e⟩ := Ix.mem_cont (List.ne_nil_of_mem h)
  rw [← hw, Ix.cont_mem hc.wf ht hp] at h
  exact ((hc.post t ht).2.2 p hp).2.2.2 n h
set_option maxHeartbeats 2000000 in
theorem near1_ok (gK gM : Nat) (i most : Int) (v : Value) (l : List Int) (w : World) (hK : w.cell? ⟨gK, 0, none⟩ = some v) (hv : SlR intC M0 w v l) (hM : w.cell? ⟨gM, 0, none⟩ = some (.int .i64 most)) (hi : 0 ≤ i ∧ i ≤ 1000000) (hl : ∀ k ∈ l, 0 ≤ k ∧ k ≤ 1000000) :
    Calls Tryz.prog 106 #[.int .i64 i, .pointer (some ⟨gK, 0, none⟩), .pointer (some ⟨gM, 0, none⟩)] w fun e w' => e = .returned (.bool (l.any fun k => (!(k == i) && decide (k - i ≤ most)) && decide (i - k ≤ most))) ∧ Below w.heap.size w w' := by
  obtain ⟨A, c, rfl, _, _⟩ := hv.form
  obtain ⟨W, g, hW, hg, hs, kb, hal⟩ := boxA w #[.int .i64 i] 3
  have hK' : W.cell? ⟨gK, 0, none⟩ = some (.slice A l.length c) := (hal.cell (World.block_lt_of_cell? w _ hK)).trans hK
  have hM' : W.cell? ⟨gM, 0, none⟩ = some (.int .i64 most) := (hal.cell (World.block_lt_of_cell? w _ hM)).trans hM
  have hcont := intCont_ok 107 #[.pointer (some ⟨g, 0, none⟩), .pointer (some ⟨gM, 0, none⟩)] (fun k => (!(k == i) && decide (k - i ≤ most)) && decide (i - k ≤ most)) l _ W (hv.ext hal) (fun args w => enters_of Tryz.func107 (by kernel_rfl) rfl args w)
    (fun k w1 hk hb1 _ _ => by
      have := near11_ok g gM i most k w1 (kb.ext hb1).one.1 ((hb1.cell (World.block_lt_of_cell? W _ hM')).trans hM') hi (hl k hk)
      simpa using this)
  have HW := Lib.hid hW; have Hcont := Lib.hid hcont
  rw [← hW] at hK'
  clear hcont hW hK hM hM' kb hv
  go_enter Tryz.func106, Tryz.ntmps106
  go_wp2_with fail
  rw [HW.out]
  refine Hcont.out.mono ?_
  rintro e w2 ⟨rfl, hb2⟩
  clear hK'
  go_wp2_with fail
  go_ret
  exact ⟨rfl, hal.trans (hb2.mono hal.size)⟩
set_option maxHeartbeats 4000000 in
theorem near_ok (a b : Value) (x : Ix.Idx) (s t : Str) (most id : Int) (w : World) (h0 : SlR intC M0 w a x.1) (h1 : SlR termC M0 w b x.2) (hc : Ix.Canon x) (hs : s.length ≤ maxLen) (ht : t.length ≤ maxLen) :
    Calls Tryz.prog 78 #[.agg #[a, b], .string (bs s), .string (bs t), .int .i64 most, .int .i64 id] w fun e w' => e = .returned (.bool (Sr.nearF x s t most id)) ∧ Below w.heap.size w w' := by
  unfold Sr.nearF
  obtain ⟨A0, c0, rfl, _, _⟩ := h0.form
  obtain ⟨A1, c1, rfl, _, _⟩ := h1.form
  obtain ⟨W, g, hW, hg, hs1, kb, kM, hal⟩ := boxPair w #[.slice A0 x.1.length c0, .slice A1 x.2.length c1] 70 #[.int .i64 most] 3
  have hpl := fun word (hw : word.length ≤ maxLen) V (hb : Below W.heap.size W V) => places_ok (.slice A0 x.1.length c0) (.slice A1 x.2.length c1) x word id V (h0.ext (hal.trans (hb.mono hal.size))) (h1.ext (hal.trans (hb.mono hal.size))) hc hw
  have hps := hpl s hs
  have hpt := hpl t ht W (Below.refl _ _)
  have hrs : ∀ n ∈ Sr.places x s id, 0 ≤ n ∧ n ≤ 1000000 := fun n hn => place_range hc hn
  have hrt : ∀ n ∈ Sr.places x t id, 0 ≤ n ∧ n ≤ 1000000 := fun n hn => place_range hc hn
  obtain ⟨ps, hps'⟩ : ∃ l, Sr.places x s id = l := ⟨_, rfl⟩
  obtain ⟨pt, hpt'⟩ : ∃ l, Sr.places x t id = l := ⟨_, rfl⟩
  rw [hps'] at hps hrs ⊢
  rw [hpt'] at hpt hrt ⊢
  obtain ⟨n0, hn0⟩ : ∃ n, x.1.length = n := ⟨_, rfl⟩
  obtain ⟨n1, hn1⟩ : ∃ n, x.2.length = n := ⟨_, rfl⟩
  rw [hn0, hn1] at hps hpt kb hW ⊢
  obtain ⟨f0, f1, _, _, _⟩ := kb.two
  have HW := Lib.hid hW; have Hps := Lib.hid hps; have Hpt := Lib.hid hpt; have Hal := Lib.hid hal; have Hrs := Lib.hid hrs; have Hrt := Lib.hid hrt
  rw [← hW] at f0 f1
  clear hps hpt hW hpl h0 h1 hal hrs hrt hps' hpt' hn0 hn1
  go_enter Tryz.func78, Tryz.ntmps78
  go_wp2_with fail
  rw [HW.out]
  refine Hpt.out.mono ?_
  rintro e w2 ⟨v, rfl, hv, hb2⟩
  obtain ⟨A2, c2, rfl, _, _⟩ := hv.form
  obtain ⟨V, gk, hV, hgk, hsk, kk, hbk⟩ := boxA w2 #[.slice A2 pt.length c2] 29
  have hbv := hb2.trans (hbk.mono hb2.size)
  obtain ⟨e0, e1, _, _, _⟩ := (kb.ext hbv).two
  have kM2 := kM.ext hbv
  have hvv := hv.ext hbk
  have HV := Lib.hid hV; have Hbv := Lib.hid hbv; have Hvv := Lib.hid hvv
  rw [← hV] at e0 e1
  clear f0 f1 hV hbv hv hvv hb2 hbk
  go_wp2_with fail
  rw [HV.out]
  refine (Hps.out V Hbv.out).mono ?_
  rintro e w3 ⟨v3, rfl, hv3, hb3⟩
  obtain ⟨A3, c3, rfl, _, _⟩ := hv3.form
  have hcont := intCont_ok 106 #[.pointer (some ⟨gk, 0, none⟩), .pointer (some ⟨g + 1, 0, none⟩)] (fun i => pt.any fun k => (!(k == i) && decide (k - i ≤ most)) && decide (i - k ≤ most)) ps _ w3 hv3 (fun args w => enters_of Tryz.func106 (by kernel_rfl) rfl args w)
    (fun i w1 hi hb1 _ _ => by
      have hb31 := hb3.trans (hb1.mono hb3.size)
      have := near1_ok gk (g + 1) i most (.slice A2 pt.length c2) pt w1 (kk.ext hb31).one.1 (Hvv.out.ext hb31) (kM2.ext hb31).one.1 (Hrs.out i hi) Hrt.out
      simpa using this)
  have Hcont := Lib.hid hcont
  clear hcont hv3 e0 e1
  go_wp2_with fail
  refine Hcont.out.mono ?_
  rintro e w4 ⟨rfl, hb4⟩
  go_wp2_with fail
  go_ret
  have h1 := Hbv.out.trans (hb3.mono Hbv.out.size)
  exact ⟨rfl, Hal.out.trans ((h1.trans (hb4.mono h1.size)).mono Hal.out.size)⟩
/-! ### phrase -/
theorem rowAt_step (x : Ix.Idx) (id a : Int) (l : List Str) {k : Nat} (hk : k < l.length) : Sr.rowAt x id a (l.drop k) (k : Int) = ((Sr.places x l[k] id).contains (a + (k : Int)) && Sr.rowAt x id a (l.drop (k + 1)) ((k + 1 : Nat) : Int)) := by
  rw [List.drop_eq_getElem_cons hk, Sr.rowAt]
  have : ((k + 1 : Nat) : Int) = (k : Int) + 1 := by omega
  rw [this]
set_option maxRecDepth 100000 in
set_option maxHeartbeats 4000000 in
theorem phrase1_ok (g : Nat) (A0 A1 : Option Addr) (c0 c1 : Nat) (x : Ix.Idx) (l : List Str) (v : Value) (id at_ : Int) (w : World) (h0 : SlR intC M0 w (.slice A0 x.1.length c0) x.1) (h1 : SlR termC M0 w (.slice A1 x.2.length c1) x.2) (hc : Ix.Canon x)
    (kb : Blk w g 70 #[.slice A0 x.1.length c0, .slice A1 x.2.length c1]) (kL : Blk w (g + 1) 47 #[v]) (kI : Blk w (g + 1 + 1) 3 #[.int .i64 id]) (hv : SlR strC M0 w v l) (hl : l.length ≤ 4000000) (ha : 0 ≤ at_ ∧ at_ ≤ 1000000) :
    Calls Tryz.prog 105 #[.int .i64 at_, .pointer (some ⟨g + 1, 0, none⟩), .pointer (some ⟨g, 0, none⟩), .pointer (some ⟨g + 1 + 1, 0, none⟩)] w fun e w' => e = .returned (.bool (Sr.rowAt x id at_ l 0)) ∧ Below w.heap.size w w' := by
  obtain ⟨A, c, rfl, _, _⟩ := hv.form
  obtain ⟨hlc, hcm⟩ := hv.lenM
  obtain ⟨q0, _, _⟩ := kL.one
  have hpl := fun word (hw : word.length ≤ maxLen) V (hb : Below w.heap.size w V) => places_ok (.slice A0 x.1.length c0) (.slice A1 x.2.length c1) x word id V (h0.ext hb) (h1.ext hb) hc hw
  obtain ⟨n0, hn0⟩ : ∃ n, x.1.length = n := ⟨_, rfl⟩
  obtain ⟨n1, hn1⟩ : ∃ n, x.2.length = n := ⟨_, rfl⟩
  rw [hn0, hn1] at hpl kb
  have Hpl := Lib.hid hpl
  obtain ⟨res, hres⟩ : ∃ r, Sr.rowAt x id at_ l 0 = r := ⟨_, rfl⟩
  rw [hres]
  have Hres := Lib.hid hres
  clear hpl h0 h1 hc hres hn0 hn1
  go_enter Tryz.func105, Tryz.ntmps105
  go_wp2_with fail
  clear q0
  go_loopw [10] (fun i wr => ∃ k : Nat, k ≤ l.length ∧ i = .int .i64 k ∧ Hid (Sr.rowAt x id at_ (l.drop k) (k : Int) = res) ∧ Below w.heap.size w wr) (fun i _ => l.length - (intOf i).toNat)
  case atStart => exact ⟨0, Nat.zero_le _, rfl, Lib.hid Hres.out, Below.refl _ _⟩
  case round =>
    obtain ⟨k, hk, rfl, hro, hb⟩ := hrel
    by_cases hlt : k < l.length
    · have hx1 := hv.ext hb
      obtain ⟨b, off, rfl, _, _, q0, hl1⟩ := hx1.strAt hlt
      have hst := rowAt_step x id at_ l hlt
      obtain ⟨y, hy⟩ : ∃ y, y = l[k] := ⟨_, rfl⟩
      rw [← hy] at q0 hl1 hst
      have hcall := Hpl.out y hl1 wr hb
      obtain ⟨f0, f1, _, _, _⟩ := (kb.ext hb).two
      obtain ⟨i0, _, _⟩ := (kI.ext hb).one
      obtain ⟨pl, hpl'⟩ : ∃ p, Sr.places x y id = p := ⟨_, rfl⟩
      rw [hpl'] at hcall hst
      have hwr : IntKind.i64.wrap (at_ + (k : Int)) = at_ + (k : Int) := IntWalk.i64_in _ (by omega)
      have Hcall := Lib.hid hcall; have Hst := Lib.hid hst; have Hb := Lib.hid hb
      clear hcall hst hy hpl' hx1 hb
      go_wp2_with fail
      refine Hcall.out.mono ?_
      rintro e w2 ⟨v2, rfl, hv2, hb2⟩
      have hb02 := Hb.out.trans (hb2.mono Hb.out.size)
      have hct := contInt_ok pl v2 (at_ + (k : Int)) w2 hv2
      obtain ⟨A2, c2, rfl, _, _⟩ := hv2.form
      obtain ⟨t, htt⟩ : ∃ t, pl.contains (at_ + (k : Int)) = t := ⟨_, rfl⟩
      rw [htt] at hct
      rw [htt] at Hst
      have Hct := Lib.hid hct
      clear hct htt hv2 f0 f1 i0 q0 hl1
      go_wp2_with fail
      refine Hct.out.mono ?_
      rintro e w3 ⟨rfl, rfl⟩
      cases t with
      | true =>
        go_wp2_with fail
        go_roundw
        case rel => exact ⟨k + 1, by omega, by go_num, Lib.hid (by rw [← hro.out, Hst.out, Bool.true_and]), hb02⟩
        case measure => simp [intOf]; omega
      | false =>
        have hr0 : res = false := by rw [← hro.out, Hst.out]; rfl
        subst hr0
        go_wp2_with fail
        go_ret
        exact ⟨rfl, hb02⟩
    · obtain rfl : k = l.length := by omega
      have hr0 : res = true := by
        have := hro.out
        rw [List.drop_length] at this
        rw [← this]; rfl
      subst hr0
      go_wp2_with fail
      go_ret
      exact ⟨rfl, hb⟩
set_option maxRecDepth 100000 in
set_option maxHeartbeats 4000000 in
theorem phrase_ok (a b v : Value) (x : Ix.Idx) (l : List Str) (id : Int) (w : World) (h0 : SlR intC M0 w a x.1) (h1 : SlR termC M0 w b x.2) (hc : Ix.Canon x) (hv : SlR strC M0 w v l) (hl0 : 0 < l.length) (hl : l.length ≤ 4000000) :
    Calls Tryz.prog 77 #[.agg #[a, b], v, .int .i64 id] w fun e w' => e = .returned (.bool (Sr.phraseF x l id)) ∧ Below w.heap.size w w' := by
  obtain ⟨A0, c0, rfl, _, _⟩ := h0.form
  obtain ⟨A1, c1, rfl, _, _⟩ := h1.form
  obtain ⟨Al, cl, rfl, hlc, hcm⟩ := hv.form
  obtain ⟨bl, ol, rfl, _, _, q0, hly⟩ := hv.strAt hl0
  unfold maxLen at hcm
  obtain ⟨W, g, hW, hg, hs, kb, kL, kI, hal⟩ := box3 w #[.slice A0 x.1.length c0, .slice A1 x.2.length c1] #[.slice (some ⟨bl, ol, none⟩) l.length cl] #[.int .i64 id] 70 47 3
  have hhd : l.headD [] = l[0] := by cases l with | nil => simp at hl0 | cons a r => rfl
  have hph : Sr.phraseF x l id = (Sr.places x l[0] id).any fun a => Sr.rowAt x id a l 0 := by unfold Sr.phraseF; rw [hhd]
  rw [hph]
  obtain ⟨y, hy⟩ : ∃ y, y = l[0] := ⟨_, rfl⟩
  rw [← hy] at q0 hly ⊢
  simp only [Nat.add_zero] at q0
  have hp := fun V (hb : Below W.heap.size W V) => places_ok (.slice A0 x.1.length c0) (.slice A1 x.2.length c1) x y id V (h0.ext (hal.trans (hb.mono hal.size))) (h1.ext (hal.trans (hb.mono hal.size))) hc hly
  have hrg : ∀ n ∈ Sr.places x y id, 0 ≤ n ∧ n ≤ 1000000 := fun n hn => place_range hc hn
  obtain ⟨pl, hpl⟩ : ∃ p, Sr.places x y id = p := ⟨_, rfl⟩
  rw [hpl] at hp hrg ⊢
  have hcc : ∀ V u, Below W.heap.size W V → SlR intC M0 V u pl → Calls Tryz.prog 104 #[u, .func (.func 105) #[] #[.pointer (some ⟨g + 1, 0, none⟩), .pointer (some ⟨g, 0, none⟩), .pointer (some ⟨g + 1 + 1, 0, none⟩)]] V fun e w' => e = .returned (.bool (pl.any fun a => Sr.rowAt x id a l 0)) ∧ Below V.heap.size V w' := fun V u hb hu =>
    intCont_ok 105 #[.pointer (some ⟨g + 1, 0, none⟩), .pointer (some ⟨g, 0, none⟩), .pointer (some ⟨g + 1 + 1, 0, none⟩)] (fun a => Sr.rowAt x id a l 0) pl u V hu (fun args w => enters_of Tryz.func105 (by kernel_rfl) rfl args w)
      (fun i w1 hi hb1 _ _ => by
        have hb01 := hb.trans (hb1.mono hb.size)
        have hb02 := hal.trans (hb01.mono hal.size)
        have := phrase1_ok g A0 A1 c0 c1 x l (.slice (some ⟨bl, ol, none⟩) l.length cl) id i w1 (h0.ext hb02) (h1.ext hb02) hc (kb.ext hb01) (kL.ext hb01) (kI.ext hb01) (hv.ext hb02) hl (hrg i hi)
        simpa using this)
  obtain ⟨res, hres⟩ : ∃ r, (pl.any fun a => Sr.rowAt x id a l 0) = r := ⟨_, rfl⟩
  simp only [hres] at hcc
  rw [hres]
  have hq0 : W.cell? ⟨bl, ol, none⟩ = some (.string (bs y)) := (hal.cell (World.block_lt_of_cell? w _ q0)).trans q0
  obtain ⟨ll, hll⟩ : ∃ n, l.length = n := ⟨_, rfl⟩
  rw [hll] at kL hW hl0 hlc ⊢
  have hSS : ∀ W', Below W.heap.size W W' → W'.cell? ⟨g, 0, none⟩ = some (.slice A0 x.1.length c0) ∧ W'.cell? ⟨g, 1, none⟩ = some (.slice A1 x.2.length c1) ∧ W'.cell? ⟨g + 1, 0, none⟩ = some (.slice (some ⟨bl, ol, none⟩) ll cl) ∧ W'.cell? ⟨g + 1 + 1, 0, none⟩ = some (.int .i64 id) ∧ W'.cell? ⟨bl, ol, none⟩ = some (.string (bs y)) := fun W' hb => ⟨(kb.ext hb).two.1, (kb.ext hb).two.2.1, (kL.ext hb).one.1, (kI.ext hb).one.1, (hb.cell (World.block_lt_of_cell? W _ hq0)).trans hq0⟩
  have hz0 : (0 : Int) < (ll : Int) := by omega
  have HW := Lib.hid hW; have HS := Lib.hid hSS; have Hp := Lib.hid hp; have Hc := Lib.hid hcc; have Hal := Lib.hid hal
  clear hW hSS hp hcc hal hll hres hpl hrg hy hph hhd h0 h1 hc hv kb kL kI hs q0 hq0
  go_enter Tryz.func77, Tryz.ntmps77
  go_wp2_with fail
  rw [HW.out]
  have hS := HS.out _ (below_drewN' W.heap.size W 1)
  refine wp_region_D (fun W => W.cell? ⟨g, 0, none⟩ = some (.slice A0 x.1.length c0) ∧ W.cell? ⟨g, 1, none⟩ = some (.slice A1 x.2.length c1) ∧ W.cell? ⟨g + 1, 0, none⟩ = some (.slice (some ⟨bl, ol, none⟩) ll cl) ∧ W.cell? ⟨g + 1 + 1, 0, none⟩ = some (.int .i64 id) ∧ W.cell? ⟨bl, ol, none⟩ = some (.string (bs y))) (fun _ => false) (by kernel_rfl) ?_
  change anyD _ _ _ _ _ _ _ _ _ (W.drewN 1)
  have hbV := below_drewN' W.heap.size W 1
  generalize W.drewN 1 = V0 at hS hbV ⊢
  (refine anyD_light (i := 0) (v := ?_) rfl (by kernel_rfl) (by kernel_rfl) (by kernel_rfl) (by kernel_rfl) (by kernel_rfl) (fun _ _ _ h => h) (.inl ⟨by kernel_rfl, fun W9 hW9 => ?_⟩) hS ?_; rotate_left; · (obtain ⟨hw0, hw1, hw2, hw3, hw4⟩ := hW9; go_simp; rfl))
  (refine anyD_light (i := 1) (v := ?_) rfl (by kernel_rfl) (by kernel_rfl) (by kernel_rfl) (by kernel_rfl) (by kernel_rfl) (fun _ _ _ h => h) (.inl ⟨by kernel_rfl, fun W9 hW9 => ?_⟩) hS ?_; rotate_left; · (obtain ⟨hw0, hw1, hw2, hw3, hw4⟩ := hW9; go_simp; rfl))
  (refine anyD_light (i := 2) (v := ?_) rfl (by kernel_rfl) (by kernel_rfl) (by kernel_rfl) (by kernel_rfl) (by kernel_rfl) (fun _ _ _ h => h) (.inl ⟨by kernel_rfl, fun W9 hW9 => ?_⟩) hS ?_; rotate_left; · (obtain ⟨hw0, hw1, hw2, hw3, hw4⟩ := hW9; go_simp; rfl))
  (refine anyD_light (i := 3) (v := ?_) rfl (by kernel_rfl) (by kernel_rfl) (by kernel_rfl) (by kernel_rfl) (by kernel_rfl) (fun _ _ _ h => h) (.inl ⟨by kernel_rfl, fun W9 hW9 => ?_⟩) hS ?_; rotate_left; · (obtain ⟨hw0, hw1, hw2, hw3, hw4⟩ := hW9; go_simp; rfl))
  (refine anyD_light (i := 4) (v := ?_) rfl (by kernel_rfl) (by kernel_rfl) (by kernel_rfl) (by kernel_rfl) (by kernel_rfl) (fun _ _ _ h => h) (.inl ⟨by kernel_rfl, fun W9 hW9 => ?_⟩) hS ?_; rotate_left; · (obtain ⟨hw0, hw1, hw2, hw3, hw4⟩ := hW9; go_simp; rfl))
  (refine anyD_light (i := 6) (v := ?_) rfl (by kernel_rfl) (by kernel_rfl) (by kernel_rfl) (by kernel_rfl) (by kernel_rfl) (fun _ _ _ h => h) (.inl ⟨by kernel_rfl, fun W9 hW9 => ?_⟩) hS ?_; rotate_left; · (obtain ⟨hw0, hw1, hw2, hw3, hw4⟩ := hW9; go_simp; rfl))
  go_simp
  go_simp
  refine anyD_one (i := 5) (by kernel_rfl) rfl rfl (fun K hK => ?_)
  have HK := Lib.hid hK
  clear hK
  unfold Oper.wp
  go_simp
  refine ((Hp.out V0 hbV)).mono ?_
  rintro e w1 ⟨v, rfl, hv, hb1⟩
  obtain ⟨A2, c2, rfl, _, _⟩ := hv.form
  replace hbV := hbV.trans (hb1.mono hbV.size)
  have Hv := Lib.hid hv
  clear hb1 hS hv
  have hS := HS.out _ hbV
  refine HK.out _ _ (fun _ => hS) ?_
  clear HK
  go_simp
  refine anyD_one (i := 7) (by kernel_rfl) rfl rfl (fun K hK => ?_)
  have HK := Lib.hid hK
  clear hK
  have hcc := Hc.out w1 _ hbV Hv.out
  have Hcc := Lib.hid hcc
  clear hcc
  unfold Oper.wp
  go_simp
  refine (Hcc.out).mono ?_
  rintro e w2 ⟨rfl, hb2⟩
  replace hbV := hbV.trans (hb2.mono hbV.size)
  clear hb2 hS Hcc
  have hS := HS.out _ hbV
  refine HK.out _ _ (fun _ => hS) ?_
  clear HK
  (refine anyD_light (i := 8) (v := ?_) rfl (by kernel_rfl) (by kernel_rfl) (by kernel_rfl) (by kernel_rfl) (by kernel_rfl) (fun _ _ _ h => h) (.inl ⟨by kernel_rfl, fun W9 hW9 => ?_⟩) hS ?_; rotate_left; · (obtain ⟨hw0, hw1, hw2, hw3, hw4⟩ := hW9; go_simp; rfl))
  go_simp
  refine anyD_done (by kernel_rfl) ?_ _
  clear hS
  go_wp2
  go_ret
  exact ⟨rfl, Hal.out.trans (hbV.mono Hal.out.size)⟩
end Go.Proofs.YtiohhajkegpebaaGreatDoor
namespace Go.Proofs.YtiohhajkegpebaaGreatDoor
open Go.RowKit
set_option linter.unusedVariables false
namespace Ix
theorem occ_snoc (w a : Str) : ∀ (s : List Str) (n : Nat), occ w (s ++ [a]) n = occ w s n ++ if a = w then [((n + s.length : Nat) : Int)] else []
  | [], n => by
    rw [List.nil_append, occ, occ]
    split <;> simp [occ]
  | b :: s, n => by
    rw [List.cons_append, occ, occ, occ_snoc w a s (n + 1), List.length_cons, show n + 1 + s.length = n + (s.length + 1) by omega]
    split <;> simp
theorem occ_take (w : Str) (s : List Str) {k : Nat} (hk : k < s.length) : occ w (s.take (k + 1)) 0 = occ w (s.take k) 0 ++ if s[k] = w then [(k : Int)] else [] := by
  rw [List.take_succ_eq_append_getElem hk, occ_snoc, List.length_take, Nat.min_eq_left (by omega), Nat.zero_add]
/-- texts as lists of stems -/
def stemsD (docs : List (Int × Str)) : List Doc := docs.map fun d => (d.1, Sm.stems d.2)
theorem stemsD_take (docs : List (Int × Str)) {k : Nat} (hk : k < docs.length) : stemsD (docs.take (k + 1)) = stemsD (docs.take k) ++ [(docs[k].1, Sm.stems docs[k].2)] := by
  unfold stemsD
  rw [List.take_succ_eq_append_getElem hk, List.map_append]
  rfl
theorem postsOf_take (docs : List (Int × Str)) (w : Str) {k : Nat} (hk : k < docs.length) : postsOf (stemsD (docs.take (k + 1))) w = postsOf (stemsD (docs.take k)) w ++ if occ w (Sm.stems docs[k].2) 0 = [] then [] else [(docs[k].1, occ w (Sm.stems docs[k].2) 0)] := by
  unfold postsOf
  rw [stemsD_take docs hk, List.filterMap_append]
  congr 1
  by_cases h : occ w (Sm.stems docs[k].2) 0 = []
  · simp [h]
  · simp [h]
def wordsD (docs : List (Int × Str)) : List Str := wordsOf ((stemsD docs).flatMap fun d => d.2)
theorem wordsD_take (docs : List (Int × Str)) {k : Nat} (hk : k < docs.length) : wordsD (docs.take (k + 1)) = (Sm.stems docs[k].2).foldl putW (wordsD (docs.take k)) := by
  unfold wordsD wordsOf
  rw [stemsD_take docs hk, List.flatMap_append, List.foldl_append]
  simp
theorem putW_len (l : List Str) (s : Str) : (putW l s).length ≤ l.length + 1 := by
  unfold putW
  split
  · omega
  · unfold insW
    have := congrArg List.length (List.takeWhile_append_dropWhile (p := fun a => ltS a s) (l := l))
    rw [List.length_append] at this
    rw [List.length_append, List.length_cons]
    omega
theorem foldW_len : ∀ (ws l : List Str), (ws.foldl putW l).length ≤ l.length + ws.length
  | [], l => Nat.le_refl _
  | w :: ws, l => by
    have := foldW_len ws (putW l w)
    have := putW_len l w
    rw [List.foldl_cons, List.length_cons]
    omega
theorem wordsD_len (docs : List (Int × Str)) (h : ∀ d ∈ docs, d.2.length ≤ 4000) (hn : docs.length ≤ 100) : (wordsD docs).length ≤ 400000 := by
  have h1 := foldW_len ((stemsD docs).flatMap fun d => d.2) []
  have h2 : ∀ l : List (Int × Str), (∀ d ∈ l, d.2.length ≤ 4000) → ((stemsD l).flatMap fun d => d.2).length ≤ 4000 * l.length := by
    intro l
    induction l with
    | nil => intro _; simp [stemsD]
    | cons d l ih =>
      intro h
      have := ih fun d hd => h d (.tail _ hd)
      have := stems_count d.2
      have := h d (.head _)
      unfold stemsD at *
      rw [List.map_cons, List.flatMap_cons, List.length_append, List.length_cons]
      simp only at *
      omega
  have := h2 docs h
  unfold wordsD wordsOf
  simp only [List.length_nil] at h1
  omega
theorem take_all (docs : List (Int × Str)) {k : Nat} (h : k = docs.length) : docs.take k = docs := by rw [h, List.take_length]
/-- the terms of the first words -/
def termsD (docs : List (Int × Str)) (words : List Str) : List Term := words.map fun w => (w, postsOf (stemsD docs) w)
theorem made_eq (docs : List (Int × Str)) : madeF (stemsD docs) = (docs.map fun d => d.1, termsD docs (wordsD docs)) := by
  unfold madeF termsD wordsD
  congr 1
  unfold stemsD
  rw [List.map_map]
  rfl
end Ix
/-! ### the states -/
def docC : Codec (Int × Str) := pairC intC strC
theorem SlR.docAt {M : Nat → Prop} {w : World} {A : Option Addr} {n c : Nat} {l : List (Int × Str)} (h : SlR docC M w (.slice A n c) l) {k : Nat} (hk : k < l.length) :
    ∃ b off, A = some ⟨b, off, none⟩ ∧ b < w.heap.size ∧ w.cell? ⟨b, off + k * 2, none⟩ = some (.int .i64 l[k].1) ∧ w.cell? ⟨b, off + k * 2 + 1, none⟩ = some (.string (bs l[k].2)) ∧ -9223372036854775808 ≤ l[k].1 ∧ l[k].1 ≤ 9223372036854775807 := by
  obtain ⟨b, off, cs, rfl, hM, hb, ⟨c1, d1, rfl, ⟨rfl, hr⟩, ⟨rfl, _⟩⟩, hc⟩ := h.at_ hk
  exact ⟨b, off, rfl, hb, hc 0 _ rfl, hc 1 _ rfl, hr.1, hr.2⟩
/-- the blocks below B are as they were, but for one -/
structure Sav (B g : Nat) (w w' : World) : Prop where
  os : w'.os = w.os
  tape : w'.tape = w.tape
  output : w'.output = w.output
  size : w.heap.size ≤ w'.heap.size
  block : ∀ b, b < B → b ≠ g → w'.heap[b]? = w.heap[b]?
theorem Sav.refl (B g : Nat) (w : World) : Sav B g w w := ⟨rfl, rfl, rfl, Nat.le_refl _, fun _ _ _ => rfl⟩
theorem Sav.below {B g : Nat} {w w' w'' : World} (h : Sav B g w w') (hb : Below B w' w'') : Sav B g w w'' :=
  ⟨hb.os.trans h.os, hb.tape.trans h.tape, hb.output.trans h.output, Nat.le_trans h.size hb.size, fun b h1 h2 => (hb.block b h1).trans (h.block b h1 h2)⟩
theorem Sav.set {B g : Nat} {w w' : World} (h : Sav B g w w') (i : Nat) (u : Value) : Sav B g w (w'.setCell ⟨g, i, none⟩ u) :=
  ⟨h.os, h.tape, h.output, by simpa using h.size, fun b h1 h2 => (heap_set_ne _ _ _ h2).trans (h.block b h1 h2)⟩
theorem Sav.whole {B B0 g : Nat} {w w1 w' : World} (h : Sav B g w1 w') (h0 : Below B0 w w1) (h1 : B0 ≤ B) (h2 : B0 ≤ g) : Below B0 w w' :=
  ⟨h.os.trans h0.os, h.tape.trans h0.tape, h.output.trans h0.output, Nat.le_trans h0.size h.size, fun b hb => (h.block b (by omega) (by omega)).trans (h0.block b hb)⟩
theorem SlR.apart {α : Type} {C : Codec α} {w w' : World} {v : Value} {l : List α} {g : Nat} (h : SlR C (fun b => b ≤ g) w v l) (ha : Sav w.heap.size g w w') : SlR C (fun b => b ≤ g) w' v l :=
  h.keep (fun b h1 h2 => ha.block b h1 (by omega)) ha.size
/-- the words under way -/
structure Mk1 (B g3 : Nat) (vI vW : Value) (ids : List Int) (words : List Str) (w1 wr : World) : Prop where
  kx : Blk wr g3 32 #[vI, .slice none 0 0]
  ownI : Own intC M0 wr B 3 vI ids
  ownW : Own strC M0 wr B 9 vW words
  ne : ∀ b, vW.ownBlock = some b → vI.ownBlock ≠ some b
  apart : Sav B g3 w1 wr
  big : B ≤ wr.heap.size
variable {B g3 : Nat} {vI vW : Value} {ids : List Int} {words : List Str} {w1 wr : World}
theorem Mk1.ext (h : Mk1 B g3 vI vW ids words w1 wr) {w' : World} (hb : Below wr.heap.size wr w') : Mk1 B g3 vI vW ids words w1 w' :=
  ⟨h.kx.ext hb, h.ownI.ext hb, h.ownW.ext hb, h.ne, h.apart.below (hb.mono h.big), Nat.le_trans h.big hb.size⟩
theorem Mk1.word (h : Mk1 B g3 vI vW ids words w1 wr) {w' : World} {vW' : Value} {words' : List Str} (hb : Below wr.heap.size wr w') (ho : Own strC M0 w' wr.heap.size 9 vW' words') : Mk1 B g3 vI vW' ids words' w1 w' :=
  ⟨h.kx.ext hb, h.ownI.ext hb, ho.lower h.big, fun b h1 h2 => by have := ho.base b h1; have := h.ownI.lt b h2; omega, h.apart.below (hb.mono h.big), Nat.le_trans h.big hb.size⟩
theorem Mk1.push (h : Mk1 B g3 vI vW ids words w1 wr) (hg : g3 < B) {V1 V2 W : World} {vI' : Value} {ids' : List Int} (hV : Below wr.heap.size wr V1) (hgr : V1.grownBy V2 vI.ownBlock) (hown : Own intC M0 V2 B 3 vI' ids') (hor : vI'.ownBlock = vI.ownBlock ∨ vI'.ownBlock = some V1.heap.size) (hW : V2.setCell ⟨g3, 0, none⟩ vI' = W) : Mk1 B g3 vI' vW ids' words w1 W := by
  have hs := hV.size
  have same : ∀ b, b < wr.heap.size → vI.ownBlock ≠ some b → V2.heap[b]? = wr.heap[b]? := fun b h1 h2 => (hgr.block b (by omega) fun e => h2 e.symm).trans (hV.block b h1)
  have hbI : ∀ b, vI.ownBlock = some b → B ≤ b := h.ownI.base
  have k3 : Blk V2 g3 32 #[vI, .slice none 0 0] := h.kx.keep (same g3 h.kx.lt fun e => by have := hbI g3 e; omega)
  refine ⟨hW ▸ k3.set_ 0 vI', hown.flatC flatC_int fun b hb => ?_, h.ownW.flatC flatC_str fun b hb => ?_, fun b h1 h2 => ?_, ?_, ?_⟩
  · rw [← hW]; exact heap_set_ne _ _ _ (by have := hown.base b hb; omega)
  · rw [← hW, heap_set_ne _ _ _ (by have := h.ownW.base b hb; omega)]; exact same b (h.ownW.lt b hb) (h.ne b hb)
  · rcases hor with e | e
    · exact h.ne b h1 (e ▸ h2)
    · rw [e] at h2; injection h2 with h2; have := h.ownW.lt b h1; omega
  · rw [← hW]
    have hb2 : Below B wr V2 := ⟨hgr.os.trans hV.os, hgr.tape.trans hV.tape, hgr.output.trans hV.output, Nat.le_trans hs hgr.size, fun b hb => same b (by have := h.big; omega) fun e => by have := hbI b e; omega⟩
    exact (h.apart.below hb2).set 0 vI'
  · rw [← hW]; have := h.big; have := hgr.size; simp; omega
/-- the terms under way -/
structure Mk2 (g3 : Nat) (vI vT : Value) (ts : List Ix.Term) (w2 wr : World) : Prop where
  kx : Blk wr g3 32 #[vI, vT]
  own : Own termC (fun b => b ≤ g3) wr w2.heap.size 54 vT ts
  apart : Sav w2.heap.size g3 w2 wr
variable {vT : Value} {ts : List Ix.Term} {w2 : World}
theorem Mk2.ext (h : Mk2 g3 vI vT ts w2 wr) {w' : World} (hb : Below wr.heap.size wr w') : Mk2 g3 vI vT ts w2 w' :=
  ⟨h.kx.ext hb, h.own.ext hb, h.apart.below (hb.mono h.apart.size)⟩
theorem Mk2.push (h : Mk2 g3 vI vT ts w2 wr) (hg : g3 < w2.heap.size) {V2 W : World} {vT' : Value} {ts' : List Ix.Term} (hb : Below w2.heap.size wr V2) (hgr : wr.grownBy V2 vT.ownBlock) (hown : Own termC (fun b => b ≤ g3) V2 w2.heap.size 54 vT' ts') (hW : V2.setCell ⟨g3, 1, none⟩ vT' = W) : Mk2 g3 vI vT' ts' w2 W := by
  have k3 : Blk V2 g3 32 #[vI, vT] := h.kx.keep (hgr.block g3 h.kx.lt fun e => by have := h.own.base g3 e.symm; omega)
  refine ⟨hW ▸ k3.set_ 1 vT', hown.keep (fun b _ hor => ?_) (by rw [← hW]; simp) (fun b hb (e : b ≤ g3) => by have := hown.base b hb; omega), ?_⟩
  · rw [← hW]
    refine heap_set_ne _ _ _ ?_
    rcases hor with h1 | h1
    · omega
    · have := hown.base b h1; omega
  · rw [← hW]; exact (h.apart.below hb).set 1 vT'
end Go.Proofs.YtiohhajkegpebaaGreatDoor
namespace Go.Proofs.YtiohhajkegpebaaGreatDoor
open Go.RowKit
set_option linter.unusedVariables false
theorem insW_at {l : List Str} {s : Str} {k : Nat} (hk : k ≤ l.length) (h1 : ∀ (j : Nat) (hj : j < l.length), j < k → ltS l[j] s = true) (h2 : ∀ (h : k < l.length), ltS l[k] s = false) : Ix.insW l s = l.take k ++ [s] ++ l.drop k := by
  have ht : l.takeWhile (fun a => ltS a s) = l.take k ∧ l.dropWhile (fun a => ltS a s) = l.drop k := by
    induction l generalizing k with
    | nil => cases k with
      | zero => exact ⟨rfl, rfl⟩
      | succ k => simp at hk
    | cons a l ih =>
      cases k with
      | zero =>
        have := h2 (by simp)
        rw [List.getElem_cons_zero] at this
        simp [this]
      | succ k =>
        have h0 := h1 0 (by simp) (by omega)
        rw [List.getElem_cons_zero] at h0
        have ih := ih (k := k) (by simpa using hk) (fun j hj hjk => by have := h1 (j + 1) (by simpa using hj) (by omega); simpa using this) (fun h => by have := h2 (by simpa using h); simpa using this)
        simp [h0, ih.1, ih.2]
  unfold Ix.insW
  rw [ht.1, ht.2]
  simp
theorem SlR.zeroA {α : Type} (C : Codec α) (M : Nat → Prop) (w : World) (A : Option Addr) (m : Nat) (hm : m ≤ maxLen) : SlR C M w (.slice A 0 m) [] := ⟨A, 0, m, [], rfl, rfl, Nat.zero_le _, hm, Els.nil C M w, fun h => absurd h (by omega)⟩
set_option maxRecDepth 20000 in
set_option maxHeartbeats 4000000 in
theorem refInsert_ok (v : Value) (l : List Str) (s : Str) (w : World) (h : SlR strC M0 w v l) (hn : l.length ≤ 1000000) (hsl : s.length ≤ maxLen) : Calls Tryz.prog 18 #[v, .string (bs s)] w fun e w' => ∃ (A : Option Addr) (c : Nat) (L : List Str), e = .returned (.slice A L.length c) ∧ Hid (L = Ix.insW l s) ∧ Own strC M0 w' w.heap.size 9 (.slice A L.length c) L ∧ Below w.heap.size w w' := by
  obtain ⟨A, c, rfl, hlc, hcm⟩ := h.form
  have hB := h.toMB
  unfold maxLen at hcm
  go_enter Tryz.func18, Tryz.ntmps18
  go_wp2
  go_loopw [5, 6] (fun ov iv wr => ∃ (k : Nat) (A2 : Option Addr) (c2 : Nat) (L : List Str), k ≤ l.length ∧ iv = .int .i64 (k : Int) ∧ ov = .slice A2 L.length c2 ∧ Hid (L = l.take k) ∧ Hid (∀ (j : Nat) (hj : j < l.length), j < k → ltS l[j] s = true) ∧ Own strC M0 wr w.heap.size 9 ov L ∧ Below w.heap.size w wr) (fun _ iv _ => l.length - (intOf iv).toNat)
  case atStart => exact ⟨0, none, 0, [], Nat.zero_le _, rfl, rfl, Lib.hid rfl, Lib.hid fun j _ h => absurd h (by omega), Own.nil _ _ _ _ _, Below.refl _ _⟩
  case round =>
    obtain ⟨k, A2, c2, L, hk, rfl, rfl, hL, hpre, own, hb⟩ := hrel
    have hLl : L.length = k := by rw [hL.out, List.length_take]; omega
    have hkw : IntKind.i64.wrap (k : Int) = (k : Int) := IntWalk.i64_in _ (by omega)
    have hk0 : (0 : Int) ≤ (k : Int) := by omega
    by_cases hlt : k < l.length
    · obtain ⟨b, off, rfl, _, _, p0, _⟩ := (h.ext hb).strAt hlt
      have hki : (k : Int) < (l.length : Int) := by omega
      obtain ⟨x, hx⟩ : ∃ x, x = l[k] := ⟨_, rfl⟩
      rw [← hx] at p0
      have Hx := Lib.hid hx
      clear hx
      by_cases hc : ltS x s = true
      · have hd : Op.bytesLess x s = true := hc
        clear hB
        have hxl : x.length ≤ maxLen := by obtain ⟨_, _, _, _, _, _, hxl⟩ := (h.ext hb).strAt hlt; rw [Hx.out]; exact hxl
        have HLl := Lib.hid hLl
        clear hLl
        have hbs := hb.size
        go_wp2_with (at_builtin; refine wpList_push_Own strC (M := M0) (B := w.heap.size) TStrs rfl (.tmp 19) (.tmp 24) rfl rfl own rfl (cs := [.string (bs x)]) (y := x) ⟨rfl, hxl⟩ (fun _ h => h.elim) ?a1 ?b1 hbs ?_)
        case a1 => have := HLl.out; unfold maxLen; omega
        case b1 => have := HLl.out; omega
        intro A4 c4 L4 w4 hL4 own4 hb4 _ _
        go_wp2
        go_roundw
        case rel => exact ⟨k + 1, A4, c4, L4, by omega, by go_num, rfl, Lib.hid (by rw [hL4.out, hL.out, List.take_succ_eq_append_getElem hlt, ← Hx.out]), Lib.hid (fun j hj hjk => by
          by_cases e : j = k
          · subst e; rw [← Hx.out]; exact hc
          · exact hpre.out j hj (by omega)), own4, hb.trans hb4⟩
        case measure => simp [intOf]; omega
      · replace hc : ltS x s = false := by simpa using hc
        have hd : Op.bytesLess x s = false := hc
        have hins : Ix.insW l s = l.take k ++ [s] ++ l.drop k := insW_at hk hpre.out (fun _ => by rw [← Hx.out]; exact hc)
        have Hins := Lib.hid hins
        have hk1 : (k : Int) ≤ (l.length : Int) := by omega
        have hk2 : (l.length : Int) ≤ (c : Int) := by omega
        have hk3 : (c : Int) ≤ 9223372036854775807 := by omega
        have HLl := Lib.hid hLl; have HB := Lib.hid hB
        clear hins hB hpre hLl
        have hbs := hb.size
        go_wp2_with (at_builtin; refine wpList_push_Own strC (M := M0) (B := w.heap.size) TStrs rfl (.tmp 28) (.tmp 30) rfl rfl own rfl (cs := [.string (bs s)]) (y := s) ⟨rfl, hsl⟩ (fun _ h => h.elim) ?a1 ?b1 hbs ?_)
        case a1 => have := HLl.out; unfold maxLen; omega
        case b1 => have := HLl.out; omega
        intro A4 c4 L4 w4 hL4 own4 hb4 _ _
        have Hb4 := Lib.hid (hb.trans hb4)
        have hL4l : L4.length = k + 1 := by rw [hL4.out, List.length_append, HLl.out]; rfl
        have hcut := (HB.out.ext Hb4.out).cutS (lo := k) (hi := l.length) hk (Nat.le_refl _) (by omega)
        rw [List.take_length, show k * strC.n = k from Nat.mul_one k] at hcut
        have hc4 := hcut.sub (M' := fun b => M0 b ∨ (Value.slice A4 L4.length c4).ownBlock = some b) fun b _ hor => hor.elim (fun h => h.elim) fun h => .inr (own4.base b h)
        have hdl : (l.drop k).length = l.length - k := List.length_drop
        have hs4 := Hb4.out.size
        go_wp2_with (at_builtin; refine wpList_append_Own strC (M := M0) (B := w.heap.size) (l := L4) (l' := l.drop k) TStrs rfl (.tmp 32) (.tmp 35) rfl (v := .slice A4 L4.length c4) rfl own4 rfl hc4 ?c1 ?d1 hs4 ?_)
        case c1 => unfold maxLen; omega
        case d1 => omega
        intro A5 c5 L5 w5 hL5 own5 hb5 _ _
        go_wp2
        go_ret
        exact ⟨A5, c5, L5, rfl, Lib.hid (by rw [hL5.out, hL4.out, hL.out, Hins.out]), own5, Hb4.out.trans hb5⟩
    · skip
      have hins : Ix.insW l s = l.take k ++ [s] ++ l.drop k := insW_at hk hpre.out (fun h => absurd h hlt)
      have Hins := Lib.hid hins
      have hk1 : (k : Int) ≤ (l.length : Int) := by omega
      have hk2 : (l.length : Int) ≤ (c : Int) := by omega
      have hk3 : (c : Int) ≤ 9223372036854775807 := by omega
      have HLl := Lib.hid hLl; have HB := Lib.hid hB
      clear hins hB hpre hLl
      have hbs := hb.size
      go_wp2_with (at_builtin; refine wpList_push_Own strC (M := M0) (B := w.heap.size) TStrs rfl (.tmp 28) (.tmp 30) rfl rfl own rfl (cs := [.string (bs s)]) (y := s) ⟨rfl, hsl⟩ (fun _ h => h.elim) ?a1 ?b1 hbs ?_)
      case a1 => have := HLl.out; unfold maxLen; omega
      case b1 => have := HLl.out; omega
      intro A4 c4 L4 w4 hL4 own4 hb4 _ _
      have Hb4 := Lib.hid (hb.trans hb4)
      have hL4l : L4.length = k + 1 := by rw [hL4.out, List.length_append, HLl.out]; rfl
      have hc4 : ∀ A m, m ≤ maxLen → SlR strC (fun b => M0 b ∨ (Value.slice A4 L4.length c4).ownBlock = some b) w4 (.slice A 0 m) (l.drop k) := fun A m hm => by rw [List.drop_of_length_le (by omega)]; exact SlR.zeroA _ _ _ _ _ hm
      obtain rfl : k = l.length := by omega
      have hfin : l.take l.length ++ [s] ++ l.drop l.length = l.take l.length ++ [s] := by rw [List.drop_length, List.append_nil]
      have Hfin := Lib.hid hfin
      clear hfin
      by_cases hck : c = l.length
      · subst hck
        have hdl : (l.drop l.length).length = l.length - l.length := List.length_drop
        have hs4 := Hb4.out.size
        go_wp2_with (at_builtin; refine wpList_append_Own strC (M := M0) (B := w.heap.size) (l := L4) (l' := l.drop l.length) TStrs rfl (.tmp 32) (.tmp 35) rfl (v := .slice A4 L4.length c4) rfl own4 rfl (hc4 _ _ (by unfold maxLen; omega)) ?c1 ?d1 hs4 ?_)
        case c1 => unfold maxLen; omega
        case d1 => omega
        intro A5 c5 L5 w5 hL5 own5 hb5 _ _
        go_wp2
        go_ret
        exact ⟨A5, c5, L5, rfl, Lib.hid (by rw [hL5.out, hL4.out, hL.out, Hins.out, Hfin.out]), own5, Hb4.out.trans hb5⟩
      · have hdl : (l.drop l.length).length = l.length - l.length := List.length_drop
        have hs4 := Hb4.out.size
        go_wp2_with (at_builtin; refine wpList_append_Own strC (M := M0) (B := w.heap.size) (l := L4) (l' := l.drop l.length) TStrs rfl (.tmp 32) (.tmp 35) rfl (v := .slice A4 L4.length c4) rfl own4 rfl (hc4 _ _ (by unfold maxLen; omega)) ?c1 ?d1 hs4 ?_)
        case c1 => unfold maxLen; omega
        case d1 => omega
        intro A5 c5 L5 w5 hL5 own5 hb5 _ _
        go_wp2
        go_ret
        exact ⟨A5, c5, L5, rfl, Lib.hid (by rw [hL5.out, hL4.out, hL.out, Hins.out, Hfin.out]), own5, Hb4.out.trans hb5⟩
end Go.Proofs.YtiohhajkegpebaaGreatDoor
