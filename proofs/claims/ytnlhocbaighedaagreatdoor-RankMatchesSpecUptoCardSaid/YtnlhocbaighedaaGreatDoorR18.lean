/-
  Contracts and plain facts, one after another: (search.finder).finds; (search.finder).found: the iterator; search.Find; What the form reads is of a size that it can reach: each slice that is read, however deep.
-/
import Derived.Test.YtnlhocbaighedaaGreatDoorR16
import Derived.Test.YtnlhocbaighedaaGreatDoorR17
import Derived.Test.YtnlhocbaighedaaGreatDoorR14
import Derived.SizedLaws
namespace Go.Proofs.YtnlhocbaighedaaGreatDoor
open Go.RowKit
set_option linter.unusedVariables false
set_option maxHeartbeats 2000000 in
theorem part_ok (gF gI : Nat) (a b : Value) (ha : ∃ A n c, a = .slice A n c) (hb' : ∃ A n c, b = .slice A n c) (id k n : Int) (t : Str) (A : Option Addr) (m c : Nat) (r : Bool) (w : World) (kF : Blk w gF 74 #[a, b]) (kI : Blk w gI 3 #[.int .i64 id])
  (hfin : ∀ V, Below w.heap.size w V → Calls Tryz.prog 60 #[.agg #[a, b], .agg #[.int .i64 k, .string (bs t), .int .i64 n, .slice A m c], .int .i64 id] V fun e w' => e = .returned (.bool r) ∧ Below V.heap.size V w') :
  Calls Tryz.prog 78 #[.agg #[.int .i64 k, .string (bs t), .int .i64 n, .slice A m c], .pointer (some ⟨gF, 0, none⟩), .pointer (some ⟨gI, 0, none⟩)] w fun e w' => e = .returned (.bool r) ∧ Below w.heap.size w w' := by
 obtain ⟨A0, n0, c0, rfl⟩ := ha
 obtain ⟨A1, n1, c1, rfl⟩ := hb'
 obtain ⟨W, g, hW, hg, hs, kb, hal⟩ := boxA w #[.int .i64 k, .string (bs t), .int .i64 n, .slice A m c] 28
 obtain ⟨p0, p1, p2, p3, _⟩ := kb.four
 obtain ⟨f0, f1, _, _, _⟩ := (kF.ext hal).two
 obtain ⟨i0, _, _⟩ := (kI.ext hal).one
 have hc := hfin W hal
 have HW := Lib.hid hW; have Hc := Lib.hid hc
 rw [← hW] at p0 p1 p2 p3 f0 f1 i0
 clear hW hc hfin kF kI kb
 go_enter Tryz.func78, Tryz.ntmps78
 go_wp2_with fail
 rw [HW.out]
 refine Hc.out.mono ?_
 rintro e w2 ⟨rfl, hb2⟩
 clear p0 p1 p2 p3 f0 f1 i0
 go_wp2_with fail
 go_ret
 exact ⟨rfl, hal.trans (hb2.mono hal.size)⟩
set_option maxHeartbeats 2000000 in
theorem notpart_ok (gP gF gI : Nat) (k n : Int) (t : Str) (A : Option Addr) (m c : Nat) (r : Bool) (w : World) (kP : Blk w gP 103 #[.func (.func 78) #[] #[.pointer (some ⟨gF, 0, none⟩), .pointer (some ⟨gI, 0, none⟩)]])
  (hpart : ∀ V, Below w.heap.size w V → Calls Tryz.prog 78 #[.agg #[.int .i64 k, .string (bs t), .int .i64 n, .slice A m c], .pointer (some ⟨gF, 0, none⟩), .pointer (some ⟨gI, 0, none⟩)] V fun e w' => e = .returned (.bool r) ∧ Below V.heap.size V w') :
  Calls Tryz.prog 85 #[.agg #[.int .i64 k, .string (bs t), .int .i64 n, .slice A m c], .pointer (some ⟨gP, 0, none⟩)] w fun e w' => e = .returned (.bool (!r)) ∧ Below w.heap.size w w' := by
 obtain ⟨W, g, hW, hg, hs, kb, hal⟩ := boxA w #[.int .i64 k, .string (bs t), .int .i64 n, .slice A m c] 28
 obtain ⟨p0, p1, p2, p3, _⟩ := kb.four
 obtain ⟨f0, _, _⟩ := (kP.ext hal).one
 have hc := hpart W hal
 have HW := Lib.hid hW; have Hc := Lib.hid hc
 rw [← hW] at p0 p1 p2 p3 f0
 clear hW hc hpart kP kb
 go_enter Tryz.func85, Tryz.ntmps85
 go_wp2_with fail
 rw [HW.out]
 refine Hc.out.mono ?_
 rintro e w2 ⟨rfl, hb2⟩
 clear p0 p1 p2 p3 f0
 go_wp2_with fail
 go_ret
 exact ⟨rfl, hal.trans (hb2.mono hal.size)⟩
set_option maxRecDepth 100000 in
set_option maxHeartbeats 8000000 in
theorem finds_ok (a b : Value) (x : Ix.Idx) (id : Int) (hc : Ix.Canon x) : ∀ (f : Nat) (q : Q) (v : Value) (w : World), SlR intC M0 w a x.1 → SlR termC M0 w b x.2 → QAt f M0 w v q → q.bulk ≤ 4000000 → (∀ p ∈ Q.pre (f + 1) q, Q.errOf p = 0) →
  Calls Tryz.prog 60 #[.agg #[a, b], v, .int .i64 id] w fun e w' => e = .returned (.bool (Sr.findsF (f + 1) x q id)) ∧ Below w.heap.size w w' := by
 intro f
 induction f using Nat.strongRecOn with | _ f ih => ?_
 intro q v w h0 h1 hq hbk hok
 have hself := hok q (by rw [Q.pre]; exact .head _)
 have hparts : ∀ p ∈ q.parts, ∀ r ∈ Q.pre f p, Q.errOf r = 0 := fun p hp r hr => hok r (by rw [Q.pre]; exact .tail _ (List.mem_flatMap.2 ⟨p, hp, hr⟩))
 have hpb : ∀ p ∈ q.parts, p.bulk ≤ 4000000 := fun p hp => by have := Q.bulks_mem hp; have := Q.bulk_eq q; omega
 have htl : q.text.length ≤ 4000000 := by have := Q.bulk_eq q; omega
 obtain ⟨⟨k1, k8⟩, t1, t4, t5, t8⟩ := Sr.node_text hself
 have hkinds := kinds ⟨k1, k8⟩
 obtain ⟨A0, c0, rfl, _, _⟩ := h0.form
 obtain ⟨A1, c1, rfl, _, _⟩ := h1.form
 have hfind : ∀ (p : Q) (g : Nat) (A2 : Option Addr) (c2 : Nat) (V : World), p ∈ q.parts → f = g + 1 → Below w.heap.size w V → QAt g M0 V (.agg #[.int .i64 p.kind, .string (bs p.text), .int .i64 p.num, .slice A2 p.parts.length c2]) p →
   Calls Tryz.prog 60 #[.agg #[.slice A0 x.1.length c0, .slice A1 x.2.length c1], .agg #[.int .i64 p.kind, .string (bs p.text), .int .i64 p.num, .slice A2 p.parts.length c2], .int .i64 id] V fun e w' => e = .returned (.bool (Sr.findsF f x p id)) ∧ Below V.heap.size V w' := fun p g A2 c2 V hp hfg hb hqa => by
  subst hfg
  exact ih g (by omega) p _ V (h0.ext hb) (h1.ext hb) hqa (hpb p hp) (hparts p hp)
 obtain ⟨A, c, rfl, _, htm, _, hv⟩ := hq
 obtain ⟨k, t, n, ps⟩ := q
 simp only [Q.kind_node, Q.text_node, Q.num_node, Q.parts_node] at hv t1 t4 t5 t8 hkinds hfind htl htm ⊢
 obtain ⟨W, hW, kF, kQ, kI, kP, hal, hsW⟩ := box4 w #[.slice A0 x.1.length c0, .slice A1 x.2.length c1] #[.int .i64 k, .string (bs t), .int .i64 n, .slice A ps.length c] #[.int .i64 id] #[.func (.func 78) #[] #[.pointer (some ⟨w.heap.size, 0, none⟩), .pointer (some ⟨w.heap.size + 1 + 1, 0, none⟩)]] 74 28 3 103
 have hsp := split_ok M0 t W htl (fun b h => h.elim)
 obtain ⟨p0, p1, p2, p3, _⟩ := kQ.four
 have hres : Sr.findsF (f + 1) x (.node k t n ps) id = if k = 2 then decide (0 < (Sr.places x t id).length) else if k = 3 then Sr.prefixF x t id else if k = 4 then Sr.phraseF x (splitS t) id else if k = 5 then Sr.nearF x ((splitS t).headD []) ((splitS t).getD 1 []) n id else if k = 6 then !(ps.any fun p => !Sr.findsF f x p id) else if k = 7 then ps.any fun p => Sr.findsF f x p id else if k = 8 then !Sr.findsF f x (ps.headD (.node 0 [] 0 [])) id else true := by rw [Sr.findsF]; rfl
 have hspl := splitS_ne t
 have hspn : (splitS t).length ≤ 4000000 := by rw [splitS_len]; have := List.count_le_length (a := (32 : UInt8)) (l := t); have := Q.bulk_eq (.node k t n ps); simp only [Q.text_node, Q.parts_node] at this; omega
 have hspm : ∀ y ∈ splitS t, y.length ≤ maxLen := fun y hy => by have := (splitS_mem t y hy).2; omega
 obtain ⟨l, hl⟩ : ∃ l, splitS t = l := ⟨_, rfl⟩
 rw [hl] at hsp hres hspl hspn hspm t1 t4 t5
 obtain ⟨res, hr⟩ : ∃ r, Sr.findsF (f + 1) x (.node k t n ps) id = r := ⟨_, rfl⟩
 rw [hr] at hres ⊢
 have HW := Lib.hid hW; have Hsp := Lib.hid hsp; have Hres := Lib.hid hres; have Hfind := Lib.hid hfind; have Ht := Lib.hid (And.intro t5 (And.intro t8 (And.intro hspl (And.intro hspn hspm)))); have Hal := Lib.hid hal
 rw [← hW] at p1
 clear hW hsp hres hfind t1 t4 t5 t8 hspl hspn hspm hl hr hal hsW p0 p2 p3 hself hparts hpb hok hbk k1 k8 ih
 go_enter Tryz.func60, Tryz.ntmps60
 go_wp2_with fail
 rw [HW.out]
 refine Hsp.out.mono ?_
 rintro e w2 ⟨v2, rfl, hown, hb2⟩
 obtain ⟨W2, rfl⟩ : ∃ W2, W2 = w2 := ⟨_, rfl⟩
 have hl := hown.read0
 obtain ⟨A3, c3, rfl, hlc3, hcm3⟩ := hl.form
 unfold maxLen at hcm3
 have hal := Hal.out
 have hb02 := hal.trans (hb2.mono hal.size)
 replace kF := kF.ext hb2
 replace kQ := kQ.ext hb2
 replace kI := kI.ext hb2
 replace kP := kP.ext hb2
 replace h0 := h0.ext hb02
 replace h1 := h1.ext hb02
 replace hv := hv.ext hb02
 clear p1 hal Hal Hsp HW hown hb2
 -- what a part answers
 have hpart : ∀ (p : Q) (g : Nat) (A2 : Option Addr) (c2 : Nat) (V : World), p ∈ ps → f = g + 1 → Below W2.heap.size W2 V → QAt g M0 V (.agg #[.int .i64 p.kind, .string (bs p.text), .int .i64 p.num, .slice A2 p.parts.length c2]) p →
   Calls Tryz.prog 78 #[.agg #[.int .i64 p.kind, .string (bs p.text), .int .i64 p.num, .slice A2 p.parts.length c2], .pointer (some ⟨w.heap.size, 0, none⟩), .pointer (some ⟨w.heap.size + 1 + 1, 0, none⟩)] V fun e w' => e = .returned (.bool (Sr.findsF f x p id)) ∧ Below V.heap.size V w' := fun p g A2 c2 V hp hfg hb hqa =>
  part_ok w.heap.size (w.heap.size + 1 + 1) _ _ ⟨_, _, _, rfl⟩ ⟨_, _, _, rfl⟩ id p.kind p.num p.text A2 p.parts.length c2 _ V (kF.ext hb) (kI.ext hb) fun V' hb' => Hfind.out p g A2 c2 V' hp hfg (hb02.trans ((hb.trans (hb'.mono hb.size)).mono hb02.size)) (hqa.ext hb')
 have Hpart := Lib.hid hpart; have Hb02 := Lib.hid hb02; have Hcc := Lib.hid (And.intro hlc3 hcm3)
 obtain ⟨n0, hn0⟩ : ∃ m, x.1.length = m := ⟨_, rfl⟩
 obtain ⟨n1, hn1⟩ : ∃ m, x.2.length = m := ⟨_, rfl⟩
 obtain ⟨p0, p1, p2, p3, _⟩ := kQ.four
 obtain ⟨i0, _, _⟩ := kI.one
 obtain ⟨m0, _, _⟩ := kP.one
 have fin : ∀ (w3 : World), Below W2.heap.size W2 w3 → Below w.heap.size w w3 := fun w3 hb => hb02.trans (hb.mono hb02.size)
 have Fin := Lib.hid fin
 clear hpart hb02 fin Hfind hlc3 hcm3
 rcases hkinds with rfl | rfl | rfl | rfl | rfl | rfl | rfl | rfl
 ·-- all
  have hr : res = true := Hres.out
  go_wp2_with fail
  go_ret
  exact ⟨ret_bool hr.symm, Fin.out _ (Below.refl _ _)⟩
 ·-- a word
  have hr : res = decide (0 < (Sr.places x t id).length) := Hres.out
  have hpl := places_ok (.slice A0 x.1.length c0) (.slice A1 x.2.length c1) x t id W2 h0 h1 hc htm
  obtain ⟨pl, hpe⟩ : ∃ p, Sr.places x t id = p := ⟨_, rfl⟩
  rw [hpe] at hpl hr
  have Hr := Lib.hid hr
  clear hr
  rw [hn0, hn1] at hpl kF ⊢
  obtain ⟨f0, f1, _, _, _⟩ := kF.two
  have Hpl := Lib.hid hpl
  clear hpl h0 h1 hv hl hpe
  go_wp2_with fail
  refine Hpl.out.mono ?_
  rintro e w3 ⟨v3, rfl, hv3, hb3⟩
  obtain ⟨A5, c5, rfl, _, _⟩ := hv3.form
  have ed : decide ((0 : Int) < (pl.length : Int)) = decide (0 < pl.length) := by simp
  clear f0 f1 p0 p1 p2 p3 i0 m0
  go_wp2_with fail
  go_ret
  exact ⟨ret_bool (by rw [Hr.out]), Fin.out _ hb3⟩
 ·-- a prefix
  have hr : res = Sr.prefixF x t id := Hres.out
  have hpl := prefix_ok (.slice A0 x.1.length c0) (.slice A1 x.2.length c1) x t id W2 h1 ⟨_, _, _, rfl⟩
  obtain ⟨pl, hpe⟩ : ∃ p, Sr.prefixF x t id = p := ⟨_, rfl⟩
  rw [hpe] at hpl hr
  have Hr := Lib.hid hr
  clear hr
  rw [hn0, hn1] at hpl kF ⊢
  obtain ⟨f0, f1, _, _, _⟩ := kF.two
  have Hpl := Lib.hid hpl
  clear hpl h0 h1 hv hl hpe
  go_wp2_with fail
  refine Hpl.out.mono ?_
  rintro e w3 ⟨rfl, hb3⟩
  clear f0 f1 p0 p1 p2 p3 i0 m0
  go_wp2_with fail
  go_ret
  exact ⟨ret_bool (by rw [Hr.out]), Fin.out _ hb3⟩
 ·-- a phrase
  have hr : res = Sr.phraseF x l id := Hres.out
  have hpl := phrase_ok (.slice A0 x.1.length c0) (.slice A1 x.2.length c1) (.slice A3 l.length c3) x l id W2 h0 h1 hc hl (List.length_pos_iff.2 Ht.out.2.2.1) Ht.out.2.2.2.1
  obtain ⟨pl, hpe⟩ : ∃ p, Sr.phraseF x l id = p := ⟨_, rfl⟩
  rw [hpe] at hpl hr
  have Hr := Lib.hid hr
  clear hr
  rw [hn0, hn1] at hpl kF ⊢
  obtain ⟨f0, f1, _, _, _⟩ := kF.two
  have Hpl := Lib.hid hpl
  clear hpl h0 h1 hv hl hpe
  go_wp2_with fail
  refine Hpl.out.mono ?_
  rintro e w3 ⟨rfl, hb3⟩
  clear f0 f1 p0 p1 p2 p3 i0 m0
  go_wp2_with fail
  go_ret
  exact ⟨ret_bool (by rw [Hr.out]), Fin.out _ hb3⟩
 ·-- two words near one another
  obtain ⟨y0, y1, hy, _, _⟩ := Ht.out.1 rfl
  have hr : res = Sr.nearF x (l.headD []) (l.getD 1 []) n id := Hres.out
  have hmx := Ht.out.2.2.2.2
  rw [hy] at hl hmx hr ⊢
  have e0 : ([y0, y1] : List Str).headD [] = y0 := rfl
  have e1 : ([y0, y1] : List Str).getD 1 [] = y1 := rfl
  rw [e0, e1] at hr
  have hpl := fun V (hb : Below W2.heap.size W2 V) => near_ok (.slice A0 x.1.length c0) (.slice A1 x.2.length c1) x y0 y1 n id V (h0.ext hb) (h1.ext hb) hc (hmx _ (by simp)) (hmx _ (by simp))
  obtain ⟨pl, hpe⟩ : ∃ p, Sr.nearF x y0 y1 n id = p := ⟨_, rfl⟩
  rw [hpe] at hr
  have Hr := Lib.hid hr
  clear hr
  simp only [hpe] at hpl
  rw [hn0, hn1] at kF ⊢
  simp only [hn0, hn1] at hpl
  obtain ⟨bl, ol, hA3, _, _, s0, _⟩ := hl.strAt (k := 0) (by simp)
  obtain ⟨bl', ol', hA3', _, _, s1, _⟩ := hl.strAt (k := 1) (by simp)
  subst hA3
  injection hA3' with hA3'
  injection hA3' with hA4 hA5
  subst hA4 hA5
  have s0' : W2.cell? ⟨bl, ol, none⟩ = some (.string (bs y0)) := s0
  have s1' : W2.cell? ⟨bl, ol + 1, none⟩ = some (.string (bs y1)) := s1
  have hSS : ∀ W', Below W2.heap.size W2 W' → W'.cell? ⟨w.heap.size, 0, none⟩ = some (.slice A0 n0 c0) ∧ W'.cell? ⟨w.heap.size, 1, none⟩ = some (.slice A1 n1 c1) ∧ W'.cell? ⟨w.heap.size + 1, 2, none⟩ = some (.int .i64 n) ∧ W'.cell? ⟨w.heap.size + 1 + 1, 0, none⟩ = some (.int .i64 id) ∧ W'.cell? ⟨bl, ol, none⟩ = some (.string (bs y0)) ∧ W'.cell? ⟨bl, ol + 1, none⟩ = some (.string (bs y1)) := fun W' hb =>
   ⟨(kF.ext hb).two.1, (kF.ext hb).two.2.1, (kQ.ext hb).four.2.2.1, (kI.ext hb).one.1, (hb.cell (World.block_lt_of_cell? W2 _ s0')).trans s0', (hb.cell (World.block_lt_of_cell? W2 _ s1')).trans s1'⟩
  have HS := Lib.hid hSS; have Hn := Lib.hid hpl
  have hlen : ([y0, y1] : List Str).length = 2 := rfl
  rw [hlen]
  clear hpl h0 h1 hv hl hpe hSS s0 s1 s0' s1' hmx e0 e1 hlen kF kQ kI kP i0 m0 hy
  go_wp2_with fail
  have hS := HS.out _ (below_drewN' W2.heap.size W2 1)
  clear p0 p1 p2 p3
  refine wp_region_D (fun W => W.cell? ⟨w.heap.size, 0, none⟩ = some (.slice A0 n0 c0) ∧ W.cell? ⟨w.heap.size, 1, none⟩ = some (.slice A1 n1 c1) ∧ W.cell? ⟨w.heap.size + 1, 2, none⟩ = some (.int .i64 n) ∧ W.cell? ⟨w.heap.size + 1 + 1, 0, none⟩ = some (.int .i64 id) ∧ W.cell? ⟨bl, ol, none⟩ = some (.string (bs y0)) ∧ W.cell? ⟨bl, ol + 1, none⟩ = some (.string (bs y1))) (fun _ => false) (by kernel_rfl) ?_
  change anyD _ _ _ _ _ _ _ _ _ (W2.drewN 1)
  have hbV := below_drewN' W2.heap.size W2 1
  generalize W2.drewN 1 = V0 at hS hbV ⊢
  (refine anyD_l5 (i := 0) (v := ?_) rfl (by kernel_rfl) (fun _ _ _ h => h) (.inl ⟨by kernel_rfl, fun W9 hW9 => ?_⟩) hS ?_; rotate_left; · (obtain ⟨hw0, hw1, hw2, hw3, hw4, hw5⟩ := hW9; go_simp; rfl))
  (refine anyD_l5 (i := 1) (v := ?_) rfl (by kernel_rfl) (fun _ _ _ h => h) (.inl ⟨by kernel_rfl, fun W9 hW9 => ?_⟩) hS ?_; rotate_left; · (obtain ⟨hw0, hw1, hw2, hw3, hw4, hw5⟩ := hW9; go_simp; rfl))
  (refine anyD_l5 (i := 2) (v := ?_) rfl (by kernel_rfl) (fun _ _ _ h => h) (.inl ⟨by kernel_rfl, fun W9 hW9 => ?_⟩) hS ?_; rotate_left; · (obtain ⟨hw0, hw1, hw2, hw3, hw4, hw5⟩ := hW9; go_simp; rfl))
  (refine anyD_l5 (i := 3) (v := ?_) rfl (by kernel_rfl) (fun _ _ _ h => h) (.inl ⟨by kernel_rfl, fun W9 hW9 => ?_⟩) hS ?_; rotate_left; · (obtain ⟨hw0, hw1, hw2, hw3, hw4, hw5⟩ := hW9; go_simp; rfl))
  (refine anyD_l5 (i := 4) (v := ?_) rfl (by kernel_rfl) (fun _ _ _ h => h) (.inl ⟨by kernel_rfl, fun W9 hW9 => ?_⟩) hS ?_; rotate_left; · (obtain ⟨hw0, hw1, hw2, hw3, hw4, hw5⟩ := hW9; go_simp; rfl))
  (refine anyD_l5 (i := 5) (v := ?_) rfl (by kernel_rfl) (fun _ _ _ h => h) (.inl ⟨by kernel_rfl, fun W9 hW9 => ?_⟩) hS ?_; rotate_left; · (obtain ⟨hw0, hw1, hw2, hw3, hw4, hw5⟩ := hW9; go_simp; rfl))
  go_simp
  (refine anyD_l5 (i := 6) (v := ?_) rfl (by kernel_rfl) (fun _ _ _ h => h) (.inl ⟨by kernel_rfl, fun W9 hW9 => ?_⟩) hS ?_; rotate_left; · (obtain ⟨hw0, hw1, hw2, hw3, hw4, hw5⟩ := hW9; go_simp; rfl))
  (refine anyD_l5 (i := 7) (v := ?_) rfl (by kernel_rfl) (fun _ _ _ h => h) (.inl ⟨by kernel_rfl, fun W9 hW9 => ?_⟩) hS ?_; rotate_left; · (obtain ⟨hw0, hw1, hw2, hw3, hw4, hw5⟩ := hW9; go_simp; rfl))
  (refine anyD_l5 (i := 8) (v := ?_) rfl (by kernel_rfl) (fun _ _ _ h => h) (.inl ⟨by kernel_rfl, fun W9 hW9 => ?_⟩) hS ?_; rotate_left; · (obtain ⟨hw0, hw1, hw2, hw3, hw4, hw5⟩ := hW9; go_simp; rfl))
  (refine anyD_l5 (i := 9) (v := ?_) rfl (by kernel_rfl) (fun _ _ _ h => h) (.inl ⟨by kernel_rfl, fun W9 hW9 => ?_⟩) hS ?_; rotate_left; · (obtain ⟨hw0, hw1, hw2, hw3, hw4, hw5⟩ := hW9; go_simp; rfl))
  go_simp
  refine anyD_one (i := 10) (by kernel_rfl) rfl rfl (fun K hK => ?_)
  have HK := Lib.hid hK
  clear hK
  unfold Oper.wp
  go_simp
  refine ((Hn.out V0 hbV)).mono ?_
  rintro e w3 ⟨rfl, hb3⟩
  replace hbV := hbV.trans (hb3.mono hbV.size)
  clear hb3 hS
  have hS := HS.out _ hbV
  refine HK.out _ _ (fun _ => hS) ?_
  clear HK
  (refine anyD_l5 (i := 11) (v := ?_) rfl (by kernel_rfl) (fun _ _ _ h => h) (.inl ⟨by kernel_rfl, fun W9 hW9 => ?_⟩) hS ?_; rotate_left; · (obtain ⟨hw0, hw1, hw2, hw3, hw4, hw5⟩ := hW9; go_simp; rfl))
  go_simp
  refine anyD_done (by kernel_rfl) ?_ _
  clear hS
  go_wp2
  go_ret
  exact ⟨ret_bool (by rw [Hr.out]), Fin.out _ hbV⟩
 ·-- a conjunction
  have hr : res = !(ps.any fun p => !Sr.findsF f x p id) := Hres.out
  have hpl := queryCont_ok 85 #[.pointer (some ⟨w.heap.size + 1 + 1 + 1, 0, none⟩)] f (fun p => !Sr.findsF f x p id) ps (.slice A ps.length c) W2 hv (fun args w => enters_of Tryz.func85 (by kernel_rfl) rfl args w)
   (fun p g A2 c2 w1 hp hb1 hfg hqa => by
    have := notpart_ok (w.heap.size + 1 + 1 + 1) w.heap.size (w.heap.size + 1 + 1) p.kind p.num p.text A2 p.parts.length c2 _ w1 (kP.ext hb1) fun V hb => Hpart.out p g A2 c2 V hp hfg (hb1.trans (hb.mono hb1.size)) (hqa.ext hb)
    simpa using this)
  obtain ⟨pl, hpe⟩ : ∃ r, (ps.any fun p => !Sr.findsF f x p id) = r := ⟨_, rfl⟩
  rw [hpe] at hpl hr
  have Hr := Lib.hid hr
  clear hr
  have Hpl := Lib.hid hpl
  clear hpl h0 h1 hv hl hpe
  go_wp2_with fail
  refine Hpl.out.mono ?_
  rintro e w3 ⟨rfl, hb3⟩
  clear p0 p1 p2 p3 i0 m0
  go_wp2_with fail
  go_ret
  exact ⟨ret_bool (by rw [Hr.out]), Fin.out _ hb3⟩
 ·-- a disjunction
  have hr : res = ps.any fun p => Sr.findsF f x p id := Hres.out
  have hpl := queryCont_ok 78 #[.pointer (some ⟨w.heap.size, 0, none⟩), .pointer (some ⟨w.heap.size + 1 + 1, 0, none⟩)] f (fun p => Sr.findsF f x p id) ps (.slice A ps.length c) W2 hv (fun args w => enters_of Tryz.func78 (by kernel_rfl) rfl args w)
   (fun p g A2 c2 w1 hp hb1 hfg hqa => by
    have := Hpart.out p g A2 c2 w1 hp hfg hb1 hqa
    simpa using this)
  obtain ⟨pl, hpe⟩ : ∃ r, (ps.any fun p => Sr.findsF f x p id) = r := ⟨_, rfl⟩
  rw [hpe] at hpl hr
  have Hr := Lib.hid hr
  clear hr
  have Hpl := Lib.hid hpl
  clear hpl h0 h1 hv hl hpe
  go_wp2_with fail
  refine Hpl.out.mono ?_
  rintro e w3 ⟨rfl, hb3⟩
  clear p0 p1 p2 p3 i0 m0
  go_wp2_with fail
  go_ret
  exact ⟨ret_bool (by rw [Hr.out]), Fin.out _ hb3⟩
 ·-- a negation
  obtain ⟨p, hp⟩ := Ht.out.2.1 rfl
  have hr : res = !Sr.findsF f x (ps.headD (.node 0 [] 0 [])) id := Hres.out
  subst hp
  obtain ⟨bp, op, g, A4, c4, rfl, hfg, _, hbp, s0, s1, s2, s3, hqa⟩ := hv.qAt (k := 0) (by simp)
  have hh : ([p] : List Q).headD (.node 0 [] 0 []) = p := rfl
  rw [hh] at hr
  have hg0 : ([p] : List Q)[0] = p := rfl
  rw [hg0] at s0 s1 s2 s3 hqa
  have s0' : W2.cell? ⟨bp, op, none⟩ = some (.int .i64 p.kind) := by simpa using s0
  have s1' : W2.cell? ⟨bp, op + 1, none⟩ = some (.string (bs p.text)) := by simpa using s1
  have s2' : W2.cell? ⟨bp, op + 2, none⟩ = some (.int .i64 p.num) := by simpa using s2
  have s3' : W2.cell? ⟨bp, op + 3, none⟩ = some (.slice A4 p.parts.length c4) := by simpa using s3
  have hpl := fun V (hb : Below W2.heap.size W2 V) => Hpart.out p g A4 c4 V (by simp) hfg hb (hqa.ext hb)
  obtain ⟨pk, hpk⟩ : ∃ r, p.kind = r := ⟨_, rfl⟩
  obtain ⟨pt, hpt⟩ : ∃ r, p.text = r := ⟨_, rfl⟩
  obtain ⟨pn, hpn⟩ : ∃ r, p.num = r := ⟨_, rfl⟩
  obtain ⟨pl, hpll⟩ : ∃ r, p.parts.length = r := ⟨_, rfl⟩
  obtain ⟨rr, hrr⟩ : ∃ r, Sr.findsF f x p id = r := ⟨_, rfl⟩
  simp only [hpk, hpt, hpn, hpll, hrr] at hpl
  rw [hpk] at s0'
  rw [hpt] at s1'
  rw [hpn] at s2'
  rw [hpll] at s3'
  rw [hrr] at hr
  have Hr := Lib.hid hr
  clear hr
  have hlen : ([p] : List Q).length = 1 := rfl
  rw [hlen] at kQ p3 ⊢
  have hSS : ∀ W', Below W2.heap.size W2 W' → W'.cell? ⟨w.heap.size + 1 + 1 + 1, 0, none⟩ = some (.func (.func 78) #[] #[.pointer (some ⟨w.heap.size, 0, none⟩), .pointer (some ⟨w.heap.size + 1 + 1, 0, none⟩)]) ∧ W'.cell? ⟨w.heap.size + 1, 3, none⟩ = some (.slice (some ⟨bp, op, none⟩) 1 c) ∧ W'.cell? ⟨bp, op, none⟩ = some (.int .i64 pk) ∧ W'.cell? ⟨bp, op + 1, none⟩ = some (.string (bs pt)) ∧ W'.cell? ⟨bp, op + 2, none⟩ = some (.int .i64 pn) ∧ W'.cell? ⟨bp, op + 3, none⟩ = some (.slice A4 pl c4) := fun W' hb =>
   ⟨(kP.ext hb).one.1, (kQ.ext hb).four.2.2.2.1, (hb.cell (p := ⟨bp, op, none⟩) hbp).trans s0', (hb.cell (p := ⟨bp, op + 1, none⟩) hbp).trans s1', (hb.cell (p := ⟨bp, op + 2, none⟩) hbp).trans s2', (hb.cell (p := ⟨bp, op + 3, none⟩) hbp).trans s3'⟩
  have HS := Lib.hid hSS; have Hn := Lib.hid hpl
  clear hpl h0 h1 hv hl hSS s0 s1 s2 s3 s0' s1' s2' s3' hqa hh hg0 hlen hpk hpt hpn hpll hrr kF kQ kI kP i0 m0 p1 p2
  go_wp2_with fail
  have hS := HS.out _ (below_drewN' W2.heap.size W2 1)
  clear p0 p3
  refine wp_region_D (fun W => W.cell? ⟨w.heap.size + 1 + 1 + 1, 0, none⟩ = some (.func (.func 78) #[] #[.pointer (some ⟨w.heap.size, 0, none⟩), .pointer (some ⟨w.heap.size + 1 + 1, 0, none⟩)]) ∧ W.cell? ⟨w.heap.size + 1, 3, none⟩ = some (.slice (some ⟨bp, op, none⟩) 1 c) ∧ W.cell? ⟨bp, op, none⟩ = some (.int .i64 pk) ∧ W.cell? ⟨bp, op + 1, none⟩ = some (.string (bs pt)) ∧ W.cell? ⟨bp, op + 2, none⟩ = some (.int .i64 pn) ∧ W.cell? ⟨bp, op + 3, none⟩ = some (.slice A4 pl c4)) (fun _ => false) (by kernel_rfl) ?_
  change anyD _ _ _ _ _ _ _ _ _ (W2.drewN 1)
  have hbV := below_drewN' W2.heap.size W2 1
  generalize W2.drewN 1 = V0 at hS hbV ⊢
  (refine anyD_l5 (i := 0) (v := ?_) rfl (by kernel_rfl) (fun _ _ _ h => h) (.inl ⟨by kernel_rfl, fun W9 hW9 => ?_⟩) hS ?_; rotate_left; · (obtain ⟨hw0, hw1, hw2, hw3, hw4, hw5⟩ := hW9; go_simp; rfl))
  (refine anyD_l5 (i := 1) (v := ?_) rfl (by kernel_rfl) (fun _ _ _ h => h) (.inl ⟨by kernel_rfl, fun W9 hW9 => ?_⟩) hS ?_; rotate_left; · (obtain ⟨hw0, hw1, hw2, hw3, hw4, hw5⟩ := hW9; go_simp; rfl))
  (refine anyD_l5 (i := 2) (v := ?_) rfl (by kernel_rfl) (fun _ _ _ h => h) (.inl ⟨by kernel_rfl, fun W9 hW9 => ?_⟩) hS ?_; rotate_left; · (obtain ⟨hw0, hw1, hw2, hw3, hw4, hw5⟩ := hW9; go_simp; rfl))
  (refine anyD_l5 (i := 3) (v := ?_) rfl (by kernel_rfl) (fun _ _ _ h => h) (.inl ⟨by kernel_rfl, fun W9 hW9 => ?_⟩) hS ?_; rotate_left; · (obtain ⟨hw0, hw1, hw2, hw3, hw4, hw5⟩ := hW9; go_simp; rfl))
  (refine anyD_l5 (i := 4) (v := ?_) rfl (by kernel_rfl) (fun _ _ _ h => h) (.inl ⟨by kernel_rfl, fun W9 hW9 => ?_⟩) hS ?_; rotate_left; · (obtain ⟨hw0, hw1, hw2, hw3, hw4, hw5⟩ := hW9; go_simp; rfl))
  go_simp
  refine anyD_one (i := 5) (by kernel_rfl) rfl rfl (fun K hK => ?_)
  have HK := Lib.hid hK
  clear hK
  unfold Oper.wp
  go_simp
  refine ((Hn.out V0 hbV)).mono ?_
  rintro e w3 ⟨rfl, hb3⟩
  replace hbV := hbV.trans (hb3.mono hbV.size)
  clear hb3 hS
  have hS := HS.out _ hbV
  refine HK.out _ _ (fun _ => hS) ?_
  clear HK
  (refine anyD_l5 (i := 6) (v := ?_) rfl (by kernel_rfl) (fun _ _ _ h => h) (.inl ⟨by kernel_rfl, fun W9 hW9 => ?_⟩) hS ?_; rotate_left; · (obtain ⟨hw0, hw1, hw2, hw3, hw4, hw5⟩ := hW9; go_simp; rfl))
  (refine anyD_l5 (i := 7) (v := ?_) rfl (by kernel_rfl) (fun _ _ _ h => h) (.inl ⟨by kernel_rfl, fun W9 hW9 => ?_⟩) hS ?_; rotate_left; · (obtain ⟨hw0, hw1, hw2, hw3, hw4, hw5⟩ := hW9; go_simp; rfl))
  go_simp
  refine anyD_done (by kernel_rfl) ?_ _
  clear hS
  go_wp2
  go_ret
  exact ⟨ret_bool (by rw [Hr.out]), Fin.out _ hbV⟩
end Go.Proofs.YtnlhocbaighedaaGreatDoor
namespace Go.Proofs.YtnlhocbaighedaaGreatDoor
open Go.RowKit
set_option linter.unusedVariables false
/-- What the iterator reads: the finder, the query. -/
structure FdAt (gF gQ f : Nat) (a b qv : Value) (qc : Array Value) (x : Ix.Idx) (q : Q) (w : World) : Prop where
 kF : Blk w gF 74 #[a, b]
 kQ : Blk w gQ 28 qc
 ids : SlR intC M0 w a x.1
 terms : SlR termC M0 w b x.2
 q : QAt f M0 w qv q
theorem FdAt.ext {gF gQ f : Nat} {a b qv : Value} {qc : Array Value} {x : Ix.Idx} {q : Q} {w w' : World} (h : FdAt gF gQ f a b qv qc x q w) (hb : Below w.heap.size w w') : FdAt gF gQ f a b qv qc x q w' :=
 ⟨h.kF.ext hb, h.kQ.ext hb, h.ids.ext hb, h.terms.ext hb, h.q.ext hb⟩
def fdFP (gF gQ f : Nat) (a b qv : Value) (qc : Array Value) (x : Ix.Idx) (q : Q) (S : Nat → Prop) (w : World) : Prop := ∃ w0, FdAt gF gQ f a b qv qc x q w0 ∧ Below w0.heap.size w0 w ∧ ∀ b, S b → w0.heap.size ≤ b
theorem fdFP.at {gF gQ f : Nat} {a b qv : Value} {qc : Array Value} {x : Ix.Idx} {q : Q} {S : Nat → Prop} {w : World} (h : fdFP gF gQ f a b qv qc x q S w) : FdAt gF gQ f a b qv qc x q w := by
 obtain ⟨w0, h1, h2, _⟩ := h
 exact h1.ext h2
theorem fdFP.ext {gF gQ f : Nat} {a b qv : Value} {qc : Array Value} {x : Ix.Idx} {q : Q} {S : Nat → Prop} {w w' : World} (h : fdFP gF gQ f a b qv qc x q S w) (hb : Below w.heap.size w w') : fdFP gF gQ f a b qv qc x q S w' := by
 obtain ⟨w0, h1, h2, h3⟩ := h
 exact ⟨w0, h1, h2.trans (hb.mono h2.size), h3⟩
theorem fdFP.chg {gF gQ f : Nat} {a b qv : Value} {qc : Array Value} {x : Ix.Idx} {q : Q} {S S' : Nat → Prop} {w w' : World} (h : fdFP gF gQ f a b qv qc x q S w) (hc : Chg S S' w w') : fdFP gF gQ f a b qv qc x q S' w' := by
 obtain ⟨w0, h1, h2, h3⟩ := h
 refine ⟨w0, h1, ⟨hc.os.trans h2.os, hc.tape.trans h2.tape, hc.output.trans h2.output, Nat.le_trans h2.size hc.size, fun b hb => ?_⟩, fun b hb => ?_⟩
 ·exact (hc.same b (by have := h2.size; omega) fun hS => by have := h3 b hS; omega).trans (h2.block b hb)
 ·have h4 := h2.size
  rcases (hc.own b hb).2 with h | h
  ·exact h3 b h
  ·omega
set_option maxRecDepth 100000 in
set_option maxHeartbeats 4000000 in
theorem found_iter (gF gQ f : Nat) (A0 A1 A : Option Addr) (n0 c0 n1 c1 m c : Nat) (k n : Int) (t : Str) (x : Ix.Idx) (q : Q) (hcan : Ix.Canon x) (hbk : q.bulk ≤ 4000000) (hok : ∀ p ∈ Q.pre (f + 1) q, Q.errOf p = 0) :
  Iter Tryz.prog 59 #[.pointer (some ⟨gF, 0, none⟩), .pointer (some ⟨gQ, 0, none⟩)] encI1 (x.1.filter fun id => Sr.findsF (f + 1) x q id) (fdFP gF gQ f (.slice A0 n0 c0) (.slice A1 n1 c1) (.agg #[.int .i64 k, .string (bs t), .int .i64 n, .slice A m c]) #[.int .i64 k, .string (bs t), .int .i64 n, .slice A m c] x q) := by
 intro ll J Jx S W hFP hS hJ hJx hY h0
 refine callsIn_of_wp Tryz.func59 rfl trivial ?_ rfl
 simp only [Tryz.ntmps59, List.size_toArray, List.length_cons, List.length_nil, Nat.reduceAdd, Nat.reduceSub, Array.replicate_succ, Array.replicate_zero, List.push_toArray, List.append_toArray, List.nil_append, List.cons_append]
 have hF1 : Fence.wide.fn 60 := trivial
 have hF3 : Fence.wide.depth = none := rfl
 have hF4 : Fence.wide.round = none := rfl
 obtain ⟨p, hp⟩ : ∃ p : Int → Bool, (fun id => Sr.findsF (f + 1) x q id) = p := ⟨_, rfl⟩
 have Hp := Lib.hid hp
 rw [hp] at hY ⊢
 have HY := Lib.hid hY; have HJ := Lib.hid hJ; have HJx := Lib.hid hJx; have HS := Lib.hid hS
 obtain ⟨R, hR⟩ : ∃ R, x.1.filter p = R := ⟨_, rfl⟩
 rw [hR] at HY ⊢
 have HR := Lib.hid hR
 have hfd := hFP.at
 obtain ⟨A0', c0', he, hlc, hcm⟩ := hfd.ids.form
 injection he with e1 e2 e3
 subst e1 e2 e3
 obtain ⟨f0, f1, _, _, _⟩ := hfd.kF.two
 unfold maxLen at hcm
 clear hY hJ hJx hS hR hp hfd
 gi_wp2
 clear f0 f1
 gi_loopw [10] (fun i wr => ∃ (pos kk : Nat) (T : Nat → Prop), i = .int .i64 (pos : Int) ∧ J kk T wr ∧ fdFP gF gQ f (.slice A0 x.1.length c0) (.slice A1 n1 c1) (.agg #[.int .i64 k, .string (bs t), .int .i64 n, .slice A m c]) #[.int .i64 k, .string (bs t), .int .i64 n, .slice A m c] x q T wr ∧ Hid (∀ b, T b → b < wr.heap.size) ∧ W.heap.size ≤ wr.heap.size ∧
   Hid (R = R.take kk ++ (x.1.drop pos).filter p) ∧ pos ≤ x.1.length ∧ kk ≤ R.length) (fun i _ => x.1.length - (intOf i).toNat)
 case atStart => exact ⟨0, 0, S, rfl, h0, hFP, HS, Nat.le_refl _, Lib.hid (by rw [List.drop_zero, HR.out]; rfl), by omega, by omega⟩
 case round =>
  obtain ⟨pos, kk, T, rfl, hj, hfp, hT, hsz, hrec, hpl, hkk⟩ := hrel
  have hfd := hfp.at
  obtain ⟨f0, f1, _, _, _⟩ := hfd.kF.two
  obtain ⟨p0, p1, p2, p3, _⟩ := hfd.kQ.four
  by_cases hlt : pos < x.1.length
  ·obtain ⟨b, off, rfl, _, _, q0, hl1, hl2⟩ := hfd.ids.intAt hlt
   have hst : (x.1.drop pos).filter p = if p x.1[pos] then x.1[pos] :: (x.1.drop (pos + 1)).filter p else (x.1.drop (pos + 1)).filter p := by
    rw [List.drop_eq_getElem_cons hlt, List.filter_cons]
   obtain ⟨id, hid⟩ : ∃ y, y = x.1[pos] := ⟨_, rfl⟩
   rw [← hid] at q0 hst
   have hfin := finds_ok (.slice (some ⟨b, off, none⟩) x.1.length c0) (.slice A1 n1 c1) x id hcan f q (.agg #[.int .i64 k, .string (bs t), .int .i64 n, .slice A m c]) wr hfd.ids hfd.terms hfd.q hbk hok
   have hpe : Sr.findsF (f + 1) x q id = p id := by rw [← Hp.out]
   rw [hpe] at hfin
   rw [hst] at hrec
   obtain ⟨tt, htt⟩ : ∃ tt, p id = tt := ⟨_, rfl⟩
   rw [htt] at hfin hrec
   have Hfin := Lib.hid hfin
   clear hfin hst hid htt hpe hl1 hl2 hfd
   gi_wp2_with fail
   refine (callsIn_wide.2 Hfin.out).mono ?_
   rintro e w2 ⟨rfl, hb2⟩
   have hfp2 := hfp.ext hb2
   have hj2 := HJ.out _ _ _ _ hj (Kept.of_below hb2)
   have hsz2 : W.heap.size ≤ w2.heap.size := Nat.le_trans hsz hb2.size
   have hT2 : Hid (∀ b, T b → b < w2.heap.size) := Lib.hid fun b hb => by have := hT.out b hb; have := hb2.size; omega
   clear hb2 hfp hj hsz hT q0 f0 f1 p0 p1 p2 p3 Hfin
   cases tt with
   | false =>
    gi_wp2
    refine ⟨fun _ h => (by cases h), ?_⟩
    gi_wp2
    go_roundw
    case rel => exact ⟨pos + 1, kk, T, by go_num, hj2, hfp2, hT2, hsz2, Lib.hid (by have := hrec.out; simpa using this), by omega, hkk⟩
    case measure => simp [intOf]; omega
   | true =>
    have h := hrec.out
    simp only [if_true] at h
    obtain ⟨hk', hx, hr'⟩ := list_at hkk h
    have hy := HY.out kk hk' T w2 hj2 hsz2
    rw [hx] at hy
    have Hr' := Lib.hid hr'
    clear hx hr' h hrec
    obtain ⟨fn, tmps, assign, body, hyy, hRR⟩ := hy
    dsimp only [encI1] at hyy
    gi_wp2_with fail
    refine hRR.mono ?_
    rintro e w4 ⟨T', hchg, hor4⟩
    obtain ⟨tt, rfl⟩ : ∃ tt, e = .returned (.bool tt) := hor4.elim (fun h => ⟨_, h.1⟩) (fun h => ⟨_, h.1⟩)
    have Hor4 := Lib.hid hor4
    clear hor4 hyy hRR
    have hfp4 := hfp2.chg hchg
    have hsz4 : W.heap.size ≤ w4.heap.size := Nat.le_trans hsz2 hchg.size
    cases tt with
    | true =>
     have hj4 : J (kk + 1) T' w4 := Hor4.out.elim (fun h => h.2) (fun h => by cases h.1)
     gi_wp2
     go_roundw
     case rel => exact ⟨pos + 1, kk + 1, T', by go_num, hj4, hfp4, Lib.hid (fun b hb => (hchg.own b hb).1), hsz4, Hr', by omega, hk'⟩
     case measure => simp [intOf]; omega
    | false =>
     have hx4 : Jx (kk + 1) T' w4 := Hor4.out.elim (fun h => by cases h.1) (fun h => h.2)
     gi_wp2
     exact bodyPost_ret (results_none rfl _ _ _) rfl ⟨⟨_, rfl⟩, .inr ⟨kk + 1, T', hx4⟩⟩
  ·obtain rfl : pos = x.1.length := by omega
   have hke : kk = R.length := by
    have h := congrArg List.length hrec.out
    rw [List.drop_length, List.filter_nil, List.append_nil, List.length_take] at h
    omega
   have Hke := Lib.hid hke
   clear hke hrec
   gi_wp2
   exact bodyPost_end (results_none rfl _ _ _) rfl ⟨⟨_, rfl⟩, .inl ⟨T, by rw [← Hke.out]; exact hj⟩⟩
end Go.Proofs.YtnlhocbaighedaaGreatDoor
namespace Go.Proofs.YtnlhocbaighedaaGreatDoor
open Go.ChangeShapes Go.WideShapes Go.ChangeAt Go.RowKit
/-- Reads, with what holds of the read where each weight is within the form's reach. -/
def ReadsS (P : Program) (t : TypeId) {α : Type} (C : Codec α) (bk : α → Nat) (φ : α → Prop) : Prop :=
 P.cellsOf t = C.n ∧ ∀ (H : Type) (enc : TypeId × Value → H) (w : World) (spare : Nat → Bool) (held : Bool) (fuel : Nat) (cs : List Value) (x : DataW H × List MemPlace),
  DataW.trod enc P w 0 spare held fuel t cs = some x → ∃ a : α, C.rd M0 w cs a ∧ bk a ≤ Rows.uptoBulk x.1 ∧ ((∀ n ∈ x.1.weights P t, n ≤ reachBytes) → φ a)
theorem Reads.sized {P : Program} {t : TypeId} {α : Type} {C : Codec α} {bk : α → Nat} (h : Reads P t C bk) : ReadsS P t C bk (fun _ => True) :=
 ⟨h.1, fun H enc w spare held fuel cs x hx => by
  obtain ⟨a, h1, h2⟩ := h.2 H enc w spare held fuel cs x hx
  exact ⟨a, h1, h2, fun _ => trivial⟩⟩
theorem weights_all {H : Type} {P : Program} {e : TypeId} : ∀ {l : List (DataW H)} {d : DataW H}, d ∈ l → ∀ n ∈ d.weights P e, n ∈ DataW.weightsAll P e l
 | a :: l, d, hd, n, hn => by
  rw [DataW.weightsAll, List.mem_append]
  rcases List.mem_cons.1 hd with h | h
  ·exact .inl (h ▸ hn)
  ·exact .inr (weights_all h n hn)
theorem readsS_string {P : Program} {t : TypeId} (ht : P.underlying t = some .string) (hc : P.cellsOf t = 1) : ReadsS P t strC (fun l => l.length + 1) (fun l => l.length ≤ reachBytes) :=
 ⟨hc, fun H enc w spare held fuel cs x h => by
  obtain ⟨s, rfl, rfl, hs⟩ := DataW.trod_string ht h
  refine ⟨s.data.toList, ⟨by rw [← bs_of], by rw [Array.length_toList]; exact hs⟩, ?_, fun hw => ?_⟩
  ·rw [Rows.uptoBulk]
   exact Nat.le_refl _
  ·exact hw _ (by simp [DataW.weights])⟩
theorem readsS_slice {P : Program} {t e : TypeId} {α : Type} {C : Codec α} {bk : α → Nat} {φ : α → Prop} (hR : ReadsS P e C bk φ) (ht : P.underlying t = some (.slice e)) (hc : P.cellsOf t = 1) : ReadsS P t (sliceC C) (fun l => 1 + (l.map bk).sum) (fun l => l.length * P.bytesOf e ≤ reachBytes ∧ ∀ a ∈ l, φ a) :=
 ⟨hc, fun H enc w spare held fuel cs x h => by
  obtain ⟨hn, hR⟩ := hR
  rcases DataW.trod_slice ht h with ⟨rfl, rfl⟩ | ⟨a, len, cap, elems, rest, n, _, rfl, rfl, _, hl, hm, hlen, hel, _, _⟩
  ·exact ⟨[], ⟨_, rfl, SlR.nil C M0 w⟩, by simp [Rows.uptoBulk], fun _ => by simp⟩
  ·rw [hn] at hel
   have each : ∀ i, i < len → ∃ y : α, (∃ cs' : List Value, cs'.length = C.n ∧ (∀ j, j < C.n → w.cell? ((a.add (i * C.n)).add j) = cs'[j]?) ∧ C.rd M0 w cs' y) ∧ ∀ (hi : i < elems.length), bk y ≤ Rows.uptoBulk (elems[i].1) ∧ ((∀ n ∈ (elems[i].1).weights P e, n ≤ reachBytes) → φ y) := by
    intro i hi
    have h1 := hel i hi
    have hi' : i < elems.length := by omega
    rw [List.getElem?_eq_getElem hi', Option.bind_eq_some_iff] at h1
    obtain ⟨cs', hc', ht'⟩ := h1
    obtain ⟨_, hcl, hat⟩ := World.cells?_some hc'
    obtain ⟨y, hy1, hy2⟩ := hR H enc w spare held n cs' _ ht'
    exact ⟨y, ⟨cs', hcl, fun j hj => hat j hj, hy1⟩, fun _ => hy2⟩
   obtain ⟨l, hll, hp⟩ := exists_list len _ each
   obtain ⟨xs, hxl, hx⟩ := exists_list (len * C.n) (fun j (u : Value) => w.cell? (a.add j) = some u) (fun j hj => by
    have hq : j / C.n < len := (Nat.div_lt_iff_lt_mul C.pos).2 hj
    obtain ⟨y, ⟨cs', hcl, hat, _⟩, _⟩ := each _ hq
    have hm := Nat.mod_lt j C.pos
    have hc := hat (j % C.n) hm
    rw [add_add'] at hc
    have hdm := Nat.div_add_mod j C.n
    rw [Nat.mul_comm] at hdm
    rw [hdm] at hc
    rw [List.getElem?_eq_getElem (by omega)] at hc
    exact ⟨_, hc⟩)
   refine ⟨l, ⟨_, rfl, some a, len, cap, xs, rfl, hll.symm, hl, hm, ⟨by rw [hxl, hll], fun i hi => ?_⟩, fun h0 => ?_⟩, ?_, fun hw => ⟨?_, fun y hy => ?_⟩⟩
   ·obtain ⟨⟨cs', hcl, hat, hrd⟩, _⟩ := hp i hi
    have hik : (i + 1) * C.n ≤ len * C.n := Nat.mul_le_mul_right _ (by omega)
    rw [Nat.add_mul, Nat.one_mul] at hik
    have : (xs.drop (i * C.n)).take C.n = cs' := by
     apply List.ext_getElem?
     intro j
     by_cases hj : j < C.n
     ·rw [List.getElem?_take, if_pos hj, List.getElem?_drop, ← hat j hj, add_add', hx (i * C.n + j) (by omega), List.getElem?_eq_getElem (by omega)]
     ·rw [List.getElem?_eq_none (by rw [List.length_take]; omega), List.getElem?_eq_none (by omega)]
    rw [this]
    exact hrd
   ·have hp := C.pos
    have h00 : 0 < xs.length := by rw [hxl]; exact Nat.mul_pos h0 hp
    have hc0 := hx 0 h00
    have hspot : a.spot = none := by
     have : a.add 0 = a := by simp [Addr.add]
     rw [this] at hc0
     exact World.cell?_spot hc0
    obtain ⟨b, off, spot⟩ := a
    simp only at hspot
    subst hspot
    have hlt := World.block_lt_of_cell? w _ hc0
    refine ⟨b, off, rfl, fun h => h.elim, by simpa [Addr.add] using hlt, fun j u hu => ?_⟩
    have hj : j < xs.length := (List.getElem?_eq_some_iff.1 hu).1
    have := hx j hj
    rw [Addr.add_lit] at this
    rw [this, ← hu, List.getElem?_eq_getElem hj]
   ·have := sum_le_of bk (fun y : DataW H × List MemPlace => Rows.uptoBulk y.1) l elems (by omega) fun i h1 h2 => ((hp i h1).2 h2).1
    simp only [Rows.uptoBulk, bulk_all, List.map_map]
    have e : (Rows.uptoBulk ∘ fun x : DataW H × List MemPlace => x.1) = fun y : DataW H × List MemPlace => Rows.uptoBulk y.1 := rfl
    rw [e]
    omega
   ·have := hw ((elems.map fun x => x.1).length * P.bytesOf e + rest.length * P.bytesOf e) (by
     simp only [DataW.weights, ht]
     rw [← Nat.add_mul, List.length_map]
     simp)
    rw [List.length_map, show elems.length = l.length by omega] at this
    omega
   ·obtain ⟨i, hi, rfl⟩ := List.mem_iff_getElem.1 hy
    have hi' : i < elems.length := by omega
    refine ((hp i hi).2 hi').2 fun n hn => hw n ?_
    simp only [DataW.weights, ht, List.mem_cons, List.mem_append]
    exact .inr (.inl (weights_all (List.mem_map_of_mem (List.getElem_mem hi')) n hn))⟩
theorem readsS_struct2 {P : Program} {t : TypeId} {f0 f1 : Field} {α β : Type} {C : Codec α} {D : Codec β} {bc : α → Nat} {bd : β → Nat} {φ : α → Prop} {ψ : β → Prop} (hC : ReadsS P f0.type C bc φ) (hD : ReadsS P f1.type D bd ψ)
  (ht : P.underlying t = some (.struct #[f0, f1])) (hc : P.cellsOf t = C.n + D.n) (h0 : f0.offset = 0) (h1 : f1.offset = C.n) : ReadsS P t (pairC C D) (fun p => bc p.1 + bd p.2) (fun p => φ p.1 ∧ ψ p.2) :=
 ⟨hc, fun H enc w spare held fuel cs x h => by
  obtain ⟨xs, n, rfl, rfl, hl, hn, hf⟩ := DataW.trod_struct ht h
  obtain ⟨kC, rC⟩ := hC
  obtain ⟨kD, rD⟩ := hD
  match xs, hn with
  | [x0, x1], _ =>
   have e0 := hf 0 f0 rfl
   have e1 := hf 1 f1 rfl
   rw [h0, List.drop_zero, kC] at e0
   rw [h1, kD] at e1
   obtain ⟨a, ha, ba, sa⟩ := rC H enc w spare held n _ x0 e0
   obtain ⟨b, hb, bb, sb⟩ := rD H enc w spare held n _ x1 e1
   refine ⟨(a, b), ⟨_, _, ?_, ha, hb⟩, ?_, fun hw => ⟨sa fun m hm => hw m ?_, sb fun m hm => hw m ?_⟩⟩
   ·rw [List.take_of_length_le (l := cs.drop C.n) (by rw [List.length_drop, hl, hc]; omega), List.take_append_drop]
   ·simp only [Rows.uptoBulk, bulk_all, List.map_cons, List.map_nil, List.sum_cons, List.sum_nil]
    omega
   ·simp only [DataW.weights, ht]
    simp [DataW.weightsEach, hm]
   ·simp only [DataW.weights, ht]
    simp [DataW.weightsEach, hm]⟩
theorem readsS_arg {P : Program} {t : TypeId} {α : Type} {C : Codec α} {bk : α → Nat} {φ : α → Prop} (hR : ReadsS P t C bk φ) {H : Type} {enc : TypeId × Value → H} {w : World} {spare : Nat → Bool} {held : Bool} {cs : List Value} {d : DataW H} {p : List MemPlace}
  (h : ∃ fuel, DataW.trod enc P w 0 spare held fuel t cs = some (d, p)) : ∃ a : α, C.rd M0 w cs a ∧ bk a ≤ Rows.uptoBulk d ∧ ((∀ n ∈ d.weights P t, n ≤ reachBytes) → φ a) := by
 obtain ⟨fuel, h⟩ := h
 exact hR.2 H enc w spare held fuel cs _ h
theorem sized_arg {H : Type} {P : Program} {ts : List TypeId} {ds : List (DataW H)} (h : (DataW.weightsEach P ts ds).all (· ≤ reachBytes) = true) {j : Nat} {t : TypeId} {d : DataW H} (ht : ts[j]? = some t) (hd : ds[j]? = some d) : ∀ n ∈ d.weights P t, n ≤ reachBytes := fun n hn => by
 have := List.all_eq_true.1 h _ (DataW.weights_mem_each ht hd n hn)
 simpa using this
end Go.Proofs.YtnlhocbaighedaaGreatDoor
