/-
  Contracts and plain facts, one after another: Where the stem of a word occurs in a text: (search.finder).places; (search.finder).prefix, near and phrase; (search.finder).near and phrase; What the laws of searching say, plain: the logic of queries; other texts do not matter; what is added is found; The reference's Levels.
-/
import Derived.Test.YtnlhocbaighedaaGreatDoorR15
import Derived.Test.YtnlhocbaighedaaGreatDoorR14
import Derived.Test.YtnlhocbaighedaaGreatDoorR13
import Derived.Test.YtnlhocbaighedaaGreatDoorR8
import Derived.Test.YtnlhocbaighedaaGreatDoorQyNd
namespace Go.Proofs.YtnlhocbaighedaaGreatDoor
open Go.RowKit
set_option linter.unusedVariables false
theorem look_drop {V : Type} (l : List (Int × V)) (id : Int) {k : Nat} (hk : k < l.length) : Al.look (l.drop k) id = if l[k].1 = id then some l[k].2 else Al.look (l.drop (k + 1)) id := by
 rw [List.drop_eq_getElem_cons hk, Al.look]
set_option maxRecDepth 100000 in
set_option maxHeartbeats 4000000 in
theorem places_ok (a b : Value) (x : Ix.Idx) (word : Str) (id : Int) (w : World) (h0 : SlR intC M0 w a x.1) (h1 : SlR termC M0 w b x.2) (hc : Ix.Canon x) (hwl : word.length ≤ maxLen) :
  Calls Tryz.prog 80 #[.agg #[a, b], .string (bs word), .int .i64 id] w fun e w' => ∃ v, e = .returned v ∧ SlR intC M0 w' v (Sr.places x word id) ∧ Below w.heap.size w w' := by
 rw [Sr.places_eq]
 obtain ⟨A0, c0, rfl, _, _⟩ := h0.form
 obtain ⟨A1, c1, rfl, _, _⟩ := h1.form
 have hcs := hc.srt; have hcm := hc.many; have hsp : ∀ t ∈ x.2, t.2.length ≤ 1000000 ∧ ∀ p ∈ t.2, p.2.length ≤ 1000001 := hc.small.posts
 obtain ⟨W0, g, hW, hg, hs, kb, hal⟩ := boxA w #[.slice A0 x.1.length c0, .slice A1 x.2.length c1] 74
 have hof := fun V (hb : Below W0.heap.size W0 V) => indexOf_ok (.slice A0 x.1.length c0) (.slice A1 x.2.length c1) x.2 (Sm.stem word) V (h1.ext (hal.trans (hb.mono hal.size))) hcs hcm hsp
 obtain ⟨l, hl⟩ : ∃ l, (Al.look x.2 (Sm.stem word)).getD [] = l := ⟨_, rfl⟩
 rw [hl] at hof ⊢
 obtain ⟨n0, hn0⟩ : ∃ n, x.1.length = n := ⟨_, rfl⟩
 obtain ⟨n1, hn1⟩ : ∃ n, x.2.length = n := ⟨_, rfl⟩
 rw [hn0, hn1] at hof kb hW ⊢
 have hSS : ∀ W', Below W0.heap.size W0 W' → W'.cell? ⟨g, 0, none⟩ = some (.slice A0 n0 c0) ∧ W'.cell? ⟨g, 1, none⟩ = some (.slice A1 n1 c1) := fun W' hb => ⟨(kb.ext hb).two.1, (kb.ext hb).two.2.1⟩
 have HW := Lib.hid hW; have HS := Lib.hid hSS; have Hof := Lib.hid hof; have Hal := Lib.hid hal; have Hg := Lib.hid hg
 clear hW hSS hof hal hl h0 h1 hc hcs hcm hsp hn0 hn1 hs kb hg
 go_enter Tryz.func80, Tryz.ntmps80
 go_wp2_with fail
 rw [HW.out, Hg.out]
 have hS := HS.out _ (below_drewN' W0.heap.size W0 1)
 refine wp_region_D (fun W => W.cell? ⟨g, 0, none⟩ = some (.slice A0 n0 c0) ∧ W.cell? ⟨g, 1, none⟩ = some (.slice A1 n1 c1)) (fun _ => false) (by kernel_rfl) ?_
 change anyD _ _ _ _ _ _ _ _ _ (W0.drewN 1)
 have hbV := below_drewN' W0.heap.size W0 1
 generalize W0.drewN 1 = V0 at hS hbV ⊢
 (refine anyD_l5 (i := 0) (v := ?_) rfl (by kernel_rfl) (fun _ _ _ h => h) (.inl ⟨by kernel_rfl, fun W9 hW9 => ?_⟩) hS ?_; rotate_left; · (obtain ⟨hw0, hw1⟩ := hW9; go_simp; rfl))
 (refine anyD_l5 (i := 1) (v := ?_) rfl (by kernel_rfl) (fun _ _ _ h => h) (.inl ⟨by kernel_rfl, fun W9 hW9 => ?_⟩) hS ?_; rotate_left; · (obtain ⟨hw0, hw1⟩ := hW9; go_simp; rfl))
 (refine anyD_l5 (i := 2) (v := ?_) rfl (by kernel_rfl) (fun _ _ _ h => h) (.inl ⟨by kernel_rfl, fun W9 hW9 => ?_⟩) hS ?_; rotate_left; · (obtain ⟨hw0, hw1⟩ := hW9; go_simp; rfl))
 (refine anyD_l5 (i := 6) (v := ?_) rfl (by kernel_rfl) (fun _ _ _ h => h) (.inl ⟨by kernel_rfl, fun W9 hW9 => ?_⟩) hS ?_; rotate_left; · (obtain ⟨hw0, hw1⟩ := hW9; go_simp; rfl))
 go_simp
 refine anyD_one (i := 3) (by kernel_rfl) rfl rfl (fun K hK => ?_)
 have HK := Lib.hid hK
 clear hK
 unfold Oper.wp
 go_simp
 refine ((of_ok word hwl V0)).mono ?_
 rintro e w1 ⟨rfl, hb1⟩
 replace hbV := hbV.trans (hb1.mono hbV.size)
 clear hb1 hS
 have hS := HS.out _ hbV
 refine HK.out _ _ (fun _ => hS) ?_
 clear HK
 go_simp
 refine anyD_one (i := 4) (by kernel_rfl) rfl rfl (fun K hK => ?_)
 have HK := Lib.hid hK
 clear hK
 unfold Oper.wp
 go_simp
 refine ((Hof.out w1 hbV)).mono ?_
 rintro e w2 ⟨v, rfl, hv, hb2⟩
 obtain ⟨A2, c2, rfl, _, _⟩ := hv.form
 replace hbV := hbV.trans (hb2.mono hbV.size)
 have Hv := Lib.hid hv.zero
 clear hb2 hS hv
 have hS := HS.out _ hbV
 refine HK.out _ _ (fun _ => hS) ?_
 clear HK
 (refine anyD_l5 (i := 5) (v := ?_) rfl (by kernel_rfl) (fun _ _ _ h => h) (.inl ⟨by kernel_rfl, fun W9 hW9 => ?_⟩) hS ?_; rotate_left; · (obtain ⟨hw0, hw1⟩ := hW9; go_simp; rfl))
 go_simp
 refine anyD_done (by kernel_rfl) ?_ _
 have hb0 := Hal.out.trans (hbV.mono Hal.out.size)
 have hv := Hv.out
 obtain ⟨W2, rfl⟩ : ∃ W2, W2 = w2 := ⟨_, rfl⟩
 have Hb0 := Lib.hid hb0
 clear hS hbV HS Hof hb0
 obtain ⟨hlc, hcm⟩ := hv.lenM
 go_wp2_with fail
 go_loopw [15] (fun i wr => ∃ k : Nat, k ≤ l.length ∧ i = .int .i64 k ∧ Hid (Al.look (l.drop k) id = Al.look l id) ∧ Below W2.heap.size W2 wr) (fun i _ => l.length - (intOf i).toNat)
 case atStart => exact ⟨0, Nat.zero_le _, rfl, Lib.hid rfl, Below.refl _ _⟩
 case round =>
  obtain ⟨k, hk, rfl, hlo, hb⟩ := hrel
  by_cases hlt : k < l.length
  ·have hx1 := hv.ext hb
   obtain ⟨b, off, A3, c3, rfl, _, _, q0, q1, hl1, hl2, hsl⟩ := hx1.postAt hlt
   have hst := look_drop l id hlt
   obtain ⟨⟨i, ps⟩, hx⟩ : ∃ y, y = l[k] := ⟨_, rfl⟩
   rw [← hx] at q0 q1 hsl hst
   dsimp only at q0 q1 hsl hst
   have hab := (Below.refl wr.heap.size wr).alloc (Nat.le_refl _) (.cells #[.int .i64 i, .slice A3 ps.length c3] 64)
   obtain ⟨f0, f1, _, _, _⟩ := (Blk.new wr 64 #[.int .i64 i, .slice A3 ps.length c3]).two
   have Hst := Lib.hid hst; have Hsl := Lib.hid (hsl.ext hab); have Hb := Lib.hid (hb.trans (hab.mono hb.size))
   clear hst hsl hx hx1 hl1 hl2 hab hb
   by_cases e : i = id
   ·subst e
    have e' : (i == i) = true := by simp
    go_wp2_with fail
    go_ret
    refine ⟨_, rfl, ?_, Hb0.out.trans (Hb.out.mono Hb0.out.size)⟩
    rw [← hlo.out, Hst.out, if_true]
    exact Hsl.out
   ·have e' : (i == id) = false := by simpa using e
    go_wp2_with fail
    go_roundw
    case rel => exact ⟨k + 1, by omega, by go_num, Lib.hid (by rw [← hlo.out, Hst.out, if_neg e]), Hb.out⟩
    case measure => simp [intOf]; omega
  ·obtain rfl : k = l.length := by omega
   go_wp2_with fail
   go_ret
   refine ⟨_, rfl, ?_, Hb0.out.trans (hb.mono Hb0.out.size)⟩
   have := hlo.out
   rw [List.drop_length] at this
   rw [← this]
   exact SlR.nil _ _ _
end Go.Proofs.YtnlhocbaighedaaGreatDoor
namespace Go.Proofs.YtnlhocbaighedaaGreatDoor
open Go.RowKit
set_option linter.unusedVariables false
/-- slices.Contains of ints. -/
theorem contInt_ok (l : List Int) (v : Value) (x : Int) (w : World) (h : SlR intC M0 w v l) : Calls Tryz.prog 20 #[v, .int .i64 x] w fun e w' => e = .returned (.bool (l.contains x)) ∧ w' = w := by
 obtain ⟨A, c, rfl, hlc, hcm⟩ := h.form
 rcases Nat.eq_zero_or_pos l.length with h0 | h0
 ·obtain rfl := List.eq_nil_of_length_eq_zero h0
  exact (Tryz.slices_Contains_int_empty A c x w).mono fun e w' ⟨h1, h2⟩ => ⟨by rw [h1]; rfl, h2⟩
 ·obtain ⟨b, off, rfl, _, _, _⟩ := h.intAt h0
  unfold maxLen at hcm
  have := Tryz.slices_Contains_int b off l.length c l x w (Nat.le_refl _) (by omega) (fun j hj => by
   obtain ⟨b', off', he, _, _, hc, _⟩ := h.intAt hj
   injection he with he
   injection he with e1 e2
   subst e1 e2
   rw [hc, Ix.getD_get hj])
  rw [List.take_length] at this
  exact this
theorem pre11_ok (gI : Nat) (id : Int) (x : Int) (u : Value) (w : World) (hI : w.cell? ⟨gI, 0, none⟩ = some (.int .i64 id)) : Calls Tryz.prog 110 #[.agg #[.int .i64 x, u], .pointer (some ⟨gI, 0, none⟩)] w fun e w' => e = .returned (.bool (x == id)) ∧ Below w.heap.size w w' := by
 have hal := (Below.refl w.heap.size w).alloc (Nat.le_refl _) (.cells #[.int .i64 x, u] 64)
 obtain ⟨f0, f1, _, _, _⟩ := (Blk.new w 64 #[.int .i64 x, u]).two
 have hI' : (w.alloc (.cells #[.int .i64 x, u] 64)).cell? ⟨gI, 0, none⟩ = some (.int .i64 id) := (hal.cell (World.block_lt_of_cell? w _ hI)).trans hI
 go_enter Tryz.func110, Tryz.ntmps110
 go_wp2_with fail
 go_ret
 exact ⟨rfl, hal⟩
set_option maxHeartbeats 2000000 in
theorem pre1_ok (gS gI : Nat) (s : Str) (id : Int) (t : Ix.Term) (A : Option Addr) (c : Nat) (w : World) (hS : w.cell? ⟨gS, 0, none⟩ = some (.string (bs s))) (hI : w.cell? ⟨gI, 0, none⟩ = some (.int .i64 id)) (hv : SlR postC M0 w (.slice A t.2.length c) t.2) :
  Calls Tryz.prog 107 #[.agg #[.string (bs t.1), .slice A t.2.length c], .pointer (some ⟨gS, 0, none⟩), .pointer (some ⟨gI, 0, none⟩)] w fun e w' => e = .returned (.bool (s.isPrefixOf t.1 && t.2.any fun p => p.1 == id)) ∧ Below w.heap.size w w' := by
 obtain ⟨W, hW⟩ : ∃ W, w.alloc (.cells #[.string (bs t.1), .slice A t.2.length c] 62) = W := ⟨_, rfl⟩
 have hal : Below w.heap.size w W := by rw [← hW]; exact (Below.refl w.heap.size w).alloc (Nat.le_refl _) _
 have kb : Blk W w.heap.size 62 #[.string (bs t.1), .slice A t.2.length c] := by rw [← hW]; exact Blk.new w _ _
 obtain ⟨f0, f1, _, _, _⟩ := kb.two
 have hS' : W.cell? ⟨gS, 0, none⟩ = some (.string (bs s)) := (hal.cell (World.block_lt_of_cell? w _ hS)).trans hS
 have hI' : W.cell? ⟨gI, 0, none⟩ = some (.int .i64 id) := (hal.cell (World.block_lt_of_cell? w _ hI)).trans hI
 have hp := Tryz.strings_HasPrefix (bs t.1) (bs s) W
 have e1 : (bs t.1).data.toList = t.1 := by simp [bs]
 have e2 : (bs s).data.toList = s := by simp [bs]
 rw [e1, e2] at hp
 have hpe : Lib.hasPrefix t.1 s = s.isPrefixOf t.1 := rfl
 rw [hpe] at hp
 obtain ⟨b, hb⟩ : ∃ b, s.isPrefixOf t.1 = b := ⟨_, rfl⟩
 rw [hb] at hp ⊢
 have hcont := postCont_ok 110 #[.pointer (some ⟨gI, 0, none⟩)] (fun p => p.1 == id) t.2 _ W (hv.ext hal) (fun args w => enters_of Tryz.func110 (by kernel_rfl) rfl args w)
  (fun x A2 c2 w1 _ hb1 _ _ _ => by
   have := pre11_ok gI id x.1 (.slice A2 x.2.length c2) w1 ((hb1.cell (World.block_lt_of_cell? W _ hI')).trans hI')
   simpa using this)
 have HW := Lib.hid hW; have Hp := Lib.hid hp; have Hcont := Lib.hid hcont
 clear hp hcont hb e1 e2 hpe hS hI kb hv
 rw [← hW] at f0 f1 hS' hI'
 clear hW
 go_enter Tryz.func107, Tryz.ntmps107
 go_wp2_with fail
 rw [HW.out]
 refine Hp.out.mono ?_
 rintro e w1 ⟨rfl, rfl⟩
 rw [HW.out] at f0 f1 hS' hI'
 cases b with
 | false =>
  go_wp2_with fail
  go_ret
  exact ⟨rfl, hal⟩
 | true =>
  go_wp2_with fail
  refine Hcont.out.mono ?_
  rintro e w2 ⟨rfl, hb2⟩
  go_wp2_with fail
  go_ret
  exact ⟨rfl, hal.trans (hb2.mono hal.size)⟩
theorem box3 (w : World) (c0 c1 c2 : Array Value) (t0 t1 t2 : TypeId) : ∃ W g, ((w.alloc (.cells c0 t0)).alloc (.cells c1 t1)).alloc (.cells c2 t2) = W ∧ w.heap.size = g ∧ W.heap.size = g + 1 + 1 + 1 ∧ Blk W g t0 c0 ∧ Blk W (g + 1) t1 c1 ∧ Blk W (g + 1 + 1) t2 c2 ∧ Below w.heap.size w W := by
 have e1 : (w.alloc (.cells c0 t0)).heap.size = w.heap.size + 1 := World.size_alloc ..
 have e2 : ((w.alloc (.cells c0 t0)).alloc (.cells c1 t1)).heap.size = w.heap.size + 1 + 1 := by rw [World.size_alloc, e1]
 have k1 := Blk.new (w.alloc (.cells c0 t0)) t1 c1
 have k2 := Blk.new ((w.alloc (.cells c0 t0)).alloc (.cells c1 t1)) t2 c2
 rw [e1] at k1
 rw [e2] at k2
 exact ⟨_, _, rfl, rfl, by rw [World.size_alloc, e2], ((Blk.new w t0 c0).alloc _).alloc _, k1.alloc _, k2, (((Below.refl _ w).alloc (Nat.le_refl _) _).alloc (by omega) _).alloc (by omega) _⟩
set_option maxHeartbeats 2000000 in
theorem prefix_ok (a b : Value) (x : Ix.Idx) (s : Str) (id : Int) (w : World) (h1 : SlR termC M0 w b x.2) (ha : ∃ A n c, a = .slice A n c) :
  Calls Tryz.prog 81 #[.agg #[a, b], .string (bs s), .int .i64 id] w fun e w' => e = .returned (.bool (Sr.prefixF x s id)) ∧ Below w.heap.size w w' := by
 obtain ⟨A0, n0, c0, rfl⟩ := ha
 obtain ⟨A1, c1, rfl, _, _⟩ := h1.form
 obtain ⟨W, g, hW, hg, hs, kb, kS, kI, hal⟩ := box3 w #[.slice A0 n0 c0, .slice A1 x.2.length c1] #[.string (bs s)] #[.int .i64 id] 74 9 3
 obtain ⟨f0, f1, _, _, _⟩ := kb.two
 have hcont := termCont_ok 107 #[.pointer (some ⟨g + 1, 0, none⟩), .pointer (some ⟨g + 1 + 1, 0, none⟩)] (fun t => s.isPrefixOf t.1 && t.2.any fun p => p.1 == id) x.2 _ W (h1.ext hal) (fun args w => enters_of Tryz.func107 (by kernel_rfl) rfl args w)
  (fun t A2 c2 w1 _ hb1 _ hv => by
   have := pre1_ok (g + 1) (g + 1 + 1) s id t A2 c2 w1 (kS.ext hb1).one.1 (kI.ext hb1).one.1 hv
   simpa using this)
 have HW := Lib.hid hW; have Hcont := Lib.hid hcont
 rw [← hW] at f0 f1
 clear hcont hW kb kS kI h1
 unfold Sr.prefixF
 go_enter Tryz.func81, Tryz.ntmps81
 go_wp2_with fail
 rw [HW.out]
 refine Hcont.out.mono ?_
 rintro e w2 ⟨rfl, hb2⟩
 clear f0 f1
 go_wp2_with fail
 go_ret
 exact ⟨rfl, hal.trans (hb2.mono hal.size)⟩
/-! ### near -/
theorem wrap_sub (a b : Int) (ha : 0 ≤ a ∧ a ≤ 1000000) (hb : 0 ≤ b ∧ b ≤ 1000000) : IntKind.i64.wrap (a - b) = a - b := IntWalk.i64_in _ (by omega)
set_option maxHeartbeats 2000000 in
theorem near11_ok (gA gM : Nat) (i most k : Int) (w : World) (hA : w.cell? ⟨gA, 0, none⟩ = some (.int .i64 i)) (hM : w.cell? ⟨gM, 0, none⟩ = some (.int .i64 most)) (hi : 0 ≤ i ∧ i ≤ 1000000) (hk : 0 ≤ k ∧ k ≤ 1000000) :
  Calls Tryz.prog 114 #[.int .i64 k, .pointer (some ⟨gA, 0, none⟩), .pointer (some ⟨gM, 0, none⟩)] w fun e w' => e = .returned (.bool ((!(k == i) && decide (k - i ≤ most)) && decide (i - k ≤ most))) ∧ Below w.heap.size w w' := by
 have w1 := wrap_sub k i hk hi
 have w2 := wrap_sub i k hi hk
 by_cases e : k = i
 ·have e' : (k != i) = false := by simp [e]
  have e2 : (k == i) = true := by simp [e]
  rw [e2]
  go_enter Tryz.func114, Tryz.ntmps114
  go_wp2_with fail
  go_ret
  exact ⟨rfl, Below.refl _ _⟩
 ·have e' : (k != i) = true := by simp [e]
  have e2 : (k == i) = false := by simp [e]
  rw [e2]
  by_cases h1 : k - i ≤ most
  ·rw [decide_eq_true h1]
   go_enter Tryz.func114, Tryz.ntmps114
   go_wp2_with fail
   go_ret
   exact ⟨by simp, Below.refl _ _⟩
  ·rw [decide_eq_false h1]
   go_enter Tryz.func114, Tryz.ntmps114
   go_wp2_with fail
   go_ret
   exact ⟨rfl, Below.refl _ _⟩
end Go.Proofs.YtnlhocbaighedaaGreatDoor
namespace Go.Proofs.YtnlhocbaighedaaGreatDoor
open Go.RowKit
set_option linter.unusedVariables false
/-- a place's range -/
theorem place_range {x : Ix.Idx} (hc : Ix.Canon x) {word : Str} {id n : Int} (h : n ∈ Sr.places x word id) : 0 ≤ n ∧ n ≤ 1000000 := by
 unfold Sr.places at h
 obtain ⟨t, ht, hw, p, hp, rfl, e⟩ := Ix.mem_cont (List.ne_nil_of_mem h)
 rw [← hw, Ix.cont_mem hc.wf ht hp] at h
 exact ((hc.post t ht).2.2 p hp).2.2.2 n h
set_option maxHeartbeats 2000000 in
theorem near1_ok (gK gM : Nat) (i most : Int) (v : Value) (l : List Int) (w : World) (hK : w.cell? ⟨gK, 0, none⟩ = some v) (hv : SlR intC M0 w v l) (hM : w.cell? ⟨gM, 0, none⟩ = some (.int .i64 most)) (hi : 0 ≤ i ∧ i ≤ 1000000) (hl : ∀ k ∈ l, 0 ≤ k ∧ k ≤ 1000000) :
  Calls Tryz.prog 113 #[.int .i64 i, .pointer (some ⟨gK, 0, none⟩), .pointer (some ⟨gM, 0, none⟩)] w fun e w' => e = .returned (.bool (l.any fun k => (!(k == i) && decide (k - i ≤ most)) && decide (i - k ≤ most))) ∧ Below w.heap.size w w' := by
 obtain ⟨A, c, rfl, _, _⟩ := hv.form
 obtain ⟨W, g, hW, hg, hs, kb, hal⟩ := boxA w #[.int .i64 i] 3
 have hK' : W.cell? ⟨gK, 0, none⟩ = some (.slice A l.length c) := (hal.cell (World.block_lt_of_cell? w _ hK)).trans hK
 have hM' : W.cell? ⟨gM, 0, none⟩ = some (.int .i64 most) := (hal.cell (World.block_lt_of_cell? w _ hM)).trans hM
 have hcont := intCont_ok 114 #[.pointer (some ⟨g, 0, none⟩), .pointer (some ⟨gM, 0, none⟩)] (fun k => (!(k == i) && decide (k - i ≤ most)) && decide (i - k ≤ most)) l _ W (hv.ext hal) (fun args w => enters_of Tryz.func114 (by kernel_rfl) rfl args w)
  (fun k w1 hk hb1 _ _ => by
   have := near11_ok g gM i most k w1 (kb.ext hb1).one.1 ((hb1.cell (World.block_lt_of_cell? W _ hM')).trans hM') hi (hl k hk)
   simpa using this)
 have HW := Lib.hid hW; have Hcont := Lib.hid hcont
 rw [← hW] at hK'
 clear hcont hW hK hM hM' kb hv
 go_enter Tryz.func113, Tryz.ntmps113
 go_wp2_with fail
 rw [HW.out]
 refine Hcont.out.mono ?_
 rintro e w2 ⟨rfl, hb2⟩
 clear hK'
 go_wp2_with fail
 go_ret
 exact ⟨rfl, hal.trans (hb2.mono hal.size)⟩
set_option maxHeartbeats 4000000 in
theorem near_ok (a b : Value) (x : Ix.Idx) (s t : Str) (most id : Int) (w : World) (h0 : SlR intC M0 w a x.1) (h1 : SlR termC M0 w b x.2) (hc : Ix.Canon x) (hs : s.length ≤ maxLen) (ht : t.length ≤ maxLen) :
  Calls Tryz.prog 83 #[.agg #[a, b], .string (bs s), .string (bs t), .int .i64 most, .int .i64 id] w fun e w' => e = .returned (.bool (Sr.nearF x s t most id)) ∧ Below w.heap.size w w' := by
 unfold Sr.nearF
 obtain ⟨A0, c0, rfl, _, _⟩ := h0.form
 obtain ⟨A1, c1, rfl, _, _⟩ := h1.form
 obtain ⟨W, g, hW, hg, hs1, kb, kM, hal⟩ := boxPair w #[.slice A0 x.1.length c0, .slice A1 x.2.length c1] 74 #[.int .i64 most] 3
 have hpl := fun word (hw : word.length ≤ maxLen) V (hb : Below W.heap.size W V) => places_ok (.slice A0 x.1.length c0) (.slice A1 x.2.length c1) x word id V (h0.ext (hal.trans (hb.mono hal.size))) (h1.ext (hal.trans (hb.mono hal.size))) hc hw
 have hps := hpl s hs
 have hpt := hpl t ht W (Below.refl _ _)
 have hrs : ∀ n ∈ Sr.places x s id, 0 ≤ n ∧ n ≤ 1000000 := fun n hn => place_range hc hn
 have hrt : ∀ n ∈ Sr.places x t id, 0 ≤ n ∧ n ≤ 1000000 := fun n hn => place_range hc hn
 obtain ⟨ps, hps'⟩ : ∃ l, Sr.places x s id = l := ⟨_, rfl⟩
 obtain ⟨pt, hpt'⟩ : ∃ l, Sr.places x t id = l := ⟨_, rfl⟩
 rw [hps'] at hps hrs ⊢
 rw [hpt'] at hpt hrt ⊢
 obtain ⟨n0, hn0⟩ : ∃ n, x.1.length = n := ⟨_, rfl⟩
 obtain ⟨n1, hn1⟩ : ∃ n, x.2.length = n := ⟨_, rfl⟩
 rw [hn0, hn1] at hps hpt kb hW ⊢
 obtain ⟨f0, f1, _, _, _⟩ := kb.two
 have HW := Lib.hid hW; have Hps := Lib.hid hps; have Hpt := Lib.hid hpt; have Hal := Lib.hid hal; have Hrs := Lib.hid hrs; have Hrt := Lib.hid hrt
 rw [← hW] at f0 f1
 clear hps hpt hW hpl h0 h1 hal hrs hrt hps' hpt' hn0 hn1
 go_enter Tryz.func83, Tryz.ntmps83
 go_wp2_with fail
 rw [HW.out]
 refine Hpt.out.mono ?_
 rintro e w2 ⟨v, rfl, hv, hb2⟩
 obtain ⟨A2, c2, rfl, _, _⟩ := hv.form
 obtain ⟨V, gk, hV, hgk, hsk, kk, hbk⟩ := boxA w2 #[.slice A2 pt.length c2] 22
 have hbv := hb2.trans (hbk.mono hb2.size)
 obtain ⟨e0, e1, _, _, _⟩ := (kb.ext hbv).two
 have kM2 := kM.ext hbv
 have hvv := hv.ext hbk
 have HV := Lib.hid hV; have Hbv := Lib.hid hbv; have Hvv := Lib.hid hvv
 rw [← hV] at e0 e1
 clear f0 f1 hV hbv hv hvv hb2 hbk
 go_wp2_with fail
 rw [HV.out]
 refine (Hps.out V Hbv.out).mono ?_
 rintro e w3 ⟨v3, rfl, hv3, hb3⟩
 obtain ⟨A3, c3, rfl, _, _⟩ := hv3.form
 have hcont := intCont_ok 113 #[.pointer (some ⟨gk, 0, none⟩), .pointer (some ⟨g + 1, 0, none⟩)] (fun i => pt.any fun k => (!(k == i) && decide (k - i ≤ most)) && decide (i - k ≤ most)) ps _ w3 hv3 (fun args w => enters_of Tryz.func113 (by kernel_rfl) rfl args w)
  (fun i w1 hi hb1 _ _ => by
   have hb31 := hb3.trans (hb1.mono hb3.size)
   have := near1_ok gk (g + 1) i most (.slice A2 pt.length c2) pt w1 (kk.ext hb31).one.1 (Hvv.out.ext hb31) (kM2.ext hb31).one.1 (Hrs.out i hi) Hrt.out
   simpa using this)
 have Hcont := Lib.hid hcont
 clear hcont hv3 e0 e1
 go_wp2_with fail
 refine Hcont.out.mono ?_
 rintro e w4 ⟨rfl, hb4⟩
 go_wp2_with fail
 go_ret
 have h1 := Hbv.out.trans (hb3.mono Hbv.out.size)
 exact ⟨rfl, Hal.out.trans ((h1.trans (hb4.mono h1.size)).mono Hal.out.size)⟩
/-! ### phrase -/
theorem rowAt_step (x : Ix.Idx) (id a : Int) (l : List Str) {k : Nat} (hk : k < l.length) : Sr.rowAt x id a (l.drop k) (k : Int) = ((Sr.places x l[k] id).contains (a + (k : Int)) && Sr.rowAt x id a (l.drop (k + 1)) ((k + 1 : Nat) : Int)) := by
 rw [List.drop_eq_getElem_cons hk, Sr.rowAt]
 have : ((k + 1 : Nat) : Int) = (k : Int) + 1 := by omega
 rw [this]
set_option maxRecDepth 100000 in
set_option maxHeartbeats 4000000 in
theorem phrase1_ok (g : Nat) (A0 A1 : Option Addr) (c0 c1 : Nat) (x : Ix.Idx) (l : List Str) (v : Value) (id at_ : Int) (w : World) (h0 : SlR intC M0 w (.slice A0 x.1.length c0) x.1) (h1 : SlR termC M0 w (.slice A1 x.2.length c1) x.2) (hc : Ix.Canon x)
  (kb : Blk w g 74 #[.slice A0 x.1.length c0, .slice A1 x.2.length c1]) (kL : Blk w (g + 1) 53 #[v]) (kI : Blk w (g + 1 + 1) 3 #[.int .i64 id]) (hv : SlR strC M0 w v l) (hl : l.length ≤ 4000000) (ha : 0 ≤ at_ ∧ at_ ≤ 1000000) :
  Calls Tryz.prog 112 #[.int .i64 at_, .pointer (some ⟨g + 1, 0, none⟩), .pointer (some ⟨g, 0, none⟩), .pointer (some ⟨g + 1 + 1, 0, none⟩)] w fun e w' => e = .returned (.bool (Sr.rowAt x id at_ l 0)) ∧ Below w.heap.size w w' := by
 obtain ⟨A, c, rfl, _, _⟩ := hv.form
 obtain ⟨hlc, hcm⟩ := hv.lenM
 obtain ⟨q0, _, _⟩ := kL.one
 have hpl := fun word (hw : word.length ≤ maxLen) V (hb : Below w.heap.size w V) => places_ok (.slice A0 x.1.length c0) (.slice A1 x.2.length c1) x word id V (h0.ext hb) (h1.ext hb) hc hw
 obtain ⟨n0, hn0⟩ : ∃ n, x.1.length = n := ⟨_, rfl⟩
 obtain ⟨n1, hn1⟩ : ∃ n, x.2.length = n := ⟨_, rfl⟩
 rw [hn0, hn1] at hpl kb
 have Hpl := Lib.hid hpl
 obtain ⟨res, hres⟩ : ∃ r, Sr.rowAt x id at_ l 0 = r := ⟨_, rfl⟩
 rw [hres]
 have Hres := Lib.hid hres
 clear hpl h0 h1 hc hres hn0 hn1
 go_enter Tryz.func112, Tryz.ntmps112
 go_wp2_with fail
 clear q0
 go_loopw [10] (fun i wr => ∃ k : Nat, k ≤ l.length ∧ i = .int .i64 k ∧ Hid (Sr.rowAt x id at_ (l.drop k) (k : Int) = res) ∧ Below w.heap.size w wr) (fun i _ => l.length - (intOf i).toNat)
 case atStart => exact ⟨0, Nat.zero_le _, rfl, Lib.hid Hres.out, Below.refl _ _⟩
 case round =>
  obtain ⟨k, hk, rfl, hro, hb⟩ := hrel
  by_cases hlt : k < l.length
  ·have hx1 := hv.ext hb
   obtain ⟨b, off, rfl, _, _, q0, hl1⟩ := hx1.strAt hlt
   have hst := rowAt_step x id at_ l hlt
   obtain ⟨y, hy⟩ : ∃ y, y = l[k] := ⟨_, rfl⟩
   rw [← hy] at q0 hl1 hst
   have hcall := Hpl.out y hl1 wr hb
   obtain ⟨f0, f1, _, _, _⟩ := (kb.ext hb).two
   obtain ⟨i0, _, _⟩ := (kI.ext hb).one
   obtain ⟨pl, hpl'⟩ : ∃ p, Sr.places x y id = p := ⟨_, rfl⟩
   rw [hpl'] at hcall hst
   have hwr : IntKind.i64.wrap (at_ + (k : Int)) = at_ + (k : Int) := IntWalk.i64_in _ (by omega)
   have Hcall := Lib.hid hcall; have Hst := Lib.hid hst; have Hb := Lib.hid hb
   clear hcall hst hy hpl' hx1 hb
   go_wp2_with fail
   refine Hcall.out.mono ?_
   rintro e w2 ⟨v2, rfl, hv2, hb2⟩
   have hb02 := Hb.out.trans (hb2.mono Hb.out.size)
   have hct := contInt_ok pl v2 (at_ + (k : Int)) w2 hv2
   obtain ⟨A2, c2, rfl, _, _⟩ := hv2.form
   obtain ⟨t, htt⟩ : ∃ t, pl.contains (at_ + (k : Int)) = t := ⟨_, rfl⟩
   rw [htt] at hct
   rw [htt] at Hst
   have Hct := Lib.hid hct
   clear hct htt hv2 f0 f1 i0 q0 hl1
   go_wp2_with fail
   refine Hct.out.mono ?_
   rintro e w3 ⟨rfl, rfl⟩
   cases t with
   | true =>
    go_wp2_with fail
    go_roundw
    case rel => exact ⟨k + 1, by omega, by go_num, Lib.hid (by rw [← hro.out, Hst.out, Bool.true_and]), hb02⟩
    case measure => simp [intOf]; omega
   | false =>
    have hr0 : res = false := by rw [← hro.out, Hst.out]; rfl
    subst hr0
    go_wp2_with fail
    go_ret
    exact ⟨rfl, hb02⟩
  ·obtain rfl : k = l.length := by omega
   have hr0 : res = true := by
    have := hro.out
    rw [List.drop_length] at this
    rw [← this]; rfl
   subst hr0
   go_wp2_with fail
   go_ret
   exact ⟨rfl, hb⟩
set_option maxRecDepth 100000 in
set_option maxHeartbeats 4000000 in
theorem phrase_ok (a b v : Value) (x : Ix.Idx) (l : List Str) (id : Int) (w : World) (h0 : SlR intC M0 w a x.1) (h1 : SlR termC M0 w b x.2) (hc : Ix.Canon x) (hv : SlR strC M0 w v l) (hl0 : 0 < l.length) (hl : l.length ≤ 4000000) :
  Calls Tryz.prog 82 #[.agg #[a, b], v, .int .i64 id] w fun e w' => e = .returned (.bool (Sr.phraseF x l id)) ∧ Below w.heap.size w w' := by
 obtain ⟨A0, c0, rfl, _, _⟩ := h0.form
 obtain ⟨A1, c1, rfl, _, _⟩ := h1.form
 obtain ⟨Al, cl, rfl, hlc, hcm⟩ := hv.form
 obtain ⟨bl, ol, rfl, _, _, q0, hly⟩ := hv.strAt hl0
 unfold maxLen at hcm
 obtain ⟨W, g, hW, hg, hs, kb, kL, kI, hal⟩ := box3 w #[.slice A0 x.1.length c0, .slice A1 x.2.length c1] #[.slice (some ⟨bl, ol, none⟩) l.length cl] #[.int .i64 id] 74 53 3
 have hhd : l.headD [] = l[0] := by cases l with | nil => simp at hl0 | cons a r => rfl
 have hph : Sr.phraseF x l id = (Sr.places x l[0] id).any fun a => Sr.rowAt x id a l 0 := by unfold Sr.phraseF; rw [hhd]
 rw [hph]
 obtain ⟨y, hy⟩ : ∃ y, y = l[0] := ⟨_, rfl⟩
 rw [← hy] at q0 hly ⊢
 simp only [Nat.add_zero] at q0
 have hp := fun V (hb : Below W.heap.size W V) => places_ok (.slice A0 x.1.length c0) (.slice A1 x.2.length c1) x y id V (h0.ext (hal.trans (hb.mono hal.size))) (h1.ext (hal.trans (hb.mono hal.size))) hc hly
 have hrg : ∀ n ∈ Sr.places x y id, 0 ≤ n ∧ n ≤ 1000000 := fun n hn => place_range hc hn
 obtain ⟨pl, hpl⟩ : ∃ p, Sr.places x y id = p := ⟨_, rfl⟩
 rw [hpl] at hp hrg ⊢
 have hcc : ∀ V u, Below W.heap.size W V → SlR intC M0 V u pl → Calls Tryz.prog 111 #[u, .func (.func 112) #[] #[.pointer (some ⟨g + 1, 0, none⟩), .pointer (some ⟨g, 0, none⟩), .pointer (some ⟨g + 1 + 1, 0, none⟩)]] V fun e w' => e = .returned (.bool (pl.any fun a => Sr.rowAt x id a l 0)) ∧ Below V.heap.size V w' := fun V u hb hu =>
  intCont_ok 112 #[.pointer (some ⟨g + 1, 0, none⟩), .pointer (some ⟨g, 0, none⟩), .pointer (some ⟨g + 1 + 1, 0, none⟩)] (fun a => Sr.rowAt x id a l 0) pl u V hu (fun args w => enters_of Tryz.func112 (by kernel_rfl) rfl args w)
   (fun i w1 hi hb1 _ _ => by
    have hb01 := hb.trans (hb1.mono hb.size)
    have hb02 := hal.trans (hb01.mono hal.size)
    have := phrase1_ok g A0 A1 c0 c1 x l (.slice (some ⟨bl, ol, none⟩) l.length cl) id i w1 (h0.ext hb02) (h1.ext hb02) hc (kb.ext hb01) (kL.ext hb01) (kI.ext hb01) (hv.ext hb02) hl (hrg i hi)
    simpa using this)
 obtain ⟨res, hres⟩ : ∃ r, (pl.any fun a => Sr.rowAt x id a l 0) = r := ⟨_, rfl⟩
 simp only [hres] at hcc
 rw [hres]
 have hq0 : W.cell? ⟨bl, ol, none⟩ = some (.string (bs y)) := (hal.cell (World.block_lt_of_cell? w _ q0)).trans q0
 obtain ⟨ll, hll⟩ : ∃ n, l.length = n := ⟨_, rfl⟩
 rw [hll] at kL hW hl0 hlc ⊢
 have hSS : ∀ W', Below W.heap.size W W' → W'.cell? ⟨g, 0, none⟩ = some (.slice A0 x.1.length c0) ∧ W'.cell? ⟨g, 1, none⟩ = some (.slice A1 x.2.length c1) ∧ W'.cell? ⟨g + 1, 0, none⟩ = some (.slice (some ⟨bl, ol, none⟩) ll cl) ∧ W'.cell? ⟨g + 1 + 1, 0, none⟩ = some (.int .i64 id) ∧ W'.cell? ⟨bl, ol, none⟩ = some (.string (bs y)) := fun W' hb => ⟨(kb.ext hb).two.1, (kb.ext hb).two.2.1, (kL.ext hb).one.1, (kI.ext hb).one.1, (hb.cell (World.block_lt_of_cell? W _ hq0)).trans hq0⟩
 have hz0 : (0 : Int) < (ll : Int) := by omega
 have HW := Lib.hid hW; have HS := Lib.hid hSS; have Hp := Lib.hid hp; have Hc := Lib.hid hcc; have Hal := Lib.hid hal
 clear hW hSS hp hcc hal hll hres hpl hrg hy hph hhd h0 h1 hc hv kb kL kI hs q0 hq0
 go_enter Tryz.func82, Tryz.ntmps82
 go_wp2_with fail
 rw [HW.out]
 have hS := HS.out _ (below_drewN' W.heap.size W 1)
 refine wp_region_D (fun W => W.cell? ⟨g, 0, none⟩ = some (.slice A0 x.1.length c0) ∧ W.cell? ⟨g, 1, none⟩ = some (.slice A1 x.2.length c1) ∧ W.cell? ⟨g + 1, 0, none⟩ = some (.slice (some ⟨bl, ol, none⟩) ll cl) ∧ W.cell? ⟨g + 1 + 1, 0, none⟩ = some (.int .i64 id) ∧ W.cell? ⟨bl, ol, none⟩ = some (.string (bs y))) (fun _ => false) (by kernel_rfl) ?_
 change anyD _ _ _ _ _ _ _ _ _ (W.drewN 1)
 have hbV := below_drewN' W.heap.size W 1
 generalize W.drewN 1 = V0 at hS hbV ⊢
 (refine anyD_l5 (i := 0) (v := ?_) rfl (by kernel_rfl) (fun _ _ _ h => h) (.inl ⟨by kernel_rfl, fun W9 hW9 => ?_⟩) hS ?_; rotate_left; · (obtain ⟨hw0, hw1, hw2, hw3, hw4⟩ := hW9; go_simp; rfl))
 (refine anyD_l5 (i := 1) (v := ?_) rfl (by kernel_rfl) (fun _ _ _ h => h) (.inl ⟨by kernel_rfl, fun W9 hW9 => ?_⟩) hS ?_; rotate_left; · (obtain ⟨hw0, hw1, hw2, hw3, hw4⟩ := hW9; go_simp; rfl))
 (refine anyD_l5 (i := 2) (v := ?_) rfl (by kernel_rfl) (fun _ _ _ h => h) (.inl ⟨by kernel_rfl, fun W9 hW9 => ?_⟩) hS ?_; rotate_left; · (obtain ⟨hw0, hw1, hw2, hw3, hw4⟩ := hW9; go_simp; rfl))
 (refine anyD_l5 (i := 3) (v := ?_) rfl (by kernel_rfl) (fun _ _ _ h => h) (.inl ⟨by kernel_rfl, fun W9 hW9 => ?_⟩) hS ?_; rotate_left; · (obtain ⟨hw0, hw1, hw2, hw3, hw4⟩ := hW9; go_simp; rfl))
 (refine anyD_l5 (i := 4) (v := ?_) rfl (by kernel_rfl) (fun _ _ _ h => h) (.inl ⟨by kernel_rfl, fun W9 hW9 => ?_⟩) hS ?_; rotate_left; · (obtain ⟨hw0, hw1, hw2, hw3, hw4⟩ := hW9; go_simp; rfl))
 (refine anyD_l5 (i := 6) (v := ?_) rfl (by kernel_rfl) (fun _ _ _ h => h) (.inl ⟨by kernel_rfl, fun W9 hW9 => ?_⟩) hS ?_; rotate_left; · (obtain ⟨hw0, hw1, hw2, hw3, hw4⟩ := hW9; go_simp; rfl))
 go_simp
 go_simp
 refine anyD_one (i := 5) (by kernel_rfl) rfl rfl (fun K hK => ?_)
 have HK := Lib.hid hK
 clear hK
 unfold Oper.wp
 go_simp
 refine ((Hp.out V0 hbV)).mono ?_
 rintro e w1 ⟨v, rfl, hv, hb1⟩
 obtain ⟨A2, c2, rfl, _, _⟩ := hv.form
 replace hbV := hbV.trans (hb1.mono hbV.size)
 have Hv := Lib.hid hv
 clear hb1 hS hv
 have hS := HS.out _ hbV
 refine HK.out _ _ (fun _ => hS) ?_
 clear HK
 go_simp
 refine anyD_one (i := 7) (by kernel_rfl) rfl rfl (fun K hK => ?_)
 have HK := Lib.hid hK
 clear hK
 have hcc := Hc.out w1 _ hbV Hv.out
 have Hcc := Lib.hid hcc
 clear hcc
 unfold Oper.wp
 go_simp
 refine (Hcc.out).mono ?_
 rintro e w2 ⟨rfl, hb2⟩
 replace hbV := hbV.trans (hb2.mono hbV.size)
 clear hb2 hS Hcc
 have hS := HS.out _ hbV
 refine HK.out _ _ (fun _ => hS) ?_
 clear HK
 (refine anyD_l5 (i := 8) (v := ?_) rfl (by kernel_rfl) (fun _ _ _ h => h) (.inl ⟨by kernel_rfl, fun W9 hW9 => ?_⟩) hS ?_; rotate_left; · (obtain ⟨hw0, hw1, hw2, hw3, hw4⟩ := hW9; go_simp; rfl))
 go_simp
 refine anyD_done (by kernel_rfl) ?_ _
 clear hS
 go_wp2
 go_ret
 exact ⟨rfl, Hal.out.trans (hbV.mono Hal.out.size)⟩
end Go.Proofs.YtnlhocbaighedaaGreatDoor
namespace Go.Proofs.YtnlhocbaighedaaGreatDoor
set_option linter.unusedVariables false
namespace Sr
open Q
theorem prefix_iff {x : Ix.Idx} (h : Ix.Wf x.2) (s : Str) (id : Int) : prefixF x s id = true ↔ ∃ w, s.isPrefixOf w = true ∧ Ix.cont x.2 w id ≠ [] := by
 unfold prefixF
 rw [List.any_eq_true]
 constructor
 ·rintro ⟨t, ht, hb⟩
  rw [Bool.and_eq_true, List.any_eq_true] at hb
  obtain ⟨h1, p, hp, h2⟩ := hb
  have e : p.1 = id := by simpa using h2
  refine ⟨t.1, h1, ?_⟩
  rw [← e, Ix.cont_mem h ht hp]
  exact (h.2 t ht).2.2 p hp
 ·rintro ⟨w, h1, h2⟩
  obtain ⟨t, ht, rfl, p, hp, e, _⟩ := Ix.mem_cont h2
  refine ⟨t, ht, ?_⟩
  rw [Bool.and_eq_true, List.any_eq_true]
  exact ⟨h1, p, hp, by simpa using e⟩
/-- a query finds alike where the places are alike -/
theorem finds_same {x y : Ix.Idx} (hx : Ix.Wf x.2) (hy : Ix.Wf y.2) {id : Int} (h : ∀ w, Ix.cont x.2 w id = Ix.cont y.2 w id) : ∀ (f : Nat) (q : Q), findsF f x q id = findsF f y q id
 | 0, _ => rfl
 | f + 1, q => by
  have hp : ∀ w, places x w id = places y w id := fun w => h _
  have hpre : prefixF x q.text id = prefixF y q.text id := by
   have : prefixF x q.text id = true ↔ prefixF y q.text id = true := by
    rw [prefix_iff hx, prefix_iff hy]
    simp only [h]
   exact Bool.eq_iff_iff.2 this
  have hrow : ∀ (l : List Str) (a k : Int), rowAt x id a l k = rowAt y id a l k := by
   intro l
   induction l with
   | nil => intro a k; rfl
   | cons w l ih => intro a k; rw [rowAt, rowAt, hp, ih]
  have hph : phraseF x (splitS q.text) id = phraseF y (splitS q.text) id := by
   unfold phraseF
   rw [hp]
   exact any_same fun a _ => hrow _ _ _
  have hne : ∀ a b, nearF x a b q.num id = nearF y a b q.num id := fun a b => by unfold nearF; rw [hp, hp]
  have hr := fun p => finds_same hx hy h f p
  rw [findsF, findsF, hp, hpre, hph, hne]
  simp only [hr]
/-- other texts -/
theorem others {x : Ix.Idx} (h : Ix.Canon x) {id i : Int} (hi : i ≠ id) (s : List Str) (hc : Ix.Canon (Ix.addF x id s)) (q : Q) : findsF 8 (Ix.addF x id s) q i = findsF 8 x q i :=
 finds_same hc.wf h.wf (fun w => by
  show Ix.cont (Ix.putAll id s 0 x.2) w i = _
  rw [Ix.cont_putAll id s 0 h.wf, if_neg hi]) 8 q
end Sr
end Go.Proofs.YtnlhocbaighedaaGreatDoor
namespace Go.Proofs.YtnlhocbaighedaaGreatDoor
open Go.RowKit
set_option linter.unusedVariables false
theorem lev_one (q : Q) : Q.lev 1 q = 1 := by
 have : Q.top (q.parts.map (Q.lev 0)) ≤ 0 := Q.top_le.2 fun a ha => by
  obtain ⟨p, _, rfl⟩ := List.mem_map.1 ha
  exact Nat.le_refl _
 show Q.top (q.parts.map (Q.lev 0)) + 1 = 1
 omega
theorem lev_take (n : Nat) (l : List Q) {m : Nat} (h : m < l.length) : Q.top ((l.take (m + 1)).map (Q.lev n)) = max (Q.top ((l.take m).map (Q.lev n))) (Q.lev n l[m]) := by
 rw [List.take_succ_eq_append_getElem h, List.map_append, List.map_cons, List.map_nil, top_snoc]
set_option maxRecDepth 100000 in
set_option maxHeartbeats 4000000 in
theorem levels_ok : ∀ (n f : Nat) (q : Q) (v : Value) (w : World) (hn : n ≤ 60) (hq : QAt f M0 w v q),
  Calls Tryz.prog 37 #[v, .int .i64 ((n + 1 : Nat) : Int)] w fun r w' => r = .returned (.int .i64 (Q.lev (n + 1) q : Nat)) ∧ Below w.heap.size w w' := by
 intro n
 induction n with
 | zero =>
  intro f q v w hn hq
  rw [lev_one]
  obtain ⟨A, c, rfl, _, _, _, hv⟩ := hq
  obtain ⟨ql, hql⟩ : ∃ k, q.parts.length = k := ⟨_, rfl⟩
  rw [hql]
  obtain ⟨W0, g, hW, rfl, hs, kq, hal⟩ := boxA w #[.int .i64 q.kind, .string (bs q.text), .int .i64 q.num, .slice A ql c] 28
  obtain ⟨q0, q1, q2, q3, _⟩ := kq.four
  rw [← hW] at q3
  have HW := Lib.hid hW
  clear hs hW kq q0 q1 q2 hv hql
  go_enter Tryz.func37, Tryz.ntmps37
  go_wp2_with fail
  rw [HW.out] at q3 ⊢
  go_loopw [5, 6] (fun a i wr => a = .int .i64 0 ∧ i = .int .i64 0 ∧ wr = W0) (fun _ _ _ => 0)
  case atStart => exact ⟨rfl, rfl, rfl⟩
  case round =>
   obtain ⟨rfl, rfl, rfl⟩ := hrel
   by_cases h0 : 0 < ql
   ·have h0i : (0 : Int) < (ql : Int) := by omega
    go_wp2_with fail

    go_ret
    exact ⟨rfl, hal⟩
   ·have h0i : ¬ (0 : Int) < (ql : Int) := by omega
    go_wp2_with fail
    go_ret
    exact ⟨rfl, hal⟩
 | succ n ih =>
  intro f q v w hn hq
  have qq := hq
  obtain ⟨A, c, rfl, _, _, _, hv⟩ := hq
  have hqm := hv.len_le
  obtain ⟨ps, hps⟩ : ∃ l, q.parts = l := ⟨_, rfl⟩
  have hgoal : Q.lev (n + 1 + 1) q = Q.top (ps.map (Q.lev (n + 1))) + 1 := by rw [← hps]; rfl
  have htop := Q.top_lev_le (n + 1) ps
  rw [hps] at hv hqm ⊢
  rw [hgoal]
  obtain ⟨res, hres⟩ : ∃ r, Q.top (ps.map (Q.lev (n + 1))) + 1 = r := ⟨_, rfl⟩
  rw [hres]
  have Hres := Lib.hid hres
  clear hres
  obtain ⟨W0, g, hW, rfl, hs, kq, hal⟩ := boxA w #[.int .i64 q.kind, .string (bs q.text), .int .i64 q.num, .slice A ps.length c] 28
  replace hv := hv.ext hal
  have HW := Lib.hid hW
  have Htop := Lib.hid htop
  have Ih := Lib.hid ih
  clear hs hW hps hgoal qq ih htop
  unfold maxLen at hqm
  have hn1 : (1 : Int) < ((n + 1 + 1 : Nat) : Int) := by omega
  have hnw : IntKind.i64.wrap (((n + 1 + 1 : Nat) : Int) - 1) = ((n + 1 : Nat) : Int) := by rw [show ((n + 1 + 1 : Nat) : Int) - 1 = ((n + 1 : Nat) : Int) by omega]; exact IntWalk.i64_in _ (by omega)
  obtain ⟨lim, hlim⟩ : ∃ lim : Int, ((n + 1 + 1 : Nat) : Int) = lim := ⟨_, rfl⟩
  rw [hlim] at hn1 hnw ⊢
  clear hlim
  go_enter Tryz.func37, Tryz.ntmps37
  go_wp2_with fail
  rw [HW.out]
  go_loopw [5, 6] (fun a i wr => ∃ m : Nat, m ≤ ps.length ∧ i = .int .i64 m ∧ a = .int .i64 (Q.top ((ps.take m).map (Q.lev (n + 1))) : Nat) ∧ Below W0.heap.size W0 wr) (fun _ i _ => ps.length - (intOf i).toNat)
  case atStart => exact ⟨0, Nat.zero_le _, rfl, rfl, Below.refl _ _⟩
  case round =>
   obtain ⟨m, hm, rfl, rfl, hbr⟩ := hrel
   obtain ⟨q0, q1, q2, q3, _⟩ := (kq.ext hbr).four
   by_cases hlt : m < ps.length
   ·obtain ⟨b, off, g2, A2, c2, rfl, hfg, _, _, s0, s1, s2, s3, hqa⟩ := (hv.ext hbr).qAt hlt
    have hlev := lev_take (n + 1) ps hlt
    have hle1 := Q.lev_le (n + 1) ps[m]
    have hle2 := Q.top_lev_le (n + 1) (ps.take m)
    have hc := Ih.out g2 ps[m] _ wr (by omega) hqa
    obtain ⟨p, hp⟩ : ∃ p, p = ps[m] := ⟨_, rfl⟩
    rw [← hp] at s0 s1 s2 s3 hc hlev hle1
    obtain ⟨t, ht⟩ : ∃ t, Q.top ((ps.take m).map (Q.lev (n + 1))) = t := ⟨_, rfl⟩
    obtain ⟨r, hr⟩ : ∃ r, Q.lev (n + 1) p = r := ⟨_, rfl⟩
    rw [ht, hr] at hlev
    rw [ht] at hle2 ⊢
    rw [hr] at hle1 hc
    have hmax : max (t : Int) (r : Int) = ((max t r : Nat) : Int) := by omega
    have Hlev := Lib.hid hlev; have Hc := Lib.hid hc; have Hbr := Lib.hid hbr
    have hmi : (m : Int) < (ps.length : Int) := by omega
    have hm0 : (0 : Int) ≤ (m : Int) := by omega
    clear hlev hc hbr hp hqa ht hr
    go_wp2_with fail
    refine Hc.out.mono ?_
    rintro e w9 ⟨rfl, hb9⟩
    clear q0 q1 q2 q3 s0 s1 s2 s3
    go_wp2_with fail
    go_roundw
    case rel => exact ⟨m + 1, by omega, by go_num, by rw [Hlev.out], Hbr.out.trans (hb9.mono Hbr.out.size)⟩
    case measure => simp [intOf]; omega
   ·obtain rfl : m = ps.length := by omega
    rw [List.take_length]
    have htop := Htop.out
    obtain ⟨t, ht⟩ : ∃ t, Q.top (ps.map (Q.lev (n + 1))) = t := ⟨_, rfl⟩
    have hres := Hres.out
    rw [ht] at htop hres ⊢
    have HR := Lib.hid hres
    clear hres
    have htw : IntKind.i64.wrap ((t : Int) + 1) = ((t + 1 : Nat) : Int) := by rw [show (t : Int) + 1 = ((t + 1 : Nat) : Int) by omega]; exact IntWalk.i64_in _ (by omega)
    clear ht
    go_wp2_with fail
    go_ret
    exact ⟨by rw [← HR.out]; rfl, hal.trans (hbr.mono hal.size)⟩
end Go.Proofs.YtnlhocbaighedaaGreatDoor
