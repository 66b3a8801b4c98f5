/-
  index.Add.
-/
import Derived.Test.YtfjpedgddgbelaaGreatDoorG17
import Derived.Test.YtfjpedgddgbelaaGreatDoorIxX
import Derived.Test.YtfjpedgddgbelaaGreatDoorG24
import Derived.Deep.QuietTactic
import Derived.BigQuiet
import Derived.RegionTactic
import Derived.ChangeAlike
namespace Go.Proofs.YtfjpedgddgbelaaGreatDoor
open Go.RowKit
set_option linter.unusedVariables false
theorem three_new (w : World) (a b : Value) (t : TypeId) (c d : Value) (t' : TypeId) (e f : Value) (t'' : TypeId) : ∃ W g3 g6 g7, ((w.alloc (.cells #[a, b] t)).alloc (.cells #[c, d] t')).alloc (.cells #[e, f] t'') = W ∧ w.heap.size = g3 ∧ g3 + 1 = g6 ∧ g6 + 1 = g7 ∧ W.heap.size = w.heap.size + 3 ∧ Below w.heap.size w W ∧ Blk W g3 t #[a, b] ∧ Blk W g6 t' #[c, d] ∧ Blk W g7 t'' #[e, f] := by
  obtain ⟨W1, h1, hs, hb, k0, k1⟩ := two_new w a b t c d t'
  refine ⟨_, _, _, _, by rw [h1], rfl, rfl, rfl, by simp [hs], hb.alloc hb.size _, k0.alloc _, k1.alloc _, ?_⟩
  have := Blk.new W1 t'' #[e, f]
  rw [hs] at this
  exact this
theorem one_new (w : World) (a b : Value) (t : TypeId) : ∃ g V, w.heap.size = g ∧ w.alloc (.cells #[a, b] t) = V ∧ Blk V g t #[a, b] ∧ Below w.heap.size w V := ⟨_, _, rfl, rfl, Blk.new w t _, (Below.refl _ _).alloc (Nat.le_refl _) _⟩
/-- four stores: the two results -/
theorem put4 {w : World} {g6 g7 : Nat} {t t' : TypeId} {x y u v : Value} (h6 : Blk w g6 t #[x, y]) (h7 : Blk w g7 t' #[u, v]) (hne : g6 ≠ g7) (a b c d : Value) {W : World} (hW : (((w.setCell ⟨g6, 0, none⟩ a).setCell ⟨g6, 1, none⟩ b).setCell ⟨g7, 0, none⟩ c).setCell ⟨g7, 1, none⟩ d = W) :
    Blk W g6 t #[a, b] ∧ Blk W g7 t' #[c, d] ∧ W.os = w.os ∧ W.tape = w.tape ∧ W.output = w.output ∧ W.heap.size = w.heap.size ∧ ∀ b, b ≠ g6 → b ≠ g7 → W.heap[b]? = w.heap[b]? := by
  subst hW
  refine ⟨?_, ?_, rfl, rfl, rfl, by simp, fun b h1 h2 => by rw [heap_set_ne _ _ _ h2, heap_set_ne _ _ _ h2, heap_set_ne _ _ _ h1, heap_set_ne _ _ _ h1]⟩
  · exact (((h6.set_ 0 a).set_ 1 b).far (p := ⟨g7, 0, none⟩) hne _).far (p := ⟨g7, 1, none⟩) hne _
  · exact (((h7.far (p := ⟨g6, 0, none⟩) hne.symm _).far (p := ⟨g6, 1, none⟩) hne.symm _).set_ 0 c).set_ 1 d
theorem below_put4 {w w1 W : World} {g6 g7 : Nat} (hb : Below w.heap.size w w1) (h6 : w.heap.size ≤ g6) (h7 : w.heap.size ≤ g7) (a b c d : Value) (hW : (((w1.setCell ⟨g6, 0, none⟩ a).setCell ⟨g6, 1, none⟩ b).setCell ⟨g7, 0, none⟩ c).setCell ⟨g7, 1, none⟩ d = W) : Below w.heap.size w W := by
  subst hW
  exact (((hb.setCell (p := ⟨g6, 0, none⟩) h6 _).setCell (p := ⟨g6, 1, none⟩) h6 _).setCell (p := ⟨g7, 0, none⟩) h7 _).setCell (p := ⟨g7, 1, none⟩) h7 _
/-- what Add answers -/
def AddAtB (x : Ix.Idx) (id : Int) (t : Str) (w : World) (e : Ending) (w' : World) : Prop :=
  ∃ a' b', e = .returned (.tuple #[.agg #[a', b'], .agg #[.int .i64 (Ix.addR x id t).2.1, .int .i64 (Ix.addR x id t).2.2]]) ∧ SlR intC (Old w.heap.size) w' a' (Ix.addR x id t).1.1 ∧ SlR termC (Old w.heap.size) w' b' (Ix.addR x id t).1.2 ∧ Below w.heap.size w w'

set_option maxRecDepth 20000 in
set_option maxHeartbeats 8000000 in
theorem add_okB (a b : Value) (ids : List Int) (ts : List Ix.Term) (id : Int) (text : Str) (w : World) (h0 : SlR intC M0 w a ids) (h1 : SlR termC M0 w b ts) (hsz : SzIx ts) (hTb : TabsU w) :
    Calls Tryz.prog 15 #[.agg #[a, b], .int .i64 id, .string (bs text)] w (AddAtB (ids, ts) id text w) := by
  obtain ⟨A0, c0, rfl, _, _⟩ := h0.form
  obtain ⟨A1, c1, rfl, _, _⟩ := h1.form
  obtain ⟨W, g3, g6, g7, hW, hg3, hg6, hg7, hs, hal, k3, k6, k7⟩ := three_new w (.slice A0 ids.length c0) (.slice A1 ts.length c1) 25 (.slice none 0 0) (.slice none 0 0) 25 (.int .i64 0) (.int .i64 0) 27
  have hval := validate_ok (.slice A0 ids.length c0) (.slice A1 ts.length c1) ids ts W (h0.ext hal) (h1.ext hal) hsz
  obtain ⟨fa, fb, hf⟩ : ∃ fa fb, Ix.indexF (ids, ts) = (fa, fb) := ⟨_, _, rfl⟩
  rw [hf] at hval
  have hfl := fun a b W => failed_ok a b W
  have hfc := fun a b W => fault_ok a b W
  obtain ⟨q0, q1, _, _, _⟩ := k3.two
  rw [← hW, ← hg3] at q0 q1
  have HW := Lib.hid hW; have Hg := Lib.hid (And.intro hg3 (And.intro hg6 (And.intro hg7 hs))); have Hval := Lib.hid hval; have Hfl := Lib.hid hfl; have Hfc := Lib.hid hfc
  have H01 := Lib.hid (And.intro h0 (And.intro h1 hTb))
  clear hW hg3 hg6 hg7 hs hval hfl hfc h0 h1 hsz hTb
  by_cases hfa : fa ≠ 0
  · have hR : Ix.addR (ids, ts) id text = (([], []), fa, fb) := by unfold Ix.addR; rw [if_pos (by rw [hf]; exact hfa), hf]
    unfold AddAtB
    rw [hR]
    have hfb : (fa != 0) = true := by simpa using hfa
    clear hf hR hfa
    go_enter Tryz.func15, Tryz.ntmps15
    go_wp2_with fail
    rw [HW.out, Hg.out.1, Hg.out.2.1, Hg.out.2.2.1]
    refine Hval.out.mono ?_
    rintro e w1 ⟨rfl, hb1⟩
    clear q0 q1 Hval HW
    replace k3 := k3.ext hb1
    replace k6 := k6.ext hb1
    replace k7 := k7.ext hb1
    replace hal := hal.trans (hb1.mono hal.size)
    clear hb1
    obtain ⟨g8, V1, hg8, hV1, kf, hb11⟩ := one_new w1 (.int .i64 fa) (.int .i64 fb) 27
    have H8 : Hid (g7 < g8) := Lib.hid (by have := k7.lt; omega)
    replace k3 := k3.ext hb11
    replace k6 := k6.ext hb11
    replace k7 := k7.ext hb11
    replace hal := hal.trans (hb11.mono hal.size)
    clear hb11
    obtain ⟨f0, f1, _, _, _⟩ := kf.two
    go_wp2_with fail
    clear hV1 hg8 f0 f1
    refine (Hfl.out fa fb V1).mono ?_
    rintro e w2 ⟨rfl, hb2⟩
    replace k3 := k3.ext hb2
    replace k6 := k6.ext hb2
    replace k7 := k7.ext hb2
    replace kf := kf.ext hb2
    replace hal := hal.trans (hb2.mono hal.size)
    clear hb2
    have hn86 : ¬ g8 = g6 := by have := Hg.out; have := H8.out; omega
    have hn87 : ¬ g8 = g7 := by have := Hg.out; have := H8.out; omega
    have hn76 : ¬ g7 = g6 := by have := Hg.out; omega
    have hn67 : ¬ g6 = g7 := by have := Hg.out; omega
    obtain ⟨f0, f1, _, _, _⟩ := kf.two
    obtain ⟨u0, u1, u2, u3, _⟩ := k6.two
    obtain ⟨v0, v1, v2, v3, _⟩ := k7.two
    have Hbe := Lib.hid hal; have Hk6 := Lib.hid k6; have Hk7 := Lib.hid k7
    clear hal k3 kf k6 k7
    go_wp2_with fail
    go_region
    go_wp2
    obtain ⟨W9, hW9⟩ : ∃ W9, (((w2.setCell ⟨g6, 0, none⟩ (.slice none 0 0)).setCell ⟨g6, 1, none⟩ (.slice none 0 0)).setCell ⟨g7, 0, none⟩ (.int .i64 fa)).setCell ⟨g7, 1, none⟩ (.int .i64 fb) = W9 := ⟨_, rfl⟩
    have hbe := below_put4 (w := w) Hbe.out (by have := Hg.out; omega) (by have := Hg.out; omega) _ _ _ _ hW9
    obtain ⟨p6, p7, _⟩ := put4 Hk6.out Hk7.out (by have := Hg.out; omega) _ _ _ _ hW9
    rw [hW9]
    obtain ⟨e0, e1, _⟩ := (show Blk W9.drew g6 _ _ from p6).two
    obtain ⟨e2, e3, _⟩ := (show Blk W9.drew g7 _ _ from p7).two
    refine bodyPost_ret (v := .tuple #[.agg #[.slice none 0 0, .slice none 0 0], .agg #[.int .i64 fa, .int .i64 fb]]) (by simp [results, Tryz.results15, go_sem, e0, e1, e2, e3]) rfl ?_
    exact ⟨_, _, rfl, SlR.nil _ _ _, SlR.nil _ _ _, below_drew hbe⟩
  have hf0 : fa = 0 := by simpa using hfa
  have hfb : (fa != 0) = false := by simpa using hfa
  have hcan := (Ix.indexF_zero (ids, ts)).1 (by rw [hf]; exact hf0)
  have hz : ¬ (Ix.indexF (ids, ts)).1 ≠ 0 := by rw [hf]; exact hfa
  obtain ⟨za, zb, hza, hzb, hzf⟩ : ∃ za zb : Int, za = 0 ∧ zb = 0 ∧ (za != 0) = false := ⟨0, 0, rfl, rfl, rfl⟩
  clear hfa hf hf0
  by_cases h4 : 4000 < text.length
  · have hR : Ix.addR (ids, ts) id text = (([], []), 1, -1) := by unfold Ix.addR; rw [if_neg hz, if_pos h4]
    unfold AddAtB
    rw [hR]
    have hst := fun W' (hb : Below w.heap.size w W') => stemStems_long text h4 W'
    have Hst := Lib.hid hst
    clear hz hR hst h4 hcan
    go_enter Tryz.func15, Tryz.ntmps15
    go_wp2_with fail
    rw [HW.out, Hg.out.1, Hg.out.2.1, Hg.out.2.2.1]
    refine Hval.out.mono ?_
    rintro e w1 ⟨rfl, hb1⟩
    clear q0 q1 Hval HW
    replace k3 := k3.ext hb1
    replace k6 := k6.ext hb1
    replace k7 := k7.ext hb1
    replace hal := hal.trans (hb1.mono hal.size)
    clear hb1
    obtain ⟨g8, V1, hg8, hV1, kf, hb11⟩ := one_new w1 (.int .i64 fa) (.int .i64 fb) 27
    have H8 : Hid (g7 < g8) := Lib.hid (by have := k7.lt; omega)
    replace k3 := k3.ext hb11
    replace k6 := k6.ext hb11
    replace k7 := k7.ext hb11
    replace hal := hal.trans (hb11.mono hal.size)
    clear hb11
    obtain ⟨f0, f1, _, _, _⟩ := kf.two
    go_wp2_with fail
    clear hV1 hg8 f0 f1
    refine (Hfl.out fa fb V1).mono ?_
    rintro e w2 ⟨rfl, hb2⟩
    replace k3 := k3.ext hb2
    replace k6 := k6.ext hb2
    replace k7 := k7.ext hb2
    replace kf := kf.ext hb2
    replace hal := hal.trans (hb2.mono hal.size)
    clear hb2
    clear kf
    have H2 : Hid (g3 < w2.heap.size ∧ w.heap.size ≤ w2.heap.size) := Lib.hid ⟨k3.lt, hal.size⟩
    go_wp2_with fail
    refine (Hst.out w2 hal).mono ?_
    rintro e w3 ⟨A2, c2, L, rfl, hL, hown, hb3⟩
    replace k3 := k3.ext hb3
    replace k6 := k6.ext hb3
    replace k7 := k7.ext hb3
    replace hal := hal.trans (hb3.mono hal.size)
    clear hb3
    obtain ⟨g10, V3, hg8, hV1, ke, hb13⟩ := one_new w3 (.int .i64 1) (.int .i64 (-1)) 27
    have H10 : Hid (g7 < g10) := Lib.hid (by have := k7.lt; omega)
    replace k3 := k3.ext hb13
    replace k6 := k6.ext hb13
    replace k7 := k7.ext hb13
    replace hal := hal.trans (hb13.mono hal.size)
    clear hb13
    obtain ⟨f0, f1, _, _, _⟩ := ke.two
    go_wp2_with fail
    clear hV1 hg8 f0 f1
    refine (Hfl.out 1 (-1) V3).mono ?_
    rintro e w4 ⟨rfl, hb4⟩
    replace k3 := k3.ext hb4
    replace k6 := k6.ext hb4
    replace k7 := k7.ext hb4
    replace ke := ke.ext hb4
    replace hal := hal.trans (hb4.mono hal.size)
    clear hb4
    have hn86 : ¬ g10 = g6 := by have := Hg.out; have := H10.out; omega
    have hn87 : ¬ g10 = g7 := by have := Hg.out; have := H10.out; omega
    have hn76 : ¬ g7 = g6 := by have := Hg.out; omega
    have hn67 : ¬ g6 = g7 := by have := Hg.out; omega
    obtain ⟨f0, f1, _, _, _⟩ := ke.two
    obtain ⟨u0, u1, u2, u3, _⟩ := k6.two
    obtain ⟨v0, v1, v2, v3, _⟩ := k7.two
    have Hbe := Lib.hid hal; have Hk6 := Lib.hid k6; have Hk7 := Lib.hid k7
    clear hal k3 ke k6 k7
    go_wp2_with fail
    go_region
    go_wp2
    obtain ⟨W9, hW9⟩ : ∃ W9, (((w4.setCell ⟨g6, 0, none⟩ (.slice none 0 0)).setCell ⟨g6, 1, none⟩ (.slice none 0 0)).setCell ⟨g7, 0, none⟩ (.int .i64 1)).setCell ⟨g7, 1, none⟩ (.int .i64 (-1)) = W9 := ⟨_, rfl⟩
    have hbe := below_put4 (w := w) Hbe.out (by have := Hg.out; omega) (by have := Hg.out; omega) _ _ _ _ hW9
    obtain ⟨p6, p7, _⟩ := put4 Hk6.out Hk7.out (by have := Hg.out; omega) _ _ _ _ hW9
    rw [hW9]
    obtain ⟨e0, e1, _⟩ := (show Blk W9.drew g6 _ _ from p6).two
    obtain ⟨e2, e3, _⟩ := (show Blk W9.drew g7 _ _ from p7).two
    refine bodyPost_ret (v := .tuple #[.agg #[.slice none 0 0, .slice none 0 0], .agg #[.int .i64 1, .int .i64 (-1)]]) (by simp [results, Tryz.results15, go_sem, e0, e1, e2, e3]) rfl ?_
    exact ⟨_, _, rfl, SlR.nil _ _ _, SlR.nil _ _ _, below_drew hbe⟩
  have hst : ∀ W', Below w.heap.size w W' → Calls Tryz.prog 53 #[.string (bs text)] W' fun e w' => ∃ (A : Option Addr) (c : Nat) (L : List Str), e = .returned (.tuple #[.slice A L.length c, .agg #[.int .i64 za, .int .i64 zb]]) ∧
      Hid (L = Sm.stems text) ∧ Own strC M0 w' W'.heap.size 9 (.slice A L.length c) L ∧ Below W'.heap.size W' w' := fun W' hb => by subst hza hzb; exact stemStems_ok text (by omega) W' (H01.out.2.2.ext hb)
  have hhs := fun W' (hb : Below w.heap.size w W') => has_ok (.slice A0 ids.length c0) (.slice A1 ts.length c1) ids id W' (H01.out.1.ext hb) hcan.ids (by have := hcan.few; dsimp only at this; omega)
  have Hst := Lib.hid hst; have Hhs := Lib.hid hhs; have Hcan := Lib.hid hcan; have H4 := Lib.hid h4
  clear hst hhs hcan h4 hza hzb
  by_cases hc : id < 1
  · have hR : Ix.addR (ids, ts) id text = (([], []), 3, (-3)) := by unfold Ix.addR; rw [if_neg hz, if_neg H4.out, if_pos hc]
    unfold AddAtB
    rw [hR]
    have hd1 : decide (id < 1) = true := by simpa using hc
    clear hz hR hc
    go_enter Tryz.func15, Tryz.ntmps15
    go_wp2_with fail
    rw [HW.out, Hg.out.1, Hg.out.2.1, Hg.out.2.2.1]
    refine Hval.out.mono ?_
    rintro e w1 ⟨rfl, hb1⟩
    clear q0 q1 Hval HW
    replace k3 := k3.ext hb1
    replace k6 := k6.ext hb1
    replace k7 := k7.ext hb1
    replace hal := hal.trans (hb1.mono hal.size)
    clear hb1
    obtain ⟨g8, V1, hg8, hV1, kf, hb11⟩ := one_new w1 (.int .i64 fa) (.int .i64 fb) 27
    have H8 : Hid (g7 < g8) := Lib.hid (by have := k7.lt; omega)
    replace k3 := k3.ext hb11
    replace k6 := k6.ext hb11
    replace k7 := k7.ext hb11
    replace hal := hal.trans (hb11.mono hal.size)
    clear hb11
    obtain ⟨f0, f1, _, _, _⟩ := kf.two
    go_wp2_with fail
    clear hV1 hg8 f0 f1
    refine (Hfl.out fa fb V1).mono ?_
    rintro e w2 ⟨rfl, hb2⟩
    replace k3 := k3.ext hb2
    replace k6 := k6.ext hb2
    replace k7 := k7.ext hb2
    replace kf := kf.ext hb2
    replace hal := hal.trans (hb2.mono hal.size)
    clear hb2
    clear kf
    have H2 : Hid (g3 < w2.heap.size ∧ w.heap.size ≤ w2.heap.size) := Lib.hid ⟨k3.lt, hal.size⟩
    go_wp2_with fail
    refine (Hst.out w2 hal).mono ?_
    rintro e w3 ⟨A2, c2, L, rfl, hL, hown, hb3⟩
    replace k3 := k3.ext hb3
    replace k6 := k6.ext hb3
    replace k7 := k7.ext hb3
    replace hal := hal.trans (hb3.mono hal.size)
    clear hb3
    obtain ⟨g10, V3, hg8, hV1, ke, hb13⟩ := one_new w3 (.int .i64 za) (.int .i64 zb) 27
    have H10 : Hid (g7 < g10) := Lib.hid (by have := k7.lt; omega)
    replace k3 := k3.ext hb13
    replace k6 := k6.ext hb13
    replace k7 := k7.ext hb13
    replace hal := hal.trans (hb13.mono hal.size)
    clear hb13
    obtain ⟨f0, f1, _, _, _⟩ := ke.two
    go_wp2_with fail
    clear hV1 hg8 f0 f1
    refine (Hfl.out za zb V3).mono ?_
    rintro e w4 ⟨rfl, hb4⟩
    replace k3 := k3.ext hb4
    replace k6 := k6.ext hb4
    replace k7 := k7.ext hb4
    replace ke := ke.ext hb4
    replace hal := hal.trans (hb4.mono hal.size)
    clear hb4
    clear ke
    obtain ⟨t0, t1, _, _, _⟩ := k3.two
    go_wp2_with fail
    clear t0 t1
    refine (Hhs.out w4 hal).mono ?_
    rintro e w5 ⟨rfl, hb5⟩
    replace k3 := k3.ext hb5
    replace k6 := k6.ext hb5
    replace k7 := k7.ext hb5
    replace hal := hal.trans (hb5.mono hal.size)
    clear hb5
    obtain ⟨t0, t1, _, _, _⟩ := k3.two
    go_wp2_with fail
    clear t0 t1
    refine (Hfc.out 3 (-3) _).mono ?_
    rintro e w9 ⟨rfl, hb9⟩
    replace k3 := k3.ext hb9
    replace k6 := k6.ext hb9
    replace k7 := k7.ext hb9
    replace hal := hal.trans (hb9.mono hal.size)
    clear hb9
    obtain ⟨u0, u1, u2, u3, _⟩ := k6.two
    have hne : g7 ≠ g6 := by have := Hg.out; omega
    obtain ⟨v0, v1, v2, v3, _⟩ := ((k7.far (p := ⟨g6, 0, none⟩) hne (.slice none 0 0)).far (p := ⟨g6, 1, none⟩) hne (.slice none 0 0)).two
    have Hbe := Lib.hid hal; have Hk6 := Lib.hid k6; have Hk7 := Lib.hid k7
    clear hal k3 k6 k7 hne
    go_wp2
    obtain ⟨W9, hW9⟩ : ∃ W9, (((w9.setCell ⟨g6, 0, none⟩ (.slice none 0 0)).setCell ⟨g6, 1, none⟩ (.slice none 0 0)).setCell ⟨g7, 0, none⟩ (.int .i64 3)).setCell ⟨g7, 1, none⟩ (.int .i64 (-3)) = W9 := ⟨_, rfl⟩
    have hbe := below_put4 (w := w) Hbe.out (by have := Hg.out; omega) (by have := Hg.out; omega) _ _ _ _ hW9
    obtain ⟨p6, p7, _⟩ := put4 Hk6.out Hk7.out (by have := Hg.out; omega) _ _ _ _ hW9
    rw [hW9]
    obtain ⟨e0, e1, _⟩ := (show Blk W9 g6 _ _ from p6).two
    obtain ⟨e2, e3, _⟩ := (show Blk W9 g7 _ _ from p7).two
    refine bodyPost_ret (v := .tuple #[.agg #[.slice none 0 0, .slice none 0 0], .agg #[.int .i64 3, .int .i64 (-3)]]) (by simp [results, Tryz.results15, go_sem, e0, e1, e2, e3]) rfl ?_
    exact ⟨_, _, rfl, SlR.nil _ _ _, SlR.nil _ _ _, hbe⟩
  have hi1 := hc
  clear hc
  by_cases hc : 1000000 < id
  · have hR : Ix.addR (ids, ts) id text = (([], []), 3, (-3)) := by unfold Ix.addR; rw [if_neg hz, if_neg H4.out, if_neg hi1, if_pos hc]
    unfold AddAtB
    rw [hR]
    have hd1 : decide (id < 1) = false := by simpa using hi1
    have hd2 : decide (1000000 < id) = true := by simpa using hc
    clear hz hR hc hi1
    go_enter Tryz.func15, Tryz.ntmps15
    go_wp2_with fail
    rw [HW.out, Hg.out.1, Hg.out.2.1, Hg.out.2.2.1]
    refine Hval.out.mono ?_
    rintro e w1 ⟨rfl, hb1⟩
    clear q0 q1 Hval HW
    replace k3 := k3.ext hb1
    replace k6 := k6.ext hb1
    replace k7 := k7.ext hb1
    replace hal := hal.trans (hb1.mono hal.size)
    clear hb1
    obtain ⟨g8, V1, hg8, hV1, kf, hb11⟩ := one_new w1 (.int .i64 fa) (.int .i64 fb) 27
    have H8 : Hid (g7 < g8) := Lib.hid (by have := k7.lt; omega)
    replace k3 := k3.ext hb11
    replace k6 := k6.ext hb11
    replace k7 := k7.ext hb11
    replace hal := hal.trans (hb11.mono hal.size)
    clear hb11
    obtain ⟨f0, f1, _, _, _⟩ := kf.two
    go_wp2_with fail
    clear hV1 hg8 f0 f1
    refine (Hfl.out fa fb V1).mono ?_
    rintro e w2 ⟨rfl, hb2⟩
    replace k3 := k3.ext hb2
    replace k6 := k6.ext hb2
    replace k7 := k7.ext hb2
    replace kf := kf.ext hb2
    replace hal := hal.trans (hb2.mono hal.size)
    clear hb2
    clear kf
    have H2 : Hid (g3 < w2.heap.size ∧ w.heap.size ≤ w2.heap.size) := Lib.hid ⟨k3.lt, hal.size⟩
    go_wp2_with fail
    refine (Hst.out w2 hal).mono ?_
    rintro e w3 ⟨A2, c2, L, rfl, hL, hown, hb3⟩
    replace k3 := k3.ext hb3
    replace k6 := k6.ext hb3
    replace k7 := k7.ext hb3
    replace hal := hal.trans (hb3.mono hal.size)
    clear hb3
    obtain ⟨g10, V3, hg8, hV1, ke, hb13⟩ := one_new w3 (.int .i64 za) (.int .i64 zb) 27
    have H10 : Hid (g7 < g10) := Lib.hid (by have := k7.lt; omega)
    replace k3 := k3.ext hb13
    replace k6 := k6.ext hb13
    replace k7 := k7.ext hb13
    replace hal := hal.trans (hb13.mono hal.size)
    clear hb13
    obtain ⟨f0, f1, _, _, _⟩ := ke.two
    go_wp2_with fail
    clear hV1 hg8 f0 f1
    refine (Hfl.out za zb V3).mono ?_
    rintro e w4 ⟨rfl, hb4⟩
    replace k3 := k3.ext hb4
    replace k6 := k6.ext hb4
    replace k7 := k7.ext hb4
    replace ke := ke.ext hb4
    replace hal := hal.trans (hb4.mono hal.size)
    clear hb4
    clear ke
    obtain ⟨t0, t1, _, _, _⟩ := k3.two
    go_wp2_with fail
    clear t0 t1
    refine (Hhs.out w4 hal).mono ?_
    rintro e w5 ⟨rfl, hb5⟩
    replace k3 := k3.ext hb5
    replace k6 := k6.ext hb5
    replace k7 := k7.ext hb5
    replace hal := hal.trans (hb5.mono hal.size)
    clear hb5
    obtain ⟨t0, t1, _, _, _⟩ := k3.two
    go_wp2_with fail
    clear t0 t1
    refine (Hfc.out 3 (-3) _).mono ?_
    rintro e w9 ⟨rfl, hb9⟩
    replace k3 := k3.ext hb9
    replace k6 := k6.ext hb9
    replace k7 := k7.ext hb9
    replace hal := hal.trans (hb9.mono hal.size)
    clear hb9
    obtain ⟨u0, u1, u2, u3, _⟩ := k6.two
    have hne : g7 ≠ g6 := by have := Hg.out; omega
    obtain ⟨v0, v1, v2, v3, _⟩ := ((k7.far (p := ⟨g6, 0, none⟩) hne (.slice none 0 0)).far (p := ⟨g6, 1, none⟩) hne (.slice none 0 0)).two
    have Hbe := Lib.hid hal; have Hk6 := Lib.hid k6; have Hk7 := Lib.hid k7
    clear hal k3 k6 k7 hne
    go_wp2
    obtain ⟨W9, hW9⟩ : ∃ W9, (((w9.setCell ⟨g6, 0, none⟩ (.slice none 0 0)).setCell ⟨g6, 1, none⟩ (.slice none 0 0)).setCell ⟨g7, 0, none⟩ (.int .i64 3)).setCell ⟨g7, 1, none⟩ (.int .i64 (-3)) = W9 := ⟨_, rfl⟩
    have hbe := below_put4 (w := w) Hbe.out (by have := Hg.out; omega) (by have := Hg.out; omega) _ _ _ _ hW9
    obtain ⟨p6, p7, _⟩ := put4 Hk6.out Hk7.out (by have := Hg.out; omega) _ _ _ _ hW9
    rw [hW9]
    obtain ⟨e0, e1, _⟩ := (show Blk W9 g6 _ _ from p6).two
    obtain ⟨e2, e3, _⟩ := (show Blk W9 g7 _ _ from p7).two
    refine bodyPost_ret (v := .tuple #[.agg #[.slice none 0 0, .slice none 0 0], .agg #[.int .i64 3, .int .i64 (-3)]]) (by simp [results, Tryz.results15, go_sem, e0, e1, e2, e3]) rfl ?_
    exact ⟨_, _, rfl, SlR.nil _ _ _, SlR.nil _ _ _, hbe⟩
  have hi2 := hc
  clear hc
  by_cases hc : id ∈ ids
  · have hR : Ix.addR (ids, ts) id text = (([], []), 7, (-3)) := by unfold Ix.addR; rw [if_neg hz, if_neg H4.out, if_neg hi1, if_neg hi2, if_pos hc]
    unfold AddAtB
    rw [hR]
    have hd1 : decide (id < 1) = false := by simpa using hi1
    have hd2 : decide (1000000 < id) = false := by simpa using hi2
    have hd3 : decide (id ∈ ids) = true := by simpa using hc
    clear hz hR hc hi1 hi2
    go_enter Tryz.func15, Tryz.ntmps15
    go_wp2_with fail
    rw [HW.out, Hg.out.1, Hg.out.2.1, Hg.out.2.2.1]
    refine Hval.out.mono ?_
    rintro e w1 ⟨rfl, hb1⟩
    clear q0 q1 Hval HW
    replace k3 := k3.ext hb1
    replace k6 := k6.ext hb1
    replace k7 := k7.ext hb1
    replace hal := hal.trans (hb1.mono hal.size)
    clear hb1
    obtain ⟨g8, V1, hg8, hV1, kf, hb11⟩ := one_new w1 (.int .i64 fa) (.int .i64 fb) 27
    have H8 : Hid (g7 < g8) := Lib.hid (by have := k7.lt; omega)
    replace k3 := k3.ext hb11
    replace k6 := k6.ext hb11
    replace k7 := k7.ext hb11
    replace hal := hal.trans (hb11.mono hal.size)
    clear hb11
    obtain ⟨f0, f1, _, _, _⟩ := kf.two
    go_wp2_with fail
    clear hV1 hg8 f0 f1
    refine (Hfl.out fa fb V1).mono ?_
    rintro e w2 ⟨rfl, hb2⟩
    replace k3 := k3.ext hb2
    replace k6 := k6.ext hb2
    replace k7 := k7.ext hb2
    replace kf := kf.ext hb2
    replace hal := hal.trans (hb2.mono hal.size)
    clear hb2
    clear kf
    have H2 : Hid (g3 < w2.heap.size ∧ w.heap.size ≤ w2.heap.size) := Lib.hid ⟨k3.lt, hal.size⟩
    go_wp2_with fail
    refine (Hst.out w2 hal).mono ?_
    rintro e w3 ⟨A2, c2, L, rfl, hL, hown, hb3⟩
    replace k3 := k3.ext hb3
    replace k6 := k6.ext hb3
    replace k7 := k7.ext hb3
    replace hal := hal.trans (hb3.mono hal.size)
    clear hb3
    obtain ⟨g10, V3, hg8, hV1, ke, hb13⟩ := one_new w3 (.int .i64 za) (.int .i64 zb) 27
    have H10 : Hid (g7 < g10) := Lib.hid (by have := k7.lt; omega)
    replace k3 := k3.ext hb13
    replace k6 := k6.ext hb13
    replace k7 := k7.ext hb13
    replace hal := hal.trans (hb13.mono hal.size)
    clear hb13
    obtain ⟨f0, f1, _, _, _⟩ := ke.two
    go_wp2_with fail
    clear hV1 hg8 f0 f1
    refine (Hfl.out za zb V3).mono ?_
    rintro e w4 ⟨rfl, hb4⟩
    replace k3 := k3.ext hb4
    replace k6 := k6.ext hb4
    replace k7 := k7.ext hb4
    replace ke := ke.ext hb4
    replace hal := hal.trans (hb4.mono hal.size)
    clear hb4
    clear ke
    obtain ⟨t0, t1, _, _, _⟩ := k3.two
    go_wp2_with fail
    clear t0 t1
    refine (Hhs.out w4 hal).mono ?_
    rintro e w5 ⟨rfl, hb5⟩
    replace k3 := k3.ext hb5
    replace k6 := k6.ext hb5
    replace k7 := k7.ext hb5
    replace hal := hal.trans (hb5.mono hal.size)
    clear hb5
    obtain ⟨t0, t1, _, _, _⟩ := k3.two
    go_wp2_with fail
    clear t0 t1
    refine (Hfc.out 7 (-3) _).mono ?_
    rintro e w9 ⟨rfl, hb9⟩
    replace k3 := k3.ext hb9
    replace k6 := k6.ext hb9
    replace k7 := k7.ext hb9
    replace hal := hal.trans (hb9.mono hal.size)
    clear hb9
    obtain ⟨u0, u1, u2, u3, _⟩ := k6.two
    have hne : g7 ≠ g6 := by have := Hg.out; omega
    obtain ⟨v0, v1, v2, v3, _⟩ := ((k7.far (p := ⟨g6, 0, none⟩) hne (.slice none 0 0)).far (p := ⟨g6, 1, none⟩) hne (.slice none 0 0)).two
    have Hbe := Lib.hid hal; have Hk6 := Lib.hid k6; have Hk7 := Lib.hid k7
    clear hal k3 k6 k7 hne
    go_wp2
    obtain ⟨W9, hW9⟩ : ∃ W9, (((w9.setCell ⟨g6, 0, none⟩ (.slice none 0 0)).setCell ⟨g6, 1, none⟩ (.slice none 0 0)).setCell ⟨g7, 0, none⟩ (.int .i64 7)).setCell ⟨g7, 1, none⟩ (.int .i64 (-3)) = W9 := ⟨_, rfl⟩
    have hbe := below_put4 (w := w) Hbe.out (by have := Hg.out; omega) (by have := Hg.out; omega) _ _ _ _ hW9
    obtain ⟨p6, p7, _⟩ := put4 Hk6.out Hk7.out (by have := Hg.out; omega) _ _ _ _ hW9
    rw [hW9]
    obtain ⟨e0, e1, _⟩ := (show Blk W9 g6 _ _ from p6).two
    obtain ⟨e2, e3, _⟩ := (show Blk W9 g7 _ _ from p7).two
    refine bodyPost_ret (v := .tuple #[.agg #[.slice none 0 0, .slice none 0 0], .agg #[.int .i64 7, .int .i64 (-3)]]) (by simp [results, Tryz.results15, go_sem, e0, e1, e2, e3]) rfl ?_
    exact ⟨_, _, rfl, SlR.nil _ _ _, SlR.nil _ _ _, hbe⟩
  have hi3 := hc
  clear hc
  by_cases hc : ids.length = 300
  · have hR : Ix.addR (ids, ts) id text = (([], []), 2, (-3)) := by unfold Ix.addR; rw [if_neg hz, if_neg H4.out, if_neg hi1, if_neg hi2, if_neg hi3, if_pos hc]
    unfold AddAtB
    rw [hR]
    have hd1 : decide (id < 1) = false := by simpa using hi1
    have hd2 : decide (1000000 < id) = false := by simpa using hi2
    have hd3 : decide (id ∈ ids) = false := by simpa using hi3
    have hd4 : ((ids.length : Int) == 300) = true := beq_iff_eq.2 (by omega)
    clear hz hR hc hi1 hi2 hi3
    go_enter Tryz.func15, Tryz.ntmps15
    go_wp2_with fail
    rw [HW.out, Hg.out.1, Hg.out.2.1, Hg.out.2.2.1]
    refine Hval.out.mono ?_
    rintro e w1 ⟨rfl, hb1⟩
    clear q0 q1 Hval HW
    replace k3 := k3.ext hb1
    replace k6 := k6.ext hb1
    replace k7 := k7.ext hb1
    replace hal := hal.trans (hb1.mono hal.size)
    clear hb1
    obtain ⟨g8, V1, hg8, hV1, kf, hb11⟩ := one_new w1 (.int .i64 fa) (.int .i64 fb) 27
    have H8 : Hid (g7 < g8) := Lib.hid (by have := k7.lt; omega)
    replace k3 := k3.ext hb11
    replace k6 := k6.ext hb11
    replace k7 := k7.ext hb11
    replace hal := hal.trans (hb11.mono hal.size)
    clear hb11
    obtain ⟨f0, f1, _, _, _⟩ := kf.two
    go_wp2_with fail
    clear hV1 hg8 f0 f1
    refine (Hfl.out fa fb V1).mono ?_
    rintro e w2 ⟨rfl, hb2⟩
    replace k3 := k3.ext hb2
    replace k6 := k6.ext hb2
    replace k7 := k7.ext hb2
    replace kf := kf.ext hb2
    replace hal := hal.trans (hb2.mono hal.size)
    clear hb2
    clear kf
    have H2 : Hid (g3 < w2.heap.size ∧ w.heap.size ≤ w2.heap.size) := Lib.hid ⟨k3.lt, hal.size⟩
    go_wp2_with fail
    refine (Hst.out w2 hal).mono ?_
    rintro e w3 ⟨A2, c2, L, rfl, hL, hown, hb3⟩
    replace k3 := k3.ext hb3
    replace k6 := k6.ext hb3
    replace k7 := k7.ext hb3
    replace hal := hal.trans (hb3.mono hal.size)
    clear hb3
    obtain ⟨g10, V3, hg8, hV1, ke, hb13⟩ := one_new w3 (.int .i64 za) (.int .i64 zb) 27
    have H10 : Hid (g7 < g10) := Lib.hid (by have := k7.lt; omega)
    replace k3 := k3.ext hb13
    replace k6 := k6.ext hb13
    replace k7 := k7.ext hb13
    replace hal := hal.trans (hb13.mono hal.size)
    clear hb13
    obtain ⟨f0, f1, _, _, _⟩ := ke.two
    go_wp2_with fail
    clear hV1 hg8 f0 f1
    refine (Hfl.out za zb V3).mono ?_
    rintro e w4 ⟨rfl, hb4⟩
    replace k3 := k3.ext hb4
    replace k6 := k6.ext hb4
    replace k7 := k7.ext hb4
    replace ke := ke.ext hb4
    replace hal := hal.trans (hb4.mono hal.size)
    clear hb4
    clear ke
    obtain ⟨t0, t1, _, _, _⟩ := k3.two
    go_wp2_with fail
    clear t0 t1
    refine (Hhs.out w4 hal).mono ?_
    rintro e w5 ⟨rfl, hb5⟩
    replace k3 := k3.ext hb5
    replace k6 := k6.ext hb5
    replace k7 := k7.ext hb5
    replace hal := hal.trans (hb5.mono hal.size)
    clear hb5
    obtain ⟨t0, t1, _, _, _⟩ := k3.two
    go_wp2_with fail
    clear t0 t1
    refine (Hfc.out 2 (-3) _).mono ?_
    rintro e w9 ⟨rfl, hb9⟩
    replace k3 := k3.ext hb9
    replace k6 := k6.ext hb9
    replace k7 := k7.ext hb9
    replace hal := hal.trans (hb9.mono hal.size)
    clear hb9
    obtain ⟨u0, u1, u2, u3, _⟩ := k6.two
    have hne : g7 ≠ g6 := by have := Hg.out; omega
    obtain ⟨v0, v1, v2, v3, _⟩ := ((k7.far (p := ⟨g6, 0, none⟩) hne (.slice none 0 0)).far (p := ⟨g6, 1, none⟩) hne (.slice none 0 0)).two
    have Hbe := Lib.hid hal; have Hk6 := Lib.hid k6; have Hk7 := Lib.hid k7
    clear hal k3 k6 k7 hne
    go_wp2
    obtain ⟨W9, hW9⟩ : ∃ W9, (((w9.setCell ⟨g6, 0, none⟩ (.slice none 0 0)).setCell ⟨g6, 1, none⟩ (.slice none 0 0)).setCell ⟨g7, 0, none⟩ (.int .i64 2)).setCell ⟨g7, 1, none⟩ (.int .i64 (-3)) = W9 := ⟨_, rfl⟩
    have hbe := below_put4 (w := w) Hbe.out (by have := Hg.out; omega) (by have := Hg.out; omega) _ _ _ _ hW9
    obtain ⟨p6, p7, _⟩ := put4 Hk6.out Hk7.out (by have := Hg.out; omega) _ _ _ _ hW9
    rw [hW9]
    obtain ⟨e0, e1, _⟩ := (show Blk W9 g6 _ _ from p6).two
    obtain ⟨e2, e3, _⟩ := (show Blk W9 g7 _ _ from p7).two
    refine bodyPost_ret (v := .tuple #[.agg #[.slice none 0 0, .slice none 0 0], .agg #[.int .i64 2, .int .i64 (-3)]]) (by simp [results, Tryz.results15, go_sem, e0, e1, e2, e3]) rfl ?_
    exact ⟨_, _, rfl, SlR.nil _ _ _, SlR.nil _ _ _, hbe⟩
  have hi4 := hc
  clear hc
  have hd1 : decide (id < 1) = false := by simpa using hi1
  have hd2 : decide (1000000 < id) = false := by simpa using hi2
  have hd3 : decide (id ∈ ids) = false := by simpa using hi3
  have hd4 : ((ids.length : Int) == 300) = false := beq_eq_false_iff_ne.2 (by omega)
  have hdp := fun W' (hb : Below w.heap.size w W') => duplicate_ok (.slice A0 ids.length c0) (.slice A1 ts.length c1) ids ts W' (H01.out.1.ext hb) (H01.out.2.1.ext hb) Hcan.out.small
  have Hdp := Lib.hid hdp
  have hR := And.intro hz (And.intro hi1 (And.intro hi2 (And.intro hi3 hi4)))
  have HR := Lib.hid hR
  have Hid3 : Hid (1 ≤ id ∧ id ≤ 1000000) := Lib.hid (by omega)
  clear hz hi1 hi2 hi3 hi4 hdp hR
  go_enter Tryz.func15, Tryz.ntmps15
  go_wp2_with fail
  rw [HW.out, Hg.out.1, Hg.out.2.1, Hg.out.2.2.1]
  refine Hval.out.mono ?_
  rintro e w1 ⟨rfl, hb1⟩
  clear q0 q1 Hval HW
  replace k3 := k3.ext hb1
  replace k6 := k6.ext hb1
  replace k7 := k7.ext hb1
  replace hal := hal.trans (hb1.mono hal.size)
  clear hb1
  obtain ⟨g8, V1, hg8, hV1, kf, hb11⟩ := one_new w1 (.int .i64 fa) (.int .i64 fb) 27
  have H8 : Hid (g7 < g8) := Lib.hid (by have := k7.lt; omega)
  replace k3 := k3.ext hb11
  replace k6 := k6.ext hb11
  replace k7 := k7.ext hb11
  replace hal := hal.trans (hb11.mono hal.size)
  clear hb11
  obtain ⟨f0, f1, _, _, _⟩ := kf.two
  go_wp2_with fail
  clear hV1 hg8 f0 f1
  refine (Hfl.out fa fb V1).mono ?_
  rintro e w2 ⟨rfl, hb2⟩
  replace k3 := k3.ext hb2
  replace k6 := k6.ext hb2
  replace k7 := k7.ext hb2
  replace kf := kf.ext hb2
  replace hal := hal.trans (hb2.mono hal.size)
  clear hb2
  clear kf
  have H2 : Hid (g3 < w2.heap.size ∧ w.heap.size ≤ w2.heap.size) := Lib.hid ⟨k3.lt, hal.size⟩
  go_wp2_with fail
  refine (Hst.out w2 hal).mono ?_
  rintro e w3 ⟨A2, c2, L, rfl, hL, hown, hb3⟩
  replace k3 := k3.ext hb3
  replace k6 := k6.ext hb3
  replace k7 := k7.ext hb3
  replace hal := hal.trans (hb3.mono hal.size)
  clear hb3
  obtain ⟨g10, V3, hg8, hV1, ke, hb13⟩ := one_new w3 (.int .i64 za) (.int .i64 zb) 27
  have H10 : Hid (g7 < g10) := Lib.hid (by have := k7.lt; omega)
  replace k3 := k3.ext hb13
  replace k6 := k6.ext hb13
  replace k7 := k7.ext hb13
  replace hown := hown.ext hb13
  replace hal := hal.trans (hb13.mono hal.size)
  clear hb13
  obtain ⟨f0, f1, _, _, _⟩ := ke.two
  go_wp2_with fail
  clear hV1 hg8 f0 f1
  refine (Hfl.out za zb V3).mono ?_
  rintro e w4 ⟨rfl, hb4⟩
  replace k3 := k3.ext hb4
  replace k6 := k6.ext hb4
  replace k7 := k7.ext hb4
  replace ke := ke.ext hb4
  replace hown := hown.ext hb4
  replace hal := hal.trans (hb4.mono hal.size)
  clear hb4
  clear ke
  obtain ⟨t0, t1, _, _, _⟩ := k3.two
  go_wp2_with fail
  clear t0 t1
  refine (Hhs.out w4 hal).mono ?_
  rintro e w5 ⟨rfl, hb5⟩
  replace k3 := k3.ext hb5
  replace k6 := k6.ext hb5
  replace k7 := k7.ext hb5
  replace hown := hown.ext hb5
  replace hal := hal.trans (hb5.mono hal.size)
  clear hb5
  obtain ⟨t0, t1, _, _, _⟩ := k3.two
  go_wp2_with fail
  clear t0 t1
  refine (Hdp.out w5 hal).mono ?_
  rintro e w6 ⟨a', b', o, X, rfl, hai, hano, hT, hX, hlo, hb6⟩
  obtain ⟨Aa, ca, rfl, _, _⟩ := hai.shape
  obtain ⟨Ab, cb, rfl, _, _⟩ := hT.row.shape
  have HX := Lib.hid hX
  obtain ⟨m, hm⟩ : ∃ m, (X.map rt).length = m := ⟨_, rfl⟩
  rw [hm] at hT ⊢
  obtain ⟨W6, hW6⟩ : ∃ W6, (w6.setCell ⟨g3, 0, none⟩ (.slice Aa ids.length ca)).setCell ⟨g3, 1, none⟩ (.slice Ab m cb) = W6 := ⟨_, rfl⟩
  have hst := AddSt.start (w0 := w) hal hb6 k3 k6 k7 (hown.lower H2.out.2) (fun g hg => by have := hown.base g hg; have := H2.out.1; omega) hai hano hT hlo (by have := Hg.out; omega) (by have := Hg.out; omega) (by have := Hg.out; omega) hW6
  obtain ⟨t0, t1, t2, t3, _⟩ := (k3.ext hb6).two
  obtain ⟨V6, hV6⟩ : ∃ V6, W6.alloc (.cells #[.int .i64 id] 3) = V6 := ⟨_, rfl⟩
  have hal9 : Below W6.heap.size W6 V6 := hV6 ▸ (Below.refl _ _).alloc (Nat.le_refl _) _
  have kv : Blk V6 W6.heap.size 3 #[.int .i64 id] := hV6 ▸ Blk.new W6 _ _
  have hap : ∀ g, (Value.slice Aa ids.length ca).ownBlock = some g → g6 ≠ g ∧ g7 ≠ g ∧ ∀ b, (Value.slice A2 L.length c2).ownBlock = some b → b ≠ g := fun g hg => by
    have h1 := hai.base g hg
    have h2 := k6.lt
    have h3 := k7.lt
    exact ⟨by omega, by omega, fun b hb => by have := hown.lt b hb; omega⟩
  have hins := insertInt_ok M0 (.slice Aa ids.length ca) ids id (ids.countP (· < id)) w.heap.size W6.heap.size #[.int .i64 id] V6 (hst.ints.ext hal9) (countP_le ids id) (by have := Hcan.out.few; dsimp only at this; omega) kv (fun M' => ⟨rfl, by have := Hid3.out; omega, by have := Hid3.out; omega⟩) (fun e => by have := hst.ints.lt _ e; omega) (fun h => h) (Nat.le_trans hst.below.size hal9.size) (fun _ h => h.elim)
  rw [← insId_countP Hcan.out.ids HR.out.2.2.2.1] at hins
  obtain ⟨s0, s1, s2, s3, _⟩ := hst.k3.two
  have Hins := Lib.hid hins; have Hsto := Lib.hid (And.intro hst (And.intro hal9 hap))
  clear hins hst hap hai hano hT hX hlo hb6 hal k3 k6 k7 hown hm kv hal9
  go_wp2_with fail
  clear hW6 hV6 t0 t1 t2 t3 s0 s1 s2 s3
  refine Hins.out.mono ?_
  rintro e w7 ⟨v', rfl, hown7, hgr, hor⟩
  obtain ⟨A7, c7, rfl, _, _⟩ := hown7.shape
  obtain ⟨W8, hW8⟩ : ∃ W8, w7.setCell ⟨g3, 0, none⟩ (.slice A7 (Ix.insId ids id).length c7) = W8 := ⟨_, rfl⟩
  obtain ⟨hst, hal9, hap⟩ := Hsto.out
  have hst8 := hst.insert hal9 hgr hown7 hor hap hW8
  have k37 : Blk w7 g3 25 #[.slice Aa ids.length ca, .slice Ab m cb] := hst.k3.keep ((hgr.block g3 (by have := hst.k3.lt; have := hal9.size; omega) fun e => (hst.intno g3 e.symm).2.1 rfl).trans (hal9.block g3 hst.k3.lt))
  obtain ⟨t0, t1, t2, t3, _⟩ := k37.two
  have Hst8 := Lib.hid hst8
  clear hst hal9 hap hst8 hgr hor hown7 k37 Hsto Hins
  go_wp2
  clear t0 t1 t2 t3 hW8
  go_loopw [67] (fun iv wr => ∃ (k : Nat) (o' : Nat → Owner) (tv : Value) (X' : List RTerm), k ≤ L.length ∧ iv = .int .i64 (k : Int) ∧ Hid (AddSt w o' g3 g6 g7 (.slice A7 (Ix.insId ids id).length c7) tv (.slice A2 L.length c2) (Ix.insId ids id) X' L wr) ∧ Hid (X'.map pt = Ix.putAll id (L.take k) 0 ts)) (fun iv _ => L.length - (intOf iv).toNat)
  case atStart => exact ⟨0, o, _, X, Nat.zero_le _, rfl, Hst8, Lib.hid (by rw [List.take_zero]; exact HX.out)⟩
  case round =>
    clear Hst8 HX
    obtain ⟨k, o', tv, X', hk, rfl, hs, hX'⟩ := hrel
    have hLn : L.length ≤ 4000 := by rw [hL.out]; exact Nat.le_trans (stems_count text) (by have := H4.out; omega)
    by_cases hlt : k < L.length
    · obtain ⟨g, c, hv, hlc, hcm, x0, hwl⟩ := hs.out.word hlt
      injection hv with e1 e2 e3
      subst e1 e3
      have hput := put_ok o' w.heap.size g3 (.slice A7 (Ix.insId ids id).length c7) tv X' L[k] id (k : Int) wr hs.out.tree hs.out.k3 hs.out.n3 hs.out.below.size (by rw [hX'.out]; exact Ix.Wf.putAll _ _ _ Hcan.out.wf) (by rw [hX'.out]; exact room_add Hcan.out Hid3.out HR.out.2.2.2.1 (by rw [List.length_take]; omega)) Hid3.out ⟨by omega, by omega⟩ hwl
      have Hput := Lib.hid hput
      have hkil : (k : Int) < (L.length : Int) := by omega
      have hki0 : (0 : Int) ≤ (k : Int) := by omega
      have hkiw : IntKind.i64.wrap (k : Int) = (k : Int) := IntWalk.i64_in _ (by omega)
      clear hput hwl e2
      go_wp2_with fail
      refine Hput.out.mono ?_
      rintro e w9 ⟨o9, tv9, X9, rfl, hT9, hk9, hX9, ht9, ho9⟩
      have Hs9 := Lib.hid (hs.out.step hT9 hk9 ht9 ho9)
      have HX9 : Hid (X9.map pt = Ix.putAll id (L.take (k + 1)) 0 ts) := Lib.hid (by rw [hX9, hX'.out, putAll_take id L ts hlt])
      clear hT9 hk9 ht9 ho9 hX9 hs x0 Hput
      go_wp2
      go_roundw
      case rel => exact ⟨k + 1, o9, tv9, X9, by omega, by go_num, Hs9, HX9⟩
      case measure => simp [intOf]; omega
    · obtain rfl : k = L.length := by omega
      have hXe : X'.map pt = Ix.putAll id (Sm.stems text) 0 ts := by rw [hX'.out, List.take_length, hL.out]
      obtain ⟨Ax, cx, rfl, _, _⟩ := hs.out.tree.row.shape
      obtain ⟨N, hN⟩ : ∃ N, (X'.map rt).length = N := ⟨_, rfl⟩
      have hNp : N = (Ix.putAll id (Sm.stems text) 0 ts).length := by rw [← hXe, ← hN]; simp
      have k3 := hs.out.k3; have k6 := hs.out.k6; have k7 := hs.out.k7; have hal := hs.out.below
      rw [hN] at k3
      have HN := Lib.hid (And.intro hN (And.intro hNp hXe))
      have hRb := HR.out
      obtain ⟨t0, t1, _, _, _⟩ := k3.two
      clear hN
      by_cases hbig : 1000000 < N
      · have hR : Ix.addR (ids, ts) id text = (([], []), 2, -2) := by unfold Ix.addR; rw [if_neg hRb.1, if_neg H4.out, if_neg (show ¬ id < 1 by have := Hid3.out; omega), if_neg (show ¬ 1000000 < id by have := Hid3.out; omega), if_neg hRb.2.2.2.1, if_neg hRb.2.2.2.2, if_pos (by rw [← hNp]; exact hbig)]
        have HRR := Lib.hid hR
        have hd5 : decide (1000000 < (N : Int)) = true := by simp; omega
        clear hR hRb hNp hXe
        go_wp2_with fail
        clear t0 t1
        refine (Hfc.out 2 (-2) _).mono ?_
        rintro e w9 ⟨rfl, hb9⟩
        replace k3 := k3.ext hb9
        replace k6 := k6.ext hb9
        replace k7 := k7.ext hb9
        replace hal := hal.trans (hb9.mono hal.size)
        clear hb9
        obtain ⟨u0, u1, u2, u3, _⟩ := k6.two
        have hne : g7 ≠ g6 := by have := Hg.out; omega
        obtain ⟨v0, v1, v2, v3, _⟩ := ((k7.far (p := ⟨g6, 0, none⟩) hne (.slice none 0 0)).far (p := ⟨g6, 1, none⟩) hne (.slice none 0 0)).two
        have Hbe := Lib.hid hal; have Hk6 := Lib.hid k6; have Hk7 := Lib.hid k7
        clear hal k3 k6 k7 hne
        go_wp2
        obtain ⟨W9, hW9⟩ : ∃ W9, (((w9.setCell ⟨g6, 0, none⟩ (.slice none 0 0)).setCell ⟨g6, 1, none⟩ (.slice none 0 0)).setCell ⟨g7, 0, none⟩ (.int .i64 2)).setCell ⟨g7, 1, none⟩ (.int .i64 (-2)) = W9 := ⟨_, rfl⟩
        have hbe := below_put4 (w := w) Hbe.out (by have := Hg.out; omega) (by have := Hg.out; omega) _ _ _ _ hW9
        obtain ⟨p6, p7, _⟩ := put4 Hk6.out Hk7.out (by have := Hg.out; omega) _ _ _ _ hW9
        rw [hW9]
        obtain ⟨e0, e1, _⟩ := (show Blk W9 g6 _ _ from p6).two
        obtain ⟨e2, e3, _⟩ := (show Blk W9 g7 _ _ from p7).two
        refine bodyPost_ret (v := .tuple #[.agg #[.slice none 0 0, .slice none 0 0], .agg #[.int .i64 2, .int .i64 (-2)]]) (by simp [results, Tryz.results15, go_sem, e0, e1, e2, e3]) rfl ?_
        unfold AddAtB
        rw [HRR.out]
        exact ⟨_, _, rfl, SlR.nil _ _ _, SlR.nil _ _ _, hbe⟩
      · have hR : Ix.addR (ids, ts) id text = (Ix.addF (ids, ts) id (Sm.stems text), 0, 0) := by unfold Ix.addR; rw [if_neg hRb.1, if_neg H4.out, if_neg (show ¬ id < 1 by have := Hid3.out; omega), if_neg (show ¬ 1000000 < id by have := Hid3.out; omega), if_neg hRb.2.2.2.1, if_neg hRb.2.2.2.2, if_neg (by rw [← hNp]; exact hbig)]
        have HRR := Lib.hid hR
        have hd5 : decide (1000000 < (N : Int)) = false := by simp; omega
        clear hR hRb hNp hXe
        go_wp2_with fail
        clear t0 t1
        have hno := fun W => none_ok W
        have Hno := Lib.hid hno
        have hSS : ∀ W', Below wr.heap.size wr W' → W'.cell? ⟨g3, 0, none⟩ = some (.slice A7 (Ix.insId ids id).length c7) ∧ W'.cell? ⟨g3, 1, none⟩ = some (.slice Ax N cx) := fun W' hb => ⟨(k3.ext hb).two.1, (k3.ext hb).two.2.1⟩
        have HS := Lib.hid hSS
        have hS := HS.out _ (below_drewN' wr.heap.size wr 1)
        clear hSS hno
        refine wp_region_D (fun W => W.cell? ⟨g3, 0, none⟩ = some (.slice A7 (Ix.insId ids id).length c7) ∧ W.cell? ⟨g3, 1, none⟩ = some (.slice Ax N cx)) (fun j => j == 2 || j == 3) (by kernel_rfl) ?_
        (refine anyD_light (i := 0) (v := ?_) rfl (by kernel_rfl) (by kernel_rfl) (by kernel_rfl) (by kernel_rfl) (by kernel_rfl) (fun _ _ _ h => h) (.inl ⟨by kernel_rfl, fun W9 hW9 => ?_⟩) hS ?_; rotate_left; · (obtain ⟨hw0, hw1⟩ := hW9; go_simp; rfl))
        go_simp
        refine anyD_one (i := 1) (by kernel_rfl) rfl rfl (fun K hK => ?_)
        have HK := Lib.hid hK
        clear hK
        unfold Oper.wp
        go_simp
        refine (Hno.out _).mono ?_
        rintro e w8 ⟨rfl, hb8⟩
        have hb18 : Below wr.heap.size wr w8 := (below_drewN' wr.heap.size wr 1).trans hb8
        clear hS
        have hS := HS.out _ hb18
        refine HK.out _ _ (fun _ => hS) ?_
        clear HK
        have k68 := k6.ext hb18
        have k78 := k7.ext hb18
        have hbe8 := hal.trans (hb18.mono hal.size)
        obtain ⟨u0, u1, u2, u3, _⟩ := k68.two
        go_simp
        refine anyD_one (i := 2) (by kernel_rfl) rfl rfl (fun K hK => ?_)
        have HK := Lib.hid hK
        clear hK
        unfold Oper.wp
        go_simp
        refine HK.out _ _ (fun h => by cases h) ?_
        clear HK
        go_simp
        refine anyD_one (i := 3) (by kernel_rfl) rfl rfl (fun K hK => ?_)
        have HK := Lib.hid hK
        clear hK
        obtain ⟨v0, v1, v2, v3, _⟩ := ((k78.far (p := ⟨g6, 0, none⟩) (by have := Hg.out; show g7 ≠ g6; omega) (.slice A7 (Ix.insId ids id).length c7)).far (p := ⟨g6, 1, none⟩) (by have := Hg.out; show g7 ≠ g6; omega) (.slice Ax N cx)).two
        unfold Oper.wp
        go_simp
        refine HK.out _ _ (fun h => by cases h) ?_
        clear HK
        go_simp
        refine anyD_done (by kernel_rfl) ?_ _
        have Hk8 := Lib.hid (And.intro k68 (And.intro k78 (And.intro hbe8 hb18)))
        clear k68 k78 hbe8 hb18 k3 k6 k7 hal
        go_wp2
        obtain ⟨k68, k78, hbe8, hb18⟩ := Hk8.out
        obtain ⟨W9, hW9⟩ : ∃ W9, (((w8.setCell ⟨g6, 0, none⟩ (.slice A7 (Ix.insId ids id).length c7)).setCell ⟨g6, 1, none⟩ (.slice Ax N cx)).setCell ⟨g7, 0, none⟩ (.int .i64 0)).setCell ⟨g7, 1, none⟩ (.int .i64 0) = W9 := ⟨_, rfl⟩
        have hbe := below_put4 (w := w) hbe8 (by have := Hg.out; omega) (by have := Hg.out; omega) _ _ _ _ hW9
        obtain ⟨p6, p7, _, _, _, hsz9, hsm⟩ := put4 k68 k78 (by have := Hg.out; omega) _ _ _ _ hW9
        rw [hW9]
        obtain ⟨e0, e1, _⟩ := p6.two
        obtain ⟨e2, e3, _⟩ := p7.two
        refine bodyPost_ret (v := .tuple #[.agg #[.slice A7 (Ix.insId ids id).length c7, .slice Ax N cx], .agg #[.int .i64 0, .int .i64 0]]) (by simp [results, Tryz.results15, go_sem, e0, e1, e2, e3]) rfl ?_
        unfold AddAtB
        rw [HRR.out]
        obtain ⟨r0, r1⟩ := hs.out.fin hb18 hsm hsz9
        rw [HN.out.1, HN.out.2.2] at r1
        exact ⟨_, _, rfl, r0, r1, hbe⟩
/-- what Add answers, read plainly -/
def AddAt (x : Ix.Idx) (id : Int) (t : Str) (w : World) (e : Ending) (w' : World) : Prop :=
  ∃ a' b', e = .returned (.tuple #[.agg #[a', b'], .agg #[.int .i64 (Ix.addR x id t).2.1, .int .i64 (Ix.addR x id t).2.2]]) ∧ SlR intC M0 w' a' (Ix.addR x id t).1.1 ∧ SlR termC M0 w' b' (Ix.addR x id t).1.2 ∧ Below w.heap.size w w'
theorem add_ok (a b : Value) (ids : List Int) (ts : List Ix.Term) (id : Int) (text : Str) (w : World) (h0 : SlR intC M0 w a ids) (h1 : SlR termC M0 w b ts) (hsz : SzIx ts) (hTb : TabsU w) :
    Calls Tryz.prog 15 #[.agg #[a, b], .int .i64 id, .string (bs text)] w (AddAt (ids, ts) id text w) :=
  (add_okB a b ids ts id text w h0 h1 hsz hTb).mono fun e w' ⟨a', b', he, h2, h3, hb⟩ => ⟨a', b', he, h2.weak, h3.weak, hb⟩
end Go.Proofs.YtfjpedgddgbelaaGreatDoor
