/-
  Contracts and plain facts, one after another: index.Remove; The example of the stems' statements; The example of the indexes' statements.
-/
import Derived.Test.YtfjpedgddgbelaaGreatDoorMSo19
import Derived.Test.YtfjpedgddgbelaaGreatDoorMSo18
import Derived.Test.YtfjpedgddgbelaaGreatDoorMSo16
import Derived.Deep.QuietTactic
import Derived.BigQuiet
import Derived.RegionTactic
import Derived.ChangeAlike
/-
  index.Remove.
-/
namespace Go.Proofs.YtfjpedgddgbelaaGreatDoor
open Go.RowKit
set_option linter.unusedVariables false
theorem four_new (w : World) (a b : Value) (t : TypeId) (x : Value) (ti : TypeId) (c d : Value) (t' : TypeId) (e f : Value) (t'' : TypeId) : ∃ W g3 gi g6 g7, (((w.alloc (.cells #[a, b] t)).alloc (.cells #[x] ti)).alloc (.cells #[c, d] t')).alloc (.cells #[e, f] t'') = W ∧ w.heap.size = g3 ∧ g3 + 1 = gi ∧ gi + 1 = g6 ∧ g6 + 1 = g7 ∧ W.heap.size = w.heap.size + 4 ∧ Below w.heap.size w W ∧ Blk W g3 t #[a, b] ∧ Blk W gi ti #[x] ∧ Blk W g6 t' #[c, d] ∧ Blk W g7 t'' #[e, f] := by
  have hb0 := (Below.refl w.heap.size w).alloc (Nat.le_refl _) (.cells #[a, b] t)
  have hb1 := hb0.alloc hb0.size (.cells #[x] ti)
  have hb2 := hb1.alloc hb1.size (.cells #[c, d] t')
  have k1 := Blk.new (w.alloc (.cells #[a, b] t)) ti #[x]
  have k2 := Blk.new ((w.alloc (.cells #[a, b] t)).alloc (.cells #[x] ti)) t' #[c, d]
  have k3 := Blk.new (((w.alloc (.cells #[a, b] t)).alloc (.cells #[x] ti)).alloc (.cells #[c, d] t')) t'' #[e, f]
  have s : ∀ (V : World) (ob : Obj), (V.alloc ob).heap.size = V.heap.size + 1 := fun V ob => by simp
  rw [s] at k1
  rw [s, s] at k2
  rw [s, s, s] at k3
  exact ⟨_, _, _, _, _, rfl, rfl, rfl, rfl, rfl, by simp, hb2.alloc hb2.size _, (((Blk.new w t _).alloc _).alloc _).alloc _, (k1.alloc _).alloc _, k2.alloc _, k3⟩
/-- what Remove answers -/
def RemAt (x : Ix.Idx) (id : Int) (w : World) (e : Ending) (w' : World) : Prop :=
  ∃ a' b', e = .returned (.tuple #[.agg #[a', b'], .agg #[.int .i64 (Ix.removeR x id).2.1, .int .i64 (Ix.removeR x id).2.2]]) ∧ SlR intC M0 w' a' (Ix.removeR x id).1.1 ∧ SlR termC M0 w' b' (Ix.removeR x id).1.2 ∧ Below w.heap.size w w'

set_option maxRecDepth 20000 in
set_option maxHeartbeats 8000000 in
theorem remove_ok (a b : Value) (ids : List Int) (ts : List Ix.Term) (id : Int) (w : World) (h0 : SlR intC M0 w a ids) (h1 : SlR termC M0 w b ts) (hsz : SzIx ts) :
    Calls Tryz.prog 16 #[.agg #[a, b], .int .i64 id] w (RemAt (ids, ts) id w) := by
  obtain ⟨A0, c0, rfl, _, _⟩ := h0.form
  obtain ⟨A1, c1, rfl, _, _⟩ := h1.form
  obtain ⟨W, g3, gi, g6, g7, hW, hg3, hgi, hg6, hg7, hs, hal, k3, ki, k6, k7⟩ := four_new w (.slice A0 ids.length c0) (.slice A1 ts.length c1) 25 (.int .i64 id) 3 (.slice none 0 0) (.slice none 0 0) 25 (.int .i64 0) (.int .i64 0) 27
  have hval := validate_ok (.slice A0 ids.length c0) (.slice A1 ts.length c1) ids ts W (h0.ext hal) (h1.ext hal) hsz
  obtain ⟨fa, fb, hf⟩ : ∃ fa fb, Ix.indexF (ids, ts) = (fa, fb) := ⟨_, _, rfl⟩
  rw [hf] at hval
  have hfl := fun a b W => failed_ok a b W
  have hfc := fun a b W => fault_ok a b W
  obtain ⟨q0, q1, _, _, _⟩ := k3.two
  rw [← hW, ← hg3] at q0 q1
  have HW := Lib.hid hW; have Hg := Lib.hid (And.intro hg3 (And.intro hgi (And.intro hg6 (And.intro hg7 hs)))); have Hval := Lib.hid hval; have Hfl := Lib.hid hfl; have Hfc := Lib.hid hfc
  have H01 := Lib.hid (And.intro h0 h1)
  clear hW hg3 hgi hg6 hg7 hs hval hfl hfc h0 h1 hsz
  by_cases hfa : fa ≠ 0
  · have hR : Ix.removeR (ids, ts) id = (([], []), fa, fb) := by unfold Ix.removeR; rw [if_pos (by rw [hf]; exact hfa), hf]
    unfold RemAt
    rw [hR]
    have hfb : (fa != 0) = true := by simpa using hfa
    clear hf hR hfa
    go_enter Tryz.func16, Tryz.ntmps16
    go_wp2_with fail
    rw [HW.out, Hg.out.1, Hg.out.2.1, Hg.out.2.2.1, Hg.out.2.2.2.1]
    refine Hval.out.mono ?_
    rintro e w1 ⟨rfl, hb1⟩
    clear q0 q1 Hval HW
    replace k3 := k3.ext hb1
    replace ki := ki.ext hb1
    replace k6 := k6.ext hb1
    replace k7 := k7.ext hb1
    replace hal := hal.trans (hb1.mono hal.size)
    clear hb1
    obtain ⟨g8, V1, hg8, hV1, kf, hb11⟩ := one_new w1 (.int .i64 fa) (.int .i64 fb) 27
    have H8 : Hid (g7 < g8) := Lib.hid (by have := k7.lt; omega)
    replace k3 := k3.ext hb11
    replace ki := ki.ext hb11
    replace k6 := k6.ext hb11
    replace k7 := k7.ext hb11
    replace hal := hal.trans (hb11.mono hal.size)
    clear hb11
    obtain ⟨f0, f1, _, _, _⟩ := kf.two
    go_wp2_with fail
    clear hV1 hg8 f0 f1
    refine (Hfl.out fa fb V1).mono ?_
    rintro e w2 ⟨rfl, hb2⟩
    replace k3 := k3.ext hb2
    replace ki := ki.ext hb2
    replace k6 := k6.ext hb2
    replace k7 := k7.ext hb2
    replace kf := kf.ext hb2
    replace hal := hal.trans (hb2.mono hal.size)
    clear hb2
    have hn86 : ¬ g8 = g6 := by have := Hg.out; have := H8.out; omega
    have hn87 : ¬ g8 = g7 := by have := Hg.out; have := H8.out; omega
    have hn76 : ¬ g7 = g6 := by have := Hg.out; omega
    have hn67 : ¬ g6 = g7 := by have := Hg.out; omega
    obtain ⟨f0, f1, _, _, _⟩ := kf.two
    obtain ⟨u0, u1, u2, u3, _⟩ := k6.two
    obtain ⟨v0, v1, v2, v3, _⟩ := k7.two
    have Hbe := Lib.hid hal; have Hk6 := Lib.hid k6; have Hk7 := Lib.hid k7
    clear hal k3 kf k6 k7
    go_wp2_with fail
    go_region
    go_wp2
    obtain ⟨W9, hW9⟩ : ∃ W9, (((w2.setCell ⟨g6, 0, none⟩ (.slice none 0 0)).setCell ⟨g6, 1, none⟩ (.slice none 0 0)).setCell ⟨g7, 0, none⟩ (.int .i64 fa)).setCell ⟨g7, 1, none⟩ (.int .i64 fb) = W9 := ⟨_, rfl⟩
    have hbe := below_put4 (w := w) Hbe.out (by have := Hg.out; omega) (by have := Hg.out; omega) _ _ _ _ hW9
    obtain ⟨p6, p7, _⟩ := put4 Hk6.out Hk7.out (by have := Hg.out; omega) _ _ _ _ hW9
    rw [hW9]
    obtain ⟨e0, e1, _⟩ := (show Blk W9.drew g6 _ _ from p6).two
    obtain ⟨e2, e3, _⟩ := (show Blk W9.drew g7 _ _ from p7).two
    refine bodyPost_ret (v := .tuple #[.agg #[.slice none 0 0, .slice none 0 0], .agg #[.int .i64 fa, .int .i64 fb]]) (by simp [results, Tryz.results16, go_sem, e0, e1, e2, e3]) rfl ?_
    exact ⟨_, _, rfl, SlR.nil _ _ _, SlR.nil _ _ _, below_drew hbe⟩
  have hf0 : fa = 0 := by simpa using hfa
  have hfb : (fa != 0) = false := by simpa using hfa
  have hcan := (Ix.indexF_zero (ids, ts)).1 (by rw [hf]; exact hf0)
  have hz : ¬ (Ix.indexF (ids, ts)).1 ≠ 0 := by rw [hf]; exact hfa
  clear hfa hf hf0
  have hhs := fun W' (hb : Below w.heap.size w W') => has_ok (.slice A0 ids.length c0) (.slice A1 ts.length c1) ids id W' (H01.out.1.ext hb) hcan.ids (by have := hcan.few; dsimp only at this; omega)
  obtain ⟨n0, hn0⟩ : ∃ n0, ids.countP (· < id) = n0 := ⟨_, rfl⟩
  simp only [hn0] at hhs
  have Hhs := Lib.hid hhs; have Hcan := Lib.hid hcan; have Hn0 := Lib.hid hn0
  clear hhs hcan hn0
  by_cases hc : id ∈ ids
  case neg =>
    have hR : Ix.removeR (ids, ts) id = (([], []), 6, -3) := by unfold Ix.removeR; rw [if_neg hz, if_neg hc]
    unfold RemAt
    rw [hR]
    have hd3 : decide (id ∈ ids) = false := by simpa using hc
    clear hz hR hc
    go_enter Tryz.func16, Tryz.ntmps16
    go_wp2_with fail
    rw [HW.out, Hg.out.1, Hg.out.2.1, Hg.out.2.2.1, Hg.out.2.2.2.1]
    refine Hval.out.mono ?_
    rintro e w1 ⟨rfl, hb1⟩
    clear q0 q1 Hval HW
    replace k3 := k3.ext hb1
    replace ki := ki.ext hb1
    replace k6 := k6.ext hb1
    replace k7 := k7.ext hb1
    replace hal := hal.trans (hb1.mono hal.size)
    clear hb1
    obtain ⟨g8, V1, hg8, hV1, kf, hb11⟩ := one_new w1 (.int .i64 fa) (.int .i64 fb) 27
    have H8 : Hid (g7 < g8) := Lib.hid (by have := k7.lt; omega)
    replace k3 := k3.ext hb11
    replace ki := ki.ext hb11
    replace k6 := k6.ext hb11
    replace k7 := k7.ext hb11
    replace hal := hal.trans (hb11.mono hal.size)
    clear hb11
    obtain ⟨f0, f1, _, _, _⟩ := kf.two
    go_wp2_with fail
    clear hV1 hg8 f0 f1
    refine (Hfl.out fa fb V1).mono ?_
    rintro e w2 ⟨rfl, hb2⟩
    replace k3 := k3.ext hb2
    replace ki := ki.ext hb2
    replace k6 := k6.ext hb2
    replace k7 := k7.ext hb2
    replace kf := kf.ext hb2
    replace hal := hal.trans (hb2.mono hal.size)
    clear hb2
    clear kf
    obtain ⟨t0, t1, _, _, _⟩ := k3.two
    have i0 : w2.cell? ⟨gi, 0, none⟩ = some (.int .i64 id) := by rw [ki.cell]; rfl
    go_wp2_with fail
    clear t0 t1 i0
    refine (Hhs.out w2 hal).mono ?_
    rintro e w5 ⟨rfl, hb5⟩
    replace k3 := k3.ext hb5
    replace ki := ki.ext hb5
    replace k6 := k6.ext hb5
    replace k7 := k7.ext hb5
    replace hal := hal.trans (hb5.mono hal.size)
    clear hb5
    go_wp2_with fail
    refine (Hfc.out 6 (-3) _).mono ?_
    rintro e w9 ⟨rfl, hb9⟩
    replace k3 := k3.ext hb9
    replace ki := ki.ext hb9
    replace k6 := k6.ext hb9
    replace k7 := k7.ext hb9
    replace hal := hal.trans (hb9.mono hal.size)
    clear hb9
    obtain ⟨u0, u1, u2, u3, _⟩ := k6.two
    have hne : g7 ≠ g6 := by have := Hg.out; omega
    obtain ⟨v0, v1, v2, v3, _⟩ := ((k7.far (p := ⟨g6, 0, none⟩) hne (.slice none 0 0)).far (p := ⟨g6, 1, none⟩) hne (.slice none 0 0)).two
    have Hbe := Lib.hid hal; have Hk6 := Lib.hid k6; have Hk7 := Lib.hid k7
    clear hal k3 k6 k7 hne
    go_wp2
    obtain ⟨W9, hW9⟩ : ∃ W9, (((w9.setCell ⟨g6, 0, none⟩ (.slice none 0 0)).setCell ⟨g6, 1, none⟩ (.slice none 0 0)).setCell ⟨g7, 0, none⟩ (.int .i64 6)).setCell ⟨g7, 1, none⟩ (.int .i64 (-3)) = W9 := ⟨_, rfl⟩
    have hbe := below_put4 (w := w) Hbe.out (by have := Hg.out; omega) (by have := Hg.out; omega) _ _ _ _ hW9
    obtain ⟨p6, p7, _⟩ := put4 Hk6.out Hk7.out (by have := Hg.out; omega) _ _ _ _ hW9
    rw [hW9]
    obtain ⟨e0, e1, _⟩ := (show Blk W9 g6 _ _ from p6).two
    obtain ⟨e2, e3, _⟩ := (show Blk W9 g7 _ _ from p7).two
    refine bodyPost_ret (v := .tuple #[.agg #[.slice none 0 0, .slice none 0 0], .agg #[.int .i64 6, .int .i64 (-3)]]) (by simp [results, Tryz.results16, go_sem, e0, e1, e2, e3]) rfl ?_
    exact ⟨_, _, rfl, SlR.nil _ _ _, SlR.nil _ _ _, hbe⟩
  case pos =>
    have hd3 : decide (id ∈ ids) = true := by simpa using hc
    have hdp := fun W' (hb : Below w.heap.size w W') => duplicate_ok (.slice A0 ids.length c0) (.slice A1 ts.length c1) ids ts W' (H01.out.1.ext hb) (H01.out.2.ext hb) Hcan.out.small
    have Hdp := Lib.hid hdp; have HR := Lib.hid (And.intro hz hc)
    have her := erase_countP (id := id) Hcan.out.ids hc
    dsimp only at her
    rw [Hn0.out] at her
    have Her := Lib.hid her
    have hnw : IntKind.i64.wrap ((n0 : Int) + 1) = (n0 : Int) + 1 := IntWalk.i64_in _ (by have := her.1; have := Hcan.out.few; dsimp only at this; omega)
    clear hdp hz hc her
    go_enter Tryz.func16, Tryz.ntmps16
    go_wp2_with fail
    rw [HW.out, Hg.out.1, Hg.out.2.1, Hg.out.2.2.1, Hg.out.2.2.2.1]
    refine Hval.out.mono ?_
    rintro e w1 ⟨rfl, hb1⟩
    clear q0 q1 Hval HW
    replace k3 := k3.ext hb1
    replace ki := ki.ext hb1
    replace k6 := k6.ext hb1
    replace k7 := k7.ext hb1
    replace hal := hal.trans (hb1.mono hal.size)
    clear hb1
    obtain ⟨g8, V1, hg8, hV1, kf, hb11⟩ := one_new w1 (.int .i64 fa) (.int .i64 fb) 27
    have H8 : Hid (g7 < g8) := Lib.hid (by have := k7.lt; omega)
    replace k3 := k3.ext hb11
    replace ki := ki.ext hb11
    replace k6 := k6.ext hb11
    replace k7 := k7.ext hb11
    replace hal := hal.trans (hb11.mono hal.size)
    clear hb11
    obtain ⟨f0, f1, _, _, _⟩ := kf.two
    go_wp2_with fail
    clear hV1 hg8 f0 f1
    refine (Hfl.out fa fb V1).mono ?_
    rintro e w2 ⟨rfl, hb2⟩
    replace k3 := k3.ext hb2
    replace ki := ki.ext hb2
    replace k6 := k6.ext hb2
    replace k7 := k7.ext hb2
    replace kf := kf.ext hb2
    replace hal := hal.trans (hb2.mono hal.size)
    clear hb2
    clear kf
    obtain ⟨t0, t1, _, _, _⟩ := k3.two
    have i0 : w2.cell? ⟨gi, 0, none⟩ = some (.int .i64 id) := by rw [ki.cell]; rfl
    go_wp2_with fail
    clear t0 t1 i0
    refine (Hhs.out w2 hal).mono ?_
    rintro e w5 ⟨rfl, hb5⟩
    replace k3 := k3.ext hb5
    replace ki := ki.ext hb5
    replace k6 := k6.ext hb5
    replace k7 := k7.ext hb5
    replace hal := hal.trans (hb5.mono hal.size)
    clear hb5
    obtain ⟨t0, t1, _, _, _⟩ := k3.two
    go_wp2_with fail
    clear t0 t1
    refine (Hdp.out w5 hal).mono ?_
    rintro e w6 ⟨a', b', o, X, rfl, hai, hano, hT, hX, hlo, hb6⟩
    obtain ⟨Aa, ca, rfl, _, _⟩ := hai.shape
    obtain ⟨Ab, cb, rfl, _, _⟩ := hT.row.shape
    have HX := Lib.hid hX
    obtain ⟨m, hm⟩ : ∃ m, (X.map rt).length = m := ⟨_, rfl⟩
    rw [hm] at hT ⊢
    have Hm := Lib.hid (And.intro hm (show m = ts.length by rw [← hm, ← hX]; simp))
    obtain ⟨W6, hW6⟩ : ∃ W6, (w6.setCell ⟨g3, 0, none⟩ (.slice Aa ids.length ca)).setCell ⟨g3, 1, none⟩ (.slice Ab m cb) = W6 := ⟨_, rfl⟩
    have hst := AddSt.start (w0 := w) (lv := .slice none 0 0) (L := []) hal hb6 k3 k6 k7 (Own.nil _ _ _ _ _) (fun g hg => by cases hg) hai hano hT hlo (by have := Hg.out; omega) (by have := Hg.out; omega) (by have := Hg.out; omega) hW6
    have hki : Blk W6 gi 3 #[.int .i64 id] := hW6 ▸ (((ki.ext hb6).far (p := ⟨g3, 0, none⟩) (by have := Hg.out; show gi ≠ g3; omega) _).far (p := ⟨g3, 1, none⟩) (by have := Hg.out; show gi ≠ g3; omega) _)
    have hio : o gi = .no := hlo gi ki.lt
    have hap : ∀ g, (Value.slice Aa ids.length ca).ownBlock = some g → gi ≠ g ∧ g6 ≠ g ∧ g7 ≠ g := fun g hg => by
      have h1 := hai.base g hg
      have h2 := k6.lt
      have h3 := k7.lt
      have h4 := ki.lt
      exact ⟨by omega, by omega, by omega⟩
    obtain ⟨t0, t1, t2, t3, _⟩ := (k3.ext hb6).two
    have hdel := deleteInt_ok M0 (.slice Aa ids.length ca) ids n0 w.heap.size W6 hst.ints Her.out.1
    rw [Her.out.2] at hdel
    obtain ⟨s0, s1, s2, s3, _⟩ := hst.k3.two
    have Hdel := Lib.hid hdel; have Hsto := Lib.hid (And.intro hst (And.intro hki (And.intro hio hap)))
    clear hdel hst hap hai hano hT hX hlo hb6 hal k3 ki k6 k7 hm hki hio
    go_wp2_with fail
    clear hW6 t0 t1 t2 t3 s0 s1 s2 s3
    refine Hdel.out.mono ?_
    rintro e w7 ⟨v', rfl, hown7, hgr, hor⟩
    obtain ⟨A7, c7, rfl, _, _⟩ := hown7.shape
    obtain ⟨ids', hids'⟩ : ∃ l, (ids.filter fun n => !(n == id)) = l := ⟨_, rfl⟩
    rw [hids'] at hown7 ⊢
    obtain ⟨W8, hW8⟩ : ∃ W8, w7.setCell ⟨g3, 0, none⟩ (.slice A7 ids'.length c7) = W8 := ⟨_, rfl⟩
    obtain ⟨hst, hki, hio, hap⟩ := Hsto.out
    have hst8 := hst.insert (Below.refl _ _) hgr hown7 (.inl (by rw [hids'] at hor; exact hor)) (fun g hg => ⟨(hap g hg).2.1, (hap g hg).2.2, fun b hb => by cases hb⟩) hW8
    have k37 : Blk w7 g3 25 #[.slice Aa ids.length ca, .slice Ab m cb] := hst.k3.keep (hgr.block g3 hst.k3.lt fun e => (hst.intno g3 e.symm).2.1 rfl)
    have ki8 : Blk W8 gi 3 #[.int .i64 id] := hW8 ▸ (Blk.far (hki.keep (hgr.block gi hki.lt fun e => (hap gi e.symm).1 rfl)) (p := ⟨g3, 0, none⟩) (by have := Hg.out; show gi ≠ g3; omega) _)
    obtain ⟨t0, t1, t2, t3, _⟩ := k37.two
    obtain ⟨s0, s1, _, _, _⟩ := hst8.k3.two
    have Hst8 := Lib.hid hst8; have Hki := Lib.hid (And.intro ki8 hio); have Hids := Lib.hid hids'
    clear hst hap hst8 hgr hor hown7 k37 Hsto Hdel ki8 hio hki hids'
    go_wp2
    clear t0 t1 t2 t3 s0 s1 hW8
    go_loopw [38] (fun iv wr => ∃ (k : Nat) (o' : Nat → Owner) (X' : List RTerm), k ≤ ts.length ∧ iv = .int .i64 (k : Int) ∧ Hid (AddSt w o' g3 g6 g7 (.slice A7 ids'.length c7) (.slice Ab m cb) (.slice none 0 0) ids' X' [] wr) ∧ Hid (Blk wr gi 3 #[.int .i64 id] ∧ o' gi = .no) ∧ Hid (CutAt id ts X' k)) (fun iv _ => ts.length - (intOf iv).toNat)
    case atStart => exact ⟨0, o, X, Nat.zero_le _, rfl, Hst8, Hki, Lib.hid (by unfold CutAt; rw [List.take_zero]; exact HX.out)⟩
    case round =>
      clear Hst8 HX Hki
      obtain ⟨k, o', X', hk, rfl, hs, hki, hcut⟩ := hrel
      by_cases hlt : k < ts.length
      · have hkX : k < X'.length := by rw [hcut.out.len]; exact hlt
        obtain ⟨g, c, hv, hlc, hcm, hBg, hgl, x0, x1, hoc, hwl2, hfz⟩ := hs.out.tree.row.rtAt (k := k) (by simpa using hkX)
        simp only [List.getElem_map, rt] at x0 x1 hoc
        injection hv with hv1 hv2 hv3
        subst hv1 hv3
        have hPi := hs.out.tree.posts _ (List.getElem_mem hkX)
        obtain ⟨ps, hps⟩ : ∃ ps, X'[k].2.2 = ps := ⟨_, rfl⟩
        obtain ⟨pv, hpv⟩ : ∃ pv, X'[k].2.1 = pv := ⟨_, rfl⟩
        have hrow := hPi.row
        have hmine := hPi.mine
        have hsh : ∀ r ∈ ps.map rp, ∃ A n c, r.2 = .slice A n c := fun r hr => by
          obtain ⟨q, hq, rfl⟩ := List.mem_map.1 hr
          obtain ⟨A9, c9, e9, _, _⟩ := (hPi.pl q (by rw [hps]; exact hq)).1.shape
          exact ⟨A9, _, c9, e9⟩
        rw [hps, hpv] at hrow
        rw [hpv] at hmine x1
        have hog := hs.out.tree.mine g rfl
        have hdl := fun V (hb : Below wr.heap.size wr V) => deleteFuncPost_ok id gi pv (ps.map rp) w.heap.size V (hrow.ext hb) (Nat.le_trans hs.out.below.size hb.size) (cell_ext hb (by rw [hki.out.1.cell]; rfl)) (fun e => by have := hmine gi e; rw [hki.out.2] at this; cases this) hsh
        obtain ⟨_, t1, _, _, _⟩ := hs.out.k3.two
        have hSS : ∀ W', Below wr.heap.size wr W' → W'.cell? ⟨g3, 1, none⟩ = some (.slice (some ⟨g, 0, none⟩) m cb) ∧ W'.cell? ⟨g, k * 2 + 1, none⟩ = some pv := fun W' hb => ⟨cell_ext hb t1, cell_ext hb x1⟩
        have HS := Lib.hid hSS
        have hS := HS.out _ (below_drewN' wr.heap.size wr 1)
        obtain ⟨Ap, cp, hpf, _, _⟩ := hrow.shape
        rw [List.length_map] at hpf
        have Hdl := Lib.hid hdl; have Hp := Lib.hid (And.intro hps (And.intro hpv hmine)); have Hgg := Lib.hid (And.intro hog (And.intro hgl hfz)); have Hpf := Lib.hid hpf
        have hki0 : (0 : Int) ≤ (k : Int) := by omega
        have hkil : (k : Int) < (m : Int) := by have := Hm.out.2; omega
        have hkw : IntKind.i64.wrap (k : Int) = (k : Int) := IntWalk.i64_in _ (by unfold maxLen at hcm; omega)
        clear hdl hSS hsh hps hpv hmine hrow hPi hog hgl hfz x0 x1 hoc hwl2 hpf hv2 hlc hcm t1
        go_wp2_with fail
        rw [Hpf.out] at hS HS
        refine wp_region_D (fun W => W.cell? ⟨g3, 1, none⟩ = some (.slice (some ⟨g, 0, none⟩) m cb) ∧ W.cell? ⟨g, k * 2 + 1, none⟩ = some (.slice Ap ps.length cp)) (fun j => j == 12 || j == 13) (by kernel_rfl) ?_
        change anyD _ _ _ _ _ _ _ _ _ (wr.drewN 1)
        have hbV := below_drewN' wr.heap.size wr 1
        generalize wr.drewN 1 = V0 at hS hbV ⊢
        (refine anyD_light (i := 0) (v := ?_) rfl (by kernel_rfl) (by kernel_rfl) (by kernel_rfl) (by kernel_rfl) (by kernel_rfl) (fun _ _ _ h => h) (.inl ⟨by kernel_rfl, fun W9 hW9 => ?_⟩) hS ?_; rotate_left; · (obtain ⟨hw0, hw1⟩ := hW9; go_simp; rfl))
        (refine anyD_light (i := 1) (v := ?_) rfl (by kernel_rfl) (by kernel_rfl) (by kernel_rfl) (by kernel_rfl) (by kernel_rfl) (fun _ _ _ h => h) (.inl ⟨by kernel_rfl, fun W9 hW9 => ?_⟩) hS ?_; rotate_left; · (obtain ⟨hw0, hw1⟩ := hW9; go_simp; rfl))
        (refine anyD_light (i := 2) (v := ?_) rfl (by kernel_rfl) (by kernel_rfl) (by kernel_rfl) (by kernel_rfl) (by kernel_rfl) (fun _ _ _ h => h) (.inl ⟨by kernel_rfl, fun W9 hW9 => ?_⟩) hS ?_; rotate_left; · (obtain ⟨hw0, hw1⟩ := hW9; go_simp; rfl))
        (refine anyD_light (i := 3) (v := ?_) rfl (by kernel_rfl) (by kernel_rfl) (by kernel_rfl) (by kernel_rfl) (by kernel_rfl) (fun _ _ _ h => h) (.inl ⟨by kernel_rfl, fun W9 hW9 => ?_⟩) hS ?_; rotate_left; · (obtain ⟨hw0, hw1⟩ := hW9; go_simp; rfl))
        (refine anyD_light (i := 4) (v := ?_) rfl (by kernel_rfl) (by kernel_rfl) (by kernel_rfl) (by kernel_rfl) (by kernel_rfl) (fun _ _ _ h => h) (.inl ⟨by kernel_rfl, fun W9 hW9 => ?_⟩) hS ?_; rotate_left; · (obtain ⟨hw0, hw1⟩ := hW9; go_simp; rfl))
        (refine anyD_light (i := 5) (v := ?_) rfl (by kernel_rfl) (by kernel_rfl) (by kernel_rfl) (by kernel_rfl) (by kernel_rfl) (fun _ _ _ h => h) (.inl ⟨by kernel_rfl, fun W9 hW9 => ?_⟩) hS ?_; rotate_left; · (obtain ⟨hw0, hw1⟩ := hW9; go_simp; rfl))
        go_simp
        (refine anyD_light (i := 6) (v := ?_) rfl (by kernel_rfl) (by kernel_rfl) (by kernel_rfl) (by kernel_rfl) (by kernel_rfl) (fun _ _ _ h => h) (.inl ⟨by kernel_rfl, fun W9 hW9 => ?_⟩) hS ?_; rotate_left; · (obtain ⟨hw0, hw1⟩ := hW9; go_simp; rfl))
        (refine anyD_light (i := 7) (v := ?_) rfl (by kernel_rfl) (by kernel_rfl) (by kernel_rfl) (by kernel_rfl) (by kernel_rfl) (fun _ _ _ h => h) (.inl ⟨by kernel_rfl, fun W9 hW9 => ?_⟩) hS ?_; rotate_left; · (obtain ⟨hw0, hw1⟩ := hW9; go_simp; rfl))
        (refine anyD_light (i := 8) (v := ?_) rfl (by kernel_rfl) (by kernel_rfl) (by kernel_rfl) (by kernel_rfl) (by kernel_rfl) (fun _ _ _ h => h) (.inl ⟨by kernel_rfl, fun W9 hW9 => ?_⟩) hS ?_; rotate_left; · (obtain ⟨hw0, hw1⟩ := hW9; go_simp; rfl))
        (refine anyD_light (i := 9) (v := ?_) rfl (by kernel_rfl) (by kernel_rfl) (by kernel_rfl) (by kernel_rfl) (by kernel_rfl) (fun _ _ _ h => h) (.inl ⟨by kernel_rfl, fun W9 hW9 => ?_⟩) hS ?_; rotate_left; · (obtain ⟨hw0, hw1⟩ := hW9; go_simp; rfl))
        go_simp
        refine anyD_one (i := 10) (by kernel_rfl) rfl rfl (fun K hK => ?_)
        have HK := Lib.hid hK
        clear hK
        unfold Oper.wp
        go_simp
        rw [← Hpf.out]
        refine (Hdl.out V0 hbV).mono ?_
        rintro e w5 ⟨u, rfl, hown, hgr, hor⟩
        obtain ⟨Au, cu, rfl, _, _⟩ := hown.shape
        rw [rp_filter] at hown hor ⊢
        rw [List.length_map] at hown hor ⊢
        obtain ⟨ps2, hps2⟩ : ∃ l, (ps.filter fun p => !(p.1 == id)) = l := ⟨_, rfl⟩
        rw [hps2] at hown hor ⊢
        have hgrT := gr_trans (below_grown hbV _) hgr
        have hng : ∀ b, o' b ≠ .row X'[k].1 → b < wr.heap.size → w5.heap[b]? = wr.heap[b]? := fun b hb hl => hgrT.block b hl fun e => hb (Hp.out.2.2 b e.symm)
        have k35 := hs.out.k3.keep (hng g3 (by rw [hs.out.n3]; simp) hs.out.k3.lt)
        have hgb := hng g (by rw [Hgg.out.1]; simp) Hgg.out.2.1
        have hS : w5.cell? ⟨g3, 1, none⟩ = some (.slice (some ⟨g, 0, none⟩) m cb) ∧ w5.cell? ⟨g, k * 2 + 1, none⟩ = some (.slice Ap ps.length cp) := ⟨k35.two.2.1, by rw [← (HS.out wr (Below.refl _ _)).2]; simp only [World.cell?, hgb]⟩
        have hf9 : w5.frozen? ⟨g, k * 2 + 1, none⟩ = false := by rw [← Hgg.out.2.2 (k * 2 + 1)]; simp only [World.frozen?, hgb]
        have Hst := Lib.hid (And.intro hown (And.intro hgrT (And.intro hor (And.intro hps2 (And.intro hng hgb)))))
        clear hown hgr hgrT hor hps2 hng hgb k35
        refine HK.out _ _ (fun _ => hS) ?_
        clear HK
        (refine anyD_light (i := 11) (v := ?_) rfl (by kernel_rfl) (by kernel_rfl) (by kernel_rfl) (by kernel_rfl) (by kernel_rfl) (fun _ _ _ h => h) (.inl ⟨by kernel_rfl, fun W9 hW9 => ?_⟩) hS ?_; rotate_left; · (obtain ⟨hw0, hw1⟩ := hW9; go_simp; rfl))
        (refine anyD_light (i := 12) (v := ?_) rfl (by kernel_rfl) (by kernel_rfl) (by kernel_rfl) (by kernel_rfl) (by kernel_rfl) (fun _ _ _ h => h) (.inl ⟨by kernel_rfl, fun W9 hW9 => ?_⟩) hS ?_; rotate_left; · (obtain ⟨hw0, hw1⟩ := hW9; go_simp; rfl))
        go_simp
        refine anyD_one (i := 13) (by kernel_rfl) rfl rfl (fun K hK => ?_)
        have HK := Lib.hid hK
        clear hK
        obtain ⟨_, hq9⟩ := hS
        unfold Oper.wp
        go_simp
        refine HK.out _ _ (fun h => by cases h) ?_
        clear HK
        go_simp
        refine anyD_done (by kernel_rfl) ?_ _
        obtain ⟨hown, hgrT, hor, hps2, hng, hgb⟩ := Hst.out
        have hgrX : wr.grownBy w5 X'[k].2.1.ownBlock := by rw [Hp.out.2.1]; exact hgrT
        have hlen2 : (ps2.map rp).length = ps2.length := List.length_map _
        obtain ⟨hT9, ho9⟩ := hs.out.tree.postings hkX (hcut.out.alone Hcan.out.srt hkX) rfl (tv' := .slice Au ps2.length cu) (ps' := ps2) hgrX hown (.inl (by rw [Hp.out.2.1]; exact hor)) rfl (fun q hq => .inl (by rw [Hp.out.1]; rw [← hps2] at hq; exact (List.mem_filter.1 hq).1))
        have hne3 : g3 ≠ g := fun e => by have := Hgg.out.1; rw [← e, hs.out.n3] at this; cases this
        have hnei : gi ≠ g := fun e => by have := Hgg.out.1; rw [← e, hki.out.2] at this; cases this
        have k39 := (hs.out.k3.keep (hng g3 (by rw [hs.out.n3]; simp) hs.out.k3.lt)).far (p := ⟨g, k * 2 + 1, none⟩) hne3 (.slice Au ps2.length cu)
        have ki9 := (hki.out.1.keep (hng gi (by rw [hki.out.2]; simp) hki.out.1.lt)).far (p := ⟨g, k * 2 + 1, none⟩) hnei (.slice Au ps2.length cu)
        have ht9 := (Turn.of_grown (bx := g3) hgrX (fun b hb => by have := Hp.out.2.2 b (by rw [← Hp.out.2.1]; exact hb); exact this) (by simp)).set (g := g) (.inr (.inl (by rw [Hgg.out.1]; simp))) (k * 2 + 1) (.slice Au ps2.length cu)
        have Hs9 := Lib.hid (hs.out.step hT9 k39 ht9 ho9)
        have Hki9 := Lib.hid (And.intro ki9 (show own1 o' (.slice Au ps2.length cu) (.row X'[k].1) gi = .no by rw [ho9 gi hki.out.1.lt]; exact hki.out.2))
        have Hc9 := Lib.hid (hcut.out.step hkX (.slice Au ps2.length cu))
        rw [Hp.out.1, hps2] at Hc9
        have hkb : k < 4000000 := by have := Hcan.out.many; dsimp only at this; omega
        clear hown hgrT hor hps2 hng hgb hgrX hlen2 hT9 ho9 hne3 hnei k39 ki9 ht9 hS hq9 hf9 Hst hs hki
        go_wp2
        go_roundw
        case rel => exact ⟨k + 1, _, _, by omega, by go_num, Hs9, Hki9, Hc9⟩
        case measure => simp [intOf]; omega
      · obtain rfl : k = ts.length := by omega
        have hsh : ∀ r ∈ X'.map rt, ∃ A n c, r.2 = .slice A n c := fun r hr => by
          obtain ⟨q, hq, rfl⟩ := List.mem_map.1 hr
          obtain ⟨A9, c9, e9, _, _⟩ := (hs.out.tree.posts q hq).row.shape
          exact ⟨A9, _, c9, e9⟩
        have hfl : (X'.map rt).filter (fun r => !(valLen r.2 == 0)) = (X'.filter fun t => !(t.2.2.length == 0)).map rt := by
          rw [List.filter_map]
          congr 1
          refine List.filter_congr fun q hq => ?_
          obtain ⟨A9, c9, e9, _, _⟩ := (hs.out.tree.posts q hq).row.shape
          rw [List.length_map] at e9
          show (!(valLen q.2.1 == 0)) = _
          rw [e9]
          congr 1
          rw [Bool.eq_iff_iff]
          show (((q.2.2.length : Nat) : Int) == 0) = true ↔ _
          rw [beq_iff_eq, beq_iff_eq]
          omega
        have hdl := deleteFuncTerm_ok (.slice Ab m cb) (X'.map rt) w.heap.size wr hs.out.tree.row hs.out.below.size hsh
        rw [hfl] at hdl
        obtain ⟨Y, hY⟩ : ∃ Y, (X'.filter fun t => !(t.2.2.length == 0)) = Y := ⟨_, rfl⟩
        rw [hY] at hdl
        have hYp : Y.map pt = Ix.removeT id ts := by rw [← hY]; exact hcut.out.fin
        have hYm : ∀ t ∈ Y, t ∈ X' := fun t ht => by rw [← hY] at ht; exact (List.mem_filter.1 ht).1
        obtain ⟨t0, t1, t2, t3, _⟩ := hs.out.k3.two
        have Hdl := Lib.hid hdl; have HY := Lib.hid (And.intro hYp hYm)
        obtain rfl : m = ts.length := Hm.out.2
        clear hdl hY hYp hYm hfl hsh hcut
        go_wp2_with fail
        clear t0 t1 t2 t3
        refine Hdl.out.mono ?_
        rintro e w5 ⟨u, rfl, hown, hgr, hor⟩
        obtain ⟨Au, cu, rfl, _, _⟩ := hown.shape
        obtain ⟨N, hN⟩ : ∃ N, (Y.map rt).length = N := ⟨_, rfl⟩
        rw [hN] at hown hor ⊢
        obtain ⟨hT9, ho9⟩ := hs.out.tree.terms hgr hown (.inl hor) (fun t ht => .inl (HY.out.2 t ht))
        have k35 := hs.out.k3.keep (hgr.block g3 hs.out.k3.lt fun e => by have := hs.out.tree.mine g3 e.symm; rw [hs.out.n3] at this; cases this)
        obtain ⟨W9, hW9⟩ : ∃ W9, w5.setCell ⟨g3, 1, none⟩ (.slice Au N cu) = W9 := ⟨_, rfl⟩
        have hn9 : own1 o' (.slice Au N cu) .top g3 = .no := by rw [ho9 g3 hs.out.k3.lt]; exact hs.out.n3
        have hT10 := hT9.move (o' := own1 o' (.slice Au N cu) .top) (w' := W9) (fun b _ _ hb => by rw [← hW9]; exact heap_set_ne _ _ _ fun e => hb (by rw [e]; exact hn9)) (fun _ _ => rfl) (fun b hb => hT9.fresh b (by rw [← hW9] at hb; simpa using hb))
        have ht9 : Turn o' g3 wr W9 := hW9 ▸ (Turn.of_grown (bx := g3) hgr (fun b hb => hs.out.tree.mine b hb) (by simp)).set (.inl rfl) 1 (.slice Au N cu)
        have hst9 := hs.out.step hT10 (hW9 ▸ k35.set_ 1 (.slice Au N cu)) ht9 ho9
        obtain ⟨t0, t1, t2, t3, _⟩ := k35.two
        obtain ⟨s0, s1, _, _, _⟩ := hst9.k3.two
        have k3 := hst9.k3; have k6 := hst9.k6; have k7 := hst9.k7; have hal := hst9.below
        have Hst9 := Lib.hid hst9
        clear hown hgr hor hT9 ho9 k35 hn9 hT10 ht9 hst9 hs hki Hdl hN
        have hR : Ix.removeR (ids, ts) id = (Ix.removeF (ids, ts) id, 0, 0) := by unfold Ix.removeR; rw [if_neg HR.out.1, if_pos HR.out.2]
        have HRR := Lib.hid hR
        clear hR
        go_wp2_with fail
        clear t0 t1 t2 t3 s0 s1 hW9
        have hno := fun W => none_ok W
        have Hno := Lib.hid hno
        have hSS : ∀ W', Below W9.heap.size W9 W' → W'.cell? ⟨g3, 0, none⟩ = some (.slice A7 ids'.length c7) ∧ W'.cell? ⟨g3, 1, none⟩ = some (.slice Au N cu) := fun W' hb => ⟨(k3.ext hb).two.1, (k3.ext hb).two.2.1⟩
        have HS := Lib.hid hSS
        have hS := HS.out _ (below_drewN' W9.heap.size W9 1)
        clear hSS hno
        refine wp_region_D (fun W => W.cell? ⟨g3, 0, none⟩ = some (.slice A7 ids'.length c7) ∧ W.cell? ⟨g3, 1, none⟩ = some (.slice Au N cu)) (fun j => j == 2 || j == 3) (by kernel_rfl) ?_
        (refine anyD_light (i := 0) (v := ?_) rfl (by kernel_rfl) (by kernel_rfl) (by kernel_rfl) (by kernel_rfl) (by kernel_rfl) (fun _ _ _ h => h) (.inl ⟨by kernel_rfl, fun W9 hW9 => ?_⟩) hS ?_; rotate_left; · (obtain ⟨hw0, hw1⟩ := hW9; go_simp; rfl))
        go_simp
        refine anyD_one (i := 1) (by kernel_rfl) rfl rfl (fun K hK => ?_)
        have HK := Lib.hid hK
        clear hK
        unfold Oper.wp
        go_simp
        refine (Hno.out _).mono ?_
        rintro e w8 ⟨rfl, hb8⟩
        have hb18 : Below W9.heap.size W9 w8 := (below_drewN' W9.heap.size W9 1).trans hb8
        clear hS
        have hS := HS.out _ hb18
        refine HK.out _ _ (fun _ => hS) ?_
        clear HK
        have k68 := k6.ext hb18
        have k78 := k7.ext hb18
        have hbe8 := hal.trans (hb18.mono hal.size)
        obtain ⟨u0, u1, u2, u3, _⟩ := k68.two
        go_simp
        refine anyD_one (i := 2) (by kernel_rfl) rfl rfl (fun K hK => ?_)
        have HK := Lib.hid hK
        clear hK
        unfold Oper.wp
        go_simp
        refine HK.out _ _ (fun h => by cases h) ?_
        clear HK
        go_simp
        refine anyD_one (i := 3) (by kernel_rfl) rfl rfl (fun K hK => ?_)
        have HK := Lib.hid hK
        clear hK
        obtain ⟨v0, v1, v2, v3, _⟩ := ((k78.far (p := ⟨g6, 0, none⟩) (by have := Hg.out; show g7 ≠ g6; omega) (.slice A7 ids'.length c7)).far (p := ⟨g6, 1, none⟩) (by have := Hg.out; show g7 ≠ g6; omega) (.slice Au N cu)).two
        unfold Oper.wp
        go_simp
        refine HK.out _ _ (fun h => by cases h) ?_
        clear HK
        go_simp
        refine anyD_done (by kernel_rfl) ?_ _
        have Hk8 := Lib.hid (And.intro k68 (And.intro k78 (And.intro hbe8 hb18)))
        clear k68 k78 hbe8 hb18 k3 k6 k7 hal
        go_wp2
        obtain ⟨k68, k78, hbe8, hb18⟩ := Hk8.out
        obtain ⟨W10, hW10⟩ : ∃ W10, (((w8.setCell ⟨g6, 0, none⟩ (.slice A7 ids'.length c7)).setCell ⟨g6, 1, none⟩ (.slice Au N cu)).setCell ⟨g7, 0, none⟩ (.int .i64 0)).setCell ⟨g7, 1, none⟩ (.int .i64 0) = W10 := ⟨_, rfl⟩
        have hbe := below_put4 (w := w) hbe8 (by have := Hg.out; omega) (by have := Hg.out; omega) _ _ _ _ hW10
        obtain ⟨p6, p7, _, _, _, hsz9, hsm⟩ := put4 k68 k78 (by have := Hg.out; omega) _ _ _ _ hW10
        rw [hW10]
        obtain ⟨e0, e1, _⟩ := p6.two
        obtain ⟨e2, e3, _⟩ := p7.two
        refine bodyPost_ret (v := .tuple #[.agg #[.slice A7 ids'.length c7, .slice Au N cu], .agg #[.int .i64 0, .int .i64 0]]) (by simp [results, Tryz.results16, go_sem, e0, e1, e2, e3]) rfl ?_
        unfold RemAt
        rw [HRR.out]
        obtain ⟨r0, r1⟩ := Hst9.out.fin hb18 hsm hsz9
        rw [HY.out.1] at r1
        exact ⟨_, _, rfl, by show SlR intC M0 _ _ (ids.filter fun n => !(n == id)); rw [Hids.out]; exact r0.weak, r1.weak, hbe⟩
end Go.Proofs.YtfjpedgddgbelaaGreatDoor
/-
  The example of the stems' statements.
-/
namespace Go.Proofs.YtfjpedgddgbelaaGreatDoor
open Go.RowKit
set_option linter.unusedVariables false
theorem run_code (a b : Int) (w : World) : (Instr.field 27 (.agg #[.int .i64 a, .int .i64 b]) 0).run Tryz.prog w = .ok (.int .i64 a) w := by kernel_rfl
theorem stemWords_r (s : Str) (hs : s.length ≤ 4000) (w : World) (hT : TabsU w) : Calls Tryz.prog 104 #[.string (bs s)] w fun e w' => ∃ v, e = .returned (.tuple #[v, .agg #[.int .i64 0, .int .i64 0]]) ∧ SlR strC M0 w' v (Sm.words s) ∧ Below w.heap.size w w' :=
  (stemWords_ok s hs w hT).mono fun e w' ⟨A, c, L, he, hL, ho, hb⟩ => ⟨_, he, by rw [← hL.out]; exact ho.read0, hb⟩
theorem stemStems_r (s : Str) (hs : s.length ≤ 4000) (w : World) (hT : TabsU w) : Calls Tryz.prog 53 #[.string (bs s)] w fun e w' => ∃ v, e = .returned (.tuple #[v, .agg #[.int .i64 0, .int .i64 0]]) ∧ SlR strC M0 w' v (Sm.stems s) ∧ Below w.heap.size w w' :=
  (stemStems_ok s hs w hT).mono fun e w' ⟨A, c, L, he, hL, ho, hb⟩ => ⟨_, he, by rw [← hL.out]; exact ho.read0, hb⟩
theorem refWords_r (s : Str) (hs : s.length ≤ 4000000) (w : World) (hT : TabsU w) : Calls Tryz.prog 37 #[.string (bs s)] w fun e w' => ∃ v, e = .returned v ∧ SlR strC M0 w' v (Sm.words s) ∧ Below w.heap.size w w' :=
  (refWords_ok s hs w hT).mono fun e w' ⟨A, c, L, he, hL, ho, hb⟩ => ⟨_, he, by rw [← hL.out]; exact ho.read0, hb⟩
theorem refStems_r (s : Str) (hs : s.length ≤ 4000000) (w : World) (hT : TabsU w) : Calls Tryz.prog 71 #[.string (bs s)] w fun e w' => ∃ v, e = .returned v ∧ SlR strC M0 w' v (Sm.stems s) ∧ Below w.heap.size w w' :=
  (refStems_ok s hs w hT).mono fun e w' ⟨A, c, L, he, hL, ho, hb⟩ => ⟨_, he, by rw [← hL.out]; exact ho.read0, hb⟩
def exsW : List Str := [[105, 116], [115], [53], [111], [99, 108, 111, 99, 107]]
def exsS : List Str := [[114, 117, 110], [100, 111, 103]]
theorem exs_words : Sm.words [73, 116, 39, 115, 32, 53, 32, 111, 39, 99, 108, 111, 99, 107, 46] = exsW := by decide +kernel
theorem exs_stems : Sm.stems [82, 117, 110, 110, 105, 110, 103, 32, 100, 111, 103, 115] = exsS := by decide +kernel
theorem exs_of : Sm.stem [114, 117, 110, 110, 105, 110, 103] = [114, 117, 110] := by decide +kernel
theorem exs_low : Sm.lower [77, 97, 105, 108] = [109, 97, 105, 108] := by decide +kernel
end Go.Proofs.YtfjpedgddgbelaaGreatDoor
/-
  The example of the indexes' statements.
-/
namespace Go.Proofs.YtfjpedgddgbelaaGreatDoor
open Go.RowKit
set_option linter.unusedVariables false
/-- one box, two boxes: under names -/
theorem box1 (w : World) (cs : Array Value) (t : TypeId) : ∃ W g, w.alloc (.cells cs t) = W ∧ w.heap.size = g ∧ W.heap.size = g + 1 ∧ Blk W g t cs ∧ Below w.heap.size w W := ⟨_, _, rfl, rfl, by simp, Blk.new w t _, (Below.refl _ _).alloc (Nat.le_refl _) _⟩
theorem box2 (w : World) (cs : Array Value) (t : TypeId) (ds : Array Value) (t' : TypeId) : ∃ W g h, (w.alloc (.cells cs t)).alloc (.cells ds t') = W ∧ w.heap.size = g ∧ g + 1 = h ∧ W.heap.size = h + 1 ∧ Blk W g t cs ∧ Blk W h t' ds ∧ Below w.heap.size w W := by
  refine ⟨_, _, _, rfl, rfl, rfl, by simp, (Blk.new w t cs).alloc _, ?_, ((Below.refl _ _).alloc (Nat.le_refl _) _).alloc (by simp) _⟩
  have := Blk.new (w.alloc (.cells cs t)) t' ds
  rw [World.size_alloc] at this
  exact this
theorem lit_int1 (w : World) (n : Int) (h : -9223372036854775808 ≤ n ∧ n ≤ 9223372036854775807) : SlR intC M0 (w.alloc (.cells #[.int .i64 n] 3)) (.slice (some ⟨w.heap.size, 0, none⟩) 1 1) [n] :=
  (Own.built (M := M0) (B := w.heap.size) (C := intC) 3 (cs := [.int .i64 n]) (l := [n]) (Els.single (C := intC) ⟨rfl, h⟩) (Nat.le_refl _) (by simp [maxLen])).read0
theorem lit_int2 (w : World) (n m : Int) (h : -9223372036854775808 ≤ n ∧ n ≤ 9223372036854775807) (h' : -9223372036854775808 ≤ m ∧ m ≤ 9223372036854775807) : SlR intC M0 (w.alloc (.cells #[.int .i64 n, .int .i64 m] 3)) (.slice (some ⟨w.heap.size, 0, none⟩) 2 2) [n, m] :=
  (Own.built (M := M0) (B := w.heap.size) (C := intC) 3 (cs := [.int .i64 n] ++ [.int .i64 m]) (l := [n] ++ [m]) ((Els.single (C := intC) ⟨rfl, h⟩).append (Els.single (C := intC) ⟨rfl, h'⟩)) (Nat.le_refl _) (by simp [maxLen])).read0
theorem lit_post1 (w : World) (n : Int) (v : Value) (l : List Int) (h : -9223372036854775808 ≤ n ∧ n ≤ 9223372036854775807) (hv : SlR intC M0 w v l) : SlR postC M0 (w.alloc (.cells #[.int .i64 n, v] 96)) (.slice (some ⟨w.heap.size, 0, none⟩) 1 1) [(n, l)] :=
  (Own.built (M := M0) (B := w.heap.size) (C := postC) 96 (cs := [.int .i64 n] ++ [v]) (l := [(n, l)]) (Els.single (C := postC) ⟨[.int .i64 n], [v], rfl, ⟨rfl, h⟩, v, rfl, hv⟩) (Nat.le_refl _) (by simp [maxLen])).read0
def exiT : List Ix.Term := [([97, 110, 100], [(7, [1])]), ([100, 111, 103], [(7, [0, 2])])]
def exiA : Ix.Idx × Int × Int := (([7], exiT), 0, 0)
abbrev exiTx : Str := [100, 111, 103, 115, 32, 97, 110, 100, 32, 100, 111, 103]
abbrev exiW : Str := [68, 111, 103, 115]
theorem exi_a1 : decide ((Ix.addR ([], []) 7 exiTx).1.1 = [7]) = true := by decide +kernel
theorem exi_a2 : decide ((Ix.addR ([], []) 7 exiTx).1.2 = exiT) = true := by decide +kernel
theorem exi_a3 : decide ((Ix.addR ([], []) 7 exiTx).2 = (0, 0)) = true := by decide +kernel
theorem exi_add : Ix.addR ([], []) 7 exiTx = exiA := Prod.ext (Prod.ext (of_decide_eq_true exi_a1) (of_decide_eq_true exi_a2)) (of_decide_eq_true exi_a3)
theorem exi_find : Ix.findR ([7], exiT) exiW = ([(7, [0, 2])], 0, 0) := by decide +kernel
theorem exi_r1 : decide ((Ix.removeR ([7], exiT) 7).1.1 = []) = true := by decide +kernel
theorem exi_r2 : decide ((Ix.removeR ([7], exiT) 7).1.2 = []) = true := by decide +kernel
theorem exi_r3 : decide ((Ix.removeR ([7], exiT) 7).2 = (0, 0)) = true := by decide +kernel
theorem exi_rem : Ix.removeR ([7], exiT) 7 = (([], []), 0, 0) := Prod.ext (Prod.ext (of_decide_eq_true exi_r1) (of_decide_eq_true exi_r2)) (of_decide_eq_true exi_r3)
theorem exi_val : Ix.indexF ([7], exiT) = (0, 0) := by decide +kernel
theorem sz_nil : SzIx [] := fun t h => by cases h
theorem exi_sz : SzIx exiT := by
  intro t h
  simp only [exiT, List.mem_cons, List.not_mem_nil, or_false] at h
  rcases h with rfl | rfl <;> decide
set_option maxRecDepth 100000 in
set_option maxHeartbeats 2000000 in
theorem iexample_ok (w : World) (hT : TabsU w) : Calls Tryz.prog 19 #[] w fun e w' => e = .returned (.bool true) ∧ Below w.heap.size w w' := by
  have hbw := Below.refl w.heap.size w
  have hc := add_ok (.slice none 0 0) (.slice none 0 0) [] [] 7 exiTx w (SlR.nil _ _ _) (SlR.nil _ _ _) sz_nil hT
  unfold AddAt at hc
  rw [exi_add] at hc
  go_enter Tryz.func19, Tryz.ntmps19
  go_wp2_with fail
  refine (hc).mono ?_
  rintro e w1 ⟨a1, b1, rfl, hx0, hx1, hq1⟩
  clear hc
  dsimp only [exiA] at hx0 hx1 ⊢
  obtain ⟨A1, c1, rfl, _, _⟩ := hx0.form
  obtain ⟨A2, c2, rfl, _, _⟩ := hx1.form
  rw [show exiT.length = 2 from rfl] at hx1 ⊢
  rw [show ([7] : List Int).length = 1 from rfl] at hx0 ⊢
  replace hT := hT.ext hq1
  replace hbw := hbw.trans (hq1.mono hbw.size)
  clear hq1
  obtain ⟨W1, g1, g2, hW2, hg2, hh2, hs2, kx, ke, hal2⟩ := box2 w1 #[.slice A1 1 c1, .slice A2 2 c2] 25 #[.int .i64 0, .int .i64 0] 27
  replace hT := hT.ext hal2
  replace hx0 := hx0.ext hal2
  replace hx1 := hx1.ext hal2
  replace hbw := hbw.trans (hal2.mono hbw.size)
  clear hal2
  have HW2 := Lib.hid hW2; have Hs2 := Lib.hid hs2
  have Hhg2 := Lib.hid hg2
  have Hhh2 := Lib.hid hh2
  clear hW2 hs2 hg2 hh2
  have hc := indexFind_ok (.slice A1 1 c1) (.slice A2 2 c2) [7] exiT exiW W1 hx0 hx1 exi_sz hT
  unfold FindAt at hc
  rw [exi_find] at hc
  obtain ⟨kx0, kx1, kx2, kx3, _⟩ := kx.two
  try rw [← HW2.out] at kx0; try rw [← Hhh2.out] at kx0; try rw [← Hhg2.out] at kx0
  try rw [← HW2.out] at kx1; try rw [← Hhh2.out] at kx1; try rw [← Hhg2.out] at kx1
  try rw [← HW2.out] at kx2; try rw [← Hhh2.out] at kx2; try rw [← Hhg2.out] at kx2
  try rw [← HW2.out] at kx3; try rw [← Hhh2.out] at kx3; try rw [← Hhg2.out] at kx3
  go_wp2_with fail
  rw [HW2.out]
  try rw [Hhg2.out]
  try rw [Hhh2.out]
  try rw [← Hs2.out]
  clear kx0 kx1 kx2 kx3
  refine (hc).mono ?_
  rintro e w2 ⟨l1, rfl, hl1, hq3⟩
  clear hc
  dsimp only at hl1 ⊢
  obtain ⟨A3, c3, rfl, _, _⟩ := hl1.form
  rw [show ([(7, [0, 2])] : List Ix.Post).length = 1 from rfl] at hl1 ⊢
  replace hT := hT.ext hq3
  replace hx0 := hx0.ext hq3
  replace hx1 := hx1.ext hq3
  replace kx := kx.ext hq3
  replace ke := ke.ext hq3
  replace hbw := hbw.trans (hq3.mono hbw.size)
  clear hq3
  obtain ⟨W2, g3, hW4, hg4, hs4, kf, hal4⟩ := box1 w2 #[.int .i64 0, .int .i64 0] 27
  replace hT := hT.ext hal4
  replace hx0 := hx0.ext hal4
  replace hx1 := hx1.ext hal4
  replace kx := kx.ext hal4
  replace ke := ke.ext hal4
  replace hl1 := hl1.ext hal4
  replace hbw := hbw.trans (hal4.mono hbw.size)
  clear hal4
  have HW4 := Lib.hid hW4; have Hs4 := Lib.hid hs4
  have Hhg4 := Lib.hid hg4
  clear hW4 hs4 hg4
  have hc := remove_ok (.slice A1 1 c1) (.slice A2 2 c2) [7] exiT 7 W2 hx0 hx1 exi_sz
  unfold RemAt at hc
  rw [exi_rem] at hc
  obtain ⟨kx0, kx1, kx2, kx3, _⟩ := kx.two
  try rw [← HW4.out] at kx0; try rw [← Hhg4.out] at kx0
  try rw [← HW4.out] at kx1; try rw [← Hhg4.out] at kx1
  try rw [← HW4.out] at kx2; try rw [← Hhg4.out] at kx2
  try rw [← HW4.out] at kx3; try rw [← Hhg4.out] at kx3
  go_wp2_with fail
  rw [HW4.out]
  try rw [Hhg4.out]
  try rw [← Hs4.out]
  clear kx0 kx1 kx2 kx3
  refine (hc).mono ?_
  rintro e w3 ⟨a4, b4, rfl, hy0, hy1, hq5⟩
  clear hc
  dsimp only at hy0 hy1 ⊢
  obtain ⟨A4, c4, rfl, _, _⟩ := hy0.form
  obtain ⟨A5, c5, rfl, _, _⟩ := hy1.form
  rw [show ([] : List Int).length = 0 from rfl] at hy0 ⊢
  rw [show ([] : List Ix.Term).length = 0 from rfl] at hy1 ⊢
  replace hT := hT.ext hq5
  replace hx0 := hx0.ext hq5
  replace hx1 := hx1.ext hq5
  replace kx := kx.ext hq5
  replace ke := ke.ext hq5
  replace hl1 := hl1.ext hq5
  replace kf := kf.ext hq5
  replace hbw := hbw.trans (hq5.mono hbw.size)
  clear hq5
  obtain ⟨W3, g4, g5, hW6, hg6, hh6, hs6, ky, kg, hal6⟩ := box2 w3 #[.slice A4 0 c4, .slice A5 0 c5] 25 #[.int .i64 0, .int .i64 0] 27
  replace hT := hT.ext hal6
  replace hx0 := hx0.ext hal6
  replace hx1 := hx1.ext hal6
  replace kx := kx.ext hal6
  replace ke := ke.ext hal6
  replace hl1 := hl1.ext hal6
  replace kf := kf.ext hal6
  replace hy0 := hy0.ext hal6
  replace hy1 := hy1.ext hal6
  replace hbw := hbw.trans (hal6.mono hbw.size)
  clear hal6
  have HW6 := Lib.hid hW6; have Hs6 := Lib.hid hs6
  have Hhg6 := Lib.hid hg6
  have Hhh6 := Lib.hid hh6
  clear hW6 hs6 hg6 hh6
  have hal9 := (Below.refl W3.heap.size W3).alloc (Nat.le_refl _) (.cells #[.int .i64 7] 3)
  have hc := ints_ok _ _ [7] [7] _ (hx0.ext hal9) (lit_int1 W3 7 (by decide))
  rw [beq_self_eq_true] at hc
  have hg1 : W3.heap.size = W3.heap.size := rfl
  obtain ⟨ke0, ke1, ke2, ke3, _⟩ := ke.two
  try rw [← HW6.out] at ke0; try rw [← Hhh6.out] at ke0; try rw [← Hhg6.out] at ke0
  try rw [← HW6.out] at ke1; try rw [← Hhh6.out] at ke1; try rw [← Hhg6.out] at ke1
  try rw [← HW6.out] at ke2; try rw [← Hhh6.out] at ke2; try rw [← Hhg6.out] at ke2
  try rw [← HW6.out] at ke3; try rw [← Hhh6.out] at ke3; try rw [← Hhg6.out] at ke3
  obtain ⟨kx0, kx1, kx2, kx3, _⟩ := kx.two
  try rw [← HW6.out] at kx0; try rw [← Hhh6.out] at kx0; try rw [← Hhg6.out] at kx0
  try rw [← HW6.out] at kx1; try rw [← Hhh6.out] at kx1; try rw [← Hhg6.out] at kx1
  try rw [← HW6.out] at kx2; try rw [← Hhh6.out] at kx2; try rw [← Hhg6.out] at kx2
  try rw [← HW6.out] at kx3; try rw [← Hhh6.out] at kx3; try rw [← Hhg6.out] at kx3
  go_wp2_with fail
  rw [HW6.out]
  try rw [Hhg6.out]
  try rw [Hhh6.out]
  try rw [← Hs6.out]
  clear ke0 ke1 ke2 ke3
  clear kx0 kx1 kx2 kx3
  refine (hc).mono ?_
  rintro e w4 ⟨rfl, hq7⟩
  clear hc
  replace hq7 := below2 hal9 hq7
  clear hal9
  replace hT := hT.ext hq7
  replace hx0 := hx0.ext hq7
  replace hx1 := hx1.ext hq7
  replace kx := kx.ext hq7
  replace ke := ke.ext hq7
  replace hl1 := hl1.ext hq7
  replace kf := kf.ext hq7
  replace hy0 := hy0.ext hq7
  replace hy1 := hy1.ext hq7
  replace ky := ky.ext hq7
  replace kg := kg.ext hq7
  replace hbw := hbw.trans (hq7.mono hbw.size)
  clear hq7
  have h2 := lit_int2 w4 0 2 (by decide) (by decide)
  have h3 := lit_post1 _ 7 _ _ (by decide) h2
  rw [World.size_alloc] at h3
  have hal9 := ((Below.refl w4.heap.size w4).alloc (Nat.le_refl _) (.cells #[.int .i64 0, .int .i64 2] 3)).alloc (by simp) (.cells #[.int .i64 7, .slice (some ⟨w4.heap.size, 0, none⟩) 2 2] 96)
  have hc := samePost_ok _ _ [(7, [0, 2])] [(7, [0, 2])] _ (hl1.ext hal9) h3
  rw [beq_self_eq_true] at hc
  clear h2 h3
  obtain ⟨kx0, kx1, kx2, kx3, _⟩ := kx.two
  obtain ⟨kf0, kf1, kf2, kf3, _⟩ := kf.two
  go_wp2_with fail
  clear kx0 kx1 kx2 kx3
  clear kf0 kf1 kf2 kf3
  refine (hc).mono ?_
  rintro e w5 ⟨rfl, hq8⟩
  clear hc
  replace hq8 := below2 hal9 hq8
  clear hal9
  replace hT := hT.ext hq8
  replace hx0 := hx0.ext hq8
  replace hx1 := hx1.ext hq8
  replace kx := kx.ext hq8
  replace ke := ke.ext hq8
  replace hl1 := hl1.ext hq8
  replace kf := kf.ext hq8
  replace hy0 := hy0.ext hq8
  replace hy1 := hy1.ext hq8
  replace ky := ky.ext hq8
  replace kg := kg.ext hq8
  replace hbw := hbw.trans (hq8.mono hbw.size)
  clear hq8
  have hc := sameIndex_ok (.slice A4 0 c4) (.slice A5 0 c5) (.slice none 0 0) (.slice none 0 0) ([], []) ([], []) w5 hy0 hy1 (SlR.nil _ _ _) (SlR.nil _ _ _)
  rw [show ((([], []) : Ix.Idx) == ([], [])) = true from rfl] at hc
  obtain ⟨kg0, kg1, kg2, kg3, _⟩ := kg.two
  obtain ⟨ky0, ky1, ky2, ky3, _⟩ := ky.two
  go_wp2_with fail
  clear kg0 kg1 kg2 kg3
  clear ky0 ky1 ky2 ky3
  refine (hc).mono ?_
  rintro e w6 ⟨rfl, hq9⟩
  clear hc
  replace hT := hT.ext hq9
  replace hx0 := hx0.ext hq9
  replace hx1 := hx1.ext hq9
  replace kx := kx.ext hq9
  replace ke := ke.ext hq9
  replace hl1 := hl1.ext hq9
  replace kf := kf.ext hq9
  replace hy0 := hy0.ext hq9
  replace hy1 := hy1.ext hq9
  replace ky := ky.ext hq9
  replace kg := kg.ext hq9
  replace hbw := hbw.trans (hq9.mono hbw.size)
  clear hq9
  have hc := validate_ok (.slice A1 1 c1) (.slice A2 2 c2) [7] exiT w6 hx0 hx1 exi_sz
  rw [exi_val] at hc
  have hrc := run_code
  obtain ⟨kx0, kx1, kx2, kx3, _⟩ := kx.two
  go_wp2_with fail
  clear kx0 kx1 kx2 kx3
  refine (hc).mono ?_
  rintro e w7 ⟨rfl, hq10⟩
  clear hc
  replace hT := hT.ext hq10
  replace hx0 := hx0.ext hq10
  replace hx1 := hx1.ext hq10
  replace kx := kx.ext hq10
  replace ke := ke.ext hq10
  replace hl1 := hl1.ext hq10
  replace kf := kf.ext hq10
  replace hy0 := hy0.ext hq10
  replace hy1 := hy1.ext hq10
  replace ky := ky.ext hq10
  replace kg := kg.ext hq10
  replace hbw := hbw.trans (hq10.mono hbw.size)
  clear hq10
  go_wp2
  go_ret
  exact ⟨rfl, hbw⟩
end Go.Proofs.YtfjpedgddgbelaaGreatDoor
