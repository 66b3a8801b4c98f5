/-
  threads.Parents; the reference's Earlier.
-/
import Derived.Test.YtclobnojpmgmaaaThC
import Derived.Test.YtclobnojpmgmaaaThD
namespace Go.Proofs.Ytclobnojpmgmaaa
open Go.RowKit
set_option linter.unusedVariables false
/-- What Parents answers. -/
def parQ (l : List Letter) : List Int × Int × Int := if (Th.lettersF l).1 ≠ 0 then ([], Th.lettersF l) else (Th.parentsF l, 0, 0)
theorem short_of {l : List Letter} (h : (Th.lettersF l).1 = 0) : l.length ≤ 300 := by
  unfold Th.lettersF at h
  split at h
  · cases h
  · omega
theorem Own.intM {M M' : Nat → Prop} {w : World} {B : Nat} {e : TypeId} {v : Value} {l : List Int} (h : Own intC M w B e v l) : Own intC M' w B e v l := by
  obtain ⟨xs, ho, he⟩ := h
  exact ⟨xs, ho, ⟨he.1, fun i hi => he.2 i hi⟩⟩
set_option maxHeartbeats 2000000 in
theorem tparents_ok (v : Value) (l : List Letter) (w : World) (h : SlR letterC M0 w v l) : Calls Try.prog 7 #[v] w fun e w' => ∃ v', e = .returned (.tuple #[v', .agg #[.int .i64 (parQ l).2.1, .int .i64 (parQ l).2.2]]) ∧ SlR intC M0 w' v' (parQ l).1 ∧ Below w.heap.size w w' := by
  obtain ⟨A, c, rfl, _, _⟩ := h.form
  obtain ⟨⟨g1, g2⟩, hg⟩ : ∃ f, Th.lettersF l = f := ⟨_, rfl⟩
  have hr : parQ l = if g1 ≠ 0 then ([], g1, g2) else (Th.parentsF l, 0, 0) := by rw [parQ, hg]
  have hsh : g1 = 0 → l.length ≤ 300 := fun h0 => short_of (by rw [hg]; exact h0)
  have hL := fun w' (hb : Below w.heap.size w w') => tvalidate_ok _ l w' (h.ext hb)
  rw [hg] at hL
  have hP := fun w' (hb : Below w.heap.size w w') (hn : l.length ≤ 4000000) => parents_ok _ l w' (h.ext hb) hn
  have HL := Lib.hid hL; have Hr := Lib.hid hr; have Hg := Lib.hid hg; have Hh := Lib.hid h; have HP := Lib.hid hP; have Hsh := Lib.hid hsh
  clear hL hr hg h hP hsh
  have kf := Blk.new w 25 #[.int .i64 0, .int .i64 0]
  have b0 := (Below.refl w.heap.size w).alloc (Nat.le_refl _) (.cells #[.int .i64 0, .int .i64 0] 25)
  go_enter Try.func7, Try.ntmps7
  go_wp2_with fail
  generalize w.alloc (.cells #[.int .i64 0, .int .i64 0] 25) = w0 at kf b0 ⊢
  refine (HL.out _ b0).mono ?_
  rintro e w1 ⟨rfl, hb1⟩
  have kf1 := kf.ext hb1
  have b1 := b0.trans (hb1.mono b0.size)
  go_wp2_with fail
  refine (failed_ok _ _ _).mono ?_
  rintro e w2 ⟨rfl, hb2⟩
  have kf2 := (kf1.alloc _).ext hb2
  have ke2 := (Blk.new w1 25 #[.int .i64 g1, .int .i64 g2]).ext hb2
  have b2 := (b1.alloc b1.size _).trans (hb2.mono (b1.alloc b1.size _).size)
  clear kf b0 kf1 b1 hb1 hb2
  by_cases hg0 : g1 = 0
  · have hr2 : parQ l = (Th.parentsF l, 0, 0) := by rw [Hr.out, if_neg (by simpa using hg0)]
    have hn := Hsh.out hg0
    have Hr2 := Lib.hid hr2
    subst hg0
    clear ke2 hr2
    go_wp2_with fail
    refine (HP.out _ b2 (by omega)).mono ?_
    rintro e w3 ⟨A3, c3, L3, rfl, hL3, how, hb3⟩
    have kf3 := kf2.ext hb3
    have b3 := b2.trans (hb3.mono b2.size)
    go_wp2_with fail
    refine (none_ok _).mono ?_
    rintro e w4 ⟨rfl, hb4⟩
    have kf4 := kf3.ext hb4
    have b4 := b3.trans (hb4.mono b3.size)
    have hlt2 : w.heap.size < w2.heap.size := kf2.two.2.2.2.2
    have hs9 := (((Own.intM (M' := fun b => b = w.heap.size) how).readB (fun b (e : b = w.heap.size) => by omega)).ext hb4).set2 (g := w.heap.size) rfl (.int .i64 0) (.int .i64 0) |>.zero
    rw [hL3.out] at hs9
    obtain ⟨c0, c1, z0, z1, s1⟩ := kf4.two
    obtain ⟨e0, e1⟩ := kf4.put2 (.int .i64 0) (.int .i64 0)
    go_wp2
    rw [hL3.out]
    exact bodyPost_ret (v := .tuple #[.slice A3 (Th.parentsF l).length c3, .agg #[.int .i64 0, .int .i64 0]]) (by simp [results, Try.results7, go_sem, e0, e1]) rfl ⟨_, by rw [Hr2.out], by rw [Hr2.out]; exact hs9, below_set2 b4 (by omega) _ _⟩
  · have hr2 : parQ l = ([], g1, g2) := by rw [Hr.out, if_pos hg0]
    have Hr2 := Lib.hid hr2
    have hfb : (g1 != 0) = true := by simpa using hg0
    clear hr2
    obtain ⟨c0, c1, z0, z1, s1⟩ := kf2.two
    obtain ⟨d0, d1, y0, y1, s2⟩ := ke2.two
    go_wp2
    go_region
    all_goals go_wp2
    all_goals
      obtain ⟨e0, e1⟩ := kf2.put2 (.int .i64 g1) (.int .i64 g2)
      refine bodyPost_ret (v := .tuple #[.slice none 0 0, .agg #[.int .i64 g1, .int .i64 g2]]) (by simp [results, Try.results7, go_sem, e0, e1]) rfl ⟨_, by rw [Hr2.out], by rw [Hr2.out]; exact SlR.nil _ _ _, ?_⟩
      exact below_drew (below_set2 b2 (by omega) _ _)
set_option maxHeartbeats 1000000 in
theorem earlier_ok (a b : Letter) (va vb : Value) (w : World) : Calls Try.prog 24 #[letV a va, letV b vb] w fun e w' => e = .returned (.bool (Th.earlier a b)) ∧ Below w.heap.size w w' := by
  obtain ⟨ia, ra, ta⟩ := a
  obtain ⟨ib, rb, tb⟩ := b
  have ho : Th.earlier (ia, ra, ta) (ib, rb, tb) = (decide (ta < tb) || (decide (ta = tb) && Op.bytesLess ia ib)) := rfl
  obtain ⟨t3, ht3⟩ : ∃ t, Op.bytesLess ia ib = t := ⟨_, rfl⟩
  rw [ht3] at ho
  unfold letV
  dsimp only
  rw [ho]
  clear ho
  by_cases h1 : ta < tb
  · have hd : decide (ta < tb) = true := decide_eq_true h1
    rw [hd, Bool.true_or]
    go_enter Try.func24, Try.ntmps24
    go_wp2
    go_ret
    exact ⟨rfl, ((Below.refl _ _).alloc (Nat.le_refl _) _).alloc (by simp) _⟩
  · have hd : decide (ta < tb) = false := decide_eq_false h1
    rw [hd, Bool.false_or]
    by_cases h2 : ta = tb
    · subst h2
      have hq : (ta == ta) = true := by simp
      rw [decide_eq_true rfl, Bool.true_and]
      go_enter Try.func24, Try.ntmps24
      go_wp2
      go_ret
      exact ⟨rfl, ((Below.refl _ _).alloc (Nat.le_refl _) _).alloc (by simp) _⟩
    · have hq : (ta == tb) = false := by simpa using h2
      rw [decide_eq_false h2, Bool.false_and]
      go_enter Try.func24, Try.ntmps24
      go_wp2
      go_ret
      exact ⟨rfl, ((Below.refl _ _).alloc (Nat.le_refl _) _).alloc (by simp) _⟩
end Go.Proofs.Ytclobnojpmgmaaa
