/-
  Package records: Repair, Append and Read.
-/
import Derived.Test.YtopldghfphgjoaaRec5
namespace Go.Proofs.Ytopldghfphgjoaa
open Go.RowKit


theorem recsGo_end (l : List UInt8) : ∀ (f p : Nat), p ≤ l.length → p + endOf (recsGo l f p) ≤ l.length
  | 0, p, h => by simpa [recsGo, endOf] using h
  | f + 1, p, h => by
    cases hr : recAt l p with
    | none => simpa [recsGo, hr, endOf] using h
    | some r =>
      have h1 := recAt_len hr
      have ih := recsGo_end l f (p + 10 + r.length) h1.1
      have e : recsGo l (f + 1) p = (p, r) :: recsGo l f (p + 10 + r.length) := by simp [recsGo, hr]
      rw [e]
      simp [endOf] at ih ⊢
      omega
theorem endOf_recs_le (l : List UInt8) : endOf (recs l) ≤ l.length := by
  have := recsGo_end l (l.length + 1) 0 (Nat.zero_le _)
  simpa [recs] using this
theorem SlR.pre {M : Nat → Prop} {w : World} {l : List UInt8} {A : Option Addr} {n c : Nat} (h : SlR byteC M w (.slice A n c) l) {z : Nat} (hz : z ≤ l.length) : SlR byteC M w (.slice A z c) (l.take z) := by
  obtain ⟨A', n', c', xs, hv, rfl, hc, hm, he, ha⟩ := h
  injection hv with e1 e2 e3
  subst e1 e2 e3
  have hlen : (l.take z).length = z := by simp [Nat.min_eq_left hz]
  refine ⟨A, z, c, xs.take z, rfl, hlen.symm, by omega, hm, ?_, ?_⟩
  · have := he.take z
    simpa [byteC] using this
  · intro h0
    obtain ⟨b, off, hA, hM, hb, hcell⟩ := ha (by omega)
    refine ⟨b, off, hA, hM, hb, fun j u hu => hcell j u ?_⟩
    rw [List.getElem?_take] at hu
    split at hu
    · exact hu
    · cases hu

theorem Own.weak {α : Type} {C : Codec α} {M M' : Nat → Prop} {w : World} {B B' : Nat} {e : TypeId} {v : Value} {l : List α} (h : Own C M w B e v l) (hB : B' ≤ B) (hM : ∀ b, M' b → M b) : Own C M' w B' e v l := by
  obtain ⟨xs, ho, he⟩ := h
  refine ⟨xs, ⟨ho.1, ?_⟩, he.sub fun b _ hb => hb.imp (hM b) id⟩
  rcases ho.2 with hn | ⟨g, cap, cur, rfl, hb, rest⟩
  · exact .inl hn
  · exact .inr ⟨g, cap, cur, rfl, Nat.le_trans hB hb, rest⟩
theorem Own.set {α : Type} {C : Codec α} {M : Nat → Prop} {w : World} {B : Nat} {e : TypeId} {v : Value} {l : List α} (h : Own C M w B e v l) (hMB : ∀ b, M b → b < B) (p : Addr) (u : Value) (hp : M p.block) : Own C M (w.setCell p u) B e v l :=
  h.keep (fun b _ hor => Below.heap_setCell w p u b fun e => hor.elim (fun hn => hn (e ▸ hp)) fun ho => by have h1 := h.base b ho; have h2 := hMB _ hp; omega) (by simp) (fun b ho hm => by have h1 := h.base b ho; have h2 := hMB _ hm; omega)
theorem below_drew {B : Nat} {w w' : World} (h : Below B w w') : Below B w w'.drew := ⟨h.os, h.tape, h.output, h.size, h.block⟩
theorem Blk.put2 {w : World} {g : Nat} {t : TypeId} {x y : Value} (h : Blk w g t #[x, y]) (a b : Value) :
    ((w.setCell ⟨g, 0, none⟩ a).setCell ⟨g, 1, none⟩ b).cell? ⟨g, 0, none⟩ = some a ∧ ((w.setCell ⟨g, 0, none⟩ a).setCell ⟨g, 1, none⟩ b).cell? ⟨g, 1, none⟩ = some b := by
  have h2 : Blk ((w.setCell ⟨g, 0, none⟩ a).setCell ⟨g, 1, none⟩ b) g t #[a, b] := by simpa using (h.set_ 0 a).set_ 1 b
  exact ⟨h2.two.1, h2.two.2.1⟩
/-- The one block. -/
def One (g : Nat) : Nat → Prop := fun b => b = g
theorem SlR.toOne {α : Type} {C : Codec α} {M : Nat → Prop} {w : World} {v : Value} {l : List α} (h : SlR C M w v l) {g : Nat} (hg : w.heap.size ≤ g) : SlR C (One g) w v l := h.toMB.sub fun b _ hb => .inr (by rw [hb]; exact hg)

/-- What Repair answers. -/
def repairF (l : List UInt8) : List UInt8 × Int × Int := if 400000 < l.length then ([], 1, -1) else (l.take (endOf (recs l)), 0, 0)

set_option maxHeartbeats 1000000 in
theorem repair_ok (v : Value) (l : List UInt8) (w : World) (h : SlR byteC M0 w v l) :
    Calls Try.prog 13 #[v] w fun e w' => ∃ v', e = .returned (.tuple #[v', .agg #[.int .i64 (repairF l).2.1, .int .i64 (repairF l).2.2]]) ∧ Own byteC M0 w' w.heap.size 5 v' (repairF l).1 ∧ Below w.heap.size w w' := by
  obtain ⟨A, c, rfl, hlc, _⟩ := h.form
  by_cases hl : 400000 < l.length
  · simp only [repairF, if_pos hl]
    go_enter Try.func13, Try.ntmps13
    go_wp2_with (first
      | (go_at_call 37; refine (valid_ok M0 _ l _ (h.ext ((Below.refl _ _).alloc (Nat.le_refl _) _))).mono ?_; rintro e w1 ⟨he, hb1⟩; rw [if_pos hl, if_pos hl] at he; subst he; have k1 := (Blk.new w 24 #[.int .i64 0, .int .i64 0]).ext hb1)
      | (go_at_call 38; refine (failed_ok _ _ _).mono ?_; rintro e w2 ⟨rfl, hb2⟩; have k2 := (k1.alloc _).ext hb2; have k3 := (Blk.new w1 24 #[.int .i64 1, .int .i64 (-1)]).ext hb2; obtain ⟨c0, c1, z0, z1, s1⟩ := k2.two; obtain ⟨d0, d1, y0, y1, s2⟩ := k3.two))
    go_region
    all_goals go_wp2
    all_goals
      obtain ⟨e0, e1⟩ := k2.put2 (.int .i64 1) (.int .i64 (-1))
      refine bodyPost_ret (v := .tuple #[.slice none 0 0, .agg #[.int .i64 1, .int .i64 (-1)]]) (by simp [results, Try.results13, go_sem, e0, e1]) rfl ⟨_, rfl, Own.nil _ _ _ _ _, ?_⟩
      have hbw : Below w.heap.size w w2 := (below_alloc hb1).trans ((below_alloc hb2).mono (below_alloc hb1).size)
      exact below_drew ((hbw.setCell (p := ⟨w.heap.size, 0, none⟩) (Nat.le_refl _) _).setCell (p := ⟨w.heap.size, 1, none⟩) (Nat.le_refl _) _)
  · simp only [repairF, if_neg hl]
    have hn : l.length ≤ 400000 := by omega
    obtain ⟨z, hz⟩ : ∃ z, z = endOf (recs l) := ⟨_, rfl⟩
    have hzl : z ≤ l.length := hz ▸ endOf_recs_le l
    have hpre := h.pre hzl
    have Hz := Lib.hid hz
    rw [← hz]
    clear hz
    go_enter Try.func13, Try.ntmps13
    go_wp2_with (first
      | (go_at_call 37; refine (valid_ok M0 _ l _ (h.ext ((Below.refl _ _).alloc (Nat.le_refl _) _))).mono ?_; rintro e w1 ⟨he, hb1⟩; rw [if_neg hl, if_neg hl] at he; subst he; have k1 := (Blk.new w 24 #[.int .i64 0, .int .i64 0]).ext hb1; have hbw1 := below_alloc hb1)
      | (go_at_call 38; refine (failed_ok _ _ _).mono ?_; rintro e w2 ⟨rfl, hb2⟩; have k2 := (k1.alloc _).ext hb2; have hbw2 := hbw1.trans ((below_alloc hb2).mono hbw1.size))
      | (go_at_call 39; refine (size_ok _ l _ (h.ext hbw2) hn).mono ?_; rintro e w3 ⟨he, hb3⟩; rw [← Hz.out] at he; subst he; have k4 := k2.ext hb3; have hbw3 := hbw2.trans (hb3.mono hbw2.size))
      | (go_at_call 45; refine (clone_bytes_ok (One w.heap.size) _ (l.take z) _ ((hpre.toOne (Nat.le_refl _)).ext hbw3) (by simp; omega)).mono ?_; rintro e w4 ⟨v4, rfl, hown4, hb4⟩; have k5 := k4.ext hb4; have hbw4 := hbw3.trans (hb4.mono hbw3.size))
      | (go_at_call 43; refine (none_ok _).mono ?_; rintro e w5 ⟨rfl, hb5⟩; have k6 := k5.ext hb5; have hbw5 := hbw4.trans (hb5.mono hbw4.size); obtain ⟨c0, c1, z0, z1, s1⟩ := k6.two))
    have hown5 := (hown4.ext hb5).weak (B' := w.heap.size + 1) (M' := One w.heap.size) (by have := hbw3.size; have := k4.lt; omega) (fun _ h => h)
    have hlt : ∀ b, One w.heap.size b → b < w.heap.size + 1 := fun b hb => by rw [hb]; omega
    have hown6 := (((hown5.set hlt ⟨w.heap.size, 0, none⟩ (.int .i64 0) rfl).set hlt ⟨w.heap.size, 1, none⟩ (.int .i64 0) rfl).weak (B' := w.heap.size) (M' := M0) (by omega) (fun _ h => h.elim))
    obtain ⟨e0, e1⟩ := k6.put2 (.int .i64 0) (.int .i64 0)
    refine bodyPost_ret (v := .tuple #[v4, .agg #[.int .i64 0, .int .i64 0]]) (by simp [results, Try.results13, go_sem, e0, e1]) rfl ⟨_, rfl, hown6, ?_⟩
    exact Below.setCell (Below.setCell hbw5 (Nat.le_refl _) _) (Nat.le_refl _) _

/-- What Append answers. -/
def appendF (l r : List UInt8) : List UInt8 × Int × Int :=
  if 400000 < l.length then ([], 1, -1) else if endOf (recs l) < l.length then ([], 16, -2) else if 20000 < r.length then ([], 1, -3) else
  if 400000 < l.length + r.length + 10 then ([], 13, -1) else (l ++ storedF r, 0, 0)

theorem storedF_len (r : List UInt8) : (storedF r).length = r.length + 10 := by simp [storedF, headF, tailF]
theorem two_slices {M : Nat → Prop} {w : World} {u v : Value} {l r : List UInt8} (e : TypeId) (h : SlR byteC M w u l) (h' : SlR byteC M w v r) (hM : ∀ b, M b → b < w.heap.size) :
    SlR (sliceC byteC) M (w.alloc (.cells #[u, v] e)) (.slice (some ⟨w.heap.size, 0, none⟩) 2 2) [l, r] :=
  (Own.built (M := M) (C := sliceC byteC) (cs := [u, v]) (l := [l, r]) (B := w.heap.size) e ((Els.single (C := sliceC byteC) ⟨u, rfl, h⟩).append (Els.single ⟨v, rfl, h'⟩)) (Nat.le_refl _) (by simp [maxLen])).readB hM
theorem below2 {w : World} {w1 w2 : World} (h1 : Below w.heap.size w w1) (h2 : Below w1.heap.size w1 w2) : Below w.heap.size w w2 := h1.trans (h2.mono h1.size)

set_option maxHeartbeats 2000000 in
theorem append_ok (v v' : Value) (l r : List UInt8) (w : World) (h : SlR byteC M0 w v l) (hr : SlR byteC M0 w v' r) :
    Calls Try.prog 11 #[v, v'] w fun e w' => ∃ u, e = .returned (.tuple #[u, .agg #[.int .i64 (appendF l r).2.1, .int .i64 (appendF l r).2.2]]) ∧ Own byteC M0 w' w.heap.size 5 u (appendF l r).1 ∧ Below w.heap.size w w' := by
  obtain ⟨A, c, rfl, hlc, _⟩ := h.form
  obtain ⟨A', c', rfl, hlc', _⟩ := hr.form
  by_cases hl : 400000 < l.length
  · simp only [appendF, if_pos hl]
    go_enter Try.func11, Try.ntmps11
    go_wp2_with (first
      | (go_at_call 37; refine (valid_ok M0 _ l _ (h.ext ((Below.refl _ _).alloc (Nat.le_refl _) _))).mono ?_; rintro e w1 ⟨he, hb1⟩; rw [if_pos hl, if_pos hl] at he; subst he; have k1 := (Blk.new w 24 #[.int .i64 0, .int .i64 0]).ext hb1)
      | (go_at_call 38; refine (failed_ok _ _ _).mono ?_; rintro e w2 ⟨rfl, hb2⟩; have k2 := (k1.alloc _).ext hb2; have k3 := (Blk.new w1 24 #[.int .i64 1, .int .i64 (-1)]).ext hb2; obtain ⟨c0, c1, z0, z1, s1⟩ := k2.two; obtain ⟨d0, d1, y0, y1, s2⟩ := k3.two))
    go_region
    all_goals go_wp2
    all_goals
      obtain ⟨e0, e1⟩ := k2.put2 (.int .i64 1) (.int .i64 (-1))
      refine bodyPost_ret (v := .tuple #[.slice none 0 0, .agg #[.int .i64 1, .int .i64 (-1)]]) (by simp [results, Try.results11, go_sem, e0, e1]) rfl ⟨_, rfl, Own.nil _ _ _ _ _, ?_⟩
      have hbw : Below w.heap.size w w2 := (below_alloc hb1).trans ((below_alloc hb2).mono (below_alloc hb1).size)
      exact below_drew ((hbw.setCell (p := ⟨w.heap.size, 0, none⟩) (Nat.le_refl _) _).setCell (p := ⟨w.heap.size, 1, none⟩) (Nat.le_refl _) _)
  · obtain ⟨res, hres⟩ : ∃ res, res = appendF l r := ⟨_, rfl⟩
    simp only [appendF, if_neg hl] at hres
    rw [show appendF l r = res by rw [hres, appendF, if_neg hl]]
    have hn : l.length ≤ 400000 := by omega
    obtain ⟨z, hz⟩ : ∃ z, z = endOf (recs l) := ⟨_, rfl⟩
    have hzl : z ≤ l.length := hz ▸ endOf_recs_le l
    have Hz := Lib.hid hz
    rw [← hz] at hres
    clear hz
    have hlt : ∀ b, One w.heap.size b → b < w.heap.size + 1 := fun b hb => by rw [hb]; omega
    by_cases h1 : z < l.length
    · rw [if_pos h1] at hres
      subst hres
      have i1 : ((z : Int) < (l.length : Int)) = True := by simp; omega
      go_enter Try.func11, Try.ntmps11
      go_wp2_with (first
        | (go_at_call 37; refine (valid_ok M0 _ l _ (h.ext ((Below.refl _ _).alloc (Nat.le_refl _) _))).mono ?_; rintro e w1 ⟨he, hb1⟩; rw [if_neg hl, if_neg hl] at he; subst he; have k1 := (Blk.new w 24 #[.int .i64 0, .int .i64 0]).ext hb1; have hbw1 := below_alloc hb1)
        | (go_at_call 38; refine (failed_ok _ _ _).mono ?_; rintro e w2 ⟨rfl, hb2⟩; have k2 := (k1.alloc _).ext hb2; have hbw2 := below2 hbw1 (below_alloc hb2))
        | (go_at_call 39; refine (size_ok _ l _ (h.ext hbw2) hn).mono ?_; rintro e w3 ⟨he, hb3⟩; rw [← Hz.out] at he; subst he; have k4 := k2.ext hb3; have hbw3 := below2 hbw2 hb3)
        | (go_at_call 40; refine (fault_ok _ _ _).mono ?_; rintro e w4 ⟨rfl, hb4⟩; have k5 := k4.ext hb4; have hbw4 := below2 hbw3 hb4; obtain ⟨c0, c1, z0, z1, s1⟩ := k5.two; obtain ⟨e0, e1⟩ := k5.put2 (.int .i64 16) (.int .i64 (-2))))
      refine bodyPost_ret (v := .tuple #[.slice none 0 0, .agg #[.int .i64 16, .int .i64 (-2)]]) (by simp [results, Try.results11, go_sem, e0, e1]) rfl ⟨_, rfl, Own.nil _ _ _ _ _, ?_⟩
      exact (hbw4.setCell (p := ⟨w.heap.size, 0, none⟩) (Nat.le_refl _) _).setCell (p := ⟨w.heap.size, 1, none⟩) (Nat.le_refl _) _
    · rw [if_neg h1] at hres
      have i1 : ((z : Int) < (l.length : Int)) = False := by simp; omega
      by_cases h2 : 20000 < r.length
      · rw [if_pos h2] at hres
        subst hres
        have i2 : ((20000 : Int) < (r.length : Int)) = True := by simp; omega
        go_enter Try.func11, Try.ntmps11
        go_wp2_with (first
          | (go_at_call 37; refine (valid_ok M0 _ l _ (h.ext ((Below.refl _ _).alloc (Nat.le_refl _) _))).mono ?_; rintro e w1 ⟨he, hb1⟩; rw [if_neg hl, if_neg hl] at he; subst he; have k1 := (Blk.new w 24 #[.int .i64 0, .int .i64 0]).ext hb1; have hbw1 := below_alloc hb1)
          | (go_at_call 38; refine (failed_ok _ _ _).mono ?_; rintro e w2 ⟨rfl, hb2⟩; have k2 := (k1.alloc _).ext hb2; have hbw2 := below2 hbw1 (below_alloc hb2))
          | (go_at_call 39; refine (size_ok _ l _ (h.ext hbw2) hn).mono ?_; rintro e w3 ⟨he, hb3⟩; rw [← Hz.out] at he; subst he; have k4 := k2.ext hb3; have hbw3 := below2 hbw2 hb3)
          | (go_at_call 40; refine (fault_ok _ _ _).mono ?_; rintro e w4 ⟨rfl, hb4⟩; have k5 := k4.ext hb4; have hbw4 := below2 hbw3 hb4; obtain ⟨c0, c1, z0, z1, s1⟩ := k5.two; obtain ⟨e0, e1⟩ := k5.put2 (.int .i64 1) (.int .i64 (-3))))
        refine bodyPost_ret (v := .tuple #[.slice none 0 0, .agg #[.int .i64 1, .int .i64 (-3)]]) (by simp [results, Try.results11, go_sem, e0, e1]) rfl ⟨_, rfl, Own.nil _ _ _ _ _, ?_⟩
        exact (hbw4.setCell (p := ⟨w.heap.size, 0, none⟩) (Nat.le_refl _) _).setCell (p := ⟨w.heap.size, 1, none⟩) (Nat.le_refl _) _
      · rw [if_neg h2] at hres
        have i2 : ((20000 : Int) < (r.length : Int)) = False := by simp; omega
        by_cases h3 : 400000 < l.length + r.length + 10
        · rw [if_pos h3] at hres
          subst hres
          have i3 : ((400000 : Int) < (l.length : Int) + 2 + (r.length : Int) + 8) = True := by simp; omega
          go_enter Try.func11, Try.ntmps11
          go_wp2_with (first
            | (go_at_call 37; refine (valid_ok M0 _ l _ (h.ext ((Below.refl _ _).alloc (Nat.le_refl _) _))).mono ?_; rintro e w1 ⟨he, hb1⟩; rw [if_neg hl, if_neg hl] at he; subst he; have k1 := (Blk.new w 24 #[.int .i64 0, .int .i64 0]).ext hb1; have hbw1 := below_alloc hb1)
            | (go_at_call 38; refine (failed_ok _ _ _).mono ?_; rintro e w2 ⟨rfl, hb2⟩; have k2 := (k1.alloc _).ext hb2; have hbw2 := below2 hbw1 (below_alloc hb2))
            | (go_at_call 39; refine (size_ok _ l _ (h.ext hbw2) hn).mono ?_; rintro e w3 ⟨he, hb3⟩; rw [← Hz.out] at he; subst he; have k4 := k2.ext hb3; have hbw3 := below2 hbw2 hb3)
            | (go_at_call 40; refine (fault_ok _ _ _).mono ?_; rintro e w4 ⟨rfl, hb4⟩; have k5 := k4.ext hb4; have hbw4 := below2 hbw3 hb4; obtain ⟨c0, c1, z0, z1, s1⟩ := k5.two; obtain ⟨e0, e1⟩ := k5.put2 (.int .i64 13) (.int .i64 (-1))))
          refine bodyPost_ret (v := .tuple #[.slice none 0 0, .agg #[.int .i64 13, .int .i64 (-1)]]) (by simp [results, Try.results11, go_sem, e0, e1]) rfl ⟨_, rfl, Own.nil _ _ _ _ _, ?_⟩
          exact (hbw4.setCell (p := ⟨w.heap.size, 0, none⟩) (Nat.le_refl _) _).setCell (p := ⟨w.heap.size, 1, none⟩) (Nat.le_refl _) _
        · rw [if_neg h3] at hres
          subst hres
          have i3 : ((400000 : Int) < (l.length : Int) + 2 + (r.length : Int) + 8) = False := by simp; omega
          go_enter Try.func11, Try.ntmps11
          go_wp2_with (first
            | (go_at_call 37; refine (valid_ok M0 _ l _ (h.ext ((Below.refl _ _).alloc (Nat.le_refl _) _))).mono ?_; rintro e w1 ⟨he, hb1⟩; rw [if_neg hl, if_neg hl] at he; subst he; have k1 := (Blk.new w 24 #[.int .i64 0, .int .i64 0]).ext hb1; have hbw1 := below_alloc hb1)
            | (go_at_call 38; refine (failed_ok _ _ _).mono ?_; rintro e w2 ⟨rfl, hb2⟩; have k2 := (k1.alloc _).ext hb2; have hbw2 := below2 hbw1 (below_alloc hb2))
            | (go_at_call 39; refine (size_ok _ l _ (h.ext hbw2) hn).mono ?_; rintro e w3 ⟨he, hb3⟩; rw [← Hz.out] at he; subst he; have k4 := k2.ext hb3; have hbw3 := below2 hbw2 hb3)
            | (go_at_call 42; refine (stored_ok (One w.heap.size) _ r _ (fun b hb => by rw [hb]; exact k4.lt) ((hr.toOne (Nat.le_refl _)).ext hbw3) (by omega)).mono ?_; rintro e w4 ⟨v4, rfl, hown4, hb4⟩; obtain ⟨A4, c4, rfl, _, _⟩ := hown4.shape; have k5 := k4.ext hb4; have hbw4 := below2 hbw3 hb4)
            | (go_at_call 41; refine (concat_ok (One w.heap.size) _ [l, storedF r] _ (fun b hb => by have := k5.lt; rw [hb]; simp; omega) (two_slices _ ((h.toOne (Nat.le_refl _)).ext hbw4) (hown4.readB (fun b hb => by have := k4.lt; rw [hb]; omega)) (fun b hb => by rw [hb]; exact k5.lt)) (by simp) (by simp [storedF_len]; omega)).mono ?_; rintro e w5 ⟨v5, rfl, hown5, hb5⟩; have k6 := (k5.alloc _).ext hb5; have hbw5 := below2 hbw4 (below_alloc hb5))
            | (go_at_call 43; refine (none_ok _).mono ?_; rintro e w6 ⟨rfl, hb6⟩; have k7 := k6.ext hb6; have hbw6 := below2 hbw5 hb6; obtain ⟨c0, c1, z0, z1, s1⟩ := k7.two; obtain ⟨e0, e1⟩ := k7.put2 (.int .i64 0) (.int .i64 0)))
          have hown6 := (hown5.ext hb6).weak (B' := w.heap.size + 1) (M' := One w.heap.size) (by have := k5.lt; simp; omega) (fun _ h => h)
          have hown7 := (((hown6.set hlt ⟨w.heap.size, 0, none⟩ (.int .i64 0) rfl).set hlt ⟨w.heap.size, 1, none⟩ (.int .i64 0) rfl).weak (B' := w.heap.size) (M' := M0) (by omega) (fun _ h => h.elim))
          refine bodyPost_ret (v := .tuple #[v5, .agg #[.int .i64 0, .int .i64 0]]) (by simp [results, Try.results11, go_sem, e0, e1]) rfl ⟨_, rfl, by simpa using hown7, ?_⟩
          exact (hbw6.setCell (p := ⟨w.heap.size, 0, none⟩) (Nat.le_refl _) _).setCell (p := ⟨w.heap.size, 1, none⟩) (Nat.le_refl _) _
end Go.Proofs.Ytopldghfphgjoaa
