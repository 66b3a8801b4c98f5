/-
  Contracts and plain facts, one after another: The body of a message; The check of a body; the check of fields; A message as bytes.
-/
import Derived.Test.YtjamjkjmlckgeaaGreatDoorG8
namespace Go.Proofs.YtjamjkjmlckgeaaGreatDoor
open Go.RowKit

theorem drop_two {l : List UInt8} {i : Nat} (h : i < l.length) : l.drop i = l[i] :: l.drop (i + 1) := List.drop_eq_getElem_cons h
theorem body_pair {l : List UInt8} {i k : Nat} (h : i + 1 < l.length) (h1 : l[i] = 13) (h2 : l[i + 1] = 10) : Mb.bodyGo (l.drop i) k = Mb.bodyGo (l.drop (i + 2)) 0 := by
  rw [drop_two (show i < l.length by omega), drop_two h, h1, h2, Mb.bodyGo, if_pos ⟨rfl, rfl⟩]
theorem body_bad {l : List UInt8} {i k : Nat} (h : i < l.length) (h1 : l[i] = 13 ∨ l[i] = 10) (h2 : ¬ (l[i] = 13 ∧ ∃ hh : i + 1 < l.length, l[i + 1] = 10)) : Mb.bodyGo (l.drop i) k = 11 := by
  rw [drop_two h]
  by_cases h3 : i + 1 < l.length
  · rw [drop_two h3, Mb.bodyGo, if_neg (fun hh => h2 ⟨hh.1, h3, hh.2⟩), if_pos h1]
  · rw [List.drop_eq_nil_of_le (by omega), Mb.bodyGo, if_pos h1]
theorem body_long {l : List UInt8} {i k : Nat} (h : i < l.length) (h1 : ¬ (l[i] = 13 ∨ l[i] = 10)) (h2 : 998 < k + 1) : Mb.bodyGo (l.drop i) k = 1 := by
  rw [drop_two h]
  by_cases h3 : i + 1 < l.length
  · rw [drop_two h3, Mb.bodyGo, if_neg (fun hh => h1 (.inl hh.1)), if_neg h1, if_pos h2]
  · rw [List.drop_eq_nil_of_le (by omega), Mb.bodyGo, if_neg h1, if_pos h2]
theorem body_on {l : List UInt8} {i k : Nat} (h : i < l.length) (h1 : ¬ (l[i] = 13 ∨ l[i] = 10)) (h2 : ¬ 998 < k + 1) : Mb.bodyGo (l.drop i) k = Mb.bodyGo (l.drop (i + 1)) (k + 1) := by
  rw [drop_two h]
  by_cases h3 : i + 1 < l.length
  · rw [drop_two h3, Mb.bodyGo, if_neg (fun hh => h1 (.inl hh.1)), if_neg h1, if_neg h2]
  · rw [List.drop_eq_nil_of_le (show l.length ≤ i + 1 by omega), show Mb.bodyGo [] (k + 1) = 0 from rfl, Mb.bodyGo, if_neg h1, if_neg h2]
set_option maxRecDepth 100000 in
set_option maxHeartbeats 2000000 in
theorem bodyB_ok (M : Nat → Prop) (v : Value) (l : List UInt8) (w : World) (h : SlR byteC M w v l) : Calls Tryz.prog 108 #[v] w fun e w' => e = .returned (.int .i64 (Mb.bodyF l)) ∧ w = w' := by
  obtain ⟨A, c, rfl, hlc, hcm⟩ := h.form
  have hl := h.len_le
  unfold maxLen at hl hcm
  obtain ⟨R, hR⟩ : ∃ R, R = Mb.bodyF l := ⟨_, rfl⟩
  rw [← hR]
  have HR := Lib.hid (show R = Mb.bodyGo (l.drop 0) 0 from hR)
  clear hR
  go_enter Tryz.func108, Tryz.ntmps108
  go_wp2
  go_loop [3, 4] (fun cv iv => ∃ k i : Nat, i ≤ l.length ∧ k ≤ i ∧ cv = .int .i64 (k : Int) ∧ iv = .int .i64 (i : Int) ∧ Hid (R = Mb.bodyGo (l.drop i) k)) (fun _ iv => l.length - (intOf iv).toNat)
  case atStart => exact ⟨0, 0, Nat.zero_le _, Nat.le_refl _, rfl, rfl, HR⟩
  case round =>
    obtain ⟨k, i, hi, hki, rfl, rfl, hg⟩ := hrel
    by_cases hlt : i < l.length
    · obtain ⟨b, off, rfl, q1, q2, hcell⟩ := h.byteAt hlt
      obtain ⟨x, hx⟩ : ∃ x, x = l[i] := ⟨_, rfl⟩
      rw [← hx] at hcell
      obtain ⟨t13, ht13⟩ : ∃ t, ((x.toNat : Int) == 13) = t := ⟨_, rfl⟩
      obtain ⟨t10, ht10⟩ : ∃ t, ((x.toNat : Int) == 10) = t := ⟨_, rfl⟩
      have e13 : (l[i] = 13) ↔ t13 = true := by
        rw [← hx, ← ht13, beq_iff_eq, ← UInt8.toNat_inj]; simp; omega
      have e10 : (l[i] = 10) ↔ t10 = true := by
        rw [← hx, ← ht10, beq_iff_eq, ← UInt8.toNat_inj]; simp; omega
      have E13 := Lib.hid e13; have E10 := Lib.hid e10; have Hx := Lib.hid hx
      have hne : t13 = true → t10 = true → False := by
        intro h1 h2
        rw [← ht13, beq_iff_eq] at h1
        rw [← ht10, beq_iff_eq] at h2
        omega
      have Hne := Lib.hid hne
      clear e13 e10 hx hne HR
      cases t13 with
      | false =>
        cases t10 with
        | true =>
          have hval := Lib.hid (show R = 11 from hg.out.trans (body_bad hlt (.inr (E10.out.2 rfl)) fun hh => by simpa using E13.out.1 hh.1))
          go_wp2
          go_ret
          exact ⟨by rw [hval.out] <;> rfl, rfl⟩
        | false =>
          have hno : ¬ (l[i] = 13 ∨ l[i] = 10) := fun hh => hh.elim (fun hh => by simpa using E13.out.1 hh) fun hh => by simpa using E10.out.1 hh
          by_cases h998 : 998 < k + 1
          · have hval := Lib.hid (show R = 1 from hg.out.trans (body_long hlt hno h998))
            have hk1 : (998 : Int) < (k : Int) + 1 := by omega
            clear hno
            go_wp2
            go_ret
            exact ⟨by rw [hval.out] <;> rfl, rfl⟩
          · have hval := Lib.hid (show R = Mb.bodyGo (l.drop (i + 1)) (k + 1) from hg.out.trans (body_on hlt hno h998))
            have hk1 : ¬ (998 : Int) < (k : Int) + 1 := by omega
            clear hno
            go_wp2
            go_round
            case rel => exact ⟨k + 1, i + 1, by omega, by omega, by go_num, by go_num, hval⟩
            case measure => simp [intOf]; omega
      | true =>
        have h10f : t10 = false := by
          cases t10 with
          | false => rfl
          | true => exact (Hne.out rfl rfl).elim
        subst h10f
        by_cases hnx : i + 1 < l.length
        · obtain ⟨b2, off2, hA, q3, q4, hcell2⟩ := h.byteAt hnx
          cases hA
          obtain ⟨y, hy⟩ : ∃ y, y = l[i + 1] := ⟨_, rfl⟩
          rw [← hy] at hcell2
          obtain ⟨u10, hu10⟩ : ∃ t, ((y.toNat : Int) == 10) = t := ⟨_, rfl⟩
          have ey : (l[i + 1] = 10) ↔ u10 = true := by
            rw [← hy, ← hu10, beq_iff_eq, ← UInt8.toNat_inj]; simp; omega
          have Ey := Lib.hid ey
          clear ey hy
          cases u10 with
          | true =>
            have hval := Lib.hid (show R = Mb.bodyGo (l.drop (i + 2)) 0 from hg.out.trans (body_pair hnx (E13.out.2 rfl) (Ey.out.2 rfl)))
            go_wp2
            go_round
            case rel => exact ⟨0, i + 2, by omega, by omega, by go_num, by go_num, hval⟩
            case measure => simp [intOf]; omega
          | false =>
            have hval := Lib.hid (show R = 11 from hg.out.trans (body_bad hlt (.inl (E13.out.2 rfl)) fun ⟨_, _, hh⟩ => by simpa using Ey.out.1 hh))
            go_wp2
            go_ret
            exact ⟨by rw [hval.out] <;> rfl, rfl⟩
        · have hval := Lib.hid (show R = 11 from hg.out.trans (body_bad hlt (.inl (E13.out.2 rfl)) fun ⟨_, hh, _⟩ => hnx hh))
          go_wp2
          go_ret
          exact ⟨by rw [hval.out] <;> rfl, rfl⟩
    · have hval := Lib.hid (show R = 0 by
        have := hg.out
        rw [List.drop_eq_nil_of_le (by omega)] at this
        rw [this]; rfl)
      go_wp2
      go_ret
      exact ⟨by rw [hval.out] <;> rfl, rfl⟩
end Go.Proofs.YtjamjkjmlckgeaaGreatDoor
namespace Go.Proofs.YtjamjkjmlckgeaaGreatDoor
open Go.RowKit

def bodyE (l : List UInt8) : Int × Int := if Mb.bodyF l = 11 then (11, -5) else if Mb.bodyF l = 1 then (1, -6) else (0, 0)
theorem below_al {w w1 : World} {B : Nat} (h : Below B w w1) (hB : B ≤ w1.heap.size) (o : Obj) : Below B w (w1.alloc o) := h.alloc hB o
set_option maxHeartbeats 1000000 in
theorem mbody_ok (M : Nat → Prop) (v : Value) (l : List UInt8) (w : World) (h : SlR byteC M w v l) : Calls Tryz.prog 80 #[v] w fun e w' => e = .returned (.agg #[.int .i64 (bodyE l).1, .int .i64 (bodyE l).2]) ∧ Below w.heap.size w w' := by
  have hbd := fun W (hW : SlR byteC M W v l) => bodyB_ok M v l W hW
  obtain ⟨A, c, rfl, hlc, hcm⟩ := h.form
  obtain ⟨R, hR⟩ : ∃ R, R = Mb.bodyF l := ⟨_, rfl⟩
  rw [← hR] at hbd
  have HE := Lib.hid (show bodyE l = if R = 11 then (11, -5) else if R = 1 then (1, -6) else (0, 0) by rw [hR]; rfl)
  have Hbd := Lib.hid hbd
  have h0 := h.ext ((Below.refl _ _).alloc (Nat.le_refl _) (.cells #[.int .i64 0, .int .i64 0] 31))
  have k0 := Blk.new w 31 #[.int .i64 0, .int .i64 0]
  have hb0 : Below w.heap.size w (w.alloc (.cells #[.int .i64 0, .int .i64 0] 31)) := (Below.refl _ _).alloc (Nat.le_refl _) _
  clear hbd hR
  by_cases h1 : R = 11
  · subst h1
    have HE2 := Lib.hid (show bodyE l = (11, -5) from HE.out.trans (if_pos rfl))
    clear HE
    go_enter Tryz.func80, Tryz.ntmps80
    go_wp2_with (first
      | (go_at_call 108; refine (Hbd.out _ h0).mono ?_; rintro e w1 ⟨rfl, rfl⟩)
      | (go_at_call 27; refine (fault_ok _ _ _).mono ?_; rintro e w2 ⟨rfl, hb2⟩; have k2 := k0.ext hb2; have hbw2 := below2 hb0 hb2; obtain ⟨c0, c1, z0, z1, s1⟩ := k2.two; obtain ⟨e0, e1⟩ := k2.put2 (.int .i64 11) (.int .i64 (-5))))
    refine bodyPost_ret (v := .agg #[.int .i64 11, .int .i64 (-5)]) (by simp [results, Tryz.results80, go_sem, e0, e1]) rfl ⟨by rw [HE2.out], ?_⟩
    exact below_set2 hbw2 (Nat.le_refl _) _ _
  · have h1' : (R == 11) = false := by simpa using h1
    by_cases h2 : R = 1
    · subst h2
      have HE2 := Lib.hid (show bodyE l = (1, -6) from HE.out.trans rfl)
      clear HE h1 h1'
      go_enter Tryz.func80, Tryz.ntmps80
      go_wp2_with (first
        | (go_at_call 108; refine (Hbd.out _ h0).mono ?_; rintro e w1 ⟨rfl, rfl⟩)
        | (go_at_call 27; refine (fault_ok _ _ _).mono ?_; rintro e w2 ⟨rfl, hb2⟩; have k2 := k0.ext hb2; have hbw2 := below2 hb0 hb2; obtain ⟨c0, c1, z0, z1, s1⟩ := k2.two; obtain ⟨e0, e1⟩ := k2.put2 (.int .i64 1) (.int .i64 (-6))))
      refine bodyPost_ret (v := .agg #[.int .i64 1, .int .i64 (-6)]) (by simp [results, Tryz.results80, go_sem, e0, e1]) rfl ⟨by rw [HE2.out], ?_⟩
      exact below_set2 hbw2 (Nat.le_refl _) _ _
    · have h2' : (R == 1) = false := by simpa using h2
      have HE2 := Lib.hid (show bodyE l = (0, 0) from HE.out.trans (by rw [if_neg h1, if_neg h2]))
      clear HE h1 h2
      go_enter Tryz.func80, Tryz.ntmps80
      go_wp2_with (first
        | (go_at_call 108; refine (Hbd.out _ h0).mono ?_; rintro e w1 ⟨rfl, rfl⟩)
        | (go_at_call 24; refine (none_ok _).mono ?_; rintro e w2 ⟨rfl, hb2⟩; have k2 := k0.ext hb2; have hbw2 := below2 hb0 hb2; obtain ⟨c0, c1, z0, z1, s1⟩ := k2.two; obtain ⟨e0, e1⟩ := k2.put2 (.int .i64 0) (.int .i64 0)))
      refine bodyPost_ret (v := .agg #[.int .i64 0, .int .i64 0]) (by simp [results, Tryz.results80, go_sem, e0, e1]) rfl ⟨by rw [HE2.out], ?_⟩
      exact below_set2 hbw2 (Nat.le_refl _) _ _
/-! ### messages in memory -/
def fldC : Codec Mb.Fld := pairC strC strC
def msgC : Codec Mb.Msg := pairC (sliceC fldC) (sliceC byteC)
def entC : Codec Mb.Ent := pairC intC (pairC intC (pairC intC (pairC intC msgC)))
def gnC : Codec Mb.Gn := pairC intC intC
theorem SlR.fldAt {M : Nat → Prop} {w : World} {A : Option Addr} {n c : Nat} {l : List Mb.Fld} (h : SlR fldC M w (.slice A n c) l) {k : Nat} (hk : k < l.length) :
    ∃ b off, A = some ⟨b, off, none⟩ ∧ ¬ M b ∧ b < w.heap.size ∧ w.cell? ⟨b, off + k * 2, none⟩ = some (.string (bs l[k].1)) ∧ w.cell? ⟨b, off + k * 2 + 1, none⟩ = some (.string (bs l[k].2)) ∧ l[k].1.length ≤ maxLen ∧ l[k].2.length ≤ maxLen := by
  obtain ⟨b, off, cs, rfl, hM, hb, hr, hc⟩ := h.at_ hk
  obtain ⟨c1, d1, rfl, ⟨rfl, m1⟩, ⟨rfl, m2⟩⟩ := hr
  exact ⟨b, off, rfl, hM, hb, hc 0 _ rfl, hc 1 _ rfl, m1, m2⟩
theorem fieldsErr_at : ∀ (l : List Mb.Fld) (k : Nat) (i : Int) (hk : k < l.length), (Mb.foldF l[k].1 l[k].2).2.1 ≠ 0 → (∀ (j : Nat) (hj : j < l.length), j < k → (Mb.foldF l[j].1 l[j].2).2.1 = 0) → Mb.fieldsErr l i = ((Mb.foldF l[k].1 l[k].2).2.1, i + (k : Int))
  | [], _, _, hk, _, _ => absurd hk (by simp)
  | x :: l, 0, i, _, h, _ => by
    unfold Mb.fieldsErr
    rw [if_pos (show (Mb.foldF x.1 x.2).2.1 ≠ 0 from h)]
    simp
  | x :: l, k + 1, i, hk, h, hp => by
    unfold Mb.fieldsErr
    have h0 := hp 0 (by simp) (by omega)
    rw [if_neg (fun hh => hh h0), fieldsErr_at l k (i + 1) (by simpa using hk) (by simpa using h) fun j hj hjk => hp (j + 1) (by simpa using hj) (by omega)]
    show (_, _) = (_, _)
    congr 1
    omega
theorem fieldsErr_no : ∀ (l : List Mb.Fld) (i : Int), (∀ (j : Nat) (hj : j < l.length), (Mb.foldF l[j].1 l[j].2).2.1 = 0) → Mb.fieldsErr l i = (0, 0)
  | [], _, _ => rfl
  | x :: l, i, h => by
    unfold Mb.fieldsErr
    have h0 := h 0 (by simp)
    rw [if_neg (fun hh => hh h0)]
    exact fieldsErr_no l _ fun j hj => h (j + 1) (by simpa using hj)
set_option maxRecDepth 100000 in
set_option maxHeartbeats 2000000 in
theorem header_ok (v : Value) (l : List Mb.Fld) (w : World) (h : SlR fldC M0 w v l) : Calls Tryz.prog 78 #[v] w fun e w' => e = .returned (.agg #[.int .i64 (Mb.headerF l).1, .int .i64 (Mb.headerF l).2]) ∧ Below w.heap.size w w' := by
  obtain ⟨A, c, rfl, hlc, hcm⟩ := h.form
  obtain ⟨w0, g, hw0, hg, hsz0, k0, hb0⟩ := box1 w #[.int .i64 0, .int .i64 0] 31
  by_cases h60 : 60 < l.length
  · have HE := Lib.hid (show Mb.headerF l = (2, -1) by unfold Mb.headerF; rw [if_pos h60])
    go_enter Tryz.func78, Tryz.ntmps78
    go_wp2_with (go_at_call 27; refine (fault_ok _ _ _).mono ?_; rintro e w2 ⟨rfl, hb2⟩; have k2 := k0.ext hb2; have hbw2 := below2 hb0 hb2; obtain ⟨c0, c1, z0, z1, s1⟩ := k2.two; obtain ⟨e0, e1⟩ := k2.put2 (.int .i64 2) (.int .i64 (-1)))
    refine bodyPost_ret (v := .agg #[.int .i64 2, .int .i64 (-1)]) (by simp [results, Tryz.results78, go_sem, e0, e1]) rfl ⟨by rw [HE.out], ?_⟩
    exact below_set2 hbw2 (by omega) _ _
  · have HE := Lib.hid (show Mb.headerF l = Mb.fieldsErr l 0 by unfold Mb.headerF; rw [if_neg h60])
    have h0 := h.ext hb0
    go_enter Tryz.func78, Tryz.ntmps78
    go_wp2_with fail
    go_loopw [13] (fun i wr => ∃ k : Nat, k ≤ l.length ∧ i = .int .i64 (k : Int) ∧ Below w0.heap.size w0 wr ∧ Hid (∀ (j : Nat) (hj : j < l.length), j < k → (Mb.foldF l[j].1 l[j].2).2.1 = 0)) (fun i _ => l.length - (intOf i).toNat)
    case atStart => exact ⟨0, Nat.zero_le _, rfl, Below.refl _ _, Lib.hid fun j _ hj => absurd hj (by omega)⟩
    case round =>
      obtain ⟨k, hk, rfl, hb, hpre⟩ := hrel
      have kr := k0.ext hb
      by_cases hlt : k < l.length
      · obtain ⟨b, off, rfl, _, _, q0, q1, m1, m2⟩ := (h0.ext hb).fldAt hlt
        obtain ⟨n1, hn1⟩ : ∃ x, x = l[k].1 := ⟨_, rfl⟩
        obtain ⟨n2, hn2⟩ : ∃ x, x = l[k].2 := ⟨_, rfl⟩
        obtain ⟨c1, hc1⟩ : ∃ x, x = (Mb.foldF n1 n2).2.1 := ⟨_, rfl⟩
        obtain ⟨c2, hc2⟩ : ∃ x, x = (Mb.foldF n1 n2).2.2 := ⟨_, rfl⟩
        rw [← hn1] at q0 m1
        rw [← hn2] at q1 m2
        have hfo := fun W => (fold_ok n1 n2 m1 m2 W).mono (R' := fun e w' => ∃ u, e = .returned (.tuple #[u, .agg #[.int .i64 c1, .int .i64 c2]]) ∧ Below W.heap.size W w') fun e w' hh => by
          obtain ⟨u, he, _, hb⟩ := hh
          exact ⟨u, by rw [he, hc1, hc2], hb⟩
        have Hfo := Lib.hid hfo
        have Hc := Lib.hid (show c1 = (Mb.foldF l[k].1 l[k].2).2.1 by rw [hc1, hn1, hn2])
        clear hfo hc1 hc2 hn1 hn2 m1 m2
        by_cases h1 : c1 = 0
        · subst h1
          have hz : ((0 : Int) != 0) = false := rfl
          go_wp2_with fail
          refine (Hfo.out _).mono ?_
          rintro e w3 ⟨u, rfl, hb3⟩
          have hb3' := below2 hb (below_alloc hb3)
          go_wp2_with (go_at_call 21; refine (failed_ok _ _ _).mono ?_; rintro e w4 ⟨rfl, hb4⟩; have hb4' := below2 hb3' (below_alloc hb4))
          go_roundw
          case rel => exact ⟨k + 1, by omega, by go_num, hb4', Lib.hid fun j hj h => by
            by_cases e : j = k
            · subst e; exact Hc.out.symm
            · exact hpre.out j hj (by omega)⟩
          case measure => simp [intOf]; omega
        · have hz : (c1 != 0) = true := by simpa using h1
          have HE2 := Lib.hid (show Mb.headerF l = (c1, (k : Int)) by
            rw [HE.out, fieldsErr_at l k 0 hlt (by rw [← Hc.out]; exact h1) hpre.out, ← Hc.out, Int.zero_add])
          clear h1 HE Hc
          go_wp2_with fail
          refine (Hfo.out _).mono ?_
          rintro e w3 ⟨u, rfl, hb3⟩
          have hb3' := below2 hb (below_alloc hb3)
          go_wp2_with (first
            | (go_at_call 21; refine (failed_ok _ _ _).mono ?_; rintro e w4 ⟨rfl, hb4⟩; have hb4' := below2 hb3' (below_alloc hb4); have k4 := (Blk.new w3 31 #[.int .i64 c1, .int .i64 c2]).ext hb4; obtain ⟨c0, c9, z0, z1, s1⟩ := k4.two)
            | (go_at_call 27; refine (fault_ok _ _ _).mono ?_; rintro e w5 ⟨rfl, hb5⟩; have hb5' := below2 hb4' hb5; have k5 := k0.ext hb5'; obtain ⟨d0, d1, y0, y1, s2⟩ := k5.two; obtain ⟨e0, e1⟩ := k5.put2 (.int .i64 c1) (.int .i64 (k : Int))))
          refine bodyPost_ret (v := .agg #[.int .i64 c1, .int .i64 (k : Int)]) (by simp [results, Tryz.results78, go_sem, e0, e1]) rfl ⟨by rw [HE2.out], ?_⟩
          exact below_set2 (below2 hb0 hb5') (by omega) _ _
      · have HE2 := Lib.hid (show Mb.headerF l = (0, 0) from HE.out.trans (fieldsErr_no l 0 fun j hj => hpre.out j hj (by omega)))
        go_wp2_with (go_at_call 24; refine (none_ok _).mono ?_; rintro e w5 ⟨rfl, hb5⟩; have hb5' := below2 hb hb5; have k5 := k0.ext hb5'; obtain ⟨d0, d1, y0, y1, s2⟩ := k5.two; obtain ⟨e0, e1⟩ := k5.put2 (.int .i64 0) (.int .i64 0))
        refine bodyPost_ret (v := .agg #[.int .i64 0, .int .i64 0]) (by simp [results, Tryz.results78, go_sem, e0, e1]) rfl ⟨by rw [HE2.out], ?_⟩
        exact below_set2 (below2 hb0 hb5') (by omega) _ _
end Go.Proofs.YtjamjkjmlckgeaaGreatDoor
namespace Go.Proofs.YtjamjkjmlckgeaaGreatDoor
open Go.RowKit

def lineB (x : Mb.Fld) : List UInt8 := (Mb.foldF x.1 x.2).1.flatMap fun s => s ++ [13, 10]
theorem uInfo : (Tryz.prog.info? 5).map (fun i => (i.zero, i.size, i.bytes)) = some (some (.int .u8 0), 1, 1) := by kernel_rfl
theorem TBy : SlT Tryz.prog byteC.n 29 5 1 := SlT.mk' Tryz.underlying29 uInfo rfl
theorem flat_take_le (ls : List Str) (j : Nat) : ((ls.take j).flatMap fun s => s ++ [13, 10]).length ≤ (ls.flatMap fun s => s ++ [(13 : UInt8), 10]).length := by
  conv => rhs; rw [← List.take_append_drop j ls, List.flatMap_append, List.length_append]
  omega
theorem take_flat {α β : Type} (g : α → List β) (l : List α) (k : Nat) (hk : k < l.length) : (l.take (k + 1)).flatMap g = (l.take k).flatMap g ++ g l[k] := by
  rw [List.take_succ_eq_append_getElem hk, List.flatMap_append, List.flatMap_cons, List.flatMap_nil, List.append_nil]
set_option maxRecDepth 100000 in
set_option maxHeartbeats 4000000 in
theorem write_ok (f b : Value) (m : Mb.Msg) (w : World) (hf : SlR fldC M0 w f m.1) (hb : SlR byteC M0 w b m.2) (h60 : m.1.length ≤ 60) (hsz : ∀ x ∈ m.1, (lineB x).length ≤ 20000) (hlen : m.2.length ≤ 140737480000000) :
    Calls Tryz.prog 79 #[.agg #[f, b]] w fun e w' => ∃ (A : Option Addr) (c : Nat) (L : List UInt8), e = .returned (.slice A L.length c) ∧ Hid (L = Mb.writeF m) ∧ Own byteC M0 w' w.heap.size 5 (.slice A L.length c) L ∧ Below w.heap.size w w' := by
  obtain ⟨l, bd⟩ := m
  dsimp only at hf hb h60 hsz hlen
  obtain ⟨Af, cf, rfl, hlf, _⟩ := hf.form
  obtain ⟨Ab, cb, rfl, hlb, _⟩ := hb.form
  obtain ⟨w0, g, hw0, hg, hsz0, k0, hb0⟩ := box1 w #[.slice Af l.length cf, .slice Ab bd.length cb] 45
  have hf0 := hf.ext hb0
  obtain ⟨c0, c1, z0, z1, s1⟩ := k0.two
  clear hsz0
  go_enter Tryz.func79, Tryz.ntmps79
  go_wp2_with fail
  go_loopw [3, 13] (fun o i wr => ∃ (k : Nat) (A : Option Addr) (c : Nat) (L : List UInt8), k ≤ l.length ∧ i = .int .i64 (k : Int) ∧ o = .slice A L.length c ∧ Hid (L = (l.take k).flatMap lineB) ∧ L.length ≤ 20000 * k ∧ Own byteC M0 wr w0.heap.size 5 (.slice A L.length c) L ∧ Below w0.heap.size w0 wr) (fun _ i _ => l.length - (intOf i).toNat)
  case atStart => exact ⟨0, none, 0, [], Nat.zero_le _, rfl, rfl, Lib.hid rfl, Nat.zero_le _, Own.nil _ _ _ _ _, Below.refl _ _⟩
  case round =>
    obtain ⟨k, A, c, L, hk, rfl, rfl, hL, hLl, own, hbr⟩ := hrel
    by_cases hlt : k < l.length
    · obtain ⟨b9, off, rfl, _, _, q0, q1, m1, m2⟩ := (hf0.ext hbr).fldAt hlt
      obtain ⟨n1, hn1⟩ : ∃ x, x = l[k].1 := ⟨_, rfl⟩
      obtain ⟨n2, hn2⟩ : ∃ x, x = l[k].2 := ⟨_, rfl⟩
      rw [← hn1] at q0 m1
      rw [← hn2] at q1 m2
      obtain ⟨ls, hls⟩ : ∃ x, x = (Mb.foldF n1 n2).1 := ⟨_, rfl⟩
      have hfo := fun W => fold_ok n1 n2 m1 m2 W
      rw [← hls] at hfo
      have Hfo := Lib.hid hfo
      have Hli := Lib.hid (show lineB l[k] = ls.flatMap fun s => s ++ [13, 10] by rw [hls, hn1, hn2]; rfl)
      have hlk := hsz _ (List.getElem_mem hlt)
      have Hlk := Lib.hid hlk
      clear hfo hls hn1 hn2 m1 m2 hlk
      go_wp2_with fail
      refine (Hfo.out _).mono ?_
      rintro e w3 ⟨u, rfl, ownu, hb3⟩
      obtain ⟨Au, cu, rfl, _, _⟩ := ownu.shape
      have hlsm := ownu.len_le
      unfold maxLen at hlsm
      have hb3' := below2 hbr (below_alloc hb3)
      obtain ⟨wo, rfl⟩ : ∃ W0, W0 = wr := ⟨_, rfl⟩
      obtain ⟨w4, g4, hw4, hg4, hsz4, k4, hb4⟩ := box1 w3 #[.int .i64 (Mb.foldF n1 n2).2.1, .int .i64 (Mb.foldF n1 n2).2.2] 31
      have hb4' := below2 hb3' hb4
      have own4 := (own.ext (below_alloc hb3)).ext hb4
      have ownu4 := ownu.ext hb4
      have Hfl := Lib.hid (fun j => flat_take_le ls j)
      clear own ownu k4
      go_wp2_with fail
      go_loopw [3, 27] (fun o i wr => ∃ (j : Nat) (A : Option Addr) (c : Nat) (L2 : List UInt8), j ≤ ls.length ∧ i = .int .i64 (j : Int) ∧ o = .slice A L2.length c ∧ Hid (L2 = L ++ (ls.take j).flatMap fun s => s ++ [13, 10]) ∧ Own byteC M0 wr w0.heap.size 5 (.slice A L2.length c) L2 ∧ Own strC M0 wr 0 9 (.slice Au ls.length cu) ls ∧ Below w0.heap.size w0 wr) (fun _ i _ => ls.length - (intOf i).toNat)
      case atStart => exact ⟨0, A, c, L, Nat.zero_le _, rfl, rfl, Lib.hid (by simp), own4, own_lower ownu4 (Nat.zero_le _), hb4'⟩
      case round =>
        obtain ⟨j, A2, c2, L2, hj, rfl, rfl, hL2, own2, ownu2, hb2⟩ := hrel
        by_cases hjl : j < ls.length
        · obtain ⟨bu, offu, rfl, _, _, qs, ms⟩ := ownu2.read0.strAt hjl
          obtain ⟨x, hx⟩ : ∃ x, x = ls[j] := ⟨_, rfl⟩
          rw [← hx] at qs ms
          have htk := Lib.hid (show (ls.take (j + 1)).flatMap (fun s => s ++ [(13 : UInt8), 10]) = (ls.take j).flatMap (fun s => s ++ [13, 10]) ++ (x ++ [13, 10]) by rw [hx]; exact take_flat _ ls j hjl)
          have hbl := Lib.hid (show L2.length + x.length + 2 ≤ 1240000 by
            have h1 := Hfl.out (j + 1)
            rw [htk.out, ← Hli.out, List.length_append, List.length_append] at h1
            rw [hL2.out, List.length_append]
            have h2 := Hlk.out
            simp only [List.length_cons, List.length_nil] at h1
            omega)
          have hszb := hb2.size
          clear hx ms
          go_wp2_with (at_builtin; refine wpList_appendStr uInfo Tryz.underlying29 Tryz.underlying9 rfl (.tmp 31) (.tmp 32) rfl rfl own2 (m := x) rfl ?a1 hszb ?_)
          case a1 => have := hbl.out; omega
          intro A5 c5 L5 w5 hL5 own5 hb5 hg5
          have ownu5 := own_grown flat_str ownu2 hg5 (own_apart own2 ownu2 (by decide))
          have hlit : SlR byteC (fun b => M0 b ∨ (Value.slice A5 L5.length c5).ownBlock = some b) (w5.alloc (.cells #[.int .u8 13, .int .u8 10] 5)) (.slice (some ⟨w5.heap.size, 0, none⟩) 2 2) [13, 10] :=
            (Own.built (M := fun b => M0 b ∨ (Value.slice A5 L5.length c5).ownBlock = some b) (B := w5.heap.size) (C := byteC) 5 (cs := [.int .u8 13, .int .u8 10]) (l := [13, 10]) (lit_bytes _ _ [13, 10]) (Nat.le_refl _) (by simp [maxLen])).read fun bb hbb hor => by
              have e : w5.heap.size = bb := Option.some.inj hbb
              subst e
              exact hor.elim id fun ho => absurd (own5.lt _ ho) (by omega)
          have hal : Below w5.heap.size w5 (w5.alloc (.cells #[.int .u8 13, .int .u8 10] 5)) := (Below.refl _ _).alloc (Nat.le_refl _) _
          have own6 := own5.ext hal
          have ownu6 := ownu5.ext hal
          have hb6 := hb2.trans (hb5.trans (hal.mono (Nat.le_trans hszb (hg5.size))))
          have hl5 := Lib.hid (show L5.length = L2.length + x.length by rw [hL5.out, List.length_append])
          clear own5 ownu5 own2 ownu2 hb5 hg5
          go_wp2_with (at_builtin; refine wpList_append_Own byteC TBy rfl (.tmp 33) (.tmp 34) rfl rfl own6 rfl hlit ?a2 ?b2 hb6.size ?_)
          case a2 => have := hbl.out; have := hl5.out; simp only [List.length_cons, List.length_nil]; unfold maxLen; omega
          case b2 => have := hbl.out; have := hl5.out; simp only [List.length_cons, List.length_nil]; omega
          intro A7 c7 L7 w7 hL7 own7 hb7 hg7 _
          have ownu7 := own_grown flat_str ownu6 hg7 (own_apart own6 ownu6 (by decide))
          have hb8 := hb6.trans hb7
          have HL7 := Lib.hid (show L7 = L ++ (ls.take (j + 1)).flatMap fun s => s ++ [13, 10] by rw [hL7.out, hL5.out, hL2.out, htk.out]; simp [List.append_assoc])
          clear own6 ownu6 hlit hal hg7 hb7 hL7 hL5 hbl hl5 htk
          go_wp2
          go_roundw
          case rel => exact ⟨j + 1, A7, c7, L7, by omega, by go_num, rfl, HL7, own7, ownu7, hb8⟩
          case measure => simp [intOf]; omega
        · have HL2 := Lib.hid (show L2 = (l.take (k + 1)).flatMap lineB by
            rw [hL2.out, List.take_of_length_le (by omega), ← Hli.out, hL.out, take_flat lineB l k hlt])
          have hbl := Lib.hid (show L2.length ≤ 20000 * (k + 1) by
            rw [hL2.out, List.length_append]
            have h1 := Hfl.out j
            rw [← Hli.out] at h1
            have := Hlk.out
            omega)
          clear ownu2 hL2
          go_wp2
          go_roundw
          case rel => exact ⟨k + 1, A2, c2, L2, by omega, by go_num, rfl, HL2, hbl.out, own2, hb2⟩
          case measure => simp [intOf]; omega
    · have HL2 := Lib.hid (show L = l.flatMap lineB by rw [hL.out, List.take_of_length_le (by omega)])
      have kg := k0.ext hbr
      have hbx := hb.ext (hb0.trans (hbr.mono hb0.size))
      clear hL
      have hbm := (hb.toMB).ext (hb0.trans (hbr.mono hb0.size))
      have hLs := Lib.hid hLl
      have hgs : w.heap.size ≤ w0.heap.size := hb0.size
      have HS := Lib.hid (show ∀ W, Below w0.heap.size w0 W → W.cell? ⟨g, 1, none⟩ = some (.slice Ab bd.length cb) from fun W hW => (k0.ext hW).two.2.1)
      clear hbx kg hLl
      go_wp2_with fail
      refine wp_region_D (fun W => W.cell? ⟨g, 1, none⟩ = some (.slice Ab bd.length cb)) (fun _ => false) (by kernel_rfl) ?_
      change anyD _ _ _ _ _ _ _ _ _ (wr.drewN 1)
      have hbV : Below w0.heap.size w0 (wr.drewN 1) := hbr.trans ((below_drewN' wr.heap.size wr 1).mono hbr.size)
      have own1 := own.ext (below_drewN' wr.heap.size wr 1)
      have hbm1 := hbm.drewN 1
      generalize wr.drewN 1 = V0 at hbV own1 hbm1 ⊢
      have hS := HS.out V0 hbV
      clear own hbm hbr
      (refine anyD_light (i := 0) (v := ?_) rfl (by kernel_rfl) (by kernel_rfl) (by kernel_rfl) (by kernel_rfl) (by kernel_rfl) (fun _ _ _ h => h) (.inl ⟨by kernel_rfl, fun W9 hW9 => ?_⟩) hS ?_; rotate_left; · (have hw0 := hW9; go_simp; rfl))
      (refine anyD_light (i := 3) (v := ?_) rfl (by kernel_rfl) (by kernel_rfl) (by kernel_rfl) (by kernel_rfl) (by kernel_rfl) (fun _ _ _ h => h) (.inl ⟨by kernel_rfl, fun W9 hW9 => ?_⟩) hS ?_; rotate_left; · (have hw0 := hW9; go_simp; rfl))
      (refine anyD_light (i := 4) (v := ?_) rfl (by kernel_rfl) (by kernel_rfl) (by kernel_rfl) (by kernel_rfl) (by kernel_rfl) (fun _ _ _ h => h) (.inl ⟨by kernel_rfl, fun W9 hW9 => ?_⟩) hS ?_; rotate_left; · (have hw0 := hW9; go_simp; rfl))
      go_simp
      refine anyD_one (i := 1) (by kernel_rfl) rfl rfl (fun K hK => ?_)
      have HK := Lib.hid hK
      clear hK hS
      unfold Oper.wp
      go_simp
      generalize hV : World.alloc V0 (.cells #[.int .u8 13, .int .u8 10] 5) = V1
      have hal : Below V0.heap.size V0 V1 := by rw [← hV]; exact (Below.refl _ _).alloc (Nat.le_refl _) _
      have hb2 := hbV.trans (hal.mono hbV.size)
      have xr : SlR byteC (fun b => M0 b ∨ (Value.slice A L.length c).ownBlock = some b) V1 (.slice (some ⟨V0.heap.size, 0, none⟩) 2 2) [13, 10] := by
        rw [← hV]
        exact (Own.built (M := fun b => M0 b ∨ (Value.slice A L.length c).ownBlock = some b) (B := V0.heap.size) (C := byteC) 5 (cs := [.int .u8 13, .int .u8 10]) (l := [13, 10]) (lit_bytes _ _ [13, 10]) (Nat.le_refl _) (by simp [maxLen])).read fun bb hbb hor => by
          have e : V0.heap.size = bb := Option.some.inj hbb
          subst e
          exact hor.elim id fun ho => absurd (own1.lt _ ho) (by omega)
      have own2 := own1.ext hal
      have hbm2 := hbm1.ext hal
      clear own1 hbm1 hV hal
      have hS := HS.out V1 hb2
      refine HK.out _ _ (fun _ => hS) ?_
      clear HK
      go_simp
      refine anyD_one (i := 2) (by kernel_rfl) rfl rfl (fun K hK => ?_)
      have HK := Lib.hid hK
      clear hK hS
      refine wp_append_Own byteC (M := M0) (v := .slice A L.length c) (l := L) (l' := [13, 10]) TBy (.tmp 38) (.tmp 39) rfl rfl own2 rfl xr (by have := hLs.out; simp only [maxLen, List.length_cons, List.length_nil]; omega) (by have := hLs.out; simp only [List.length_cons, List.length_nil]; omega) hb2.size ?_
      intro A4 c4 L4 V4 hL4 own4 hbl4 hgr4 hor4
      have hb4 := hb2.trans hbl4
      have HlL4 := Lib.hid (show L4.length = L.length + 2 by rw [hL4.out, List.length_append]; rfl)
      have xb : SlR byteC (fun b => M0 b ∨ (Value.slice A4 L4.length c4).ownBlock = some b) V4 (.slice Ab bd.length cb) bd := by
        have h1 : SlR byteC (fun b => w.heap.size ≤ b) w (.slice Ab bd.length cb) bd := hb.toMB.sub fun b _ h => .inr h
        exact (h1.ext (hb0.trans (hb4.mono hb0.size))).sub fun b _ hor => hor.elim (fun h => h.elim) fun h => Nat.le_trans hgs (own4.base b h)
      clear own2 xr hbl4 hgr4 hor4 hbm2
      have hS := HS.out V4 hb4
      refine HK.out _ _ (fun _ => hS) ?_
      clear HK
      go_simp
      refine anyD_one (i := 5) (by kernel_rfl) rfl rfl (fun K hK => ?_)
      have HK := Lib.hid hK
      clear hK hS
      refine wp_append_Own byteC (M := M0) (v := .slice A4 L4.length c4) (l := L4) (l' := bd) TBy (.tmp 40) (.tmp 42) rfl rfl own4 rfl xb (by have := hLs.out; have := HlL4.out; unfold maxLen; omega) (by have := hLs.out; have := HlL4.out; omega) hb4.size ?_
      intro A5 c5 L5 V5 hL5 own5 hbl5 hgr5 hor5
      have hb5 := hb4.trans hbl5
      have HL5 := Lib.hid (show L5 = Mb.writeF (l, bd) by rw [hL5.out, hL4.out, HL2.out]; unfold Mb.writeF lineB; simp [List.append_assoc])
      clear own4 xb hbl5 hgr5 hor5
      have hS := HS.out V5 hb5
      refine HK.out _ _ (fun _ => hS) ?_
      clear HK
      go_simp
      (refine anyD_light (i := 6) (v := ?_) rfl (by kernel_rfl) (by kernel_rfl) (by kernel_rfl) (by kernel_rfl) (by kernel_rfl) (fun _ _ _ h => h) (.inl ⟨by kernel_rfl, fun W9 hW9 => ?_⟩) hS ?_; rotate_left; · (have hw0 := hW9; go_simp; rfl))
      go_simp
      refine anyD_done (by kernel_rfl) ?_ _
      clear hS
      go_wp2
      go_ret
      exact ⟨A5, c5, L5, rfl, HL5, own_lower own5 hgs, hb0.trans (hb5.mono hgs)⟩
end Go.Proofs.YtjamjkjmlckgeaaGreatDoor
