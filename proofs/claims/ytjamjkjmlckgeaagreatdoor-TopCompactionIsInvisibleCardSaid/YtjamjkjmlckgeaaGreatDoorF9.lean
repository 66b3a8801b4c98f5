/-
  Contracts and plain facts, one after another: The body of a message; The check of a body; the check of fields; An append of bytes onto an own row, with growslice's own bound.
-/
import Derived.Test.YtjamjkjmlckgeaaGreatDoorF8
import Derived.Deep.DeepAppendWide
namespace Go.Proofs.YtjamjkjmlckgeaaGreatDoor
open Go.RowKit

theorem drop_two {l : List UInt8} {i : Nat} (h : i < l.length) : l.drop i = l[i] :: l.drop (i + 1) := List.drop_eq_getElem_cons h
theorem body_pair {l : List UInt8} {i k : Nat} (h : i + 1 < l.length) (h1 : l[i] = 13) (h2 : l[i + 1] = 10) : Mb.bodyGo (l.drop i) k = Mb.bodyGo (l.drop (i + 2)) 0 := by
  rw [drop_two (show i < l.length by omega), drop_two h, h1, h2, Mb.bodyGo, if_pos ⟨rfl, rfl⟩]
theorem body_bad {l : List UInt8} {i k : Nat} (h : i < l.length) (h1 : l[i] = 13 ∨ l[i] = 10) (h2 : ¬ (l[i] = 13 ∧ ∃ hh : i + 1 < l.length, l[i + 1] = 10)) : Mb.bodyGo (l.drop i) k = 11 := by
  rw [drop_two h]
  by_cases h3 : i + 1 < l.length
  · rw [drop_two h3, Mb.bodyGo, if_neg (fun hh => h2 ⟨hh.1, h3, hh.2⟩), if_pos h1]
  · rw [List.drop_eq_nil_of_le (by omega), Mb.bodyGo, if_pos h1]
theorem body_long {l : List UInt8} {i k : Nat} (h : i < l.length) (h1 : ¬ (l[i] = 13 ∨ l[i] = 10)) (h2 : 998 < k + 1) : Mb.bodyGo (l.drop i) k = 1 := by
  rw [drop_two h]
  by_cases h3 : i + 1 < l.length
  · rw [drop_two h3, Mb.bodyGo, if_neg (fun hh => h1 (.inl hh.1)), if_neg h1, if_pos h2]
  · rw [List.drop_eq_nil_of_le (by omega), Mb.bodyGo, if_neg h1, if_pos h2]
theorem body_on {l : List UInt8} {i k : Nat} (h : i < l.length) (h1 : ¬ (l[i] = 13 ∨ l[i] = 10)) (h2 : ¬ 998 < k + 1) : Mb.bodyGo (l.drop i) k = Mb.bodyGo (l.drop (i + 1)) (k + 1) := by
  rw [drop_two h]
  by_cases h3 : i + 1 < l.length
  · rw [drop_two h3, Mb.bodyGo, if_neg (fun hh => h1 (.inl hh.1)), if_neg h1, if_neg h2]
  · rw [List.drop_eq_nil_of_le (show l.length ≤ i + 1 by omega), show Mb.bodyGo [] (k + 1) = 0 from rfl, Mb.bodyGo, if_neg h1, if_neg h2]
set_option maxRecDepth 100000 in
set_option maxHeartbeats 2000000 in
theorem bodyB_ok (M : Nat → Prop) (v : Value) (l : List UInt8) (w : World) (h : SlR byteC M w v l) : Calls Tryz.prog 108 #[v] w fun e w' => e = .returned (.int .i64 (Mb.bodyF l)) ∧ w = w' := by
  obtain ⟨A, c, rfl, hlc, hcm⟩ := h.form
  have hl := h.len_le
  unfold maxLen at hl hcm
  obtain ⟨R, hR⟩ : ∃ R, R = Mb.bodyF l := ⟨_, rfl⟩
  rw [← hR]
  have HR := Lib.hid (show R = Mb.bodyGo (l.drop 0) 0 from hR)
  clear hR
  go_enter Tryz.func108, Tryz.ntmps108
  go_wp2
  go_loop [3, 4] (fun cv iv => ∃ k i : Nat, i ≤ l.length ∧ k ≤ i ∧ cv = .int .i64 (k : Int) ∧ iv = .int .i64 (i : Int) ∧ Hid (R = Mb.bodyGo (l.drop i) k)) (fun _ iv => l.length - (intOf iv).toNat)
  case atStart => exact ⟨0, 0, Nat.zero_le _, Nat.le_refl _, rfl, rfl, HR⟩
  case round =>
    obtain ⟨k, i, hi, hki, rfl, rfl, hg⟩ := hrel
    by_cases hlt : i < l.length
    · obtain ⟨b, off, rfl, q1, q2, hcell⟩ := h.byteAt hlt
      obtain ⟨x, hx⟩ : ∃ x, x = l[i] := ⟨_, rfl⟩
      rw [← hx] at hcell
      obtain ⟨t13, ht13⟩ : ∃ t, ((x.toNat : Int) == 13) = t := ⟨_, rfl⟩
      obtain ⟨t10, ht10⟩ : ∃ t, ((x.toNat : Int) == 10) = t := ⟨_, rfl⟩
      have e13 : (l[i] = 13) ↔ t13 = true := by
        rw [← hx, ← ht13, beq_iff_eq, ← UInt8.toNat_inj]; simp; omega
      have e10 : (l[i] = 10) ↔ t10 = true := by
        rw [← hx, ← ht10, beq_iff_eq, ← UInt8.toNat_inj]; simp; omega
      have E13 := Lib.hid e13; have E10 := Lib.hid e10; have Hx := Lib.hid hx
      have hne : t13 = true → t10 = true → False := by
        intro h1 h2
        rw [← ht13, beq_iff_eq] at h1
        rw [← ht10, beq_iff_eq] at h2
        omega
      have Hne := Lib.hid hne
      clear e13 e10 hx hne HR
      cases t13 with
      | false =>
        cases t10 with
        | true =>
          have hval := Lib.hid (show R = 11 from hg.out.trans (body_bad hlt (.inr (E10.out.2 rfl)) fun hh => by simpa using E13.out.1 hh.1))
          go_wp2
          go_ret
          exact ⟨by rw [hval.out] <;> rfl, rfl⟩
        | false =>
          have hno : ¬ (l[i] = 13 ∨ l[i] = 10) := fun hh => hh.elim (fun hh => by simpa using E13.out.1 hh) fun hh => by simpa using E10.out.1 hh
          by_cases h998 : 998 < k + 1
          · have hval := Lib.hid (show R = 1 from hg.out.trans (body_long hlt hno h998))
            have hk1 : (998 : Int) < (k : Int) + 1 := by omega
            clear hno
            go_wp2
            go_ret
            exact ⟨by rw [hval.out] <;> rfl, rfl⟩
          · have hval := Lib.hid (show R = Mb.bodyGo (l.drop (i + 1)) (k + 1) from hg.out.trans (body_on hlt hno h998))
            have hk1 : ¬ (998 : Int) < (k : Int) + 1 := by omega
            clear hno
            go_wp2
            go_round
            case rel => exact ⟨k + 1, i + 1, by omega, by omega, by go_num, by go_num, hval⟩
            case measure => simp [intOf]; omega
      | true =>
        have h10f : t10 = false := by
          cases t10 with
          | false => rfl
          | true => exact (Hne.out rfl rfl).elim
        subst h10f
        by_cases hnx : i + 1 < l.length
        · obtain ⟨b2, off2, hA, q3, q4, hcell2⟩ := h.byteAt hnx
          cases hA
          obtain ⟨y, hy⟩ : ∃ y, y = l[i + 1] := ⟨_, rfl⟩
          rw [← hy] at hcell2
          obtain ⟨u10, hu10⟩ : ∃ t, ((y.toNat : Int) == 10) = t := ⟨_, rfl⟩
          have ey : (l[i + 1] = 10) ↔ u10 = true := by
            rw [← hy, ← hu10, beq_iff_eq, ← UInt8.toNat_inj]; simp; omega
          have Ey := Lib.hid ey
          clear ey hy
          cases u10 with
          | true =>
            have hval := Lib.hid (show R = Mb.bodyGo (l.drop (i + 2)) 0 from hg.out.trans (body_pair hnx (E13.out.2 rfl) (Ey.out.2 rfl)))
            go_wp2
            go_round
            case rel => exact ⟨0, i + 2, by omega, by omega, by go_num, by go_num, hval⟩
            case measure => simp [intOf]; omega
          | false =>
            have hval := Lib.hid (show R = 11 from hg.out.trans (body_bad hlt (.inl (E13.out.2 rfl)) fun ⟨_, _, hh⟩ => by simpa using Ey.out.1 hh))
            go_wp2
            go_ret
            exact ⟨by rw [hval.out] <;> rfl, rfl⟩
        · have hval := Lib.hid (show R = 11 from hg.out.trans (body_bad hlt (.inl (E13.out.2 rfl)) fun ⟨_, hh, _⟩ => hnx hh))
          go_wp2
          go_ret
          exact ⟨by rw [hval.out] <;> rfl, rfl⟩
    · have hval := Lib.hid (show R = 0 by
        have := hg.out
        rw [List.drop_eq_nil_of_le (by omega)] at this
        rw [this]; rfl)
      go_wp2
      go_ret
      exact ⟨by rw [hval.out] <;> rfl, rfl⟩
end Go.Proofs.YtjamjkjmlckgeaaGreatDoor
namespace Go.Proofs.YtjamjkjmlckgeaaGreatDoor
open Go.RowKit

def bodyE (l : List UInt8) : Int × Int := if Mb.bodyF l = 11 then (11, -5) else if Mb.bodyF l = 1 then (1, -6) else (0, 0)
theorem below_al {w w1 : World} {B : Nat} (h : Below B w w1) (hB : B ≤ w1.heap.size) (o : Obj) : Below B w (w1.alloc o) := h.alloc hB o
set_option maxHeartbeats 1000000 in
theorem mbody_ok (M : Nat → Prop) (v : Value) (l : List UInt8) (w : World) (h : SlR byteC M w v l) : Calls Tryz.prog 80 #[v] w fun e w' => e = .returned (.agg #[.int .i64 (bodyE l).1, .int .i64 (bodyE l).2]) ∧ Below w.heap.size w w' := by
  have hbd := fun W (hW : SlR byteC M W v l) => bodyB_ok M v l W hW
  obtain ⟨A, c, rfl, hlc, hcm⟩ := h.form
  obtain ⟨R, hR⟩ : ∃ R, R = Mb.bodyF l := ⟨_, rfl⟩
  rw [← hR] at hbd
  have HE := Lib.hid (show bodyE l = if R = 11 then (11, -5) else if R = 1 then (1, -6) else (0, 0) by rw [hR]; rfl)
  have Hbd := Lib.hid hbd
  have h0 := h.ext ((Below.refl _ _).alloc (Nat.le_refl _) (.cells #[.int .i64 0, .int .i64 0] 31))
  have k0 := Blk.new w 31 #[.int .i64 0, .int .i64 0]
  have hb0 : Below w.heap.size w (w.alloc (.cells #[.int .i64 0, .int .i64 0] 31)) := (Below.refl _ _).alloc (Nat.le_refl _) _
  clear hbd hR
  by_cases h1 : R = 11
  · subst h1
    have HE2 := Lib.hid (show bodyE l = (11, -5) from HE.out.trans (if_pos rfl))
    clear HE
    go_enter Tryz.func80, Tryz.ntmps80
    go_wp2_with (first
      | (go_at_call 108; refine (Hbd.out _ h0).mono ?_; rintro e w1 ⟨rfl, rfl⟩)
      | (go_at_call 27; refine (fault_ok _ _ _).mono ?_; rintro e w2 ⟨rfl, hb2⟩; have k2 := k0.ext hb2; have hbw2 := below2 hb0 hb2; obtain ⟨c0, c1, z0, z1, s1⟩ := k2.two; obtain ⟨e0, e1⟩ := k2.put2 (.int .i64 11) (.int .i64 (-5))))
    refine bodyPost_ret (v := .agg #[.int .i64 11, .int .i64 (-5)]) (by simp [results, Tryz.results80, go_sem, e0, e1]) rfl ⟨by rw [HE2.out], ?_⟩
    exact below_set2 hbw2 (Nat.le_refl _) _ _
  · have h1' : (R == 11) = false := by simpa using h1
    by_cases h2 : R = 1
    · subst h2
      have HE2 := Lib.hid (show bodyE l = (1, -6) from HE.out.trans rfl)
      clear HE h1 h1'
      go_enter Tryz.func80, Tryz.ntmps80
      go_wp2_with (first
        | (go_at_call 108; refine (Hbd.out _ h0).mono ?_; rintro e w1 ⟨rfl, rfl⟩)
        | (go_at_call 27; refine (fault_ok _ _ _).mono ?_; rintro e w2 ⟨rfl, hb2⟩; have k2 := k0.ext hb2; have hbw2 := below2 hb0 hb2; obtain ⟨c0, c1, z0, z1, s1⟩ := k2.two; obtain ⟨e0, e1⟩ := k2.put2 (.int .i64 1) (.int .i64 (-6))))
      refine bodyPost_ret (v := .agg #[.int .i64 1, .int .i64 (-6)]) (by simp [results, Tryz.results80, go_sem, e0, e1]) rfl ⟨by rw [HE2.out], ?_⟩
      exact below_set2 hbw2 (Nat.le_refl _) _ _
    · have h2' : (R == 1) = false := by simpa using h2
      have HE2 := Lib.hid (show bodyE l = (0, 0) from HE.out.trans (by rw [if_neg h1, if_neg h2]))
      clear HE h1 h2
      go_enter Tryz.func80, Tryz.ntmps80
      go_wp2_with (first
        | (go_at_call 108; refine (Hbd.out _ h0).mono ?_; rintro e w1 ⟨rfl, rfl⟩)
        | (go_at_call 24; refine (none_ok _).mono ?_; rintro e w2 ⟨rfl, hb2⟩; have k2 := k0.ext hb2; have hbw2 := below2 hb0 hb2; obtain ⟨c0, c1, z0, z1, s1⟩ := k2.two; obtain ⟨e0, e1⟩ := k2.put2 (.int .i64 0) (.int .i64 0)))
      refine bodyPost_ret (v := .agg #[.int .i64 0, .int .i64 0]) (by simp [results, Tryz.results80, go_sem, e0, e1]) rfl ⟨by rw [HE2.out], ?_⟩
      exact below_set2 hbw2 (Nat.le_refl _) _ _
/-! ### messages in memory -/
def fldC : Codec Mb.Fld := pairC strC strC
def msgC : Codec Mb.Msg := pairC (sliceC fldC) (sliceC byteC)
def entC : Codec Mb.Ent := pairC intC (pairC intC (pairC intC (pairC intC msgC)))
def gnC : Codec Mb.Gn := pairC intC intC
theorem SlR.fldAt {M : Nat → Prop} {w : World} {A : Option Addr} {n c : Nat} {l : List Mb.Fld} (h : SlR fldC M w (.slice A n c) l) {k : Nat} (hk : k < l.length) :
    ∃ b off, A = some ⟨b, off, none⟩ ∧ ¬ M b ∧ b < w.heap.size ∧ w.cell? ⟨b, off + k * 2, none⟩ = some (.string (bs l[k].1)) ∧ w.cell? ⟨b, off + k * 2 + 1, none⟩ = some (.string (bs l[k].2)) ∧ l[k].1.length ≤ maxLen ∧ l[k].2.length ≤ maxLen := by
  obtain ⟨b, off, cs, rfl, hM, hb, hr, hc⟩ := h.at_ hk
  obtain ⟨c1, d1, rfl, ⟨rfl, m1⟩, ⟨rfl, m2⟩⟩ := hr
  exact ⟨b, off, rfl, hM, hb, hc 0 _ rfl, hc 1 _ rfl, m1, m2⟩
theorem fieldsErr_at : ∀ (l : List Mb.Fld) (k : Nat) (i : Int) (hk : k < l.length), (Mb.foldF l[k].1 l[k].2).2.1 ≠ 0 → (∀ (j : Nat) (hj : j < l.length), j < k → (Mb.foldF l[j].1 l[j].2).2.1 = 0) → Mb.fieldsErr l i = ((Mb.foldF l[k].1 l[k].2).2.1, i + (k : Int))
  | [], _, _, hk, _, _ => absurd hk (by simp)
  | x :: l, 0, i, _, h, _ => by
    unfold Mb.fieldsErr
    rw [if_pos (show (Mb.foldF x.1 x.2).2.1 ≠ 0 from h)]
    simp
  | x :: l, k + 1, i, hk, h, hp => by
    unfold Mb.fieldsErr
    have h0 := hp 0 (by simp) (by omega)
    rw [if_neg (fun hh => hh h0), fieldsErr_at l k (i + 1) (by simpa using hk) (by simpa using h) fun j hj hjk => hp (j + 1) (by simpa using hj) (by omega)]
    show (_, _) = (_, _)
    congr 1
    omega
theorem fieldsErr_no : ∀ (l : List Mb.Fld) (i : Int), (∀ (j : Nat) (hj : j < l.length), (Mb.foldF l[j].1 l[j].2).2.1 = 0) → Mb.fieldsErr l i = (0, 0)
  | [], _, _ => rfl
  | x :: l, i, h => by
    unfold Mb.fieldsErr
    have h0 := h 0 (by simp)
    rw [if_neg (fun hh => hh h0)]
    exact fieldsErr_no l _ fun j hj => h (j + 1) (by simpa using hj)
set_option maxRecDepth 100000 in
set_option maxHeartbeats 2000000 in
theorem header_ok (v : Value) (l : List Mb.Fld) (w : World) (h : SlR fldC M0 w v l) : Calls Tryz.prog 78 #[v] w fun e w' => e = .returned (.agg #[.int .i64 (Mb.headerF l).1, .int .i64 (Mb.headerF l).2]) ∧ Below w.heap.size w w' := by
  obtain ⟨A, c, rfl, hlc, hcm⟩ := h.form
  obtain ⟨w0, g, hw0, hg, hsz0, k0, hb0⟩ := box1 w #[.int .i64 0, .int .i64 0] 31
  by_cases h60 : 60 < l.length
  · have HE := Lib.hid (show Mb.headerF l = (2, -1) by unfold Mb.headerF; rw [if_pos h60])
    go_enter Tryz.func78, Tryz.ntmps78
    go_wp2_with (go_at_call 27; refine (fault_ok _ _ _).mono ?_; rintro e w2 ⟨rfl, hb2⟩; have k2 := k0.ext hb2; have hbw2 := below2 hb0 hb2; obtain ⟨c0, c1, z0, z1, s1⟩ := k2.two; obtain ⟨e0, e1⟩ := k2.put2 (.int .i64 2) (.int .i64 (-1)))
    refine bodyPost_ret (v := .agg #[.int .i64 2, .int .i64 (-1)]) (by simp [results, Tryz.results78, go_sem, e0, e1]) rfl ⟨by rw [HE.out], ?_⟩
    exact below_set2 hbw2 (by omega) _ _
  · have HE := Lib.hid (show Mb.headerF l = Mb.fieldsErr l 0 by unfold Mb.headerF; rw [if_neg h60])
    have h0 := h.ext hb0
    go_enter Tryz.func78, Tryz.ntmps78
    go_wp2_with fail
    go_loopw [13] (fun i wr => ∃ k : Nat, k ≤ l.length ∧ i = .int .i64 (k : Int) ∧ Below w0.heap.size w0 wr ∧ Hid (∀ (j : Nat) (hj : j < l.length), j < k → (Mb.foldF l[j].1 l[j].2).2.1 = 0)) (fun i _ => l.length - (intOf i).toNat)
    case atStart => exact ⟨0, Nat.zero_le _, rfl, Below.refl _ _, Lib.hid fun j _ hj => absurd hj (by omega)⟩
    case round =>
      obtain ⟨k, hk, rfl, hb, hpre⟩ := hrel
      have kr := k0.ext hb
      by_cases hlt : k < l.length
      · obtain ⟨b, off, rfl, _, _, q0, q1, m1, m2⟩ := (h0.ext hb).fldAt hlt
        obtain ⟨n1, hn1⟩ : ∃ x, x = l[k].1 := ⟨_, rfl⟩
        obtain ⟨n2, hn2⟩ : ∃ x, x = l[k].2 := ⟨_, rfl⟩
        obtain ⟨c1, hc1⟩ : ∃ x, x = (Mb.foldF n1 n2).2.1 := ⟨_, rfl⟩
        obtain ⟨c2, hc2⟩ : ∃ x, x = (Mb.foldF n1 n2).2.2 := ⟨_, rfl⟩
        rw [← hn1] at q0 m1
        rw [← hn2] at q1 m2
        have hfo := fun W => (fold_ok n1 n2 m1 m2 W).mono (R' := fun e w' => ∃ u, e = .returned (.tuple #[u, .agg #[.int .i64 c1, .int .i64 c2]]) ∧ Below W.heap.size W w') fun e w' hh => by
          obtain ⟨u, he, _, hb⟩ := hh
          exact ⟨u, by rw [he, hc1, hc2], hb⟩
        have Hfo := Lib.hid hfo
        have Hc := Lib.hid (show c1 = (Mb.foldF l[k].1 l[k].2).2.1 by rw [hc1, hn1, hn2])
        clear hfo hc1 hc2 hn1 hn2 m1 m2
        by_cases h1 : c1 = 0
        · subst h1
          have hz : ((0 : Int) != 0) = false := rfl
          go_wp2_with fail
          refine (Hfo.out _).mono ?_
          rintro e w3 ⟨u, rfl, hb3⟩
          have hb3' := below2 hb (below_alloc hb3)
          go_wp2_with (go_at_call 21; refine (failed_ok _ _ _).mono ?_; rintro e w4 ⟨rfl, hb4⟩; have hb4' := below2 hb3' (below_alloc hb4))
          go_roundw
          case rel => exact ⟨k + 1, by omega, by go_num, hb4', Lib.hid fun j hj h => by
            by_cases e : j = k
            · subst e; exact Hc.out.symm
            · exact hpre.out j hj (by omega)⟩
          case measure => simp [intOf]; omega
        · have hz : (c1 != 0) = true := by simpa using h1
          have HE2 := Lib.hid (show Mb.headerF l = (c1, (k : Int)) by
            rw [HE.out, fieldsErr_at l k 0 hlt (by rw [← Hc.out]; exact h1) hpre.out, ← Hc.out, Int.zero_add])
          clear h1 HE Hc
          go_wp2_with fail
          refine (Hfo.out _).mono ?_
          rintro e w3 ⟨u, rfl, hb3⟩
          have hb3' := below2 hb (below_alloc hb3)
          go_wp2_with (first
            | (go_at_call 21; refine (failed_ok _ _ _).mono ?_; rintro e w4 ⟨rfl, hb4⟩; have hb4' := below2 hb3' (below_alloc hb4); have k4 := (Blk.new w3 31 #[.int .i64 c1, .int .i64 c2]).ext hb4; obtain ⟨c0, c9, z0, z1, s1⟩ := k4.two)
            | (go_at_call 27; refine (fault_ok _ _ _).mono ?_; rintro e w5 ⟨rfl, hb5⟩; have hb5' := below2 hb4' hb5; have k5 := k0.ext hb5'; obtain ⟨d0, d1, y0, y1, s2⟩ := k5.two; obtain ⟨e0, e1⟩ := k5.put2 (.int .i64 c1) (.int .i64 (k : Int))))
          refine bodyPost_ret (v := .agg #[.int .i64 c1, .int .i64 (k : Int)]) (by simp [results, Tryz.results78, go_sem, e0, e1]) rfl ⟨by rw [HE2.out], ?_⟩
          exact below_set2 (below2 hb0 hb5') (by omega) _ _
      · have HE2 := Lib.hid (show Mb.headerF l = (0, 0) from HE.out.trans (fieldsErr_no l 0 fun j hj => hpre.out j hj (by omega)))
        go_wp2_with (go_at_call 24; refine (none_ok _).mono ?_; rintro e w5 ⟨rfl, hb5⟩; have hb5' := below2 hb hb5; have k5 := k0.ext hb5'; obtain ⟨d0, d1, y0, y1, s2⟩ := k5.two; obtain ⟨e0, e1⟩ := k5.put2 (.int .i64 0) (.int .i64 0))
        refine bodyPost_ret (v := .agg #[.int .i64 0, .int .i64 0]) (by simp [results, Tryz.results78, go_sem, e0, e1]) rfl ⟨by rw [HE2.out], ?_⟩
        exact below_set2 (below2 hb0 hb5') (by omega) _ _
end Go.Proofs.YtjamjkjmlckgeaaGreatDoor
namespace Go.Proofs.YtjamjkjmlckgeaaGreatDoor
open Go.RowKit
theorem els_bytes_free {M M' : Nat → Prop} {w w' : World} {xs : List Value} {l : List UInt8} (h : Els byteC M w xs l) : Els byteC M' w' xs l := ⟨h.1, fun i hi => h.2 i hi⟩
theorem wp_append_bytesW {P : Program} {w : World} {M : Nat → Prop} {B : Nat} {l l' : List UInt8} {o : Oper} {a : Act} {K : Act → World → Prop} {Q : Exit → Act → World → Prop} {t e : TypeId} (T : SlT P byteC.n t e 1) (s x : Operand)
    (ho : o.op = .call { callee := .builtin .append, args := #[s, x], argTypes := #[t, t] })
    {v : Value} (hs : a.eval s = v) (hown : Own byteC M w B e v l)
    {x' : Value} (hx : a.eval x = x') (hr : SlR byteC (fun b => M b ∨ v.ownBlock = some b) w x' l')
    (h63 : l.length + l'.length ≤ maxLen) (hbytes : l.length + l'.length ≤ 200000000000000) (hbase : B ≤ w.heap.size)
    (h : ∀ A' c' L w', Hid (L = l ++ l') → Own byteC M w' B e (.slice A' L.length c') L → Below B w w' → w.grownBy w' v.ownBlock → K (a.put o.dst (.slice A' L.length c')) w') : o.wp P a w K Q := by
  obtain ⟨i, z, hi, hz, h1, h2, h3⟩ := T.hi
  obtain ⟨A, n, c, news, rfl, hn, hc, hm, he, ha⟩ := hr
  have hown0 := hown
  obtain ⟨xs, ho2, hx2⟩ := hown
  subst hn
  have fin : ∀ v' w', w'.ownsRow B e byteC.n v' (l.length + l'.length) (xs ++ news) → w.grownBy w' v.ownBlock → (Builtin.append_ #[t, t] o.type #[v, .slice A l'.length c]).run P w = .ok v' w' → o.wp P a w K Q := by
    intro v' w' h5 h6 hrun
    have h7 : Own byteC M w' B e v' (l ++ l') := ⟨xs ++ news, by rw [List.length_append]; exact h5, els_bytes_free ((els_bytes_free (M' := M0) (w' := w) hx2).append (els_bytes_free (M' := M0) (w' := w) he))⟩
    obtain ⟨A', c', rfl, _⟩ := h7.shape
    unfold Oper.wp execOp
    simp only [ho, resolve, invoke, builtin, Sem.run_bind, Sem.run_pure, Result.andThen_ok, List.map_toArray, List.map_cons, List.map_nil, hs, hx, hrun]
    exact h A' c' _ w' (Lib.hid rfl) h7 ((Below.refl _ _).grown h6 hbase fun k hk => hown0.base k hk) h6
  rcases Nat.eq_zero_or_pos l'.length with h0 | h0
  · have hl' : l' = [] := List.eq_nil_of_length_eq_zero h0
    subst hl'
    have hnn : news = [] := List.eq_nil_of_length_eq_zero (by simpa using he.1)
    subst hnn
    refine fin v w (by simpa using ho2) (World.grownBy.refl w _) ?_
    rcases ho2.2 with ⟨rfl, h⟩ | ⟨g, cap, cur, rfl, _, _, hnc, _⟩
    · cases A <;> simp [Builtin.append_, run_underlying T.ht, sizeOf, typeInfo, hi, Builtin.lenOf, Builtin.firstCells, loadCells, loadCellsFrom]
    · cases A <;> simp [Builtin.append_, run_underlying T.ht, sizeOf, typeInfo, hi, Builtin.lenOf, Builtin.firstCells, hnc, storeCells, loadCells, loadCellsFrom]
  · obtain ⟨b, off, rfl, _, _, hcell⟩ := ha h0
    have hcells : ∀ (j : Nat) (u : Value), news[j]? = some u → w.cell? ((⟨b, off, none⟩ : Addr).add j) = some u := by
      intro j u hu
      rw [Addr.add_lit]
      exact hcell j u hu
    obtain ⟨v', w', hrun, h5, h6, _⟩ := run_append_own_wide (P := P) w B t o.type e i z byteC.n 1 T.ht hi hz h1 h2 h3 byteC.pos v l.length xs ho2 ⟨b, off, none⟩ l'.length c news he.1 hcells he.one h63 (by omega) hbase
    exact fin v' w' h5 h6 hrun
end Go.Proofs.YtjamjkjmlckgeaaGreatDoor
