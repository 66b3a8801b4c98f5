/-
  The records of a log: the reference's loop, the iterator of package records, and what is built on it.
-/
import Derived.Test.YtopldghfphgjoaaRec
import Derived.Test.YtopldghfphgjoaaIter
namespace Go.Proofs.Ytopldghfphgjoaa
open Go.RowKit

/-! ### What a log holds -/
/-- The record at a place: its bytes, if one is there. -/
def recAt (log : List UInt8) (at' : Nat) : Option (List UInt8) :=
  if at' + 10 ≤ log.length then
    let n := 256 * (log.getD at' 0).toNat + (log.getD (at' + 1) 0).toNat
    if 20000 < n ∨ log.length < at' + 10 + n then none else
    let r := (log.take (at' + 2 + n)).drop (at' + 2)
    if storedF r == (log.take (at' + 10 + n)).drop at' then some r else none
  else none
def recsGo (log : List UInt8) : Nat → Nat → List (Nat × List UInt8)
  | 0, _ => []
  | f + 1, at' => match recAt log at' with
    | none => []
    | some r => (at', r) :: recsGo log f (at' + 10 + r.length)
/-- The records, and where each begins. -/
def recs (log : List UInt8) : List (Nat × List UInt8) := recsGo log (log.length + 1) 0
def endOf (l : List (Nat × List UInt8)) : Nat := (l.map fun x => 10 + x.2.length).sum
theorem endOf_snoc (l : List (Nat × List UInt8)) (a : Nat) (r : List UInt8) : endOf (l ++ [(a, r)]) = endOf l + 10 + r.length := by
  simp [endOf]; omega
theorem recAt_len {log : List UInt8} {a : Nat} {r : List UInt8} (h : recAt log a = some r) : a + 10 + r.length ≤ log.length ∧ r.length ≤ 20000 ∧ r = (log.take (a + 2 + r.length)).drop (a + 2) := by
  unfold recAt at h
  split at h
  · dsimp only at h
    split at h
    · cases h
    · rename_i h2
      split at h
      · injection h with h
        have hl : r.length = 256 * (log.getD a 0).toNat + (log.getD (a + 1) 0).toNat := by
          rw [← h, List.length_drop, List.length_take]; omega
        rw [hl]
        exact ⟨by omega, by omega, h.symm⟩
      · cases h
  · cases h

theorem recAt_none {log : List UInt8} {a : Nat} (h : recAt log a = none) (f : Nat) : recsGo log f a = [] := by
  cases f with
  | zero => rfl
  | succ f => simp [recsGo, h]
/-- The two bytes of a length, as the walk reads them. -/
theorem SlR.byteD {M : Nat → Prop} {w : World} {l : List UInt8} {A : Option Addr} {n c : Nat} (h : SlR byteC M w (.slice A n c) l) {k : Nat} (hk : k < l.length) :
    ∃ b off, A = some ⟨b, off, none⟩ ∧ ¬ M b ∧ b < w.heap.size ∧ w.cell? ⟨b, off + k, none⟩ = some (.int .u8 ((l.getD k 0).toNat : Int)) := by
  obtain ⟨b, off, rfl, hM, hb, hc⟩ := h.byte hk
  exact ⟨b, off, rfl, hM, hb, by rw [hc]; simp [hk]⟩

theorem recGo_step {l : List UInt8} {p k : Nat} {pre : List (Nat × List UInt8)} {r : List UInt8} (hrec : recs l = pre ++ recsGo l (l.length + 1 - k) p) (hk : 10 * k ≤ p) (hl : p + 10 ≤ l.length) (h : recAt l p = some r) :
    recs l = (pre ++ [(p, r)]) ++ recsGo l (l.length + 1 - (k + 1)) (p + 10 + r.length) := by
  rw [hrec, show l.length + 1 - k = (l.length + 1 - (k + 1)) + 1 by omega]
  simp [recsGo, h]

set_option maxHeartbeats 2000000 in
theorem refRecords_ok (M : Nat → Prop) (v : Value) (l : List UInt8) (w : World) (hM : ∀ b, M b → b < w.heap.size) (h : SlR byteC M w v l) (hn : l.length ≤ 400000) : Calls Try.prog 18 #[v] w fun e w' =>
    ∃ v', e = .returned (.tuple #[v', .int .i64 ((endOf (recs l) : Nat) : Int)]) ∧ SlR (sliceC byteC) M w' v' ((recs l).map (·.2)) ∧ Below w.heap.size w w' := by
  obtain ⟨A, c, rfl, hlc, hcm⟩ := h.form
  have hB := h.toMB
  clear h
  go_enter Try.func18, Try.ntmps18
  go_wp2
  go_loopw [4, 5] (fun o i wr => ∃ (pre : List (Nat × List UInt8)) (rs : List (List UInt8)) (p : Nat) (A' : Option Addr) (c' : Nat), i = .int .i64 (p : Int) ∧ o = .slice A' rs.length c' ∧ Hid (rs = pre.map (·.2)) ∧ Hid (p = endOf pre) ∧
      Own (sliceC byteC) M wr w.heap.size 22 (.slice A' rs.length c') rs ∧ Hid (recs l = pre ++ recsGo l (l.length + 1 - pre.length) p) ∧ 10 * pre.length ≤ p ∧ p ≤ l.length ∧ Below w.heap.size w wr) (fun _ i _ => l.length - (intOf i).toNat)
  case atStart => exact ⟨[], [], 0, none, 0, rfl, rfl, Lib.hid rfl, Lib.hid rfl, Own.nil _ _ _ _ _, Lib.hid rfl, by simp, by omega, Below.refl _ _⟩
  case round =>
    obtain ⟨pre, rs, p, A', c', rfl, rfl, hrs, hp, hown, hrec, hp1, hp2, hb⟩ := hrel
    have hw := hB.ext hb
    have hfin : Hid (∀ w', recAt l p = none → Below wr.heap.size wr w' → ∃ v', Ending.returned (.tuple #[.slice A' rs.length c', .int .i64 (p : Int)]) = .returned (.tuple #[v', .int .i64 ((endOf (recs l) : Nat) : Int)]) ∧ SlR (sliceC byteC) M w' v' ((recs l).map (·.2)) ∧ Below w.heap.size w w') := Lib.hid fun w' hnone hb' => by
      have hr : recs l = pre := by rw [hrec.out, recAt_none hnone, List.append_nil]
      rw [hr, ← hrs.out, ← hp.out]
      exact ⟨_, rfl, (hown.readB hM).ext hb', hb.trans (hb'.mono hb.size)⟩
    have hrl' : rs.length ≤ 40000 := by rw [hrs.out, List.length_map]; omega
    by_cases h10 : p + 10 ≤ l.length
    · obtain ⟨b, off, rfl, _, _, hc0⟩ := hw.byteD (show p < l.length by omega)
      obtain ⟨_, _, e1, _, _, hc1⟩ := hw.byteD (show p + 1 < l.length by omega)
      cases e1
      have hx := (l.getD p 0).toNat_lt
      have hy := (l.getD (p + 1) 0).toNat_lt
      obtain ⟨x, hx1⟩ : ∃ x, x = (l.getD p 0).toNat := ⟨_, rfl⟩
      obtain ⟨y, hy1⟩ : ∃ y, y = (l.getD (p + 1) 0).toNat := ⟨_, rfl⟩
      rw [← hx1] at hc0 hx
      rw [← hy1] at hc1 hy
      have Hx := Lib.hid hx1; have Hy := Lib.hid hy1; clear hx1 hy1
      by_cases hbad : 20000 < 256 * x + y ∨ l.length < p + 10 + (256 * x + y)
      · have hnone : recAt l p = none := by simp only [recAt, if_pos h10, ← Hx.out, ← Hy.out, if_pos hbad]
        have Hnone := Lib.hid hnone; clear hnone
        go_wp2
        go_quiet (fail)
        go_wp2
        all_goals first | (exfalso; omega) | skip
        all_goals
          go_ret2
          exact hfin.out _ Hnone.out (below_drewN' _ _ _)
      · have hcut := hw.cutN (lo := p + 2) (m := 256 * x + y) (by omega) (by omega)
        have hcut2 := hw.cutN (lo := p) (m := 10 + (256 * x + y)) (by omega) (by omega)
        obtain ⟨r, hr⟩ : ∃ r, r = (l.take (p + 2 + (256 * x + y))).drop (p + 2) := ⟨_, rfl⟩
        obtain ⟨q, hq⟩ : ∃ q, q = (l.take (p + (10 + (256 * x + y)))).drop p := ⟨_, rfl⟩
        rw [← hr] at hcut
        rw [← hq] at hcut2
        have hrl : r.length = 256 * x + y := by rw [hr, List.length_drop, List.length_take]; omega
        obtain ⟨t, ht⟩ : ∃ t, (storedF r == q) = t := ⟨_, rfl⟩
        have hat : recAt l p = if t then some r else none := by
          simp only [recAt, if_pos h10, ← Hx.out, ← Hy.out, if_neg hbad, ← hr, ← ht, hq]
          rw [show p + 10 + (256 * x + y) = p + (10 + (256 * x + y)) by omega]
        have Hr := Lib.hid hr; have Hq := Lib.hid hq; have Hrl := Lib.hid hrl; have Hat := Lib.hid hat; have Ht := Lib.hid ht; clear hr hq hrl hat ht
        go_wp2
        go_quiet (fail)
        go_wp2
        all_goals first | (exfalso; omega) | skip
        have hi1 : (p : Int) + 10 + (256 * (x : Int) + (y : Int)) ≤ (c : Int) := by omega
        have hi2 : (p : Int) ≤ (p : Int) + 10 + (256 * (x : Int) + (y : Int)) := by omega
        have hq1 : IntKind.i64.wrap ((p : Int) + 10) = (p : Int) + 10 := IntWalk.i64_in _ (by omega)
        have hq2 : IntKind.i64.wrap ((p : Int) + 10 + (256 * (x : Int) + (y : Int))) = (p : Int) + 10 + (256 * (x : Int) + (y : Int)) := IntWalk.i64_in _ (by omega)
        have hq3 : ((p : Int) + 10 + (256 * (x : Int) + (y : Int))).toNat = p + (10 + (256 * x + y)) := by omega
        have hq4 : (0 : Int) ≤ (p : Int) := by omega
        go_region_held3 (fun _ => True) (trivial) (first
          | (go_at_call 22; refine (framed_ok M0 _ r _ (fun _ h => h.elim) (hcut.zero.drewN (nq + 1)) ?_).mono ?_; (rw [Hrl.out]; omega); rintro e w2 ⟨v2, rfl, hown2, hb2⟩)
          | (go_at_call 20; refine (same_ok M0 _ _ (storedF r) q _ hown2.read0 ((hcut2.zero.drewN (nq + 1)).ext hb2)).mono ?_; rintro e w3 ⟨he, rfl⟩; rw [Ht.out] at he; subst he))
        clear hq1 hq2 hq3
        have hb3 : Below wr.heap.size wr w2 := (below_drewN' _ _ (nq + 1)).trans hb2
        cases t with
        | true =>
          have Hsome : Hid (recAt l p = some r) := Hat
          have hown3 := hown.ext hb3
          have hrd : (sliceC byteC).rd (fun b => M b ∨ (Value.slice A' rs.length c').ownBlock = some b) w2 [.slice (some ⟨b, off + (p + 2), none⟩) (256 * x + y) (c - (p + 2))] r :=
            ⟨_, rfl, (hcut.sub fun b' _ hor => hor.imp id fun h' => hown.base b' h').ext hb3⟩
          have hsz := hb3.size
          go_wp2_with (at_builtin; refine wpList_push_Own (sliceC byteC) (M := M) (B := w.heap.size) TBytess rfl (.tmp 56) (.tmp 58) rfl rfl hown3 rfl hrd ?c1 ?c2 ?c3 (Nat.le_trans hb.size hsz) ?_)
          case c1 => intro b' hb'; have := hM b' hb'; have := hb.size; omega
          case c2 => simp [maxLen]; omega
          case c3 => omega
          intro A2 c2 L2 w4 hL2 hown4 hbl4 _ _
          have hstep : Hid (recs l = (pre ++ [(p, r)]) ++ recsGo l (l.length + 1 - (pre.length + 1)) (p + 10 + r.length)) := Lib.hid (recGo_step hrec.out hp1 h10 Hsome.out)
          go_wp2
          go_roundw
          case rel => exact ⟨pre ++ [(p, r)], L2, p + 10 + (256 * x + y), A2, c2, by go_num, rfl, Lib.hid (by rw [hL2.out, hrs.out]; simp), Lib.hid (by rw [endOf_snoc, ← hp.out, Hrl.out]), hown4, Lib.hid (by rw [hstep.out, Hrl.out]; simp), by simp; omega, by omega, hb.trans ((hb3.mono hb.size).trans hbl4)⟩
          case measure => simp [intOf]; omega
        | false =>
          have Hnone : Hid (recAt l p = none) := Hat
          go_wp2
          go_ret2
          exact hfin.out _ Hnone.out hb3
    · have hnone : recAt l p = none := by simp only [recAt, if_neg h10]
      have Hnone := Lib.hid hnone; clear hnone
      go_wp2
      go_ret2
      exact hfin.out _ Hnone.out (Below.refl _ _)
end Go.Proofs.Ytopldghfphgjoaa
