/-
  Contracts and plain facts, one after another: Package records: slices.Grow and slices.Concat on bytes, and size; Package records: Repair, Append and Read.
-/
import Derived.Test.YtjamjkjmlckgeaaGreatDoorF17
import Derived.RangeFuncCalls
import Derived.Shelf.RegionOpen
namespace Go.Proofs.YtjamjkjmlckgeaaGreatDoor
open Go.RowKit

theorem zeros_run (w : World) (n : Nat) (h0 : 0 < n) (hn : n ≤ 1000000000) (ty : TypeId) : ∃ (cap : Nat) (cells : Array Value), n ≤ cap ∧ cap ≤ maxLen ∧ cells.size = cap ∧
    (Builtin.append_ #[29, 3] ty #[.slice none 0 0, .int .i64 n]).run Tryz.prog w = .ok (.slice (some ⟨w.heap.size, 0, none⟩) n cap) ((w.drewN 1).alloc (.cells cells 5)) := by
  obtain ⟨i, z, hi, hz, h1, h2, h3⟩ := (TBytes).hi
  have h1' : i.size = 1 := h1
  have h3' : z.cells.size = 1 := h3
  have hge := grownCap_ge w n 0 5
  refine ⟨_, _, hge, grownCap_le_maxLen _ _ _ _ (by simp [maxLen]; omega), ?_, Lib.run_append_nil_zeros w 29 3 ty 5 i z .i64 .i64 Tryz.underlying29 Tryz.underlying3 hi hz n h0 (by omega) (by omega) (by rw [h2]; omega)⟩
  simp [size_zeroCells, h3']
  omega
theorem grow_nil_ok (M : Nat → Prop) (n : Nat) (w : World) (hn : n ≤ 1000000000) : Calls Tryz.prog 83 #[.slice none 0 0, .int .i64 n] w fun e w' =>
    ∃ v', e = .returned v' ∧ Own byteC M w' w.heap.size 5 v' [] ∧ Below w.heap.size w w' := by
  by_cases h0 : n = 0
  · subst h0
    go_enter Tryz.func83, Tryz.ntmps83
    go_wp2
    go_ret
    exact ⟨_, rfl, Own.nil _ _ _ _ _, Below.refl _ _⟩
  · have hpos : 0 < n := by omega
    obtain ⟨cap, cells, hc1, hc2, hc3, hrun⟩ := zeros_run w n hpos hn 29
    have Hrun := Lib.hid hrun
    have Hc3 := Lib.hid hc3
    have Hc2 := Lib.hid hc2
    clear hrun hc3 hc2 hc1
    have hnn : ((n : Int) < 0) = False := by simp
    have hpp : ((0 : Int) < (n : Int)) = True := by simp; omega
    go_enter Tryz.func83, Tryz.ntmps83
    go_wp2_with (at_builtin; refine Lib.wpList_append_run w rfl _ _ _ _ rfl _ _ rfl rfl _ _ Hrun.out ?_)
    go_wp2
    go_ret
    refine ⟨_, rfl, ?_, ((Below.refl _ _).trans (below_drewN' _ _ 1)).alloc (Nat.le_refl _) _⟩
    refine ⟨[], ⟨rfl, .inr ⟨w.heap.size, _, _, rfl, Nat.le_refl _, heap_alloc_new _ _, Nat.zero_le _, Hc2.out, ?_, by simp⟩⟩, Els.nil _ _ _⟩
    rw [Hc3.out]; simp [byteC]

theorem SlR.len1 {α : Type} {C : Codec α} {M : Nat → Prop} {w : World} {l : List (List α)} {v : Value} (h : SlR (sliceC C) M w v l) {k : Nat} (hk : k < l.length) : l[k].length ≤ maxLen := by
  obtain ⟨A, c, rfl, _⟩ := h.form
  obtain ⟨_, _, _, _, _, _, _, hs⟩ := h.slice1 hk
  exact hs.len_le

theorem flat_len_take (ls : List (List UInt8)) (k : Nat) : (ls.take k).flatten.length ≤ ls.flatten.length := by
  conv => rhs; rw [← List.take_append_drop k ls, List.flatten_append, List.length_append]
  omega
theorem flat_take_succ (ls : List (List UInt8)) (k : Nat) (h : k < ls.length) : (ls.take (k + 1)).flatten = (ls.take k).flatten ++ ls[k] := by
  rw [take_snoc_get ls k h, List.flatten_append]; simp

set_option maxHeartbeats 2000000 in
theorem concat_ok (M : Nat → Prop) (v : Value) (ls : List (List UInt8)) (w : World) (_hM : ∀ b, M b → b < w.heap.size) (h : SlR (sliceC byteC) M w v ls) (hn : ls.length ≤ 1000000) (hn2 : ls.flatten.length ≤ 1000000000) :
    Calls Tryz.prog 49 #[v] w fun e w' => ∃ v', e = .returned v' ∧ Own byteC M w' w.heap.size 5 v' ls.flatten ∧ Below w.heap.size w w' := by
  obtain ⟨A, c, rfl, _, _⟩ := h.form
  go_enter Tryz.func49, Tryz.ntmps49
  go_wp2
  go_loopw [3, 11] (fun s i wr => ∃ (k p : Nat), k ≤ ls.length ∧ i = .int .i64 k ∧ s = .int .i64 p ∧ Hid (p = (ls.take k).flatten.length) ∧ p ≤ 1000000000 ∧ Hid (w = wr)) (fun _ i _ => ls.length - (intOf i).toNat)
  case atStart => exact ⟨0, 0, Nat.zero_le _, rfl, rfl, Lib.hid rfl, by omega, Lib.hid rfl⟩
  case round =>
    obtain ⟨k, p, hk, rfl, rfl, hp, hp1, hwr⟩ := hrel
    obtain rfl := hwr.out
    by_cases hlt : k < ls.length
    · obtain ⟨b, off, A2, c2, rfl, _, hcell, hs⟩ := h.slice1 hlt
      obtain ⟨x, hx⟩ : ∃ x, x = (ls[k]).length := ⟨_, rfl⟩
      have hx2 : p + x ≤ 1000000000 := by
        have h1 := flat_len_take ls (k + 1)
        rw [flat_take_succ ls k hlt, List.length_append, ← hp.out, ← hx] at h1
        omega
      rw [← hx] at hcell
      have Hx := Lib.hid hx
      clear hx hs
      go_wp2
      go_roundw
      case rel => exact ⟨k + 1, p + x, by omega, by go_num, by go_num, Lib.hid (by rw [flat_take_succ ls k hlt, List.length_append, ← hp.out, ← Hx.out]), by omega, trivial⟩
      case measure => simp [intOf]; omega
    · have hk' : k = ls.length := by omega
      have hp' : Hid (p = ls.flatten.length) := Lib.hid (by rw [hp.out, hk', List.take_length])
      have hB := h.toMB
      go_wp2_with (go_at_call 83; refine (grow_nil_ok M p _ hp1).mono ?_; rintro e w1 ⟨v1, rfl, hown1, hb1⟩)
      go_loopw [6, 27] (fun o i wr => ∃ (k : Nat) (A' : Option Addr) (c' : Nat) (L : List UInt8), k ≤ ls.length ∧ i = .int .i64 k ∧ o = .slice A' L.length c' ∧ Hid (L = (ls.take k).flatten) ∧ Own byteC M wr w.heap.size 5 (.slice A' L.length c') L ∧ Below w.heap.size w wr) (fun _ i _ => ls.length - (intOf i).toNat)
      case atStart =>
        obtain ⟨A', c', rfl, _⟩ := hown1.shape
        exact ⟨0, A', c', [], Nat.zero_le _, rfl, rfl, Lib.hid (by simp), hown1, hb1⟩
      case round =>
        obtain ⟨j, A', c', L, hj, rfl, rfl, hL, hown, hbl⟩ := hrel
        by_cases hlt2 : j < ls.length
        · obtain ⟨b, off, A2, c2, rfl, _, hcell, hs⟩ := (hB.ext hbl).slice1 hlt2
          have hrd : SlR byteC (fun b => M b ∨ (Value.slice A' L.length c').ownBlock = some b) _ (.slice A2 (ls[j]).length c2) ls[j] := hs.sub fun b' _ hor => hor.imp id fun h' => hown.base b' h'
          have hlen : L.length + (ls[j]).length ≤ 1000000000 := by
            have h1 := flat_len_take ls (j + 1)
            rw [flat_take_succ ls j hlt2, List.length_append, ← hL.out] at h1
            omega
          have hsz := hbl.size
          go_wp2_with (at_builtin; refine wpList_append_Own byteC (M := M) (B := w.heap.size) (l := L) (l' := ls[j]) TBytes rfl (.tmp 31) (.tmp 32) rfl rfl hown rfl hrd ?c1 ?c2 hsz ?_)
          case c1 => simp [maxLen]; omega
          case c2 => omega
          intro A3 c3 L3 w3 hL3 hown3 hbl3 _ _
          go_wp2
          go_roundw
          case rel => exact ⟨j + 1, A3, c3, L3, by omega, by go_num, rfl, Lib.hid (by rw [hL3.out, hL.out, flat_take_succ ls j hlt2]), hown3, hbl.trans hbl3⟩
          case measure => simp [intOf]; omega
        · have hj' : j = ls.length := by omega
          go_wp2
          go_ret
          have hLe : L = ls.flatten := by rw [hL.out, hj', List.take_length]
          exact ⟨_, rfl, hLe ▸ hown, hbl⟩

theorem recsGo_start (l : List UInt8) : ∀ (f p k : Nat) (h : k < (recsGo l f p).length), (recsGo l f p)[k].1 = p + endOf ((recsGo l f p).take k)
  | 0, p, k, h => by simp [recsGo] at h
  | f + 1, p, k, h => by
    cases hr : recAt l p with
    | none => simp [recsGo, hr] at h
    | some r =>
      have e : recsGo l (f + 1) p = (p, r) :: recsGo l f (p + 10 + r.length) := by simp [recsGo, hr]
      cases k with
      | zero => simp [e, endOf]
      | succ k =>
        have h' : k < (recsGo l f (p + 10 + r.length)).length := by rw [e] at h; simpa using h
        have ih := recsGo_start l f (p + 10 + r.length) k h'
        simp only [e, List.getElem_cons_succ, List.take_succ_cons, ih]
        simp [endOf]; omega
theorem endOf_take_succ (l : List UInt8) (k : Nat) (h : k < (recs l).length) : ((endOf ((recs l).take (k + 1)) : Nat) : Int) = ((recs l)[k].1 : Int) + 10 + ((recs l)[k].2.length : Int) := by
  have h1 := recsGo_start l (l.length + 1) 0 k h
  have h2 : (recs l).take (k + 1) = (recs l).take k ++ [((recs l)[k].1, (recs l)[k].2)] := take_snoc_get _ k h
  rw [h2, endOf_snoc]
  have h3 : (recs l)[k].1 = endOf ((recs l).take k) := by rw [show (recs l)[k].1 = (recsGo l (l.length + 1) 0)[k].1 from rfl, h1]; simp [recs]
  omega
theorem Chg.set {S : Nat → Prop} {w : World} (p : Addr) (v : Value) (hS : ∀ b, S b → b < w.heap.size) (hp : S p.block) : Chg S S w (w.setCell p v) :=
  ⟨rfl, rfl, rfl, by simp, fun b _ hn => Below.heap_setCell w p v b fun e => hn (e ▸ hp), fun b hb => ⟨by simpa using hS b hb, .inl hb⟩⟩
theorem Chg.drewN {S : Nat → Prop} {w w' : World} (h : Chg S S w w') (n : Nat) : Chg S S w (w'.drewN n) := ⟨h.os, h.tape, h.output, h.size, h.same, h.own⟩

set_option maxHeartbeats 1000000 in
theorem size_ok (v : Value) (l : List UInt8) (w : World) (h : SlR byteC M0 w v l) (hn : l.length ≤ 400000) :
    Calls Tryz.prog 48 #[v] w fun e w' => e = .returned (.int .i64 ((endOf (recs l) : Nat) : Int)) ∧ Below w.heap.size w w' := by
  obtain ⟨A, c, rfl, _, _⟩ := h.form
  refine calls_of_wp_marks Tryz.func48 rfl ?_
  simp only [Tryz.ntmps48, List.size_toArray, List.length_cons, List.length_nil, Nat.reduceAdd, Nat.reduceSub, Array.replicate_succ, Array.replicate_zero, List.push_toArray, List.append_toArray, List.nil_append, List.cons_append]
  go_wp2_with (go_at_call 51; refine (all_ok _ _ A l.length c rfl).mono ?_; rintro e w1 ⟨rfl, hw1⟩)
  rw [← hw1]
  have hb1 : Below w.heap.size w w1 := hw1 ▸ ((Below.refl _ _).alloc (Nat.le_refl _) _).alloc (by simp) _
  have hs1 : w1.heap.size = w.heap.size + 2 := by rw [hw1]; simp
  have hk1 : Blk w1 w.heap.size 3 #[.int .i64 0] := hw1 ▸ (Blk.new w _ _).alloc _
  have hk2 : Blk w1 (w.heap.size + 1) 29 #[.slice A l.length c] := hw1 ▸ (by have := Blk.new (w.alloc (.cells #[.int .i64 0] 3)) 29 #[.slice A l.length c]; simpa using this)
  have hB := h.toMB
  clear hw1
  refine wp_rangeFunc_iter (all_iter (w.heap.size + 1) A c l hn) rfl (enters_of Tryz.func85 (by kernel_rfl) rfl) (fun _ => rfl)
    (fun k S W => (∀ b, S b ↔ b = w.heap.size) ∧ Blk W w.heap.size 3 #[.int .i64 (endOf ((recs l).take k))] ∧ Below w.heap.size w W) (fun _ _ _ _ => False) (fun b => b = w.heap.size) ?_ ?_ ?_ (fun _ _ _ _ _ h _ => h)
    ⟨fun _ => Iff.rfl, by simpa [endOf] using hk1, hb1⟩
    (fun x => { tmps := #[.slice A l.length c, undef, .int .i64 0, .pointer (some ⟨w.heap.size, 0, none⟩), undef, .int .i64 ((x.1 : Int) + 10 + (x.2.length : Int)), .slice A l.length c, .func (.func 85) #[] #[.pointer (some ⟨w.heap.size + 1, 0, none⟩)],
      .slice (A.map fun a => ⟨a.block, a.off + (x.1 + 2), none⟩) x.2.length (c - (x.1 + 2)), .int .i64 ((x.1 : Int) + 10 + (x.2.length : Int)), undef, undef], defers := [] }) ?_ ?_ ?_ ?_
  · rintro b rfl; omega
  · intro S' W hS' hbW
    refine ⟨hk2.ext hbW, fun hb => by rcases hS' _ hb with h | h <;> omega, ?_⟩
    refine (hB.ext (hb1.trans (hbW.mono hb1.size))).sub fun b _ hb => .inr ?_
    rcases hS' b hb with h | h <;> omega
  · rintro k S W W' ⟨h1, h2, h3⟩ hkept
    exact ⟨h1, h2.keep (hkept.same _ h2.lt (.inr ((h1 _).2 rfl))), hkept.below (by omega) h3 h3.size⟩
  · intro l' x W K hK
    simp only [recEnc]
    gi_wp2_with (rw [Oper.semAt_eq _ _ _ (fun c h => by cases h)]; go_simp)
    exact hK
  · rintro l' k hk S W ⟨h1, h2, h3⟩ hlt hsz
    obtain ⟨hc, hz, hb⟩ := h2.one
    gi_wp2_with (rw [Oper.semAt_eq _ _ _ (fun c h => by cases h)]; go_simp)
    have he := endOf_take_succ l k hk
    exact ⟨S, Chg.set _ _ hlt ((h1 _).2 rfl), h1, by have := h2.set_ 0 (.int .i64 (((recs l)[k].1 : Int) + 10 + ((recs l)[k].2.length : Int))); rw [he]; simpa using this, h3.setCell (Nat.le_refl _) _⟩
  · rintro D S W hD hSD ⟨h1, h2, h3⟩ hWD
    obtain ⟨hc, hz, hb⟩ := h2.one
    go_wp2
    exact bodyPostM_one hWD (results_tmp rfl _ _ _) ⟨rfl, h3.os, h3.tape, h3.output, by simpa using h3.size, fun k hk => (World.putObj_heap_other (by omega)).trans (h3.block k hk)⟩
  · rintro D c' k S W _ _ h
    exact h.elim
end Go.Proofs.YtjamjkjmlckgeaaGreatDoor
namespace Go.Proofs.YtjamjkjmlckgeaaGreatDoor
open Go.RowKit


theorem recsGo_end (l : List UInt8) : ∀ (f p : Nat), p ≤ l.length → p + endOf (recsGo l f p) ≤ l.length
  | 0, p, h => by simpa [recsGo, endOf] using h
  | f + 1, p, h => by
    cases hr : recAt l p with
    | none => simpa [recsGo, hr, endOf] using h
    | some r =>
      have h1 := recAt_len hr
      have ih := recsGo_end l f (p + 10 + r.length) h1.1
      have e : recsGo l (f + 1) p = (p, r) :: recsGo l f (p + 10 + r.length) := by simp [recsGo, hr]
      rw [e]
      simp [endOf] at ih ⊢
      omega
theorem endOf_recs_le (l : List UInt8) : endOf (recs l) ≤ l.length := by
  have := recsGo_end l (l.length + 1) 0 (Nat.zero_le _)
  simpa [recs] using this
theorem SlR.pre {M : Nat → Prop} {w : World} {l : List UInt8} {A : Option Addr} {n c : Nat} (h : SlR byteC M w (.slice A n c) l) {z : Nat} (hz : z ≤ l.length) : SlR byteC M w (.slice A z c) (l.take z) := by
  obtain ⟨A', n', c', xs, hv, rfl, hc, hm, he, ha⟩ := h
  injection hv with e1 e2 e3
  subst e1 e2 e3
  have hlen : (l.take z).length = z := by simp [Nat.min_eq_left hz]
  refine ⟨A, z, c, xs.take z, rfl, hlen.symm, by omega, hm, ?_, ?_⟩
  · have := he.take z
    simpa [byteC] using this
  · intro h0
    obtain ⟨b, off, hA, hM, hb, hcell⟩ := ha (by omega)
    refine ⟨b, off, hA, hM, hb, fun j u hu => hcell j u ?_⟩
    rw [List.getElem?_take] at hu
    split at hu
    · exact hu
    · cases hu

theorem Own.weak {α : Type} {C : Codec α} {M M' : Nat → Prop} {w : World} {B B' : Nat} {e : TypeId} {v : Value} {l : List α} (h : Own C M w B e v l) (hB : B' ≤ B) (hM : ∀ b, M' b → M b) : Own C M' w B' e v l := by
  obtain ⟨xs, ho, he⟩ := h
  refine ⟨xs, ⟨ho.1, ?_⟩, he.sub fun b _ hb => hb.imp (hM b) id⟩
  rcases ho.2 with hn | ⟨g, cap, cur, rfl, hb, rest⟩
  · exact .inl hn
  · exact .inr ⟨g, cap, cur, rfl, Nat.le_trans hB hb, rest⟩
theorem Own.set {α : Type} {C : Codec α} {M : Nat → Prop} {w : World} {B : Nat} {e : TypeId} {v : Value} {l : List α} (h : Own C M w B e v l) (hMB : ∀ b, M b → b < B) (p : Addr) (u : Value) (hp : M p.block) : Own C M (w.setCell p u) B e v l :=
  h.keep (fun b _ hor => Below.heap_setCell w p u b fun e => hor.elim (fun hn => hn (e ▸ hp)) fun ho => by have h1 := h.base b ho; have h2 := hMB _ hp; omega) (by simp) (fun b ho hm => by have h1 := h.base b ho; have h2 := hMB _ hm; omega)
def One (g : Nat) : Nat → Prop := fun b => b = g
theorem SlR.toOne {α : Type} {C : Codec α} {M : Nat → Prop} {w : World} {v : Value} {l : List α} (h : SlR C M w v l) {g : Nat} (hg : w.heap.size ≤ g) : SlR C (One g) w v l := h.toMB.sub fun b _ hb => .inr (by rw [hb]; exact hg)

/-- What Repair answers. -/
def repairF (l : List UInt8) : List UInt8 × Int × Int := if 400000 < l.length then ([], 1, -1) else (l.take (endOf (recs l)), 0, 0)

/-- What Append answers. -/
def appendF (l r : List UInt8) : List UInt8 × Int × Int :=
  if 400000 < l.length then ([], 1, -1) else if endOf (recs l) < l.length then ([], 16, -2) else if 20000 < r.length then ([], 1, -3) else
  if 400000 < l.length + r.length + 10 then ([], 13, -1) else (l ++ storedF r, 0, 0)

theorem two_slices {M : Nat → Prop} {w : World} {u v : Value} {l r : List UInt8} (e : TypeId) (h : SlR byteC M w u l) (h' : SlR byteC M w v r) (hM : ∀ b, M b → b < w.heap.size) :
    SlR (sliceC byteC) M (w.alloc (.cells #[u, v] e)) (.slice (some ⟨w.heap.size, 0, none⟩) 2 2) [l, r] :=
  (Own.built (M := M) (C := sliceC byteC) (cs := [u, v]) (l := [l, r]) (B := w.heap.size) e ((Els.single (C := sliceC byteC) ⟨u, rfl, h⟩).append (Els.single ⟨v, rfl, h'⟩)) (Nat.le_refl _) (by simp [maxLen])).readB hM
set_option maxHeartbeats 2000000 in
theorem append_ok (v v' : Value) (l r : List UInt8) (w : World) (h : SlR byteC M0 w v l) (hr : SlR byteC M0 w v' r) :
    Calls Tryz.prog 23 #[v, v'] w fun e w' => ∃ u, e = .returned (.tuple #[u, .agg #[.int .i64 (appendF l r).2.1, .int .i64 (appendF l r).2.2]]) ∧ Own byteC M0 w' w.heap.size 5 u (appendF l r).1 ∧ Below w.heap.size w w' := by
  obtain ⟨A, c, rfl, hlc, _⟩ := h.form
  obtain ⟨A', c', rfl, hlc', _⟩ := hr.form
  by_cases hl : 400000 < l.length
  · simp only [appendF, if_pos hl]
    go_enter Tryz.func23, Tryz.ntmps23
    go_wp2_with (first
      | (go_at_call 47; refine (valid_ok M0 _ l _ (h.ext ((Below.refl _ _).alloc (Nat.le_refl _) _))).mono ?_; rintro e w1 ⟨he, hb1⟩; rw [if_pos hl, if_pos hl] at he; subst he; have k1 := (Blk.new w 31 #[.int .i64 0, .int .i64 0]).ext hb1)
      | (go_at_call 21; refine (failed_ok _ _ _).mono ?_; rintro e w2 ⟨rfl, hb2⟩; have k2 := (k1.alloc _).ext hb2; have k3 := (Blk.new w1 31 #[.int .i64 1, .int .i64 (-1)]).ext hb2; obtain ⟨c0, c1, z0, z1, s1⟩ := k2.two; obtain ⟨d0, d1, y0, y1, s2⟩ := k3.two))
    go_region
    all_goals go_wp2
    all_goals
      obtain ⟨e0, e1⟩ := k2.put2 (.int .i64 1) (.int .i64 (-1))
      refine bodyPost_ret (v := .tuple #[.slice none 0 0, .agg #[.int .i64 1, .int .i64 (-1)]]) (by simp [results, Tryz.results23, go_sem, e0, e1]) rfl ⟨_, rfl, Own.nil _ _ _ _ _, ?_⟩
      have hbw : Below w.heap.size w w2 := (below_alloc hb1).trans ((below_alloc hb2).mono (below_alloc hb1).size)
      exact below_drew ((hbw.setCell (p := ⟨w.heap.size, 0, none⟩) (Nat.le_refl _) _).setCell (p := ⟨w.heap.size, 1, none⟩) (Nat.le_refl _) _)
  · obtain ⟨res, hres⟩ : ∃ res, res = appendF l r := ⟨_, rfl⟩
    simp only [appendF, if_neg hl] at hres
    rw [show appendF l r = res by rw [hres, appendF, if_neg hl]]
    have hn : l.length ≤ 400000 := by omega
    obtain ⟨z, hz⟩ : ∃ z, z = endOf (recs l) := ⟨_, rfl⟩
    have hzl : z ≤ l.length := hz ▸ endOf_recs_le l
    have Hz := Lib.hid hz
    rw [← hz] at hres
    clear hz
    have hlt : ∀ b, One w.heap.size b → b < w.heap.size + 1 := fun b hb => by rw [hb]; omega
    by_cases h1 : z < l.length
    · rw [if_pos h1] at hres
      subst hres
      have i1 : ((z : Int) < (l.length : Int)) = True := by simp; omega
      go_enter Tryz.func23, Tryz.ntmps23
      go_wp2_with (first
        | (go_at_call 47; refine (valid_ok M0 _ l _ (h.ext ((Below.refl _ _).alloc (Nat.le_refl _) _))).mono ?_; rintro e w1 ⟨he, hb1⟩; rw [if_neg hl, if_neg hl] at he; subst he; have k1 := (Blk.new w 31 #[.int .i64 0, .int .i64 0]).ext hb1; have hbw1 := below_alloc hb1)
        | (go_at_call 21; refine (failed_ok _ _ _).mono ?_; rintro e w2 ⟨rfl, hb2⟩; have k2 := (k1.alloc _).ext hb2; have hbw2 := below2 hbw1 (below_alloc hb2))
        | (go_at_call 48; refine (size_ok _ l _ (h.ext hbw2) hn).mono ?_; rintro e w3 ⟨he, hb3⟩; rw [← Hz.out] at he; subst he; have k4 := k2.ext hb3; have hbw3 := below2 hbw2 hb3)
        | (go_at_call 27; refine (fault_ok _ _ _).mono ?_; rintro e w4 ⟨rfl, hb4⟩; have k5 := k4.ext hb4; have hbw4 := below2 hbw3 hb4; obtain ⟨c0, c1, z0, z1, s1⟩ := k5.two; obtain ⟨e0, e1⟩ := k5.put2 (.int .i64 16) (.int .i64 (-2))))
      refine bodyPost_ret (v := .tuple #[.slice none 0 0, .agg #[.int .i64 16, .int .i64 (-2)]]) (by simp [results, Tryz.results23, go_sem, e0, e1]) rfl ⟨_, rfl, Own.nil _ _ _ _ _, ?_⟩
      exact (hbw4.setCell (p := ⟨w.heap.size, 0, none⟩) (Nat.le_refl _) _).setCell (p := ⟨w.heap.size, 1, none⟩) (Nat.le_refl _) _
    · rw [if_neg h1] at hres
      have i1 : ((z : Int) < (l.length : Int)) = False := by simp; omega
      by_cases h2 : 20000 < r.length
      · rw [if_pos h2] at hres
        subst hres
        have i2 : ((20000 : Int) < (r.length : Int)) = True := by simp; omega
        go_enter Tryz.func23, Tryz.ntmps23
        go_wp2_with (first
          | (go_at_call 47; refine (valid_ok M0 _ l _ (h.ext ((Below.refl _ _).alloc (Nat.le_refl _) _))).mono ?_; rintro e w1 ⟨he, hb1⟩; rw [if_neg hl, if_neg hl] at he; subst he; have k1 := (Blk.new w 31 #[.int .i64 0, .int .i64 0]).ext hb1; have hbw1 := below_alloc hb1)
          | (go_at_call 21; refine (failed_ok _ _ _).mono ?_; rintro e w2 ⟨rfl, hb2⟩; have k2 := (k1.alloc _).ext hb2; have hbw2 := below2 hbw1 (below_alloc hb2))
          | (go_at_call 48; refine (size_ok _ l _ (h.ext hbw2) hn).mono ?_; rintro e w3 ⟨he, hb3⟩; rw [← Hz.out] at he; subst he; have k4 := k2.ext hb3; have hbw3 := below2 hbw2 hb3)
          | (go_at_call 27; refine (fault_ok _ _ _).mono ?_; rintro e w4 ⟨rfl, hb4⟩; have k5 := k4.ext hb4; have hbw4 := below2 hbw3 hb4; obtain ⟨c0, c1, z0, z1, s1⟩ := k5.two; obtain ⟨e0, e1⟩ := k5.put2 (.int .i64 1) (.int .i64 (-3))))
        refine bodyPost_ret (v := .tuple #[.slice none 0 0, .agg #[.int .i64 1, .int .i64 (-3)]]) (by simp [results, Tryz.results23, go_sem, e0, e1]) rfl ⟨_, rfl, Own.nil _ _ _ _ _, ?_⟩
        exact (hbw4.setCell (p := ⟨w.heap.size, 0, none⟩) (Nat.le_refl _) _).setCell (p := ⟨w.heap.size, 1, none⟩) (Nat.le_refl _) _
      · rw [if_neg h2] at hres
        have i2 : ((20000 : Int) < (r.length : Int)) = False := by simp; omega
        by_cases h3 : 400000 < l.length + r.length + 10
        · rw [if_pos h3] at hres
          subst hres
          have i3 : ((400000 : Int) < (l.length : Int) + 2 + (r.length : Int) + 8) = True := by simp; omega
          go_enter Tryz.func23, Tryz.ntmps23
          go_wp2_with (first
            | (go_at_call 47; refine (valid_ok M0 _ l _ (h.ext ((Below.refl _ _).alloc (Nat.le_refl _) _))).mono ?_; rintro e w1 ⟨he, hb1⟩; rw [if_neg hl, if_neg hl] at he; subst he; have k1 := (Blk.new w 31 #[.int .i64 0, .int .i64 0]).ext hb1; have hbw1 := below_alloc hb1)
            | (go_at_call 21; refine (failed_ok _ _ _).mono ?_; rintro e w2 ⟨rfl, hb2⟩; have k2 := (k1.alloc _).ext hb2; have hbw2 := below2 hbw1 (below_alloc hb2))
            | (go_at_call 48; refine (size_ok _ l _ (h.ext hbw2) hn).mono ?_; rintro e w3 ⟨he, hb3⟩; rw [← Hz.out] at he; subst he; have k4 := k2.ext hb3; have hbw3 := below2 hbw2 hb3)
            | (go_at_call 27; refine (fault_ok _ _ _).mono ?_; rintro e w4 ⟨rfl, hb4⟩; have k5 := k4.ext hb4; have hbw4 := below2 hbw3 hb4; obtain ⟨c0, c1, z0, z1, s1⟩ := k5.two; obtain ⟨e0, e1⟩ := k5.put2 (.int .i64 13) (.int .i64 (-1))))
          refine bodyPost_ret (v := .tuple #[.slice none 0 0, .agg #[.int .i64 13, .int .i64 (-1)]]) (by simp [results, Tryz.results23, go_sem, e0, e1]) rfl ⟨_, rfl, Own.nil _ _ _ _ _, ?_⟩
          exact (hbw4.setCell (p := ⟨w.heap.size, 0, none⟩) (Nat.le_refl _) _).setCell (p := ⟨w.heap.size, 1, none⟩) (Nat.le_refl _) _
        · rw [if_neg h3] at hres
          subst hres
          have i3 : ((400000 : Int) < (l.length : Int) + 2 + (r.length : Int) + 8) = False := by simp; omega
          go_enter Tryz.func23, Tryz.ntmps23
          go_wp2_with (first
            | (go_at_call 47; refine (valid_ok M0 _ l _ (h.ext ((Below.refl _ _).alloc (Nat.le_refl _) _))).mono ?_; rintro e w1 ⟨he, hb1⟩; rw [if_neg hl, if_neg hl] at he; subst he; have k1 := (Blk.new w 31 #[.int .i64 0, .int .i64 0]).ext hb1; have hbw1 := below_alloc hb1)
            | (go_at_call 21; refine (failed_ok _ _ _).mono ?_; rintro e w2 ⟨rfl, hb2⟩; have k2 := (k1.alloc _).ext hb2; have hbw2 := below2 hbw1 (below_alloc hb2))
            | (go_at_call 48; refine (size_ok _ l _ (h.ext hbw2) hn).mono ?_; rintro e w3 ⟨he, hb3⟩; rw [← Hz.out] at he; subst he; have k4 := k2.ext hb3; have hbw3 := below2 hbw2 hb3)
            | (go_at_call 50; refine (stored_ok (One w.heap.size) _ r _ (fun b hb => by rw [hb]; exact k4.lt) ((hr.toOne (Nat.le_refl _)).ext hbw3) (by omega)).mono ?_; rintro e w4 ⟨v4, rfl, hown4, hb4⟩; obtain ⟨A4, c4, rfl, _, _⟩ := hown4.shape; have k5 := k4.ext hb4; have hbw4 := below2 hbw3 hb4)
            | (go_at_call 49; refine (concat_ok (One w.heap.size) _ [l, storedF r] _ (fun b hb => by have := k5.lt; rw [hb]; simp; omega) (two_slices _ ((h.toOne (Nat.le_refl _)).ext hbw4) (hown4.readB (fun b hb => by have := k4.lt; rw [hb]; omega)) (fun b hb => by rw [hb]; exact k5.lt)) (by simp) (by simp [storedF_len]; omega)).mono ?_; rintro e w5 ⟨v5, rfl, hown5, hb5⟩; have k6 := (k5.alloc _).ext hb5; have hbw5 := below2 hbw4 (below_alloc hb5))
            | (go_at_call 24; refine (none_ok _).mono ?_; rintro e w6 ⟨rfl, hb6⟩; have k7 := k6.ext hb6; have hbw6 := below2 hbw5 hb6; obtain ⟨c0, c1, z0, z1, s1⟩ := k7.two; obtain ⟨e0, e1⟩ := k7.put2 (.int .i64 0) (.int .i64 0)))
          have hown6 := (hown5.ext hb6).weak (B' := w.heap.size + 1) (M' := One w.heap.size) (by have := k5.lt; simp; omega) (fun _ h => h)
          have hown7 := (((hown6.set hlt ⟨w.heap.size, 0, none⟩ (.int .i64 0) rfl).set hlt ⟨w.heap.size, 1, none⟩ (.int .i64 0) rfl).weak (B' := w.heap.size) (M' := M0) (by omega) (fun _ h => h.elim))
          refine bodyPost_ret (v := .tuple #[v5, .agg #[.int .i64 0, .int .i64 0]]) (by simp [results, Tryz.results23, go_sem, e0, e1]) rfl ⟨_, rfl, by simpa using hown7, ?_⟩
          exact (hbw6.setCell (p := ⟨w.heap.size, 0, none⟩) (Nat.le_refl _) _).setCell (p := ⟨w.heap.size, 1, none⟩) (Nat.le_refl _) _
end Go.Proofs.YtjamjkjmlckgeaaGreatDoor
