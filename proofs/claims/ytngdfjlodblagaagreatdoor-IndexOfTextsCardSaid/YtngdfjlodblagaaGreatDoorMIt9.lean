/-
  Contracts and plain facts, one after another: slices.IndexFunc and slices.DeleteFunc on postings and on terms; the closures of index.Remove; index.Remove: what it computes; plain; Indexes: the laws of Add and Remove, with their faults; plain; The index of texts that are added one by one: plain; The reference insert: a text into a sorted row.
-/
import Derived.Test.YtngdfjlodblagaaGreatDoorMIt6
import Derived.Test.YtngdfjlodblagaaGreatDoorMIt8
import Derived.Test.YtngdfjlodblagaaGreatDoorMIt3
import Derived.Test.YtngdfjlodblagaaGreatDoorMIt5
import Derived.Test.YtngdfjlodblagaaGreatDoorMIt1
import Derived.Deep.QuietTactic
import Derived.BigQuiet
/-
  slices.IndexFunc and slices.DeleteFunc on postings and on terms; the closures of index.Remove.
-/
namespace Go.Proofs.YtngdfjlodblagaaGreatDoor
open Go.RowKit
set_option linter.unusedVariables false
theorem rem1_ok (i id : Int) (v : Value) (bc : Nat) (w : World) (hc : w.cell? ⟨bc, 0, none⟩ = some (.int .i64 id)) : Calls Tryz.prog 43 #[.agg #[.int .i64 i, v], .pointer (some ⟨bc, 0, none⟩)] w fun e w' => e = .returned (.bool (i == id)) ∧ Below w.heap.size w w' := by
  have hal := (Below.refl w.heap.size w).alloc (Nat.le_refl _) (.cells #[.int .i64 i, v] 83)
  obtain ⟨p0, p1, _, _, _⟩ := (Blk.new w 83 #[.int .i64 i, v]).two
  have hc2 := cell_ext hal hc
  go_enter Tryz.func43, Tryz.ntmps43
  go_wp2
  go_ret
  exact ⟨rfl, hal⟩
theorem rem2_ok (s : Str) (A : Option Addr) (n c : Nat) (w : World) : Calls Tryz.prog 45 #[.agg #[.string (bs s), .slice A n c]] w fun e w' => e = .returned (.bool ((n : Int) == 0)) ∧ Below w.heap.size w w' := by
  have hal := (Below.refl w.heap.size w).alloc (Nat.le_refl _) (.cells #[.string (bs s), .slice A n c] 43)
  obtain ⟨p0, p1, _, _, _⟩ := (Blk.new w 43 #[.string (bs s), .slice A n c]).two
  go_enter Tryz.func45, Tryz.ntmps45
  go_wp2
  go_ret
  exact ⟨rfl, hal⟩
/-- the number of postings that a value holds -/
def valLen : Value → Int
  | .slice _ n _ => n
  | _ => 0
theorem new1 (w : World) (a b : Value) (t : TypeId) : ∃ g V, w.heap.size = g ∧ w.alloc (.cells #[a, b] t) = V ∧ Blk V g t #[a, b] ∧ Below w.heap.size w V := ⟨_, _, rfl, rfl, Blk.new w t _, (Below.refl _ _).alloc (Nat.le_refl _) _⟩
theorem below_grown {w w' : World} (h : Below w.heap.size w w') (row : Option Nat) : w.grownBy w' row := ⟨h.os, h.tape, h.output, h.size, fun b hb _ => h.block b hb⟩
theorem gr_trans {w w1 w2 : World} {row : Option Nat} (h1 : w.grownBy w1 row) (h2 : w1.grownBy w2 row) : w.grownBy w2 row := ⟨h2.os.trans h1.os, h2.tape.trans h1.tape, h2.output.trans h1.output, Nat.le_trans h1.size h2.size, fun b hb hn => (h2.block b (Nat.lt_of_lt_of_le hb h1.size) hn).trans (h1.block b hb hn)⟩
theorem gr_set (w : World) (g i : Nat) (u : Value) : w.grownBy (w.setCell ⟨g, i, none⟩ u) (some g) := ⟨rfl, rfl, rfl, by simp, fun b _ hn => heap_set_ne _ _ _ fun e => hn (by rw [e])⟩
/-- an element's two cells are turned -/
theorem Own.putP2 {w : World} {B g n c : Nat} {e : TypeId} {l : List (Int × Value)} (h : Own rpC M0 w B e (.slice (some ⟨g, 0, none⟩) n c) l) {k : Nat} (hk : k < l.length) {x : Int} {u : Value} (hx : -9223372036854775808 ≤ x ∧ x ≤ 9223372036854775807) (hu : u.oneCell' = true) : Own rpC M0 ((w.setCell ⟨g, k * 2, none⟩ (.int .i64 x)).setCell ⟨g, k * 2 + 1, none⟩ u) B e (.slice (some ⟨g, 0, none⟩) n c) (l.set k (x, u)) := by
  have h1 : Own rpC M0 (w.setCell ⟨g, k * 2, none⟩ (.int .i64 x)) B e (.slice (some ⟨g, 0, none⟩) n c) (l.set k (x, l[k].2)) := h.putF flatC_rp (k := k) (r := 0) hk (by show 0 < 1 + 1; omega) (fun cs hcs => by
    obtain ⟨c1, d1, e, h4, h5⟩ := hcs
    have hc1 := intC.len h4
    obtain ⟨y, rfl⟩ : ∃ y, c1 = [y] := List.length_eq_one_iff.1 hc1
    subst e
    exact ⟨[.int .i64 x], d1, rfl, ⟨rfl, hx⟩, h5⟩)
  have h2 := h1.putP (k := k) (by rw [List.length_set]; exact hk) hu
  rw [List.set_set, List.getElem_set_self] at h2
  exact h2
theorem Own.putT2 {w : World} {B g n c : Nat} {e : TypeId} {l : List (Str × Value)} (h : Own rtC M0 w B e (.slice (some ⟨g, 0, none⟩) n c) l) {k : Nat} (hk : k < l.length) {x : Str} {u : Value} (hx : x.length ≤ maxLen) (hu : u.oneCell' = true) : Own rtC M0 ((w.setCell ⟨g, k * 2, none⟩ (.string (bs x))).setCell ⟨g, k * 2 + 1, none⟩ u) B e (.slice (some ⟨g, 0, none⟩) n c) (l.set k (x, u)) := by
  have h1 : Own rtC M0 (w.setCell ⟨g, k * 2, none⟩ (.string (bs x))) B e (.slice (some ⟨g, 0, none⟩) n c) (l.set k (x, l[k].2)) := h.putF flatC_rt (k := k) (r := 0) hk (by show 0 < 1 + 1; omega) (fun cs hcs => by
    obtain ⟨c1, d1, e, h4, h5⟩ := hcs
    have hc1 := strC.len h4
    obtain ⟨y, rfl⟩ : ∃ y, c1 = [y] := List.length_eq_one_iff.1 hc1
    subst e
    exact ⟨[.string (bs x)], d1, rfl, ⟨rfl, hx⟩, h5⟩)
  have h2 := h1.putT (k := k) (by rw [List.length_set]; exact hk) hu
  rw [List.set_set, List.getElem_set_self] at h2
  exact h2
theorem Own.cutClear {P : Program} {k bytes : Nat} {t e : TypeId} (T : SlT P k t e bytes) (hone : ∀ i z, P.info? e = some i → i.zero = some z → ∀ u ∈ z.cells.toList, u.oneCell' = true) {α : Type} {C : Codec α} (hk : C.n = k) {M : Nat → Prop} {w : World} {B g n c : Nat} {R : List α} (own : Own C M w B e (.slice (some ⟨g, 0, none⟩) n c) R) {i : Nat} (hi : i < R.length) :
    ∃ w', (∀ ty, (Builtin.clear_ #[t] ty #[.slice (some ⟨g, i * k, none⟩) (R.length - i) (c - i)]).run P w = .ok (.tuple #[]) w') ∧ Own C M w' B e (.slice (some ⟨g, 0, none⟩) i c) (R.take i) ∧ w.grownBy w' (some g) := by
  subst hk
  obtain ⟨g', c', cur, hv, hlc, hcm, hB, hblk, hsz⟩ := own.blk (by omega)
  injection hv with hv1 hv2 hv3
  injection hv1 with hv1
  injection hv1 with hv1
  subst hv1 hv3
  have hels := (own.cells hblk).2
  have hpos := C.pos
  have h1 : i * C.n + (R.length - i) * C.n ≤ cur.size := by
    rw [← Nat.add_mul, hsz]
    exact Nat.mul_le_mul_right _ (by omega)
  obtain ⟨zs, hzl, hclr⟩ := run_clear_in (P := P) T hblk (o := i * C.n) (R.length - i) (c - i) (by omega) hpos hone h1
  have hgr : w.grownBy (w.setRow g (splice cur.toList (i * C.n) zs).toArray) (some g) := ⟨rfl, rfl, rfl, by simp [World.setRow], fun k _ hne => setRow_other _ _ _ _ (fun e => hne (by rw [e]))⟩
  refine ⟨_, hclr, ?_, hgr⟩
  have hel := hels.take i
  have h2 : i * C.n ≤ R.length * C.n := Nat.mul_le_mul_right _ (by omega)
  rw [List.take_take, Nat.min_eq_left h2] at hel
  refine Own.mk_row hblk.setRow hB ?_ (by rw [List.length_take]; omega) (by omega) hcm (hel.keep (fun b hb hn => hgr.block b hb fun e => hn (.inr (by injection e))) hgr.size) ?_
  · rw [List.size_toArray, length_splice _ _ _ (by rw [hzl, Array.length_toList]; exact h1), Array.length_toList]; exact hsz
  · rw [List.toList_toArray, splice, List.take_append_of_le_length (by rw [List.length_take, Array.length_toList]; omega), List.take_take, Nat.min_self]
/-- how a row stands behind some rounds -/
structure Kpt {α : Type} (q : α → Bool) (l R : List α) (i j : Nat) : Prop where
  len : R.length = l.length
  ij : i < j
  jl : j ≤ l.length
  tk : R.take i = (l.take j).filter q
  dr : ∀ m (h : m < l.length) (h' : m < R.length), j ≤ m → R[m] = l[m]
theorem Kpt.start {α : Type} {q : α → Bool} {l : List α} {k : Nat} (hk : k < l.length) (h1 : ∀ m (h : m < l.length), m < k → q l[m] = true) (h2 : q l[k] = false) : Kpt q l l k (k + 1) := by
  refine ⟨rfl, by omega, hk, ?_, fun _ _ _ _ => rfl⟩
  rw [List.take_succ_eq_append_getElem hk, List.filter_append, List.filter_cons_of_neg (by simpa using h2), List.filter_nil, List.append_nil]
  refine (List.filter_eq_self.2 fun a ha => ?_).symm
  obtain ⟨m, hm, rfl⟩ := List.mem_iff_getElem.1 ha
  rw [List.length_take] at hm
  rw [List.getElem_take]
  exact h1 m (by omega) (by omega)
theorem Kpt.drop {α : Type} {q : α → Bool} {l R : List α} {i j : Nat} (h : Kpt q l R i j) (hj : j < l.length) (hq : q l[j] = false) : Kpt q l R i (j + 1) := by
  refine ⟨h.len, by have := h.ij; omega, hj, ?_, fun m hm hm' hle => h.dr m hm hm' (by omega)⟩
  rw [List.take_succ_eq_append_getElem hj, List.filter_append, List.filter_cons_of_neg (by simpa using hq), List.filter_nil, List.append_nil]
  exact h.tk
theorem Kpt.keep {α : Type} {q : α → Bool} {l R : List α} {i j : Nat} (h : Kpt q l R i j) (hj : j < l.length) (hq : q l[j] = true) : Kpt q l (R.set i l[j]) (i + 1) (j + 1) := by
  have hij := h.ij
  have hl := h.len
  refine ⟨by rw [List.length_set]; exact hl, by omega, hj, ?_, fun m hm hm' hle => ?_⟩
  · rw [List.take_succ_eq_append_getElem hj, List.filter_append, List.filter_cons_of_pos (by simpa using hq), List.filter_nil, ← h.tk, List.take_succ_eq_append_getElem (by rw [List.length_set]; omega), List.getElem_set_self, List.take_set_of_le (Nat.le_refl _)]
  · rw [List.getElem_set_ne (by omega)]
    exact h.dr m hm (by rw [List.length_set] at hm'; exact hm') (by omega)
theorem Kpt.end_ {α : Type} {q : α → Bool} {l R : List α} {i : Nat} (h : Kpt q l R i l.length) : R.take i = l.filter q := by rw [h.tk, List.take_length]

set_option maxHeartbeats 2000000 in
theorem indexFuncPost_ok (id : Int) (bc : Nat) (v : Value) (l : List (Int × Value)) (w : World) (h : SlR rpC M0 w v l) (hc : w.cell? ⟨bc, 0, none⟩ = some (.int .i64 id)) : Calls Tryz.prog 80 #[v, .func (.func 43) #[] #[.pointer (some ⟨bc, 0, none⟩)]] w fun e w' =>
    ∃ j : Int, e = .returned (.int .i64 j) ∧ ((j = -1 ∧ ∀ r ∈ l, (r.1 == id) = false) ∨ ∃ (k : Nat) (hk : k < l.length), j = (k : Int) ∧ (l[k].1 == id) = true ∧ ∀ (m : Nat) (hm : m < l.length), m < k → (l[m].1 == id) = false) ∧ Below w.heap.size w w' := by
  obtain ⟨A, c, rfl, hlc, hcm⟩ := h.form
  unfold maxLen at hcm
  have Hh := Lib.hid h
  clear h
  have hbw := Below.refl w.heap.size w
  go_enter Tryz.func80, Tryz.ntmps80
  go_wp2
  go_loopw [8] (fun iv wr => ∃ k : Nat, k ≤ l.length ∧ iv = .int .i64 (k : Int) ∧ Hid (∀ (m : Nat) (hm : m < l.length), m < k → (l[m].1 == id) = false) ∧ Below w.heap.size w wr) (fun iv _ => l.length - (intOf iv).toNat)
  case atStart => exact ⟨0, Nat.zero_le _, rfl, Lib.hid fun m _ h => absurd h (by omega), hbw⟩
  case round =>
    obtain ⟨k, hk, rfl, hno, hbr⟩ := hrel
    clear hbw
    by_cases hlt : k < l.length
    · obtain ⟨bb, off, rfl, _, p0, p1⟩ := (Hh.out.ext hbr).rpAt hlt
      have hc1 := cell_ext hbr hc
      obtain ⟨⟨pk, pv⟩, hp⟩ : ∃ p, l[k] = p := ⟨_, rfl⟩
      rw [hp] at p0 p1
      dsimp only at p0 p1
      have hcl := rem1_ok pk id pv bc wr hc1
      have Hcl := Lib.hid hcl; have Hp := Lib.hid hp
      have hi0 : (0 : Int) ≤ (k : Int) := by omega
      have hi1 : (k : Int) < (l.length : Int) := by omega
      have hq1 : IntKind.i64.wrap (k : Int) = (k : Int) := IntWalk.i64_in _ (by omega)
      clear hcl hp
      go_wp2_with fail
      refine Hcl.out.mono ?_
      rintro e w1 ⟨rfl, hb1⟩
      have hbr1 := hbr.trans (hb1.mono hbr.size)
      clear hbr hb1 p0 p1 Hcl
      cases hh : (((pk, pv) : Int × Value).1 == id) with
      | true =>
        dsimp only at hh
        go_wp2
        go_ret
        exact ⟨_, rfl, .inr ⟨k, hlt, rfl, by rw [Hp.out]; exact hh, hno.out⟩, hbr1⟩
      | false =>
        dsimp only at hh
        go_wp2
        go_roundw
        case rel => exact ⟨k + 1, by omega, by go_num, Lib.hid fun m hm hmk => by
          by_cases e : m = k
          · subst e; rw [Hp.out]; exact hh
          · exact hno.out m hm (by omega), hbr1⟩
        case measure => simp [intOf]; omega
    · obtain rfl : k = l.length := by omega
      go_wp2
      go_ret
      exact ⟨_, rfl, .inl ⟨rfl, fun r hr => by
        obtain ⟨m, hm, rfl⟩ := List.mem_iff_getElem.1 hr
        exact hno.out m hm hm⟩, hbr⟩

set_option maxHeartbeats 2000000 in
theorem indexFuncTerm_ok  (v : Value) (l : List (Str × Value)) (w : World) (h : SlR rtC M0 w v l) (hsh : ∀ r ∈ l, ∃ A n c, r.2 = .slice A n c) : Calls Tryz.prog 81 #[v, .func (.func 45) #[] #[]] w fun e w' =>
    ∃ j : Int, e = .returned (.int .i64 j) ∧ ((j = -1 ∧ ∀ r ∈ l, (valLen r.2 == 0) = false) ∨ ∃ (k : Nat) (hk : k < l.length), j = (k : Int) ∧ (valLen l[k].2 == 0) = true ∧ ∀ (m : Nat) (hm : m < l.length), m < k → (valLen l[m].2 == 0) = false) ∧ Below w.heap.size w w' := by
  obtain ⟨A, c, rfl, hlc, hcm⟩ := h.form
  unfold maxLen at hcm
  have Hh := Lib.hid h
  clear h
  have hbw := Below.refl w.heap.size w
  go_enter Tryz.func81, Tryz.ntmps81
  go_wp2
  go_loopw [8] (fun iv wr => ∃ k : Nat, k ≤ l.length ∧ iv = .int .i64 (k : Int) ∧ Hid (∀ (m : Nat) (hm : m < l.length), m < k → (valLen l[m].2 == 0) = false) ∧ Below w.heap.size w wr) (fun iv _ => l.length - (intOf iv).toNat)
  case atStart => exact ⟨0, Nat.zero_le _, rfl, Lib.hid fun m _ h => absurd h (by omega), hbw⟩
  case round =>
    obtain ⟨k, hk, rfl, hno, hbr⟩ := hrel
    clear hbw
    by_cases hlt : k < l.length
    · obtain ⟨bb, off, rfl, _, p0, p1⟩ := (Hh.out.ext hbr).rtAt hlt
      obtain ⟨Ap, np, cp, hsp⟩ := hsh _ (List.getElem_mem hlt)
      obtain ⟨⟨pk, pv⟩, hp⟩ : ∃ p, l[k] = p := ⟨_, rfl⟩
      rw [hp] at p0 p1
      dsimp only at p0 p1
      rw [hp] at hsp
      dsimp only at hsp
      subst hsp
      have hcl := rem2_ok pk Ap np cp wr
      have Hcl := Lib.hid hcl; have Hp := Lib.hid hp
      have hi0 : (0 : Int) ≤ (k : Int) := by omega
      have hi1 : (k : Int) < (l.length : Int) := by omega
      have hq1 : IntKind.i64.wrap (k : Int) = (k : Int) := IntWalk.i64_in _ (by omega)
      clear hcl hp
      go_wp2_with fail
      refine Hcl.out.mono ?_
      rintro e w1 ⟨rfl, hb1⟩
      have hbr1 := hbr.trans (hb1.mono hbr.size)
      clear hbr hb1 p0 p1 Hcl
      cases hh : (valLen ((pk, Value.slice Ap np cp) : Str × Value).2 == 0) with
      | true =>
        dsimp only [valLen] at hh
        go_wp2
        go_ret
        exact ⟨_, rfl, .inr ⟨k, hlt, rfl, by rw [Hp.out]; exact hh, hno.out⟩, hbr1⟩
      | false =>
        dsimp only [valLen] at hh
        go_wp2
        go_roundw
        case rel => exact ⟨k + 1, by omega, by go_num, Lib.hid fun m hm hmk => by
          by_cases e : m = k
          · subst e; rw [Hp.out]; exact hh
          · exact hno.out m hm (by omega), hbr1⟩
        case measure => simp [intOf]; omega
    · obtain rfl : k = l.length := by omega
      go_wp2
      go_ret
      exact ⟨_, rfl, .inl ⟨rfl, fun r hr => by
        obtain ⟨m, hm, rfl⟩ := List.mem_iff_getElem.1 hr
        exact hno.out m hm hm⟩, hbr⟩

set_option maxHeartbeats 4000000 in
theorem deleteFuncPost_ok (id : Int) (bc : Nat) (v : Value) (l : List (Int × Value)) (B : Nat) (w : World) (hown : Own rpC M0 w B 83 v l) (hBw : B ≤ w.heap.size) (hc : w.cell? ⟨bc, 0, none⟩ = some (.int .i64 id)) (hcn : v.ownBlock ≠ some bc) (hsh : ∀ r ∈ l, ∃ A n c, r.2 = .slice A n c) : Calls Tryz.prog 42 #[v, .func (.func 43) #[] #[.pointer (some ⟨bc, 0, none⟩)]] w fun e w' =>
    ∃ v', e = .returned v' ∧ Own rpC M0 w' B 83 v' (l.filter fun r => !(r.1 == id)) ∧ w.grownBy w' v.ownBlock ∧ v'.ownBlock = v.ownBlock := by
  obtain ⟨A, c, rfl, hlc, hcm⟩ := hown.shape
  have hcm' := hcm
  unfold maxLen at hcm'
  have hif := indexFuncPost_ok id bc (.slice A l.length c) l w hown.read0 hc
  have Hif := Lib.hid hif; have Hown := Lib.hid hown
  clear hif hown
  go_enter Tryz.func42, Tryz.ntmps42
  go_wp2_with fail
  refine Hif.out.mono ?_
  rintro e w1 ⟨j0, rfl, hj, hb1⟩
  rcases hj with ⟨rfl, hno⟩ | ⟨k0, hk0, rfl, hyes, hno⟩
  · go_wp2
    go_ret
    have hfl : l.filter (fun r => !(r.1 == id)) = l := List.filter_eq_self.2 fun r hr => by rw [hno r hr]; rfl
    exact ⟨_, rfl, by rw [hfl]; exact Hown.out.ext hb1, below_grown hb1 _, rfl⟩
  · obtain ⟨g, c', cur, hv, _, _, hBg, hblk, _⟩ := (Hown.out.ext hb1).blk (by omega)
    injection hv with hv1 hv2 hv3
    subst hv1 hv3
    have hgl := hblk.lt
    have hk9 : ((k0 : Int) == -1) = false := beq_eq_false_iff_ne.2 (by omega)
    have hk8 : IntKind.i64.wrap ((k0 : Int) + 1) = ((k0 + 1 : Nat) : Int) := by rw [IntWalk.i64_in _ (by omega)]; omega
    have Hst := Lib.hid (Kpt.start (q := fun r => !(r.1 == id)) hk0 (fun m hm hmk => by rw [hno m hm hmk]; rfl) (by rw [hyes]; rfl))
    have Hgr0 : Hid (w.grownBy w1 (some g)) := Lib.hid (below_grown hb1 _)
    have Hown1 := Lib.hid (Hown.out.ext hb1)
    clear hblk hno hyes Hif
    go_wp2
    go_loopw [5, 6] (fun iv jv wr => ∃ (i j : Nat) (R : List (Int × Value)), iv = .int .i64 (i : Int) ∧ jv = .int .i64 (j : Int) ∧ Hid (Kpt (fun r => !(r.1 == id)) l R i j) ∧ Hid (Own rpC M0 wr B 83 (.slice (some ⟨g, 0, none⟩) l.length c) R) ∧ Hid (w.grownBy wr (some g))) (fun _ jv _ => l.length - (intOf jv).toNat)
    case atStart => exact ⟨k0, k0 + 1, l, rfl, by go_num, Hst, Hown1, Hgr0⟩
    case round =>
      clear Hst Hown1 Hgr0 hb1
      obtain ⟨i, j, R, rfl, rfl, hkp, how, hgr⟩ := hrel
      have hij := hkp.out.ij
      have hjl := hkp.out.jl
      have hRl := hkp.out.len
      by_cases hlt : j < l.length
      · have hjR : j < R.length := by omega
        obtain ⟨g', c', hv, _, _, _, _, p0, p1, ho1, hb1, hb2, _⟩ := how.out.rpAt hjR
        injection hv with hv1 hv2 hv3
        injection hv1 with hv1
        injection hv1 with hv1
        subst hv1 hv3
        have hRj := hkp.out.dr j hlt hjR (Nat.le_refl _)
        obtain ⟨Ap, np, cp, hsp⟩ := hsh _ (List.getElem_mem hlt)
        have hcr : wr.cell? ⟨bc, 0, none⟩ = some (.int .i64 id) := by rw [← hc]; simp only [World.cell?, hgr.out.block bc (World.block_lt_of_cell? w _ hc) (fun e => hcn (show some g = some bc from e.symm))]
        obtain ⟨⟨pk, pv⟩, hp⟩ : ∃ p, l[j] = p := ⟨_, rfl⟩
        rw [hRj, hp] at p0 p1 ho1 hb1 hb2
        dsimp only at p0 p1 ho1 hb1 hb2
        rw [hp] at hsp
        dsimp only at hsp
        subst hsp
        obtain ⟨g8, V, hg8, hV, kb, hbV⟩ := new1 wr (.int .i64 pk) (Value.slice Ap np cp) 83
        have hcl := rem1_ok pk id (Value.slice Ap np cp) bc V (cell_ext hbV hcr)
        have Hcl := Lib.hid hcl; have Hp := Lib.hid hp; have Hv := Lib.hid (And.intro hv2 hRj); have Hbn := Lib.hid (And.intro ho1 (And.intro hb1 hb2))
        have hi0 : (0 : Int) ≤ (j : Int) := by omega
        have hi1 : (j : Int) < (l.length : Int) := by omega
        have hq1 : IntKind.i64.wrap (j : Int) = (j : Int) := IntWalk.i64_in _ (by omega)
        obtain ⟨f0, f1, _, _, _⟩ := kb.two
        have HV := Lib.hid (And.intro hV hg8)
        clear hcl hp hv2 hRj hV hg8 ho1 hb1 hb2 hcr
        go_wp2_with fail
        try rw [HV.out.1, HV.out.2]
        refine Hcl.out.mono ?_
        rintro e w2 ⟨rfl, hb2⟩
        have hb8 : Below wr.heap.size wr w2 := hbV.trans (hb2.mono hbV.size)
        have how2 := Lib.hid (how.out.ext hb8)
        have hgr2 := Lib.hid (gr_trans hgr.out (below_grown hb8 _))
        obtain ⟨f2, f3, _, _, _⟩ := (kb.ext hb2).two
        clear p0 p1 f0 f1 hb2 hbV kb Hcl how hgr
        cases hh : (((pk, (Value.slice Ap np cp)) : Int × Value).1 == id) with
        | true =>
          dsimp only at hh
          clear f2 f3
          go_wp2
          go_roundw
          case rel => exact ⟨i, j + 1, R, rfl, by go_num, Lib.hid (hkp.out.drop hlt (by rw [Hp.out]; simpa using hh)), how2, hgr2⟩
          case measure => simp [intOf]; omega
        | false =>
          dsimp only at hh
          obtain ⟨g', c', hv, _, _, _, _, y0, y1, _, _, _, hfz⟩ := how2.out.rpAt (k := i) (by omega)
          injection hv with hv1 hv2 hv3
          injection hv1 with hv1
          injection hv1 with hv1
          subst hv1 hv3
          have z0 := hfz (i * 2)
          have z1 := hfz (i * 2 + 1)
          have hii0 : (0 : Int) ≤ (i : Int) := by omega
          have hii1 : (i : Int) < (l.length : Int) := by omega
          have hq2 : IntKind.i64.wrap (i : Int) = (i : Int) := IntWalk.i64_in _ (by omega)
          clear hfz hv2 
          go_wp2
          go_roundw
          case rel => exact ⟨i + 1, j + 1, R.set i (pk, (Value.slice Ap np cp)), by go_num, by go_num, Lib.hid (by have h9 := hkp.out.keep hlt (by rw [Hp.out]; simpa using hh); rw [Hp.out] at h9; exact h9), Lib.hid (how2.out.putP2 (by omega) Hbn.out.2 Hbn.out.1), Lib.hid (gr_trans hgr2.out (gr_trans (gr_set _ _ _ _) (gr_set _ _ _ _)))⟩
          case measure => simp [intOf]; omega
      · obtain rfl : j = l.length := by omega
        obtain ⟨w9, hclr, hown9, hgr9⟩ := how.out.cutClear (t := 31) TPosts onePost rfl (i := i) (by omega)
        rw [hRl] at hclr
        rw [hkp.out.end_] at hown9
        have hlen : (l.filter fun r => !(r.1 == id)).length = i := by rw [← hkp.out.end_, List.length_take]; omega
        have Hf := Lib.hid (And.intro hown9 (gr_trans hgr.out hgr9))
        have j2 : (i : Int) ≤ (l.length : Int) := by omega
        have j3 : (l.length : Int) ≤ (c : Int) := by omega
        have j4 : ¬ c = i := by omega
        have j5 : i ≤ c := by omega
        have j6 : (0 : Int) ≤ (i : Int) := by omega
        clear hown9 hgr9 hlen how hgr
        go_wp2
        go_ret
        exact ⟨_, rfl, Hf.out.1, Hf.out.2, rfl⟩

set_option maxHeartbeats 4000000 in
theorem deleteFuncTerm_ok  (v : Value) (l : List (Str × Value)) (B : Nat) (w : World) (hown : Own rtC M0 w B 43 v l) (hBw : B ≤ w.heap.size) (hsh : ∀ r ∈ l, ∃ A n c, r.2 = .slice A n c) : Calls Tryz.prog 44 #[v, .func (.func 45) #[] #[]] w fun e w' =>
    ∃ v', e = .returned v' ∧ Own rtC M0 w' B 43 v' (l.filter fun r => !(valLen r.2 == 0)) ∧ w.grownBy w' v.ownBlock ∧ v'.ownBlock = v.ownBlock := by
  obtain ⟨A, c, rfl, hlc, hcm⟩ := hown.shape
  have hcm' := hcm
  unfold maxLen at hcm'
  have hif := indexFuncTerm_ok  (.slice A l.length c) l w hown.read0 hsh
  have Hif := Lib.hid hif; have Hown := Lib.hid hown
  clear hif hown
  go_enter Tryz.func44, Tryz.ntmps44
  go_wp2_with fail
  refine Hif.out.mono ?_
  rintro e w1 ⟨j0, rfl, hj, hb1⟩
  rcases hj with ⟨rfl, hno⟩ | ⟨k0, hk0, rfl, hyes, hno⟩
  · go_wp2
    go_ret
    have hfl : l.filter (fun r => !(valLen r.2 == 0)) = l := List.filter_eq_self.2 fun r hr => by rw [hno r hr]; rfl
    exact ⟨_, rfl, by rw [hfl]; exact Hown.out.ext hb1, below_grown hb1 _, rfl⟩
  · obtain ⟨g, c', cur, hv, _, _, hBg, hblk, _⟩ := (Hown.out.ext hb1).blk (by omega)
    injection hv with hv1 hv2 hv3
    subst hv1 hv3
    have hgl := hblk.lt
    have hk9 : ((k0 : Int) == -1) = false := beq_eq_false_iff_ne.2 (by omega)
    have hk8 : IntKind.i64.wrap ((k0 : Int) + 1) = ((k0 + 1 : Nat) : Int) := by rw [IntWalk.i64_in _ (by omega)]; omega
    have Hst := Lib.hid (Kpt.start (q := fun r => !(valLen r.2 == 0)) hk0 (fun m hm hmk => by rw [hno m hm hmk]; rfl) (by rw [hyes]; rfl))
    have Hgr0 : Hid (w.grownBy w1 (some g)) := Lib.hid (below_grown hb1 _)
    have Hown1 := Lib.hid (Hown.out.ext hb1)
    clear hblk hno hyes Hif
    go_wp2
    go_loopw [5, 6] (fun iv jv wr => ∃ (i j : Nat) (R : List (Str × Value)), iv = .int .i64 (i : Int) ∧ jv = .int .i64 (j : Int) ∧ Hid (Kpt (fun r => !(valLen r.2 == 0)) l R i j) ∧ Hid (Own rtC M0 wr B 43 (.slice (some ⟨g, 0, none⟩) l.length c) R) ∧ Hid (w.grownBy wr (some g))) (fun _ jv _ => l.length - (intOf jv).toNat)
    case atStart => exact ⟨k0, k0 + 1, l, rfl, by go_num, Hst, Hown1, Hgr0⟩
    case round =>
      clear Hst Hown1 Hgr0 hb1
      obtain ⟨i, j, R, rfl, rfl, hkp, how, hgr⟩ := hrel
      have hij := hkp.out.ij
      have hjl := hkp.out.jl
      have hRl := hkp.out.len
      by_cases hlt : j < l.length
      · have hjR : j < R.length := by omega
        obtain ⟨g', c', hv, _, _, _, _, p0, p1, ho1, hb, _⟩ := how.out.rtAt hjR
        injection hv with hv1 hv2 hv3
        injection hv1 with hv1
        injection hv1 with hv1
        subst hv1 hv3
        have hRj := hkp.out.dr j hlt hjR (Nat.le_refl _)
        obtain ⟨Ap, np, cp, hsp⟩ := hsh _ (List.getElem_mem hlt)
        obtain ⟨⟨pk, pv⟩, hp⟩ : ∃ p, l[j] = p := ⟨_, rfl⟩
        rw [hRj, hp] at p0 p1 ho1 hb
        dsimp only at p0 p1 ho1 hb
        rw [hp] at hsp
        dsimp only at hsp
        subst hsp
        obtain ⟨g8, V, hg8, hV, kb, hbV⟩ := new1 wr (.string (bs pk)) (Value.slice Ap np cp) 43
        have hcl := rem2_ok pk Ap np cp V
        have Hcl := Lib.hid hcl; have Hp := Lib.hid hp; have Hv := Lib.hid (And.intro hv2 hRj); have Hbn := Lib.hid (And.intro ho1 hb)
        have hi0 : (0 : Int) ≤ (j : Int) := by omega
        have hi1 : (j : Int) < (l.length : Int) := by omega
        have hq1 : IntKind.i64.wrap (j : Int) = (j : Int) := IntWalk.i64_in _ (by omega)
        obtain ⟨f0, f1, _, _, _⟩ := kb.two
        have HV := Lib.hid (And.intro hV hg8)
        clear hcl hp hv2 hRj hV hg8 ho1 hb
        go_wp2_with fail
        try rw [HV.out.1, HV.out.2]
        refine Hcl.out.mono ?_
        rintro e w2 ⟨rfl, hb2⟩
        have hb8 : Below wr.heap.size wr w2 := hbV.trans (hb2.mono hbV.size)
        have how2 := Lib.hid (how.out.ext hb8)
        have hgr2 := Lib.hid (gr_trans hgr.out (below_grown hb8 _))
        obtain ⟨f2, f3, _, _, _⟩ := (kb.ext hb2).two
        clear p0 p1 f0 f1 hb2 hbV kb Hcl how hgr
        cases hh : (valLen ((pk, (Value.slice Ap np cp)) : Str × Value).2 == 0) with
        | true =>
          dsimp only [valLen] at hh
          clear f2 f3
          go_wp2
          go_roundw
          case rel => exact ⟨i, j + 1, R, rfl, by go_num, Lib.hid (hkp.out.drop hlt (by rw [Hp.out]; simpa [valLen] using hh)), how2, hgr2⟩
          case measure => simp [intOf]; omega
        | false =>
          dsimp only [valLen] at hh
          obtain ⟨g', c', hv, _, _, _, _, y0, y1, _, _, hfz⟩ := how2.out.rtAt (k := i) (by omega)
          injection hv with hv1 hv2 hv3
          injection hv1 with hv1
          injection hv1 with hv1
          subst hv1 hv3
          have z0 := hfz (i * 2)
          have z1 := hfz (i * 2 + 1)
          have hii0 : (0 : Int) ≤ (i : Int) := by omega
          have hii1 : (i : Int) < (l.length : Int) := by omega
          have hq2 : IntKind.i64.wrap (i : Int) = (i : Int) := IntWalk.i64_in _ (by omega)
          clear hfz hv2 
          go_wp2
          go_roundw
          case rel => exact ⟨i + 1, j + 1, R.set i (pk, (Value.slice Ap np cp)), by go_num, by go_num, Lib.hid (by have h9 := hkp.out.keep hlt (by rw [Hp.out]; simpa [valLen] using hh); rw [Hp.out] at h9; exact h9), Lib.hid (how2.out.putT2 (by omega) Hbn.out.2 Hbn.out.1), Lib.hid (gr_trans hgr2.out (gr_trans (gr_set _ _ _ _) (gr_set _ _ _ _)))⟩
          case measure => simp [intOf]; omega
      · obtain rfl : j = l.length := by omega
        obtain ⟨w9, hclr, hown9, hgr9⟩ := how.out.cutClear (t := 23) TTerms oneTerm rfl (i := i) (by omega)
        rw [hRl] at hclr
        rw [hkp.out.end_] at hown9
        have hlen : (l.filter fun r => !(valLen r.2 == 0)).length = i := by rw [← hkp.out.end_, List.length_take]; omega
        have Hf := Lib.hid (And.intro hown9 (gr_trans hgr.out hgr9))
        have j2 : (i : Int) ≤ (l.length : Int) := by omega
        have j3 : (l.length : Int) ≤ (c : Int) := by omega
        have j4 : ¬ c = i := by omega
        have j5 : i ≤ c := by omega
        have j6 : (0 : Int) ≤ (i : Int) := by omega
        clear hown9 hgr9 hlen how hgr
        go_wp2
        go_ret
        exact ⟨_, rfl, Hf.out.1, Hf.out.2, rfl⟩

end Go.Proofs.YtngdfjlodblagaaGreatDoor
/-
  index.Remove: what it computes; plain.
-/
namespace Go.Proofs.YtngdfjlodblagaaGreatDoor
open Go.RowKit
set_option linter.unusedVariables false
namespace Ix
def removeR (x : Idx) (id : Int) : Idx × Int × Int :=
  if (indexF x).1 ≠ 0 then (([], []), indexF x)
  else if id ∈ x.1 then (removeF x id, 0, 0) else (([], []), 6, -3)
/-- one term without a text -/
def cutT (id : Int) (t : Term) : Term := (t.1, t.2.filter fun p => !(p.1 == id))
theorem removeT_eq (id : Int) (ts : List Term) : removeT id ts = (ts.map (cutT id)).filter fun t => !(t.2.length == 0) := rfl
end Ix
theorem erase_countP {id : Int} : ∀ {ids : List Int}, ids.Pairwise (· < ·) → id ∈ ids → ids.countP (· < id) < ids.length ∧ ids.eraseIdx (ids.countP (· < id)) = ids.filter fun n => !(n == id)
  | [], _, h => by cases h
  | n :: r, hp, h => by
    rw [List.pairwise_cons] at hp
    by_cases e : n = id
    · subst e
      have h0 : r.countP (· < n) = 0 := List.countP_eq_zero.2 fun m hm => by have := hp.1 m hm; simp; omega
      rw [List.countP_cons_of_neg (by simp), h0, List.filter_cons_of_neg (by simp)]
      refine ⟨by simp, ?_⟩
      exact (List.filter_eq_self.2 fun m hm => by have := hp.1 m hm; simp; omega).symm
    · have hm : id ∈ r := by rcases List.mem_cons.1 h with h | h; · exact absurd h.symm e
                             · exact h
      have hlt := hp.1 id hm
      have ih := erase_countP hp.2 hm
      rw [List.countP_cons_of_pos (by simpa using hlt), List.filter_cons_of_pos (by simpa using e), List.eraseIdx_cons_succ, ih.2]
      exact ⟨by rw [List.length_cons]; omega, rfl⟩
/-- behind k rounds -/
def CutAt (id : Int) (ts : List Ix.Term) (X : List RTerm) (k : Nat) : Prop := X.map pt = (ts.take k).map (Ix.cutT id) ++ ts.drop k
theorem CutAt.len {id : Int} {ts : List Ix.Term} {X : List RTerm} {k : Nat} (h : CutAt id ts X k) : X.length = ts.length := by
  have := congrArg List.length h
  rw [List.length_map, List.length_append, List.length_map, List.length_take, List.length_drop] at this
  omega
theorem CutAt.keys {id : Int} {ts : List Ix.Term} {X : List RTerm} {k : Nat} (h : CutAt id ts X k) : X.map (fun t => t.1) = ts.map fun t => t.1 := by
  have h1 := congrArg (List.map fun t : Ix.Term => t.1) h
  rw [List.map_map, List.map_append, List.map_map] at h1
  have h2 : (ts.take k).map ((fun t : Ix.Term => t.1) ∘ Ix.cutT id) = (ts.take k).map fun t => t.1 := rfl
  rw [h2, ← List.map_append, List.take_append_drop] at h1
  exact h1
theorem CutAt.alone {id : Int} {ts : List Ix.Term} {X : List RTerm} {k : Nat} (h : CutAt id ts X k) (hs : Al.Sorted ltS ts) {i : Nat} (hi : i < X.length) : ∀ (j : Nat) (hj : j < X.length), X[j].1 = X[i].1 → j = i := by
  intro j hj e
  have hk := h.keys
  have get : ∀ (m : Nat) (hm : m < X.length), ∃ hm' : m < ts.length, X[m].1 = ts[m].1 := fun m hm => by
    have hm' : m < ts.length := by rw [← h.len]; exact hm
    refine ⟨hm', ?_⟩
    have h1 : (X.map fun t => t.1)[m]'(by simpa using hm) = (ts.map fun t => t.1)[m]'(by simpa using hm') := by simp only [hk]
    simpa using h1
  obtain ⟨hj', e1⟩ := get j hj
  obtain ⟨hi', e2⟩ := get i hi
  rw [e1, e2] at e
  have hp := List.pairwise_iff_getElem.1 hs
  rcases Nat.lt_trichotomy j i with hlt | rfl | hlt
  · exact absurd e (tot_str.ne (hp j i hj' hi' hlt))
  · rfl
  · exact absurd e.symm (tot_str.ne (hp i j hi' hj' hlt))
theorem CutAt.at_ {id : Int} {ts : List Ix.Term} {X : List RTerm} {k : Nat} (h : CutAt id ts X k) (hk : k < X.length) (hk' : k < ts.length) : pt X[k] = ts[k] := by
  have h1 : (X.map pt)[k]'(by simpa using hk) = ((ts.take k).map (Ix.cutT id) ++ ts.drop k)[k]'(by rw [← (show X.map pt = _ from h)]; simpa using hk) := by simp only [show X.map pt = _ from h]
  rw [List.getElem_map, List.getElem_append_right (by rw [List.length_map, List.length_take]; omega), List.getElem_drop] at h1
  rw [h1]
  congr 1
  rw [List.length_map, List.length_take]; omega
theorem rp_filter (id : Int) (ps : List RPost) : (ps.map rp).filter (fun r => !(r.1 == id)) = (ps.filter fun p => !(p.1 == id)).map rp := by rw [List.filter_map]; rfl
theorem pp_filter (id : Int) (ps : List RPost) : (ps.filter fun p => !(p.1 == id)).map pp = (ps.map pp).filter fun p => !(p.1 == id) := by rw [List.filter_map]; rfl
theorem CutAt.step {id : Int} {ts : List Ix.Term} {X : List RTerm} {k : Nat} (h : CutAt id ts X k) (hk : k < X.length) (tv : Value) : CutAt id ts (X.set k (X[k].1, tv, X[k].2.2.filter fun p => !(p.1 == id))) (k + 1) := by
  have hk' : k < ts.length := by rw [← h.len]; exact hk
  have ha := h.at_ hk hk'
  unfold CutAt at h ⊢
  rw [List.map_set, h, List.take_succ_eq_append_getElem hk', List.map_append, List.set_append_right _ _ (by rw [List.length_map, List.length_take]; omega), List.length_map, List.length_take, Nat.min_eq_left (by omega), Nat.sub_self, List.drop_eq_getElem_cons hk', List.set_cons_zero, List.append_assoc]
  congr 2
  rw [← ha]
  unfold pt Ix.cutT
  simp only [pp_filter]
theorem CutAt.fin {id : Int} {ts : List Ix.Term} {X : List RTerm} (h : CutAt id ts X ts.length) : (X.filter fun t => !(t.2.2.length == 0)).map pt = Ix.removeT id ts := by
  unfold CutAt at h
  rw [List.take_length, List.drop_length, List.append_nil] at h
  rw [Ix.removeT_eq, ← h, List.filter_map]
  congr 1
  refine List.filter_congr fun t _ => ?_
  simp [pt]
end Go.Proofs.YtngdfjlodblagaaGreatDoor
/-
  Indexes: the laws of Add and Remove, with their faults; plain.
-/
namespace Go.Proofs.YtngdfjlodblagaaGreatDoor
namespace Ix
set_option linter.unusedVariables false
theorem addR_bad {x : Idx} {id : Int} {t : Str} (h : (addR x id t).2.1 ≠ 0) : (addR x id t).1 = ([], []) := by
  unfold addR at h ⊢
  split; · rfl
  split; · rfl
  split; · rfl
  split; · rfl
  split; · rfl
  split; · rfl
  split; · rfl
  rename_i h0 h1 h2 h3 h4 h5 h6
  rw [if_neg h0, if_neg h1, if_neg h2, if_neg h3, if_neg h4, if_neg h5, if_neg h6] at h
  exact absurd rfl h
theorem addR_sz (x : Idx) (id : Int) (t : Str) : SzIx (addR x id t).1.2 := by
  by_cases h : (addR x id t).2.1 = 0
  · have := addR_good h
    rw [this.1]
    exact this.2.2.2.2.sz
  · rw [addR_bad h]
    intro t h
    cases h
theorem removeR_addR {x : Idx} {id : Int} {t : Str} (h : (addR x id t).2.1 = 0) : removeR (addR x id t).1 id = (x, 0, 0) := by
  obtain ⟨e, hc, hr, hid, hc'⟩ := addR_good h
  rw [e]
  unfold removeR
  rw [if_neg (by simpa using (indexF_zero _).2 hc'), if_pos (show id ∈ (addF x id (Sm.stems t), (0 : Int), (0 : Int)).1.1 from mem_insId.2 (.inl rfl)), remove_add hc hid]
theorem addR_of {x : Idx} {id : Int} {t : Str} (hc : Canon x) (hr : 1 ≤ id ∧ id ≤ 1000000) (ht : t.length ≤ 4000) (hid : id ∉ x.1) (hn : x.1.length ≠ 300) (hm : (putAll id (Sm.stems t) 0 x.2).length ≤ 1000000) : addR x id t = (addF x id (Sm.stems t), 0, 0) := by
  unfold addR
  rw [if_neg (by simpa using (indexF_zero x).2 hc), if_neg (by omega), if_neg (by omega), if_neg (by omega), if_neg hid, if_neg hn, if_neg (by omega)]
theorem addR_room {x : Idx} {id : Int} {t : Str} (h : (addR x id t).2.1 = 0) : t.length ≤ 4000 ∧ x.1.length ≠ 300 := by
  unfold addR at h
  split at h
  · rename_i h0; exact absurd h h0
  split at h
  · simp at h
  rename_i h1
  split at h
  · simp at h
  split at h
  · simp at h
  split at h
  · simp at h
  split at h
  · simp at h
  rename_i h5
  exact ⟨by omega, h5⟩
theorem addR_comm {x : Idx} {id other : Int} {t m : Str} (h1 : (addR x id t).2.1 = 0) (h2 : (addR (addR x id t).1 other m).2.1 = 0) (h3 : (addR x other m).2.1 = 0) : addR (addR x other m).1 id t = ((addR (addR x id t).1 other m).1, 0, 0) := by
  obtain ⟨e1, hc, hr, hid, hc1⟩ := addR_good h1
  have ht := addR_room h1
  have hn2 := (addR_room h2).2
  obtain ⟨e2, _, hr2, hid2, hc2⟩ := addR_good h2
  obtain ⟨e3, _, _, hid3, hc3⟩ := addR_good h3
  rw [e1] at e2 hid2 hc2 hn2 ⊢
  rw [e2, e3]
  simp only at hid2 hc2 hn2 ⊢
  have hne : id ≠ other := fun e => hid2 (mem_insId.2 (.inl e.symm))
  have hcm := add_comm hc (Sm.stems t) (Sm.stems m) hne
  have hm := hc2.many
  rw [hcm] at hm ⊢
  refine addR_of hc3 hr ht.1 (fun e => ?_) ?_ hm
  · rcases mem_insId.1 e with e | e
    · exact hne e
    · exact hid e
  · have e1 : (addF x id (Sm.stems t)).1.length = x.1.length + 1 := insId_len hid hc.ids
    have e2 : (addF x other (Sm.stems m)).1.length = x.1.length + 1 := insId_len hid3 hc.ids
    omega
end Ix
end Go.Proofs.YtngdfjlodblagaaGreatDoor
/-
  The index of texts that are added one by one: plain.
-/
namespace Go.Proofs.YtngdfjlodblagaaGreatDoor
open Go.RowKit
set_option linter.unusedVariables false
namespace Ix
/-- texts under the numbers that the law gives them -/
def docsF (texts : List Str) : List (Int × Str) := texts.mapIdx fun j t => (3 * (j : Int) + 1, t)
theorem docsF_take {texts : List Str} {k : Nat} (hk : k < texts.length) : docsF (texts.take (k + 1)) = docsF (texts.take k) ++ [(3 * (k : Int) + 1, texts[k])] := by
  unfold docsF
  rw [List.take_succ_eq_append_getElem hk, List.mapIdx_append]
  simp [List.length_take, Nat.min_eq_left (Nat.le_of_lt hk)]
theorem docsF_mem {texts : List Str} {d : Int × Str} (h : d ∈ docsF texts) : ∃ (j : Nat) (hj : j < texts.length), d = (3 * (j : Int) + 1, texts[j]) := by
  unfold docsF at h
  obtain ⟨j, hj, e⟩ := List.mem_mapIdx.1 h
  exact ⟨j, hj, e.symm⟩
theorem docsF_len (texts : List Str) : (docsF texts).length = texts.length := by unfold docsF; rw [List.length_mapIdx]
theorem docsF_sorted (texts : List Str) : ((docsF texts).map fun d => d.1).Pairwise (· < ·) := by
  unfold docsF
  rw [List.pairwise_iff_getElem]
  intro i j hi hj hij
  simp only [List.getElem_map, List.getElem_mapIdx]
  omega
theorem stemsD_ids (docs : List (Int × Str)) : (stemsD docs).map (fun d => d.1) = docs.map fun d => d.1 := by unfold stemsD; rw [List.map_map]; rfl
theorem texts_step {texts : List Str} {k : Nat} (hk : k < texts.length) (h12 : texts.length ≤ 12) (hall : ∀ d ∈ docsF (texts.take k), d.2.length ≤ 4000) (hc : Canon (madeF (stemsD (docsF (texts.take k))))) (ht : texts[k].length ≤ 4000) :
    addR (madeF (stemsD (docsF (texts.take k)))) (3 * (k : Int) + 1) texts[k] = (madeF (stemsD (docsF (texts.take (k + 1)))), 0, 0) ∧ Canon (madeF (stemsD (docsF (texts.take (k + 1))))) ∧ ∀ d ∈ docsF (texts.take (k + 1)), d.2.length ≤ 4000 := by
  have hall' : ∀ d ∈ docsF (texts.take (k + 1)), d.2.length ≤ 4000 := by
    rw [docsF_take hk]
    intro d hd
    rcases List.mem_append.1 hd with h | h
    · exact hall d h
    · rw [List.mem_singleton.1 h]; exact ht
  have hs : stemsD (docsF (texts.take (k + 1))) = stemsD (docsF (texts.take k)) ++ [(3 * (k : Int) + 1, Sm.stems texts[k])] := by
    rw [docsF_take hk]; unfold stemsD; rw [List.map_append]; rfl
  have hsn : madeF (stemsD (docsF (texts.take (k + 1)))) = addF (madeF (stemsD (docsF (texts.take k)))) (3 * (k : Int) + 1) (Sm.stems texts[k]) := by
    rw [hs]
    refine made_snoc ?_
    have := docsF_sorted (texts.take (k + 1))
    rw [← stemsD_ids, hs] at this
    exact this
  have hids : (madeF (stemsD (docsF (texts.take k)))).1 = (docsF (texts.take k)).map fun d => d.1 := by rw [made_eq]
  have hlen : (madeF (stemsD (docsF (texts.take k)))).1.length = k := by rw [hids, List.length_map, docsF_len, List.length_take]; omega
  have hnot : (3 * (k : Int) + 1) ∉ (madeF (stemsD (docsF (texts.take k)))).1 := by
    rw [hids]
    intro hm
    obtain ⟨d, hd, e⟩ := List.mem_map.1 hm
    obtain ⟨j, hj, e2⟩ := docsF_mem hd
    rw [List.length_take] at hj
    rw [e2] at e
    simp only at e
    omega
  have hterms : (putAll (3 * (k : Int) + 1) (Sm.stems texts[k]) 0 (madeF (stemsD (docsF (texts.take k)))).2).length ≤ 1000000 := by
    have : (madeF (stemsD (docsF (texts.take (k + 1))))).2 = putAll (3 * (k : Int) + 1) (Sm.stems texts[k]) 0 (madeF (stemsD (docsF (texts.take k)))).2 := by rw [hsn]; rfl
    rw [← this, made_eq]
    show (termsD _ _).length ≤ _
    unfold termsD
    rw [List.length_map]
    have := wordsD_len (docsF (texts.take (k + 1))) hall' (by rw [docsF_len, List.length_take]; omega)
    omega
  have h := addR_of hc (show 1 ≤ 3 * (k : Int) + 1 ∧ 3 * (k : Int) + 1 ≤ 1000000 by omega) ht hnot (by rw [hlen]; omega) hterms
  have hg := addR_good (x := madeF (stemsD (docsF (texts.take k)))) (id := 3 * (k : Int) + 1) (t := texts[k]) (by rw [h])
  refine ⟨by rw [h, hsn], by rw [hsn]; exact hg.2.2.2.2, hall'⟩
theorem canon_nil : Canon ([], []) := (indexF_zero ([], [])).1 rfl
end Ix
end Go.Proofs.YtngdfjlodblagaaGreatDoor
/-
  The reference insert: a text into a sorted row.
-/
namespace Go.Proofs.YtngdfjlodblagaaGreatDoor
open Go.RowKit
set_option linter.unusedVariables false
theorem insW_at {l : List Str} {s : Str} {k : Nat} (hk : k ≤ l.length) (h1 : ∀ (j : Nat) (hj : j < l.length), j < k → ltS l[j] s = true) (h2 : ∀ (h : k < l.length), ltS l[k] s = false) : Ix.insW l s = l.take k ++ [s] ++ l.drop k := by
  have ht : l.takeWhile (fun a => ltS a s) = l.take k ∧ l.dropWhile (fun a => ltS a s) = l.drop k := by
    induction l generalizing k with
    | nil => cases k with
      | zero => exact ⟨rfl, rfl⟩
      | succ k => simp at hk
    | cons a l ih =>
      cases k with
      | zero =>
        have := h2 (by simp)
        rw [List.getElem_cons_zero] at this
        simp [this]
      | succ k =>
        have h0 := h1 0 (by simp) (by omega)
        rw [List.getElem_cons_zero] at h0
        have ih := ih (k := k) (by simpa using hk) (fun j hj hjk => by have := h1 (j + 1) (by simpa using hj) (by omega); simpa using this) (fun h => by have := h2 (by simpa using h); simpa using this)
        simp [h0, ih.1, ih.2]
  unfold Ix.insW
  rw [ht.1, ht.2]
  simp
theorem SlR.zeroA {α : Type} (C : Codec α) (M : Nat → Prop) (w : World) (A : Option Addr) (m : Nat) (hm : m ≤ maxLen) : SlR C M w (.slice A 0 m) [] := ⟨A, 0, m, [], rfl, rfl, Nat.zero_le _, hm, Els.nil C M w, fun h => absurd h (by omega)⟩
set_option maxRecDepth 20000 in
set_option maxHeartbeats 4000000 in
theorem refInsert_ok (v : Value) (l : List Str) (s : Str) (w : World) (h : SlR strC M0 w v l) (hn : l.length ≤ 1000000) (hsl : s.length ≤ maxLen) : Calls Tryz.prog 59 #[v, .string (bs s)] w fun e w' => ∃ (A : Option Addr) (c : Nat) (L : List Str), e = .returned (.slice A L.length c) ∧ Hid (L = Ix.insW l s) ∧ Own strC M0 w' w.heap.size 9 (.slice A L.length c) L ∧ Below w.heap.size w w' := by
  obtain ⟨A, c, rfl, hlc, hcm⟩ := h.form
  have hB := h.toMB
  unfold maxLen at hcm
  go_enter Tryz.func59, Tryz.ntmps59
  go_wp2
  go_loopw [5, 6] (fun ov iv wr => ∃ (k : Nat) (A2 : Option Addr) (c2 : Nat) (L : List Str), k ≤ l.length ∧ iv = .int .i64 (k : Int) ∧ ov = .slice A2 L.length c2 ∧ Hid (L = l.take k) ∧ Hid (∀ (j : Nat) (hj : j < l.length), j < k → ltS l[j] s = true) ∧ Own strC M0 wr w.heap.size 9 ov L ∧ Below w.heap.size w wr) (fun _ iv _ => l.length - (intOf iv).toNat)
  case atStart => exact ⟨0, none, 0, [], Nat.zero_le _, rfl, rfl, Lib.hid rfl, Lib.hid fun j _ h => absurd h (by omega), Own.nil _ _ _ _ _, Below.refl _ _⟩
  case round =>
    obtain ⟨k, A2, c2, L, hk, rfl, rfl, hL, hpre, own, hb⟩ := hrel
    have hLl : L.length = k := by rw [hL.out, List.length_take]; omega
    have hkw : IntKind.i64.wrap (k : Int) = (k : Int) := IntWalk.i64_in _ (by omega)
    have hk0 : (0 : Int) ≤ (k : Int) := by omega
    by_cases hlt : k < l.length
    · obtain ⟨b, off, rfl, _, _, p0, _⟩ := (h.ext hb).strAt hlt
      have hki : (k : Int) < (l.length : Int) := by omega
      obtain ⟨x, hx⟩ : ∃ x, x = l[k] := ⟨_, rfl⟩
      rw [← hx] at p0
      have Hx := Lib.hid hx
      clear hx
      by_cases hc : ltS x s = true
      · have hd : Op.bytesLess x s = true := hc
        clear hB
        have hxl : x.length ≤ maxLen := by obtain ⟨_, _, _, _, _, _, hxl⟩ := (h.ext hb).strAt hlt; rw [Hx.out]; exact hxl
        have HLl := Lib.hid hLl
        clear hLl
        have hbs := hb.size
        go_wp2_with (at_builtin; refine wpList_push_Own strC (M := M0) (B := w.heap.size) TStrs rfl (.tmp 19) (.tmp 24) rfl rfl own rfl (cs := [.string (bs x)]) (y := x) ⟨rfl, hxl⟩ (fun _ h => h.elim) ?a1 ?b1 hbs ?_)
        case a1 => have := HLl.out; unfold maxLen; omega
        case b1 => have := HLl.out; omega
        intro A4 c4 L4 w4 hL4 own4 hb4 _ _
        go_wp2
        go_roundw
        case rel => exact ⟨k + 1, A4, c4, L4, by omega, by go_num, rfl, Lib.hid (by rw [hL4.out, hL.out, List.take_succ_eq_append_getElem hlt, ← Hx.out]), Lib.hid (fun j hj hjk => by
          by_cases e : j = k
          · subst e; rw [← Hx.out]; exact hc
          · exact hpre.out j hj (by omega)), own4, hb.trans hb4⟩
        case measure => simp [intOf]; omega
      · replace hc : ltS x s = false := by simpa using hc
        have hd : Op.bytesLess x s = false := hc
        have hins : Ix.insW l s = l.take k ++ [s] ++ l.drop k := insW_at hk hpre.out (fun _ => by rw [← Hx.out]; exact hc)
        have Hins := Lib.hid hins
        have hk1 : (k : Int) ≤ (l.length : Int) := by omega
        have hk2 : (l.length : Int) ≤ (c : Int) := by omega
        have hk3 : (c : Int) ≤ 9223372036854775807 := by omega
        have HLl := Lib.hid hLl; have HB := Lib.hid hB
        clear hins hB hpre hLl
        have hbs := hb.size
        go_wp2_with (at_builtin; refine wpList_push_Own strC (M := M0) (B := w.heap.size) TStrs rfl (.tmp 28) (.tmp 30) rfl rfl own rfl (cs := [.string (bs s)]) (y := s) ⟨rfl, hsl⟩ (fun _ h => h.elim) ?a1 ?b1 hbs ?_)
        case a1 => have := HLl.out; unfold maxLen; omega
        case b1 => have := HLl.out; omega
        intro A4 c4 L4 w4 hL4 own4 hb4 _ _
        have Hb4 := Lib.hid (hb.trans hb4)
        have hL4l : L4.length = k + 1 := by rw [hL4.out, List.length_append, HLl.out]; rfl
        have hcut := (HB.out.ext Hb4.out).cutS (lo := k) (hi := l.length) hk (Nat.le_refl _) (by omega)
        rw [List.take_length, show k * strC.n = k from Nat.mul_one k] at hcut
        have hc4 := hcut.sub (M' := fun b => M0 b ∨ (Value.slice A4 L4.length c4).ownBlock = some b) fun b _ hor => hor.elim (fun h => h.elim) fun h => .inr (own4.base b h)
        have hdl : (l.drop k).length = l.length - k := List.length_drop
        have hs4 := Hb4.out.size
        go_wp2_with (at_builtin; refine wpList_append_Own strC (M := M0) (B := w.heap.size) (l := L4) (l' := l.drop k) TStrs rfl (.tmp 32) (.tmp 35) rfl (v := .slice A4 L4.length c4) rfl own4 rfl hc4 ?c1 ?d1 hs4 ?_)
        case c1 => unfold maxLen; omega
        case d1 => omega
        intro A5 c5 L5 w5 hL5 own5 hb5 _ _
        go_wp2
        go_ret
        exact ⟨A5, c5, L5, rfl, Lib.hid (by rw [hL5.out, hL4.out, hL.out, Hins.out]), own5, Hb4.out.trans hb5⟩
    · skip
      have hins : Ix.insW l s = l.take k ++ [s] ++ l.drop k := insW_at hk hpre.out (fun h => absurd h hlt)
      have Hins := Lib.hid hins
      have hk1 : (k : Int) ≤ (l.length : Int) := by omega
      have hk2 : (l.length : Int) ≤ (c : Int) := by omega
      have hk3 : (c : Int) ≤ 9223372036854775807 := by omega
      have HLl := Lib.hid hLl; have HB := Lib.hid hB
      clear hins hB hpre hLl
      have hbs := hb.size
      go_wp2_with (at_builtin; refine wpList_push_Own strC (M := M0) (B := w.heap.size) TStrs rfl (.tmp 28) (.tmp 30) rfl rfl own rfl (cs := [.string (bs s)]) (y := s) ⟨rfl, hsl⟩ (fun _ h => h.elim) ?a1 ?b1 hbs ?_)
      case a1 => have := HLl.out; unfold maxLen; omega
      case b1 => have := HLl.out; omega
      intro A4 c4 L4 w4 hL4 own4 hb4 _ _
      have Hb4 := Lib.hid (hb.trans hb4)
      have hL4l : L4.length = k + 1 := by rw [hL4.out, List.length_append, HLl.out]; rfl
      have hc4 : ∀ A m, m ≤ maxLen → SlR strC (fun b => M0 b ∨ (Value.slice A4 L4.length c4).ownBlock = some b) w4 (.slice A 0 m) (l.drop k) := fun A m hm => by rw [List.drop_of_length_le (by omega)]; exact SlR.zeroA _ _ _ _ _ hm
      obtain rfl : k = l.length := by omega
      have hfin : l.take l.length ++ [s] ++ l.drop l.length = l.take l.length ++ [s] := by rw [List.drop_length, List.append_nil]
      have Hfin := Lib.hid hfin
      clear hfin
      by_cases hck : c = l.length
      · subst hck
        have hdl : (l.drop l.length).length = l.length - l.length := List.length_drop
        have hs4 := Hb4.out.size
        go_wp2_with (at_builtin; refine wpList_append_Own strC (M := M0) (B := w.heap.size) (l := L4) (l' := l.drop l.length) TStrs rfl (.tmp 32) (.tmp 35) rfl (v := .slice A4 L4.length c4) rfl own4 rfl (hc4 _ _ (by unfold maxLen; omega)) ?c1 ?d1 hs4 ?_)
        case c1 => unfold maxLen; omega
        case d1 => omega
        intro A5 c5 L5 w5 hL5 own5 hb5 _ _
        go_wp2
        go_ret
        exact ⟨A5, c5, L5, rfl, Lib.hid (by rw [hL5.out, hL4.out, hL.out, Hins.out, Hfin.out]), own5, Hb4.out.trans hb5⟩
      · have hdl : (l.drop l.length).length = l.length - l.length := List.length_drop
        have hs4 := Hb4.out.size
        go_wp2_with (at_builtin; refine wpList_append_Own strC (M := M0) (B := w.heap.size) (l := L4) (l' := l.drop l.length) TStrs rfl (.tmp 32) (.tmp 35) rfl (v := .slice A4 L4.length c4) rfl own4 rfl (hc4 _ _ (by unfold maxLen; omega)) ?c1 ?d1 hs4 ?_)
        case c1 => unfold maxLen; omega
        case d1 => omega
        intro A5 c5 L5 w5 hL5 own5 hb5 _ _
        go_wp2
        go_ret
        exact ⟨A5, c5, L5, rfl, Lib.hid (by rw [hL5.out, hL4.out, hL.out, Hins.out, Hfin.out]), own5, Hb4.out.trans hb5⟩
end Go.Proofs.YtngdfjlodblagaaGreatDoor
