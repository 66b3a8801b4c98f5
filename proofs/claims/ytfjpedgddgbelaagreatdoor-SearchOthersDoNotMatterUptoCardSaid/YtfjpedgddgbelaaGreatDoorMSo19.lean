/-
  Contracts and plain facts, one after another: slices.IndexFunc and slices.DeleteFunc on postings and on terms; the closures of index.Remove; index.Remove: what it computes; plain; slices.Delete on ints that the call owns.
-/
import Derived.Test.YtfjpedgddgbelaaGreatDoorMSo10
import Derived.Test.YtfjpedgddgbelaaGreatDoorMSo12
import Derived.Test.YtfjpedgddgbelaaGreatDoorMSo5
import Derived.Outline
/-
  slices.IndexFunc and slices.DeleteFunc on postings and on terms; the closures of index.Remove.
-/
namespace Go.Proofs.YtfjpedgddgbelaaGreatDoor
open Go.RowKit
set_option linter.unusedVariables false
theorem rem1_ok (i id : Int) (v : Value) (bc : Nat) (w : World) (hc : w.cell? ⟨bc, 0, none⟩ = some (.int .i64 id)) : Calls Tryz.prog 62 #[.agg #[.int .i64 i, v], .pointer (some ⟨bc, 0, none⟩)] w fun e w' => e = .returned (.bool (i == id)) ∧ Below w.heap.size w w' := by
  have hal := (Below.refl w.heap.size w).alloc (Nat.le_refl _) (.cells #[.int .i64 i, v] 96)
  obtain ⟨p0, p1, _, _, _⟩ := (Blk.new w 96 #[.int .i64 i, v]).two
  have hc2 := cell_ext hal hc
  go_enter Tryz.func62, Tryz.ntmps62
  go_wp2
  go_ret
  exact ⟨rfl, hal⟩
theorem rem2_ok (s : Str) (A : Option Addr) (n c : Nat) (w : World) : Calls Tryz.prog 64 #[.agg #[.string (bs s), .slice A n c]] w fun e w' => e = .returned (.bool ((n : Int) == 0)) ∧ Below w.heap.size w w' := by
  have hal := (Below.refl w.heap.size w).alloc (Nat.le_refl _) (.cells #[.string (bs s), .slice A n c] 43)
  obtain ⟨p0, p1, _, _, _⟩ := (Blk.new w 43 #[.string (bs s), .slice A n c]).two
  go_enter Tryz.func64, Tryz.ntmps64
  go_wp2
  go_ret
  exact ⟨rfl, hal⟩
/-- the number of postings that a value holds -/
def valLen : Value → Int
  | .slice _ n _ => n
  | _ => 0
theorem new1 (w : World) (a b : Value) (t : TypeId) : ∃ g V, w.heap.size = g ∧ w.alloc (.cells #[a, b] t) = V ∧ Blk V g t #[a, b] ∧ Below w.heap.size w V := ⟨_, _, rfl, rfl, Blk.new w t _, (Below.refl _ _).alloc (Nat.le_refl _) _⟩
theorem below_grown {w w' : World} (h : Below w.heap.size w w') (row : Option Nat) : w.grownBy w' row := ⟨h.os, h.tape, h.output, h.size, fun b hb _ => h.block b hb⟩
theorem gr_trans {w w1 w2 : World} {row : Option Nat} (h1 : w.grownBy w1 row) (h2 : w1.grownBy w2 row) : w.grownBy w2 row := ⟨h2.os.trans h1.os, h2.tape.trans h1.tape, h2.output.trans h1.output, Nat.le_trans h1.size h2.size, fun b hb hn => (h2.block b (Nat.lt_of_lt_of_le hb h1.size) hn).trans (h1.block b hb hn)⟩
theorem gr_set (w : World) (g i : Nat) (u : Value) : w.grownBy (w.setCell ⟨g, i, none⟩ u) (some g) := ⟨rfl, rfl, rfl, by simp, fun b _ hn => heap_set_ne _ _ _ fun e => hn (by rw [e])⟩
/-- an element's two cells are turned -/
theorem Own.putP2 {w : World} {B g n c : Nat} {e : TypeId} {l : List (Int × Value)} (h : Own rpC M0 w B e (.slice (some ⟨g, 0, none⟩) n c) l) {k : Nat} (hk : k < l.length) {x : Int} {u : Value} (hx : -9223372036854775808 ≤ x ∧ x ≤ 9223372036854775807) (hu : u.oneCell' = true) : Own rpC M0 ((w.setCell ⟨g, k * 2, none⟩ (.int .i64 x)).setCell ⟨g, k * 2 + 1, none⟩ u) B e (.slice (some ⟨g, 0, none⟩) n c) (l.set k (x, u)) := by
  have h1 : Own rpC M0 (w.setCell ⟨g, k * 2, none⟩ (.int .i64 x)) B e (.slice (some ⟨g, 0, none⟩) n c) (l.set k (x, l[k].2)) := h.putF flatC_rp (k := k) (r := 0) hk (by show 0 < 1 + 1; omega) (fun cs hcs => by
    obtain ⟨c1, d1, e, h4, h5⟩ := hcs
    have hc1 := intC.len h4
    obtain ⟨y, rfl⟩ : ∃ y, c1 = [y] := List.length_eq_one_iff.1 hc1
    subst e
    exact ⟨[.int .i64 x], d1, rfl, ⟨rfl, hx⟩, h5⟩)
  have h2 := h1.putP (k := k) (by rw [List.length_set]; exact hk) hu
  rw [List.set_set, List.getElem_set_self] at h2
  exact h2
theorem Own.putT2 {w : World} {B g n c : Nat} {e : TypeId} {l : List (Str × Value)} (h : Own rtC M0 w B e (.slice (some ⟨g, 0, none⟩) n c) l) {k : Nat} (hk : k < l.length) {x : Str} {u : Value} (hx : x.length ≤ maxLen) (hu : u.oneCell' = true) : Own rtC M0 ((w.setCell ⟨g, k * 2, none⟩ (.string (bs x))).setCell ⟨g, k * 2 + 1, none⟩ u) B e (.slice (some ⟨g, 0, none⟩) n c) (l.set k (x, u)) := by
  have h1 : Own rtC M0 (w.setCell ⟨g, k * 2, none⟩ (.string (bs x))) B e (.slice (some ⟨g, 0, none⟩) n c) (l.set k (x, l[k].2)) := h.putF flatC_rt (k := k) (r := 0) hk (by show 0 < 1 + 1; omega) (fun cs hcs => by
    obtain ⟨c1, d1, e, h4, h5⟩ := hcs
    have hc1 := strC.len h4
    obtain ⟨y, rfl⟩ : ∃ y, c1 = [y] := List.length_eq_one_iff.1 hc1
    subst e
    exact ⟨[.string (bs x)], d1, rfl, ⟨rfl, hx⟩, h5⟩)
  have h2 := h1.putT (k := k) (by rw [List.length_set]; exact hk) hu
  rw [List.set_set, List.getElem_set_self] at h2
  exact h2
theorem Own.cutClear {P : Program} {k bytes : Nat} {t e : TypeId} (T : SlT P k t e bytes) (hone : ∀ i z, P.info? e = some i → i.zero = some z → ∀ u ∈ z.cells.toList, u.oneCell' = true) {α : Type} {C : Codec α} (hk : C.n = k) {M : Nat → Prop} {w : World} {B g n c : Nat} {R : List α} (own : Own C M w B e (.slice (some ⟨g, 0, none⟩) n c) R) {i : Nat} (hi : i < R.length) :
    ∃ w', (∀ ty, (Builtin.clear_ #[t] ty #[.slice (some ⟨g, i * k, none⟩) (R.length - i) (c - i)]).run P w = .ok (.tuple #[]) w') ∧ Own C M w' B e (.slice (some ⟨g, 0, none⟩) i c) (R.take i) ∧ w.grownBy w' (some g) := by
  subst hk
  obtain ⟨g', c', cur, hv, hlc, hcm, hB, hblk, hsz⟩ := own.blk (by omega)
  injection hv with hv1 hv2 hv3
  injection hv1 with hv1
  injection hv1 with hv1
  subst hv1 hv3
  have hels := (own.cells hblk).2
  have hpos := C.pos
  have h1 : i * C.n + (R.length - i) * C.n ≤ cur.size := by
    rw [← Nat.add_mul, hsz]
    exact Nat.mul_le_mul_right _ (by omega)
  obtain ⟨zs, hzl, hclr⟩ := run_clear_in (P := P) T hblk (o := i * C.n) (R.length - i) (c - i) (by omega) hpos hone h1
  have hgr : w.grownBy (w.setRow g (splice cur.toList (i * C.n) zs).toArray) (some g) := ⟨rfl, rfl, rfl, by simp [World.setRow], fun k _ hne => setRow_other _ _ _ _ (fun e => hne (by rw [e]))⟩
  refine ⟨_, hclr, ?_, hgr⟩
  have hel := hels.take i
  have h2 : i * C.n ≤ R.length * C.n := Nat.mul_le_mul_right _ (by omega)
  rw [List.take_take, Nat.min_eq_left h2] at hel
  refine Own.mk_row hblk.setRow hB ?_ (by rw [List.length_take]; omega) (by omega) hcm (hel.keep (fun b hb hn => hgr.block b hb fun e => hn (.inr (by injection e))) hgr.size) ?_
  · rw [List.size_toArray, length_splice _ _ _ (by rw [hzl, Array.length_toList]; exact h1), Array.length_toList]; exact hsz
  · rw [List.toList_toArray, splice, List.take_append_of_le_length (by rw [List.length_take, Array.length_toList]; omega), List.take_take, Nat.min_self]
/-- how a row stands behind some rounds -/
structure Kpt {α : Type} (q : α → Bool) (l R : List α) (i j : Nat) : Prop where
  len : R.length = l.length
  ij : i < j
  jl : j ≤ l.length
  tk : R.take i = (l.take j).filter q
  dr : ∀ m (h : m < l.length) (h' : m < R.length), j ≤ m → R[m] = l[m]
theorem Kpt.start {α : Type} {q : α → Bool} {l : List α} {k : Nat} (hk : k < l.length) (h1 : ∀ m (h : m < l.length), m < k → q l[m] = true) (h2 : q l[k] = false) : Kpt q l l k (k + 1) := by
  refine ⟨rfl, by omega, hk, ?_, fun _ _ _ _ => rfl⟩
  rw [List.take_succ_eq_append_getElem hk, List.filter_append, List.filter_cons_of_neg (by simpa using h2), List.filter_nil, List.append_nil]
  refine (List.filter_eq_self.2 fun a ha => ?_).symm
  obtain ⟨m, hm, rfl⟩ := List.mem_iff_getElem.1 ha
  rw [List.length_take] at hm
  rw [List.getElem_take]
  exact h1 m (by omega) (by omega)
theorem Kpt.drop {α : Type} {q : α → Bool} {l R : List α} {i j : Nat} (h : Kpt q l R i j) (hj : j < l.length) (hq : q l[j] = false) : Kpt q l R i (j + 1) := by
  refine ⟨h.len, by have := h.ij; omega, hj, ?_, fun m hm hm' hle => h.dr m hm hm' (by omega)⟩
  rw [List.take_succ_eq_append_getElem hj, List.filter_append, List.filter_cons_of_neg (by simpa using hq), List.filter_nil, List.append_nil]
  exact h.tk
theorem Kpt.keep {α : Type} {q : α → Bool} {l R : List α} {i j : Nat} (h : Kpt q l R i j) (hj : j < l.length) (hq : q l[j] = true) : Kpt q l (R.set i l[j]) (i + 1) (j + 1) := by
  have hij := h.ij
  have hl := h.len
  refine ⟨by rw [List.length_set]; exact hl, by omega, hj, ?_, fun m hm hm' hle => ?_⟩
  · rw [List.take_succ_eq_append_getElem hj, List.filter_append, List.filter_cons_of_pos (by simpa using hq), List.filter_nil, ← h.tk, List.take_succ_eq_append_getElem (by rw [List.length_set]; omega), List.getElem_set_self, List.take_set_of_le (Nat.le_refl _)]
  · rw [List.getElem_set_ne (by omega)]
    exact h.dr m hm (by rw [List.length_set] at hm'; exact hm') (by omega)
theorem Kpt.end_ {α : Type} {q : α → Bool} {l R : List α} {i : Nat} (h : Kpt q l R i l.length) : R.take i = l.filter q := by rw [h.tk, List.take_length]

set_option maxHeartbeats 2000000 in
theorem indexFuncPost_ok (id : Int) (bc : Nat) (v : Value) (l : List (Int × Value)) (w : World) (h : SlR rpC M0 w v l) (hc : w.cell? ⟨bc, 0, none⟩ = some (.int .i64 id)) : Calls Tryz.prog 116 #[v, .func (.func 62) #[] #[.pointer (some ⟨bc, 0, none⟩)]] w fun e w' =>
    ∃ j : Int, e = .returned (.int .i64 j) ∧ ((j = -1 ∧ ∀ r ∈ l, (r.1 == id) = false) ∨ ∃ (k : Nat) (hk : k < l.length), j = (k : Int) ∧ (l[k].1 == id) = true ∧ ∀ (m : Nat) (hm : m < l.length), m < k → (l[m].1 == id) = false) ∧ Below w.heap.size w w' := by
  obtain ⟨A, c, rfl, hlc, hcm⟩ := h.form
  unfold maxLen at hcm
  have Hh := Lib.hid h
  clear h
  have hbw := Below.refl w.heap.size w
  go_enter Tryz.func116, Tryz.ntmps116
  go_wp2
  go_loopw [8] (fun iv wr => ∃ k : Nat, k ≤ l.length ∧ iv = .int .i64 (k : Int) ∧ Hid (∀ (m : Nat) (hm : m < l.length), m < k → (l[m].1 == id) = false) ∧ Below w.heap.size w wr) (fun iv _ => l.length - (intOf iv).toNat)
  case atStart => exact ⟨0, Nat.zero_le _, rfl, Lib.hid fun m _ h => absurd h (by omega), hbw⟩
  case round =>
    obtain ⟨k, hk, rfl, hno, hbr⟩ := hrel
    clear hbw
    by_cases hlt : k < l.length
    · obtain ⟨bb, off, rfl, _, p0, p1⟩ := (Hh.out.ext hbr).rpAt hlt
      have hc1 := cell_ext hbr hc
      obtain ⟨⟨pk, pv⟩, hp⟩ : ∃ p, l[k] = p := ⟨_, rfl⟩
      rw [hp] at p0 p1
      dsimp only at p0 p1
      have hcl := rem1_ok pk id pv bc wr hc1
      have Hcl := Lib.hid hcl; have Hp := Lib.hid hp
      have hi0 : (0 : Int) ≤ (k : Int) := by omega
      have hi1 : (k : Int) < (l.length : Int) := by omega
      have hq1 : IntKind.i64.wrap (k : Int) = (k : Int) := IntWalk.i64_in _ (by omega)
      clear hcl hp
      go_wp2_with fail
      refine Hcl.out.mono ?_
      rintro e w1 ⟨rfl, hb1⟩
      have hbr1 := hbr.trans (hb1.mono hbr.size)
      clear hbr hb1 p0 p1 Hcl
      cases hh : (((pk, pv) : Int × Value).1 == id) with
      | true =>
        dsimp only at hh
        go_wp2
        go_ret
        exact ⟨_, rfl, .inr ⟨k, hlt, rfl, by rw [Hp.out]; exact hh, hno.out⟩, hbr1⟩
      | false =>
        dsimp only at hh
        go_wp2
        go_roundw
        case rel => exact ⟨k + 1, by omega, by go_num, Lib.hid fun m hm hmk => by
          by_cases e : m = k
          · subst e; rw [Hp.out]; exact hh
          · exact hno.out m hm (by omega), hbr1⟩
        case measure => simp [intOf]; omega
    · obtain rfl : k = l.length := by omega
      go_wp2
      go_ret
      exact ⟨_, rfl, .inl ⟨rfl, fun r hr => by
        obtain ⟨m, hm, rfl⟩ := List.mem_iff_getElem.1 hr
        exact hno.out m hm hm⟩, hbr⟩

set_option maxHeartbeats 2000000 in
theorem indexFuncTerm_ok  (v : Value) (l : List (Str × Value)) (w : World) (h : SlR rtC M0 w v l) (hsh : ∀ r ∈ l, ∃ A n c, r.2 = .slice A n c) : Calls Tryz.prog 117 #[v, .func (.func 64) #[] #[]] w fun e w' =>
    ∃ j : Int, e = .returned (.int .i64 j) ∧ ((j = -1 ∧ ∀ r ∈ l, (valLen r.2 == 0) = false) ∨ ∃ (k : Nat) (hk : k < l.length), j = (k : Int) ∧ (valLen l[k].2 == 0) = true ∧ ∀ (m : Nat) (hm : m < l.length), m < k → (valLen l[m].2 == 0) = false) ∧ Below w.heap.size w w' := by
  obtain ⟨A, c, rfl, hlc, hcm⟩ := h.form
  unfold maxLen at hcm
  have Hh := Lib.hid h
  clear h
  have hbw := Below.refl w.heap.size w
  go_enter Tryz.func117, Tryz.ntmps117
  go_wp2
  go_loopw [8] (fun iv wr => ∃ k : Nat, k ≤ l.length ∧ iv = .int .i64 (k : Int) ∧ Hid (∀ (m : Nat) (hm : m < l.length), m < k → (valLen l[m].2 == 0) = false) ∧ Below w.heap.size w wr) (fun iv _ => l.length - (intOf iv).toNat)
  case atStart => exact ⟨0, Nat.zero_le _, rfl, Lib.hid fun m _ h => absurd h (by omega), hbw⟩
  case round =>
    obtain ⟨k, hk, rfl, hno, hbr⟩ := hrel
    clear hbw
    by_cases hlt : k < l.length
    · obtain ⟨bb, off, rfl, _, p0, p1⟩ := (Hh.out.ext hbr).rtAt hlt
      obtain ⟨Ap, np, cp, hsp⟩ := hsh _ (List.getElem_mem hlt)
      obtain ⟨⟨pk, pv⟩, hp⟩ : ∃ p, l[k] = p := ⟨_, rfl⟩
      rw [hp] at p0 p1
      dsimp only at p0 p1
      rw [hp] at hsp
      dsimp only at hsp
      subst hsp
      have hcl := rem2_ok pk Ap np cp wr
      have Hcl := Lib.hid hcl; have Hp := Lib.hid hp
      have hi0 : (0 : Int) ≤ (k : Int) := by omega
      have hi1 : (k : Int) < (l.length : Int) := by omega
      have hq1 : IntKind.i64.wrap (k : Int) = (k : Int) := IntWalk.i64_in _ (by omega)
      clear hcl hp
      go_wp2_with fail
      refine Hcl.out.mono ?_
      rintro e w1 ⟨rfl, hb1⟩
      have hbr1 := hbr.trans (hb1.mono hbr.size)
      clear hbr hb1 p0 p1 Hcl
      cases hh : (valLen ((pk, Value.slice Ap np cp) : Str × Value).2 == 0) with
      | true =>
        dsimp only [valLen] at hh
        go_wp2
        go_ret
        exact ⟨_, rfl, .inr ⟨k, hlt, rfl, by rw [Hp.out]; exact hh, hno.out⟩, hbr1⟩
      | false =>
        dsimp only [valLen] at hh
        go_wp2
        go_roundw
        case rel => exact ⟨k + 1, by omega, by go_num, Lib.hid fun m hm hmk => by
          by_cases e : m = k
          · subst e; rw [Hp.out]; exact hh
          · exact hno.out m hm (by omega), hbr1⟩
        case measure => simp [intOf]; omega
    · obtain rfl : k = l.length := by omega
      go_wp2
      go_ret
      exact ⟨_, rfl, .inl ⟨rfl, fun r hr => by
        obtain ⟨m, hm, rfl⟩ := List.mem_iff_getElem.1 hr
        exact hno.out m hm hm⟩, hbr⟩

set_option maxHeartbeats 4000000 in
theorem deleteFuncPost_ok (id : Int) (bc : Nat) (v : Value) (l : List (Int × Value)) (B : Nat) (w : World) (hown : Own rpC M0 w B 96 v l) (hBw : B ≤ w.heap.size) (hc : w.cell? ⟨bc, 0, none⟩ = some (.int .i64 id)) (hcn : v.ownBlock ≠ some bc) (hsh : ∀ r ∈ l, ∃ A n c, r.2 = .slice A n c) : Calls Tryz.prog 61 #[v, .func (.func 62) #[] #[.pointer (some ⟨bc, 0, none⟩)]] w fun e w' =>
    ∃ v', e = .returned v' ∧ Own rpC M0 w' B 96 v' (l.filter fun r => !(r.1 == id)) ∧ w.grownBy w' v.ownBlock ∧ v'.ownBlock = v.ownBlock := by
  obtain ⟨A, c, rfl, hlc, hcm⟩ := hown.shape
  have hcm' := hcm
  unfold maxLen at hcm'
  have hif := indexFuncPost_ok id bc (.slice A l.length c) l w hown.read0 hc
  have Hif := Lib.hid hif; have Hown := Lib.hid hown
  clear hif hown
  go_enter Tryz.func61, Tryz.ntmps61
  go_wp2_with fail
  refine Hif.out.mono ?_
  rintro e w1 ⟨j0, rfl, hj, hb1⟩
  rcases hj with ⟨rfl, hno⟩ | ⟨k0, hk0, rfl, hyes, hno⟩
  · go_wp2
    go_ret
    have hfl : l.filter (fun r => !(r.1 == id)) = l := List.filter_eq_self.2 fun r hr => by rw [hno r hr]; rfl
    exact ⟨_, rfl, by rw [hfl]; exact Hown.out.ext hb1, below_grown hb1 _, rfl⟩
  · obtain ⟨g, c', cur, hv, _, _, hBg, hblk, _⟩ := (Hown.out.ext hb1).blk (by omega)
    injection hv with hv1 hv2 hv3
    subst hv1 hv3
    have hgl := hblk.lt
    have hk9 : ((k0 : Int) == -1) = false := beq_eq_false_iff_ne.2 (by omega)
    have hk8 : IntKind.i64.wrap ((k0 : Int) + 1) = ((k0 + 1 : Nat) : Int) := by rw [IntWalk.i64_in _ (by omega)]; omega
    have Hst := Lib.hid (Kpt.start (q := fun r => !(r.1 == id)) hk0 (fun m hm hmk => by rw [hno m hm hmk]; rfl) (by rw [hyes]; rfl))
    have Hgr0 : Hid (w.grownBy w1 (some g)) := Lib.hid (below_grown hb1 _)
    have Hown1 := Lib.hid (Hown.out.ext hb1)
    clear hblk hno hyes Hif
    go_wp2
    go_loopw [5, 6] (fun iv jv wr => ∃ (i j : Nat) (R : List (Int × Value)), iv = .int .i64 (i : Int) ∧ jv = .int .i64 (j : Int) ∧ Hid (Kpt (fun r => !(r.1 == id)) l R i j) ∧ Hid (Own rpC M0 wr B 96 (.slice (some ⟨g, 0, none⟩) l.length c) R) ∧ Hid (w.grownBy wr (some g))) (fun _ jv _ => l.length - (intOf jv).toNat)
    case atStart => exact ⟨k0, k0 + 1, l, rfl, by go_num, Hst, Hown1, Hgr0⟩
    case round =>
      clear Hst Hown1 Hgr0 hb1
      obtain ⟨i, j, R, rfl, rfl, hkp, how, hgr⟩ := hrel
      have hij := hkp.out.ij
      have hjl := hkp.out.jl
      have hRl := hkp.out.len
      by_cases hlt : j < l.length
      · have hjR : j < R.length := by omega
        obtain ⟨g', c', hv, _, _, _, _, p0, p1, ho1, hb1, hb2, _⟩ := how.out.rpAt hjR
        injection hv with hv1 hv2 hv3
        injection hv1 with hv1
        injection hv1 with hv1
        subst hv1 hv3
        have hRj := hkp.out.dr j hlt hjR (Nat.le_refl _)
        obtain ⟨Ap, np, cp, hsp⟩ := hsh _ (List.getElem_mem hlt)
        have hcr : wr.cell? ⟨bc, 0, none⟩ = some (.int .i64 id) := by rw [← hc]; simp only [World.cell?, hgr.out.block bc (World.block_lt_of_cell? w _ hc) (fun e => hcn (show some g = some bc from e.symm))]
        obtain ⟨⟨pk, pv⟩, hp⟩ : ∃ p, l[j] = p := ⟨_, rfl⟩
        rw [hRj, hp] at p0 p1 ho1 hb1 hb2
        dsimp only at p0 p1 ho1 hb1 hb2
        rw [hp] at hsp
        dsimp only at hsp
        subst hsp
        obtain ⟨g8, V, hg8, hV, kb, hbV⟩ := new1 wr (.int .i64 pk) (Value.slice Ap np cp) 96
        have hcl := rem1_ok pk id (Value.slice Ap np cp) bc V (cell_ext hbV hcr)
        have Hcl := Lib.hid hcl; have Hp := Lib.hid hp; have Hv := Lib.hid (And.intro hv2 hRj); have Hbn := Lib.hid (And.intro ho1 (And.intro hb1 hb2))
        have hi0 : (0 : Int) ≤ (j : Int) := by omega
        have hi1 : (j : Int) < (l.length : Int) := by omega
        have hq1 : IntKind.i64.wrap (j : Int) = (j : Int) := IntWalk.i64_in _ (by omega)
        obtain ⟨f0, f1, _, _, _⟩ := kb.two
        have HV := Lib.hid (And.intro hV hg8)
        clear hcl hp hv2 hRj hV hg8 ho1 hb1 hb2 hcr
        go_wp2_with fail
        try rw [HV.out.1, HV.out.2]
        refine Hcl.out.mono ?_
        rintro e w2 ⟨rfl, hb2⟩
        have hb8 : Below wr.heap.size wr w2 := hbV.trans (hb2.mono hbV.size)
        have how2 := Lib.hid (how.out.ext hb8)
        have hgr2 := Lib.hid (gr_trans hgr.out (below_grown hb8 _))
        obtain ⟨f2, f3, _, _, _⟩ := (kb.ext hb2).two
        clear p0 p1 f0 f1 hb2 hbV kb Hcl how hgr
        cases hh : (((pk, (Value.slice Ap np cp)) : Int × Value).1 == id) with
        | true =>
          dsimp only at hh
          clear f2 f3
          go_wp2
          go_roundw
          case rel => exact ⟨i, j + 1, R, rfl, by go_num, Lib.hid (hkp.out.drop hlt (by rw [Hp.out]; simpa using hh)), how2, hgr2⟩
          case measure => simp [intOf]; omega
        | false =>
          dsimp only at hh
          obtain ⟨g', c', hv, _, _, _, _, y0, y1, _, _, _, hfz⟩ := how2.out.rpAt (k := i) (by omega)
          injection hv with hv1 hv2 hv3
          injection hv1 with hv1
          injection hv1 with hv1
          subst hv1 hv3
          have z0 := hfz (i * 2)
          have z1 := hfz (i * 2 + 1)
          have hii0 : (0 : Int) ≤ (i : Int) := by omega
          have hii1 : (i : Int) < (l.length : Int) := by omega
          have hq2 : IntKind.i64.wrap (i : Int) = (i : Int) := IntWalk.i64_in _ (by omega)
          clear hfz hv2 
          go_wp2
          go_roundw
          case rel => exact ⟨i + 1, j + 1, R.set i (pk, (Value.slice Ap np cp)), by go_num, by go_num, Lib.hid (by have h9 := hkp.out.keep hlt (by rw [Hp.out]; simpa using hh); rw [Hp.out] at h9; exact h9), Lib.hid (how2.out.putP2 (by omega) Hbn.out.2 Hbn.out.1), Lib.hid (gr_trans hgr2.out (gr_trans (gr_set _ _ _ _) (gr_set _ _ _ _)))⟩
          case measure => simp [intOf]; omega
      · obtain rfl : j = l.length := by omega
        obtain ⟨w9, hclr, hown9, hgr9⟩ := how.out.cutClear (t := 31) TPosts onePost rfl (i := i) (by omega)
        rw [hRl] at hclr
        rw [hkp.out.end_] at hown9
        have hlen : (l.filter fun r => !(r.1 == id)).length = i := by rw [← hkp.out.end_, List.length_take]; omega
        have Hf := Lib.hid (And.intro hown9 (gr_trans hgr.out hgr9))
        have j2 : (i : Int) ≤ (l.length : Int) := by omega
        have j3 : (l.length : Int) ≤ (c : Int) := by omega
        have j4 : ¬ c = i := by omega
        have j5 : i ≤ c := by omega
        have j6 : (0 : Int) ≤ (i : Int) := by omega
        clear hown9 hgr9 hlen how hgr
        go_wp2
        go_ret
        exact ⟨_, rfl, Hf.out.1, Hf.out.2, rfl⟩

set_option maxHeartbeats 4000000 in
theorem deleteFuncTerm_ok  (v : Value) (l : List (Str × Value)) (B : Nat) (w : World) (hown : Own rtC M0 w B 43 v l) (hBw : B ≤ w.heap.size) (hsh : ∀ r ∈ l, ∃ A n c, r.2 = .slice A n c) : Calls Tryz.prog 63 #[v, .func (.func 64) #[] #[]] w fun e w' =>
    ∃ v', e = .returned v' ∧ Own rtC M0 w' B 43 v' (l.filter fun r => !(valLen r.2 == 0)) ∧ w.grownBy w' v.ownBlock ∧ v'.ownBlock = v.ownBlock := by
  obtain ⟨A, c, rfl, hlc, hcm⟩ := hown.shape
  have hcm' := hcm
  unfold maxLen at hcm'
  have hif := indexFuncTerm_ok  (.slice A l.length c) l w hown.read0 hsh
  have Hif := Lib.hid hif; have Hown := Lib.hid hown
  clear hif hown
  go_enter Tryz.func63, Tryz.ntmps63
  go_wp2_with fail
  refine Hif.out.mono ?_
  rintro e w1 ⟨j0, rfl, hj, hb1⟩
  rcases hj with ⟨rfl, hno⟩ | ⟨k0, hk0, rfl, hyes, hno⟩
  · go_wp2
    go_ret
    have hfl : l.filter (fun r => !(valLen r.2 == 0)) = l := List.filter_eq_self.2 fun r hr => by rw [hno r hr]; rfl
    exact ⟨_, rfl, by rw [hfl]; exact Hown.out.ext hb1, below_grown hb1 _, rfl⟩
  · obtain ⟨g, c', cur, hv, _, _, hBg, hblk, _⟩ := (Hown.out.ext hb1).blk (by omega)
    injection hv with hv1 hv2 hv3
    subst hv1 hv3
    have hgl := hblk.lt
    have hk9 : ((k0 : Int) == -1) = false := beq_eq_false_iff_ne.2 (by omega)
    have hk8 : IntKind.i64.wrap ((k0 : Int) + 1) = ((k0 + 1 : Nat) : Int) := by rw [IntWalk.i64_in _ (by omega)]; omega
    have Hst := Lib.hid (Kpt.start (q := fun r => !(valLen r.2 == 0)) hk0 (fun m hm hmk => by rw [hno m hm hmk]; rfl) (by rw [hyes]; rfl))
    have Hgr0 : Hid (w.grownBy w1 (some g)) := Lib.hid (below_grown hb1 _)
    have Hown1 := Lib.hid (Hown.out.ext hb1)
    clear hblk hno hyes Hif
    go_wp2
    go_loopw [5, 6] (fun iv jv wr => ∃ (i j : Nat) (R : List (Str × Value)), iv = .int .i64 (i : Int) ∧ jv = .int .i64 (j : Int) ∧ Hid (Kpt (fun r => !(valLen r.2 == 0)) l R i j) ∧ Hid (Own rtC M0 wr B 43 (.slice (some ⟨g, 0, none⟩) l.length c) R) ∧ Hid (w.grownBy wr (some g))) (fun _ jv _ => l.length - (intOf jv).toNat)
    case atStart => exact ⟨k0, k0 + 1, l, rfl, by go_num, Hst, Hown1, Hgr0⟩
    case round =>
      clear Hst Hown1 Hgr0 hb1
      obtain ⟨i, j, R, rfl, rfl, hkp, how, hgr⟩ := hrel
      have hij := hkp.out.ij
      have hjl := hkp.out.jl
      have hRl := hkp.out.len
      by_cases hlt : j < l.length
      · have hjR : j < R.length := by omega
        obtain ⟨g', c', hv, _, _, _, _, p0, p1, ho1, hb, _⟩ := how.out.rtAt hjR
        injection hv with hv1 hv2 hv3
        injection hv1 with hv1
        injection hv1 with hv1
        subst hv1 hv3
        have hRj := hkp.out.dr j hlt hjR (Nat.le_refl _)
        obtain ⟨Ap, np, cp, hsp⟩ := hsh _ (List.getElem_mem hlt)
        obtain ⟨⟨pk, pv⟩, hp⟩ : ∃ p, l[j] = p := ⟨_, rfl⟩
        rw [hRj, hp] at p0 p1 ho1 hb
        dsimp only at p0 p1 ho1 hb
        rw [hp] at hsp
        dsimp only at hsp
        subst hsp
        obtain ⟨g8, V, hg8, hV, kb, hbV⟩ := new1 wr (.string (bs pk)) (Value.slice Ap np cp) 43
        have hcl := rem2_ok pk Ap np cp V
        have Hcl := Lib.hid hcl; have Hp := Lib.hid hp; have Hv := Lib.hid (And.intro hv2 hRj); have Hbn := Lib.hid (And.intro ho1 hb)
        have hi0 : (0 : Int) ≤ (j : Int) := by omega
        have hi1 : (j : Int) < (l.length : Int) := by omega
        have hq1 : IntKind.i64.wrap (j : Int) = (j : Int) := IntWalk.i64_in _ (by omega)
        obtain ⟨f0, f1, _, _, _⟩ := kb.two
        have HV := Lib.hid (And.intro hV hg8)
        clear hcl hp hv2 hRj hV hg8 ho1 hb
        go_wp2_with fail
        try rw [HV.out.1, HV.out.2]
        refine Hcl.out.mono ?_
        rintro e w2 ⟨rfl, hb2⟩
        have hb8 : Below wr.heap.size wr w2 := hbV.trans (hb2.mono hbV.size)
        have how2 := Lib.hid (how.out.ext hb8)
        have hgr2 := Lib.hid (gr_trans hgr.out (below_grown hb8 _))
        obtain ⟨f2, f3, _, _, _⟩ := (kb.ext hb2).two
        clear p0 p1 f0 f1 hb2 hbV kb Hcl how hgr
        cases hh : (valLen ((pk, (Value.slice Ap np cp)) : Str × Value).2 == 0) with
        | true =>
          dsimp only [valLen] at hh
          clear f2 f3
          go_wp2
          go_roundw
          case rel => exact ⟨i, j + 1, R, rfl, by go_num, Lib.hid (hkp.out.drop hlt (by rw [Hp.out]; simpa [valLen] using hh)), how2, hgr2⟩
          case measure => simp [intOf]; omega
        | false =>
          dsimp only [valLen] at hh
          obtain ⟨g', c', hv, _, _, _, _, y0, y1, _, _, hfz⟩ := how2.out.rtAt (k := i) (by omega)
          injection hv with hv1 hv2 hv3
          injection hv1 with hv1
          injection hv1 with hv1
          subst hv1 hv3
          have z0 := hfz (i * 2)
          have z1 := hfz (i * 2 + 1)
          have hii0 : (0 : Int) ≤ (i : Int) := by omega
          have hii1 : (i : Int) < (l.length : Int) := by omega
          have hq2 : IntKind.i64.wrap (i : Int) = (i : Int) := IntWalk.i64_in _ (by omega)
          clear hfz hv2 
          go_wp2
          go_roundw
          case rel => exact ⟨i + 1, j + 1, R.set i (pk, (Value.slice Ap np cp)), by go_num, by go_num, Lib.hid (by have h9 := hkp.out.keep hlt (by rw [Hp.out]; simpa [valLen] using hh); rw [Hp.out] at h9; exact h9), Lib.hid (how2.out.putT2 (by omega) Hbn.out.2 Hbn.out.1), Lib.hid (gr_trans hgr2.out (gr_trans (gr_set _ _ _ _) (gr_set _ _ _ _)))⟩
          case measure => simp [intOf]; omega
      · obtain rfl : j = l.length := by omega
        obtain ⟨w9, hclr, hown9, hgr9⟩ := how.out.cutClear (t := 23) TTerms oneTerm rfl (i := i) (by omega)
        rw [hRl] at hclr
        rw [hkp.out.end_] at hown9
        have hlen : (l.filter fun r => !(valLen r.2 == 0)).length = i := by rw [← hkp.out.end_, List.length_take]; omega
        have Hf := Lib.hid (And.intro hown9 (gr_trans hgr.out hgr9))
        have j2 : (i : Int) ≤ (l.length : Int) := by omega
        have j3 : (l.length : Int) ≤ (c : Int) := by omega
        have j4 : ¬ c = i := by omega
        have j5 : i ≤ c := by omega
        have j6 : (0 : Int) ≤ (i : Int) := by omega
        clear hown9 hgr9 hlen how hgr
        go_wp2
        go_ret
        exact ⟨_, rfl, Hf.out.1, Hf.out.2, rfl⟩

end Go.Proofs.YtfjpedgddgbelaaGreatDoor
/-
  index.Remove: what it computes; plain.
-/
namespace Go.Proofs.YtfjpedgddgbelaaGreatDoor
open Go.RowKit
set_option linter.unusedVariables false
namespace Ix
def removeR (x : Idx) (id : Int) : Idx × Int × Int :=
  if (indexF x).1 ≠ 0 then (([], []), indexF x)
  else if id ∈ x.1 then (removeF x id, 0, 0) else (([], []), 6, -3)
/-- one term without a text -/
def cutT (id : Int) (t : Term) : Term := (t.1, t.2.filter fun p => !(p.1 == id))
theorem removeT_eq (id : Int) (ts : List Term) : removeT id ts = (ts.map (cutT id)).filter fun t => !(t.2.length == 0) := rfl
end Ix
theorem erase_countP {id : Int} : ∀ {ids : List Int}, ids.Pairwise (· < ·) → id ∈ ids → ids.countP (· < id) < ids.length ∧ ids.eraseIdx (ids.countP (· < id)) = ids.filter fun n => !(n == id)
  | [], _, h => by cases h
  | n :: r, hp, h => by
    rw [List.pairwise_cons] at hp
    by_cases e : n = id
    · subst e
      have h0 : r.countP (· < n) = 0 := List.countP_eq_zero.2 fun m hm => by have := hp.1 m hm; simp; omega
      rw [List.countP_cons_of_neg (by simp), h0, List.filter_cons_of_neg (by simp)]
      refine ⟨by simp, ?_⟩
      exact (List.filter_eq_self.2 fun m hm => by have := hp.1 m hm; simp; omega).symm
    · have hm : id ∈ r := by rcases List.mem_cons.1 h with h | h; · exact absurd h.symm e
                             · exact h
      have hlt := hp.1 id hm
      have ih := erase_countP hp.2 hm
      rw [List.countP_cons_of_pos (by simpa using hlt), List.filter_cons_of_pos (by simpa using e), List.eraseIdx_cons_succ, ih.2]
      exact ⟨by rw [List.length_cons]; omega, rfl⟩
/-- behind k rounds -/
def CutAt (id : Int) (ts : List Ix.Term) (X : List RTerm) (k : Nat) : Prop := X.map pt = (ts.take k).map (Ix.cutT id) ++ ts.drop k
theorem CutAt.len {id : Int} {ts : List Ix.Term} {X : List RTerm} {k : Nat} (h : CutAt id ts X k) : X.length = ts.length := by
  have := congrArg List.length h
  rw [List.length_map, List.length_append, List.length_map, List.length_take, List.length_drop] at this
  omega
theorem CutAt.keys {id : Int} {ts : List Ix.Term} {X : List RTerm} {k : Nat} (h : CutAt id ts X k) : X.map (fun t => t.1) = ts.map fun t => t.1 := by
  have h1 := congrArg (List.map fun t : Ix.Term => t.1) h
  rw [List.map_map, List.map_append, List.map_map] at h1
  have h2 : (ts.take k).map ((fun t : Ix.Term => t.1) ∘ Ix.cutT id) = (ts.take k).map fun t => t.1 := rfl
  rw [h2, ← List.map_append, List.take_append_drop] at h1
  exact h1
theorem CutAt.alone {id : Int} {ts : List Ix.Term} {X : List RTerm} {k : Nat} (h : CutAt id ts X k) (hs : Al.Sorted ltS ts) {i : Nat} (hi : i < X.length) : ∀ (j : Nat) (hj : j < X.length), X[j].1 = X[i].1 → j = i := by
  intro j hj e
  have hk := h.keys
  have get : ∀ (m : Nat) (hm : m < X.length), ∃ hm' : m < ts.length, X[m].1 = ts[m].1 := fun m hm => by
    have hm' : m < ts.length := by rw [← h.len]; exact hm
    refine ⟨hm', ?_⟩
    have h1 : (X.map fun t => t.1)[m]'(by simpa using hm) = (ts.map fun t => t.1)[m]'(by simpa using hm') := by simp only [hk]
    simpa using h1
  obtain ⟨hj', e1⟩ := get j hj
  obtain ⟨hi', e2⟩ := get i hi
  rw [e1, e2] at e
  have hp := List.pairwise_iff_getElem.1 hs
  rcases Nat.lt_trichotomy j i with hlt | rfl | hlt
  · exact absurd e (tot_str.ne (hp j i hj' hi' hlt))
  · rfl
  · exact absurd e.symm (tot_str.ne (hp i j hi' hj' hlt))
theorem CutAt.at_ {id : Int} {ts : List Ix.Term} {X : List RTerm} {k : Nat} (h : CutAt id ts X k) (hk : k < X.length) (hk' : k < ts.length) : pt X[k] = ts[k] := by
  have h1 : (X.map pt)[k]'(by simpa using hk) = ((ts.take k).map (Ix.cutT id) ++ ts.drop k)[k]'(by rw [← (show X.map pt = _ from h)]; simpa using hk) := by simp only [show X.map pt = _ from h]
  rw [List.getElem_map, List.getElem_append_right (by rw [List.length_map, List.length_take]; omega), List.getElem_drop] at h1
  rw [h1]
  congr 1
  rw [List.length_map, List.length_take]; omega
theorem rp_filter (id : Int) (ps : List RPost) : (ps.map rp).filter (fun r => !(r.1 == id)) = (ps.filter fun p => !(p.1 == id)).map rp := by rw [List.filter_map]; rfl
theorem pp_filter (id : Int) (ps : List RPost) : (ps.filter fun p => !(p.1 == id)).map pp = (ps.map pp).filter fun p => !(p.1 == id) := by rw [List.filter_map]; rfl
theorem CutAt.step {id : Int} {ts : List Ix.Term} {X : List RTerm} {k : Nat} (h : CutAt id ts X k) (hk : k < X.length) (tv : Value) : CutAt id ts (X.set k (X[k].1, tv, X[k].2.2.filter fun p => !(p.1 == id))) (k + 1) := by
  have hk' : k < ts.length := by rw [← h.len]; exact hk
  have ha := h.at_ hk hk'
  unfold CutAt at h ⊢
  rw [List.map_set, h, List.take_succ_eq_append_getElem hk', List.map_append, List.set_append_right _ _ (by rw [List.length_map, List.length_take]; omega), List.length_map, List.length_take, Nat.min_eq_left (by omega), Nat.sub_self, List.drop_eq_getElem_cons hk', List.set_cons_zero, List.append_assoc]
  congr 2
  rw [← ha]
  unfold pt Ix.cutT
  simp only [pp_filter]
theorem CutAt.fin {id : Int} {ts : List Ix.Term} {X : List RTerm} (h : CutAt id ts X ts.length) : (X.filter fun t => !(t.2.2.length == 0)).map pt = Ix.removeT id ts := by
  unfold CutAt at h
  rw [List.take_length, List.drop_length, List.append_nil] at h
  rw [Ix.removeT_eq, ← h, List.filter_map]
  congr 1
  refine List.filter_congr fun t _ => ?_
  simp [pt]
end Go.Proofs.YtfjpedgddgbelaaGreatDoor
/-
  slices.Delete on ints that the call owns.
-/
namespace Go.Proofs.YtfjpedgddgbelaaGreatDoor
open Go.RowKit
set_option linter.unusedVariables false

set_option maxHeartbeats 4000000 in
theorem deleteInt_ok (M : Nat → Prop) (v : Value) (l : List _) (i B : Nat) (w : World) (hown : Own intC M w B 3 v l) (hi : i < l.length) :
    Calls Tryz.prog 60 #[v, .int .i64 (i : Int), .int .i64 ((i : Int) + 1)] w fun e w' => ∃ v', e = .returned v' ∧ Own intC M w' B 3 v' (l.eraseIdx i) ∧ w.grownBy w' v.ownBlock ∧ v'.ownBlock = v.ownBlock := by
  obtain ⟨g, c, cur, rfl, hlc, hcm, hBg, hblk, hsz⟩ := hown.blk (by omega)
  unfold maxLen at hcm
  obtain ⟨m, hm⟩ : ∃ m, l.length = m + 1 := ⟨l.length - 1, by omega⟩
  have hxs := hown.cells hblk
  rw [hm] at hlc hi hxs ⊢
  have Hm := Lib.hid hm
  clear hm
  obtain ⟨htk, hels0⟩ := hxs
  have hels : Els intC (fun b => M b ∨ b = g) w.drew _ l := hels0.ext (below_drewN' _ w 1)
  replace hblk : Blk w.drew g 3 cur := hblk
  clear hels0
  have hgl := hblk.lt
  have hsz' : cur.size = c * 1 := hsz
  have hk2 : (m + 1) * 1 ≤ cur.size := by rw [hsz']; exact Nat.mul_le_mul_right _ hlc
  have hk1 : (i + 1) * 1 ≤ (m + 1) * 1 := Nat.mul_le_mul_right _ hi
  obtain ⟨xs, hxs⟩ : ∃ xs, xs = cur.toList.take ((m + 1) * 1) := ⟨_, rfl⟩
  have hxl : xs.length = (m + 1) * 1 := by rw [hxs, List.length_take, Array.length_toList]; omega
  have hxcell : ∀ (j : Nat) (u : Value), xs[j]? = some u → w.drew.cell? ⟨g, j, none⟩ = some u := fun j u hu => by
    rw [hblk.cell]
    rw [hxs, List.getElem?_take] at hu
    split at hu
    · simpa using hu
    · cases hu
  have hcn : intC.n = 1 := rfl
  rw [hcn, ← hxs] at hels
  have hone := hels.one
  have hnl : (xs.drop ((i + 1) * 1)).length = (m - i) * 1 := by rw [List.length_drop, hxl, ← Nat.sub_mul]; congr 1; omega
  have hsum : i * 1 + (m - i) * 1 = m * 1 := by rw [← Nat.add_mul]; congr 1; omega
  have hrun : ∀ A, (0 < m - i → A = some ⟨g, (i + 1) * 1, none⟩) → (Builtin.append_ #[22, 22] 22 #[.slice (some ⟨g, 0, none⟩) i c, .slice A (m - i) (c - (i + 1))]).run Tryz.prog w.drew = .ok (.slice (some ⟨g, 0, none⟩) m c) (w.drew.setRow g (splice cur.toList (i * 1) (xs.drop ((i + 1) * 1))).toArray) := fun A hA => by
    have h1 := run_append_in (P := Tryz.prog) TInts 22 hblk A (m - i) (c - (i + 1)) (n := i) (c := c) (xs.drop ((i + 1) * 1)) hnl (fun h0 => ⟨_, hA h0, fun j u hu => by
      rw [add_zero_lit]; rw [List.getElem?_drop] at hu; exact hxcell _ _ hu⟩) (fun u hu => hone u (List.mem_of_mem_drop hu)) (by omega) (by rw [hnl, hsum]; omega)
    rw [show i + (m - i) = m by omega] at h1
    exact h1
  obtain ⟨w1, hw1⟩ : ∃ w1, w1 = w.drew.setRow g (splice cur.toList (i * 1) (xs.drop ((i + 1) * 1))).toArray := ⟨_, rfl⟩
  rw [← hw1] at hrun
  have hblk1 : Blk w1 g 3 (splice cur.toList (i * 1) (xs.drop ((i + 1) * 1))).toArray := hw1 ▸ hblk.setRow
  have hlen1 : (splice cur.toList (i * 1) (xs.drop ((i + 1) * 1))).length = cur.size := by rw [length_splice, Array.length_toList]; rw [hnl, hsum, Array.length_toList]; omega
  obtain ⟨zs, hzl, hclr⟩ := run_clear_in (P := Tryz.prog) TInts hblk1 (o := m * 1) 1 (c - m) (by omega) (by omega) oneInt (by rw [List.size_toArray, hlen1]; omega)
  obtain ⟨w2, hw2⟩ : ∃ w2, w2 = w1.setRow g (splice (splice cur.toList (i * 1) (xs.drop ((i + 1) * 1))).toArray.toList (m * 1) zs).toArray := ⟨_, rfl⟩
  rw [← hw2] at hclr
  have hblk2 : Blk w2 g 3 (splice (splice cur.toList (i * 1) (xs.drop ((i + 1) * 1))) (m * 1) zs).toArray := hw2 ▸ hblk1.setRow
  have hgr : w.grownBy w2 (some g) := by
    rw [hw2, hw1]
    exact ⟨rfl, rfl, rfl, by simp [World.setRow], fun k _ hne => (setRow_other _ _ _ _ (fun e => hne (by rw [e]))).trans (setRow_other _ _ _ _ (fun e => hne (by rw [e])))⟩
  have hfin : Own intC M w2 B 3 (.slice (some ⟨g, 0, none⟩) m c) (l.eraseIdx i) := by
    have hlen : (l.eraseIdx i).length = m := by rw [List.length_eraseIdx, if_pos (by have := Hm.out; omega)]; have := Hm.out; omega
    have hel : Els intC (fun b => M b ∨ b = g) w.drew (xs.take (i * 1) ++ xs.drop ((i + 1) * 1)) (l.eraseIdx i) := by
      rw [List.eraseIdx_eq_take_drop_succ]
      exact (hels.take i).append (hels.drop (i + 1))
    refine Own.mk_row hblk2 hBg ?_ hlen (by omega) hcm (hel.keep (fun b hb hn => hgr.block b hb fun e => hn (.inr (by injection e))) hgr.size) ?_
    · rw [List.size_toArray, length_splice]
      · rw [hlen1]; exact hsz
      · rw [hzl, hlen1]; omega
    · rw [List.toList_toArray]
      show (splice (splice cur.toList (i * 1) (xs.drop ((i + 1) * 1))) (m * 1) zs).take (m * 1) = _
      have e1 : (xs.take (i * 1)) = cur.toList.take (i * 1) := by rw [hxs, List.take_take, Nat.min_eq_left (by omega)]
      have h3 : (cur.toList.take (i * 1)).length = i * 1 := by rw [List.length_take, Array.length_toList]; omega
      rw [e1, splice, List.take_append_of_le_length (by rw [List.length_take, hlen1]; omega), List.take_take, Nat.min_self, splice, ← List.append_assoc, List.take_append_of_le_length (by rw [List.length_append, h3, hnl]; omega), List.take_of_length_le (by rw [List.length_append, h3, hnl]; omega)]
  simp only [Nat.mul_one] at hrun hclr
  have Hrun := Lib.hid hrun; have Hclr := Lib.hid hclr; have Hfin := Lib.hid hfin; have Hgr := Lib.hid hgr
  have j1 : ¬ m + 1 = i := by omega
  have j2 : (i : Int) + 1 ≤ (m : Int) + 1 := by omega
  have j3 : (m : Int) + 1 ≤ (c : Int) := by omega
  have j4 : ((i : Int) == (i : Int) + 1) = false := by simp; omega
  have j5 : i ≤ c := by omega
  have j6 : i + 1 ≤ c := by omega
  have j7 : i + 1 ≤ m + 1 := by omega
  have j8 : ¬ c = m := by omega
  clear hrun hclr hfin hgr hw1 hw2 hblk hblk1 hblk2 hels hone hxcell hxl hxs hnl hsum hsz hsz' hk1 hk2 hlen1 hzl htk hown
  have j9 : (i : Int) ≤ (i : Int) + 1 := by omega
  by_cases hc : c = i + 1
  · obtain rfl : i = m := by omega
    subst hc
    go_enter Tryz.func60, Tryz.ntmps60
    go_wp2
    refine wp_region_D (fun _ => True) (fun _ => false) (by kernel_rfl) ?_
    refine anyD_light (i := 0) (v := ?_) rfl (by kernel_rfl) (by kernel_rfl) (by kernel_rfl) (by kernel_rfl) (by kernel_rfl) (fun _ _ _ h => h) (.inl ⟨rfl, fun W' _ => ?_⟩) (S := fun _ => True) trivial ?_
    rotate_left
    · (go_simp; rfl)
    go_simp
    refine anyD_light (i := 1) (v := ?_) rfl (by kernel_rfl) (by kernel_rfl) (by kernel_rfl) (by kernel_rfl) (by kernel_rfl) (fun _ _ _ h => h) (.inl ⟨rfl, fun W' _ => ?_⟩) (S := fun _ => True) trivial ?_
    rotate_left
    · (go_simp; rfl)
    go_simp
    refine anyD_light (i := 3) (v := ?_) rfl (by kernel_rfl) (by kernel_rfl) (by kernel_rfl) (by kernel_rfl) (by kernel_rfl) (fun _ _ _ h => h) (.inl ⟨rfl, fun W' _ => ?_⟩) (S := fun _ => True) trivial ?_
    rotate_left
    · (go_simp; rfl)
    go_simp
    refine anyD_light (i := 4) (v := ?_) rfl (by kernel_rfl) (by kernel_rfl) (by kernel_rfl) (by kernel_rfl) (by kernel_rfl) (fun _ _ _ h => h) (.inl ⟨rfl, fun W' _ => ?_⟩) (S := fun _ => True) trivial ?_
    rotate_left
    · (go_simp; rfl)
    go_simp
    refine anyD_light (i := 2) (v := ?_) rfl (by kernel_rfl) (by kernel_rfl) (by kernel_rfl) (by kernel_rfl) (by kernel_rfl) (fun _ _ _ h => h) (.inl ⟨rfl, fun W' _ => ?_⟩) (S := fun _ => True) trivial ?_
    rotate_left
    · (go_simp; rfl)
    go_simp
    refine anyD_light (i := 5) (v := ?_) rfl (by kernel_rfl) (by kernel_rfl) (by kernel_rfl) (by kernel_rfl) (by kernel_rfl) (fun _ _ _ h => h) (.inl ⟨rfl, fun W' _ => ?_⟩) (S := fun _ => True) trivial ?_
    rotate_left
    · (go_simp; rfl)
    go_simp
    refine anyD_one (i := 6) (by kernel_rfl) rfl rfl (fun K hK => ?_)
    have HK := Lib.hid hK
    clear hK
    have hr := Hrun.out (some ⟨g, 0, none⟩) (fun h => absurd h (by omega))
    simp only [Nat.sub_self] at hr
    refine wp_append_run (.tmp 22) (.tmp 25) rfl (vx := .slice (some ⟨g, 0, none⟩) i (i + 1)) (vy := .slice (some ⟨g, 0, none⟩) 0 0) rfl rfl hr ?_
    clear hr
    refine HK.out _ _ (fun _ => trivial) ?_
    clear HK
    go_simp
    refine anyD_light (i := 7) (v := ?_) rfl (by kernel_rfl) (by kernel_rfl) (by kernel_rfl) (by kernel_rfl) (by kernel_rfl) (fun _ _ _ h => h) (.inl ⟨rfl, fun W' _ => ?_⟩) (S := fun _ => True) trivial ?_
    rotate_left
    · (go_simp; rfl)
    go_simp
    refine anyD_done (by kernel_rfl) ?_ _
    go_simp
    have hcl := Hclr.out
    simp only [Nat.add_sub_cancel_left] at hcl
    go_wp2
    go_ret
    exact ⟨_, rfl, Hfin.out, Hgr.out, rfl⟩
  · go_enter Tryz.func60, Tryz.ntmps60
    go_wp2
    refine wp_region_D (fun _ => True) (fun _ => false) (by kernel_rfl) ?_
    refine anyD_light (i := 0) (v := ?_) rfl (by kernel_rfl) (by kernel_rfl) (by kernel_rfl) (by kernel_rfl) (by kernel_rfl) (fun _ _ _ h => h) (.inl ⟨rfl, fun W' _ => ?_⟩) (S := fun _ => True) trivial ?_
    rotate_left
    · (go_simp; rfl)
    go_simp
    refine anyD_light (i := 1) (v := ?_) rfl (by kernel_rfl) (by kernel_rfl) (by kernel_rfl) (by kernel_rfl) (by kernel_rfl) (fun _ _ _ h => h) (.inl ⟨rfl, fun W' _ => ?_⟩) (S := fun _ => True) trivial ?_
    rotate_left
    · (go_simp; rfl)
    go_simp
    refine anyD_light (i := 3) (v := ?_) rfl (by kernel_rfl) (by kernel_rfl) (by kernel_rfl) (by kernel_rfl) (by kernel_rfl) (fun _ _ _ h => h) (.inl ⟨rfl, fun W' _ => ?_⟩) (S := fun _ => True) trivial ?_
    rotate_left
    · (go_simp; rfl)
    go_simp
    refine anyD_light (i := 4) (v := ?_) rfl (by kernel_rfl) (by kernel_rfl) (by kernel_rfl) (by kernel_rfl) (by kernel_rfl) (fun _ _ _ h => h) (.inl ⟨rfl, fun W' _ => ?_⟩) (S := fun _ => True) trivial ?_
    rotate_left
    · (go_simp; rfl)
    go_simp
    refine anyD_light (i := 2) (v := ?_) rfl (by kernel_rfl) (by kernel_rfl) (by kernel_rfl) (by kernel_rfl) (by kernel_rfl) (fun _ _ _ h => h) (.inl ⟨rfl, fun W' _ => ?_⟩) (S := fun _ => True) trivial ?_
    rotate_left
    · (go_simp; rfl)
    go_simp
    refine anyD_light (i := 5) (v := ?_) rfl (by kernel_rfl) (by kernel_rfl) (by kernel_rfl) (by kernel_rfl) (by kernel_rfl) (fun _ _ _ h => h) (.inl ⟨rfl, fun W' _ => ?_⟩) (S := fun _ => True) trivial ?_
    rotate_left
    · (go_simp; rfl)
    go_simp
    refine anyD_one (i := 6) (by kernel_rfl) rfl rfl (fun K hK => ?_)
    have HK := Lib.hid hK
    clear hK
    have hr := Hrun.out (some ⟨g, i + 1, none⟩) (fun _ => rfl)
    refine wp_append_run (.tmp 22) (.tmp 25) rfl (vx := .slice (some ⟨g, 0, none⟩) i c) (vy := .slice (some ⟨g, i + 1, none⟩) (m - i) (c - (i + 1))) rfl rfl hr ?_
    clear hr
    refine HK.out _ _ (fun _ => trivial) ?_
    clear HK
    go_simp
    refine anyD_light (i := 7) (v := ?_) rfl (by kernel_rfl) (by kernel_rfl) (by kernel_rfl) (by kernel_rfl) (by kernel_rfl) (fun _ _ _ h => h) (.inl ⟨rfl, fun W' _ => ?_⟩) (S := fun _ => True) trivial ?_
    rotate_left
    · (go_simp; rfl)
    go_simp
    refine anyD_done (by kernel_rfl) ?_ _
    go_simp
    have hcl := Hclr.out
    go_wp2
    go_ret
    exact ⟨_, rfl, Hfin.out, Hgr.out, rfl⟩

end Go.Proofs.YtfjpedgddgbelaaGreatDoor
