/-
  Contracts and plain facts, one after another: slices.DeleteFunc on Seen, with the closure of views.Update; append(s[:i], make(S, m)...) where s has no room: a new row. No program is named here.
-/
import Derived.Test.YtjamjkjmlckgeaaGreatDoorF24
import Derived.Test.YtjamjkjmlckgeaaGreatDoorF14
import Derived.Test.YtjamjkjmlckgeaaGreatDoorF36
import Derived.Test.YtjamjkjmlckgeaaGreatDoorShelf
import Derived.Test.YtjamjkjmlckgeaaGreatDoorF7
namespace Go.Proofs.YtjamjkjmlckgeaaGreatDoor
open Go.RowKit
set_option linter.unusedVariables false

theorem vwcell_ext {w w' : World} {b i : Nat} {u : Value} (hb : Below w.heap.size w w') (h : w.cell? ⟨b, i, none⟩ = some u) : w'.cell? ⟨b, i, none⟩ = some u := by
  by_cases hlt : b < w.heap.size
  · exact (hb.cell (p := ⟨b, i, none⟩) hlt).trans h
  · exfalso
    have : w.heap[b]? = none := Array.getElem?_eq_none (by omega)
    simp [World.cell?, this] at h
theorem below_grown {w w' : World} (h : Below w.heap.size w w') (row : Option Nat) : w.grownBy w' row := ⟨h.os, h.tape, h.output, h.size, fun b hb _ => h.block b hb⟩
theorem gr_trans {w w1 w2 : World} {row : Option Nat} (h1 : w.grownBy w1 row) (h2 : w1.grownBy w2 row) : w.grownBy w2 row := ⟨h2.os.trans h1.os, h2.tape.trans h1.tape, h2.output.trans h1.output, Nat.le_trans h1.size h2.size, fun b hb hn => (h2.block b (Nat.lt_of_lt_of_le hb h1.size) hn).trans (h1.block b hb hn)⟩
theorem gr_set (w : World) (g i : Nat) (u : Value) : w.grownBy (w.setCell ⟨g, i, none⟩ u) (some g) := ⟨rfl, rfl, rfl, by simp, fun b _ hn => heap_set_ne _ _ _ fun e => hn (by rw [e])⟩
theorem Own.cutClear {P : Program} {k bytes : Nat} {t e : TypeId} (T : SlT P k t e bytes) (hone : ∀ i z, P.info? e = some i → i.zero = some z → ∀ u ∈ z.cells.toList, u.oneCell' = true) {α : Type} {C : Codec α} (hk : C.n = k) {M : Nat → Prop} {w : World} {B g n c : Nat} {R : List α} (own : Own C M w B e (.slice (some ⟨g, 0, none⟩) n c) R) {i : Nat} (hi : i < R.length) :
    ∃ w', (∀ ty, (Builtin.clear_ #[t] ty #[.slice (some ⟨g, i * k, none⟩) (R.length - i) (c - i)]).run P w = .ok (.tuple #[]) w') ∧ Own C M w' B e (.slice (some ⟨g, 0, none⟩) i c) (R.take i) ∧ w.grownBy w' (some g) := by
  subst hk
  obtain ⟨g', c', cur, hv, hlc, hcm, hB, hblk, hsz⟩ := own.blk (by omega)
  injection hv with hv1 hv2 hv3
  injection hv1 with hv1
  injection hv1 with hv1
  subst hv1 hv3
  have hels := (own.cells hblk).2
  have hpos := C.pos
  have h1 : i * C.n + (R.length - i) * C.n ≤ cur.size := by
    rw [← Nat.add_mul, hsz]
    exact Nat.mul_le_mul_right _ (by omega)
  obtain ⟨zs, hzl, hclr⟩ := run_clear_in (P := P) T hblk (o := i * C.n) (R.length - i) (c - i) (by omega) hpos hone h1
  have hgr : w.grownBy (w.setRow g (splice cur.toList (i * C.n) zs).toArray) (some g) := ⟨rfl, rfl, rfl, by simp [World.setRow], fun k _ hne => setRow_other _ _ _ _ (fun e => hne (by rw [e]))⟩
  refine ⟨_, hclr, ?_, hgr⟩
  have hel := hels.take i
  have h2 : i * C.n ≤ R.length * C.n := Nat.mul_le_mul_right _ (by omega)
  rw [List.take_take, Nat.min_eq_left h2] at hel
  refine Own.mk_row hblk.setRow hB ?_ (by rw [List.length_take]; omega) (by omega) hcm (hel.keep (fun b hb hn => hgr.block b hb fun e => hn (.inr (by injection e))) hgr.size) ?_
  · rw [List.size_toArray, length_splice _ _ _ (by rw [hzl, Array.length_toList]; exact h1), Array.length_toList]; exact hsz
  · rw [List.toList_toArray, splice, List.take_append_of_le_length (by rw [List.length_take, Array.length_toList]; omega), List.take_take, Nat.min_self]
structure Kpt {α : Type} (q : α → Bool) (l R : List α) (i j : Nat) : Prop where
  len : R.length = l.length
  ij : i < j
  jl : j ≤ l.length
  tk : R.take i = (l.take j).filter q
  dr : ∀ m (h : m < l.length) (h' : m < R.length), j ≤ m → R[m] = l[m]
theorem Kpt.start {α : Type} {q : α → Bool} {l : List α} {k : Nat} (hk : k < l.length) (h1 : ∀ m (h : m < l.length), m < k → q l[m] = true) (h2 : q l[k] = false) : Kpt q l l k (k + 1) := by
  refine ⟨rfl, by omega, hk, ?_, fun _ _ _ _ => rfl⟩
  rw [List.take_succ_eq_append_getElem hk, List.filter_append, List.filter_cons_of_neg (by simpa using h2), List.filter_nil, List.append_nil]
  refine (List.filter_eq_self.2 fun a ha => ?_).symm
  obtain ⟨m, hm, rfl⟩ := List.mem_iff_getElem.1 ha
  rw [List.length_take] at hm
  rw [List.getElem_take]
  exact h1 m (by omega) (by omega)
theorem Kpt.drop {α : Type} {q : α → Bool} {l R : List α} {i j : Nat} (h : Kpt q l R i j) (hj : j < l.length) (hq : q l[j] = false) : Kpt q l R i (j + 1) := by
  refine ⟨h.len, by have := h.ij; omega, hj, ?_, fun m hm hm' hle => h.dr m hm hm' (by omega)⟩
  rw [List.take_succ_eq_append_getElem hj, List.filter_append, List.filter_cons_of_neg (by simpa using hq), List.filter_nil, List.append_nil]
  exact h.tk
theorem Kpt.keep {α : Type} {q : α → Bool} {l R : List α} {i j : Nat} (h : Kpt q l R i j) (hj : j < l.length) (hq : q l[j] = true) : Kpt q l (R.set i l[j]) (i + 1) (j + 1) := by
  have hij := h.ij
  have hl := h.len
  refine ⟨by rw [List.length_set]; exact hl, by omega, hj, ?_, fun m hm hm' hle => ?_⟩
  · rw [List.take_succ_eq_append_getElem hj, List.filter_append, List.filter_cons_of_pos (by simpa using hq), List.filter_nil, ← h.tk, List.take_succ_eq_append_getElem (by rw [List.length_set]; omega), List.getElem_set_self, List.take_set_of_le (Nat.le_refl _)]
  · rw [List.getElem_set_ne (by omega)]
    exact h.dr m hm (by rw [List.length_set] at hm'; exact hm') (by omega)
theorem Kpt.end_ {α : Type} {q : α → Bool} {l R : List α} {i : Nat} (h : Kpt q l R i l.length) : R.take i = l.filter q := by rw [h.tk, List.take_length]

theorem oneSn : ∀ i z, Tryz.prog.info? 84 = some i → i.zero = some z → ∀ u ∈ z.cells.toList, u.oneCell' = true := by
  intro i z hi hz
  have h : (Tryz.prog.info? 84).map (fun i => i.zero) = some (some (.agg #[.int .i64 0, .int .i64 0])) := by kernel_rfl
  rw [hi] at h
  simp only [Option.map_some, Option.some.injEq] at h
  rw [hz] at h
  injection h with h
  subst h
  decide
theorem SlR.grown {α : Type} {C : Codec α} {M : Nat → Prop} {w W : World} {v : Value} {l : List α} {g : Nat} (h : SlR C M w v l) (hg : w.grownBy W (some g)) (hM : M g) : SlR C M W v l := h.keep (fun b hb hn => hg.block b hb fun e => hn (by injection e with e; rw [e]; exact hM)) hg.size
theorem containsInts_ok (v : Value) (l : List Int) (x : Int) (w : World) (h : SlR intC M0 w v l) : Calls Tryz.prog 71 #[v, .int .i64 x] w fun e w' => e = .returned (.bool (l.contains x)) ∧ w' = w := by
  obtain ⟨A, c, rfl, hlc, hcm⟩ := h.form
  unfold maxLen at hcm
  by_cases hl : l.length = 0
  · obtain rfl : l = [] := List.length_eq_zero_iff.1 hl
    exact (Tryz.slices_Contains_int_empty A c x w).mono fun e w' ⟨h1, h2⟩ => ⟨by rw [h1]; rfl, h2⟩
  · obtain ⟨b, off, rfl, hat⟩ : ∃ b off, A = some ⟨b, off, none⟩ ∧ ∀ j (hj : j < l.length), w.cell? ⟨b, off + j, none⟩ = some (.int .i64 l[j]) := by
      obtain ⟨b, off, cs, rfl, _, _, _, _⟩ := h.at_ (k := 0) (by omega)
      refine ⟨b, off, rfl, fun j hj => ?_⟩
      obtain ⟨b', off', cs', e, _, _, hr, hc⟩ := h.at_ hj
      injection e with e
      injection e with e1 e2
      subst e1 e2
      obtain ⟨rfl, _⟩ := hr
      have := hc 0 _ rfl
      simpa [intC] using this
    have := Tryz.slices_Contains_int b off l.length c l x w (Nat.le_refl _) (by omega) (fun j hj => by rw [hat j hj]; simp [List.getD_eq_getElem?_getD, List.getElem?_eq_getElem hj])
    rw [List.take_length] at this
    exact this
theorem upd2_ok (a1 a2 : Int) (va : Value) (vl : List Int) (bc : Nat) (w : World) (hva : SlR intC M0 w va vl) (hc : w.cell? ⟨bc, 0, none⟩ = some va) : Calls Tryz.prog 70 #[.agg #[.int .i64 a1, .int .i64 a2], .pointer (some ⟨bc, 0, none⟩)] w fun e w' => e = .returned (.bool (vl.contains a1)) ∧ Below w.heap.size w w' := by
  obtain ⟨Av, cv, rfl, _, _⟩ := hva.form
  have hal := (Below.refl w.heap.size w).alloc (Nat.le_refl _) (.cells #[.int .i64 a1, .int .i64 a2] 84)
  obtain ⟨p0, p1, _, _, _⟩ := (Blk.new w 84 #[.int .i64 a1, .int .i64 a2]).two
  have hc2 := vwcell_ext hal hc
  have hco := containsInts_ok _ vl a1 _ (hva.ext hal)
  obtain ⟨tf, htf⟩ : ∃ t, vl.contains a1 = t := ⟨_, rfl⟩
  rw [htf] at hco ⊢
  have Hco := Lib.hid hco
  clear hva hco htf
  go_enter Tryz.func70, Tryz.ntmps70
  go_wp2_with (go_at_call 71; refine Hco.out.mono ?_; rintro e w1 ⟨rfl, rfl⟩)
  go_ret
  exact ⟨rfl, hal⟩
set_option maxRecDepth 100000 in
set_option maxHeartbeats 4000000 in
theorem indexFuncSn_ok (va : Value) (vl : List Int) (bc : Nat) (v : Value) (l : List Mb.Seen) (w : World) (h : SlR gnC M0 w v l) (hva : SlR intC M0 w va vl) (hc : w.cell? ⟨bc, 0, none⟩ = some va) : Calls Tryz.prog 100 #[v, .func (.func 70) #[] #[.pointer (some ⟨bc, 0, none⟩)]] w fun e w' =>
    ∃ j : Int, e = .returned (.int .i64 j) ∧ ((j = -1 ∧ ∀ r ∈ l, vl.contains r.1 = false) ∨ ∃ (k : Nat) (hk : k < l.length), j = (k : Int) ∧ vl.contains l[k].1 = true ∧ ∀ (m : Nat) (hm : m < l.length), m < k → vl.contains l[m].1 = false) ∧ Below w.heap.size w w' := by
  obtain ⟨A, c, rfl, hlc, hcm⟩ := h.form
  unfold maxLen at hcm
  have Hh := Lib.hid h; have Hva := Lib.hid hva; have Hc := Lib.hid hc
  clear h hva hc
  have hbw := Below.refl w.heap.size w
  go_enter Tryz.func100, Tryz.ntmps100
  go_wp2
  go_loopw [8] (fun iv wr => ∃ k : Nat, k ≤ l.length ∧ iv = .int .i64 (k : Int) ∧ Hid (∀ (m : Nat) (hm : m < l.length), m < k → vl.contains l[m].1 = false) ∧ Below w.heap.size w wr) (fun iv _ => l.length - (intOf iv).toNat)
  case atStart => exact ⟨0, Nat.zero_le _, rfl, Lib.hid fun m _ h => absurd h (by omega), hbw⟩
  case round =>
    obtain ⟨k, hk, rfl, hno, hbr⟩ := hrel
    clear hbw
    by_cases hlt : k < l.length
    · obtain ⟨bb, off, rfl, _, _, p0, p1⟩ := (Hh.out.ext hbr).gnAt hlt
      have hc1 := vwcell_ext hbr Hc.out
      obtain ⟨⟨pk, pv⟩, hp⟩ : ∃ p, l[k] = p := ⟨_, rfl⟩
      rw [hp] at p0 p1
      dsimp only at p0 p1
      have hcl := upd2_ok pk pv va vl bc wr (Hva.out.ext hbr) hc1
      obtain ⟨tf, htf⟩ : ∃ t, vl.contains pk = t := ⟨_, rfl⟩
      rw [htf] at hcl
      have Hcl := Lib.hid hcl; have Hp := Lib.hid hp; have Htf := Lib.hid htf
      have hi0 : (0 : Int) ≤ (k : Int) := by omega
      have hi1 : (k : Int) < (l.length : Int) := by omega
      have hq1 : IntKind.i64.wrap (k : Int) = (k : Int) := IntWalk.i64_in _ (by omega)
      clear hcl hp htf hc1
      go_wp2_with fail
      refine Hcl.out.mono ?_
      rintro e w1 ⟨rfl, hb1⟩
      have hbr1 := hbr.trans (hb1.mono hbr.size)
      clear hbr hb1 p0 p1 Hcl
      cases tf with
      | true =>
        go_wp2
        go_ret
        exact ⟨_, rfl, .inr ⟨k, hlt, rfl, by rw [Hp.out]; exact Htf.out, hno.out⟩, hbr1⟩
      | false =>
        go_wp2
        go_roundw
        case rel => exact ⟨k + 1, by omega, by go_num, Lib.hid fun m hm hmk => by
          by_cases e : m = k
          · subst e; rw [Hp.out]; exact Htf.out
          · exact hno.out m hm (by omega), hbr1⟩
        case measure => simp [intOf]; omega
    · obtain rfl : k = l.length := by omega
      go_wp2
      go_ret
      exact ⟨_, rfl, .inl ⟨rfl, fun r hr => by
        obtain ⟨m, hm, rfl⟩ := List.mem_iff_getElem.1 hr
        exact hno.out m hm hm⟩, hbr⟩

theorem Own.putS2 {w : World} {B g n c : Nat} {e : TypeId} {l : List Mb.Seen} (h : Own gnC M0 w B e (.slice (some ⟨g, 0, none⟩) n c) l) {k : Nat} (hk : k < l.length) {x y : Int} (hx : -9223372036854775808 ≤ x ∧ x ≤ 9223372036854775807) (hy : -9223372036854775808 ≤ y ∧ y ≤ 9223372036854775807) : Own gnC M0 ((w.setCell ⟨g, k * 2, none⟩ (.int .i64 x)).setCell ⟨g, k * 2 + 1, none⟩ (.int .i64 y)) B e (.slice (some ⟨g, 0, none⟩) n c) (l.set k (x, y)) := by
  have hn : n = l.length := by
    obtain ⟨A, c', e, _, _⟩ := h.shape
    injection e
  have h1 := own_putC (C := gnC) (j := 0) (a := (x, l[k].2)) (u := .int .i64 x) h hk (by decide) (fun cs hcs => by
    obtain ⟨c1, d1, rfl, ⟨rfl, h4⟩, ⟨rfl, h5⟩⟩ := hcs
    exact ⟨_, _, rfl, ⟨rfl, hx⟩, ⟨rfl, h5⟩⟩)
  have h2 := own_putC (C := gnC) (j := 1) (a := (x, y)) (u := .int .i64 y) (k := k) h1 (by rw [List.length_set]; exact hk) (by decide) (fun cs hcs => by
    rw [List.getElem_set_self] at hcs
    obtain ⟨c1, d1, rfl, ⟨rfl, h4⟩, ⟨rfl, h5⟩⟩ := hcs
    exact ⟨_, _, rfl, ⟨rfl, h4⟩, ⟨rfl, hy⟩⟩)
  rw [List.set_set] at h2
  exact h2
theorem Own.snAt {w : World} {B : Nat} {e : TypeId} {v : Value} {l : List Mb.Seen} (h : Own gnC M0 w B e v l) {k : Nat} (hk : k < l.length) :
    ∃ g c, v = .slice (some ⟨g, 0, none⟩) l.length c ∧ l.length ≤ c ∧ c ≤ maxLen ∧ B ≤ g ∧ g < w.heap.size ∧ w.cell? ⟨g, k * 2, none⟩ = some (.int .i64 l[k].1) ∧ w.cell? ⟨g, k * 2 + 1, none⟩ = some (.int .i64 l[k].2) ∧ (-9223372036854775808 ≤ l[k].1 ∧ l[k].1 ≤ 9223372036854775807) ∧ (-9223372036854775808 ≤ l[k].2 ∧ l[k].2 ≤ 9223372036854775807) ∧ ∀ j, w.frozen? ⟨g, j, none⟩ = false := by
  obtain ⟨g, c, cs, e, h1, h2, h3, h4, ⟨c1, d1, rfl, ⟨rfl, hb⟩, ⟨rfl, ho⟩⟩, h6, h7⟩ := h.cellsAt hk
  exact ⟨g, c, e, h1, h2, h3, h4, h6 0 _ rfl, h6 1 _ rfl, hb, ho, h7⟩
set_option maxRecDepth 100000 in
set_option maxHeartbeats 4000000 in
theorem deleteFuncSn_ok (va : Value) (vl : List Int) (bc : Nat) (v : Value) (l : List Mb.Seen) (B : Nat) (w : World) (hown : Own gnC M0 w B 84 v l) (hBw : B ≤ w.heap.size) (hva : SlR intC (fun b => v.ownBlock = some b) w va vl) (hc : w.cell? ⟨bc, 0, none⟩ = some va) (hcn : v.ownBlock ≠ some bc) : Calls Tryz.prog 69 #[v, .func (.func 70) #[] #[.pointer (some ⟨bc, 0, none⟩)]] w fun e w' =>
    ∃ v', e = .returned v' ∧ Own gnC M0 w' B 84 v' (l.filter fun r => !vl.contains r.1) ∧ w.grownBy w' v.ownBlock ∧ v'.ownBlock = v.ownBlock := by
  obtain ⟨A, c, rfl, hlc, hcm⟩ := hown.shape
  have hcm' := hcm
  unfold maxLen at hcm'
  have hif := indexFuncSn_ok va vl bc (.slice A l.length c) l w hown.read0 hva.zero hc
  have Hif := Lib.hid hif; have Hown := Lib.hid hown; have Hva := Lib.hid hva
  clear hif hown hva
  go_enter Tryz.func69, Tryz.ntmps69
  go_wp2_with fail
  refine Hif.out.mono ?_
  rintro e w1 ⟨j0, rfl, hj, hb1⟩
  rcases hj with ⟨rfl, hno⟩ | ⟨k0, hk0, rfl, hyes, hno⟩
  · go_wp2
    go_ret
    have hfl : l.filter (fun r => !vl.contains r.1) = l := List.filter_eq_self.2 fun r hr => by rw [hno r hr]; rfl
    exact ⟨_, rfl, by rw [hfl]; exact Hown.out.ext hb1, below_grown hb1 _, rfl⟩
  · obtain ⟨g, c', cur, hv, _, _, hBg, hblk, _⟩ := (Hown.out.ext hb1).blk (by omega)
    injection hv with hv1 hv2 hv3
    subst hv1 hv3
    have hgl := hblk.lt
    have hk9 : ((k0 : Int) == -1) = false := beq_eq_false_iff_ne.2 (by omega)
    have hk8 : IntKind.i64.wrap ((k0 : Int) + 1) = ((k0 + 1 : Nat) : Int) := by rw [IntWalk.i64_in _ (by omega)]; omega
    have Hst := Lib.hid (Kpt.start (q := fun r => !vl.contains r.1) hk0 (fun m hm hmk => by rw [hno m hm hmk]; rfl) (by rw [hyes]; rfl))
    have Hgr0 : Hid (w.grownBy w1 (some g)) := Lib.hid (below_grown hb1 _)
    have Hown1 := Lib.hid (Hown.out.ext hb1)
    clear hblk hno hyes Hif
    go_wp2
    go_loopw [5, 6] (fun iv jv wr => ∃ (i j : Nat) (R : List Mb.Seen), iv = .int .i64 (i : Int) ∧ jv = .int .i64 (j : Int) ∧ Hid (Kpt (fun r => !vl.contains r.1) l R i j) ∧ Hid (Own gnC M0 wr B 84 (.slice (some ⟨g, 0, none⟩) l.length c) R) ∧ Hid (w.grownBy wr (some g))) (fun _ jv _ => l.length - (intOf jv).toNat)
    case atStart => exact ⟨k0, k0 + 1, l, rfl, by go_num, Hst, Hown1, Hgr0⟩
    case round =>
      clear Hst Hown1 Hgr0 hb1
      obtain ⟨i, j, R, rfl, rfl, hkp, how, hgr⟩ := hrel
      have hij := hkp.out.ij
      have hjl := hkp.out.jl
      have hRl := hkp.out.len
      by_cases hlt : j < l.length
      · have hjR : j < R.length := by omega
        obtain ⟨g', c', hv, _, _, _, _, p0, p1, hb1, hb2, _⟩ := how.out.snAt hjR
        injection hv with hv1 hv2 hv3
        injection hv1 with hv1
        injection hv1 with hv1
        subst hv1 hv3
        have hRj := hkp.out.dr j hlt hjR (Nat.le_refl _)
        have hcr : wr.cell? ⟨bc, 0, none⟩ = some va := by rw [← hc]; simp only [World.cell?, hgr.out.block bc (World.block_lt_of_cell? w _ hc) (fun e => hcn (show some g = some bc from e.symm))]
        obtain ⟨⟨pk, pv⟩, hp⟩ : ∃ p, l[j] = p := ⟨_, rfl⟩
        rw [hRj, hp] at p0 p1 hb1 hb2
        dsimp only at p0 p1 hb1 hb2
        obtain ⟨V, g8, hV, hg8, hsz8, kb, hbV⟩ := box1 wr #[.int .i64 pk, .int .i64 pv] 84
        have hcl := upd2_ok pk pv va vl bc V ((Hva.out.grown hgr.out rfl).zero.ext hbV) (vwcell_ext hbV hcr)
        obtain ⟨tf, htf⟩ : ∃ t, vl.contains pk = t := ⟨_, rfl⟩
        rw [htf] at hcl
        have Hcl := Lib.hid hcl; have Hp := Lib.hid hp; have Hv := Lib.hid (And.intro hv2 hRj); have Hbn := Lib.hid (And.intro hb1 hb2); have Htf := Lib.hid htf
        have hi0 : (0 : Int) ≤ (j : Int) := by omega
        have hi1 : (j : Int) < (l.length : Int) := by omega
        have hq1 : IntKind.i64.wrap (j : Int) = (j : Int) := IntWalk.i64_in _ (by omega)
        obtain ⟨f0, f1, _, _, _⟩ := kb.two
        clear hcl hp hv2 hRj hb1 hb2 hcr htf hsz8
        go_wp2_with fail
        refine Hcl.out.mono ?_
        rintro e w2 ⟨rfl, hb2⟩
        have hb8 : Below wr.heap.size wr w2 := hbV.trans (hb2.mono hbV.size)
        have how2 := Lib.hid (how.out.ext hb8)
        have hgr2 := Lib.hid (gr_trans hgr.out (below_grown hb8 _))
        obtain ⟨f2, f3, _, _, _⟩ := (kb.ext hb2).two
        clear p0 p1 f0 f1 hb2 hbV kb Hcl how hgr hV
        cases tf with
        | true =>
          clear f2 f3
          go_wp2
          go_roundw
          case rel => exact ⟨i, j + 1, R, rfl, by go_num, Lib.hid (hkp.out.drop hlt (by rw [Hp.out]; simp only [Htf.out]; rfl)), how2, hgr2⟩
          case measure => simp [intOf]; omega
        | false =>
          obtain ⟨g', c', hv, _, _, _, _, y0, y1, _, _, hfz⟩ := how2.out.snAt (k := i) (by omega)
          injection hv with hv1 hv2 hv3
          injection hv1 with hv1
          injection hv1 with hv1
          subst hv1 hv3
          have z0 := hfz (i * 2)
          have z1 := hfz (i * 2 + 1)
          have hii0 : (0 : Int) ≤ (i : Int) := by omega
          have hii1 : (i : Int) < (l.length : Int) := by omega
          have hq2 : IntKind.i64.wrap (i : Int) = (i : Int) := IntWalk.i64_in _ (by omega)
          clear hfz hv2
          go_wp2
          go_roundw
          case rel => exact ⟨i + 1, j + 1, R.set i (pk, pv), by go_num, by go_num, Lib.hid (by have h9 := hkp.out.keep hlt (by rw [Hp.out]; simp only [Htf.out]; rfl); rw [Hp.out] at h9; exact h9), Lib.hid (how2.out.putS2 (by omega) Hbn.out.1 Hbn.out.2), Lib.hid (gr_trans hgr2.out (gr_trans (gr_set _ _ _ _) (gr_set _ _ _ _)))⟩
          case measure => simp [intOf]; omega
      · obtain rfl : j = l.length := by omega
        obtain ⟨w9, hclr, hown9, hgr9⟩ := how.out.cutClear (t := 38) TSns oneSn rfl (i := i) (by omega)
        rw [hRl] at hclr
        rw [hkp.out.end_] at hown9
        have hlen : (l.filter fun r => !vl.contains r.1).length = i := by rw [← hkp.out.end_, List.length_take]; omega
        have Hf := Lib.hid (And.intro hown9 (gr_trans hgr.out hgr9))
        have j2 : (i : Int) ≤ (l.length : Int) := by omega
        have j3 : (l.length : Int) ≤ (c : Int) := by omega
        have j4 : ¬ c = i := by omega
        have j5 : i ≤ c := by omega
        have j6 : (0 : Int) ≤ (i : Int) := by omega
        clear hown9 hgr9 hlen how hgr
        go_wp2
        go_ret
        exact ⟨_, rfl, Hf.out.1, Hf.out.2, rfl⟩
end Go.Proofs.YtjamjkjmlckgeaaGreatDoor
namespace Go.Proofs.YtjamjkjmlckgeaaGreatDoor
open Go.RowKit
theorem run_append_zeros {P : Program} {w : World} {k bytes : Nat} {t e tn : TypeId} {kn : IntKind} (T : SlT P k t e bytes) (hk : 0 < k) (htn : P.underlying tn = some (.int kn)) (g o n c m : Nat) (olds : List Value) (hol : olds.length = n * k)
    (hold : ∀ (j : Nat) (u : Value), olds[j]? = some u → w.cell? ((⟨g, o, none⟩ : Addr).add j) = some u) (h0 : 0 < m) (hg : c < n + m) (hmax : n + m ≤ maxLen) (hb : (n + m) * bytes ≤ 140737488355328) :
    ∃ C cu, n + m ≤ C ∧ C ≤ maxLen ∧ cu.size = C * k ∧ cu.toList.take (n * k) = olds ∧ ∀ ty kq,
      (Builtin.append_ #[t, tn] ty #[.slice (some ⟨g, o, none⟩) n c, .int kq m]).run P w = .ok (.slice (some ⟨w.heap.size, 0, none⟩) (n + m) C) (w.drew.alloc (.cells cu e)) := by
  obtain ⟨i, z, hi, hz, h1, h2, h3⟩ := T.hi
  have hge := grownCap_ge w (n + m) c e
  refine ⟨grownCap w (n + m) c e, olds.toArray ++ Builtin.zeroCells z.cells m ++ Builtin.zeroCells z.cells (grownCap w (n + m) c e - (n + m)), hge, grownCap_le_maxLen w _ _ _ hmax, ?_, ?_, fun ty kq => ?_⟩
  · rw [Array.size_append, Array.size_append, size_zeroCells, size_zeroCells, List.size_toArray, hol, h3, ← Nat.add_mul, ← Nat.add_mul]
    congr 1; omega
  · simp only [Array.toList_append, List.append_assoc]
    rw [List.take_append_of_le_length (by omega), List.take_of_length_le (by omega)]
  · refine Lib.run_append_grow_zeros w t tn ty e i z kq kn T.ht htn hi hz _ n c olds (run_firstCells_some (w := w.drew) i.size n _ _ _ olds (by rw [h1]; exact hol) hold) m h0 (by omega) hg (by simp only [maxLen] at hmax; omega) ?_ (growslice_fits hg (by rw [h2]; exact hb))
    rw [h2]
    have : m * bytes ≤ (n + m) * bytes := Nat.mul_le_mul_right _ (by omega)
    omega
/-- What grows by one block alone, and by writes to it. -/
theorem grownBy_new {w W : World} {o : Obj} (h : W = w.drew.alloc o) : W.os = w.os ∧ W.tape = w.tape ∧ W.output = w.output ∧ w.heap.size ≤ W.heap.size ∧ ∀ k, k < w.heap.size → W.heap[k]? = w.heap[k]? := by
  subst h
  exact ⟨rfl, rfl, rfl, by show w.heap.size ≤ (w.heap.push o).size; simp, fun k hk => heap_alloc_old w.drew o hk⟩
end Go.Proofs.YtjamjkjmlckgeaaGreatDoor
