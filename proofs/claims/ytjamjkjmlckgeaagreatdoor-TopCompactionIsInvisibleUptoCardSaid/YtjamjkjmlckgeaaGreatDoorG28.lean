/-
  Contracts and plain facts, one after another: From the form's own reading of an argument to a codec's: for a law that only reads its arguments; What a row hands over: changes, messages, mailboxes as they are read; the table of the powers of ten and the variable that bytes.Cut reads.
-/
import Derived.Test.YtjamjkjmlckgeaaGreatDoorBase
import Derived.Test.YtjamjkjmlckgeaaGreatDoorRows
import Derived.Test.YtjamjkjmlckgeaaGreatDoorG23
import Derived.Test.YtjamjkjmlckgeaaGreatDoorG17
import Derived.Test.YtjamjkjmlckgeaaGreatDoorShelf
import Derived.ProofKit
import Derived.JoinedCond
import Derived.OpenShut
import Derived.PinnedBridge
import Derived.Lib.LaidTab
import Derived.SizedLaws
import Derived.ChangeArms
namespace Go.Proofs.YtjamjkjmlckgeaaGreatDoor
open Go.ChangeShapes Go.WideShapes Go.ChangeAt Go.RowKit

theorem add_add' (a : Addr) (i j : Nat) : (a.add i).add j = a.add (i + j) := by
  unfold Addr.add
  by_cases hi : i = 0 <;> by_cases hj : j = 0 <;> simp [hi, hj, Nat.add_assoc]
/-- What the form reads at type t, C reads; bk: what the datum weighs in the form's bulk. -/
def Reads (P : Program) (t : TypeId) {α : Type} (C : Codec α) (bk : α → Nat) : Prop :=
  P.cellsOf t = C.n ∧ ∀ (H : Type) (enc : TypeId × Value → H) (w : World) (spare : Nat → Bool) (held : Bool) (fuel : Nat) (cs : List Value) (x : DataW H × List MemPlace),
    DataW.trod enc P w 0 spare held fuel t cs = some x → ∃ a : α, C.rd M0 w cs a ∧ bk a ≤ Rows.uptoBulk x.1

theorem bulk_pos {H : Type} (d : DataW H) : 1 ≤ Rows.uptoBulk d := by
  cases d with
  | lit l => cases l <;> simp [Rows.uptoBulk]
  | nil => simp [Rows.uptoBulk]
  | ptr d => simp [Rows.uptoBulk]
  | slice elems spare => simp [Rows.uptoBulk]
  | agg parts => simp [Rows.uptoBulk]
  | iface t d => simp [Rows.uptoBulk]
  | map entries => simp [Rows.uptoBulk]
  | held h => simp [Rows.uptoBulk]
theorem bulk_all {H : Type} : ∀ l : List (DataW H), Rows.uptoBulkAll l = (l.map Rows.uptoBulk).sum
  | [] => by simp [Rows.uptoBulkAll]
  | d :: l => by simp [Rows.uptoBulkAll, bulk_all l]

theorem reads_int {P : Program} {t : TypeId} (ht : P.underlying t = some (.int .i64)) (hc : P.cellsOf t = 1) : Reads P t intC (fun _ => 1) :=
  ⟨hc, fun H enc w spare held fuel cs x h => by
    obtain ⟨n, rfl, rfl, hw⟩ := DataW.trod_int ht h
    refine ⟨n, ⟨rfl, ?_⟩, bulk_pos _⟩
    simpa [Lit.wf, IntKind.min, IntKind.max, IntKind.signed, IntKind.bits] using hw⟩
theorem reads_byte {P : Program} {t : TypeId} (ht : P.underlying t = some (.int .u8)) (hc : P.cellsOf t = 1) : Reads P t byteC (fun _ => 1) :=
  ⟨hc, fun H enc w spare held fuel cs x h => by
    obtain ⟨n, rfl, rfl, hw⟩ := DataW.trod_int ht h
    have hw' : 0 ≤ n ∧ n ≤ 255 := by simpa [Lit.wf, IntKind.min, IntKind.max, IntKind.signed, IntKind.bits] using hw
    refine ⟨UInt8.ofNat n.toNat, ?_, bulk_pos _⟩
    show [Value.int .u8 n] = [Value.int .u8 ((UInt8.ofNat n.toNat).toNat : Int)]
    rw [UInt8.toNat_ofNat']
    congr 2
    omega⟩
theorem reads_bool {P : Program} {t : TypeId} (ht : P.underlying t = some .bool) (hc : P.cellsOf t = 1) : Reads P t boolC (fun _ => 1) :=
  ⟨hc, fun H enc w spare held fuel cs x h => by
    obtain ⟨b, rfl, rfl⟩ := DataW.trod_bool ht h
    exact ⟨b, rfl, bulk_pos _⟩⟩
theorem reads_string {P : Program} {t : TypeId} (ht : P.underlying t = some .string) (hc : P.cellsOf t = 1) : Reads P t strC (fun l => l.length + 1) :=
  ⟨hc, fun H enc w spare held fuel cs x h => by
    obtain ⟨s, rfl, rfl, hs⟩ := DataW.trod_string ht h
    refine ⟨s.data.toList, ⟨by rw [← bs_of], by rw [Array.length_toList]; exact hs⟩, ?_⟩
    rw [Rows.uptoBulk]
    exact Nat.le_refl _⟩
theorem exists_list {α : Type} (n : Nat) (p : Nat → α → Prop) (h : ∀ i, i < n → ∃ a, p i a) : ∃ l : List α, l.length = n ∧ ∀ (i : Nat) (hi : i < l.length), p i l[i] := by
  induction n with
  | zero => exact ⟨[], rfl, fun i hi => by simp at hi⟩
  | succ n ih =>
    obtain ⟨l, hl, hp⟩ := ih fun i hi => h i (by omega)
    obtain ⟨a, ha⟩ := h n (by omega)
    refine ⟨l ++ [a], by simp [hl], fun i hi => ?_⟩
    by_cases hi' : i < l.length
    · rw [List.getElem_append_left hi']; exact hp i hi'
    · have : i = n := by simp at hi; omega
      subst this
      rw [List.getElem_append_right (by omega)]
      simpa [hl] using ha
theorem sum_le_of {α β : Type} (f : α → Nat) (g : β → Nat) : ∀ (l : List α) (m : List β), l.length ≤ m.length → (∀ (i : Nat) (h : i < l.length) (h' : i < m.length), f l[i] ≤ g m[i]) → (l.map f).sum ≤ (m.map g).sum
  | [], m, _, _ => by simp
  | a :: l, [], h, _ => by simp at h
  | a :: l, b :: m, h, hh => by
    have h0 := hh 0 (by simp) (by simp)
    have ih := sum_le_of f g l m (by simpa using h) fun i h1 h2 => by
      have := hh (i + 1) (by simpa using h1) (by simpa using h2)
      simpa using this
    simp at h0
    simp; omega
theorem reads_slice {P : Program} {t e : TypeId} {α : Type} {C : Codec α} {bk : α → Nat} (hR : Reads P e C bk) (ht : P.underlying t = some (.slice e)) (hc : P.cellsOf t = 1) : Reads P t (sliceC C) (fun l => 1 + (l.map bk).sum) :=
  ⟨hc, fun H enc w spare held fuel cs x h => by
    obtain ⟨hn, hR⟩ := hR
    rcases DataW.trod_slice ht h with ⟨rfl, rfl⟩ | ⟨a, len, cap, elems, rest, n, _, rfl, rfl, _, hl, hm, hlen, hel, _, _⟩
    · exact ⟨[], ⟨_, rfl, SlR.nil C M0 w⟩, by simp [Rows.uptoBulk]⟩
    · rw [hn] at hel
      have each : ∀ i, i < len → ∃ y : α, (∃ cs' : List Value, cs'.length = C.n ∧ (∀ j, j < C.n → w.cell? ((a.add (i * C.n)).add j) = cs'[j]?) ∧ C.rd M0 w cs' y) ∧ ∀ (hi : i < elems.length), bk y ≤ Rows.uptoBulk (elems[i].1) := by
        intro i hi
        have h1 := hel i hi
        have hi' : i < elems.length := by omega
        rw [List.getElem?_eq_getElem hi', Option.bind_eq_some_iff] at h1
        obtain ⟨cs', hc', ht'⟩ := h1
        obtain ⟨_, hcl, hat⟩ := World.cells?_some hc'
        obtain ⟨y, hy1, hy2⟩ := hR H enc w spare held n cs' _ ht'
        exact ⟨y, ⟨cs', hcl, fun j hj => hat j hj, hy1⟩, fun _ => hy2⟩
      obtain ⟨l, hll, hp⟩ := exists_list len _ each
      obtain ⟨xs, hxl, hx⟩ := exists_list (len * C.n) (fun j (u : Value) => w.cell? (a.add j) = some u) (fun j hj => by
        have hq : j / C.n < len := (Nat.div_lt_iff_lt_mul C.pos).2 hj
        obtain ⟨y, ⟨cs', hcl, hat, _⟩, _⟩ := each _ hq
        have hm := Nat.mod_lt j C.pos
        have hc := hat (j % C.n) hm
        rw [add_add'] at hc
        have hdm := Nat.div_add_mod j C.n
        rw [Nat.mul_comm] at hdm
        rw [hdm] at hc
        rw [List.getElem?_eq_getElem (by omega)] at hc
        exact ⟨_, hc⟩)
      refine ⟨l, ⟨_, rfl, some a, len, cap, xs, rfl, hll.symm, hl, hm, ⟨by rw [hxl, hll], fun i hi => ?_⟩, fun h0 => ?_⟩, ?_⟩
      · obtain ⟨⟨cs', hcl, hat, hrd⟩, _⟩ := hp i hi
        have hik : (i + 1) * C.n ≤ len * C.n := Nat.mul_le_mul_right _ (by omega)
        rw [Nat.add_mul, Nat.one_mul] at hik
        have : (xs.drop (i * C.n)).take C.n = cs' := by
          apply List.ext_getElem?
          intro j
          by_cases hj : j < C.n
          · rw [List.getElem?_take, if_pos hj, List.getElem?_drop, ← hat j hj, add_add', hx (i * C.n + j) (by omega), List.getElem?_eq_getElem (by omega)]
          · rw [List.getElem?_eq_none (by rw [List.length_take]; omega), List.getElem?_eq_none (by omega)]
        rw [this]
        exact hrd
      · have hp := C.pos
        have h00 : 0 < xs.length := by rw [hxl]; exact Nat.mul_pos h0 hp
        have hc0 := hx 0 h00
        have hspot : a.spot = none := by
          have : a.add 0 = a := by simp [Addr.add]
          rw [this] at hc0
          exact World.cell?_spot hc0
        obtain ⟨b, off, spot⟩ := a
        simp only at hspot
        subst hspot
        have hlt := World.block_lt_of_cell? w _ hc0
        refine ⟨b, off, rfl, fun h => h.elim, by simpa [Addr.add] using hlt, fun j u hu => ?_⟩
        have hj : j < xs.length := (List.getElem?_eq_some_iff.1 hu).1
        have := hx j hj
        rw [Addr.add_lit] at this
        rw [this, ← hu, List.getElem?_eq_getElem hj]
      · have := sum_le_of bk (fun y : DataW H × List MemPlace => Rows.uptoBulk y.1) l elems (by omega) fun i h1 h2 => (hp i h1).2 h2
        simp only [Rows.uptoBulk, bulk_all, List.map_map]
        have e : (Rows.uptoBulk ∘ fun x : DataW H × List MemPlace => x.1) = fun y : DataW H × List MemPlace => Rows.uptoBulk y.1 := rfl
        rw [e]
        omega⟩

theorem reads_struct2 {P : Program} {t : TypeId} {f0 f1 : Field} {α β : Type} {C : Codec α} {D : Codec β} {bc : α → Nat} {bd : β → Nat} (hC : Reads P f0.type C bc) (hD : Reads P f1.type D bd)
    (ht : P.underlying t = some (.struct #[f0, f1])) (hc : P.cellsOf t = C.n + D.n) (h0 : f0.offset = 0) (h1 : f1.offset = C.n) : Reads P t (pairC C D) (fun p => bc p.1 + bd p.2) :=
  ⟨hc, fun H enc w spare held fuel cs x h => by
    obtain ⟨xs, n, rfl, rfl, hl, hn, hf⟩ := DataW.trod_struct ht h
    obtain ⟨kC, rC⟩ := hC
    obtain ⟨kD, rD⟩ := hD
    match xs, hn with
    | [x0, x1], _ =>
      have e0 := hf 0 f0 rfl
      have e1 := hf 1 f1 rfl
      rw [h0, List.drop_zero, kC] at e0
      rw [h1, kD] at e1
      obtain ⟨a, ha, ba⟩ := rC H enc w spare held n _ x0 e0
      obtain ⟨b, hb, bb⟩ := rD H enc w spare held n _ x1 e1
      refine ⟨(a, b), ⟨_, _, ?_, ha, hb⟩, ?_⟩
      · rw [List.take_of_length_le (l := cs.drop C.n) (by rw [List.length_drop, hl, hc]; omega), List.take_append_drop]
      · simp only [Rows.uptoBulk, bulk_all, List.map_cons, List.map_nil, List.sum_cons, List.sum_nil]
        omega⟩
theorem reads_struct3 {P : Program} {t : TypeId} {f0 f1 f2 : Field} {α β γ : Type} {C : Codec α} {D : Codec β} {E : Codec γ} {bc : α → Nat} {bd : β → Nat} {be : γ → Nat} (hC : Reads P f0.type C bc) (hD : Reads P f1.type D bd) (hE : Reads P f2.type E be)
    (ht : P.underlying t = some (.struct #[f0, f1, f2])) (hc : P.cellsOf t = C.n + (D.n + E.n)) (h0 : f0.offset = 0) (h1 : f1.offset = C.n) (h2 : f2.offset = C.n + D.n) : Reads P t (pairC C (pairC D E)) (fun p => bc p.1 + bd p.2.1 + be p.2.2) :=
  ⟨hc, fun H enc w spare held fuel cs x h => by
    obtain ⟨xs, n, rfl, rfl, hl, hn, hf⟩ := DataW.trod_struct ht h
    obtain ⟨kC, rC⟩ := hC
    obtain ⟨kD, rD⟩ := hD
    obtain ⟨kE, rE⟩ := hE
    match xs, hn with
    | [x0, x1, x2], _ =>
      have e0 := hf 0 f0 rfl
      have e1 := hf 1 f1 rfl
      have e2 := hf 2 f2 rfl
      rw [h0, List.drop_zero, kC] at e0
      rw [h1, kD] at e1
      rw [h2, kE] at e2
      obtain ⟨a, ha, ba⟩ := rC H enc w spare held n _ x0 e0
      obtain ⟨b, hb, bb⟩ := rD H enc w spare held n _ x1 e1
      obtain ⟨c, hc', bc'⟩ := rE H enc w spare held n _ x2 e2
      refine ⟨(a, b, c), ⟨_, _, ?_, ha, _, _, rfl, hb, hc'⟩, ?_⟩
      · rw [List.take_of_length_le (l := cs.drop (C.n + D.n)) (by rw [List.length_drop, hl, hc]; omega), ← List.drop_drop, List.take_append_drop, List.take_append_drop]
      · simp only [Rows.uptoBulk, bulk_all, List.map_cons, List.map_nil, List.sum_cons, List.sum_nil]
        omega⟩
/-- What is handed to the call: the value's cells, read. -/
theorem reads_arg {P : Program} {t : TypeId} {α : Type} {C : Codec α} {bk : α → Nat} (hR : Reads P t C bk) {H : Type} {enc : TypeId × Value → H} {w : World} {spare : Nat → Bool} {held : Bool} {cs : List Value} {d : DataW H} {p : List MemPlace}
    (h : ∃ fuel, DataW.trod enc P w 0 spare held fuel t cs = some (d, p)) : ∃ a : α, C.rd M0 w cs a ∧ bk a ≤ Rows.uptoBulk d := by
  obtain ⟨fuel, h⟩ := h
  exact hR.2 H enc w spare held fuel cs _ h
theorem SlR.of_rd {α : Type} {C : Codec α} {M : Nat → Prop} {w : World} {a : Option Addr} {n c : Nat} {l : List α} (h : (sliceC C).rd M w (Value.slice a n c).cells.toList l) : SlR C M w (.slice a n c) l := by
  obtain ⟨v, hv, hs⟩ := h
  simp [Value.cells] at hv
  exact hv ▸ hs
theorem of_rd_str {M : Nat → Prop} {w : World} {s : ByteArray} {x : List UInt8} (h : strC.rd M w (Value.string s).cells.toList x) : s = bs x ∧ x.length ≤ maxLen := by
  obtain ⟨hv, hs⟩ := h
  simp [Value.cells] at hv
  exact ⟨hv, hs⟩
theorem of_rd_int {M : Nat → Prop} {w : World} {a x : Int} (h : intC.rd M w (Value.int .i64 a).cells.toList x) : a = x ∧ -9223372036854775808 ≤ x ∧ x ≤ 9223372036854775807 := by
  obtain ⟨hv, hs⟩ := h
  simp [Value.cells] at hv
  exact ⟨hv, hs⟩
theorem of_rd_bool {M : Nat → Prop} {w : World} {a x : Bool} (h : boolC.rd M w (Value.bool a).cells.toList x) : a = x := by
  have hv : (Value.bool a).cells.toList = [Value.bool x] := h
  simpa [Value.cells] using hv
theorem readsBytes (P : Program) {t e : TypeId} (ht : P.underlying t = some (.slice e)) (he : P.underlying e = some (.int .u8)) (h1 : P.cellsOf t = 1) (h2 : P.cellsOf e = 1) : Reads P t (sliceC byteC) (fun l => 1 + (l.map fun _ => 1).sum) :=
  reads_slice (reads_byte he h2) ht h1
end Go.Proofs.YtjamjkjmlckgeaaGreatDoor
namespace Go.Proofs.YtjamjkjmlckgeaaGreatDoor
open Go.ChangeShapes Go.WideShapes Go.ChangeAt Go.RowKit Go.Lib
set_option linter.unusedVariables false
theorem reads_struct5 {P : Program} {t : TypeId} {f0 f1 f2 f3 f4 : Field} {α0 α1 α2 α3 α4 : Type} {C0 : Codec α0} {C1 : Codec α1} {C2 : Codec α2} {C3 : Codec α3} {C4 : Codec α4} {k0 : α0 → Nat} {k1 : α1 → Nat} {k2 : α2 → Nat} {k3 : α3 → Nat} {k4 : α4 → Nat}
    (h0 : Reads P f0.type C0 k0) (h1 : Reads P f1.type C1 k1) (h2 : Reads P f2.type C2 k2) (h3 : Reads P f3.type C3 k3) (h4 : Reads P f4.type C4 k4)
    (ht : P.underlying t = some (.struct #[f0, f1, f2, f3, f4])) (hc : P.cellsOf t = C0.n + (C1.n + (C2.n + (C3.n + C4.n)))) (o0 : f0.offset = 0) (o1 : f1.offset = C0.n) (o2 : f2.offset = C0.n + C1.n) (o3 : f3.offset = C0.n + C1.n + C2.n) (o4 : f4.offset = C0.n + C1.n + C2.n + C3.n) : Reads P t (pairC C0 (pairC C1 (pairC C2 (pairC C3 C4)))) (fun p => k0 p.1 + k1 p.2.1 + k2 p.2.2.1 + k3 p.2.2.2.1 + k4 p.2.2.2.2) :=
  ⟨hc, fun H enc w spare held fuel cs x h => by
    obtain ⟨xs, n, rfl, rfl, hl, hn, hf⟩ := DataW.trod_struct ht h
    obtain ⟨n0, r0⟩ := h0
    obtain ⟨n1, r1⟩ := h1
    obtain ⟨n2, r2⟩ := h2
    obtain ⟨n3, r3⟩ := h3
    obtain ⟨n4, r4⟩ := h4
    match xs, hn with
    | [x0, x1, x2, x3, x4], _ =>
      have e0 := hf 0 f0 rfl
      have e1 := hf 1 f1 rfl
      have e2 := hf 2 f2 rfl
      have e3 := hf 3 f3 rfl
      have e4 := hf 4 f4 rfl
      rw [o0, List.drop_zero, n0] at e0
      rw [o1, n1] at e1
      rw [o2, n2] at e2
      rw [o3, n3] at e3
      rw [o4, n4] at e4
      obtain ⟨a0, q0, b0⟩ := r0 H enc w spare held n _ x0 e0
      obtain ⟨a1, q1, b1⟩ := r1 H enc w spare held n _ x1 e1
      obtain ⟨a2, q2, b2⟩ := r2 H enc w spare held n _ x2 e2
      obtain ⟨a3, q3, b3⟩ := r3 H enc w spare held n _ x3 e3
      obtain ⟨a4, q4, b4⟩ := r4 H enc w spare held n _ x4 e4
      rw [List.take_of_length_le (l := cs.drop (C0.n + C1.n + C2.n + C3.n)) (by rw [List.length_drop, hl, hc]; omega)] at q4
      refine ⟨(a0, a1, a2, a3, a4), ⟨_, cs.drop C0.n, (List.take_append_drop _ _).symm, q0, _, cs.drop (C0.n + C1.n), ?_, q1, _, cs.drop (C0.n + C1.n + C2.n), ?_, q2, _, cs.drop (C0.n + C1.n + C2.n + C3.n), ?_, q3, q4⟩, ?_⟩
      · rw [← List.drop_drop, List.take_append_drop]
      · rw [← List.drop_drop (i := C2.n), List.take_append_drop]
      · rw [← List.drop_drop (i := C3.n), List.take_append_drop]
      · simp only [Rows.uptoBulk, bulk_all, List.map_cons, List.map_nil, List.sum_cons, List.sum_nil]
        omega⟩
theorem reads_struct6 {P : Program} {t : TypeId} {f0 f1 f2 f3 f4 f5 : Field} {α0 α1 α2 α3 α4 α5 : Type} {C0 : Codec α0} {C1 : Codec α1} {C2 : Codec α2} {C3 : Codec α3} {C4 : Codec α4} {C5 : Codec α5} {k0 : α0 → Nat} {k1 : α1 → Nat} {k2 : α2 → Nat} {k3 : α3 → Nat} {k4 : α4 → Nat} {k5 : α5 → Nat}
    (h0 : Reads P f0.type C0 k0) (h1 : Reads P f1.type C1 k1) (h2 : Reads P f2.type C2 k2) (h3 : Reads P f3.type C3 k3) (h4 : Reads P f4.type C4 k4) (h5 : Reads P f5.type C5 k5)
    (ht : P.underlying t = some (.struct #[f0, f1, f2, f3, f4, f5])) (hc : P.cellsOf t = C0.n + (C1.n + (C2.n + (C3.n + (C4.n + C5.n))))) (o0 : f0.offset = 0) (o1 : f1.offset = C0.n) (o2 : f2.offset = C0.n + C1.n) (o3 : f3.offset = C0.n + C1.n + C2.n) (o4 : f4.offset = C0.n + C1.n + C2.n + C3.n) (o5 : f5.offset = C0.n + C1.n + C2.n + C3.n + C4.n) : Reads P t (pairC C0 (pairC C1 (pairC C2 (pairC C3 (pairC C4 C5))))) (fun p => k0 p.1 + k1 p.2.1 + k2 p.2.2.1 + k3 p.2.2.2.1 + k4 p.2.2.2.2.1 + k5 p.2.2.2.2.2) :=
  ⟨hc, fun H enc w spare held fuel cs x h => by
    obtain ⟨xs, n, rfl, rfl, hl, hn, hf⟩ := DataW.trod_struct ht h
    obtain ⟨n0, r0⟩ := h0
    obtain ⟨n1, r1⟩ := h1
    obtain ⟨n2, r2⟩ := h2
    obtain ⟨n3, r3⟩ := h3
    obtain ⟨n4, r4⟩ := h4
    obtain ⟨n5, r5⟩ := h5
    match xs, hn with
    | [x0, x1, x2, x3, x4, x5], _ =>
      have e0 := hf 0 f0 rfl
      have e1 := hf 1 f1 rfl
      have e2 := hf 2 f2 rfl
      have e3 := hf 3 f3 rfl
      have e4 := hf 4 f4 rfl
      have e5 := hf 5 f5 rfl
      rw [o0, List.drop_zero, n0] at e0
      rw [o1, n1] at e1
      rw [o2, n2] at e2
      rw [o3, n3] at e3
      rw [o4, n4] at e4
      rw [o5, n5] at e5
      obtain ⟨a0, q0, b0⟩ := r0 H enc w spare held n _ x0 e0
      obtain ⟨a1, q1, b1⟩ := r1 H enc w spare held n _ x1 e1
      obtain ⟨a2, q2, b2⟩ := r2 H enc w spare held n _ x2 e2
      obtain ⟨a3, q3, b3⟩ := r3 H enc w spare held n _ x3 e3
      obtain ⟨a4, q4, b4⟩ := r4 H enc w spare held n _ x4 e4
      obtain ⟨a5, q5, b5⟩ := r5 H enc w spare held n _ x5 e5
      rw [List.take_of_length_le (l := cs.drop (C0.n + C1.n + C2.n + C3.n + C4.n)) (by rw [List.length_drop, hl, hc]; omega)] at q5
      refine ⟨(a0, a1, a2, a3, a4, a5), ⟨_, cs.drop C0.n, (List.take_append_drop _ _).symm, q0, _, cs.drop (C0.n + C1.n), ?_, q1, _, cs.drop (C0.n + C1.n + C2.n), ?_, q2, _, cs.drop (C0.n + C1.n + C2.n + C3.n), ?_, q3, _, cs.drop (C0.n + C1.n + C2.n + C3.n + C4.n), ?_, q4, q5⟩, ?_⟩
      · rw [← List.drop_drop, List.take_append_drop]
      · rw [← List.drop_drop (i := C2.n), List.take_append_drop]
      · rw [← List.drop_drop (i := C3.n), List.take_append_drop]
      · rw [← List.drop_drop (i := C4.n), List.take_append_drop]
      · simp only [Rows.uptoBulk, bulk_all, List.map_cons, List.map_nil, List.sum_cons, List.sum_nil]
        omega⟩
def bkFld (p : Mb.Fld) : Nat := (p.1.length + 1) + (p.2.length + 1)
def bkMsg (m : Mb.Msg) : Nat := (1 + (m.1.map bkFld).sum) + (1 + (m.2.map fun _ => 1).sum)
def bkChg (c : Mb.Chg) : Nat := 1 + 1 + 1 + 1 + 1 + bkMsg c.2.2.2.2.2
def bkEnt (c : Mb.Ent) : Nat := 1 + 1 + 1 + 1 + bkMsg c.2.2.2.2
def bkGn (c : Mb.Gn) : Nat := 1 + 1
abbrev rInt : Reads Tryz.prog 3 intC (fun _ => 1) := reads_int Tryz.underlying3 (by kernel_rfl)
abbrev rStr : Reads Tryz.prog 9 strC (fun l => l.length + 1) := reads_string Tryz.underlying9 (by kernel_rfl)
set_option maxRecDepth 100000 in
theorem readsFld : Reads Tryz.prog 108 fldC bkFld :=
  reads_struct2 (C := strC) (D := strC) (bc := fun s => s.length + 1) (bd := fun s => s.length + 1) rStr rStr Tryz.underlying108 (by kernel_rfl) rfl rfl
set_option maxRecDepth 100000 in
theorem readsMsg : Reads Tryz.prog 45 msgC bkMsg :=
  reads_struct2 (C := sliceC fldC) (D := sliceC byteC) (bc := fun l => 1 + (l.map bkFld).sum) (bd := fun l => 1 + (l.map fun _ => 1).sum) (reads_slice readsFld Tryz.underlying43 (by kernel_rfl)) (readsBytes Tryz.prog Tryz.underlying29 Tryz.underlying5 (by kernel_rfl) (by kernel_rfl)) Tryz.underlying45 (by kernel_rfl) rfl rfl
set_option maxRecDepth 100000 in
theorem readsChg : Reads Tryz.prog 47 chgC bkChg :=
  reads_struct6 (C0 := intC) (C1 := intC) (C2 := intC) (C3 := intC) (C4 := intC) (C5 := msgC) (k0 := fun _ => 1) (k1 := fun _ => 1) (k2 := fun _ => 1) (k3 := fun _ => 1) (k4 := fun _ => 1) (k5 := bkMsg) rInt rInt rInt rInt rInt readsMsg Tryz.underlying47 (by kernel_rfl) rfl rfl rfl rfl rfl rfl
set_option maxRecDepth 100000 in
theorem readsChgs : Reads Tryz.prog 22 (sliceC chgC) (fun l => 1 + (l.map bkChg).sum) := reads_slice readsChg Tryz.underlying22 (by kernel_rfl)
set_option maxRecDepth 100000 in
theorem readsEnt : Reads Tryz.prog 65 entC bkEnt :=
  reads_struct5 (C0 := intC) (C1 := intC) (C2 := intC) (C3 := intC) (C4 := msgC) (k0 := fun _ => 1) (k1 := fun _ => 1) (k2 := fun _ => 1) (k3 := fun _ => 1) (k4 := bkMsg) rInt rInt rInt rInt readsMsg Tryz.underlying65 (by kernel_rfl) rfl rfl rfl rfl rfl
set_option maxRecDepth 100000 in
theorem readsGn : Reads Tryz.prog 82 gnC bkGn :=
  reads_struct2 (C := intC) (D := intC) (bc := fun _ => 1) (bd := fun _ => 1) rInt rInt Tryz.underlying82 (by kernel_rfl) rfl rfl
set_option maxRecDepth 100000 in
theorem readsBox : Reads Tryz.prog 26 (pairC intC (pairC intC (pairC intC (pairC (sliceC entC) (sliceC gnC))))) (fun p => 1 + 1 + 1 + (1 + (p.2.2.2.1.map bkEnt).sum) + (1 + (p.2.2.2.2.map bkGn).sum)) :=
  reads_struct5 (C0 := intC) (C1 := intC) (C2 := intC) (C3 := sliceC entC) (C4 := sliceC gnC) (k0 := fun _ => 1) (k1 := fun _ => 1) (k2 := fun _ => 1) (k3 := fun l => 1 + (l.map bkEnt).sum) (k4 := fun l => 1 + (l.map bkGn).sum) rInt rInt rInt (reads_slice readsEnt Tryz.underlying23 (by kernel_rfl)) (reads_slice readsGn Tryz.underlying24 (by kernel_rfl)) Tryz.underlying26 (by kernel_rfl) rfl rfl rfl rfl rfl
theorem bk_mem {α : Type} (f : α → Nat) {l : List α} {x : α} (h : x ∈ l) : f x ≤ (l.map f).sum := by
  induction l with
  | nil => cases h
  | cons y l ih =>
    rw [List.map_cons, List.sum_cons]
    rcases List.mem_cons.1 h with rfl | h
    · omega
    · have := ih h; omega
theorem len_le_sum {α : Type} (f : α → Nat) (hf : ∀ x, 1 ≤ f x) : ∀ l : List α, l.length ≤ (l.map f).sum
  | [] => Nat.le_refl _
  | x :: l => by
    have h1 := len_le_sum f hf l
    have h2 := hf x
    rw [List.length_cons, List.map_cons, List.sum_cons]
    omega
theorem msg_small {m : Mb.Msg} : m.1.length + m.2.length ≤ bkMsg m := by
  have h1 := len_le_sum bkFld (fun x => by unfold bkFld; omega) m.1
  have h2 := len_le_sum (fun _ : UInt8 => 1) (fun _ => Nat.le_refl _) m.2
  unfold bkMsg
  omega
theorem msg_of_rd {w : World} {a : Array Value} {m : Mb.Msg} (h : msgC.rd M0 w (Value.agg a).cells.toList m) : ∃ f b, Value.agg a = .agg #[f, b] ∧ SlR fldC M0 w f m.1 ∧ SlR byteC M0 w b m.2 := by
  obtain ⟨xs, ys, e, ⟨v, rfl, hv⟩, ⟨u, rfl, hu⟩⟩ := h
  have e : a.toList = [v] ++ [u] := e
  refine ⟨v, u, ?_, hv, hu⟩
  congr 1
  rw [← Array.toArray_toList (xs := a), e]
  rfl
theorem box_of_rd {w : World} {a : Array Value} {p : Int × Int × Int × List Mb.Ent × List Mb.Gn} (h : (pairC intC (pairC intC (pairC intC (pairC (sliceC entC) (sliceC gnC))))).rd M0 w (Value.agg a).cells.toList p) : ∃ es gs, Value.agg a = boxV ⟨p.1, p.2.1, p.2.2.1, p.2.2.2.1, p.2.2.2.2⟩ es gs ∧ SlR entC M0 w es p.2.2.2.1 ∧ SlR gnC M0 w gs p.2.2.2.2 := by
  obtain ⟨c0, d0, e, ⟨rfl, _⟩, c1, d1, rfl, ⟨rfl, _⟩, c2, d2, rfl, ⟨rfl, _⟩, c3, d3, rfl, ⟨v, rfl, hv⟩, ⟨u, rfl, hu⟩⟩ := h
  have e : a.toList = [.int .i64 p.1] ++ ([.int .i64 p.2.1] ++ ([.int .i64 p.2.2.1] ++ ([v] ++ [u]))) := e
  refine ⟨v, u, ?_, hv, hu⟩
  unfold boxV
  congr 1
  rw [← Array.toArray_toList (xs := a), e]
  rfl
theorem tabIs_of_reads {P : Program} {W : World} {name : String} {k : IntKind} {zs : List Int} {g : Nat} {t e : TypeId} {n : Nat}
    (hg : P.globalNamed name = some g) (hty : (P.globals[g]?).map (·.type) = some t) (ht : P.underlying t = some (.array n e)) (he : P.underlying e = some (.int k)) (hce : P.cellsOf e = 1) (hct : P.cellsOf t = n)
    (h : VarReads P W name (tabData k zs)) : TabIs P W name k zs := by
  obtain ⟨g', t', cs, fuel, p, hg', ht', hvar, hd⟩ := h
  obtain rfl := Option.some.inj (hg.symm.trans hg')
  obtain rfl := Option.some.inj (hty.symm.trans ht')
  unfold TabIs
  rw [hvar, ← cells_of_tab ht he hce hct hd]
theorem pow10_eq : (Rows.laid_internal_strconv_uint64pow10 : DataW Unit) = tabData .u64 Lib.pow10Tab := by kernel_rfl
theorem env_of {l : List (String × DataW Unit)} {W : World} (hL : laidMet Tryz.prog l W) (hSh : W.ShapedOpen Tryz.prog) (m1 : ("internal/strconv.uint64pow10", (Rows.laid_internal_strconv_uint64pow10 : DataW Unit)) ∈ l) : Env W.heap.size W := by
  refine ⟨Lib.tabBelow_of_tabIs (tabIs_of_reads (g := 3) (t := 242) (e := 157) (n := 20) (by kernel_rfl) (by kernel_rfl) (by kernel_rfl) (by kernel_rfl) (by kernel_rfl) (by kernel_rfl) (pow10_eq ▸ Lib.laidMet.reads hL m1)), ?_⟩
  obtain ⟨m, hm⟩ : ∃ m, W.cell? ⟨0, 0, none⟩ = some (.int .i64 m) := Go.Proofs.cell_of_shapedOpen_int (zero := #[.int .i64 0]) (t := 3) hSh (of_decide_eq_true (by kernel_rfl)) (by kernel_rfl) rfl (by kernel_rfl) (by kernel_rfl) Tryz.underlying3
  exact ⟨m, fun w' hb => (hb.cell (World.block_lt_of_cell? W _ hm)).trans hm⟩
end Go.Proofs.YtjamjkjmlckgeaaGreatDoor
