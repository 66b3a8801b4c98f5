/-
  Contracts and plain facts, one after another: From the form's own reading of an argument to a codec's: for a law that only reads its arguments; What the form reads is of a size that it can reach: each slice that is read, however deep.
-/
import Derived.Test.YtjamjkjmlckgeaaGreatDoorF35
import Derived.Test.YtjamjkjmlckgeaaGreatDoorRows
import Derived.ProofKit
import Derived.JoinedCond
import Derived.OpenShut
import Derived.SizedLaws
namespace Go.Proofs.YtjamjkjmlckgeaaGreatDoor
open Go.ChangeShapes Go.WideShapes Go.ChangeAt Go.RowKit

theorem add_add' (a : Addr) (i j : Nat) : (a.add i).add j = a.add (i + j) := by
  unfold Addr.add
  by_cases hi : i = 0 <;> by_cases hj : j = 0 <;> simp [hi, hj, Nat.add_assoc]
/-- What the form reads at type t, C reads; bk: what the datum weighs in the form's bulk. -/
def Reads (P : Program) (t : TypeId) {α : Type} (C : Codec α) (bk : α → Nat) : Prop :=
  P.cellsOf t = C.n ∧ ∀ (H : Type) (enc : TypeId × Value → H) (w : World) (spare : Nat → Bool) (held : Bool) (fuel : Nat) (cs : List Value) (x : DataW H × List MemPlace),
    DataW.trod enc P w 0 spare held fuel t cs = some x → ∃ a : α, C.rd M0 w cs a ∧ bk a ≤ Rows.uptoBulk x.1

theorem bulk_pos {H : Type} (d : DataW H) : 1 ≤ Rows.uptoBulk d := by
  cases d with
  | lit l => cases l <;> simp [Rows.uptoBulk]
  | nil => simp [Rows.uptoBulk]
  | ptr d => simp [Rows.uptoBulk]
  | slice elems spare => simp [Rows.uptoBulk]
  | agg parts => simp [Rows.uptoBulk]
  | iface t d => simp [Rows.uptoBulk]
  | map entries => simp [Rows.uptoBulk]
  | held h => simp [Rows.uptoBulk]
theorem bulk_all {H : Type} : ∀ l : List (DataW H), Rows.uptoBulkAll l = (l.map Rows.uptoBulk).sum
  | [] => by simp [Rows.uptoBulkAll]
  | d :: l => by simp [Rows.uptoBulkAll, bulk_all l]

theorem reads_int {P : Program} {t : TypeId} (ht : P.underlying t = some (.int .i64)) (hc : P.cellsOf t = 1) : Reads P t intC (fun _ => 1) :=
  ⟨hc, fun H enc w spare held fuel cs x h => by
    obtain ⟨n, rfl, rfl, hw⟩ := DataW.trod_int ht h
    refine ⟨n, ⟨rfl, ?_⟩, bulk_pos _⟩
    simpa [Lit.wf, IntKind.min, IntKind.max, IntKind.signed, IntKind.bits] using hw⟩
theorem reads_byte {P : Program} {t : TypeId} (ht : P.underlying t = some (.int .u8)) (hc : P.cellsOf t = 1) : Reads P t byteC (fun _ => 1) :=
  ⟨hc, fun H enc w spare held fuel cs x h => by
    obtain ⟨n, rfl, rfl, hw⟩ := DataW.trod_int ht h
    have hw' : 0 ≤ n ∧ n ≤ 255 := by simpa [Lit.wf, IntKind.min, IntKind.max, IntKind.signed, IntKind.bits] using hw
    refine ⟨UInt8.ofNat n.toNat, ?_, bulk_pos _⟩
    show [Value.int .u8 n] = [Value.int .u8 ((UInt8.ofNat n.toNat).toNat : Int)]
    rw [UInt8.toNat_ofNat']
    congr 2
    omega⟩
theorem reads_bool {P : Program} {t : TypeId} (ht : P.underlying t = some .bool) (hc : P.cellsOf t = 1) : Reads P t boolC (fun _ => 1) :=
  ⟨hc, fun H enc w spare held fuel cs x h => by
    obtain ⟨b, rfl, rfl⟩ := DataW.trod_bool ht h
    exact ⟨b, rfl, bulk_pos _⟩⟩
theorem reads_string {P : Program} {t : TypeId} (ht : P.underlying t = some .string) (hc : P.cellsOf t = 1) : Reads P t strC (fun l => l.length + 1) :=
  ⟨hc, fun H enc w spare held fuel cs x h => by
    obtain ⟨s, rfl, rfl, hs⟩ := DataW.trod_string ht h
    refine ⟨s.data.toList, ⟨by rw [← bs_of], by rw [Array.length_toList]; exact hs⟩, ?_⟩
    rw [Rows.uptoBulk]
    exact Nat.le_refl _⟩
theorem exists_list {α : Type} (n : Nat) (p : Nat → α → Prop) (h : ∀ i, i < n → ∃ a, p i a) : ∃ l : List α, l.length = n ∧ ∀ (i : Nat) (hi : i < l.length), p i l[i] := by
  induction n with
  | zero => exact ⟨[], rfl, fun i hi => by simp at hi⟩
  | succ n ih =>
    obtain ⟨l, hl, hp⟩ := ih fun i hi => h i (by omega)
    obtain ⟨a, ha⟩ := h n (by omega)
    refine ⟨l ++ [a], by simp [hl], fun i hi => ?_⟩
    by_cases hi' : i < l.length
    · rw [List.getElem_append_left hi']; exact hp i hi'
    · have : i = n := by simp at hi; omega
      subst this
      rw [List.getElem_append_right (by omega)]
      simpa [hl] using ha
theorem sum_le_of {α β : Type} (f : α → Nat) (g : β → Nat) : ∀ (l : List α) (m : List β), l.length ≤ m.length → (∀ (i : Nat) (h : i < l.length) (h' : i < m.length), f l[i] ≤ g m[i]) → (l.map f).sum ≤ (m.map g).sum
  | [], m, _, _ => by simp
  | a :: l, [], h, _ => by simp at h
  | a :: l, b :: m, h, hh => by
    have h0 := hh 0 (by simp) (by simp)
    have ih := sum_le_of f g l m (by simpa using h) fun i h1 h2 => by
      have := hh (i + 1) (by simpa using h1) (by simpa using h2)
      simpa using this
    simp at h0
    simp; omega
theorem reads_slice {P : Program} {t e : TypeId} {α : Type} {C : Codec α} {bk : α → Nat} (hR : Reads P e C bk) (ht : P.underlying t = some (.slice e)) (hc : P.cellsOf t = 1) : Reads P t (sliceC C) (fun l => 1 + (l.map bk).sum) :=
  ⟨hc, fun H enc w spare held fuel cs x h => by
    obtain ⟨hn, hR⟩ := hR
    rcases DataW.trod_slice ht h with ⟨rfl, rfl⟩ | ⟨a, len, cap, elems, rest, n, _, rfl, rfl, _, hl, hm, hlen, hel, _, _⟩
    · exact ⟨[], ⟨_, rfl, SlR.nil C M0 w⟩, by simp [Rows.uptoBulk]⟩
    · rw [hn] at hel
      have each : ∀ i, i < len → ∃ y : α, (∃ cs' : List Value, cs'.length = C.n ∧ (∀ j, j < C.n → w.cell? ((a.add (i * C.n)).add j) = cs'[j]?) ∧ C.rd M0 w cs' y) ∧ ∀ (hi : i < elems.length), bk y ≤ Rows.uptoBulk (elems[i].1) := by
        intro i hi
        have h1 := hel i hi
        have hi' : i < elems.length := by omega
        rw [List.getElem?_eq_getElem hi', Option.bind_eq_some_iff] at h1
        obtain ⟨cs', hc', ht'⟩ := h1
        obtain ⟨_, hcl, hat⟩ := World.cells?_some hc'
        obtain ⟨y, hy1, hy2⟩ := hR H enc w spare held n cs' _ ht'
        exact ⟨y, ⟨cs', hcl, fun j hj => hat j hj, hy1⟩, fun _ => hy2⟩
      obtain ⟨l, hll, hp⟩ := exists_list len _ each
      obtain ⟨xs, hxl, hx⟩ := exists_list (len * C.n) (fun j (u : Value) => w.cell? (a.add j) = some u) (fun j hj => by
        have hq : j / C.n < len := (Nat.div_lt_iff_lt_mul C.pos).2 hj
        obtain ⟨y, ⟨cs', hcl, hat, _⟩, _⟩ := each _ hq
        have hm := Nat.mod_lt j C.pos
        have hc := hat (j % C.n) hm
        rw [add_add'] at hc
        have hdm := Nat.div_add_mod j C.n
        rw [Nat.mul_comm] at hdm
        rw [hdm] at hc
        rw [List.getElem?_eq_getElem (by omega)] at hc
        exact ⟨_, hc⟩)
      refine ⟨l, ⟨_, rfl, some a, len, cap, xs, rfl, hll.symm, hl, hm, ⟨by rw [hxl, hll], fun i hi => ?_⟩, fun h0 => ?_⟩, ?_⟩
      · obtain ⟨⟨cs', hcl, hat, hrd⟩, _⟩ := hp i hi
        have hik : (i + 1) * C.n ≤ len * C.n := Nat.mul_le_mul_right _ (by omega)
        rw [Nat.add_mul, Nat.one_mul] at hik
        have : (xs.drop (i * C.n)).take C.n = cs' := by
          apply List.ext_getElem?
          intro j
          by_cases hj : j < C.n
          · rw [List.getElem?_take, if_pos hj, List.getElem?_drop, ← hat j hj, add_add', hx (i * C.n + j) (by omega), List.getElem?_eq_getElem (by omega)]
          · rw [List.getElem?_eq_none (by rw [List.length_take]; omega), List.getElem?_eq_none (by omega)]
        rw [this]
        exact hrd
      · have hp := C.pos
        have h00 : 0 < xs.length := by rw [hxl]; exact Nat.mul_pos h0 hp
        have hc0 := hx 0 h00
        have hspot : a.spot = none := by
          have : a.add 0 = a := by simp [Addr.add]
          rw [this] at hc0
          exact World.cell?_spot hc0
        obtain ⟨b, off, spot⟩ := a
        simp only at hspot
        subst hspot
        have hlt := World.block_lt_of_cell? w _ hc0
        refine ⟨b, off, rfl, fun h => h.elim, by simpa [Addr.add] using hlt, fun j u hu => ?_⟩
        have hj : j < xs.length := (List.getElem?_eq_some_iff.1 hu).1
        have := hx j hj
        rw [Addr.add_lit] at this
        rw [this, ← hu, List.getElem?_eq_getElem hj]
      · have := sum_le_of bk (fun y : DataW H × List MemPlace => Rows.uptoBulk y.1) l elems (by omega) fun i h1 h2 => (hp i h1).2 h2
        simp only [Rows.uptoBulk, bulk_all, List.map_map]
        have e : (Rows.uptoBulk ∘ fun x : DataW H × List MemPlace => x.1) = fun y : DataW H × List MemPlace => Rows.uptoBulk y.1 := rfl
        rw [e]
        omega⟩

theorem reads_struct2 {P : Program} {t : TypeId} {f0 f1 : Field} {α β : Type} {C : Codec α} {D : Codec β} {bc : α → Nat} {bd : β → Nat} (hC : Reads P f0.type C bc) (hD : Reads P f1.type D bd)
    (ht : P.underlying t = some (.struct #[f0, f1])) (hc : P.cellsOf t = C.n + D.n) (h0 : f0.offset = 0) (h1 : f1.offset = C.n) : Reads P t (pairC C D) (fun p => bc p.1 + bd p.2) :=
  ⟨hc, fun H enc w spare held fuel cs x h => by
    obtain ⟨xs, n, rfl, rfl, hl, hn, hf⟩ := DataW.trod_struct ht h
    obtain ⟨kC, rC⟩ := hC
    obtain ⟨kD, rD⟩ := hD
    match xs, hn with
    | [x0, x1], _ =>
      have e0 := hf 0 f0 rfl
      have e1 := hf 1 f1 rfl
      rw [h0, List.drop_zero, kC] at e0
      rw [h1, kD] at e1
      obtain ⟨a, ha, ba⟩ := rC H enc w spare held n _ x0 e0
      obtain ⟨b, hb, bb⟩ := rD H enc w spare held n _ x1 e1
      refine ⟨(a, b), ⟨_, _, ?_, ha, hb⟩, ?_⟩
      · rw [List.take_of_length_le (l := cs.drop C.n) (by rw [List.length_drop, hl, hc]; omega), List.take_append_drop]
      · simp only [Rows.uptoBulk, bulk_all, List.map_cons, List.map_nil, List.sum_cons, List.sum_nil]
        omega⟩
theorem reads_struct3 {P : Program} {t : TypeId} {f0 f1 f2 : Field} {α β γ : Type} {C : Codec α} {D : Codec β} {E : Codec γ} {bc : α → Nat} {bd : β → Nat} {be : γ → Nat} (hC : Reads P f0.type C bc) (hD : Reads P f1.type D bd) (hE : Reads P f2.type E be)
    (ht : P.underlying t = some (.struct #[f0, f1, f2])) (hc : P.cellsOf t = C.n + (D.n + E.n)) (h0 : f0.offset = 0) (h1 : f1.offset = C.n) (h2 : f2.offset = C.n + D.n) : Reads P t (pairC C (pairC D E)) (fun p => bc p.1 + bd p.2.1 + be p.2.2) :=
  ⟨hc, fun H enc w spare held fuel cs x h => by
    obtain ⟨xs, n, rfl, rfl, hl, hn, hf⟩ := DataW.trod_struct ht h
    obtain ⟨kC, rC⟩ := hC
    obtain ⟨kD, rD⟩ := hD
    obtain ⟨kE, rE⟩ := hE
    match xs, hn with
    | [x0, x1, x2], _ =>
      have e0 := hf 0 f0 rfl
      have e1 := hf 1 f1 rfl
      have e2 := hf 2 f2 rfl
      rw [h0, List.drop_zero, kC] at e0
      rw [h1, kD] at e1
      rw [h2, kE] at e2
      obtain ⟨a, ha, ba⟩ := rC H enc w spare held n _ x0 e0
      obtain ⟨b, hb, bb⟩ := rD H enc w spare held n _ x1 e1
      obtain ⟨c, hc', bc'⟩ := rE H enc w spare held n _ x2 e2
      refine ⟨(a, b, c), ⟨_, _, ?_, ha, _, _, rfl, hb, hc'⟩, ?_⟩
      · rw [List.take_of_length_le (l := cs.drop (C.n + D.n)) (by rw [List.length_drop, hl, hc]; omega), ← List.drop_drop, List.take_append_drop, List.take_append_drop]
      · simp only [Rows.uptoBulk, bulk_all, List.map_cons, List.map_nil, List.sum_cons, List.sum_nil]
        omega⟩
/-- What is handed to the call: the value's cells, read. -/
theorem reads_arg {P : Program} {t : TypeId} {α : Type} {C : Codec α} {bk : α → Nat} (hR : Reads P t C bk) {H : Type} {enc : TypeId × Value → H} {w : World} {spare : Nat → Bool} {held : Bool} {cs : List Value} {d : DataW H} {p : List MemPlace}
    (h : ∃ fuel, DataW.trod enc P w 0 spare held fuel t cs = some (d, p)) : ∃ a : α, C.rd M0 w cs a ∧ bk a ≤ Rows.uptoBulk d := by
  obtain ⟨fuel, h⟩ := h
  exact hR.2 H enc w spare held fuel cs _ h
theorem SlR.of_rd {α : Type} {C : Codec α} {M : Nat → Prop} {w : World} {a : Option Addr} {n c : Nat} {l : List α} (h : (sliceC C).rd M w (Value.slice a n c).cells.toList l) : SlR C M w (.slice a n c) l := by
  obtain ⟨v, hv, hs⟩ := h
  simp [Value.cells] at hv
  exact hv ▸ hs
theorem of_rd_str {M : Nat → Prop} {w : World} {s : ByteArray} {x : List UInt8} (h : strC.rd M w (Value.string s).cells.toList x) : s = bs x ∧ x.length ≤ maxLen := by
  obtain ⟨hv, hs⟩ := h
  simp [Value.cells] at hv
  exact ⟨hv, hs⟩
theorem of_rd_int {M : Nat → Prop} {w : World} {a x : Int} (h : intC.rd M w (Value.int .i64 a).cells.toList x) : a = x ∧ -9223372036854775808 ≤ x ∧ x ≤ 9223372036854775807 := by
  obtain ⟨hv, hs⟩ := h
  simp [Value.cells] at hv
  exact ⟨hv, hs⟩
theorem of_rd_bool {M : Nat → Prop} {w : World} {a x : Bool} (h : boolC.rd M w (Value.bool a).cells.toList x) : a = x := by
  have hv : (Value.bool a).cells.toList = [Value.bool x] := h
  simpa [Value.cells] using hv
theorem readsBytes (P : Program) {t e : TypeId} (ht : P.underlying t = some (.slice e)) (he : P.underlying e = some (.int .u8)) (h1 : P.cellsOf t = 1) (h2 : P.cellsOf e = 1) : Reads P t (sliceC byteC) (fun l => 1 + (l.map fun _ => 1).sum) :=
  reads_slice (reads_byte he h2) ht h1
end Go.Proofs.YtjamjkjmlckgeaaGreatDoor
namespace Go.Proofs.YtjamjkjmlckgeaaGreatDoor
open Go.ChangeShapes Go.WideShapes Go.ChangeAt Go.RowKit
/-- Reads, with what holds of the read where each weight is within the form's reach. -/
def ReadsS (P : Program) (t : TypeId) {α : Type} (C : Codec α) (bk : α → Nat) (φ : α → Prop) : Prop :=
  P.cellsOf t = C.n ∧ ∀ (H : Type) (enc : TypeId × Value → H) (w : World) (spare : Nat → Bool) (held : Bool) (fuel : Nat) (cs : List Value) (x : DataW H × List MemPlace),
    DataW.trod enc P w 0 spare held fuel t cs = some x → ∃ a : α, C.rd M0 w cs a ∧ bk a ≤ Rows.uptoBulk x.1 ∧ ((∀ n ∈ x.1.weights P t, n ≤ reachBytes) → φ a)
theorem Reads.sized {P : Program} {t : TypeId} {α : Type} {C : Codec α} {bk : α → Nat} (h : Reads P t C bk) : ReadsS P t C bk (fun _ => True) :=
  ⟨h.1, fun H enc w spare held fuel cs x hx => by
    obtain ⟨a, h1, h2⟩ := h.2 H enc w spare held fuel cs x hx
    exact ⟨a, h1, h2, fun _ => trivial⟩⟩
theorem weights_all {H : Type} {P : Program} {e : TypeId} : ∀ {l : List (DataW H)} {d : DataW H}, d ∈ l → ∀ n ∈ d.weights P e, n ∈ DataW.weightsAll P e l
  | a :: l, d, hd, n, hn => by
    rw [DataW.weightsAll, List.mem_append]
    rcases List.mem_cons.1 hd with h | h
    · exact .inl (h ▸ hn)
    · exact .inr (weights_all h n hn)
theorem readsS_string {P : Program} {t : TypeId} (ht : P.underlying t = some .string) (hc : P.cellsOf t = 1) : ReadsS P t strC (fun l => l.length + 1) (fun l => l.length ≤ reachBytes) :=
  ⟨hc, fun H enc w spare held fuel cs x h => by
    obtain ⟨s, rfl, rfl, hs⟩ := DataW.trod_string ht h
    refine ⟨s.data.toList, ⟨by rw [← bs_of], by rw [Array.length_toList]; exact hs⟩, ?_, fun hw => ?_⟩
    · rw [Rows.uptoBulk]
      exact Nat.le_refl _
    · exact hw _ (by simp [DataW.weights])⟩
theorem readsS_slice {P : Program} {t e : TypeId} {α : Type} {C : Codec α} {bk : α → Nat} {φ : α → Prop} (hR : ReadsS P e C bk φ) (ht : P.underlying t = some (.slice e)) (hc : P.cellsOf t = 1) : ReadsS P t (sliceC C) (fun l => 1 + (l.map bk).sum) (fun l => l.length * P.bytesOf e ≤ reachBytes ∧ ∀ a ∈ l, φ a) :=
  ⟨hc, fun H enc w spare held fuel cs x h => by
    obtain ⟨hn, hR⟩ := hR
    rcases DataW.trod_slice ht h with ⟨rfl, rfl⟩ | ⟨a, len, cap, elems, rest, n, _, rfl, rfl, _, hl, hm, hlen, hel, _, _⟩
    · exact ⟨[], ⟨_, rfl, SlR.nil C M0 w⟩, by simp [Rows.uptoBulk], fun _ => by simp⟩
    · rw [hn] at hel
      have each : ∀ i, i < len → ∃ y : α, (∃ cs' : List Value, cs'.length = C.n ∧ (∀ j, j < C.n → w.cell? ((a.add (i * C.n)).add j) = cs'[j]?) ∧ C.rd M0 w cs' y) ∧ ∀ (hi : i < elems.length), bk y ≤ Rows.uptoBulk (elems[i].1) ∧ ((∀ n ∈ (elems[i].1).weights P e, n ≤ reachBytes) → φ y) := by
        intro i hi
        have h1 := hel i hi
        have hi' : i < elems.length := by omega
        rw [List.getElem?_eq_getElem hi', Option.bind_eq_some_iff] at h1
        obtain ⟨cs', hc', ht'⟩ := h1
        obtain ⟨_, hcl, hat⟩ := World.cells?_some hc'
        obtain ⟨y, hy1, hy2⟩ := hR H enc w spare held n cs' _ ht'
        exact ⟨y, ⟨cs', hcl, fun j hj => hat j hj, hy1⟩, fun _ => hy2⟩
      obtain ⟨l, hll, hp⟩ := exists_list len _ each
      obtain ⟨xs, hxl, hx⟩ := exists_list (len * C.n) (fun j (u : Value) => w.cell? (a.add j) = some u) (fun j hj => by
        have hq : j / C.n < len := (Nat.div_lt_iff_lt_mul C.pos).2 hj
        obtain ⟨y, ⟨cs', hcl, hat, _⟩, _⟩ := each _ hq
        have hm := Nat.mod_lt j C.pos
        have hc := hat (j % C.n) hm
        rw [add_add'] at hc
        have hdm := Nat.div_add_mod j C.n
        rw [Nat.mul_comm] at hdm
        rw [hdm] at hc
        rw [List.getElem?_eq_getElem (by omega)] at hc
        exact ⟨_, hc⟩)
      refine ⟨l, ⟨_, rfl, some a, len, cap, xs, rfl, hll.symm, hl, hm, ⟨by rw [hxl, hll], fun i hi => ?_⟩, fun h0 => ?_⟩, ?_, fun hw => ⟨?_, fun y hy => ?_⟩⟩
      · obtain ⟨⟨cs', hcl, hat, hrd⟩, _⟩ := hp i hi
        have hik : (i + 1) * C.n ≤ len * C.n := Nat.mul_le_mul_right _ (by omega)
        rw [Nat.add_mul, Nat.one_mul] at hik
        have : (xs.drop (i * C.n)).take C.n = cs' := by
          apply List.ext_getElem?
          intro j
          by_cases hj : j < C.n
          · rw [List.getElem?_take, if_pos hj, List.getElem?_drop, ← hat j hj, add_add', hx (i * C.n + j) (by omega), List.getElem?_eq_getElem (by omega)]
          · rw [List.getElem?_eq_none (by rw [List.length_take]; omega), List.getElem?_eq_none (by omega)]
        rw [this]
        exact hrd
      · have hp := C.pos
        have h00 : 0 < xs.length := by rw [hxl]; exact Nat.mul_pos h0 hp
        have hc0 := hx 0 h00
        have hspot : a.spot = none := by
          have : a.add 0 = a := by simp [Addr.add]
          rw [this] at hc0
          exact World.cell?_spot hc0
        obtain ⟨b, off, spot⟩ := a
        simp only at hspot
        subst hspot
        have hlt := World.block_lt_of_cell? w _ hc0
        refine ⟨b, off, rfl, fun h => h.elim, by simpa [Addr.add] using hlt, fun j u hu => ?_⟩
        have hj : j < xs.length := (List.getElem?_eq_some_iff.1 hu).1
        have := hx j hj
        rw [Addr.add_lit] at this
        rw [this, ← hu, List.getElem?_eq_getElem hj]
      · have := sum_le_of bk (fun y : DataW H × List MemPlace => Rows.uptoBulk y.1) l elems (by omega) fun i h1 h2 => ((hp i h1).2 h2).1
        simp only [Rows.uptoBulk, bulk_all, List.map_map]
        have e : (Rows.uptoBulk ∘ fun x : DataW H × List MemPlace => x.1) = fun y : DataW H × List MemPlace => Rows.uptoBulk y.1 := rfl
        rw [e]
        omega
      · have := hw ((elems.map fun x => x.1).length * P.bytesOf e + rest.length * P.bytesOf e) (by
          simp only [DataW.weights, ht]
          rw [← Nat.add_mul, List.length_map]
          simp)
        rw [List.length_map, show elems.length = l.length by omega] at this
        omega
      · obtain ⟨i, hi, rfl⟩ := List.mem_iff_getElem.1 hy
        have hi' : i < elems.length := by omega
        refine ((hp i hi).2 hi').2 fun n hn => hw n ?_
        simp only [DataW.weights, ht, List.mem_cons, List.mem_append]
        exact .inr (.inl (weights_all (List.mem_map_of_mem (List.getElem_mem hi')) n hn))⟩
theorem readsS_struct2 {P : Program} {t : TypeId} {f0 f1 : Field} {α β : Type} {C : Codec α} {D : Codec β} {bc : α → Nat} {bd : β → Nat} {φ : α → Prop} {ψ : β → Prop} (hC : ReadsS P f0.type C bc φ) (hD : ReadsS P f1.type D bd ψ)
    (ht : P.underlying t = some (.struct #[f0, f1])) (hc : P.cellsOf t = C.n + D.n) (h0 : f0.offset = 0) (h1 : f1.offset = C.n) : ReadsS P t (pairC C D) (fun p => bc p.1 + bd p.2) (fun p => φ p.1 ∧ ψ p.2) :=
  ⟨hc, fun H enc w spare held fuel cs x h => by
    obtain ⟨xs, n, rfl, rfl, hl, hn, hf⟩ := DataW.trod_struct ht h
    obtain ⟨kC, rC⟩ := hC
    obtain ⟨kD, rD⟩ := hD
    match xs, hn with
    | [x0, x1], _ =>
      have e0 := hf 0 f0 rfl
      have e1 := hf 1 f1 rfl
      rw [h0, List.drop_zero, kC] at e0
      rw [h1, kD] at e1
      obtain ⟨a, ha, ba, sa⟩ := rC H enc w spare held n _ x0 e0
      obtain ⟨b, hb, bb, sb⟩ := rD H enc w spare held n _ x1 e1
      refine ⟨(a, b), ⟨_, _, ?_, ha, hb⟩, ?_, fun hw => ⟨sa fun m hm => hw m ?_, sb fun m hm => hw m ?_⟩⟩
      · rw [List.take_of_length_le (l := cs.drop C.n) (by rw [List.length_drop, hl, hc]; omega), List.take_append_drop]
      · simp only [Rows.uptoBulk, bulk_all, List.map_cons, List.map_nil, List.sum_cons, List.sum_nil]
        omega
      · simp only [DataW.weights, ht]
        simp [DataW.weightsEach, hm]
      · simp only [DataW.weights, ht]
        simp [DataW.weightsEach, hm]⟩
theorem readsS_arg {P : Program} {t : TypeId} {α : Type} {C : Codec α} {bk : α → Nat} {φ : α → Prop} (hR : ReadsS P t C bk φ) {H : Type} {enc : TypeId × Value → H} {w : World} {spare : Nat → Bool} {held : Bool} {cs : List Value} {d : DataW H} {p : List MemPlace}
    (h : ∃ fuel, DataW.trod enc P w 0 spare held fuel t cs = some (d, p)) : ∃ a : α, C.rd M0 w cs a ∧ bk a ≤ Rows.uptoBulk d ∧ ((∀ n ∈ d.weights P t, n ≤ reachBytes) → φ a) := by
  obtain ⟨fuel, h⟩ := h
  exact hR.2 H enc w spare held fuel cs _ h
theorem sized_arg {H : Type} {P : Program} {ts : List TypeId} {ds : List (DataW H)} (h : (DataW.weightsEach P ts ds).all (· ≤ reachBytes) = true) {j : Nat} {t : TypeId} {d : DataW H} (ht : ts[j]? = some t) (hd : ds[j]? = some d) : ∀ n ∈ d.weights P t, n ≤ reachBytes := fun n hn => by
  have := List.all_eq_true.1 h _ (DataW.weights_mem_each ht hd n hn)
  simpa using this
end Go.Proofs.YtjamjkjmlckgeaaGreatDoor
