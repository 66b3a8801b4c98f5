/-
  Queries, as the rows take them.
-/
import Derived.Test.YtfjpedgddgbelaaGreatDoorG1
import Derived.Test.YtfjpedgddgbelaaGreatDoorG11
namespace Go.Proofs.YtfjpedgddgbelaaGreatDoor
open Go.ChangeShapes Go.WideShapes Go.ChangeAt Go.RowKit
theorem slice_read {P : Program} {t e : TypeId} {α : Type} {C : Codec α} {bk : α → Nat} {H : Type} {enc : TypeId × Value → H} {w : World} {spare : Nat → Bool} {held : Bool} {m : Nat} {cs : List Value} {x : DataW H × List MemPlace} (hn : P.cellsOf e = C.n)
    (hR : ∀ (cs' : List Value) (y : DataW H × List MemPlace), DataW.trod enc P w 0 spare held m e cs' = some y → ∃ a : α, C.rd M0 w cs' a ∧ bk a ≤ Rows.uptoBulk y.1) (ht : P.underlying t = some (.slice e)) (h : DataW.trod enc P w 0 spare held (m + 1) t cs = some x) :
    ∃ a : List α, (sliceC C).rd M0 w cs a ∧ 1 + (a.map bk).sum ≤ Rows.uptoBulk x.1 := by
  rcases DataW.trod_slice ht h with ⟨rfl, rfl⟩ | ⟨a, len, cap, elems, rest, n, hmn, rfl, rfl, _, hl, hm, hlen, hel, _, _⟩
  · exact ⟨[], ⟨_, rfl, SlR.nil C M0 w⟩, by simp [Rows.uptoBulk]⟩
  · obtain rfl : m = n := by omega
    rw [hn] at hel
    have each : ∀ i, i < len → ∃ y : α, (∃ cs' : List Value, cs'.length = C.n ∧ (∀ j, j < C.n → w.cell? ((a.add (i * C.n)).add j) = cs'[j]?) ∧ C.rd M0 w cs' y) ∧ ∀ (hi : i < elems.length), bk y ≤ Rows.uptoBulk (elems[i].1) := by
      intro i hi
      have h1 := hel i hi
      have hi' : i < elems.length := by omega
      rw [List.getElem?_eq_getElem hi', Option.bind_eq_some_iff] at h1
      obtain ⟨cs', hc', ht'⟩ := h1
      obtain ⟨_, hcl, hat⟩ := World.cells?_some hc'
      obtain ⟨y, hy1, hy2⟩ := hR cs' _ ht'
      exact ⟨y, ⟨cs', hcl, fun j hj => hat j hj, hy1⟩, fun _ => hy2⟩
    obtain ⟨l, hll, hp⟩ := exists_list len _ each
    obtain ⟨xs, hxl, hx⟩ := exists_list (len * C.n) (fun j (u : Value) => w.cell? (a.add j) = some u) (fun j hj => by
      have hq : j / C.n < len := (Nat.div_lt_iff_lt_mul C.pos).2 hj
      obtain ⟨y, ⟨cs', hcl, hat, _⟩, _⟩ := each _ hq
      have hm := Nat.mod_lt j C.pos
      have hc := hat (j % C.n) hm
      rw [add_add'] at hc
      have hdm := Nat.div_add_mod j C.n
      rw [Nat.mul_comm] at hdm
      rw [hdm] at hc
      rw [List.getElem?_eq_getElem (by omega)] at hc
      exact ⟨_, hc⟩)
    refine ⟨l, ⟨_, rfl, some a, len, cap, xs, rfl, hll.symm, hl, hm, ⟨by rw [hxl, hll], fun i hi => ?_⟩, fun h0 => ?_⟩, ?_⟩
    · obtain ⟨⟨cs', hcl, hat, hrd⟩, _⟩ := hp i hi
      have hik : (i + 1) * C.n ≤ len * C.n := Nat.mul_le_mul_right _ (by omega)
      rw [Nat.add_mul, Nat.one_mul] at hik
      have : (xs.drop (i * C.n)).take C.n = cs' := by
        apply List.ext_getElem?
        intro j
        by_cases hj : j < C.n
        · rw [List.getElem?_take, if_pos hj, List.getElem?_drop, ← hat j hj, add_add', hx (i * C.n + j) (by omega), List.getElem?_eq_getElem (by omega)]
        · rw [List.getElem?_eq_none (by rw [List.length_take]; omega), List.getElem?_eq_none (by omega)]
      rw [this]
      exact hrd
    · have hp := C.pos
      have h00 : 0 < xs.length := by rw [hxl]; exact Nat.mul_pos h0 hp
      have hc0 := hx 0 h00
      have hspot : a.spot = none := by
        have : a.add 0 = a := by simp [Addr.add]
        rw [this] at hc0
        exact World.cell?_spot hc0
      obtain ⟨b, off, spot⟩ := a
      simp only at hspot
      subst hspot
      have hlt := World.block_lt_of_cell? w _ hc0
      refine ⟨b, off, rfl, fun h => h.elim, by simpa [Addr.add] using hlt, fun j u hu => ?_⟩
      have hj : j < xs.length := (List.getElem?_eq_some_iff.1 hu).1
      have := hx j hj
      rw [Addr.add_lit] at this
      rw [this, ← hu, List.getElem?_eq_getElem hj]
    · have := sum_le_of bk (fun y : DataW H × List MemPlace => Rows.uptoBulk y.1) l elems (by omega) fun i h1 h2 => (hp i h1).2 h2
      simp only [Rows.uptoBulk, bulk_all, List.map_map]
      have e : (Rows.uptoBulk ∘ fun x : DataW H × List MemPlace => x.1) = fun y : DataW H × List MemPlace => Rows.uptoBulk y.1 := rfl
      rw [e]
      omega
theorem bulks_sum (l : List Q) : Q.bulks l = (l.map Q.bulk).sum := by
  induction l with
  | nil => rfl
  | cons a l ih => rw [Q.bulks, ih, List.map_cons, List.sum_cons]
theorem trod_four {P : Program} {H : Type} {enc : TypeId × Value → H} {w : World} {spare : Nat → Bool} {held : Bool} {t : TypeId} {f0 f1 f2 f3 : Field} {fuel : Nat} {cs : List Value} {x : DataW H × List MemPlace} (ht : P.underlying t = some (.struct #[f0, f1, f2, f3])) (h : DataW.trod enc P w 0 spare held fuel t cs = some x) :
    ∃ y0 y1 y2 y3 n, fuel = n + 1 ∧ x.1 = .agg [y0.1, y1.1, y2.1, y3.1] ∧ cs.length = P.cellsOf t ∧ DataW.trod enc P w 0 spare held n f0.type ((cs.drop f0.offset).take (P.cellsOf f0.type)) = some y0 ∧
      DataW.trod enc P w 0 spare held n f1.type ((cs.drop f1.offset).take (P.cellsOf f1.type)) = some y1 ∧ DataW.trod enc P w 0 spare held n f2.type ((cs.drop f2.offset).take (P.cellsOf f2.type)) = some y2 ∧
      DataW.trod enc P w 0 spare held n f3.type ((cs.drop f3.offset).take (P.cellsOf f3.type)) = some y3 := by
  obtain ⟨xs, n, e, rfl, hl, hlen, hf⟩ := DataW.trod_struct ht h
  match xs, hlen with
  | [y0, y1, y2, y3], _ => exact ⟨y0, y1, y2, y3, n, e, rfl, hl, by simpa using hf 0 f0 rfl, by simpa using hf 1 f1 rfl, by simpa using hf 2 f2 rfl, by simpa using hf 3 f3 rfl⟩
theorem list_four {α : Type} {cs : List α} (h : cs.length = 4) : ∃ c0 c1 c2 c3, cs = [c0, c1, c2, c3] := by
  match cs, h with
  | [a, b, c, d], _ => exact ⟨a, b, c, d, rfl⟩
theorem query_read {H : Type} (enc : TypeId × Value → H) (w : World) (spare : Nat → Bool) (held : Bool) : ∀ (fuel : Nat) (cs : List Value) (x : DataW H × List MemPlace), DataW.trod enc Tryz.prog w 0 spare held fuel 50 cs = some x →
    ∃ q : Q, (qF fuel).rd M0 w cs q ∧ q.bulk ≤ Rows.uptoBulk x.1 := by
  intro fuel
  induction fuel using Nat.strongRecOn with
  | _ fuel ih =>
    intro cs x h
    obtain ⟨x0, x1, x2, x3, n, rfl, hx, hl, e0, e1, e2, e3⟩ := trod_four Tryz.underlying50 h
    have k0 : Tryz.prog.cellsOf 3 = 1 := by kernel_rfl
    have k1 : Tryz.prog.cellsOf 9 = 1 := by kernel_rfl
    have k3 : Tryz.prog.cellsOf 48 = 1 := by kernel_rfl
    have k4 : Tryz.prog.cellsOf 50 = 4 := by kernel_rfl
    rw [k4] at hl
    obtain ⟨c0, c1, c2, c3, rfl⟩ := list_four hl
    rw [k0] at e0
    rw [k1] at e1
    rw [k0] at e2
    rw [k3] at e3
    replace e0 : DataW.trod enc Tryz.prog w 0 spare held n 3 [c0] = some x0 := e0
    replace e1 : DataW.trod enc Tryz.prog w 0 spare held n 9 [c1] = some x1 := e1
    replace e2 : DataW.trod enc Tryz.prog w 0 spare held n 3 [c2] = some x2 := e2
    replace e3 : DataW.trod enc Tryz.prog w 0 spare held n 48 [c3] = some x3 := e3
    obtain ⟨a0, ⟨h0, b0, b0'⟩, _⟩ := (reads_int Tryz.underlying3 k0).2 H enc w spare held n _ x0 e0
    obtain ⟨a1, ⟨h1, b1⟩, g1⟩ := (reads_string Tryz.underlying9 k1).2 H enc w spare held n _ x1 e1
    obtain ⟨a2, ⟨h2, b2, b2'⟩, _⟩ := (reads_int Tryz.underlying3 k0).2 H enc w spare held n _ x2 e2
    cases n with
    | zero => simp [DataW.trod] at e3
    | succ m =>
      obtain ⟨a3, ⟨v, h3, s3⟩, g3⟩ := slice_read (C := qF m) (bk := Q.bulk) k4 (fun cs' y hy => ih m (by omega) cs' y hy) Tryz.underlying48 e3
      injection h0 with h0
      injection h1 with h1
      injection h2 with h2
      injection h3 with h3
      subst h0 h1 h2 h3
      refine ⟨.node a0 a1 a2 a3, ⟨c3, rfl, ⟨b0, b0'⟩, b1, ⟨b2, b2'⟩, s3.qMono (by omega)⟩, ?_⟩
      have p0 := bulk_pos x0.1
      have p2 := bulk_pos x2.1
      replace g1 : a1.length + 1 ≤ Rows.uptoBulk x1.1 := g1
      rw [hx]
      simp only [Rows.uptoBulk, bulk_all, List.map_cons, List.map_nil, List.sum_cons, List.sum_nil, Q.bulk, bulks_sum]
      omega
theorem query_arg {H : Type} {enc : TypeId × Value → H} {w : World} {spare : Nat → Bool} {held : Bool} {a : Array Value} {d : DataW H} {p : List MemPlace}
    (h : ∃ fuel, DataW.trod enc Tryz.prog w 0 spare held fuel 50 (Value.agg a).cells.toList = some (d, p)) : ∃ (f : Nat) (q : Q), QAt f M0 w (.agg a) q ∧ q.bulk ≤ Rows.uptoBulk d := by
  obtain ⟨fuel, h⟩ := h
  obtain ⟨q, h1, h2⟩ := query_read enc w spare held fuel _ _ h
  obtain ⟨g, _, hq⟩ := QAt.of_rd h1
  exact ⟨g, q, hq, h2⟩
end Go.Proofs.YtfjpedgddgbelaaGreatDoor
