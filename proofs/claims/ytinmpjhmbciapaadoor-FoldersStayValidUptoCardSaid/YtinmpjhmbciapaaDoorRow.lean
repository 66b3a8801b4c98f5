/-
  Rows of elements of several cells: append in place, copy, clear; Insert and Delete on what the call owns. No program is named here.
-/
import Derived.Test.YtinmpjhmbciapaaDoorOwn
import Derived.Test.YtinmpjhmbciapaaDoorHeldD
import Derived.Laws.CopyOwn
import Derived.Lib.AppendZerosOnto
import Derived.Lib.Overlaps
import Derived.Lib.SliceRun
namespace Go.Proofs.YtinmpjhmbciapaaDoor
open Go.RowKit

section
variable {P : Program} {w : World} {k bytes : Nat} {t e : TypeId}

theorem Blk.setRow {g : Nat} {cur cs : Array Value} (h : Blk w g e cur) : Blk (w.setRow g cs) g e cs := setRow_heap w g cur cs e (0, 0) h
theorem setRow_same {g : Nat} {cur : Array Value} (h : Blk w g e cur) (o : Nat) : w.setRow g (splice cur.toList o []).toArray = w := by
  have : (splice cur.toList o []).toArray = cur := by simp [splice]
  rw [this]
  exact setRow_self w g cur e (0, 0) h
theorem add_zero_lit (g o : Nat) (i : Nat) : (⟨g, o, none⟩ : Addr).add i = ⟨g, o + i, none⟩ := Addr.add_lit _ _ _

/-- append onto a row that has room. -/
theorem run_append_in (T : SlT P k t e bytes) (ty : TypeId) {g n c : Nat} {cur : Array Value} (hg : Blk w g e cur) (A : Option Addr) (m c2 : Nat) (news : List Value) (hl : news.length = m * k)
    (hA : 0 < m → ∃ ad, A = some ad ∧ ∀ (j : Nat) (u : Value), news[j]? = some u → w.cell? (ad.add j) = some u) (h1 : ∀ u ∈ news, u.oneCell' = true) (hroom : n + m ≤ c) (hfit : n * k + news.length ≤ cur.size) :
    (Builtin.append_ #[t, t] ty #[.slice (some ⟨g, 0, none⟩) n c, .slice A m c2]).run P w = .ok (.slice (some ⟨g, 0, none⟩) (n + m) c) (w.setRow g (splice cur.toList (n * k) news).toArray) := by
  obtain ⟨i, z, hi, hz, hk, hb, hzs⟩ := T.hi
  rcases Nat.eq_zero_or_pos m with h0 | h0
  · subst h0
    have : news = [] := List.eq_nil_of_length_eq_zero (by simpa using hl)
    subst this
    rw [setRow_same hg]
    cases A <;> simp [Builtin.append_, run_underlying T.ht, sizeOf, typeInfo, hi, Builtin.lenOf, Builtin.firstCells, storeCells, loadCells, loadCellsFrom, show n ≤ c by omega]
  · obtain ⟨ad, rfl, hc⟩ := hA h0
    have := run_append_room (P := P) w t ty e i T.ht hi g n c cur hg ad m c2 news (by rw [hk]; exact hl) hc h1 hroom (by rw [hk]; exact hfit)
    rw [this, hk]
    simp [splice]

/-- copy into a row. -/
theorem run_copy_in (T : SlT P k t e bytes) {g o : Nat} {cur : Array Value} (hg : Blk w g e cur) (dp A : Option Addr) (dLen dCap sLen sCap : Nat) (cs : List Value) (hl : cs.length = Nat.min sLen dLen * k)
    (hpos : 0 < cs.length → dp = some ⟨g, o, none⟩ ∧ ∃ ad, A = some ad ∧ ∀ (j : Nat) (u : Value), cs[j]? = some u → w.cell? (ad.add j) = some u) (h1 : ∀ u ∈ cs, u.oneCell' = true) (hfit : o + cs.length ≤ cur.size) (ty : TypeId) :
    (Builtin.copy_ #[t, t] ty #[.slice dp dLen dCap, .slice A sLen sCap]).run P w = .ok (.int .i64 (Nat.min sLen dLen : Nat)) (w.setRow g (splice cur.toList o cs).toArray) := by
  obtain ⟨i, z, hi, hz, hk, hb, hzs⟩ := T.hi
  rcases Nat.eq_zero_or_pos cs.length with h0 | h0
  · have : cs = [] := List.eq_nil_of_length_eq_zero h0
    subst this
    rw [setRow_same hg]
    have h2 : Nat.min sLen dLen * k = 0 := by simpa using hl.symm
    cases A <;> cases dp <;> simp [Builtin.copy_, run_underlying T.ht, sizeOf, typeInfo, hi, hk, Builtin.lenOf, Builtin.firstCells, h2, storeCells, loadCells, loadCellsFrom, goInt]
  · obtain ⟨rfl, ad, rfl, hc⟩ := hpos h0
    have hld := run_loadCells_list (P := P) w ad cs hc
    have hst := run_storeCells_at P g o e cs 0 cur w hg (by simpa using hfit) h1
    simp [Builtin.copy_, run_underlying T.ht, Builtin.lenOf, Builtin.firstCells, sizeOf, typeInfo, hi, hk, ← hl, hld, hst, goInt, splice]

theorem zeroCells_one (z : Array Value) (h0 : 0 < z.size) (h : ∀ u ∈ z.toList, u.oneCell' = true) (m : Nat) : ∀ u ∈ (Builtin.zeroCells z m).toList, u.oneCell' = true := by
  intro u hu
  simp only [Builtin.zeroCells, Array.toList_map, Array.toList_range, List.mem_map, List.mem_range] at hu
  obtain ⟨i, _, rfl⟩ := hu
  have hlt : i % z.size < z.size := Nat.mod_lt _ h0
  rw [getElem!_pos z (i % z.size) hlt]
  exact h _ (by simp)
/-- clear on a part of a row. -/
theorem run_clear_in (T : SlT P k t e bytes) {g o : Nat} {cur : Array Value} (hg : Blk w g e cur) (m c : Nat) (h0 : 0 < m) (hk0 : 0 < k) (hone : ∀ i z, P.info? e = some i → i.zero = some z → ∀ u ∈ z.cells.toList, u.oneCell' = true) (hfit : o + m * k ≤ cur.size) : ∃ zs : List Value, zs.length = m * k ∧ ∀ ty : TypeId,
    (Builtin.clear_ #[t] ty #[.slice (some ⟨g, o, none⟩) m c]).run P w = .ok (.tuple #[]) (w.setRow g (splice cur.toList o zs).toArray) := by
  obtain ⟨i, z, hi, hz, hk, hb, hzs⟩ := T.hi
  have hlen : (Builtin.zeroCells z.cells m).toList.length = m * k := by rw [Array.length_toList, size_zeroCells, hzs]
  have hst := run_storeCells_at P g o e (Builtin.zeroCells z.cells m).toList 0 cur w hg (by rw [hlen]; simpa using hfit) (zeroCells_one z.cells (by omega) (hone i z hi hz) m)
  refine ⟨_, hlen, fun ty => ?_⟩
  obtain ⟨m', rfl⟩ : ∃ m', m = m' + 1 := ⟨m - 1, by omega⟩
  simp [Builtin.clear_, run_underlying T.ht, zeroValue, typeInfo, hi, hz, hst, splice]
end
section
variable {P : Program} {w w' : World} {o : Oper} {a : Act} {K : Act → World → Prop} {Q : Exit → Act → World → Prop} {ts : Array TypeId} {v vx vy : Value} {ops : Array Oper} {rest : List Oper}
theorem wp_append_run (x y : Operand) (ho : o.op = .call { callee := .builtin .append, args := #[x, y], argTypes := ts }) (hx : a.eval x = vx) (hy : a.eval y = vy)
    (hrun : (Builtin.append_ ts o.type #[vx, vy]).run P w = .ok v w') (h : K (a.put o.dst v) w') : o.wp P a w K Q := by
  unfold Oper.wp execOp
  simp only [ho, resolve, invoke, builtin, Sem.run_bind, Sem.run_pure, Result.andThen_ok, List.map_toArray, List.map_cons, List.map_nil, hx, hy, hrun]
  exact h
theorem wp_copy_run (x y : Operand) (ho : o.op = .call { callee := .builtin .copy, args := #[x, y], argTypes := ts }) (hx : a.eval x = vx) (hy : a.eval y = vy)
    (hrun : (Builtin.copy_ ts o.type #[vx, vy]).run P w = .ok v w') (h : K (a.put o.dst v) w') : o.wp P a w K Q := by
  unfold Oper.wp execOp
  simp only [ho, resolve, invoke, builtin, Sem.run_bind, Sem.run_pure, Result.andThen_ok, List.map_toArray, List.map_cons, List.map_nil, hx, hy, hrun]
  exact h
theorem wp_clear_run (x : Operand) (ho : o.op = .call { callee := .builtin .clear, args := #[x], argTypes := ts }) (hx : a.eval x = vx)
    (hrun : (Builtin.clear_ ts o.type #[vx]).run P w = .ok v w') (h : K (a.put o.dst v) w') : o.wp P a w K Q := by
  unfold Oper.wp execOp
  simp only [ho, resolve, invoke, builtin, Sem.run_bind, Sem.run_pure, Result.andThen_ok, List.map_toArray, List.map_cons, List.map_nil, hx, hrun]
  exact h
theorem wpList_of_wp (hgd : Region.wanted o (yielded ops a.tmps) = true) (h : ∀ K : Act → World → Prop, (∀ a w, wpList P ops Q rest a w → K a w) → o.wp P a w K Q) : wpList P ops Q (o :: rest) a w := by
  refine wpList_step fun K hK => ?_
  rw [if_pos hgd]
  exact h K hK
theorem wpList_append_run' (hgd : Region.wanted o (yielded ops a.tmps) = true) (x y : Operand) (ho : o.op = .call { callee := .builtin .append, args := #[x, y], argTypes := ts }) (hx : a.eval x = vx) (hy : a.eval y = vy)
    (hrun : (Builtin.append_ ts o.type #[vx, vy]).run P w = .ok v w') (h : wpList P ops Q rest (a.put o.dst v) w') : wpList P ops Q (o :: rest) a w :=
  wpList_of_wp hgd fun _ hK => wp_append_run x y ho hx hy hrun (hK _ _ h)
theorem wpList_copy_run' (hgd : Region.wanted o (yielded ops a.tmps) = true) (x y : Operand) (ho : o.op = .call { callee := .builtin .copy, args := #[x, y], argTypes := ts }) (hx : a.eval x = vx) (hy : a.eval y = vy)
    (hrun : (Builtin.copy_ ts o.type #[vx, vy]).run P w = .ok v w') (h : wpList P ops Q rest (a.put o.dst v) w') : wpList P ops Q (o :: rest) a w :=
  wpList_of_wp hgd fun _ hK => wp_copy_run x y ho hx hy hrun (hK _ _ h)
theorem wpList_clear_run' (hgd : Region.wanted o (yielded ops a.tmps) = true) (x : Operand) (ho : o.op = .call { callee := .builtin .clear, args := #[x], argTypes := ts }) (hx : a.eval x = vx)
    (hrun : (Builtin.clear_ ts o.type #[vx]).run P w = .ok v w') (h : wpList P ops Q rest (a.put o.dst v) w') : wpList P ops Q (o :: rest) a w :=
  wpList_of_wp hgd fun _ hK => wp_clear_run x ho hx hrun (hK _ _ h)
end
/-- The cells of what is owned. -/
theorem Own.cells {α : Type} {C : Codec α} {M : Nat → Prop} {w : World} {B g n c : Nat} {e : TypeId} {l : List α} {cur : Array Value} (h : Own C M w B e (.slice (some ⟨g, 0, none⟩) n c) l) (hb : Blk w g e cur) :
    cur.size = c * C.n ∧ Els C (fun b => M b ∨ b = g) w (cur.toList.take (l.length * C.n)) l := by
  obtain ⟨xs, ho, he⟩ := h
  rcases ho.2 with ⟨h, _⟩ | ⟨g', cap, cur', hv, _, hb', _, _, h3, htk⟩
  · cases h
  · injection hv with hv1 hv2 hv3
    injection hv1 with hv1
    injection hv1 with hv1
    subst hv1 hv3
    have : cur' = cur := by have h1 := hb'.symm.trans hb; simpa using h1
    subst this
    rw [htk]
    exact ⟨h3, he.sub fun b _ hor => hor.imp id fun e => by rw [e]; rfl⟩
/-- A row that is known whole is owned. -/
theorem Own.mk_row {α : Type} {C : Codec α} {M : Nat → Prop} {w : World} {B g n c : Nat} {e : TypeId} {l : List α} {cur : Array Value} {xs : List Value} (hb : Blk w g e cur) (hB : B ≤ g) (hsz : cur.size = c * C.n) (hn : l.length = n) (hc : n ≤ c) (hm : c ≤ maxLen)
    (he : Els C (fun b => M b ∨ b = g) w xs l) (hx : cur.toList.take (n * C.n) = xs) : Own C M w B e (.slice (some ⟨g, 0, none⟩) n c) l := by
  subst hn
  refine ⟨xs, ⟨he.1, .inr ⟨g, c, cur, rfl, hB, hb, hc, hm, hsz, hx⟩⟩, he.sub fun b _ hor => hor.imp id fun h => ?_⟩
  simp only [Value.ownBlock, Option.some.injEq] at h
  exact h.symm
theorem splice_take {α : Type} (L D : List α) (a n : Nat) (h : a + D.length ≤ L.length) (hn : n = a + D.length) : (splice L a D).take n = L.take a ++ D := by
  subst hn
  have h1 : (L.take a).length = a := by rw [List.length_take]; omega
  rw [splice, ← List.append_assoc, List.take_append_of_le_length (by rw [List.length_append, h1]; omega), List.take_of_length_le (by rw [List.length_append, h1]; omega)]
/-- A gap made, and filled. -/
theorem splice_two {α : Type} (L X D : List α) (a b n : Nat) (hb : X.length = b) (h : a + b + D.length ≤ L.length) (hn : n = a + b + D.length) : (splice (splice L (a + b) D) a X).take n = L.take a ++ (X ++ D) := by
  subst hb hn
  have hl : (splice L (a + X.length) D).length = L.length := length_splice _ _ _ h
  have h1 : (L.take a).length = a := by rw [List.length_take]; omega
  have e1 : (splice L (a + X.length) D).take a = L.take a := by
    rw [splice, List.take_append_of_le_length (by rw [List.length_take]; omega), List.take_take, Nat.min_eq_left (by omega)]
  have e2 : (splice L (a + X.length) D).drop (a + X.length) = D ++ L.drop (a + X.length + D.length) := by
    have h2 : (L.take (a + X.length)).length = a + X.length := by rw [List.length_take]; omega
    have h3 := List.drop_left (l₁ := L.take (a + X.length)) (l₂ := D ++ L.drop (a + X.length + D.length))
    rw [h2] at h3
    exact h3
  rw [splice, e1, e2, ← List.append_assoc, ← List.append_assoc, List.take_append_of_le_length (by simp only [List.length_append, h1]; omega), List.take_of_length_le (by simp only [List.length_append, h1]; omega), List.append_assoc]
/-- Filled, and the rest behind. -/
theorem splice_two' {α : Type} (L X D : List α) (a b n : Nat) (hb : X.length = b) (h : a + b + D.length ≤ L.length) (hn : n = a + b + D.length) : (splice (splice L a X) (a + b) D).take n = L.take a ++ (X ++ D) := by
  subst hb
  have hl : (splice L a X).length = L.length := length_splice _ _ _ (by omega)
  rw [splice_take _ _ _ _ (by rw [hl]; omega) hn, splice_take _ _ _ _ (by omega) rfl, List.append_assoc]
/-- The model's own entry for slices.overlaps, at two rows of two blocks. -/
theorem run_overlaps_rows {P : Program} {w : World} {k bytes : Nat} {t e : TypeId} (T : SlT P k t e bytes) (tR : TypeId) {ga gb oa ob la ca lb cb : Nat} {ca' cb' : Array Value} (ha : Blk w ga e ca') (hb : Blk w gb e cb') (hne : ga ≠ gb) (hcb : cb'.size ≠ 0) :
    (Extern.SlicesOverlaps.overlaps #[t, t] #[tR] #[.slice (some ⟨ga, oa, none⟩) la ca, .slice (some ⟨gb, ob, none⟩) lb cb]).run P w = .ok (.bool false) w := by
  obtain ⟨i, z, hi, hz, hk, hb', hzs⟩ := T.hi
  unfold Blk at ha hb
  exact Lib.run_overlaps_apart w t tR e T.ht i.size (fun w => by simp [sizeOf, typeInfo, hi]) ⟨ga, oa, none⟩ ⟨gb, ob, none⟩ la ca lb cb hne e e ca'.size cb'.size (by simp [World.shape?, ha]) (by simp [World.shape?, hb]) hcb (by simp [World.frozen?, ha]) (by simp [World.frozen?, ha])
end Go.Proofs.YtinmpjhmbciapaaDoor
