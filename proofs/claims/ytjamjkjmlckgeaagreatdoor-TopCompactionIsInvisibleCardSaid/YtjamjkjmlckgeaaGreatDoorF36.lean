/-
  An index that the call owns: rows of terms, of postings and of places, each in a block of its own. No program is named here.
-/
import Derived.Test.YtjamjkjmlckgeaaGreatDoorF7
namespace Go.Proofs.YtjamjkjmlckgeaaGreatDoor
open Go.RowKit
set_option linter.unusedVariables false
/-- A codec that leads nowhere. -/
def Codec.FlatC {α : Type} (C : Codec α) : Prop := ∀ (M M' : Nat → Prop) (w w' : World) (cs : List Value) (a : α), C.rd M w cs a → C.rd M' w' cs a
/-- A cell as it stands. -/
def rawC : Codec Value where
  n := 1
  pos := by omega
  rd _ _ cs v := cs = [v] ∧ v.oneCell' = true
  len h := by rw [h.1]; rfl
  one h u hu := rd_one_of h.1 h.2 hu
  keep h _ _ := h
  sub h _ := h
theorem flatC_raw : rawC.FlatC := fun _ _ _ _ _ _ h => h
theorem flatC_int : intC.FlatC := fun _ _ _ _ _ _ h => h
theorem flatC_str : strC.FlatC := fun _ _ _ _ _ _ h => h
theorem flatC_pair {α β : Type} {C : Codec α} {D : Codec β} (hC : C.FlatC) (hD : D.FlatC) : (pairC C D).FlatC := fun M M' w w' cs a ⟨c, d, e, h1, h2⟩ => ⟨c, d, e, hC M M' w w' c _ h1, hD M M' w w' d _ h2⟩
theorem Own.flatC {α : Type} {C : Codec α} (hF : C.FlatC) {M M' : Nat → Prop} {w w' : World} {B : Nat} {e : TypeId} {v : Value} {l : List α} (h : Own C M w B e v l) (hk : ∀ b, v.ownBlock = some b → w'.heap[b]? = w.heap[b]?) : Own C M' w' B e v l := by
  obtain ⟨xs, ho, he⟩ := h
  refine ⟨xs, ⟨ho.1, ?_⟩, ⟨he.1, fun i hi => hF _ _ _ _ _ _ (he.2 i hi)⟩⟩
  rcases ho.2 with hn | ⟨g, cap, cur, rfl, hb, hg, rest⟩
  · exact .inl hn
  · exact .inr ⟨g, cap, cur, rfl, hb, (hk g rfl).trans hg, rest⟩
theorem Own.lower {α : Type} {C : Codec α} {M : Nat → Prop} {w : World} {B B' : Nat} {e : TypeId} {v : Value} {l : List α} (h : Own C M w B e v l) (hB : B' ≤ B) : Own C M w B' e v l := by
  obtain ⟨xs, ho, he⟩ := h
  refine ⟨xs, ⟨ho.1, ?_⟩, he⟩
  rcases ho.2 with hn | ⟨g, cap, cur, rfl, hb, hg, rest⟩
  · exact .inl hn
  · exact .inr ⟨g, cap, cur, rfl, Nat.le_trans hB hb, hg, rest⟩
theorem chunk_same {α : Type} (xs : List α) {n i k r : Nat} (u : α) (hr : r < n) (hik : i ≠ k) : ((xs.set (k * n + r) u).drop (i * n)).take n = (xs.drop (i * n)).take n := by
  apply List.ext_getElem?
  intro j
  simp only [List.getElem?_take, List.getElem?_drop]
  split
  · rename_i hj
    rw [List.getElem?_set_ne]
    intro e
    rcases Nat.lt_or_ge i k with h | h
    · have : (i + 1) * n ≤ k * n := Nat.mul_le_mul_right _ h
      rw [Nat.add_mul, Nat.one_mul] at this
      omega
    · have : (k + 1) * n ≤ i * n := Nat.mul_le_mul_right _ (by omega)
      rw [Nat.add_mul, Nat.one_mul] at this
      omega
  · rfl
theorem chunk_set {α : Type} (xs : List α) {n k r : Nat} (u : α) (hr : r < n) (hl : (k + 1) * n ≤ xs.length) : ((xs.set (k * n + r) u).drop (k * n)).take n = ((xs.drop (k * n)).take n).set r u := by
  rw [Nat.add_mul, Nat.one_mul] at hl
  apply List.ext_getElem?
  intro j
  by_cases hj : j = r
  · subst hj
    rw [List.getElem?_take, if_pos hr, List.getElem?_drop, List.getElem?_set_self (by omega), List.getElem?_set_self (by rw [List.length_take, List.length_drop]; omega)]
  · rw [List.getElem?_take, List.getElem?_drop, List.getElem?_set_ne (by omega), List.getElem?_set_ne (by omega), List.getElem?_take, List.getElem?_drop]
/-- One cell of an element is turned. -/
theorem Own.putF {α : Type} {C : Codec α} (hF : C.FlatC) {M : Nat → Prop} {w : World} {B : Nat} {e : TypeId} {l : List α} {g n c : Nat} (h : Own C M w B e (.slice (some ⟨g, 0, none⟩) n c) l) {k r : Nat} (hk : k < l.length) (hr : r < C.n) {u : Value} {a : α}
    (ha : ∀ cs, C.rd M w cs l[k] → C.rd M w (cs.set r u) a) : Own C M (w.setCell ⟨g, k * C.n + r, none⟩ u) B e (.slice (some ⟨g, 0, none⟩) n c) (l.set k a) := by
  obtain ⟨xs, ho, he⟩ := h
  have hxl : xs.length = l.length * C.n := he.1
  have hkn : (k + 1) * C.n ≤ l.length * C.n := Nat.mul_le_mul_right _ hk
  have hkn' := hkn
  rw [Nat.add_mul, Nat.one_mul] at hkn'
  rcases ho with ⟨hl, ⟨hv, _⟩ | ⟨g', cap, cur, hv, hb, hblk, h1, h2, hsz, htk⟩⟩
  · cases hv
  · injection hv with hv1 hv2 hv3
    injection hv1 with hv1
    injection hv1 with hv1
    subst hv1 hv2 hv3
    have hkc : k * C.n + r < cur.size := by
      have : l.length * C.n ≤ c * C.n := Nat.mul_le_mul_right _ h1
      omega
    refine ⟨xs.set (k * C.n + r) u, ⟨by rw [List.length_set, List.length_set, hl], .inr ⟨g, c, cur.setIfInBounds (k * C.n + r) u, by rw [List.length_set], hb, ?_, by rw [List.length_set]; exact h1, h2, by rw [Array.size_setIfInBounds, hsz], ?_⟩⟩, ?_⟩
    · simp [World.setCell, Array.getElem?_modify, hblk]
    · rw [Array.toList_setIfInBounds, List.take_set, List.length_set, htk]
    · refine ⟨by rw [List.length_set, List.length_set, he.1], fun i hi => ?_⟩
      have hi' : i < l.length := by rwa [List.length_set] at hi
      by_cases hik : i = k
      · subst hik
        rw [List.getElem_set_self, chunk_set xs u hr (by rw [hxl]; exact hkn)]
        exact hF _ _ _ _ _ _ (ha _ (hF _ _ _ _ _ _ (he.2 i hi')))
      · rw [List.getElem_set_ne (fun e => hik e.symm), chunk_same xs u hr hik]
        exact hF _ _ _ _ _ _ (he.2 i hi')
/-- The cells of element k of an own row. -/
theorem Own.cellsAt {α : Type} {C : Codec α} {M : Nat → Prop} {w : World} {B : Nat} {e : TypeId} {l : List α} {v : Value} (h : Own C M w B e v l) {k : Nat} (hk : k < l.length) :
    ∃ g c cs, v = .slice (some ⟨g, 0, none⟩) l.length c ∧ l.length ≤ c ∧ c ≤ maxLen ∧ B ≤ g ∧ g < w.heap.size ∧ C.rd M w cs l[k] ∧ (∀ (j : Nat) (u : Value), cs[j]? = some u → w.cell? ⟨g, k * C.n + j, none⟩ = some u) ∧ ∀ j, w.frozen? ⟨g, j, none⟩ = false := by
  obtain ⟨g, c, cur, rfl, h1, h2, hB, hblk, _⟩ := h.blk (by omega)
  obtain ⟨_, hels⟩ := h.cells hblk
  refine ⟨g, c, _, rfl, h1, h2, hB, hblk.lt, C.sub (hels.2 k hk) (fun b _ hb => .inl hb), fun j u hu => ?_, fun j => hblk.frozen j⟩
  have hkn : (k + 1) * C.n ≤ l.length * C.n := Nat.mul_le_mul_right _ hk
  rw [Nat.add_mul, Nat.one_mul] at hkn
  rw [List.getElem?_take] at hu
  split at hu
  · rename_i hj
    rw [List.getElem?_drop, List.getElem?_take] at hu
    split at hu
    · rw [hblk.cell]
      simpa using hu
    · cases hu
  · cases hu
/-! ### who owns a block -/
inductive Owner where
  | no
  | top
  | row (w : Str)
  | pl (w : Str) (i : Int)
abbrev RPost := Int × Value × List Int
abbrev RTerm := Str × Value × List RPost
def rp (p : RPost) : Int × Value := (p.1, p.2.1)
def rt (t : RTerm) : Str × Value := (t.1, t.2.1)
/-- what is laid so, plain -/
def pp (p : RPost) : Ix.Post := (p.1, p.2.2)
def pt (t : RTerm) : Ix.Term := (t.1, t.2.2.map pp)
def postC : Codec Ix.Post := pairC intC (sliceC intC)
def termC : Codec Ix.Term := pairC strC (sliceC postC)
def rpC : Codec (Int × Value) := pairC intC rawC
def rtC : Codec (Str × Value) := pairC strC rawC
theorem flatC_rp : rpC.FlatC := flatC_pair flatC_int flatC_raw
theorem flatC_rt : rtC.FlatC := flatC_pair flatC_str flatC_raw
/-- the types' numbers: a place, a posting, a term -/
structure Tids where
  i : TypeId
  p : TypeId
  t : TypeId
variable {T : Tids}
structure PostsAt (T : Tids) (o : Nat → Owner) (w : World) (B : Nat) (wd : Str) (v : Value) (ps : List RPost) : Prop where
  row : Own rpC M0 w B T.p v (ps.map rp)
  mine : ∀ b, v.ownBlock = some b → o b = .row wd
  pl : ∀ p ∈ ps, Own intC M0 w B T.i p.2.1 p.2.2 ∧ ∀ b, p.2.1.ownBlock = some b → o b = .pl wd p.1
structure TreeAt (T : Tids) (o : Nat → Owner) (w : World) (B : Nat) (v : Value) (X : List RTerm) : Prop where
  row : Own rtC M0 w B T.t v (X.map rt)
  mine : ∀ b, v.ownBlock = some b → o b = .top
  posts : ∀ t ∈ X, PostsAt T o w B t.1 t.2.1 t.2.2
  fresh : ∀ b, w.heap.size ≤ b → o b = .no
theorem PostsAt.move {o o' : Nat → Owner} {w w' : World} {B : Nat} {wd : Str} {v : Value} {ps : List RPost} (h : PostsAt T o w B wd v ps) (hk : ∀ b, b < w.heap.size → (o b = .row wd ∨ ∃ i, o b = .pl wd i) → w'.heap[b]? = w.heap[b]?) (ho : ∀ b, b < w.heap.size → o' b = o b) : PostsAt T o' w' B wd v ps :=
  ⟨h.row.flatC flatC_rp fun b hb => hk b (h.row.lt b hb) (.inl (h.mine b hb)), fun b hb => by rw [ho b (h.row.lt b hb)]; exact h.mine b hb,
    fun p hp => ⟨(h.pl p hp).1.flatC flatC_int fun b hb => hk b ((h.pl p hp).1.lt b hb) (.inr ⟨p.1, (h.pl p hp).2 b hb⟩), fun b hb => by rw [ho b ((h.pl p hp).1.lt b hb)]; exact (h.pl p hp).2 b hb⟩⟩
theorem TreeAt.move {o o' : Nat → Owner} {w w' : World} {B : Nat} {v : Value} {X : List RTerm} (h : TreeAt T o w B v X) (hk : ∀ b, b < w.heap.size → B ≤ b → o b ≠ .no → w'.heap[b]? = w.heap[b]?) (ho : ∀ b, b < w.heap.size → o' b = o b) (hf : ∀ b, w'.heap.size ≤ b → o' b = .no) : TreeAt T o' w' B v X := by
  refine ⟨h.row.flatC flatC_rt fun b hb => hk b (h.row.lt b hb) (h.row.base b hb) (by rw [h.mine b hb]; simp), fun b hb => by rw [ho b (h.row.lt b hb)]; exact h.mine b hb, fun t ht => ?_, hf⟩
  have hp := h.posts t ht
  refine ⟨hp.row.flatC flatC_rp fun b hb => hk b (hp.row.lt b hb) (hp.row.base b hb) (by rw [hp.mine b hb]; simp), fun b hb => by rw [ho b (hp.row.lt b hb)]; exact hp.mine b hb, fun p hpp => ?_⟩
  have hq := hp.pl p hpp
  exact ⟨hq.1.flatC flatC_int fun b hb => hk b (hq.1.lt b hb) (hq.1.base b hb) (by rw [hq.2 b hb]; simp), fun b hb => by rw [ho b (hq.1.lt b hb)]; exact hq.2 b hb⟩
theorem TreeAt.ext {o : Nat → Owner} {w w' : World} {B : Nat} {v : Value} {X : List RTerm} (h : TreeAt T o w B v X) (hb : Below w.heap.size w w') : TreeAt T o w' B v X :=
  h.move (fun b hlt _ _ => hb.block b hlt) (fun _ _ => rfl) fun b hb' => h.fresh b (Nat.le_trans hb.size hb')
theorem TreeAt.lower {o : Nat → Owner} {w : World} {B B' : Nat} {v : Value} {X : List RTerm} (h : TreeAt T o w B v X) (hB : B' ≤ B) : TreeAt T o w B' v X :=
  ⟨h.row.lower hB, h.mine, fun t ht => ⟨(h.posts t ht).row.lower hB, (h.posts t ht).mine, fun p hp => ⟨((h.posts t ht).pl p hp).1.lower hB, ((h.posts t ht).pl p hp).2⟩⟩, h.fresh⟩
/-- the owner of a value's block -/
def own1 (o : Nat → Owner) (v : Value) (x : Owner) : Nat → Owner := fun b => if v.ownBlock = some b then x else o b
theorem own1_self {o : Nat → Owner} {v : Value} {x : Owner} {b : Nat} (h : v.ownBlock = some b) : own1 o v x b = x := if_pos h
theorem own1_other {o : Nat → Owner} {v : Value} {x : Owner} {b : Nat} (h : v.ownBlock ≠ some b) : own1 o v x b = o b := if_neg h
/-- a value whose block is an older one's, or new -/
theorem own1_below {o : Nat → Owner} {w : World} {v u : Value} {x : Owner} (hu : ∀ b, u.ownBlock = some b → o b = x) (hor : v.ownBlock = u.ownBlock ∨ ∃ b, w.heap.size ≤ b ∧ v.ownBlock = some b) : ∀ b, b < w.heap.size → own1 o v x b = o b := by
  intro b hb
  by_cases h : v.ownBlock = some b
  · rw [own1_self h]
    rcases hor with e | ⟨b', h1, h2⟩
    · rw [e] at h; exact (hu b h).symm
    · rw [h2] at h; injection h with h; omega
  · exact own1_other h
theorem own1_fresh {o : Nat → Owner} {w w' : World} {v : Value} {x : Owner} (hf : ∀ b, w.heap.size ≤ b → o b = .no) (hs : w.heap.size ≤ w'.heap.size) (hv : ∀ b, v.ownBlock = some b → b < w'.heap.size) : ∀ b, w'.heap.size ≤ b → own1 o v x b = .no := by
  intro b hb
  rw [own1_other fun h => by have := hv b h; omega]
  exact hf b (by omega)
/-! ### reading -/
/-- what a row of pairs with slices holds, cell by cell -/
theorem SlR.raw {α β : Type} {C : Codec α} {D : Codec β} {M : Nat → Prop} {w : World} {v : Value} {l : List (α × List β)} (h : SlR (pairC C (sliceC D)) M w v l) :
    ∃ raw : List (α × Value), raw.length = l.length ∧ SlR (pairC C rawC) M w v raw ∧ ∀ (i : Nat) (h1 : i < raw.length) (h2 : i < l.length), raw[i].1 = l[i].1 ∧ SlR D M w raw[i].2 l[i].2 := by
  obtain ⟨A, n, c, xs, rfl, hn, hc, hm, he, ha⟩ := h
  have each : ∀ i : Nat, i < l.length → ∃ r : α × Value, (pairC C rawC).rd M w ((xs.drop (i * (pairC C rawC).n)).take (pairC C rawC).n) r ∧ ∀ (h2 : i < l.length), r.1 = l[i].1 ∧ SlR D M w r.2 l[i].2 := by
    intro i hi
    obtain ⟨c1, d1, e, h1, v1, rfl, h2⟩ := he.2 i hi
    exact ⟨(l[i].1, v1), ⟨c1, [v1], e, h1, rfl, by obtain ⟨_, _, rfl, _⟩ := h2.form; rfl⟩, fun _ => ⟨rfl, h2⟩⟩
  obtain ⟨raw, hl, hp⟩ : ∃ raw : List (α × Value), raw.length = l.length ∧ ∀ (i : Nat) (h1 : i < raw.length), (pairC C rawC).rd M w ((xs.drop (i * (pairC C rawC).n)).take (pairC C rawC).n) raw[i] ∧ ∀ (h2 : i < l.length), raw[i].1 = l[i].1 ∧ SlR D M w raw[i].2 l[i].2 := by
    have key : ∀ n : Nat, n ≤ l.length → ∃ raw : List (α × Value), raw.length = n ∧ ∀ (i : Nat) (h1 : i < raw.length), (pairC C rawC).rd M w ((xs.drop (i * (pairC C rawC).n)).take (pairC C rawC).n) raw[i] ∧ ∀ (h2 : i < l.length), raw[i].1 = l[i].1 ∧ SlR D M w raw[i].2 l[i].2 := by
      intro n
      induction n with
      | zero => intro _; exact ⟨[], rfl, fun i h => by simp at h⟩
      | succ n ih =>
        intro hn
        obtain ⟨raw, h1, h2⟩ := ih (by omega)
        obtain ⟨r, hr⟩ := each n (by omega)
        refine ⟨raw ++ [r], by simp [h1], fun i hi => ?_⟩
        by_cases hin : i < raw.length
        · rw [List.getElem_append_left hin]
          exact h2 i hin
        · have : i = raw.length := by rw [List.length_append, List.length_singleton] at hi; omega
          subst this
          rw [List.getElem_concat_length (by rfl)]
          rw [h1]
          exact hr
    exact key l.length (Nat.le_refl _)
  exact ⟨raw, hl, ⟨A, n, c, xs, rfl, by rw [hl]; exact hn, hc, hm, ⟨by rw [hl]; exact he.1, fun i hi => (hp i hi).1⟩, fun h0 => ha (by omega)⟩, fun i h1 h2 => (hp i h1).2 h2⟩
theorem SlR.unraw {α β : Type} {C : Codec α} {D : Codec β} {M : Nat → Prop} {w : World} {v : Value} {raw : List (α × Value)} {l : List (α × List β)} (hl : raw.length = l.length) (h : SlR (pairC C rawC) M w v raw) (hi : ∀ (i : Nat) (h1 : i < raw.length) (h2 : i < l.length), raw[i].1 = l[i].1 ∧ SlR D M w raw[i].2 l[i].2) : SlR (pairC C (sliceC D)) M w v l := by
  obtain ⟨A, n, c, xs, rfl, hn, hc, hm, he, ha⟩ := h
  refine ⟨A, n, c, xs, rfl, by rw [← hl]; exact hn, hc, hm, ⟨by rw [← hl]; exact he.1, fun i h2 => ?_⟩, fun h0 => ha (by omega)⟩
  have h1 : i < raw.length := by omega
  obtain ⟨c1, d1, e, h3, h4, _⟩ := he.2 i h1
  obtain ⟨h5, h6⟩ := hi i h1 h2
  exact ⟨c1, d1, e, by rw [← h5]; exact h3, _, h4, h6⟩
theorem PostsAt.read {o : Nat → Owner} {w : World} {B : Nat} {wd : Str} {v : Value} {ps : List RPost} (h : PostsAt T o w B wd v ps) : SlR postC M0 w v (ps.map pp) :=
  SlR.unraw (by simp) h.row.read0 fun i h1 h2 => by
    have hi : i < ps.length := by simpa using h1
    simp only [List.getElem_map]
    exact ⟨rfl, (h.pl _ (List.getElem_mem hi)).1.read0⟩
theorem TreeAt.read {o : Nat → Owner} {w : World} {B : Nat} {v : Value} {X : List RTerm} (h : TreeAt T o w B v X) : SlR termC M0 w v (X.map pt) :=
  SlR.unraw (by simp) h.row.read0 fun i h1 h2 => by
    have hi : i < X.length := by simpa using h1
    simp only [List.getElem_map]
    exact ⟨rfl, (h.posts _ (List.getElem_mem hi)).read⟩
/-! ### what turns -/
theorem slice_block {v : Value} {g n c : Nat} (h : v = .slice (some ⟨g, 0, none⟩) n c) : v.ownBlock = some g := by subst h; rfl
theorem heap_set_ne (w : World) {g b : Nat} (i : Nat) (u : Value) (h : b ≠ g) : (w.setCell ⟨g, i, none⟩ u).heap[b]? = w.heap[b]? := Below.heap_setCell w ⟨g, i, none⟩ u b h
theorem map_set_same {α β : Type} (f : α → β) (l : List α) (i : Nat) (x : α) (hi : i < l.length) (h : f x = f l[i]) : (l.set i x).map f = l.map f := by
  rw [List.map_set, h]
  apply List.ext_getElem (by simp)
  intro j h1 h2
  rw [List.getElem_set]
  split
  · rename_i e; subst e; simp
  · rfl
theorem mem_set' {α : Type} {l : List α} {i : Nat} {x y : α} (h : y ∈ l.set i x) : y = x ∨ ∃ (j : Nat) (hj : j < l.length), j ≠ i ∧ y = l[j] := by
  obtain ⟨j, hj, rfl⟩ := List.mem_iff_getElem.1 h
  rw [List.getElem_set]
  split
  · exact .inl rfl
  · rename_i e
    exact .inr ⟨j, by simpa using hj, fun e' => e e'.symm, rfl⟩
/-- the places of one posting are turned: the row of the places, then the cell that leads to it -/
theorem TreeAt.place {o : Nat → Owner} {w w1 : World} {B : Nat} {v : Value} {X : List RTerm} (h : TreeAt T o w B v X) {i k : Nat} (hi : i < X.length) (hk : k < X[i].2.2.length)
    (hW : ∀ (j : Nat) (hj : j < X.length), X[j].1 = X[i].1 → j = i) (hI : ∀ (j : Nat) (hj : j < X[i].2.2.length), X[i].2.2[j].1 = X[i].2.2[k].1 → j = k) {g nn c : Nat} (hg : X[i].2.1 = .slice (some ⟨g, 0, none⟩) nn c)
    {pv' : Value} {pl' : List Int} (hgr : w.grownBy w1 X[i].2.2[k].2.1.ownBlock) (hown : Own intC M0 w1 B T.i pv' pl') (hor : pv'.ownBlock = X[i].2.2[k].2.1.ownBlock ∨ ∃ b, w.heap.size ≤ b ∧ pv'.ownBlock = some b) (h1 : pv'.oneCell' = true) :
    TreeAt T (own1 o pv' (.pl X[i].1 X[i].2.2[k].1)) (w1.setCell ⟨g, k * 2 + 1, none⟩ pv') B v (X.set i (X[i].1, X[i].2.1, X[i].2.2.set k (X[i].2.2[k].1, pv', pl'))) ∧ ∀ b, b < w.heap.size → own1 o pv' (.pl X[i].1 X[i].2.2[k].1) b = o b := by
  have hp := h.posts _ (List.getElem_mem hi)
  have hq := hp.pl _ (List.getElem_mem hk)
  have hgb := slice_block hg
  have hog := hp.mine g hgb
  have hglt := hp.row.lt g hgb
  have hbel := own1_below (w := w) (x := .pl X[i].1 X[i].2.2[k].1) (fun b hb => hq.2 b hb) hor
  have hlt' : ∀ b, pv'.ownBlock = some b → b < w1.heap.size := fun b hb => hown.lt b hb
  have hpg : ∀ b, pv'.ownBlock = some b → b ≠ g := by
    intro b hb e
    subst e
    rcases hor with e | ⟨b', h2, h3⟩
    · rw [e] at hb; rw [hq.2 _ hb] at hog; cases hog
    · rw [h3] at hb; injection hb with hb; omega
  -- an old block of another owner is as it was
  have old : ∀ b, b < w.heap.size → o b ≠ .pl X[i].1 X[i].2.2[k].1 → b ≠ g → (w1.setCell ⟨g, k * 2 + 1, none⟩ pv').heap[b]? = w.heap[b]? := fun b hb ho hne => by
    rw [heap_set_ne _ _ _ hne]
    exact hgr.block b hb fun e => ho (hq.2 b e.symm)
  have hsz : (w1.setCell ⟨g, k * 2 + 1, none⟩ pv').heap.size = w1.heap.size := by simp
  refine ⟨⟨?_, fun b hb => ?_, fun t ht => ?_, own1_fresh h.fresh (by rw [hsz]; exact hgr.size) (fun b hb => by rw [hsz]; exact hlt' b hb)⟩, hbel⟩
  · have hsame := map_set_same rt X i (X[i].1, X[i].2.1, X[i].2.2.set k (X[i].2.2[k].1, pv', pl')) hi rfl
    rw [hsame]
    refine h.row.flatC flatC_rt fun b hb => old b (h.row.lt b hb) (by rw [h.mine b hb]; simp) fun e => ?_
    rw [e] at hb
    have := h.mine g hb
    rw [hog] at this
    cases this
  · rw [hbel b (h.row.lt b hb)]; exact h.mine b hb
  · rcases mem_set' ht with rfl | ⟨j, hj, hji, rfl⟩
    · refine ⟨?_, fun b hb => ?_, fun p hpp => ?_⟩
      · have hrow1 : Own rpC M0 w1 B T.p X[i].2.1 (X[i].2.2.map rp) := hp.row.flatC flatC_rp fun b hb => hgr.block b (hp.row.lt b hb) fun e => by
          have h2 := hq.2 b e.symm
          rw [hp.mine b hb] at h2
          cases h2
        rw [hg] at hrow1
        have h3 := hrow1.putF flatC_rp (k := k) (r := 1) (by simpa using hk) (by show 1 < 1 + 1; omega) (u := pv') (a := (X[i].2.2[k].1, pv')) (fun cs hcs => by
          obtain ⟨c1, d1, e, h4, h5⟩ := hcs
          simp only [List.getElem_map, rp] at h4 h5
          have hc1 := intC.len h4
          obtain ⟨x, rfl⟩ : ∃ x, c1 = [x] := List.length_eq_one_iff.1 hc1
          obtain ⟨rfl, _⟩ := h5
          subst e
          exact ⟨[x], [pv'], rfl, h4, rfl, h1⟩)
        have hm : (X[i].2.2.set k (X[i].2.2[k].1, pv', pl')).map rp = (X[i].2.2.map rp).set k (X[i].2.2[k].1, pv') := by rw [List.map_set]; rfl
        rw [hm, hg]
        exact h3
      · rw [hbel b (hp.row.lt b hb)]; exact hp.mine b hb
      · rcases mem_set' hpp with rfl | ⟨j, hj, hjk, rfl⟩
        · refine ⟨hown.flatC flatC_int fun b hb => heap_set_ne _ _ _ (hpg b hb), fun b hb => own1_self hb⟩
        · have hr := hp.pl _ (List.getElem_mem hj)
          refine ⟨hr.1.flatC flatC_int fun b hb => old b (hr.1.lt b hb) (fun e => ?_) fun e => ?_, fun b hb => by rw [hbel b (hr.1.lt b hb)]; exact hr.2 b hb⟩
          · rw [hr.2 b hb] at e
            injection e with _ e
            exact hjk (hI j hj e)
          · rw [e] at hb
            have := hr.2 g hb
            rw [hog] at this
            cases this
    · have hpj := h.posts _ (List.getElem_mem hj)
      refine hpj.move (fun b hb ho => old b hb (fun e => ?_) fun e => ?_) hbel
      · rcases ho with ho | ⟨i', ho⟩
        · rw [ho] at e; cases e
        · rw [ho] at e; injection e with e _; exact hji (hW j hj e)
      · rw [e, hog] at ho
        rcases ho with ho | ⟨i', ho⟩
        · injection ho with ho; exact hji (hW j hj ho.symm)
        · cases ho
/-- the postings of one term are turned: their row, then the cell that leads to it -/
theorem TreeAt.postings {o : Nat → Owner} {w w1 : World} {B : Nat} {v : Value} {X : List RTerm} (h : TreeAt T o w B v X) {i : Nat} (hi : i < X.length)
    (hW : ∀ (j : Nat) (hj : j < X.length), X[j].1 = X[i].1 → j = i) {g nn c : Nat} (hg : v = .slice (some ⟨g, 0, none⟩) nn c)
    {tv' : Value} {ps' : List RPost} (hgr : w.grownBy w1 X[i].2.1.ownBlock) (hown : Own rpC M0 w1 B T.p tv' (ps'.map rp)) (hor : tv'.ownBlock = X[i].2.1.ownBlock ∨ ∃ b, w.heap.size ≤ b ∧ tv'.ownBlock = some b) (h1 : tv'.oneCell' = true)
    (hps : ∀ p ∈ ps', p ∈ X[i].2.2 ∨ (p.2.1 = .slice none 0 0 ∧ p.2.2 = [])) :
    TreeAt T (own1 o tv' (.row X[i].1)) (w1.setCell ⟨g, i * 2 + 1, none⟩ tv') B v (X.set i (X[i].1, tv', ps')) ∧ ∀ b, b < w.heap.size → own1 o tv' (.row X[i].1) b = o b := by
  have hp := h.posts _ (List.getElem_mem hi)
  have hgb := slice_block hg
  have hog := h.mine g hgb
  have hglt := h.row.lt g hgb
  have hbel := own1_below (w := w) (x := .row X[i].1) (fun b hb => hp.mine b hb) hor
  have hlt' : ∀ b, tv'.ownBlock = some b → b < w1.heap.size := fun b hb => hown.lt b hb
  have hpg : ∀ b, tv'.ownBlock = some b → b ≠ g := by
    intro b hb e
    subst e
    rcases hor with e | ⟨b', h2, h3⟩
    · rw [e] at hb; rw [hp.mine _ hb] at hog; cases hog
    · rw [h3] at hb; injection hb with hb; omega
  have old : ∀ b, b < w.heap.size → o b ≠ .row X[i].1 → b ≠ g → (w1.setCell ⟨g, i * 2 + 1, none⟩ tv').heap[b]? = w.heap[b]? := fun b hb ho hne => by
    rw [heap_set_ne _ _ _ hne]
    exact hgr.block b hb fun e => ho (hp.mine b e.symm)
  have hsz : (w1.setCell ⟨g, i * 2 + 1, none⟩ tv').heap.size = w1.heap.size := by simp
  refine ⟨⟨?_, fun b hb => ?_, fun t ht => ?_, own1_fresh h.fresh (by rw [hsz]; exact hgr.size) (fun b hb => by rw [hsz]; exact hlt' b hb)⟩, hbel⟩
  · have hrow1 : Own rtC M0 w1 B T.t v (X.map rt) := h.row.flatC flatC_rt fun b hb => hgr.block b (h.row.lt b hb) fun e => by
      have h2 := hp.mine b e.symm
      rw [h.mine b hb] at h2
      cases h2
    rw [hg] at hrow1
    have h3 := hrow1.putF flatC_rt (k := i) (r := 1) (by simpa using hi) (by show 1 < 1 + 1; omega) (u := tv') (a := (X[i].1, tv')) (fun cs hcs => by
      obtain ⟨c1, d1, e, h4, h5⟩ := hcs
      simp only [List.getElem_map, rt] at h4 h5
      have hc1 := strC.len h4
      obtain ⟨x, rfl⟩ : ∃ x, c1 = [x] := List.length_eq_one_iff.1 hc1
      obtain ⟨rfl, _⟩ := h5
      subst e
      exact ⟨[x], [tv'], rfl, h4, rfl, h1⟩)
    have hm : (X.set i (X[i].1, tv', ps')).map rt = (X.map rt).set i (X[i].1, tv') := by rw [List.map_set]; rfl
    rw [hm, hg]
    exact h3
  · rw [hbel b (h.row.lt b hb)]; exact h.mine b hb
  · rcases mem_set' ht with rfl | ⟨j, hj, hji, rfl⟩
    · refine ⟨hown.flatC flatC_rp fun b hb => heap_set_ne _ _ _ (hpg b hb), fun b hb => own1_self hb, fun p hpp => ?_⟩
      rcases hps p hpp with hp0 | ⟨e1, e2⟩
      · have hr := hp.pl p hp0
        refine ⟨hr.1.flatC flatC_int fun b hb => old b (hr.1.lt b hb) (by rw [hr.2 b hb]; simp) fun e => ?_, fun b hb => by rw [hbel b (hr.1.lt b hb)]; exact hr.2 b hb⟩
        rw [e] at hb
        have := hr.2 g hb
        rw [hog] at this
        cases this
      · rw [e1, e2]
        exact ⟨Own.nil _ _ _ _ _, fun b hb => by cases hb⟩
    · have hpj := h.posts _ (List.getElem_mem hj)
      refine hpj.move (fun b hb ho => old b hb (fun e => ?_) fun e => ?_) hbel
      · rcases ho with ho | ⟨i', ho⟩
        · rw [ho] at e; injection e with e; exact hji (hW j hj e)
        · rw [ho] at e; cases e
      · rw [e, hog] at ho
        rcases ho with ho | ⟨i', ho⟩ <;> cases ho
/-- the terms are turned -/
theorem TreeAt.terms {o : Nat → Owner} {w w1 : World} {B : Nat} {v : Value} {X : List RTerm} (h : TreeAt T o w B v X) {v' : Value} {X' : List RTerm} (hgr : w.grownBy w1 v.ownBlock) (hown : Own rtC M0 w1 B T.t v' (X'.map rt))
    (hor : v'.ownBlock = v.ownBlock ∨ ∃ b, w.heap.size ≤ b ∧ v'.ownBlock = some b) (hX : ∀ t ∈ X', t ∈ X ∨ (t.2.1 = .slice none 0 0 ∧ t.2.2 = [])) :
    TreeAt T (own1 o v' .top) w1 B v' X' ∧ ∀ b, b < w.heap.size → own1 o v' .top b = o b := by
  have hbel := own1_below (w := w) (x := .top) (fun b hb => h.mine b hb) hor
  refine ⟨⟨hown, fun b hb => own1_self hb, fun t ht => ?_, own1_fresh h.fresh hgr.size fun b hb => hown.lt b hb⟩, hbel⟩
  rcases hX t ht with ht | ⟨e1, e2⟩
  · refine (h.posts t ht).move (fun b hb ho => hgr.block b hb fun e => ?_) hbel
    rw [h.mine b e.symm] at ho
    rcases ho with ho | ⟨i, ho⟩ <;> cases ho
  · rw [e1, e2]
    exact ⟨Own.nil _ _ _ _ _, fun b hb => (by cases hb), fun p hp => (by cases hp)⟩
end Go.Proofs.YtjamjkjmlckgeaaGreatDoor
