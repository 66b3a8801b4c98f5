/-
  Words for memory, for this claim's proofs: how a datum is laid in cells (a codec), a slice that reads as a list, a slice that the call itself owns; each is kept while other blocks turn. No program is named here.
-/
import Derived.WalkKit
import Derived.WalkSpells
import Derived.WalkLawsBesides
import Derived.Deep.Draws
import Derived.Laws.OwnMore
import Derived.Maps.AppendAt
import Derived.Lib.Hide
namespace Go.Proofs.YtjamjkjmlckgeaaGreatDoor
open Go.RowKit

/-- No block is shut out. -/
def M0 : Nat → Prop := fun _ => False

/-- How a datum of type α is laid in cells: 'rd M w cs a': the cells cs read as a in w, through blocks outside M alone. -/
structure Codec (α : Type) where
  n : Nat
  pos : 0 < n
  rd : (Nat → Prop) → World → List Value → α → Prop
  len : ∀ {M : Nat → Prop} {w : World} {cs : List Value} {a : α}, rd M w cs a → cs.length = n
  one : ∀ {M : Nat → Prop} {w : World} {cs : List Value} {a : α}, rd M w cs a → ∀ u ∈ cs, u.oneCell' = true
  keep : ∀ {M : Nat → Prop} {w w' : World} {cs : List Value} {a : α}, rd M w cs a → (∀ b, b < w.heap.size → ¬ M b → w'.heap[b]? = w.heap[b]?) → w.heap.size ≤ w'.heap.size → rd M w' cs a
  sub : ∀ {M M' : Nat → Prop} {w : World} {cs : List Value} {a : α}, rd M w cs a → (∀ b, b < w.heap.size → M' b → M b) → rd M' w cs a

section
variable {α : Type} {C : Codec α} {M M' : Nat → Prop} {w w' : World} {cs xs ys : List Value} {a : α} {l l' : List α}

theorem Codec.ext (h : C.rd M w cs a) (hb : Below w.heap.size w w') : C.rd M w' cs a :=
  C.keep h (fun b hlt _ => hb.block b hlt) hb.size

/-- The cells xs, cut into pieces of C.n, read as the list l. -/
def Els (C : Codec α) (M : Nat → Prop) (w : World) (xs : List Value) (l : List α) : Prop :=
  xs.length = l.length * C.n ∧ ∀ (i : Nat) (h : i < l.length), C.rd M w ((xs.drop (i * C.n)).take C.n) l[i]

theorem Els.nil (C : Codec α) (M : Nat → Prop) (w : World) : Els C M w [] [] := ⟨by simp, fun i h => by simp at h⟩
theorem Els.keep (h : Els C M w xs l) (hk : ∀ b, b < w.heap.size → ¬ M b → w'.heap[b]? = w.heap[b]?) (hs : w.heap.size ≤ w'.heap.size) : Els C M w' xs l :=
  ⟨h.1, fun i hi => C.keep (h.2 i hi) hk hs⟩
theorem Els.ext (h : Els C M w xs l) (hb : Below w.heap.size w w') : Els C M w' xs l := h.keep (fun b hlt _ => hb.block b hlt) hb.size
theorem Els.sub (h : Els C M w xs l) (hm : ∀ b, b < w.heap.size → M' b → M b) : Els C M' w xs l := ⟨h.1, fun i hi => C.sub (h.2 i hi) hm⟩
theorem Els.single (h : C.rd M w cs a) : Els C M w cs [a] :=
  ⟨by simp [C.len h], fun i hi => by
    have : i = 0 := by simp at hi; exact hi
    subst this
    simpa [List.take_of_length_le (Nat.le_of_eq (C.len h))] using h⟩
theorem Els.append (h : Els C M w xs l) (h' : Els C M w ys l') : Els C M w (xs ++ ys) (l ++ l') := by
  refine ⟨by rw [List.length_append, h.1, h'.1, List.length_append, Nat.add_mul], fun i hi => ?_⟩
  by_cases hl : i < l.length
  · have h1 : (i + 1) * C.n ≤ xs.length := by rw [h.1]; exact Nat.mul_le_mul_right _ hl
    rw [Nat.add_mul, Nat.one_mul] at h1
    rw [List.getElem_append_left hl, List.drop_append_of_le_length (by omega), List.take_append_of_le_length (by rw [List.length_drop]; omega)]
    exact h.2 i hl
  · have hi' : i - l.length < l'.length := by rw [List.length_append] at hi; omega
    rw [List.getElem_append_right (by omega)]
    have e : i * C.n = xs.length + (i - l.length) * C.n := by rw [h.1, ← Nat.add_mul]; congr 1; omega
    rw [e, ← List.drop_drop, List.drop_left]
    exact h'.2 _ hi'
theorem Els.one (h : Els C M w xs l) : ∀ u ∈ xs, u.oneCell' = true := by
  intro u hu
  obtain ⟨j, hj, rfl⟩ := List.mem_iff_getElem.1 hu
  have hp := C.pos
  have hq : j / C.n < l.length := by rw [Nat.div_lt_iff_lt_mul hp, ← h.1]; exact hj
  have hr := h.2 (j / C.n) hq
  have hm : j % C.n < C.n := Nat.mod_lt _ hp
  have hdm := Nat.div_add_mod j C.n
  refine C.one hr _ (List.mem_iff_getElem.2 ⟨j % C.n, by rw [C.len hr]; exact hm, ?_⟩)
  simp only [List.getElem_take, List.getElem_drop]
  congr 1
  rw [Nat.mul_comm]; omega
theorem Els.take (h : Els C M w xs l) (k : Nat) : Els C M w (xs.take (k * C.n)) (l.take k) := by
  refine ⟨?_, fun i hi => ?_⟩
  · rw [List.length_take, List.length_take, h.1]
    rcases Nat.le_total k l.length with hk | hk
    · rw [Nat.min_eq_left hk, Nat.min_eq_left (Nat.mul_le_mul_right _ hk)]
    · rw [Nat.min_eq_right hk, Nat.min_eq_right (Nat.mul_le_mul_right _ hk)]
  · have hi2 : i < k ∧ i < l.length := by rw [List.length_take] at hi; omega
    have hik : (i + 1) * C.n ≤ k * C.n := Nat.mul_le_mul_right _ (by omega)
    rw [Nat.add_mul, Nat.one_mul] at hik
    rw [List.getElem_take, List.drop_take, List.take_take, Nat.min_eq_left (by omega)]
    exact h.2 i hi2.2
theorem Els.drop (h : Els C M w xs l) (k : Nat) : Els C M w (xs.drop (k * C.n)) (l.drop k) := by
  refine ⟨by rw [List.length_drop, List.length_drop, h.1, Nat.sub_mul], fun i hi => ?_⟩
  rw [List.length_drop] at hi
  rw [List.getElem_drop, List.drop_drop, ← Nat.add_mul]
  exact h.2 (k + i) (by omega)

/-- The slice value v reads as the list l. -/
def SlR (C : Codec α) (M : Nat → Prop) (w : World) (v : Value) (l : List α) : Prop :=
  ∃ (A : Option Addr) (n c : Nat) (xs : List Value), v = .slice A n c ∧ n = l.length ∧ n ≤ c ∧ c ≤ maxLen ∧ Els C M w xs l ∧
    (0 < n → ∃ b off, A = some ⟨b, off, none⟩ ∧ ¬ M b ∧ b < w.heap.size ∧ ∀ (j : Nat) (u : Value), xs[j]? = some u → w.cell? ⟨b, off + j, none⟩ = some u)

theorem SlR.keep {v : Value} (h : SlR C M w v l) (hk : ∀ b, b < w.heap.size → ¬ M b → w'.heap[b]? = w.heap[b]?) (hs : w.heap.size ≤ w'.heap.size) : SlR C M w' v l := by
  obtain ⟨A, n, c, xs, rfl, hn, hc, hm, he, ha⟩ := h
  refine ⟨A, n, c, xs, rfl, hn, hc, hm, he.keep hk hs, fun h0 => ?_⟩
  obtain ⟨b, off, rfl, hM, hb, hcell⟩ := ha h0
  exact ⟨b, off, rfl, hM, by omega, fun j u hu => (World.cell?_of_block (w := w) (hk b hb hM)).trans (hcell j u hu)⟩
theorem SlR.ext {v : Value} (h : SlR C M w v l) (hb : Below w.heap.size w w') : SlR C M w' v l := h.keep (fun b hlt _ => hb.block b hlt) hb.size
theorem SlR.sub {v : Value} (h : SlR C M w v l) (hm : ∀ b, b < w.heap.size → M' b → M b) : SlR C M' w v l := by
  obtain ⟨A, n, c, xs, rfl, hn, hc, hm', he, ha⟩ := h
  refine ⟨A, n, c, xs, rfl, hn, hc, hm', he.sub hm, fun h0 => ?_⟩
  obtain ⟨b, off, rfl, hM, hb, hcell⟩ := ha h0
  exact ⟨b, off, rfl, fun h' => hM (hm b hb h'), hb, hcell⟩
theorem SlR.nil (C : Codec α) (M : Nat → Prop) (w : World) : SlR C M w (.slice none 0 0) [] :=
  ⟨none, 0, 0, [], rfl, rfl, Nat.le_refl _, Nat.zero_le _, Els.nil C M w, fun h => absurd h (by omega)⟩
theorem SlR.len_le {v : Value} (h : SlR C M w v l) : l.length ≤ maxLen := by
  obtain ⟨A, n, c, xs, rfl, hn, hc, hm, _⟩ := h
  omega
/-- The value, written out. -/
theorem SlR.form {v : Value} (h : SlR C M w v l) : ∃ A c, v = .slice A l.length c ∧ l.length ≤ c ∧ c ≤ maxLen := by
  obtain ⟨A, n, c, xs, rfl, rfl, hc, hm, _⟩ := h
  exact ⟨A, c, rfl, hc, hm⟩
/-- Element k: where its cells lie. -/
theorem SlR.at_ {A : Option Addr} {n c : Nat} (h : SlR C M w (.slice A n c) l) {k : Nat} (hk : k < l.length) :
    ∃ b off cs, A = some ⟨b, off, none⟩ ∧ ¬ M b ∧ b < w.heap.size ∧ C.rd M w cs l[k] ∧ ∀ (j : Nat) (u : Value), cs[j]? = some u → w.cell? ⟨b, off + k * C.n + j, none⟩ = some u := by
  obtain ⟨A', n', c', xs, hv, rfl, hc, hm, he, ha⟩ := h
  injection hv with h1 h2 h3
  subst h1 h2 h3
  obtain ⟨b, off, rfl, hM, hb, hcell⟩ := ha (by omega)
  refine ⟨b, off, _, rfl, hM, hb, he.2 k hk, fun j u hu => ?_⟩
  rw [List.getElem?_take] at hu
  split at hu
  · rw [List.getElem?_drop] at hu
    rw [Nat.add_assoc]
    exact hcell _ u hu
  · cases hu
/-- A cut 'v[lo:hi]'. -/
theorem SlR.cut {A : Option Addr} {n c : Nat} (h : SlR C M w (.slice A n c) l) {lo hi : Nat} (h1 : lo ≤ hi) (h2 : hi ≤ l.length) :
    SlR C M w (.slice (if c = lo then A else A.map (·.add (lo * C.n))) (hi - lo) (c - lo)) ((l.take hi).drop lo) := by
  obtain ⟨A', n', c', xs, hv, rfl, hc, hm, he, ha⟩ := h
  injection hv with e1 e2 e3
  subst e1 e2 e3
  have hlen : ((l.take hi).drop lo).length = hi - lo := by rw [List.length_drop, List.length_take]; omega
  refine ⟨_, _, _, (xs.take (hi * C.n)).drop (lo * C.n), rfl, hlen.symm, by omega, by omega, (he.take hi).drop lo, fun h0 => ?_⟩
  obtain ⟨b, off, rfl, hM, hb, hcell⟩ := ha (by omega)
  rw [if_neg (by omega)]
  refine ⟨b, off + lo * C.n, ?_, hM, hb, fun j u hu => ?_⟩
  · simp only [Option.map_some, Addr.add]
    split <;> simp_all
  · rw [List.getElem?_drop, List.getElem?_take] at hu
    split at hu
    · rw [Nat.add_assoc]
      exact hcell _ u hu
    · cases hu
end

theorem below_drewN' (B : Nat) (w : World) (n : Nat) : Below B w (w.drewN n) := ⟨rfl, rfl, rfl, Nat.le_refl _, fun _ _ => rfl⟩
theorem SlR.zero {α : Type} {C : Codec α} {M : Nat → Prop} {w : World} {v : Value} {l : List α} (h : SlR C M w v l) : SlR C M0 w v l := h.sub fun _ _ h => h.elim
theorem SlR.drewN {α : Type} {C : Codec α} {M : Nat → Prop} {w : World} {v : Value} {l : List α} (h : SlR C M w v l) (n : Nat) : SlR C M (w.drewN n) v l := h.ext (below_drewN' _ _ _)
/-- What lies below the heap's end: outside whatever will be made. -/
def MB (M : Nat → Prop) (n : Nat) : Nat → Prop := fun b => M b ∨ n ≤ b
theorem SlR.toMB {α : Type} {C : Codec α} {M : Nat → Prop} {w : World} {v : Value} {l : List α} (h : SlR C M w v l) : SlR C (MB M w.heap.size) w v l := h.sub fun b hb hm => hm.elim id fun h' => by omega
theorem SlR.ofMB {α : Type} {C : Codec α} {M : Nat → Prop} {w : World} {v : Value} {l : List α} {n : Nat} (h : SlR C (MB M n) w v l) : SlR C M w v l := h.sub fun _ _ hm => .inl hm
/-- A cut of what is not nil, ahead of its capacity's end. -/
theorem SlR.cutS {α : Type} {C : Codec α} {M : Nat → Prop} {w : World} {l : List α} {b off n c : Nat} (h : SlR C M w (.slice (some ⟨b, off, none⟩) n c) l) {lo hi : Nat} (h1 : lo ≤ hi) (h2 : hi ≤ l.length) (h3 : lo < c) :
    SlR C M w (.slice (some ⟨b, off + lo * C.n, none⟩) (hi - lo) (c - lo)) ((l.take hi).drop lo) := by
  have := h.cut h1 h2
  rw [if_neg (by omega)] at this
  simp only [Option.map_some, Addr.add_lit] at this
  exact this

/-! ### The plain codecs -/
theorem rd_one_of {v u : Value} {cs : List Value} (h : cs = [v]) (hv : v.oneCell' = true) (hu : u ∈ cs) : u.oneCell' = true := by
  subst h; simp at hu; subst hu; exact hv

/-- A byte. -/
def byteC : Codec UInt8 where
  n := 1
  pos := by omega
  rd _ _ cs a := cs = [.int .u8 (a.toNat : Int)]
  len h := by subst h; rfl
  one h u hu := rd_one_of h rfl hu
  keep h _ _ := h
  sub h _ := h
theorem SlR.cutB {M : Nat → Prop} {w : World} {l : List UInt8} {b off n c : Nat} (h : SlR byteC M w (.slice (some ⟨b, off, none⟩) n c) l) {lo hi : Nat} (h1 : lo ≤ hi) (h2 : hi ≤ l.length) (h3 : lo < c) :
    SlR byteC M w (.slice (some ⟨b, off + lo, none⟩) (hi - lo) (c - lo)) ((l.take hi).drop lo) := by
  have := h.cutS h1 h2 h3
  rwa [show lo * byteC.n = lo from Nat.mul_one lo] at this
theorem SlR.cutN {M : Nat → Prop} {w : World} {l : List UInt8} {b off n c : Nat} (h : SlR byteC M w (.slice (some ⟨b, off, none⟩) n c) l) {lo m : Nat} (h2 : lo + m ≤ l.length) (h3 : lo < c) :
    SlR byteC M w (.slice (some ⟨b, off + lo, none⟩) m (c - lo)) ((l.take (lo + m)).drop lo) := by
  have := h.cutB (lo := lo) (hi := lo + m) (by omega) h2 h3
  rwa [Nat.add_sub_cancel_left] at this
/-- A number of type int. -/
def intC : Codec Int where
  n := 1
  pos := by omega
  rd _ _ cs a := cs = [.int .i64 a] ∧ -9223372036854775808 ≤ a ∧ a ≤ 9223372036854775807
  len h := by rw [h.1]; rfl
  one h u hu := rd_one_of h.1 rfl hu
  keep h _ _ := h
  sub h _ := h
def boolC : Codec Bool where
  n := 1
  pos := by omega
  rd _ _ cs a := cs = [.bool a]
  len h := by subst h; rfl
  one h u hu := rd_one_of h rfl hu
  keep h _ _ := h
  sub h _ := h
/-- The bytes of a text. -/
def bs (l : List UInt8) : ByteArray := ⟨l.toArray⟩
/-- A text. -/
def strC : Codec (List UInt8) where
  n := 1
  pos := by omega
  rd _ _ cs a := cs = [.string (bs a)] ∧ a.length ≤ maxLen
  len h := by rw [h.1]; rfl
  one h u hu := rd_one_of h.1 rfl hu
  keep h _ _ := h
  sub h _ := h
/-- A slice inside a datum. -/
def sliceC {α : Type} (C : Codec α) : Codec (List α) where
  n := 1
  pos := by omega
  rd M w cs l := ∃ v, cs = [v] ∧ SlR C M w v l
  len h := by obtain ⟨v, rfl, _⟩ := h; rfl
  one h u hu := by
    obtain ⟨v, rfl, hs⟩ := h
    obtain ⟨A, c, rfl, _⟩ := hs.form
    simp at hu; subst hu; rfl
  keep h hk hs := by obtain ⟨v, rfl, h'⟩ := h; exact ⟨v, rfl, h'.keep hk hs⟩
  sub h hm := by obtain ⟨v, rfl, h'⟩ := h; exact ⟨v, rfl, h'.sub hm⟩
/-- Two data, one behind the other. -/
def pairC {α β : Type} (C : Codec α) (D : Codec β) : Codec (α × β) where
  n := C.n + D.n
  pos := by have := C.pos; omega
  rd M w cs p := ∃ c d, cs = c ++ d ∧ C.rd M w c p.1 ∧ D.rd M w d p.2
  len h := by obtain ⟨c, d, rfl, h1, h2⟩ := h; rw [List.length_append, C.len h1, D.len h2]
  one h u hu := by
    obtain ⟨c, d, rfl, h1, h2⟩ := h
    rcases List.mem_append.1 hu with h | h
    · exact C.one h1 u h
    · exact D.one h2 u h
  keep h hk hs := by obtain ⟨c, d, rfl, h1, h2⟩ := h; exact ⟨c, d, rfl, C.keep h1 hk hs, D.keep h2 hk hs⟩
  sub h hm := by obtain ⟨c, d, rfl, h1, h2⟩ := h; exact ⟨c, d, rfl, C.sub h1 hm, D.sub h2 hm⟩
/-- A datum read through another type. -/
def mapC {α β : Type} (C : Codec α) (f : β → α) : Codec β where
  n := C.n
  pos := C.pos
  rd M w cs b := C.rd M w cs (f b)
  len h := C.len h
  one h := C.one h
  keep h hk hs := C.keep h hk hs
  sub h hm := C.sub h hm

/-! ### A slice of the call's own -/
section
variable {α : Type} {C : Codec α} {M M' : Nat → Prop} {w w' : World} {B : Nat} {e : TypeId} {v : Value} {xs : List Value} {l l' : List α}

/-- The slice value v is the call's own (its row lies in a block from B on), and reads as l; what its elements lead to lies outside M and outside its row. -/
def Own (C : Codec α) (M : Nat → Prop) (w : World) (B : Nat) (e : TypeId) (v : Value) (l : List α) : Prop :=
  ∃ xs, w.ownsRow B e C.n v l.length xs ∧ Els C (fun b => M b ∨ v.ownBlock = some b) w xs l

theorem Own.nil (C : Codec α) (M : Nat → Prop) (w : World) (B : Nat) (e : TypeId) : Own C M w B e (.slice none 0 0) [] :=
  ⟨[], World.ownsRow_nil _ _ _ _, Els.nil _ _ _⟩
theorem Own.form (h : Own C M w B e v l) : (v = .slice none 0 0 ∧ l = []) ∨ ∃ g c, v = .slice (some ⟨g, 0, none⟩) l.length c ∧ l.length ≤ c ∧ c ≤ maxLen ∧ B ≤ g ∧ g < w.heap.size := by
  obtain ⟨xs, ho, _⟩ := h
  rcases ho.2 with ⟨rfl, h0⟩ | ⟨g, cap, cur, rfl, hb, hg, h1, h2, _⟩
  · exact .inl ⟨rfl, List.eq_nil_of_length_eq_zero h0⟩
  · exact .inr ⟨g, cap, rfl, h1, h2, hb, (Array.getElem?_eq_some_iff.1 hg).1⟩
theorem Own.len_le (h : Own C M w B e v l) : l.length ≤ maxLen := by
  rcases h.form with ⟨_, rfl⟩ | ⟨g, c, _, h1, h2, _⟩
  · exact Nat.zero_le _
  · omega
theorem Own.shape (h : Own C M w B e v l) : ∃ A c, v = .slice A l.length c ∧ l.length ≤ c ∧ c ≤ maxLen := by
  rcases h.form with ⟨rfl, rfl⟩ | ⟨g, c, rfl, h1, h2, _⟩
  · exact ⟨none, 0, rfl, Nat.le_refl _, Nat.zero_le _⟩
  · exact ⟨_, c, rfl, h1, h2⟩
/-- Kept while other blocks turn. -/
theorem Own.keep (h : Own C M w B e v l) (hk : ∀ b, b < w.heap.size → (¬ M b ∨ v.ownBlock = some b) → w'.heap[b]? = w.heap[b]?) (hs : w.heap.size ≤ w'.heap.size) (hM : ∀ b, v.ownBlock = some b → ¬ M b := by intros; intro h; exact h) : Own C M w' B e v l := by
  obtain ⟨xs, ho, he⟩ := h
  refine ⟨xs, ⟨ho.1, ?_⟩, he.keep (fun b hb hnm => hk b hb (.inl fun hm => hnm (.inl hm))) hs⟩
  rcases ho.2 with hn | ⟨g, cap, cur, rfl, hb, hg, rest⟩
  · exact .inl hn
  · exact .inr ⟨g, cap, cur, rfl, hb, (hk g (Array.getElem?_eq_some_iff.1 hg).1 (.inr rfl)).trans hg, rest⟩
theorem Own.ext (h : Own C M w B e v l) (hb : Below w.heap.size w w') : Own C M w' B e v l := by
  obtain ⟨xs, ho, he⟩ := h
  refine ⟨xs, ⟨ho.1, ?_⟩, he.ext hb⟩
  rcases ho.2 with hn | ⟨g, cap, cur, rfl, hb', hg, rest⟩
  · exact .inl hn
  · exact .inr ⟨g, cap, cur, rfl, hb', (hb.block g (Array.getElem?_eq_some_iff.1 hg).1).trans hg, rest⟩
/-- What is owned reads. -/
theorem Own.read (h : Own C M w B e v l) (hM : ∀ b, v.ownBlock = some b → ¬ M b) : SlR C M w v l := by
  obtain ⟨xs, ho, he⟩ := h
  have he' : Els C M w xs l := he.sub fun b _ hb => .inl hb
  rcases ho.2 with ⟨rfl, h0⟩ | ⟨g, cap, cur, rfl, hb, hg, h1, h2, h3, h4⟩
  · exact ⟨none, 0, 0, xs, rfl, h0.symm, Nat.le_refl _, Nat.zero_le _, he', fun h => absurd h (by omega)⟩
  · refine ⟨_, _, cap, xs, rfl, rfl, h1, h2, he', fun _ => ⟨g, 0, rfl, hM g rfl, (Array.getElem?_eq_some_iff.1 hg).1, fun j u hu => ?_⟩⟩
    have := ho.cells (g := g) rfl j u hu
    rw [Addr.add_lit] at this
    exact this
theorem Own.base (h : Own C M w B e v l) : ∀ b, v.ownBlock = some b → B ≤ b := fun b hb => by
  obtain ⟨xs, ho, _⟩ := h
  exact (ho.lt b hb).1
theorem Own.lt (h : Own C M w B e v l) : ∀ b, v.ownBlock = some b → b < w.heap.size := fun b hb => by
  obtain ⟨xs, ho, _⟩ := h
  exact (ho.lt b hb).2
theorem Own.readB (h : Own C M w B e v l) (hM : ∀ b, M b → b < B) : SlR C M w v l := h.read fun b hb hm => by
  obtain ⟨xs, ho, _⟩ := h
  have := (ho.lt b hb).1
  have := hM b hm
  omega
theorem Own.read0 (h : Own C M0 w B e v l) : SlR C M0 w v l := h.read fun _ _ h => h
end

/-- append onto what the call owns: elements that read, out of any row. -/
theorem run_append_Own {P : Program} {α : Type} (C : Codec α) {w : World} {M : Nat → Prop} {B : Nat} {v : Value} {l l' : List α} (t ty e : TypeId) (i : TypeInfo) (z : Value) (bytes : Nat) (ht : P.underlying t = some (.slice e)) (hi : P.info? e = some i) (hz : i.zero = some z)
    (hsize : i.size = C.n) (hby : i.bytes = bytes) (hzs : z.cells.size = C.n) (hown : Own C M w B e v l)
    (A : Option Addr) (m c : Nat) (news : List Value) (he : Els C (fun b => M b ∨ v.ownBlock = some b) w news l') (hm : m = l'.length)
    (hA : 0 < m → ∃ b off, A = some ⟨b, off, none⟩ ∧ ∀ (j : Nat) (u : Value), news[j]? = some u → w.cell? ⟨b, off + j, none⟩ = some u)
    (h63 : l.length + l'.length ≤ maxLen) (hbytes : (l.length + l'.length) * bytes ≤ 140737488355328) (hbase : B ≤ w.heap.size) :
    ∃ v' w', (Builtin.append_ #[t, t] ty #[v, .slice A m c]).run P w = .ok v' w' ∧ Own C M w' B e v' (l ++ l') ∧ w.grownBy w' v.ownBlock ∧
      (v'.ownBlock = v.ownBlock ∨ v'.ownBlock = some w.heap.size) := by
  obtain ⟨xs, ho, hx⟩ := hown
  subst hm
  have fin : ∀ v' w', w'.ownsRow B e C.n v' (l.length + l'.length) (xs ++ news) → w.grownBy w' v.ownBlock → (v'.ownBlock = v.ownBlock ∨ v'.ownBlock = some w.heap.size) → Own C M w' B e v' (l ++ l') := by
    intro v' w' h1 h2 h3
    refine ⟨xs ++ news, by rw [List.length_append]; exact h1, ?_⟩
    have hh : Els C (fun b => M b ∨ v.ownBlock = some b) w (xs ++ news) (l ++ l') := hx.append he
    have hh2 : Els C (fun b => M b ∨ v.ownBlock = some b ∨ v'.ownBlock = some b) w (xs ++ news) (l ++ l') := hh.sub fun b hb hor => by
      rcases hor with h | h | h
      · exact .inl h
      · exact .inr h
      · rcases h3 with e' | e'
        · exact .inr (e' ▸ h)
        · rw [e'] at h; injection h with h; omega
    have hh3 : Els C (fun b => M b ∨ v.ownBlock = some b ∨ v'.ownBlock = some b) w' (xs ++ news) (l ++ l') :=
      hh2.keep (fun b hb hnm => h2.block b hb fun e' => hnm (.inr (.inl e'.symm))) h2.size
    exact hh3.sub fun b _ hor => by
      rcases hor with h | h
      · exact .inl h
      · exact .inr (.inr h)
  rcases Nat.eq_zero_or_pos l'.length with h0 | h0
  · have hl' : l' = [] := List.eq_nil_of_length_eq_zero h0
    subst hl'
    have hn : news = [] := List.eq_nil_of_length_eq_zero (by simpa using he.1)
    subst hn
    refine ⟨v, w, ?_, fin v w (by simpa using ho) (World.grownBy.refl w _) (.inl rfl), World.grownBy.refl w _, .inl rfl⟩
    rcases ho.2 with ⟨rfl, h⟩ | ⟨g, cap, cur, rfl, _, _, hnc, _⟩
    · cases A <;> simp [Builtin.append_, run_underlying ht, sizeOf, typeInfo, hi, Builtin.lenOf, Builtin.firstCells, loadCells, loadCellsFrom]
    · cases A <;> simp [Builtin.append_, run_underlying ht, sizeOf, typeInfo, hi, Builtin.lenOf, Builtin.firstCells, hnc, storeCells, loadCells, loadCellsFrom]
  · obtain ⟨b, off, rfl, hcell⟩ := hA h0
    have hcells : ∀ (j : Nat) (u : Value), news[j]? = some u → w.cell? ((⟨b, off, none⟩ : Addr).add j) = some u := by
      intro j u hu
      rw [Addr.add_lit]
      exact hcell j u hu
    obtain ⟨v', w', hrun, h2, h3, _, h5⟩ := run_append_own_at (P := P) w B t ty e i z C.n bytes ht hi hz hsize hby hzs C.pos v l.length xs ho ⟨b, off, none⟩ l'.length c news he.1 hcells he.one h63 hbytes hbase
    exact ⟨v', w', hrun, fin v' w' h2 h3 h5, h3, h5⟩

/-- A slice type's numbers in a program: t: the slice type, e: its element's, of k cells and 'bytes' bytes. -/
structure SlT (P : Program) (k : Nat) (t e : TypeId) (bytes : Nat) : Prop where
  ht : P.underlying t = some (.slice e)
  hi : ∃ i z, P.info? e = some i ∧ i.zero = some z ∧ i.size = k ∧ i.bytes = bytes ∧ z.cells.size = k
theorem SlT.mk' {P : Program} {k : Nat} {t e : TypeId} {bytes : Nat} {z : Value} (ht : P.underlying t = some (.slice e)) (h : (P.info? e).map (fun i => (i.zero, i.size, i.bytes)) = some (some z, k, bytes)) (hz : z.cells.size = k) : SlT P k t e bytes := by
  obtain ⟨i, hi, h1, h2, h3⟩ := info_parts h
  exact ⟨ht, i, z, hi, h1, h2, h3, hz⟩

/-- A literal of one element, made anew. -/
theorem SlR.built {α : Type} {C : Codec α} {M : Nat → Prop} {w : World} {cs : List Value} {a : α} (e : TypeId) (h : C.rd M w cs a) (hM : ∀ b, M b → b < w.heap.size) :
    SlR C M (w.alloc (.cells cs.toArray e)) (.slice (some ⟨w.heap.size, 0, none⟩) 1 1) [a] := by
  refine ⟨_, 1, 1, cs, rfl, rfl, Nat.le_refl _, by simp [maxLen], (Els.single h).ext ((Below.refl _ _).alloc (Nat.le_refl _) _), fun _ => ⟨_, 0, rfl, fun hm => by have := hM _ hm; omega, by simp, fun j u hu => ?_⟩⟩
  rw [Nat.zero_add, World.cell?_alloc_new]
  simpa using hu

section
variable {P : Program} {α : Type} (C : Codec α) {w : World} {M : Nat → Prop} {B : Nat} {l l' : List α}

/-- 'append(v, x...)' where v is the call's own and x reads. -/
theorem wpList_append_Own {ops : Array Oper} {rest : List Oper} {o : Oper} {a : Act} {Q : Exit → Act → World → Prop} {t e : TypeId} {bytes : Nat} (T : SlT P C.n t e bytes) (hgd : Region.wanted o (yielded ops a.tmps) = true) (s x : Operand)
    (ho : o.op = .call { callee := .builtin .append, args := #[s, x], argTypes := #[t, t] })
    {v : Value} (hs : a.eval s = v) (hown : Own C M w B e v l)
    {x' : Value} (hx : a.eval x = x') (hr : SlR C (fun b => M b ∨ v.ownBlock = some b) w x' l')
    (h63 : l.length + l'.length ≤ maxLen) (hbytes : (l.length + l'.length) * bytes ≤ 140737488355328) (hbase : B ≤ w.heap.size)
    (h : ∀ A' c' L w', Hid (L = l ++ l') → Own C M w' B e (.slice A' L.length c') L → Below B w w' → w.grownBy w' v.ownBlock → ((Value.slice A' L.length c').ownBlock = v.ownBlock ∨ (Value.slice A' L.length c').ownBlock = some w.heap.size) →
      wpList P ops Q rest (a.put o.dst (.slice A' L.length c')) w') : wpList P ops Q (o :: rest) a w := by
  obtain ⟨i, z, hi, hz, h1, h2, h3⟩ := T.hi
  obtain ⟨A, n, c, xs, rfl, hn, hc, hm, he, ha⟩ := hr
  obtain ⟨v', w', hrun, h5, h6, h7⟩ := run_append_Own (P := P) C t o.type e i z bytes T.ht hi hz h1 h2 h3 hown A n c xs he hn
    (fun h0 => by obtain ⟨b, off, rfl, _, _, hcell⟩ := ha h0; exact ⟨b, off, rfl, hcell⟩) h63 hbytes hbase
  obtain ⟨A', c', rfl, _⟩ := h5.shape
  refine wpList_step fun K hK => ?_
  rw [if_pos hgd]
  unfold Oper.wp execOp
  simp only [ho, resolve, invoke, builtin, Sem.run_bind, Sem.run_pure, Result.andThen_ok, List.map_toArray, List.map_cons, List.map_nil, hs, hx, hrun]
  exact hK _ _ (h A' c' _ w' (Lib.hid rfl) h5 ((Below.refl _ _).grown h6 hbase fun k hk => hown.base k hk) h6 h7)
end

/-- 'append(v, x)': one element, laid in a block of its own first. -/
theorem wpList_push_Own {P : Program} {α : Type} (C : Codec α) {w : World} {M : Nat → Prop} {B : Nat} {l : List α} {ops : Array Oper} {rest : List Oper} {o : Oper} {a : Act} {Q : Exit → Act → World → Prop} {t e : TypeId} {bytes : Nat} (T : SlT P C.n t e bytes) (hgd : Region.wanted o (yielded ops a.tmps) = true) (s x : Operand)
    (ho : o.op = .call { callee := .builtin .append, args := #[s, x], argTypes := #[t, t] })
    {v : Value} (hs : a.eval s = v) (hown : Own C M w B e v l) {cs : List Value} {y : α} (hx : a.eval x = .slice (some ⟨w.heap.size, 0, none⟩) 1 1)
    (hr : C.rd (fun b => M b ∨ v.ownBlock = some b) w cs y) (hM : ∀ b, M b → b < w.heap.size)
    (h63 : l.length + 1 ≤ maxLen) (hbytes : (l.length + 1) * bytes ≤ 140737488355328) (hbase : B ≤ w.heap.size)
    (h : ∀ A' c' L w', Hid (L = l ++ [y]) → Own C M w' B e (.slice A' L.length c') L → Below B w w' → w.grownBy w' v.ownBlock → ((Value.slice A' L.length c').ownBlock = v.ownBlock ∨ (Value.slice A' L.length c').ownBlock = some (w.heap.size + 1)) →
      wpList P ops Q rest (a.put o.dst (.slice A' L.length c')) w') : wpList P ops Q (o :: rest) a (w.alloc (.cells cs.toArray e)) := by
  have hal : Below w.heap.size w (w.alloc (.cells cs.toArray e)) := (Below.refl _ _).alloc (Nat.le_refl _) _
  refine wpList_append_Own C T hgd s x ho hs (hown.ext hal) hx (SlR.built e hr fun b hb => hb.elim (hM b) (hown.lt b)) h63 hbytes (by simp; omega) fun A' c' L w' hL h1 h2 h3 h4 => ?_
  refine h A' c' L w' hL h1 ((hal.mono hbase).trans h2) ⟨h3.os, h3.tape, h3.output, Nat.le_trans hal.size h3.size, fun k hk hne => (h3.block k (by simp; omega) hne).trans (hal.block k hk)⟩ ?_
  rw [World.size_alloc] at h4
  exact h4

/-- A row that was laid in one piece is owned. -/
theorem Own.built {α : Type} {C : Codec α} {M : Nat → Prop} {w : World} {B : Nat} (e : TypeId) {cs : List Value} {l : List α} (he : Els C M w cs l) (hB : B ≤ w.heap.size) (hm : l.length ≤ maxLen) :
    Own C M (w.alloc (.cells cs.toArray e)) B e (.slice (some ⟨w.heap.size, 0, none⟩) l.length l.length) l := by
  refine ⟨cs, by have := World.ownsRow_lit (e := e) (size := C.n) w cs.toArray l.length hB hm (by simpa using he.1); simpa using this, ?_⟩
  refine (he.sub (M' := fun b => M b ∨ (Value.slice (some ⟨w.heap.size, 0, none⟩) l.length l.length).ownBlock = some b) fun b hb h => ?_).ext ((Below.refl _ _).alloc (Nat.le_refl _) _)
  rcases h with h | h
  · exact h
  · simp only [Value.ownBlock, Option.some.injEq] at h; omega

/-! ### A block that is known whole -/
def Blk (w : World) (g : Nat) (t : TypeId) (cs : Array Value) : Prop := w.heap[g]? = some (.cells cs t (0, 0))
section
variable {w w' : World} {g : Nat} {t : TypeId} {cs : Array Value}
theorem Blk.lt (h : Blk w g t cs) : g < w.heap.size := (Array.getElem?_eq_some_iff.1 h).1
theorem Blk.cell (h : Blk w g t cs) (i : Nat) : w.cell? ⟨g, i, none⟩ = cs[i]? := cell_of_row w g i cs t (0, 0) h
theorem Blk.frozen (h : Blk w g t cs) (i : Nat) : w.frozen? ⟨g, i, none⟩ = false := by
  unfold Blk at h
  simp [World.frozen?, h]
theorem Blk.new (w : World) (t : TypeId) (cs : Array Value) : Blk (w.alloc (.cells cs t)) w.heap.size t cs := heap_alloc_new w _
theorem Blk.keep (h : Blk w g t cs) (hk : w'.heap[g]? = w.heap[g]?) : Blk w' g t cs := hk.trans h
theorem Blk.ext (h : Blk w g t cs) (hb : Below w.heap.size w w') : Blk w' g t cs := (hb.block g h.lt).trans h
theorem Blk.alloc (h : Blk w g t cs) (o : Obj) : Blk (w.alloc o) g t cs := (Below.heap_alloc w o g h.lt).trans h
theorem Blk.set_ (h : Blk w g t cs) (i : Nat) (u : Value) : Blk (w.setCell ⟨g, i, none⟩ u) g t (cs.setIfInBounds i u) := by
  unfold Blk at h ⊢
  simp [World.setCell, Array.getElem?_modify, h]
theorem Blk.far (h : Blk w g t cs) {p : Addr} (hp : g ≠ p.block) (u : Value) : Blk (w.setCell p u) g t cs := (Below.heap_setCell w p u g hp).trans h
theorem Blk.grown {row : Option Nat} (h : Blk w g t cs) (hb : w.grownBy w' row) (hg : some g ≠ row) : Blk w' g t cs := (hb.block g h.lt hg).trans h
theorem Blk.drewN (h : Blk w g t cs) (n : Nat) : Blk (w.drewN n) g t cs := h
/-- One cell, as the walk asks of it. -/
theorem Blk.one {x : Value} (h : Blk w g t #[x]) : w.cell? ⟨g, 0, none⟩ = some x ∧ w.frozen? ⟨g, 0, none⟩ = false ∧ g < w.heap.size := ⟨h.cell 0, h.frozen 0, h.lt⟩
theorem Blk.two {x y : Value} (h : Blk w g t #[x, y]) : w.cell? ⟨g, 0, none⟩ = some x ∧ w.cell? ⟨g, 1, none⟩ = some y ∧ w.frozen? ⟨g, 0, none⟩ = false ∧ w.frozen? ⟨g, 1, none⟩ = false ∧ g < w.heap.size :=
  ⟨h.cell 0, h.cell 1, h.frozen 0, h.frozen 1, h.lt⟩
theorem Blk.three {x y z : Value} (h : Blk w g t #[x, y, z]) : w.cell? ⟨g, 0, none⟩ = some x ∧ w.cell? ⟨g, 1, none⟩ = some y ∧ w.cell? ⟨g, 2, none⟩ = some z ∧ w.frozen? ⟨g, 0, none⟩ = false ∧ w.frozen? ⟨g, 1, none⟩ = false ∧ w.frozen? ⟨g, 2, none⟩ = false ∧ g < w.heap.size :=
  ⟨h.cell 0, h.cell 1, h.cell 2, h.frozen 0, h.frozen 1, h.frozen 2, h.lt⟩
end
/-- What a call made of two cells lies there behind a callee. -/
theorem two_kept {w w1 : World} {t : TypeId} {x y : Value} (hb : Below (w.alloc (.cells #[x, y] t)).heap.size (w.alloc (.cells #[x, y] t)) w1) :
    w1.cell? ⟨w.heap.size, 0, none⟩ = some x ∧ w1.cell? ⟨w.heap.size, 1, none⟩ = some y ∧ w1.frozen? ⟨w.heap.size, 0, none⟩ = false ∧ w1.frozen? ⟨w.heap.size, 1, none⟩ = false ∧ w.heap.size < w1.heap.size :=
  ((Blk.new w t #[x, y]).ext hb).two
/-- A new block, then a callee: below the old end nothing has turned. -/
theorem below_alloc {w w1 : World} {o : Obj} (hb : Below (w.alloc o).heap.size (w.alloc o) w1) : Below w.heap.size w w1 :=
  ((Below.refl _ _).alloc (Nat.le_refl _) o).trans (hb.mono (by simp))

/-- '[]byte' to string. -/
theorem run_convert_SlR {P : Program} {w : World} {M : Nat → Prop} {A : Option Addr} {n c : Nat} {l : List UInt8} {src dst e : TypeId} (hs : P.underlying src = some (.slice e)) (he : P.underlying e = some (.int .u8)) (hd : P.underlying dst = some .string)
    (h : SlR byteC M w (.slice A n c) l) : (convert src dst (.slice A n c)).run P w = .ok (.string (bs l)) w := by
  obtain ⟨A', n', c', xs, hv, rfl, hc, hm, hel, ha⟩ := h
  injection hv with h1 h2 h3
  subst h1 h2 h3
  have hxs : xs = l.map fun b => Value.int .u8 (b.toNat : Int) := by
    apply List.ext_getElem
    · rw [hel.1]; simp [byteC]
    · intro i h1 h2
      have hi : i < l.length := by simpa using h2
      have hr := hel.2 i hi
      have : (xs.drop (i * 1)).take 1 = [Value.int .u8 (l[i].toNat : Int)] := hr
      have h3 := congrArg (fun t => t[0]?) this
      simp only [Nat.mul_one, List.getElem?_take, List.getElem?_drop, Nat.add_zero, List.getElem?_cons_zero, List.getElem?_eq_getElem h1] at h3
      simpa using h3
  rcases Nat.eq_zero_or_pos l.length with h0 | h0
  · have hl : l = [] := List.eq_nil_of_length_eq_zero h0
    subst hl
    cases A with
    | none => rw [run_convert_bytes_nil w src e hs he _ _ dst hd]; rfl
    | some ad =>
      rw [run_convert_bytes_string w src dst e _ _ _ hs he hd]
      simp [Conv.bytesToString, loadCells, loadCellsFrom]
      rfl
  · obtain ⟨b, off, rfl, _, _, hcell⟩ := ha h0
    rw [run_convert_bytes_arg w src e hs he b off l.length c (l.map fun b => (b.toNat : Int)) (by simp) (fun i hi => by
      refine (hcell i (.int .u8 (l[i].toNat : Int)) (by rw [hxs]; simp [hi])).trans ?_
      simp [hi]) dst hd]
    congr 2
    simp only [strOfNums, bs, List.map_map]
    congr 2
    conv => rhs; rw [← List.map_id l]
    exact List.map_congr_left fun b _ => by simp
@[simp] theorem bs_size (l : List UInt8) : (bs l).size = l.length := by simp [bs, ByteArray.size]
@[simp] theorem bs_toList (l : List UInt8) : (bs l).data.toList = l := by simp [bs]
@[simp] theorem bs_list (l : List UInt8) : (bs l).toList = l := by rw [ByteArray.toList_eq, bs_toList]
@[simp] theorem bs_append (a b : List UInt8) : bs a ++ bs b = bs (a ++ b) := ByteArray.mk_append_mk a b
@[simp] theorem bs_extract (l : List UInt8) (a b : Nat) : (bs l).extract a b = bs ((l.drop a).take (b - a)) := ByteArray.extract_mk l a b
@[simp] theorem bs_get (l : List UInt8) (i : Nat) (h : i < (bs l).size) : (bs l)[i] = l[i]'(by simpa using h) := by simp [bs, ByteArray.getElem_eq_getElem_data]
theorem bs_inj {a b : List UInt8} : bs a = bs b ↔ a = b := ⟨fun h => by rw [← bs_toList a, h, bs_toList], fun h => by rw [h]⟩
theorem bs_of (s : ByteArray) : s = bs s.data.toList := by cases s; simp [bs]
theorem bs_beq (a b : List UInt8) : (bs a == bs b) = (a == b) := by
  have h : (bs a == bs b) = ((bs a).data == (bs b).data) := rfl
  rw [h]; simp [bs]
end Go.Proofs.YtjamjkjmlckgeaaGreatDoor
