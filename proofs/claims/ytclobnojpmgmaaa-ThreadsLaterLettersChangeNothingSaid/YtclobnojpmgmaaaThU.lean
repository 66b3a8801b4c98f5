/-
  What the visits of shown keep: the children map, its rows, the captured boxes.
-/
import Derived.Test.YtclobnojpmgmaaaThL
import Derived.Test.YtclobnojpmgmaaaIter
namespace Go.Proofs.Ytclobnojpmgmaaa
open Go.RowKit
set_option linter.unusedVariables false
theorem ints_of_els {M : Nat → Prop} {w : World} {xs : List Value} {l : List Int} (h : Els intC M w xs l) : xs = l.map (Value.int .i64) := by
  have hn : intC.n = 1 := rfl
  have hl := h.1
  rw [hn, Nat.mul_one] at hl
  refine List.ext_getElem (by simpa using hl) fun i h1 h2 => ?_
  have hi : i < l.length := by omega
  have h3 := (h.2 i hi).1
  rw [hn, Nat.mul_one] at h3
  have h4 : ((xs.drop i).take 1)[0]? = some (Value.int .i64 l[i]) := by rw [h3]; rfl
  rw [List.getElem?_take_of_lt (by omega), List.getElem?_drop, Nat.add_zero, List.getElem?_eq_getElem h1] at h4
  injection h4 with h4
  rw [h4]; simp
theorem els_ints (M : Nat → Prop) (w : World) : ∀ (l : List Int), (∀ x ∈ l, -9223372036854775808 ≤ x ∧ x ≤ 9223372036854775807) → Els intC M w (l.map (Value.int .i64)) l
  | [], _ => Els.nil _ _ _
  | x :: l, h => (Els.single (C := intC) (cs := [Value.int .i64 x]) ⟨rfl, h x List.mem_cons_self⟩).append (els_ints M w l fun y hy => h y (List.mem_cons_of_mem _ hy))
theorem SlR.chg {α : Type} {C : Codec α} {S S' : Nat → Prop} {w w' : World} {v : Value} {l : List α} (h : SlR C S w v l) (hc : Chg S S' w w') : SlR C S' w' v l :=
  (h.sub (M' := fun b => S b ∨ S' b) fun b hb hor => hor.elim id fun h' => (hc.own b h').2.elim id fun h2 => by omega).keep (fun b hb hn => hc.same b hb fun h' => hn (.inl h')) hc.size |>.sub fun _ _ h' => .inr h'
theorem Blk.chg {S S' : Nat → Prop} {w w' : World} {g : Nat} {t : TypeId} {cs : Array Value} (h : Blk w g t cs) (hS : ¬ S g) (hc : Chg S S' w w') : Blk w' g t cs ∧ ¬ S' g :=
  ⟨h.keep (hc.same g h.lt hS), fun h' => (hc.own g h').2.elim hS fun h2 => by have := h.lt; omega⟩
theorem Own.flatI {M M' : Nat → Prop} {w w' : World} {B : Nat} {e : TypeId} {v : Value} {l : List Int} (h : Own intC M w B e v l) (hk : ∀ b, v.ownBlock = some b → w'.heap[b]? = w.heap[b]?) : Own intC M' w' B e v l := by
  obtain ⟨xs, ho, he⟩ := h
  refine ⟨xs, ⟨ho.1, ?_⟩, ⟨he.1, fun i hi => he.2 i hi⟩⟩
  rcases ho.2 with hn | ⟨g, cap, cur, rfl, hb, hg, rest⟩
  · exact .inl hn
  · exact .inr ⟨g, cap, cur, rfl, hb, (hk g rfl).trans hg, rest⟩
/-- a part of a list, from place k on -/
def PartAt {α : Type} (xs : List α) (k : Nat) (part : List α) : Prop := ∃ suf, xs.drop k = part ++ suf
theorem PartAt.head {α : Type} {xs : List α} {k : Nat} {x : α} {t : List α} (h : PartAt xs k (x :: t)) : ∃ hk : k < xs.length, xs[k] = x ∧ PartAt xs (k + 1) t := by
  obtain ⟨suf, h⟩ := h
  have hk : k < xs.length := by
    have := congrArg List.length h
    rw [List.length_drop, List.length_append, List.length_cons] at this
    omega
  rw [List.drop_eq_getElem_cons hk, List.cons_append] at h
  injection h with h1 h2
  exact ⟨hk, h1, suf, h2⟩
theorem PartAt.fst {α : Type} {xs : List α} {k : Nat} {a b : List α} (h : PartAt xs k (a ++ b)) : PartAt xs k a := by
  obtain ⟨suf, h⟩ := h
  exact ⟨b ++ suf, by rw [h, List.append_assoc]⟩
theorem PartAt.snd {α : Type} {xs : List α} {k : Nat} {a b : List α} (h : PartAt xs k (a ++ b)) : PartAt xs (k + a.length) b := by
  obtain ⟨suf, h⟩ := h
  exact ⟨suf, by rw [← List.drop_drop, h, List.append_assoc, List.drop_left]⟩
/-- the places of the boxes: letters, yield, map, self, the map's block; the first place of the iterator's own -/
structure Bx where
  q1 : Nat
  q2 : Nat
  q3 : Nat
  q6 : Nat
  bm : Nat
  b0 : Nat
def Bx.has (X : Bx) (b : Nat) : Prop := b = X.q1 ∨ b = X.q2 ∨ b = X.q3 ∨ b = X.q6 ∨ b = X.bm
/-- what the visits read and keep -/
structure VS (X : Bx) (l : List Letter) (A : Option Addr) (c ll : Nat) (m : Int → Option Value) (S : Nat → Prop) (ct : Int → List Nat) (w : World) : Prop where
  bz : X.b0 ≤ w.heap.size
  b1 : Blk w X.q1 22 #[.slice A l.length c]
  b2 : Blk w X.q2 56 #[.func (.yield ll) #[] #[]]
  b3 : Blk w X.q3 57 #[.map (some X.bm)]
  b6 : Blk w X.q6 56 #[.func (.func 27) #[] #[.pointer (some ⟨X.q3, 0, none⟩), .pointer (some ⟨X.q1, 0, none⟩), .pointer (some ⟨X.q2, 0, none⟩), .pointer (some ⟨X.q6, 0, none⟩)]]
  mp : MapAt (.int .i64) intK w X.bm m
  lt : SlR letterC (fun b => S b ∨ X.b0 ≤ b) w (.slice A l.length c) l
  fix : ∀ b, X.has b → ¬ S b
  bnd : ∀ b, S b → b < w.heap.size
  miss : ∀ s, ct s = [] → m s = none
  row : ∀ s, ct s ≠ [] → ∃ v, m s = some v ∧ Own intC M0 w X.b0 3 v ((ct s).map fun (j : Nat) => (j : Int))
  far : ∀ s v b, m s = some v → v.ownBlock = some b → ¬ S b ∧ ¬ X.has b
  apart : ∀ s s' v v', m s = some v → m s' = some v' → s ≠ s' → ∀ b, v.ownBlock = some b → v'.ownBlock ≠ some b
  perm : ∀ s, (ct s).Perm (Th.kids l s)
section
variable {X : Bx} {l : List Letter} {A : Option Addr} {c ll : Nat} {m : Int → Option Value} {S S' : Nat → Prop} {ct : Int → List Nat} {w w' : World}
theorem VS.ext (h : VS X l A c ll m S ct w) (hb : Below w.heap.size w w') : VS X l A c ll m S ct w' where
  bz := Nat.le_trans h.bz hb.size
  b1 := h.b1.ext hb
  b2 := h.b2.ext hb
  b3 := h.b3.ext hb
  b6 := h.b6.ext hb
  mp := h.mp.ext hb
  lt := h.lt.ext hb
  fix := h.fix
  bnd b hS := Nat.lt_of_lt_of_le (h.bnd b hS) hb.size
  miss := h.miss
  row s hs := by obtain ⟨v, h1, h2⟩ := h.row s hs; exact ⟨v, h1, h2.ext hb⟩
  far := h.far
  apart := h.apart
  perm := h.perm
theorem VS.own_lt (h : VS X l A c ll m S ct w) {s : Int} {v : Value} {b : Nat} (hm : m s = some v) (hv : v.ownBlock = some b) : b < w.heap.size := by
  have hs : ct s ≠ [] := fun e => by rw [h.miss s e] at hm; cases hm
  obtain ⟨v', h1, h2⟩ := h.row s hs
  rw [hm] at h1
  injection h1 with h1
  subst h1
  exact h2.lt b hv
theorem VS.chg (h : VS X l A c ll m S ct w) (hc : Chg S S' w w') : VS X l A c ll m S' ct w' where
  bz := Nat.le_trans h.bz hc.size
  b1 := (h.b1.chg (h.fix _ (.inl rfl)) hc).1
  b2 := (h.b2.chg (h.fix _ (.inr (.inl rfl))) hc).1
  b3 := (h.b3.chg (h.fix _ (.inr (.inr (.inl rfl)))) hc).1
  b6 := (h.b6.chg (h.fix _ (.inr (.inr (.inr (.inl rfl))))) hc).1
  mp := h.mp.keep (hc.same _ h.mp.lt (h.fix _ (.inr (.inr (.inr (.inr rfl))))))
  lt := by
    refine (h.lt.keep (fun b hb hn => hc.same b hb fun hS => hn (.inl hS)) hc.size).sub fun b _ hor => ?_
    rcases hor with hS | hB
    · rcases (hc.own b hS).2 with h1 | h1
      · exact .inl h1
      · exact .inr (Nat.le_trans h.bz h1)
    · exact .inr hB
  fix b hb hS' := by
    rcases (hc.own b hS').2 with h1 | h1
    · exact h.fix b hb h1
    · have hlt : b < w.heap.size := by
        rcases hb with e | e | e | e | e
        · exact e ▸ h.b1.lt
        · exact e ▸ h.b2.lt
        · exact e ▸ h.b3.lt
        · exact e ▸ h.b6.lt
        · exact e ▸ h.mp.lt
      omega
  bnd b hS := (hc.own b hS).1
  miss := h.miss
  row s hs := by
    obtain ⟨v, h1, h2⟩ := h.row s hs
    exact ⟨v, h1, h2.flatI fun b hb => hc.same b (h2.lt b hb) (h.far s v b h1 hb).1⟩
  far s v b hm hv := by
    obtain ⟨h1, h2⟩ := h.far s v b hm hv
    refine ⟨fun hS' => ?_, h2⟩
    rcases (hc.own b hS').2 with h3 | h3
    · exact h1 h3
    · have := h.own_lt hm hv
      omega
  apart := h.apart
  perm := h.perm
/-- the row of one parent is turned -/
theorem VS.turn (h : VS X l A c ll m S ct w) {s : Int} {v : Value} {ks : List Nat} (hm : m s = some v) (hg : w.grownBy w' v.ownBlock) (hk : ks ≠ []) (hp : ks.Perm (ct s)) (ho : Own intC M0 w' X.b0 3 v (ks.map fun (j : Nat) => (j : Int))) :
    VS X l A c ll m S (fun s' => if s' = s then ks else ct s') w' := by
  have hs : ct s ≠ [] := fun e => by rw [h.miss s e] at hm; cases hm
  have hne : ∀ b, X.has b → some b ≠ v.ownBlock := fun b hb e => (h.far s v b hm e.symm).2 hb
  have hbase : ∀ b, v.ownBlock = some b → X.b0 ≤ b := ho.base
  exact {
    bz := Nat.le_trans h.bz hg.size
    b1 := h.b1.keep (hg.block _ h.b1.lt (hne _ (.inl rfl)))
    b2 := h.b2.keep (hg.block _ h.b2.lt (hne _ (.inr (.inl rfl))))
    b3 := h.b3.keep (hg.block _ h.b3.lt (hne _ (.inr (.inr (.inl rfl)))))
    b6 := h.b6.keep (hg.block _ h.b6.lt (hne _ (.inr (.inr (.inr (.inl rfl))))))
    mp := h.mp.keep (hg.block _ h.mp.lt (hne _ (.inr (.inr (.inr (.inr rfl))))))
    lt := h.lt.keep (fun b hb hn => hg.block b hb fun e => hn (.inr (hbase b e.symm))) hg.size
    fix := h.fix
    bnd := fun b hS => Nat.lt_of_lt_of_le (h.bnd b hS) hg.size
    miss := fun s' hs' => by
      by_cases e : s' = s
      · rw [if_pos e] at hs'; exact absurd hs' hk
      · rw [if_neg e] at hs'; exact h.miss s' hs'
    row := fun s' hs' => by
      by_cases e : s' = s
      · subst e
        rw [if_pos rfl]
        exact ⟨v, hm, ho⟩
      · rw [if_neg e] at hs' ⊢
        obtain ⟨v', h1, h2⟩ := h.row s' hs'
        exact ⟨v', h1, h2.flatI fun b hb => hg.block b (h2.lt b hb) fun e' => h.apart s' s v' v h1 hm e b hb e'.symm⟩
    far := h.far
    apart := h.apart
    perm := fun s' => by
      by_cases e : s' = s
      · subst e
        rw [if_pos rfl]
        exact hp.trans (h.perm s')
      · rw [if_neg e]
        exact h.perm s' }
theorem Kept.grownBy {n r : Nat} (hg : w.grownBy w' (some r)) (hn : n ≤ r) (hS : ¬ S r) : Kept n S w w' :=
  ⟨hg.os, hg.tape, hg.output, hg.size, fun b hb hor => hg.block b hb fun e => by
    injection e with e
    subst e
    rcases hor with h1 | h1
    · omega
    · exact hS h1⟩
end
end Go.Proofs.Ytclobnojpmgmaaa
