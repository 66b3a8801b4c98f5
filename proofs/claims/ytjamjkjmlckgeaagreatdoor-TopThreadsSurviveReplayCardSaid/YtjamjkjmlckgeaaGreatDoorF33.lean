/-
  Contracts and plain facts, one after another: What the visits of shown keep: the children map, its rows, the captured boxes; slices.SortFunc at the row of one letter's answers, as a row of ints; The visit of one letter's answers; The step of the children map.
-/
import Derived.Test.YtjamjkjmlckgeaaGreatDoorF32
import Derived.Test.YtjamjkjmlckgeaaGreatDoorF3
import Derived.Test.YtjamjkjmlckgeaaGreatDoorF4
import Derived.Stop.RegionWithIn
import Derived.OwnWalkIn
import Derived.TacticsInMore
import Derived.LoopNIn
import Derived.LoopIn
namespace Go.Proofs.YtjamjkjmlckgeaaGreatDoor
open Go.RowKit
set_option linter.unusedVariables false
theorem ints_of_els {M : Nat → Prop} {w : World} {xs : List Value} {l : List Int} (h : Els intC M w xs l) : xs = l.map (Value.int .i64) := by
  have hn : intC.n = 1 := rfl
  have hl := h.1
  rw [hn, Nat.mul_one] at hl
  refine List.ext_getElem (by simpa using hl) fun i h1 h2 => ?_
  have hi : i < l.length := by omega
  have h3 := (h.2 i hi).1
  rw [hn, Nat.mul_one] at h3
  have h4 : ((xs.drop i).take 1)[0]? = some (Value.int .i64 l[i]) := by rw [h3]; rfl
  rw [List.getElem?_take_of_lt (by omega), List.getElem?_drop, Nat.add_zero, List.getElem?_eq_getElem h1] at h4
  injection h4 with h4
  rw [h4]; simp
theorem els_ints (M : Nat → Prop) (w : World) : ∀ (l : List Int), (∀ x ∈ l, -9223372036854775808 ≤ x ∧ x ≤ 9223372036854775807) → Els intC M w (l.map (Value.int .i64)) l
  | [], _ => Els.nil _ _ _
  | x :: l, h => (Els.single (C := intC) (cs := [Value.int .i64 x]) ⟨rfl, h x List.mem_cons_self⟩).append (els_ints M w l fun y hy => h y (List.mem_cons_of_mem _ hy))
theorem SlR.chg {α : Type} {C : Codec α} {S S' : Nat → Prop} {w w' : World} {v : Value} {l : List α} (h : SlR C S w v l) (hc : Chg S S' w w') : SlR C S' w' v l :=
  (h.sub (M' := fun b => S b ∨ S' b) fun b hb hor => hor.elim id fun h' => (hc.own b h').2.elim id fun h2 => by omega).keep (fun b hb hn => hc.same b hb fun h' => hn (.inl h')) hc.size |>.sub fun _ _ h' => .inr h'
theorem Blk.chg {S S' : Nat → Prop} {w w' : World} {g : Nat} {t : TypeId} {cs : Array Value} (h : Blk w g t cs) (hS : ¬ S g) (hc : Chg S S' w w') : Blk w' g t cs ∧ ¬ S' g :=
  ⟨h.keep (hc.same g h.lt hS), fun h' => (hc.own g h').2.elim hS fun h2 => by have := h.lt; omega⟩
theorem Own.flatI {M M' : Nat → Prop} {w w' : World} {B : Nat} {e : TypeId} {v : Value} {l : List Int} (h : Own intC M w B e v l) (hk : ∀ b, v.ownBlock = some b → w'.heap[b]? = w.heap[b]?) : Own intC M' w' B e v l := by
  obtain ⟨xs, ho, he⟩ := h
  refine ⟨xs, ⟨ho.1, ?_⟩, ⟨he.1, fun i hi => he.2 i hi⟩⟩
  rcases ho.2 with hn | ⟨g, cap, cur, rfl, hb, hg, rest⟩
  · exact .inl hn
  · exact .inr ⟨g, cap, cur, rfl, hb, (hk g rfl).trans hg, rest⟩
/-- a part of a list, from place k on -/
def PartAt {α : Type} (xs : List α) (k : Nat) (part : List α) : Prop := ∃ suf, xs.drop k = part ++ suf
theorem PartAt.head {α : Type} {xs : List α} {k : Nat} {x : α} {t : List α} (h : PartAt xs k (x :: t)) : ∃ hk : k < xs.length, xs[k] = x ∧ PartAt xs (k + 1) t := by
  obtain ⟨suf, h⟩ := h
  have hk : k < xs.length := by
    have := congrArg List.length h
    rw [List.length_drop, List.length_append, List.length_cons] at this
    omega
  rw [List.drop_eq_getElem_cons hk, List.cons_append] at h
  injection h with h1 h2
  exact ⟨hk, h1, suf, h2⟩
theorem PartAt.fst {α : Type} {xs : List α} {k : Nat} {a b : List α} (h : PartAt xs k (a ++ b)) : PartAt xs k a := by
  obtain ⟨suf, h⟩ := h
  exact ⟨b ++ suf, by rw [h, List.append_assoc]⟩
theorem PartAt.snd {α : Type} {xs : List α} {k : Nat} {a b : List α} (h : PartAt xs k (a ++ b)) : PartAt xs (k + a.length) b := by
  obtain ⟨suf, h⟩ := h
  exact ⟨suf, by rw [← List.drop_drop, h, List.append_assoc, List.drop_left]⟩
/-- the places of the boxes: letters, yield, map, self, the map's block; the first place of the iterator's own -/
structure Bx where
  q1 : Nat
  q2 : Nat
  q3 : Nat
  q6 : Nat
  bm : Nat
  b0 : Nat
def Bx.has (X : Bx) (b : Nat) : Prop := b = X.q1 ∨ b = X.q2 ∨ b = X.q3 ∨ b = X.q6 ∨ b = X.bm
/-- what the visits read and keep -/
structure VS (X : Bx) (l : List Letter) (A : Option Addr) (c ll : Nat) (m : Int → Option Value) (S : Nat → Prop) (ct : Int → List Nat) (w : World) : Prop where
  bz : X.b0 ≤ w.heap.size
  b1 : Blk w X.q1 57 #[.slice A l.length c]
  b2 : Blk w X.q2 145 #[.func (.yield ll) #[] #[]]
  b3 : Blk w X.q3 146 #[.map (some X.bm)]
  b6 : Blk w X.q6 145 #[.func (.func 74) #[] #[.pointer (some ⟨X.q3, 0, none⟩), .pointer (some ⟨X.q1, 0, none⟩), .pointer (some ⟨X.q2, 0, none⟩), .pointer (some ⟨X.q6, 0, none⟩)]]
  mp : MapAt (.int .i64) intK w X.bm m
  lt : SlR letterC (fun b => S b ∨ X.b0 ≤ b) w (.slice A l.length c) l
  fix : ∀ b, X.has b → ¬ S b
  bnd : ∀ b, S b → b < w.heap.size
  miss : ∀ s, ct s = [] → m s = none
  row : ∀ s, ct s ≠ [] → ∃ v, m s = some v ∧ Own intC M0 w X.b0 3 v ((ct s).map fun (j : Nat) => (j : Int))
  far : ∀ s v b, m s = some v → v.ownBlock = some b → ¬ S b ∧ ¬ X.has b
  apart : ∀ s s' v v', m s = some v → m s' = some v' → s ≠ s' → ∀ b, v.ownBlock = some b → v'.ownBlock ≠ some b
  perm : ∀ s, (ct s).Perm (Th.kids l s)
section
variable {X : Bx} {l : List Letter} {A : Option Addr} {c ll : Nat} {m : Int → Option Value} {S S' : Nat → Prop} {ct : Int → List Nat} {w w' : World}
theorem VS.ext (h : VS X l A c ll m S ct w) (hb : Below w.heap.size w w') : VS X l A c ll m S ct w' where
  bz := Nat.le_trans h.bz hb.size
  b1 := h.b1.ext hb
  b2 := h.b2.ext hb
  b3 := h.b3.ext hb
  b6 := h.b6.ext hb
  mp := h.mp.ext hb
  lt := h.lt.ext hb
  fix := h.fix
  bnd b hS := Nat.lt_of_lt_of_le (h.bnd b hS) hb.size
  miss := h.miss
  row s hs := by obtain ⟨v, h1, h2⟩ := h.row s hs; exact ⟨v, h1, h2.ext hb⟩
  far := h.far
  apart := h.apart
  perm := h.perm
theorem VS.own_lt (h : VS X l A c ll m S ct w) {s : Int} {v : Value} {b : Nat} (hm : m s = some v) (hv : v.ownBlock = some b) : b < w.heap.size := by
  have hs : ct s ≠ [] := fun e => by rw [h.miss s e] at hm; cases hm
  obtain ⟨v', h1, h2⟩ := h.row s hs
  rw [hm] at h1
  injection h1 with h1
  subst h1
  exact h2.lt b hv
theorem VS.chg (h : VS X l A c ll m S ct w) (hc : Chg S S' w w') : VS X l A c ll m S' ct w' where
  bz := Nat.le_trans h.bz hc.size
  b1 := (h.b1.chg (h.fix _ (.inl rfl)) hc).1
  b2 := (h.b2.chg (h.fix _ (.inr (.inl rfl))) hc).1
  b3 := (h.b3.chg (h.fix _ (.inr (.inr (.inl rfl)))) hc).1
  b6 := (h.b6.chg (h.fix _ (.inr (.inr (.inr (.inl rfl))))) hc).1
  mp := h.mp.keep (hc.same _ h.mp.lt (h.fix _ (.inr (.inr (.inr (.inr rfl))))))
  lt := by
    refine (h.lt.keep (fun b hb hn => hc.same b hb fun hS => hn (.inl hS)) hc.size).sub fun b _ hor => ?_
    rcases hor with hS | hB
    · rcases (hc.own b hS).2 with h1 | h1
      · exact .inl h1
      · exact .inr (Nat.le_trans h.bz h1)
    · exact .inr hB
  fix b hb hS' := by
    rcases (hc.own b hS').2 with h1 | h1
    · exact h.fix b hb h1
    · have hlt : b < w.heap.size := by
        rcases hb with e | e | e | e | e
        · exact e ▸ h.b1.lt
        · exact e ▸ h.b2.lt
        · exact e ▸ h.b3.lt
        · exact e ▸ h.b6.lt
        · exact e ▸ h.mp.lt
      omega
  bnd b hS := (hc.own b hS).1
  miss := h.miss
  row s hs := by
    obtain ⟨v, h1, h2⟩ := h.row s hs
    exact ⟨v, h1, h2.flatI fun b hb => hc.same b (h2.lt b hb) (h.far s v b h1 hb).1⟩
  far s v b hm hv := by
    obtain ⟨h1, h2⟩ := h.far s v b hm hv
    refine ⟨fun hS' => ?_, h2⟩
    rcases (hc.own b hS').2 with h3 | h3
    · exact h1 h3
    · have := h.own_lt hm hv
      omega
  apart := h.apart
  perm := h.perm
/-- the row of one parent is turned -/
theorem VS.turn (h : VS X l A c ll m S ct w) {s : Int} {v : Value} {ks : List Nat} (hm : m s = some v) (hg : w.grownBy w' v.ownBlock) (hk : ks ≠ []) (hp : ks.Perm (ct s)) (ho : Own intC M0 w' X.b0 3 v (ks.map fun (j : Nat) => (j : Int))) :
    VS X l A c ll m S (fun s' => if s' = s then ks else ct s') w' := by
  have hs : ct s ≠ [] := fun e => by rw [h.miss s e] at hm; cases hm
  have hne : ∀ b, X.has b → some b ≠ v.ownBlock := fun b hb e => (h.far s v b hm e.symm).2 hb
  have hbase : ∀ b, v.ownBlock = some b → X.b0 ≤ b := ho.base
  exact {
    bz := Nat.le_trans h.bz hg.size
    b1 := h.b1.keep (hg.block _ h.b1.lt (hne _ (.inl rfl)))
    b2 := h.b2.keep (hg.block _ h.b2.lt (hne _ (.inr (.inl rfl))))
    b3 := h.b3.keep (hg.block _ h.b3.lt (hne _ (.inr (.inr (.inl rfl)))))
    b6 := h.b6.keep (hg.block _ h.b6.lt (hne _ (.inr (.inr (.inr (.inl rfl))))))
    mp := h.mp.keep (hg.block _ h.mp.lt (hne _ (.inr (.inr (.inr (.inr rfl))))))
    lt := h.lt.keep (fun b hb hn => hg.block b hb fun e => hn (.inr (hbase b e.symm))) hg.size
    fix := h.fix
    bnd := fun b hS => Nat.lt_of_lt_of_le (h.bnd b hS) hg.size
    miss := fun s' hs' => by
      by_cases e : s' = s
      · rw [if_pos e] at hs'; exact absurd hs' hk
      · rw [if_neg e] at hs'; exact h.miss s' hs'
    row := fun s' hs' => by
      by_cases e : s' = s
      · subst e
        rw [if_pos rfl]
        exact ⟨v, hm, ho⟩
      · rw [if_neg e] at hs' ⊢
        obtain ⟨v', h1, h2⟩ := h.row s' hs'
        exact ⟨v', h1, h2.flatI fun b hb => hg.block b (h2.lt b hb) fun e' => h.apart s' s v' v h1 hm e b hb e'.symm⟩
    far := h.far
    apart := h.apart
    perm := fun s' => by
      by_cases e : s' = s
      · subst e
        rw [if_pos rfl]
        exact hp.trans (h.perm s')
      · rw [if_neg e]
        exact h.perm s' }
theorem Kept.grownBy {n r : Nat} (hg : w.grownBy w' (some r)) (hn : n ≤ r) (hS : ¬ S r) : Kept n S w w' :=
  ⟨hg.os, hg.tape, hg.output, hg.size, fun b hb hor => hg.block b hb fun e => by
    injection e with e
    subst e
    rcases hor with h1 | h1
    · omega
    · exact hS h1⟩
end
end Go.Proofs.YtjamjkjmlckgeaaGreatDoor
namespace Go.Proofs.YtjamjkjmlckgeaaGreatDoor
open Go.RowKit Go.Shelf Go.Lib Go.Sort
set_option linter.unusedVariables false
theorem sortKids_ok (l : List Letter) (hd : Distinct l) (A : Option Addr) (c q B : Nat) (v : Value) (ks : List Nat) (h0 : ks ≠ []) (hks : ∀ k ∈ ks, k < l.length) (w : World) (h : SlR letterC (fun b => B ≤ b) w (.slice A l.length c) l) (hq : w.cell? ⟨q, 0, none⟩ = some (.slice A l.length c)) (hqB : v.ownBlock ≠ some q) (hn : l.length ≤ 4000000) (hlen : ks.length ≤ 4000000)
    (hown : Own intC M0 w B 3 v (ks.map fun (k : Nat) => (k : Int))) :
    Calls Tryz.prog 75 #[v, .func (.func 76) #[] #[.pointer (some ⟨q, 0, none⟩)]] w fun e w' => e = .returned (.tuple #[]) ∧ w.grownBy w' v.ownBlock ∧ Own intC M0 w' B 3 v ((ks.mergeSort fun a b => !Th.later l b a).map fun (k : Nat) => (k : Int)) := by
  obtain ⟨d, hd1⟩ : ∃ d : List (Fin l.length), d.map (fun i => i.1) = ks := ⟨_, pmap_fst ks hks⟩
  subst hd1
  have hdl : 0 < d.length := by
    rcases Nat.eq_zero_or_pos d.length with e | e
    · exact absurd (by rw [List.eq_nil_of_length_eq_zero e]; rfl) h0
    · exact e
  have inst : Inhabited (Fin l.length) := ⟨d[0]⟩
  obtain ⟨xs, ho, hels⟩ := hown
  have hxs := ints_of_els hels
  have hln : ((d.map fun i => i.1).map fun (k : Nat) => (k : Int)).length = d.length := by simp
  obtain ⟨hol, hor⟩ := ho
  rcases hor with ⟨rfl, h1⟩ | ⟨g, cap, cur, rfl, hBg, hblk, hc1, hc2, hsz, htk⟩
  · rw [hln] at h1; omega
  · have hgq : q ≠ g := fun e => hqB (by rw [e]; rfl)
    have hn1 : intC.n = 1 := rfl
    rw [hn1] at hsz htk
    rw [hln] at hc1 htk ⊢
    rw [Nat.mul_one] at htk
    have hss : cur.toList.take ((d.map fun i => i.1).map fun (k : Nat) => (k : Int)).length = ((d.map fun i => i.1).map fun (k : Nat) => (k : Int)).map (Value.int .i64) := by rw [hln, htk, hxs]
    have hH : Holds (encI (n := l.length)) w g 0 d.toArray := by
      intro j hj
      have hj2 : j < d.length := by simpa using hj
      have h3 := holds_of_blockI (w := w) hblk hss j (by simpa using hj2)
      refine ⟨?_, h3.2⟩
      rw [h3.1]
      simp [encI, getElem!_pos, hj2]
    have hL : SlR letterC (fun b => b = g) w (.slice A l.length c) l := h.sub fun b _ e => by subst e; exact hBg
    have hdz : d.toArray.size = d.length := by simp
    have hmain := sortF_ok l hd A c q g cap d.toArray w hL hq hgq hn hH (Array.getElem?_eq_some_iff.1 hblk).1 (by simp only [List.length_map] at hlen; rw [hdz]; omega)
    rw [hdz] at hmain
    refine hmain.mono ?_
    rintro e w' ⟨rfl, n, os, rfl⟩
    have hsw : sortWorld (encI (n := l.length)) w g 0 n (d.mergeSort fun x y => !(ltOf (cfL l)) y x).toArray os = grow (putRow (Value.int .i64) (Sort.ahead w n) g 0 (((d.map fun i => i.1).mergeSort fun a b => !Th.later l b a).map fun (k : Nat) => (k : Int)).toArray) os := by
      unfold sortWorld
      rw [putRow_encI, ← sorted_map]
      simp
      rfl
    refine ⟨rfl, ?_, ?_⟩
    · rw [hsw]
      exact grownBy_sortedI _
    · rw [hsw]
      obtain ⟨ts, hts⟩ : ∃ ts, (((d.map fun i => i.1).mergeSort fun a b => !Th.later l b a).map fun (k : Nat) => (k : Int)) = ts := ⟨_, rfl⟩
      have htl : ts.length = d.length := by rw [← hts]; simp
      have hr := ownsRow_sortedI (n := n) (os := os) (base := B) (cap := cap) (e := 3) (w := w) (g := g) (cur := cur) (ss := ((d.map fun i => i.1).map fun (k : Nat) => (k : Int))) (ts := ts) (by rw [htl, hln]) hBg hblk (by rw [hln]; exact hc1) hc2 hsz
      rw [hln] at hr
      rw [hts]
      refine ⟨ts.map (Value.int .i64), by rw [htl]; exact hr, els_ints _ _ _ fun x hx => ?_⟩
      rw [← hts] at hx
      obtain ⟨k, hk, rfl⟩ := List.mem_map.1 hx
      have := hks k (List.mem_mergeSort.1 hk)
      omega
end Go.Proofs.YtjamjkjmlckgeaaGreatDoor
namespace Go.Proofs.YtjamjkjmlckgeaaGreatDoor
open Go.RowKit
set_option linter.unusedVariables false
def encP (x : Nat × Int) : Array Value := #[.int .i64 (x.1 : Int), .int .i64 x.2]
def kidsG (l : List Letter) (d : Int) (k : Nat) : List (Nat × Int) := (k, d) :: Th.shownA l (k : Int) (d + 1)
theorem kidsS_lt {l : List Letter} {p : Int} {k : Nat} (h : k ∈ Th.kidsS l p) : k < l.length := by
  have := (kidsS_mem l p k).1 h
  unfold Th.kids at this
  exact List.mem_range.1 (List.mem_filter.1 this).1
/-- how deep a visit may go -/
def DeepIn (l : List Letter) (p : Int) (n : Nat) : Prop := (p < 0 ∧ l.length < n) ∨ ∃ j : Nat, p = j ∧ j < l.length ∧ Th.rank l j < n
theorem DeepIn.kid {l : List Letter} (hd : Distinct l) {p : Int} {n k : Nat} (h : DeepIn l p (n + 1)) (hk : k ∈ Th.kidsS l p) : DeepIn l (k : Int) n := by
  have hkl := kidsS_lt hk
  refine .inr ⟨k, rfl, hkl, ?_⟩
  rcases h with ⟨_, h⟩ | ⟨j, rfl, hj, h⟩
  · have h1 : Th.rank l k < l.length := by
      refine Nat.lt_of_lt_of_le (Th.cnt_lt _ (fun _ => true) _ (fun _ _ _ => rfl) ⟨k, List.mem_range.2 hkl, ?_, rfl⟩) (Nat.le_trans (List.length_filter_le _ _) (by simp))
      unfold Th.later
      rw [List.getElem?_eq_getElem hkl]
      exact Th.earlier_irrefl _
    omega
  · obtain ⟨_, _, he⟩ := kid_later hd j k ((kidsS_mem l j k).1 hk)
    have := Th.rank_lt l j k hj hkl he
    omega
set_option maxRecDepth 100000 in
set_option maxHeartbeats 4000000 in
theorem visit_ok (l : List Letter) (hd : Distinct l) (hn : l.length ≤ 4000000) (X : Bx) (A : Option Addr) (c ll : Nat) (m : Int → Option Value) (xs : List (Nat × Int)) (J Jx : Nat → (Nat → Prop) → World → Prop) (n0 : Nat) (hn0 : n0 ≤ X.b0) (hq1 : X.q1 < X.b0)
    (hJ : ∀ k S W1 W2, J k S W1 → Kept n0 S W1 W2 → J k S W2) (hJx : ∀ k S W1 W2, Jx k S W1 → Kept n0 S W1 W2 → Jx k S W2)
    (hY : ∀ k (h : k < xs.length) S W1, J k S W1 → n0 ≤ W1.heap.size → YieldAt Fence.wide 0 Tryz.prog ll (encP xs[k]) W1 fun e W' => ∃ S', Chg S S' W1 W' ∧
      ((e = .returned (.bool true) ∧ J (k + 1) S' W') ∨ (e = .returned (.bool false) ∧ Jx (k + 1) S' W'))) :
    ∀ (n : Nat) (p d : Int) (k : Nat) (S : Nat → Prop) (ct : Int → List Nat) (w : World), DeepIn l p n → -1 ≤ p → 0 ≤ d → d + n ≤ 9000000 → VS X l A c ll m S ct w → J k S w → PartAt xs k (Th.shownA l p d) →
    CallsIn Fence.wide 0 Tryz.prog 74 #[.int .i64 p, .int .i64 d, .pointer (some ⟨X.q3, 0, none⟩), .pointer (some ⟨X.q1, 0, none⟩), .pointer (some ⟨X.q2, 0, none⟩), .pointer (some ⟨X.q6, 0, none⟩)] w fun e w' =>
      ∃ S' ct', VS X l A c ll m S' ct' w' ∧ (∀ s, ct' s = ct s ∨ ct' s = Th.kidsS l s) ∧
        ((e = .returned (.bool true) ∧ J (k + (Th.shownA l p d).length) S' w') ∨ (e = .returned (.bool false) ∧ ∃ k', Jx k' S' w')) := by
  have HY := Lib.hid hY; clear hY
  have HJ := Lib.hid hJ; clear hJ
  have HJx := Lib.hid hJx; clear hJx
  intro n
  induction n with
  | zero =>
    intro p d k S ct w hdp
    rcases hdp with ⟨_, h⟩ | ⟨_, _, _, h⟩ <;> omega
  | succ n ih =>
    intro p d k S ct w hdp hp1 hd0 hdn hvs hj hpart
    have hpl : p < 0 ∨ ∃ k : Nat, p = k ∧ k < l.length := by
      rcases hdp with ⟨h, _⟩ | ⟨j, h1, h2, _⟩
      · exact .inl h
      · exact .inr ⟨j, h1, h2⟩
    have hsh : Th.shownA l p d = (Th.kidsS l p).flatMap (kidsG l d) := shownA_eq hd p d hpl
    rw [hsh] at hpart ⊢
    obtain ⟨K, hK⟩ : ∃ K, Th.kidsS l p = K := ⟨_, rfl⟩
    rw [hK] at hpart ⊢
    have Ih := Lib.hid ih
    have Hpart := Lib.hid hpart
    have Hdp := Lib.hid hdp
    have HK := Lib.hid hK
    clear ih hpart hdp hK hsh
    have hF1 : Fence.wide.fn 75 := trivial
    have hF2 : Fence.wide.fn 74 := trivial
    have hF3 : Fence.wide.depth = none := rfl
    have hF4 : Fence.wide.round = none := rfl
    refine callsIn_of_wp Tryz.func74 rfl trivial ?_ rfl
    simp only [Tryz.ntmps74, List.size_toArray, List.length_cons, List.length_nil, Nat.reduceAdd, Nat.reduceSub, Array.replicate_succ, Array.replicate_zero, List.push_toArray, List.append_toArray, List.nil_append, List.cons_append]
    obtain ⟨c3, z3, s3⟩ := hvs.b3.one
    by_cases hct : ct p = []
    · have hm := hvs.miss p hct
      have hK0 : K = [] := by
        have h1 := hvs.perm p
        rw [hct] at h1
        have h2 : Th.kids l p = [] := h1.symm.eq_nil
        rw [← HK.out]; unfold Th.kidsS; rw [h2]; simp
      have hlk : ∀ ty : TypeId, ty = 146 → (Instr.lookup ty (.map (some X.bm)) (.int .i64 p) false).run Tryz.prog w = .ok (.slice none 0 0) w := fun ty e => by
        subst e
        exact hvs.mp.look_none Tryz.underlying146 Tryz.underlying3 (zero_ints w) (k := p) hm false
      have hlk2 := hlk 146 rfl
      have hsf := sortF_none none 0 (.func (.func 76) #[] #[.pointer (some ⟨X.q1, 0, none⟩)]) w
      have Hsf := Lib.hid hsf
      clear hlk hsf
      gi_wp2_with fail
      refine (callsIn_wide.2 Hsf.out).mono ?_
      rintro e w1 ⟨rfl, hw1⟩
      obtain rfl : w = w1 := hw1.symm
      gi_wp2
      gi_loopw [20] (fun i wr => i = .int .i64 0 ∧ wr = w) (fun i _ => 0)
      case atStart => exact ⟨rfl, rfl⟩
      case round =>
        obtain ⟨rfl, rfl⟩ := hrel
        gi_wp2
        refine bodyPost_ret (v := .bool true) (by simp [results, Tryz.results74, go_sem]) rfl ?_
        exact ⟨S, ct, hvs, fun _ => .inl rfl, .inl ⟨rfl, by rw [hK0]; exact hj⟩⟩
    · obtain ⟨v, hm, hown⟩ := hvs.row p hct
      have hlk : ∀ ty : TypeId, ty = 146 → (Instr.lookup ty (.map (some X.bm)) (.int .i64 p) false).run Tryz.prog w = .ok v w := fun ty e => by
        subst e
        exact hvs.mp.look_some Tryz.underlying146 Tryz.underlying3 (k := p) hm false
      have hlk2 := hlk 146 rfl
      have hlen : (ct p).length ≤ l.length := by
        rw [(hvs.perm p).length_eq]
        unfold Th.kids
        exact Nat.le_trans (List.length_filter_le _ _) (by simp)
      have hkm : ∀ j ∈ ct p, j < l.length := fun j hj => by
        have := (hvs.perm p).mem_iff.1 hj
        unfold Th.kids at this
        exact List.mem_range.1 (List.mem_filter.1 this).1
      have hsf := sortKids_ok l hd A c X.q1 X.b0 v (ct p) hct hkm w (hvs.lt.sub fun _ _ h => .inr h) hvs.b1.one.1 (fun e => (hvs.far p v _ hm e).2 (.inl rfl)) hn (by omega) hown
      rw [kidsS_perm hd (hvs.perm p), HK.out] at hsf
      obtain ⟨g, vc, hv, hNc, hcm, hBg⟩ : ∃ g vc, v = .slice (some ⟨g, 0, none⟩) ((ct p).map fun (j : Nat) => (j : Int)).length vc ∧ ((ct p).map fun (j : Nat) => (j : Int)).length ≤ vc ∧ vc ≤ maxLen ∧ X.b0 ≤ g := by
        rcases hown.form with ⟨_, h0⟩ | ⟨g, vc, hv, h1, h2, h3, _⟩
        · exact absurd (List.map_eq_nil_iff.1 h0) hct
        · exact ⟨g, vc, hv, h1, h2, h3⟩
      obtain ⟨N, hN⟩ : ∃ N, ((ct p).map fun (j : Nat) => (j : Int)).length = N := ⟨_, rfl⟩
      rw [hN] at hv hNc
      subst hv
      have hNl : N = (ct p).length := by rw [← hN]; simp
      have hNK : N = K.length := by
        rw [hNl, (hvs.perm p).length_eq, ← HK.out]
        exact (List.length_mergeSort _).symm
      have hKne : K ≠ [] := fun e => hct (List.eq_nil_of_length_eq_zero (by rw [← hNl, hNK, e]; rfl))
      have hKp : K.Perm (ct p) := by
        rw [← HK.out]
        exact (List.mergeSort_perm _ _).trans (hvs.perm p).symm
      have hKl : ∀ x ∈ K, x < l.length := fun x hx => kidsS_lt (by rw [HK.out]; exact hx)
      have hNn : N ≤ 4000000 := by omega
      have Hsf := Lib.hid hsf
      have HNK := Lib.hid hNK
      have HKl := Lib.hid hKl
      have Hm := Lib.hid hm
      have hgS : ¬ S g := (hvs.far p _ g hm rfl).1
      clear hlk hsf hN hNl hNK hKl hlen hkm
      gi_wp2_with fail
      refine (callsIn_wide.2 Hsf.out).mono ?_
      rintro e w1 ⟨rfl, hgr, hown2⟩
      have hvs1 := hvs.turn Hm.out hgr hKne hKp hown2
      have hj1 : J k S w1 := HJ.out _ _ _ _ hj (Kept.grownBy hgr (Nat.le_trans hn0 hBg) hgS)
      obtain ⟨ct1, hct1⟩ : ∃ ct1, (fun s' => if s' = p then K else ct s') = ct1 := ⟨_, rfl⟩
      have hc1 : ct1 p = K := by rw [← hct1]; exact if_pos rfl
      have hch1 : ∀ s, ct1 s = ct s ∨ ct1 s = Th.kidsS l s := fun s => by
        rw [← hct1]
        by_cases e : s = p
        · subst e; right; exact (if_pos rfl).trans HK.out.symm
        · left; exact if_neg e
      rw [hct1] at hvs1
      have Hc1 := Lib.hid hc1
      have Hch1 := Lib.hid hch1
      clear hct1 hc1 hch1 hown2 hgr hgS hvs hj c3 z3 s3 hlk2 hm Hsf hown hct hKp
      gi_wp2
      gi_loopw [20] (fun i wr => ∃ (j k2 : Nat) (S2 : Nat → Prop) (ct2 : Int → List Nat), i = .int .i64 (j : Int) ∧ VS X l A c ll m S2 ct2 wr ∧ Hid (ct2 p = K) ∧ Hid (∀ s, ct2 s = ct s ∨ ct2 s = Th.kidsS l s) ∧ J k2 S2 wr ∧
        Hid (PartAt xs k2 ((K.drop j).flatMap (kidsG l d))) ∧ Hid (k2 + ((K.drop j).flatMap (kidsG l d)).length = k + (K.flatMap (kidsG l d)).length) ∧ j ≤ N) (fun i _ => N - (intOf i).toNat)
      case atStart => exact ⟨0, k, S, ct1, rfl, hvs1, Hc1, Hch1, hj1, Hpart, Lib.hid rfl, Nat.zero_le _⟩
      case round =>
        clear hvs1 hj1 Hc1 Hch1
        obtain ⟨j, k2, S2, ct2, rfl, hvs2, hc2, hch2, hj2, hpart2, hlen2, hjN⟩ := hrel
        by_cases hjl : j < N
        · have hjK : j < K.length := by rw [← HNK.out]; exact hjl
          have hp2 := hpart2.out
          rw [List.drop_eq_getElem_cons hjK, List.flatMap_cons] at hp2
          have hl2 := hlen2.out
          rw [List.drop_eq_getElem_cons hjK, List.flatMap_cons, List.length_append] at hl2
          have hxl := HKl.out _ (List.getElem_mem hjK)
          have hxK : K[j] ∈ Th.kidsS l p := by rw [HK.out]; exact List.getElem_mem hjK
          obtain ⟨v', h1, ho⟩ := hvs2.row p (by rw [hc2.out]; exact hKne)
          rw [Hm.out] at h1
          injection h1 with h1
          subst h1
          rw [hc2.out] at ho
          obtain ⟨b, off, hA, _, _, hcx⟩ := ho.read0.intAt (k := j) (by simpa using hjK)
          injection hA with hA
          injection hA with hA1 hA2
          subst hA1 hA2
          rw [List.getElem_map, Nat.zero_add] at hcx
          obtain ⟨x, hx⟩ : ∃ x, K[j] = x := ⟨_, rfl⟩
          rw [hx] at hcx hp2 hl2 hxl hxK
          have hkg : kidsG l d x = (x, d) :: Th.shownA l (x : Int) (d + 1) := rfl
          rw [hkg] at hp2 hl2
          clear hkg
          rw [List.cons_append] at hp2
          obtain ⟨hk2, hxs, hp3⟩ := hp2.head
          have hp4 := hp3.fst
          have hp5 := hp3.snd
          have hdeep := Hdp.out.kid hd hxK
          have hy := HY.out k2 hk2 S2 wr hj2 (Nat.le_trans hn0 hvs2.bz)
          rw [hxs] at hy
          obtain ⟨fn, tmps, assign, body, hyy, hRR⟩ := hy
          dsimp only [encP] at hyy
          have Hp4 := Lib.hid hp4; have Hp5 := Lib.hid hp5; have Hdeep := Lib.hid hdeep; have Hl2 := Lib.hid hl2
          have HxK := Lib.hid hxK
          clear hp2 hp3 hp4 hp5 hdeep hl2 hxs hx hxK hpart2 hlen2 hjK
          have hjj : (j : Int) < (N : Int) := by omega
          have hj0 : (0 : Int) ≤ (j : Int) := by omega
          have hjw : IntKind.i64.wrap (j : Int) = (j : Int) := IntWalk.i64_in _ (by omega)
          have hdw : IntKind.i64.wrap (d + 1) = d + 1 := IntWalk.i64_in _ (by omega)
          obtain ⟨e2, z2, s2⟩ := hvs2.b2.one
          gi_wp2_with fail
          refine hRR.mono ?_
          rintro e w3 ⟨S3, hchg, hor3⟩
          obtain ⟨tt, rfl⟩ : ∃ tt, e = .returned (.bool tt) := hor3.elim (fun h => ⟨_, h.1⟩) (fun h => ⟨_, h.1⟩)
          have Hor3 := Lib.hid hor3
          have hvs3 := hvs2.chg hchg
          clear hor3 hyy hRR e2 z2 s2 hcx ho hvs2 hj2 hchg
          cases tt with
          | false =>
            have hx3 : Jx (k2 + 1) S3 w3 := Hor3.out.elim (fun h => by cases h.1) (fun h => h.2)
            gi_wp2
            refine ⟨fun f h => (by cases h), ?_⟩
            gi_wp2
            refine bodyPost_ret (v := .bool false) (by simp [results, Tryz.results74, go_sem]) rfl ?_
            exact ⟨S3, ct2, hvs3, hch2.out, .inr ⟨rfl, _, hx3⟩⟩
          | true =>
            have hj3 : J (k2 + 1) S3 w3 := Hor3.out.elim (fun h => h.2) (fun h => by cases h.1)
            have hrec := Ih.out (x : Int) (d + 1) (k2 + 1) S3 ct2 w3 Hdeep.out (by omega) (by omega) (by omega) hvs3 hj3 Hp4.out
            have Hrec := Lib.hid hrec
            clear hrec
            obtain ⟨e6, z6, s6⟩ := hvs3.b6.one
            gi_wp2_with fail
            refine Hrec.out.mono ?_
            rintro e w4 ⟨S4, ct4, hvs4, hch4, hor4⟩
            obtain ⟨tt, rfl⟩ : ∃ tt, e = .returned (.bool tt) := hor4.elim (fun h => ⟨_, h.1⟩) (fun h => ⟨_, h.1⟩)
            have Hor4 := Lib.hid hor4
            have Hch4 := Lib.hid hch4
            clear hor4 hch4 Hrec e6 z6 s6
            cases tt with
            | false =>
              gi_wp2
              refine bodyPost_ret (v := .bool false) (by simp [results, Tryz.results74, go_sem]) rfl ?_
              refine ⟨S4, ct4, hvs4, fun s => ?_, .inr ⟨rfl, Hor4.out.elim (fun h => by cases h.1) (fun h => h.2)⟩⟩
              rcases Hch4.out s with h | h
              · rw [h]; exact hch2.out s
              · exact .inr h
            | true =>
              have hj4 := Hor4.out.elim (fun h => h.2) (fun h => by cases h.1)
              gi_wp2
              go_roundw
              case rel =>
                refine ⟨j + 1, k2 + 1 + (Th.shownA l (x : Int) (d + 1)).length, S4, ct4, by go_num, hvs4, Lib.hid ?_, Lib.hid fun s => ?_, hj4, Hp5, Lib.hid ?_, by omega⟩
                · rcases Hch4.out p with h | h
                  · rw [h]; exact hc2.out
                  · rw [h]; exact HK.out
                · rcases Hch4.out s with h | h
                  · rw [h]; exact hch2.out s
                  · exact .inr h
                · have := Hl2.out
                  rw [List.length_cons] at this
                  omega
              case measure => simp [intOf]; omega
        · have hend : k2 = k + (K.flatMap (kidsG l d)).length := by
            have := hlen2.out
            rw [List.drop_of_length_le (by rw [← HNK.out]; omega)] at this
            simpa using this
          have Hend := Lib.hid hend
          clear hend
          gi_wp2
          refine bodyPost_ret (v := .bool true) (by simp [results, Tryz.results74, go_sem]) rfl ?_
          exact ⟨S2, ct2, hvs2, hch2.out, .inl ⟨rfl, by rw [← Hend.out]; exact hj2⟩⟩
end Go.Proofs.YtjamjkjmlckgeaaGreatDoor
namespace Go.Proofs.YtjamjkjmlckgeaaGreatDoor
open Go.RowKit
set_option linter.unusedVariables false
def rowOf (m : Int → Option Value) (s : Int) : Value := (m s).getD (.slice none 0 0)
theorem look_row {w : World} {b : Nat} {m : Int → Option Value} (hm : MapAt (.int .i64) intK w b m) (s : Int) : (Instr.lookup 146 (.map (some b)) (.int .i64 s) false).run Tryz.prog w = .ok (rowOf m s) w := by
  unfold rowOf
  cases h : m s with
  | none => exact hm.look_none Tryz.underlying146 Tryz.underlying3 (zero_ints w) (k := s) h false
  | some v => exact hm.look_some Tryz.underlying146 Tryz.underlying3 (k := s) h false
theorem KidRows.own {P : List Int} {k B : Nat} {w : World} {m : Int → Option Value} (h : KidRows P k B w m) (s : Int) : Own intC M0 w B 3 (rowOf m s) ((Th.kidsTo P k s).map fun (j : Nat) => (j : Int)) := by
  by_cases hs : Th.kidsTo P k s = []
  · unfold rowOf
    rw [h.miss s hs, hs]
    exact Own.nil _ _ _ _ _
  · obtain ⟨v, h1, h2⟩ := h.row s hs
    unfold rowOf
    rw [h1]
    exact h2
theorem KidRows.step {P : List Int} {k B bm : Nat} {w w1 w2 : World} {m : Int → Option Value} {s : Int} {v' : Value} {L : List Int} (h : KidRows P k B w m) (hs : P[k]? = some s) (hg : w.grownBy w1 (rowOf m s).ownBlock)
    (hL : L = (Th.kidsTo P k s).map (fun (j : Nat) => (j : Int)) ++ [(k : Int)]) (ho : Own intC M0 w1 B 3 v' L) (hf : v'.ownBlock = (rowOf m s).ownBlock ∨ ∃ f, v'.ownBlock = some f ∧ w.heap.size ≤ f) (hg2 : w1.grownBy w2 (some bm)) (hbm : bm < B) :
    KidRows P (k + 1) B w2 (updM m s v') := by
  have hself : Th.kidsTo P (k + 1) s = Th.kidsTo P k s ++ [k] := by rw [kidsTo_succ, hs]; simp
  have hoth : ∀ s', s' ≠ s → Th.kidsTo P (k + 1) s' = Th.kidsTo P k s' := fun s' hne => by
    rw [kidsTo_succ, hs]
    have : (some s == some s') = false := by simpa using fun e => hne e.symm
    rw [this]
    simp
  have hlt : ∀ s' v'', m s' = some v'' → ∀ b, v''.ownBlock = some b → b < w.heap.size ∧ B ≤ b := fun s' v'' hm b hb => by
    have hs' : Th.kidsTo P k s' ≠ [] := fun e => by rw [h.miss s' e] at hm; cases hm
    obtain ⟨v3, h1, h2⟩ := h.row s' hs'
    rw [hm] at h1
    injection h1 with h1
    subst h1
    exact ⟨h2.lt b hb, h2.base b hb⟩
  have hap : ∀ s' v'', s' ≠ s → m s' = some v'' → ∀ b, v''.ownBlock = some b → (rowOf m s).ownBlock ≠ some b := fun s' v'' hne hm b hb e => by
    cases hms : m s with
    | none =>
      unfold rowOf at e
      rw [hms] at e
      cases e
    | some v =>
      unfold rowOf at e
      rw [hms] at e
      exact h.apart s' s v'' v hm hms hne b hb e
  have hap' : ∀ s' v'', s' ≠ s → m s' = some v'' → ∀ b, v''.ownBlock = some b → v'.ownBlock ≠ some b := fun s' v'' hne hm b hb e => by
    rcases hf with h1 | ⟨f, h1, h2⟩
    · exact hap s' v'' hne hm b hb (h1 ▸ e)
    · rw [h1] at e
      injection e with e
      have := (hlt s' v'' hm b hb).1
      omega
  refine ⟨fun s' hs' => ?_, fun s' hs' => ?_, fun s1 s2 v1 v2 h1 h2 hne b hb => ?_⟩
  · by_cases e : s' = s
    · subst e
      rw [hself] at hs'
      simp at hs'
    · rw [hoth s' e] at hs'
      unfold updM
      rw [if_neg e]
      exact h.miss s' hs'
  · by_cases e : s' = s
    · subst e
      refine ⟨v', by unfold updM; rw [if_pos rfl], ?_⟩
      rw [hself, List.map_append, ← (show [(k : Int)] = [k].map (fun (j : Nat) => (j : Int)) from rfl), ← hL]
      exact ho.flatI fun b hb => hg2.block b (ho.lt b hb) fun e => by
        injection e with e
        have := ho.base b hb
        omega
    · rw [hoth s' e] at hs' ⊢
      obtain ⟨v'', h1, h2⟩ := h.row s' hs'
      refine ⟨v'', by unfold updM; rw [if_neg e]; exact h1, ?_⟩
      refine h2.flatI fun b hb => ?_
      have h3 := hlt s' v'' h1 b hb
      refine (hg2.block b (Nat.lt_of_lt_of_le h3.1 hg.size) fun e => ?_).trans (hg.block b h3.1 fun e' => hap s' v'' e h1 b hb e'.symm)
      injection e with e
      omega
  · unfold updM at h1 h2
    by_cases e1 : s1 = s
    · subst e1
      rw [if_pos rfl] at h1
      injection h1 with h1
      subst h1
      rw [if_neg (fun e => hne e.symm)] at h2
      intro e
      exact hap' s2 v2 (fun e => hne e.symm) h2 b e hb
    · rw [if_neg e1] at h1
      by_cases e2 : s2 = s
      · subst e2
        rw [if_pos rfl] at h2
        injection h2 with h2
        subst h2
        exact hap' s1 v1 e1 h1 b hb
      · rw [if_neg e2] at h2
        exact h.apart s1 s2 v1 v2 h1 h2 hne b hb
end Go.Proofs.YtjamjkjmlckgeaaGreatDoor
