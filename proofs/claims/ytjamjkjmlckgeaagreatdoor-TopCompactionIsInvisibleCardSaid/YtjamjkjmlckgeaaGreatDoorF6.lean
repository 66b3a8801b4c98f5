/-
  Contracts and plain facts, one after another: Values of fields; Lists of texts: HasText; Lists of texts: their type's numbers; Texts; Sorted lists of keys and values: look-up, insertion, removal; two of the same look-ups are one. No program is named here.
-/
import Derived.Test.YtjamjkjmlckgeaaGreatDoorF5
import Derived.Test.YtjamjkjmlckgeaaGreatDoorF1
import Derived.Test.YtjamjkjmlckgeaaGreatDoorF2
import Derived.IntWalk
import Derived.Outline
import Derived.Deep.QuietTactic
import Derived.BigQuiet
namespace Go.Proofs.YtjamjkjmlckgeaaGreatDoor
open Go.RowKit

set_option maxHeartbeats 1000000 in
theorem value_ok (s : Str) (hs : s.length ≤ 4000) (w : World) : Calls Tryz.prog 130 #[.string (bs s)] w fun e w' => e = .returned (.bool (Mb.valueF s)) ∧ Below w.heap.size w w' := by
  obtain ⟨E, hE⟩ : ∃ E, E = Mb.endsF s := ⟨_, rfl⟩
  have he := fun w => (ends_ok s hs w).mono fun e w' h => (⟨by rw [h.1, hE], h.2⟩ : e = .returned (.bool E) ∧ Below w.heap.size w w')
  have He := Lib.hid he
  have hv : Mb.valueF s = (!E && (s == [] || (!Mb.blank (s.headD 0) && !Mb.blank (s.getLastD 0)))) := by rw [hE]; rfl
  clear he hE
  cases E with
  | true =>
    have Hv := Lib.hid (show Mb.valueF s = false from hv)
    clear hv
    go_enter Tryz.func130, Tryz.ntmps130
    go_wp2_with fail
    refine (He.out _).mono ?_
    rintro e w1 ⟨rfl, hb⟩
    go_wp2
    go_ret
    exact ⟨by rw [Hv.out]; rfl, hb⟩
  | false =>
    by_cases h0 : s = []
    · subst h0
      go_enter Tryz.func130, Tryz.ntmps130
      go_wp2_with fail
      refine (He.out _).mono ?_
      rintro e w1 ⟨rfl, hb⟩
      go_wp2
      go_ret
      exact ⟨rfl, hb⟩
    · have hl : 0 < s.length := List.length_pos_iff.2 h0
      have h0' : s.isEmpty = false := by simpa using h0
      have h0'' : (s == []) = false := by simpa using h0
      have e1 : s.headD 0 = s[0] := by
        cases s with
        | nil => exact absurd rfl h0
        | cons a l => rfl
      have e2 : s.getLastD 0 = s[s.length - 1] := by
        rw [List.getLastD_eq_getLast?, List.getLast?_eq_getElem?, List.getElem?_eq_getElem (by omega)]
        rfl
      rw [h0'', e1, e2] at hv
      obtain ⟨p, hp⟩ : ∃ p, p = Mb.blank s[0] := ⟨_, rfl⟩
      obtain ⟨q, hq⟩ : ∃ q, q = Mb.blank s[s.length - 1] := ⟨_, rfl⟩
      rw [← hp, ← hq] at hv
      have b1 := fun w => (blank_ok s[0] w).mono fun e w' h => (⟨by rw [h.1, hp], h.2⟩ : e = .returned (.bool p) ∧ w = w')
      have b2 := fun w => (blank_ok s[s.length - 1] w).mono fun e w' h => (⟨by rw [h.1, hq], h.2⟩ : e = .returned (.bool q) ∧ w = w')
      have B1 := Lib.hid b1
      have B2 := Lib.hid b2
      have hsub : ((s.length : Int) - 1) = ((s.length - 1 : Nat) : Int) := by omega
      have hlt : s.length - 1 < s.length := by omega
      clear b1 b2 hp hq e1 e2 h0'' h0
      cases p with
      | true =>
        have Hv := Lib.hid (show Mb.valueF s = false from hv)
        clear hv
        go_enter Tryz.func130, Tryz.ntmps130
        go_wp2_with fail
        refine (He.out _).mono ?_
        rintro e w1 ⟨rfl, hb⟩
        go_wp2_with fail
        refine (B1.out _).mono ?_
        rintro e w2 ⟨rfl, rfl⟩
        go_wp2
        go_ret
        exact ⟨by rw [Hv.out]; rfl, hb⟩
      | false =>
        have Hv := Lib.hid (show Mb.valueF s = !q from hv)
        clear hv
        go_enter Tryz.func130, Tryz.ntmps130
        go_wp2_with fail
        refine (He.out _).mono ?_
        rintro e w1 ⟨rfl, hb⟩
        go_wp2_with fail
        refine (B1.out _).mono ?_
        rintro e w2 ⟨rfl, rfl⟩
        go_wp2_with fail
        refine (B2.out _).mono ?_
        rintro e w3 ⟨rfl, rfl⟩
        go_wp2
        go_ret
        exact ⟨by rw [Hv.out]; rfl, hb⟩
end Go.Proofs.YtjamjkjmlckgeaaGreatDoor
namespace Go.Proofs.YtjamjkjmlckgeaaGreatDoor
open Go.RowKit

def strOf : Value → Str
  | .string b => b.data.toList
  | _ => []
theorem SlR.lenM {α : Type} {C : Codec α} {M : Nat → Prop} {w : World} {A : Option Addr} {n c : Nat} {l : List α} (h : SlR C M w (.slice A n c) l) : l.length ≤ c ∧ c ≤ 9223372036854775807 := by
  obtain ⟨A2, c2, e, h1, h2⟩ := h.form
  cases e
  exact ⟨h1, h2⟩

theorem anyL_true {α : Type} (s : List α) (p : α → Bool) (i : Nat) (hi : i < s.length) (h : p s[i] = true) : s.any p = true := by
  rw [List.any_eq_true]
  exact ⟨_, List.getElem_mem hi, h⟩
theorem any_true (s : List Str) (p : Str → Bool) (i : Nat) (hi : i < s.length) (h : p s[i] = true) : s.any p = true := by
  rw [List.any_eq_true]
  exact ⟨_, List.getElem_mem hi, h⟩
theorem any_false {α : Type} (s : List α) (p : α → Bool) (h : ∀ (i : Nat) (hi : i < s.length), p s[i] = false) : s.any p = false := by
  rw [List.any_eq_false]
  intro x hx
  obtain ⟨i, hi, rfl⟩ := List.mem_iff_getElem.1 hx
  rw [h i hi]; simp

end Go.Proofs.YtjamjkjmlckgeaaGreatDoor
namespace Go.Proofs.YtjamjkjmlckgeaaGreatDoor
open Go.RowKit
theorem TStrs : SlT Tryz.prog 1 99 9 16 := SlT.mk' Tryz.underlying99 (by kernel_rfl : (Tryz.prog.info? 9).map (fun i => (i.zero, i.size, i.bytes)) = some (some (.string ⟨#[]⟩), 1, 16)) rfl
theorem oneStr : ∀ i z, Tryz.prog.info? 9 = some i → i.zero = some z → ∀ u ∈ z.cells.toList, u.oneCell' = true := by
  intro i z hi hz
  have h : (Tryz.prog.info? 9).map (fun i => i.zero) = some (some (.string ⟨#[]⟩)) := by kernel_rfl
  rw [hi] at h
  simp only [Option.map_some, Option.some.injEq] at h
  rw [hz] at h
  injection h with h
  subst h
  decide
theorem take_get {α : Type} (l : List α) (k : Nat) (h : k < l.length) : l.take (k + 1) = l.take k ++ [l[k]] := List.take_succ_eq_append_getElem h

theorem Own.flat {M M' : Nat → Prop} {w w' : World} {B : Nat} {e : TypeId} {v : Value} {l : List Str} (h : Own strC M w B e v l) (hk : ∀ b, v.ownBlock = some b → w'.heap[b]? = w.heap[b]?) : Own strC M' w' B e v l := by
  obtain ⟨xs, ho, he⟩ := h
  refine ⟨xs, ⟨ho.1, ?_⟩, ⟨he.1, fun i hi => he.2 i hi⟩⟩
  rcases ho.2 with hn | ⟨g, cap, cur, rfl, hb, hg, rest⟩
  · exact .inl hn
  · exact .inr ⟨g, cap, cur, rfl, hb, (hk g rfl).trans hg, rest⟩
def Apart (u v : Value) : Prop := ∀ b, u.ownBlock = some b → v.ownBlock ≠ some b
end Go.Proofs.YtjamjkjmlckgeaaGreatDoor
namespace Go.Proofs.YtjamjkjmlckgeaaGreatDoor
namespace Al
/-- a strict order in which any two keys are compared -/
structure Tot {K : Type} (lt : K → K → Bool) : Prop where
  irrefl : ∀ a, lt a a = false
  trans : ∀ a b c, lt a b = true → lt b c = true → lt a c = true
  total : ∀ a b, lt a b = false → lt b a = false → a = b
variable {K V : Type} {lt : K → K → Bool}
theorem Tot.asymm (h : Tot lt) {a b : K} (hab : lt a b = true) : lt b a = false := by
  cases hb : lt b a with
  | false => rfl
  | true => have := h.trans _ _ _ hab hb; rw [h.irrefl] at this; cases this
theorem Tot.ne (h : Tot lt) {a b : K} (hab : lt a b = true) : a ≠ b := by
  intro e
  subst e
  rw [h.irrefl] at hab
  cases hab
def Sorted (lt : K → K → Bool) (l : List (K × V)) : Prop := l.Pairwise fun a b => lt a.1 b.1 = true
theorem sorted_filter {l : List (K × V)} (hs : Sorted lt l) (p : K × V → Bool) : Sorted lt (l.filter p) := List.Pairwise.sublist List.filter_sublist hs
theorem sorted_map {W : Type} (g : V → W) {l : List (K × V)} (hs : Sorted lt l) : Sorted lt (l.map fun p => (p.1, g p.2)) := by
  unfold Sorted
  rw [List.pairwise_map]
  exact hs
variable [DecidableEq K]
def look : List (K × V) → K → Option V
  | [], _ => none
  | p :: l, k => if p.1 = k then some p.2 else look l k
theorem look_none {l : List (K × V)} {k : K} (h : ∀ p ∈ l, p.1 ≠ k) : look l k = none := by
  induction l with
  | nil => rfl
  | cons p l ih =>
    rw [look, if_neg (h p List.mem_cons_self)]
    exact ih fun q hq => h q (List.mem_cons_of_mem _ hq)
theorem look_mem {l : List (K × V)} {k : K} {v : V} (h : look l k = some v) : (k, v) ∈ l := by
  induction l with
  | nil => cases h
  | cons p l ih =>
    rw [look] at h
    split at h
    · rename_i e
      injection h with h
      have : p.1 = k := e
      rw [← this, ← h]
      exact List.mem_cons_self
    · exact List.mem_cons_of_mem _ (ih h)
theorem look_of_mem (ht : Tot lt) {l : List (K × V)} (hs : Sorted lt l) {k : K} {v : V} (h : (k, v) ∈ l) : look l k = some v := by
  induction l with
  | nil => cases h
  | cons p l ih =>
    unfold Sorted at hs
    rw [List.pairwise_cons] at hs
    rw [look]
    rcases List.mem_cons.1 h with e | e
    · subst e; simp
    · have := ht.ne (hs.1 _ e)
      rw [if_neg this]
      exact ih hs.2 e
theorem look_none_iff {l : List (K × V)} {k : K} : look l k = none ↔ ∀ p ∈ l, p.1 ≠ k := by
  refine ⟨fun h p hp e => ?_, look_none⟩
  induction l with
  | nil => cases hp
  | cons q l ih =>
    rw [look] at h
    split at h
    · cases h
    · rename_i e2
      rcases List.mem_cons.1 hp with e3 | e3
      · subst e3; exact e2 e
      · exact ih h e3
/-- one of the same look-ups -/
theorem ext (ht : Tot lt) : ∀ {l l' : List (K × V)}, Sorted lt l → Sorted lt l' → (∀ k, look l k = look l' k) → l = l'
  | [], [], _, _, _ => rfl
  | [], p :: l', _, _, h => by have := h p.1; simp [look] at this
  | p :: l, [], _, _, h => by have := h p.1; simp [look] at this
  | p :: l, q :: l', hs, hs', h => by
    have hs0 := hs
    have hs0' := hs'
    unfold Sorted at hs hs'
    rw [List.pairwise_cons] at hs hs'
    have hpq : p.1 = q.1 := by
      apply ht.total
      · cases hlt : lt p.1 q.1 with
        | false => rfl
        | true =>
          exfalso
          have h1 := h p.1
          rw [look_of_mem ht hs0 (show (p.1, p.2) ∈ p :: l from List.mem_cons_self)] at h1
          have h2 := look_mem h1.symm
          rcases List.mem_cons.1 h2 with e | e
          · exact ht.ne hlt (by rw [← e])
          · have := ht.asymm (hs'.1 _ e); simp only at this; rw [hlt] at this; cases this
      · cases hlt : lt q.1 p.1 with
        | false => rfl
        | true =>
          exfalso
          have h1 := h q.1
          rw [look_of_mem ht hs0' (show (q.1, q.2) ∈ q :: l' from List.mem_cons_self)] at h1
          have h2 := look_mem h1
          rcases List.mem_cons.1 h2 with e | e
          · exact ht.ne hlt (by rw [← e])
          · have := ht.asymm (hs.1 _ e); simp only at this; rw [hlt] at this; cases this
    have hv : p.2 = q.2 := by
      have h1 := h p.1
      rw [look, look, hpq] at h1
      simpa using h1
    have : p = q := Prod.ext hpq hv
    subst this
    congr 1
    refine ext ht hs.2 hs'.2 fun k => ?_
    have h1 := h k
    rw [look, look] at h1
    split at h1
    · rename_i e
      have e' : p.1 = k := e
      rw [look_none fun r hr e2 => ht.ne (hs.1 r hr) (e'.trans e2.symm), look_none fun r hr e2 => ht.ne (hs'.1 r hr) (e'.trans e2.symm)]
    · exact h1
/-- the value at a key is made anew -/
def upd (lt : K → K → Bool) (f : Option V → V) (k : K) : List (K × V) → List (K × V)
  | [] => [(k, f none)]
  | p :: l => if lt p.1 k then p :: upd lt f k l else if p.1 = k then (k, f (some p.2)) :: l else (k, f none) :: p :: l
theorem key_upd {f : Option V → V} {k : K} {l : List (K × V)} {q : K × V} (h : q ∈ upd lt f k l) : q.1 = k ∨ q ∈ l := by
  induction l with
  | nil => simp [upd] at h; subst h; exact .inl rfl
  | cons p l ih =>
    rw [upd] at h
    split at h
    · rcases List.mem_cons.1 h with e | e
      · exact .inr (e ▸ List.mem_cons_self)
      · exact (ih e).imp id fun h => List.mem_cons_of_mem _ h
    · split at h
      · rcases List.mem_cons.1 h with e | e
        · subst e; exact .inl rfl
        · exact .inr (List.mem_cons_of_mem _ e)
      · rcases List.mem_cons.1 h with e | e
        · subst e; exact .inl rfl
        · exact .inr e
theorem sorted_upd (ht : Tot lt) {f : Option V → V} {k : K} {l : List (K × V)} (hs : Sorted lt l) : Sorted lt (upd lt f k l) := by
  induction l with
  | nil => unfold Sorted; simp [upd]
  | cons p l ih =>
    have hs0 := hs
    unfold Sorted at hs
    rw [List.pairwise_cons] at hs
    rw [upd]
    unfold Sorted
    split
    · rename_i hlt
      refine List.pairwise_cons.2 ⟨fun q hq => ?_, ih hs.2⟩
      rcases key_upd hq with e | e
      · rw [e]; exact hlt
      · exact hs.1 _ e
    · rename_i hlt
      split
      · rename_i e
        have e' : p.1 = k := e
        exact List.pairwise_cons.2 ⟨fun q hq => by rw [← e']; exact hs.1 q hq, hs.2⟩
      · rename_i e
        have hkp : lt k p.1 = true := by
          cases h : lt k p.1 with
          | true => rfl
          | false => exact absurd (ht.total _ _ (by simpa using hlt) h) e
        refine List.pairwise_cons.2 ⟨fun q hq => ?_, hs0⟩
        rcases List.mem_cons.1 hq with e2 | e2
        · rw [e2]; exact hkp
        · exact ht.trans _ _ _ hkp (hs.1 _ e2)
theorem look_upd (ht : Tot lt) {f : Option V → V} {k : K} {l : List (K × V)} (hs : Sorted lt l) (k' : K) : look (upd lt f k l) k' = if k' = k then some (f (look l k)) else look l k' := by
  induction l with
  | nil =>
    rw [upd, look]
    by_cases h : k' = k
    · subst h; simp [look]
    · have : ¬ k = k' := fun e => h e.symm
      simp [look, h, this]
  | cons p l ih =>
    have hs0 := hs
    unfold Sorted at hs
    rw [List.pairwise_cons] at hs
    rw [upd]
    split
    · rename_i hlt
      have hne := ht.ne hlt
      have e1 : ¬ p.1 = k := hne
      rw [look, ih hs.2]
      by_cases h : k' = k
      · subst h
        simp [look, e1]
      · simp only [h, if_false, look]
    · rename_i hlt
      split
      · rename_i e
        have e' : p.1 = k := e
        rw [look]
        by_cases h : k' = k
        · subst h
          simp [look, e]
        · have h2 : ¬ k = k' := fun e => h e.symm
          have h3 : ¬ p.1 = k' := by rw [e']; exact h2
          simp [look, h, h2, h3]
      · rename_i e
        have hkp : lt k p.1 = true := by
          cases h : lt k p.1 with
          | true => rfl
          | false => exact absurd (ht.total _ _ (by simpa using hlt) h) e
        have hn : look (p :: l) k = none := look_none fun q hq e2 => by
          rcases List.mem_cons.1 hq with e3 | e3
          · subst e3; exact ht.ne hkp e2.symm
          · exact ht.ne (ht.trans _ _ _ hkp (hs.1 _ e3)) e2.symm
        rw [look, hn]
        by_cases h : k' = k
        · subst h; simp
        · have h2 : ¬ k = k' := fun e => h e.symm
          simp [h, h2]
theorem look_filter (ht : Tot lt) {l : List (K × V)} (hs : Sorted lt l) (p : K × V → Bool) (k : K) : look (l.filter p) k = (look l k).bind fun v => if p (k, v) then some v else none := by
  cases h : look l k with
  | none =>
    rw [look_none_iff] at h
    exact look_none fun q hq => h q (List.mem_filter.1 hq).1
  | some v =>
    have hm := look_mem h
    show _ = if p (k, v) then some v else none
    split
    · rename_i hp
      exact look_of_mem ht (sorted_filter hs p) (List.mem_filter.2 ⟨hm, hp⟩)
    · rename_i hp
      refine look_none fun q hq e => hp ?_
      obtain ⟨h1, h2⟩ := List.mem_filter.1 hq
      have h3 := look_of_mem ht hs (show (q.1, q.2) ∈ l from h1)
      rw [e, h] at h3
      injection h3 with h3
      rw [h3, ← e]
      exact h2
/-- values turned in place -/
theorem look_map {W : Type} (g : V → W) (l : List (K × V)) (k : K) : look (l.map fun p => (p.1, g p.2)) k = (look l k).map g := by
  induction l with
  | nil => rfl
  | cons p l ih =>
    rw [List.map_cons, look, look, ih]
    split <;> rfl
/-- upd by a position: what stands ahead of it is smaller, what stands there and behind is not -/
theorem upd_at (ht : Tot lt) {f : Option V → V} {k : K} : ∀ {l : List (K × V)}, Sorted lt l → ∀ (i : Nat), i ≤ l.length → (∀ (m : Nat) (h : m < l.length), m < i → lt l[m].1 k = true) → (∀ (h : i < l.length), lt l[i].1 k = false) →
    upd lt f k l = l.take i ++ (match l[i]? with | some p => if p.1 = k then (k, f (some p.2)) :: l.drop (i + 1) else (k, f none) :: l.drop i | none => [(k, f none)])
  | [], _, i, hi, _, _ => by
    have : i = 0 := by simpa using hi
    subst this
    simp [upd]
  | p :: l, hs, 0, _, _, h2 => by
    have h3 := h2 (by simp)
    simp only [List.getElem_cons_zero] at h3
    rw [upd, if_neg (by rw [h3]; simp)]
    simp
  | p :: l, hs, i + 1, hi, h1, h2 => by
    have h3 := h1 0 (by simp) (by omega)
    simp only [List.getElem_cons_zero] at h3
    unfold Sorted at hs
    rw [List.pairwise_cons] at hs
    rw [upd, if_pos h3, upd_at ht hs.2 i (by simpa using hi) (fun m hm hmi => h1 (m + 1) (by simpa using hm) (by omega)) (fun h => h2 (by simpa using h))]
    simp
end Al
theorem tot_int : Al.Tot (fun a b : Int => decide (a < b)) where
  irrefl a := by simp
  trans a b c h1 h2 := by simp at h1 h2 ⊢; omega
  total a b h1 h2 := by simp at h1 h2; omega
theorem tot_str : Al.Tot ltS where
  irrefl := ltS_irrefl
  trans a b c := ltS_trans
  total a b h1 h2 := by
    rcases ltS_total a b with h | h | h
    · rw [h] at h1; cases h1
    · exact h
    · rw [h] at h2; cases h2
end Go.Proofs.YtjamjkjmlckgeaaGreatDoor
