/-
  Folders: has, with, few.
-/
import Derived.Test.YtinmpjhmbciapaaDoorFoA
import Derived.Test.YtinmpjhmbciapaaDoorStB
import Derived.Test.YtinmpjhmbciapaaDoorStD
namespace Go.Proofs.YtinmpjhmbciapaaDoor
open Go.RowKit

/-- What the search finds in a sorted list. -/
theorem cut_sorted {l : List Str} {x : Str} {k : Nat} (hl : SortedS l) (hk : k ≤ l.length) (h1 : CutS l x k) (h2 : Cut2S l x k) :
    hitS l x k = decide (x ∈ l) ∧ insS l x = if hitS l x k then l else l.take k ++ x :: l.drop k := by
  have hA : ∀ y ∈ l.take k, ltS y x = true := fun y hy => by
    obtain ⟨i, hi, rfl⟩ := List.getElem_of_mem hy
    rw [List.length_take] at hi
    rw [List.getElem_take]
    have hlast := h1 (k - 1) (by omega) (by omega)
    by_cases e : i = k - 1
    · subst e; exact hlast
    · exact ltS_trans (List.pairwise_iff_getElem.1 hl i (k - 1) (by omega) (by omega) (by omega)) hlast
  have hC : ∀ y ∈ l.drop k, y = x ∨ ltS x y = true := fun y hy => by
    obtain ⟨i, hi, rfl⟩ := List.getElem_of_mem hy
    rw [List.length_drop] at hi
    rw [List.getElem_drop]
    have h3 := h2 (by omega)
    have h4 : l[k]'(by omega) = x ∨ ltS x (l[k]'(by omega)) = true := by
      rcases ltS_total (l[k]'(by omega)) x with h | h | h
      · rw [h3] at h; cases h
      · exact .inl h
      · exact .inr h
    by_cases e : i = 0
    · subst e; exact h4
    · have h5 := List.pairwise_iff_getElem.1 hl k (k + i) (by omega) (by omega) (by omega)
      rcases h4 with h4 | h4
      · right; rw [← h4]; exact h5
      · exact .inr (ltS_trans h4 h5)
  have hmem : x ∈ l ↔ ∃ (h : k < l.length), l[k] = x := by
    constructor
    · intro hx
      rw [← List.take_append_drop k l] at hx
      rcases List.mem_append.1 hx with hx | hx
      · have := hA x hx; rw [ltS_irrefl] at this; cases this
      · have hkl : k < l.length := by
          have := List.length_pos_of_mem hx
          rw [List.length_drop] at this; omega
        refine ⟨hkl, ?_⟩
        rw [List.drop_eq_getElem_cons hkl] at hx
        rcases List.mem_cons.1 hx with hx | hx
        · exact hx.symm
        · obtain ⟨i, hi, he⟩ := List.getElem_of_mem hx
          rw [List.length_drop] at hi
          rw [List.getElem_drop] at he
          have h5 := List.pairwise_iff_getElem.1 hl k (k + 1 + i) hkl (by omega) (by omega)
          rw [he] at h5
          have := h2 hkl
          rw [h5] at this; cases this
    · rintro ⟨h, rfl⟩; exact List.getElem_mem h
  have hhit : hitS l x k = decide (x ∈ l) := by
    unfold hitS
    by_cases hkl : k < l.length
    · rw [List.getElem?_eq_getElem hkl]
      simp only
      rw [Bool.eq_iff_iff, beq_iff_eq, decide_eq_true_eq, hmem]
      exact ⟨fun h => ⟨hkl, h⟩, fun ⟨_, h⟩ => h⟩
    · rw [List.getElem?_eq_none (by omega)]
      simp only
      rw [eq_comm, decide_eq_false_iff_not, hmem]
      rintro ⟨h, _⟩
      exact hkl h
  refine ⟨hhit, ?_⟩
  rw [hhit]
  by_cases hx : x ∈ l
  · rw [if_pos (by simpa using hx)]; exact sorted_insS_mem hl hx
  · rw [if_neg (by simpa using hx)]
    have hs2 : SortedS (l.take k ++ x :: l.drop k) := by
      unfold SortedS
      rw [List.pairwise_append, List.pairwise_cons]
      have hC2 : ∀ y ∈ l.drop k, ltS x y = true := fun y hy => by
        rcases hC y hy with h | h
        · exact absurd (h ▸ List.mem_of_mem_drop hy) hx
        · exact h
      refine ⟨List.Pairwise.sublist (List.take_sublist _ _) hl, ⟨hC2, List.Pairwise.sublist (List.drop_sublist _ _) hl⟩, fun a ha b hb => ?_⟩
      rcases List.mem_cons.1 hb with rfl | hb
      · exact hA a ha
      · exact ltS_trans (hA a ha) (hC2 b hb)
    refine sorted_ext (sorted_insS x l hl) hs2 fun y => ?_
    rw [mem_insS, List.mem_append, List.mem_cons]
    constructor
    · rintro (h | h)
      · exact .inr (.inl h)
      · rw [← List.take_append_drop k l] at h
        rcases List.mem_append.1 h with h | h
        · exact .inl h
        · exact .inr (.inr h)
    · rintro (h | h | h)
      · exact .inr (List.mem_of_mem_take h)
      · exact .inl h
      · exact .inr (List.mem_of_mem_drop h)

theorem has_ok (l : List Str) (x : Str) (v : Value) (w : World) (h : SlR strC M0 w v l) (hln : l.length ≤ 1000000) (hl : SortedS l) :
    Calls Tryd.prog 43 #[v, .string (bs x)] w fun e w' => e = .returned (.bool (decide (x ∈ l))) ∧ w = w' := by
  obtain ⟨A, c, rfl, _, _⟩ := h.form
  have hb := bsearchS_ok l x _ w h hln
  have Hb := Lib.hid hb; have Hl := Lib.hid hl
  clear hb h hl
  go_enter Tryd.func43, Tryd.ntmps43
  go_wp2_with fail
  refine Hb.out.mono ?_
  rintro e w' ⟨k, rfl, hk, h1, h2, rfl⟩
  have hh := (cut_sorted Hl.out hk h1 h2).1
  have Hh := Lib.hid hh
  clear hh h1 h2
  go_wp2
  go_ret
  exact ⟨ret_bool Hh.out, rfl⟩
def strLen : Value → Nat
  | .string s => s.size
  | _ => 0
theorem grown_trans {w w1 w2 : World} {row row' : Option Nat} (h1 : w.grownBy w1 row) (h2 : w1.grownBy w2 row') (hr : row' = none ∨ row' = row ∨ ∃ b, row' = some b ∧ w.heap.size ≤ b) : w.grownBy w2 row :=
  ⟨h2.os.trans h1.os, h2.tape.trans h1.tape, h2.output.trans h1.output, Nat.le_trans h1.size h2.size, fun k hk hne => (h2.block k (Nat.lt_of_lt_of_le hk h1.size) (fun e => by
    rcases hr with h | h | ⟨b, h, hb⟩
    · rw [h] at e; cases e
    · exact hne (e.trans h)
    · rw [h] at e; injection e with e; omega)).trans (h1.block k hk hne)⟩
theorem Own.withB {α : Type} {C : Codec α} {M : Nat → Prop} {w : World} {B : Nat} {e : TypeId} {v : Value} {l : List α} (h : Own C M w B e v l) : v.ownBlock = none ∨ ∃ g, v.ownBlock = some g ∧ B ≤ g ∧ g < w.heap.size := by
  cases hv : v.ownBlock with
  | none => exact .inl rfl
  | some g => exact .inr ⟨g, rfl, h.base g hv, h.lt g hv⟩

set_option maxHeartbeats 4000000 in
theorem with_ok (M : Nat → Prop) (v : Value) (l : List Str) (s : Str) (B : Nat) (w : World) (hown : Own strC M w B 9 v l) (hl : SortedS l) (_hs : s.length ≤ 4000000) (hln : l.length + s.length ≤ 1000000) (hB : B ≤ w.heap.size) (hM : ∀ b, M b → b < w.heap.size) (hMv : ∀ b, v.ownBlock = some b → ¬ M b) :
    Calls Tryd.prog 45 #[v, .string (bs s)] w fun e w' => ∃ v', e = .returned v' ∧ Own strC M w' B 9 v' (withF l s) ∧ w.grownBy w' v.ownBlock ∧ (v'.ownBlock = v.ownBlock ∨ ∃ b, v'.ownBlock = some b ∧ w.heap.size ≤ b) := by
  obtain ⟨A, c, hve, _, _⟩ := hown.shape
  subst hve
  obtain ⟨V, hV⟩ : ∃ V, V = Value.slice A l.length c := ⟨_, rfl⟩
  obtain ⟨R, hR⟩ : ∃ R, withF l s = R := ⟨_, rfl⟩
  have HR := Lib.hid hR
  rw [hR]
  clear hR
  have hown0 := hown
  rw [← hV] at hown0 hMv ⊢
  have HO := Lib.hid hown0; have HS := Lib.hid hl; have HM := Lib.hid hM; have HMv := Lib.hid hMv
  clear hown hl hM hMv hown0
  rw [hV]
  have HV := Lib.hid hV
  clear hV
  go_enter Tryd.func45, Tryd.ntmps45
  go_wp2
  go_loopw [0, 1, 5, 6] (fun lv sv _ _ wr => ∃ (A' : Option Addr) (c' : Nat) (L : List Str) (t : Str), lv = .slice A' L.length c' ∧ sv = .string (bs t) ∧ Hid (SortedS L) ∧ Hid ((ancF t).foldl insS L = R) ∧ L.length + t.length ≤ 1000000 ∧ Hid (Own strC M wr B 9 (.slice A' L.length c') L) ∧ Hid (w.grownBy wr V.ownBlock) ∧ Hid ((Value.slice A' L.length c').ownBlock = V.ownBlock ∨ ∃ b, (Value.slice A' L.length c').ownBlock = some b ∧ w.heap.size ≤ b)) (fun _ sv _ _ _ => strLen sv)
  case atStart =>
    refine ⟨A, c, l, s, rfl, rfl, HS, HR, hln, ?_, Lib.hid (World.grownBy.refl w _), Lib.hid (.inl (by rw [HV.out]))⟩
    have := HO.out
    rw [HV.out] at this
    exact Lib.hid this
  case round =>
    obtain ⟨A', c', L, t, rfl, rfl, hLs, hLR, hlen, hown, hgr, hrow⟩ := hrel
    cases t with
    | nil =>
      go_wp2
      go_ret
      have e := hLR.out
      rw [anc_nil] at e
      rw [← HV.out]
      refine ⟨_, rfl, ?_, hgr.out, hrow.out⟩
      rw [← e]
      exact hown.out
    | cons ch u =>
      obtain ⟨t, ht⟩ : ∃ t, t = ch :: u := ⟨_, rfl⟩
      have hne : t ≠ [] := by rw [ht]; simp
      have hnb : (t == ([] : List UInt8)) = false := by simpa using hne
      rw [← ht] at hLR hlen ⊢
      clear ht
      have hnm : ∀ b, (Value.slice A' L.length c').ownBlock = some b → ¬ M b := fun b hb hm => by
        rcases hrow.out with h | ⟨b', h, hb'⟩
        · exact HMv.out b (h ▸ hb) hm
        · rw [h] at hb; injection hb with hb; have := HM.out b hm; omega
      have hbs := bsearchS_ok L t _ wr (hown.out.read hnm).zero (by omega)
      have hbw : B ≤ wr.heap.size := Nat.le_trans hB hgr.out.size
      have hlt := above_lt t hne
      have hal := above_ok t (by unfold maxLen; omega)
      have hstep : (ancF (aboveF t)).foldl insS (insS L t) = R := by rw [← hLR.out, anc_step t hne]; rfl
      have Hstep := Lib.hid hstep; have Hbs := Lib.hid hbs; have Hnm := Lib.hid hnm; have Hal := Lib.hid hal; have Hlt := Lib.hid hlt
      clear hstep hbs hnm hal hlt hne
      go_wp2_with fail
      refine Hbs.out.mono ?_
      rintro e w1 ⟨k, rfl, hk, h1, h2, rfl⟩
      obtain ⟨hh, hins⟩ := cut_sorted hLs.out hk h1 h2
      clear h1 h2 hh
      obtain ⟨hit, hhit⟩ : ∃ b, hitS L t k = b := ⟨_, rfl⟩
      rw [hhit] at hins ⊢
      clear hhit
      have Hins := Lib.hid hins
      clear hins
      cases hit with
      | true =>
        go_wp2_with fail
        refine (Hal.out _).mono ?_
        rintro e w2 ⟨rfl, rfl⟩
        go_wp2
        go_roundw
        case rel =>
          have e := Hins.out
          simp only [if_true] at e
          exact ⟨A', c', L, aboveF t, rfl, rfl, hLs, Lib.hid (by have := Hstep.out; rwa [e] at this), by have := Hlt.out; omega, hown, hgr, hrow⟩
        case measure => simp [strLen]; exact Hlt.out
      | false =>
        have hbb := (Below.refl wr.heap.size wr).alloc (Nat.le_refl _) (.cells #[.string (bs t)] 9)
        have hinsr := insertSt_ok M (.slice A' L.length c') L t k B wr.heap.size #[.string (bs t)] (wr.alloc (.cells #[.string (bs t)] 9)) (hown.out.ext hbb) hk (by omega) (Blk.new _ _ _) (fun _ => ⟨rfl, by unfold maxLen; omega⟩)
          (fun e => by have := hown.out.lt _ e; omega) (fun hm => by have := HM.out _ hm; have := hgr.out.size; omega) (by rw [World.size_alloc]; omega) (fun b hm => by rw [World.size_alloc]; have := HM.out _ hm; have := hgr.out.size; omega)
        have hsz := hgr.out.size
        go_wp2_with fail
        refine hinsr.mono ?_
        rintro e w2 ⟨v2, rfl, hown2, hgr2, hor2⟩
        clear hinsr
        obtain ⟨A2, c2, rfl, _, _⟩ := hown2.shape
        have e := Hins.out
        rw [if_neg (by simp)] at e
        rw [← e] at hown2 hor2 ⊢
        have hlen2 : (insS L t).length ≤ L.length + 1 := by rw [e]; simp; omega
        have Hown2 := Lib.hid hown2; have Hgr2 := Lib.hid hgr2; have Hor2 := Lib.hid hor2; have Hlen2 := Lib.hid hlen2
        clear hown2 hgr2 hor2 e hlen2 hbb
        go_wp2_with fail
        refine (Hal.out _).mono ?_
        rintro e w3 ⟨rfl, rfl⟩
        go_wp2
        go_roundw
        case rel =>
          refine ⟨A2, c2, insS L t, aboveF t, rfl, rfl, Lib.hid (sorted_insS t L hLs.out), Hstep, by have := Hlt.out; have := Hlen2.out; omega, Hown2, Lib.hid ?_, Lib.hid ?_⟩
          · refine grown_trans hgr.out (grown_trans (World.grownBy_alloc wr _ (Value.slice A' L.length c').ownBlock) Hgr2.out (.inr (.inl rfl))) ?_
            rcases hrow.out with h | h
            · exact .inr (.inl h)
            · exact .inr (.inr h)
          · rcases Hor2.out with h | h
            · rw [h]; exact hrow.out
            · rw [World.size_alloc] at h
              exact .inr ⟨_, h, by omega⟩
        case measure => simp [strLen]; exact Hlt.out
end Go.Proofs.YtinmpjhmbciapaaDoor
