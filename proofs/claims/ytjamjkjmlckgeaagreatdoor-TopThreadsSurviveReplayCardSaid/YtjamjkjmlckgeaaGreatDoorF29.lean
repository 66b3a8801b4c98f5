/-
  Contracts and plain facts, one after another: strings.Compare; threads.order; A map that the call made: a block that holds what a function says, key by key. No program is named here.
-/
import Derived.Test.YtjamjkjmlckgeaaGreatDoorF1
import Derived.Test.YtjamjkjmlckgeaaGreatDoorF12
import Derived.Test.YtjamjkjmlckgeaaGreatDoorF2
import Derived.Test.YtjamjkjmlckgeaaGreatDoorF35
import Derived.Lib.Bytealg
import Derived.Outline
import Derived.MapKept
namespace Go.Proofs.YtjamjkjmlckgeaaGreatDoor
open Go.RowKit

set_option maxRecDepth 20000 in
theorem compareString_ok (a b : Str) (w : World) : Calls Tryz.prog 128 #[.string (bs a), .string (bs b)] w fun e w' => e = .returned (.int .i64 (Lib.compareBytes a b)) ∧ w = w' := by
  go_enter Tryz.func128, Tryz.ntmps128
  go_wp2
  rw [run_callFunc_extern Tryz.func146 (by kernel_rfl) (by kernel_rfl) (by kernel_rfl) (e := Extern.BytealgCompare.compare) (by kernel_rfl), Lib.run_compareString]
  simp only [Result.andThen]
  rw [Oper.upon_value]
  go_wp2
  go_ret
  exact ⟨by simp, rfl⟩
theorem compare_ok (a b : Str) (w : World) : Calls Tryz.prog 106 #[.string (bs a), .string (bs b)] w fun e w' => e = .returned (.int .i64 (Lib.compareBytes a b)) ∧ w = w' := by
  have hp := compareString_ok a b w
  have Hp := Lib.hid hp
  clear hp
  go_enter Tryz.func106, Tryz.ntmps106
  go_wp2_with fail
  refine Hp.out.mono ?_
  rintro e w1 ⟨rfl, rfl⟩
  go_wp2
  go_ret
  exact ⟨rfl, rfl⟩
end Go.Proofs.YtjamjkjmlckgeaaGreatDoor
namespace Go.Proofs.YtjamjkjmlckgeaaGreatDoor
open Go.RowKit
set_option linter.unusedVariables false
theorem ret_i {a b : Int} (h : a = b) : Ending.returned (.int .i64 a) = .returned (.int .i64 b) := by rw [h]
theorem isNaN_ok (a : Int) (w : World) : Calls Tryz.prog 127 #[.int .i64 a] w fun e w' => e = .returned (.bool false) ∧ w = w' := by
  have hself : (a != a) = false := by simp
  have hself2 : (a == a) = true := by simp
  go_enter Tryz.func127, Tryz.ntmps127
  go_wp2
  go_ret
  exact ⟨by simp, rfl⟩
def cmpI (a b : Int) : Int := if a < b then -1 else if b < a then 1 else 0
theorem cmpInt_ok (a b : Int) (w : World) : Calls Tryz.prog 105 #[.int .i64 a, .int .i64 b] w fun e w' => e = .returned (.int .i64 (cmpI a b)) ∧ w = w' := by
  have hn := fun x W => isNaN_ok x W
  have Hn := Lib.hid hn
  clear hn
  by_cases h1 : a < b
  · have hq : cmpI a b = -1 := by unfold cmpI; rw [if_pos h1]
    have Hq := Lib.hid hq
    clear hq
    go_enter Tryz.func105, Tryz.ntmps105
    go_wp2_with fail
    refine (Hn.out _ _).mono ?_
    rintro e w1 ⟨rfl, rfl⟩
    go_wp2_with fail
    refine (Hn.out _ _).mono ?_
    rintro e w1 ⟨rfl, rfl⟩
    go_wp2
    go_ret
    exact ⟨ret_i (by rw [Hq.out]), rfl⟩
  · by_cases h2 : b < a
    · have hq : cmpI a b = 1 := by unfold cmpI; rw [if_neg h1, if_pos h2]
      have Hq := Lib.hid hq
      clear hq
      go_enter Tryz.func105, Tryz.ntmps105
      go_wp2_with fail
      refine (Hn.out _ _).mono ?_
      rintro e w1 ⟨rfl, rfl⟩
      go_wp2_with fail
      refine (Hn.out _ _).mono ?_
      rintro e w1 ⟨rfl, rfl⟩
      go_wp2
      go_ret
      exact ⟨ret_i (by rw [Hq.out]), rfl⟩
    · have hq : cmpI a b = 0 := by unfold cmpI; rw [if_neg h1, if_neg h2]
      have Hq := Lib.hid hq
      clear hq
      go_enter Tryz.func105, Tryz.ntmps105
      go_wp2_with fail
      refine (Hn.out _ _).mono ?_
      rintro e w1 ⟨rfl, rfl⟩
      go_wp2_with fail
      refine (Hn.out _ _).mono ?_
      rintro e w1 ⟨rfl, rfl⟩
      go_wp2
      go_ret
      exact ⟨ret_i (by rw [Hq.out]), rfl⟩
def orI (x y : Int) : Int := if x ≠ 0 then x else y
theorem or_ok (x y : Int) (b : Nat) (w : World) (hb : Blk w b 3 #[.int .i64 x, .int .i64 y]) : Calls Tryz.prog 104 #[.slice (some ⟨b, 0, none⟩) 2 2] w fun e w' => e = .returned (.int .i64 (orI x y)) ∧ w = w' := by
  obtain ⟨c0, c1, _, _, _⟩ := hb.two
  go_enter Tryz.func104, Tryz.ntmps104
  go_wp2
  go_loop [8] (fun i => i = .int .i64 0 ∨ (i = .int .i64 1 ∧ x = 0) ∨ (i = .int .i64 2 ∧ x = 0 ∧ y = 0)) (fun i => 2 - (intOf i).toNat)
  case atStart => exact .inl rfl
  case round =>
    rcases hrel with rfl | ⟨rfl, rfl⟩ | ⟨rfl, rfl, rfl⟩
    · by_cases hx : x = 0
      · subst hx
        go_wp2
        go_round
        case rel => exact .inr (.inl ⟨rfl, trivial⟩)
        case measure => decide
      · have hx' : (x != 0) = true := by simpa using hx
        go_wp2
        go_ret
        exact ⟨ret_i (by unfold orI; rw [if_pos hx]), rfl⟩
    · by_cases hy : y = 0
      · subst hy
        go_wp2
        go_round
        case rel => exact .inr (.inr ⟨rfl, trivial, trivial⟩)
        case measure => decide
      · have hy' : (y != 0) = true := by simpa using hy
        go_wp2
        go_ret
        exact ⟨ret_i (by simp [orI]), rfl⟩
    · go_wp2
      go_ret
      exact ⟨ret_i (by simp [orI]), rfl⟩
def letV (a : Letter) (v : Value) : Value := .agg #[.string (bs a.1), v, .int .i64 a.2.2]
/-- draws and new blocks alone -/
def Grew (w w' : World) : Prop := ∃ (q : Nat) (os : Array Obj), w' = { w with drawn := w.drawn + q, heap := w.heap ++ os }
theorem Grew.refl (w : World) : Grew w w := ⟨0, #[], by simp⟩
theorem Grew.trans {a b c : World} (h : Grew a b) (k : Grew b c) : Grew a c := by
  obtain ⟨q, os, rfl⟩ := h
  obtain ⟨q', os', rfl⟩ := k
  exact ⟨q + q', os ++ os', by simp [Nat.add_assoc, Array.append_assoc]⟩
theorem Grew.alloc (w : World) (o : Obj) : Grew w (w.alloc o) := ⟨0, #[o], by rw [Array.append_singleton]; rfl⟩
theorem Grew.drew (w : World) : Grew w w.drew := ⟨1, #[], by rw [Array.append_empty]; rfl⟩
theorem Grew.drewN (w : World) (n : Nat) : Grew w (w.drewN n) := ⟨n, #[], by rw [Array.append_empty]; rfl⟩
theorem Grew.below {w w' : World} (h : Grew w w') : Below w.heap.size w w' := by
  obtain ⟨q, os, rfl⟩ := h
  exact ⟨rfl, rfl, rfl, by simp, fun k hk => by simp [Array.getElem?_append_left hk]⟩
set_option maxHeartbeats 2000000 in
theorem order_grew (a b : Letter) (va vb : Value) (w : World) : Calls Tryz.prog 77 #[letV a va, letV b vb] w fun e w' => e = .returned (.int .i64 (Th.ordF a b)) ∧ Grew w w' := by
  obtain ⟨ia, ra, ta⟩ := a
  obtain ⟨ib, rb, tb⟩ := b
  have ho : Th.ordF (ia, ra, ta) (ib, rb, tb) = orI (cmpI ta tb) (Lib.compareBytes ia ib) := Th.ord_or _ _
  have h1 := fun W => cmpInt_ok ta tb W
  have h2 := fun W => compare_ok ia ib W
  obtain ⟨x, hx⟩ : ∃ x, cmpI ta tb = x := ⟨_, rfl⟩
  obtain ⟨y, hy⟩ : ∃ y, Lib.compareBytes ia ib = y := ⟨_, rfl⟩
  rw [hx] at h1 ho
  rw [hy] at h2 ho
  have Ho := Lib.hid ho; have H1 := Lib.hid h1; have H2 := Lib.hid h2
  clear ho h1 h2 hx hy
  have hg2 : Grew w ((w.alloc (.cells #[.string (bs ia), va, .int .i64 ta] 101)).alloc (.cells #[.string (bs ib), vb, .int .i64 tb] 101)) := (Grew.alloc _ _).trans (Grew.alloc _ _)
  have hw2 : Below w.heap.size w ((w.alloc (.cells #[.string (bs ia), va, .int .i64 ta] 101)).alloc (.cells #[.string (bs ib), vb, .int .i64 tb] 101)) := ((Below.refl _ _).alloc (Nat.le_refl _) _).alloc (by simp) _
  have k1 := (Blk.new w 101 #[.string (bs ia), va, .int .i64 ta]).alloc (.cells #[.string (bs ib), vb, .int .i64 tb] 101)
  have k2 := Blk.new (w.alloc (.cells #[.string (bs ia), va, .int .i64 ta] 101)) 101 #[.string (bs ib), vb, .int .i64 tb]
  rw [show (w.alloc (.cells #[.string (bs ia), va, .int .i64 ta] 101)).heap.size = w.heap.size + 1 by simp] at k2
  unfold letV
  go_enter Tryz.func77, Tryz.ntmps77
  go_wp2
  generalize (w.alloc _).alloc _ = W at hg2 hw2 k1 k2 ⊢
  have hkeep : ∀ W', Below W.heap.size W W' → W'.cell? ⟨w.heap.size, 2, none⟩ = some (.int .i64 ta) ∧ W'.cell? ⟨w.heap.size + 1, 2, none⟩ = some (.int .i64 tb) ∧ W'.cell? ⟨w.heap.size, 0, none⟩ = some (.string (bs ia)) ∧ W'.cell? ⟨w.heap.size + 1, 0, none⟩ = some (.string (bs ib)) := fun W' h =>
    ⟨(k1.ext h).three.2.2.1, (k2.ext h).three.2.2.1, (k1.ext h).three.1, (k2.ext h).three.1⟩
  have hS0 := hkeep _ (below_drewN' W.heap.size W 1)
  have HK := Lib.hid hkeep
  clear hkeep k1 k2
  have hb9 : Below W.heap.size W ((W.alloc (.cells #[.int .i64 x, .int .i64 y] 3)).drew) := below_drew ((Below.refl _ _).alloc (Nat.le_refl _) _)
  have hS1 := HK.out _ hb9
  go_region_held3 (fun W' => W'.cell? ⟨w.heap.size, 2, none⟩ = some (.int .i64 ta) ∧ W'.cell? ⟨w.heap.size + 1, 2, none⟩ = some (.int .i64 tb) ∧ W'.cell? ⟨w.heap.size, 0, none⟩ = some (.string (bs ia)) ∧ W'.cell? ⟨w.heap.size + 1, 0, none⟩ = some (.string (bs ib))) (first | exact hS0 | exact hS1) (first
    | (go_at_call 105; refine (H1.out _).mono ?_; rintro e w8 ⟨rfl, rfl⟩)
    | (go_at_call 106; refine (H2.out _).mono ?_; rintro e w8 ⟨rfl, rfl⟩)
    | (go_at_call 104; refine (or_ok x y W.heap.size ((W.alloc (.cells #[.int .i64 x, .int .i64 y] 3)).drew) (Blk.new W 3 #[.int .i64 x, .int .i64 y])).mono ?_; rintro e w9 ⟨rfl, rfl⟩))
  go_wp2
  go_ret
  exact ⟨ret_i (by rw [Ho.out]), hg2.trans ((Grew.alloc _ _).trans (Grew.drew _))⟩
theorem order_ok (a b : Letter) (va vb : Value) (w : World) : Calls Tryz.prog 77 #[letV a va, letV b vb] w fun e w' => e = .returned (.int .i64 (Th.ordF a b)) ∧ Below w.heap.size w w' := by
  exact (order_grew a b va vb w).mono fun e w' ⟨h1, h2⟩ => ⟨h1, h2.below⟩
end Go.Proofs.YtjamjkjmlckgeaaGreatDoor
namespace Go.Proofs.YtjamjkjmlckgeaaGreatDoor
open Go.RowKit Go.MapKept
set_option linter.unusedVariables false
section
variable {P : Program} {κ : Type} {w w' : World} {b : Nat} {d : TypeDesc} {enc : κ → Value} {m : κ → Option Value}

/-- Block b is a map that holds m; its keys are the values of enc. -/
def MapAt (d : TypeDesc) (enc : κ → Value) (w : World) (b : Nat) (m : κ → Option Value) : Prop :=
  (∀ k k', enc k = enc k' → k = k') ∧ (∀ k, IsKey d (enc k)) ∧ ∃ es clock, w.heap[b]? = some (.map es clock) ∧ (es.toList.map (·.key)).Nodup ∧
    (∀ x ∈ es.toList, ∃ k, x.key = enc k ∧ m k = some x.val) ∧ (∀ k v, m k = some v → ∃ x ∈ es.toList, x.key = enc k)
theorem MapAt.lt (h : MapAt d enc w b m) : b < w.heap.size := by
  obtain ⟨_, _, es, clock, hb, _⟩ := h
  exact (Array.getElem?_eq_some_iff.1 hb).1
theorem MapAt.keep (h : MapAt d enc w b m) (hk : w'.heap[b]? = w.heap[b]?) : MapAt d enc w' b m := by
  obtain ⟨h1, h2, es, clock, hb, h3⟩ := h
  exact ⟨h1, h2, es, clock, hk.trans hb, h3⟩
theorem MapAt.ext (h : MapAt d enc w b m) (hb : Below w.heap.size w w') : MapAt d enc w' b m := h.keep (hb.block b h.lt)
theorem MapAt.far (h : MapAt d enc w b m) {p : Addr} (hp : b ≠ p.block) (u : Value) : MapAt d enc (w.setCell p u) b m := h.keep (Below.heap_setCell w p u b hp)
theorem MapAt.made (w : World) (hi : ∀ k k', enc k = enc k' → k = k') (hk : ∀ k, IsKey d (enc k)) : MapAt d enc (w.alloc (.map #[] 0)) w.heap.size (fun _ => none) :=
  ⟨hi, hk, #[], 0, heap_alloc_new w _, by simp, fun x hx => by simp at hx, fun k v h => by cases h⟩
theorem key_unique : ∀ {l : List MapEntry}, (l.map (·.key)).Nodup → ∀ {x y : MapEntry}, x ∈ l → y ∈ l → x.key = y.key → x = y
  | e :: l, h, x, y, hx, hy, he => by
    rw [List.map_cons, List.nodup_cons] at h
    rcases List.mem_cons.1 hx with hx1 | hx1
    · rcases List.mem_cons.1 hy with hy1 | hy1
      · rw [hx1, hy1]
      · exact absurd (by rw [← hx1, he]; exact List.mem_map_of_mem hy1) h.1
    · rcases List.mem_cons.1 hy with hy1 | hy1
      · exact absurd (by rw [← hy1, ← he]; exact List.mem_map_of_mem hx1) h.1
      · exact key_unique h.2 hx1 hy1 he
/-- what a search finds -/
theorem MapAt.find (h : MapAt d enc w b m) (k : κ) : ∃ es clock, w.heap[b]? = some (.map es clock) ∧
    ((m k = none ∧ Instr.findNow d (enc k) es.toList 0 = some none) ∨ ∃ v j, m k = some v ∧ Instr.findNow d (enc k) es.toList 0 = some (some (j, v))) := by
  obtain ⟨hi, hk, es, clock, hb, hn, h1, h2⟩ := h
  refine ⟨es, clock, hb, ?_⟩
  have hks : ∀ x ∈ es.toList, IsKey d x.key := fun x hx => by obtain ⟨k', e, _⟩ := h1 x hx; rw [e]; exact hk k'
  rcases findNow_spec (hk k) es.toList 0 hks with ⟨hf, hne⟩ | ⟨j, e, hf, hj, he⟩
  · refine .inl ⟨?_, hf⟩
    cases hm : m k with
    | none => rfl
    | some v =>
      obtain ⟨x, hx, hxe⟩ := h2 k v hm
      exact absurd hxe (hne x hx)
  · obtain ⟨k', ek, hv⟩ := h1 e (List.mem_of_getElem? hj)
    have : k = k' := hi k k' (by rw [← he, ek])
    subst this
    exact .inr ⟨e.val, 0 + j, hv, hf⟩
theorem MapAt.look_some {T K E : TypeId} (h : MapAt d enc w b m) (hT : P.underlying T = some (.map K E)) (hK : P.underlying K = some d) {k : κ} {v : Value} (hm : m k = some v) (ok : Bool) :
    (Instr.lookup T (.map (some b)) (enc k) ok).run P w = .ok (if ok then .tuple #[v, .bool true] else v) w := by
  have hk := h.2.1 k
  obtain ⟨es, clock, hb, h1⟩ := h.find k
  rcases h1 with ⟨hn, _⟩ | ⟨v', j, hv, hf⟩
  · rw [hm] at hn; cases hn
  · rw [hm] at hv
    injection hv with hv
    subst hv
    simp [Instr.lookup, run_underlying hT, Go.MapKept.run_getObj_map hb, run_checkKey hK hk, run_findKey hK hf, Result.andThen]
theorem MapAt.look_none {T K E : TypeId} (h : MapAt d enc w b m) (hT : P.underlying T = some (.map K E)) (hK : P.underlying K = some d) {z : Value} (hz : (zeroValue E).run P w = .ok z w) {k : κ} (hm : m k = none) (ok : Bool) :
    (Instr.lookup T (.map (some b)) (enc k) ok).run P w = .ok (if ok then .tuple #[z, .bool false] else z) w := by
  have hk := h.2.1 k
  obtain ⟨es, clock, hb, h1⟩ := h.find k
  rcases h1 with ⟨_, hf⟩ | ⟨v', j, hv, hf⟩
  · simp [Instr.lookup, run_underlying hT, Go.MapKept.run_getObj_map hb, run_checkKey hK hk, run_findKey hK hf, hz, Result.andThen]
  · rw [hm] at hv; cases hv
/-- m with one key turned -/
def updM [DecidableEq κ] (m : κ → Option Value) (k : κ) (v : Value) : κ → Option Value := fun k' => if k' = k then some v else m k'
theorem MapAt.upd [DecidableEq κ] {T K E : TypeId} (h : MapAt d enc w b m) (hT : P.underlying T = some (.map K E)) (hK : P.underlying K = some d) (k : κ) (v : Value) :
    ∃ w', (Instr.mapUpdate T (.map (some b)) (enc k) v).run P w = .ok () w' ∧ MapAt d enc w' b (updM m k v) ∧ w.grownBy w' (some b) ∧ w'.heap.size = w.heap.size := by
  obtain ⟨hi, hk, es, clock, hb, hn, h1, h2⟩ := h
  have hks : ∀ x ∈ es.toList, IsKey d x.key := fun x hx => by obtain ⟨k', e, _⟩ := h1 x hx; rw [e]; exact hk k'
  have hgr : ∀ o : Obj, w.grownBy { w with heap := w.heap.setIfInBounds b o } (some b) := fun o =>
    ⟨rfl, rfl, rfl, by simp, fun r _ hr => (heap_set hb).2 r fun e => hr (by rw [e])⟩
  rcases findNow_spec (hk k) es.toList 0 hks with ⟨hf, hne⟩ | ⟨j, e, hf, hj, he⟩
  · refine ⟨_, by simp [Instr.mapUpdate, run_underlying hT, Go.MapKept.run_getObj_map hb, run_checkKey hK (hk k), run_findKey hK hf, Go.MapKept.run_setObj_map _ hb, Result.andThen]; rfl, ?_, hgr _, by simp⟩
    refine ⟨hi, hk, _, _, (heap_set hb).1, ?_, ?_, ?_⟩
    · rw [Array.toList_push, List.map_append, List.nodup_append]
      refine ⟨hn, by simp, fun x hx y hy => ?_⟩
      simp at hy
      obtain ⟨z, hz, rfl⟩ := List.mem_map.1 hx
      rw [hy]
      exact hne z hz
    · intro x hx
      rw [Array.toList_push] at hx
      rcases List.mem_append.1 hx with hx | hx
      · obtain ⟨k', ek, hv⟩ := h1 x hx
        refine ⟨k', ek, ?_⟩
        unfold updM
        rw [if_neg (fun e => hne x hx (by rw [ek, e]))]
        exact hv
      · simp at hx
        subst hx
        exact ⟨k, rfl, by simp [updM]⟩
    · intro k' v' hv
      unfold updM at hv
      split at hv
      · rename_i e
        subst e
        exact ⟨_, by rw [Array.toList_push]; exact List.mem_append_right _ (.head _), rfl⟩
      · obtain ⟨x, hx, hxe⟩ := h2 k' v' hv
        exact ⟨x, by rw [Array.toList_push]; exact List.mem_append_left _ hx, hxe⟩
  · have hj' : es[j]? = some e := by simpa using hj
    have hjl : j < es.size := (Array.getElem?_eq_some_iff.1 hj').1
    refine ⟨_, by simp [Instr.mapUpdate, run_underlying hT, Go.MapKept.run_getObj_map hb, run_checkKey hK (hk k), run_findKey hK hf, hj', he, run_keyThatStays (hk k), Go.MapKept.run_setObj_map _ hb, Result.andThen]; rfl, ?_, hgr _, by simp⟩
    have hkeys : ((es.modify j fun e => { e with key := enc k, val := v }).toList.map (·.key)) = es.toList.map (·.key) :=
      modify_keys j _ fun e' he' => by rw [hj'] at he'; cases he'; exact he.symm
    have hget : ∀ (i : Nat) (x : MapEntry), (es.modify j fun e => { e with key := enc k, val := v }).toList[i]? = some x → (i = j ∧ x = { e with key := enc k, val := v }) ∨ (i ≠ j ∧ es.toList[i]? = some x) := fun i x hx => by
      rw [Array.getElem?_toList, Array.getElem?_modify] at hx
      by_cases hij : j = i
      · subst hij
        rw [if_pos rfl, hj'] at hx
        simp at hx
        exact .inl ⟨rfl, hx.symm⟩
      · rw [if_neg hij] at hx
        exact .inr ⟨fun e => hij e.symm, by rw [Array.getElem?_toList]; exact hx⟩
    refine ⟨hi, hk, _, _, (heap_set hb).1, by rw [hkeys]; exact hn, ?_, ?_⟩
    · intro x hx
      obtain ⟨i, hi'⟩ := List.mem_iff_getElem?.1 hx
      rcases hget i x hi' with ⟨_, rfl⟩ | ⟨hij, hx'⟩
      · exact ⟨k, rfl, by simp [updM]⟩
      · obtain ⟨k', ek, hv⟩ := h1 x (List.mem_of_getElem? hx')
        refine ⟨k', ek, ?_⟩
        unfold updM
        rw [if_neg (fun e' => ?_)]
        · exact hv
        · subst e'
          have hxe : x = e := key_unique hn (List.mem_of_getElem? hx') (List.mem_of_getElem? hj) (by rw [ek, he])
          have h3 : (es.toList.map (·.key))[i]? = some (enc k') := by rw [List.getElem?_map, hx']; simp [ek]
          have h4 : (es.toList.map (·.key))[j]? = some (enc k') := by rw [List.getElem?_map, hj]; simp [he]
          have h5 := List.pairwise_iff_getElem.1 hn
          obtain ⟨l3, g3⟩ := List.getElem?_eq_some_iff.1 h3
          obtain ⟨l4, g4⟩ := List.getElem?_eq_some_iff.1 h4
          rcases Nat.lt_or_gt_of_ne hij with h6 | h6
          · exact h5 i j l3 l4 h6 (g3.trans g4.symm)
          · exact h5 j i l4 l3 h6 (g4.trans g3.symm)
    · intro k' v' hv
      have hin : enc k' ∈ es.toList.map (·.key) := by
        unfold updM at hv
        split at hv
        · rename_i e'
          subst e'
          exact he ▸ List.mem_map_of_mem (List.mem_of_getElem? hj)
        · obtain ⟨x, hx, hxe⟩ := h2 k' v' hv
          exact hxe ▸ List.mem_map_of_mem hx
      rw [← hkeys] at hin
      obtain ⟨x, hx, hxe⟩ := List.mem_map.1 hin
      exact ⟨x, hx, hxe⟩
end
end Go.Proofs.YtjamjkjmlckgeaaGreatDoor
