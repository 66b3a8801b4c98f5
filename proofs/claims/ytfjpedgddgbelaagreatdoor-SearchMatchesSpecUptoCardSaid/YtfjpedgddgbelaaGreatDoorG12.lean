/-
  Contracts and plain facts, one after another: stem.Words; Indexes: a text added, a text removed; plain; slices.Clone on terms, postings, ints; strings.Compare.
-/
import Derived.Test.YtfjpedgddgbelaaGreatDoorG8
import Derived.Test.YtfjpedgddgbelaaGreatDoorG10
import Derived.Test.YtfjpedgddgbelaaGreatDoorG3
import Derived.Test.YtfjpedgddgbelaaGreatDoorG6
import Derived.Test.YtfjpedgddgbelaaGreatDoorG2
import Derived.Lib.SliceRun
import Derived.Lib.Bytealg
import Derived.Outline
namespace Go.Proofs.YtfjpedgddgbelaaGreatDoor
open Go.RowKit
set_option linter.unusedVariables false
theorem Own.weak {α : Type} {C : Codec α} {M M' : Nat → Prop} {w : World} {B B' : Nat} {e : TypeId} {v : Value} {l : List α} (h : Own C M w B e v l) (hB : B' ≤ B) (hM : ∀ b, M' b → M b) : Own C M' w B' e v l := by
  obtain ⟨xs, ho, he⟩ := h
  refine ⟨xs, ⟨ho.1, ?_⟩, he.sub fun b _ hb => hb.imp (hM b) id⟩
  rcases ho.2 with hn | ⟨g, cap, cur, rfl, hb, rest⟩
  · exact .inl hn
  · exact .inr ⟨g, cap, cur, rfl, Nat.le_trans hB hb, rest⟩
theorem len_le_sum : ∀ {l : List Nat}, (∀ x ∈ l, 0 < x) → l.length ≤ l.sum
  | [], _ => Nat.le_refl _
  | x :: l, h => by
    have h1 := len_le_sum (l := l) fun y hy => h y (.tail _ hy)
    have h2 := h x (.head _)
    simp only [List.length_cons, List.sum_cons]
    omega
theorem words0_ok (s : Str) (w : World) : Calls Tryz.prog 150 #[.string (bs s)] w fun e w' =>
    e = .returned (.func (.func 240) #[] #[.pointer (some ⟨w.heap.size, 0, none⟩), .pointer (some ⟨w.heap.size + 1, 0, none⟩)]) ∧ (w.alloc (.cells #[.string (bs s)] 9)).alloc (.cells #[.func (.func 194) #[] #[]] 115) = w' := by
  have hc : ∀ W, Calls Tryz.prog 193 #[.string (bs s), .func (.func 194) #[] #[]] W fun e w' =>
      e = .returned (.func (.func 240) #[] #[.pointer (some ⟨W.heap.size, 0, none⟩), .pointer (some ⟨W.heap.size + 1, 0, none⟩)]) ∧ (W.alloc (.cells #[.string (bs s)] 9)).alloc (.cells #[.func (.func 194) #[] #[]] 115) = w' := by
    intro W
    go_enter Tryz.func193, Tryz.ntmps193
    go_wp2
    go_ret
    simp
  have Hc := Lib.hid hc
  clear hc
  go_enter Tryz.func150, Tryz.ntmps150
  go_wp2_with fail
  refine (Hc.out w).mono ?_
  rintro e w1 ⟨rfl, rfl⟩
  go_wp2
  go_ret
  simp
theorem stemWords_long (s : Str) (hs : 4000 < s.length) (w : World) : Calls Tryz.prog 104 #[.string (bs s)] w fun e w' => e = .returned (.tuple #[.slice none 0 0, .agg #[.int .i64 1, .int .i64 (-1)]]) ∧ Below w.heap.size w w' := by
  have hd : decide ((4000 : Int) < (s.length : Int)) = true := by simp; omega
  have hfc := fun W => fault_ok 1 (-1) W
  have Hfc := Lib.hid hfc
  clear hfc
  refine calls_of_wp_marks Tryz.func104 rfl ?_
  simp only [Tryz.ntmps104, List.size_toArray, List.length_cons, List.length_nil, Nat.reduceAdd, Nat.reduceSub, Array.replicate_succ, Array.replicate_zero, List.push_toArray, List.append_toArray, List.nil_append, List.cons_append]
  go_wp2_with fail
  refine (Hfc.out _).mono ?_
  rintro e w1 ⟨rfl, hb⟩
  have k1 := (Blk.new w 27 #[.int .i64 0, .int .i64 0]).ext hb
  have hbw := below_alloc hb
  obtain ⟨c0, c1, z0, z1, hlt⟩ := k1.two
  go_wp2
  obtain ⟨e0, e1⟩ := k1.put2 (.int .i64 1) (.int .i64 (-1))
  refine bodyPostM_none (v := .tuple #[.slice none 0 0, .agg #[.int .i64 1, .int .i64 (-1)]]) (by simp [results, Tryz.results104, go_sem, e0, e1]) ⟨rfl, below_set2 hbw (Nat.le_refl _) _ _⟩
set_option maxHeartbeats 4000000 in
theorem stemWords_ok (s : Str) (hs : s.length ≤ 4000) (w : World) (hT : TabsU w) : Calls Tryz.prog 104 #[.string (bs s)] w fun e w' => ∃ (A : Option Addr) (c : Nat) (L : List Str), e = .returned (.tuple #[.slice A L.length c, .agg #[.int .i64 0, .int .i64 0]]) ∧
    Hid (L = Sm.words s) ∧ Own strC M0 w' w.heap.size 9 (.slice A L.length c) L ∧ Below w.heap.size w w' := by
  have hd : decide ((4000 : Int) < (s.length : Int)) = false := by simp; omega
  have hwc := fun W => words0_ok s W
  have Hwc := Lib.hid hwc
  clear hwc
  refine calls_of_wp_marks Tryz.func104 rfl ?_
  simp only [Tryz.ntmps104, List.size_toArray, List.length_cons, List.length_nil, Nat.reduceAdd, Nat.reduceSub, Array.replicate_succ, Array.replicate_zero, List.push_toArray, List.append_toArray, List.nil_append, List.cons_append]
  go_wp2_with fail
  refine (Hwc.out _).mono ?_
  rintro e w1 ⟨rfl, hw1⟩
  have hbw1 : Below w.heap.size w w1 := by
    rw [← hw1]
    exact ((((Below.refl _ w).alloc (Nat.le_refl _) _).alloc (by simp) _).alloc (by simp; omega) _).alloc (by simp; omega) _
  have hs1 : w1.heap.size = w.heap.size + 4 := by rw [← hw1]; simp
  have k0 : Blk w1 w.heap.size 27 #[.int .i64 0, .int .i64 0] := hw1 ▸ (((Blk.new w _ _).alloc _).alloc _).alloc _
  have k1 : Blk w1 (w.heap.size + 1) 59 #[.slice none 0 0] := hw1 ▸ (by have := ((Blk.new (w.alloc (.cells #[.int .i64 0, .int .i64 0] 27)) 59 #[.slice none 0 0]).alloc (.cells #[.string (bs s)] 9)).alloc (.cells #[.func (.func 194) #[] #[]] 115); simpa using this)
  have k2 : Blk w1 (w.heap.size + 2) 9 #[.string (bs s)] := hw1 ▸ (by have := (Blk.new ((w.alloc (.cells #[.int .i64 0, .int .i64 0] 27)).alloc (.cells #[.slice none 0 0] 59)) 9 #[.string (bs s)]).alloc (.cells #[.func (.func 194) #[] #[]] 115); simpa using this)
  have k3 : Blk w1 (w.heap.size + 3) 115 #[.func (.func 194) #[] #[]] := hw1 ▸ (by have := Blk.new (((w.alloc (.cells #[.int .i64 0, .int .i64 0] 27)).alloc (.cells #[.slice none 0 0] 59)).alloc (.cells #[.string (bs s)] 9)) 115 #[.func (.func 194) #[] #[]]; simpa using this)
  clear hw1 Hwc
  have hlen : ∀ (k : Nat) (hk : k < (Sm.rawWords s).length), (Sm.rawWords s)[k].length ≤ 4000 := fun k hk => Sm.wordsFrom_len (n := 4000) (List.getElem_mem hk) (by simpa using hs)
  have hcnt : (Sm.rawWords s).length ≤ 4000 := by
    have h1 := Sm.words_sum s.length [] s (Nat.le_refl _)
    have h2 := len_le_sum (l := (Sm.rawWords s).map List.length) (fun x hx => by
      obtain ⟨y, hy, rfl⟩ := List.mem_map.1 hx
      exact List.length_pos_iff.2 (h1.2 y hy))
    rw [List.length_map] at h2
    have h3 := h1.1
    simp only [List.length_nil, Nat.zero_add] at h3
    unfold Sm.rawWords at h2 ⊢
    unfold Sm.wordsFrom at h3
    omega
  have HT := Lib.hid hT
  have Hlen := Lib.hid hlen
  clear hT hlen
  obtain ⟨g, hg⟩ : ∃ g, g = w.heap.size + 1 := ⟨_, rfl⟩
  have hs1' : w1.heap.size = g + 3 := by omega
  rw [← hg] at k1
  rw [show w.heap.size + 2 = g + 1 by omega] at k2
  rw [show w.heap.size + 3 = g + 2 by omega] at k3
  go_wp2
  rw [← hg]
  have hg1 : g ≤ w.heap.size + 1 := Nat.le_of_eq hg
  have hg2 : w.heap.size + 1 ≤ g := Nat.le_of_eq hg.symm
  clear hg
  have Hs1 := Lib.hid hs1
  have hs1a : w1.heap.size ≤ g + 3 := Nat.le_of_eq hs1'
  have hs1b : g + 3 ≤ w1.heap.size := Nat.le_of_eq hs1'.symm
  clear hs1 hs1'
  refine wp_rangeFunc_iter (ff_iter (g + 1) (g + 1 + 1) s (by omega)) rfl (enters_of Tryz.func240 (by kernel_rfl) rfl) (fun _ => rfl)
    (fun k S W => S g ∧ (∀ b, S b → b = g ∨ g + 3 ≤ b) ∧ Below w.heap.size w W ∧ Blk W w.heap.size 27 #[.int .i64 0, .int .i64 0] ∧ ∃ A' c' L, Hid (L = ((Sm.rawWords s).take k).map Sm.lower) ∧ Blk W g 59 #[.slice A' L.length c'] ∧ Own strC M0 W (g + 3) 9 (.slice A' L.length c') L ∧
      (∀ b, (Value.slice A' L.length c').ownBlock = some b → S b)) (fun _ _ _ _ => False) (fun b => b = g) ?_ ?_ ?_ (fun _ _ _ _ _ h _ => h)
    ⟨rfl, fun b hb => .inl hb, hbw1, k0, none, 0, [], Lib.hid (by simp), k1, Own.nil _ _ _ _ _, fun b hb => by simp [Value.ownBlock] at hb⟩
    (fun x => { tmps := #[.string (bs s), undef, .slice none 0 0, .pointer (some ⟨w.heap.size, 0, none⟩), .pointer (some ⟨g, 0, none⟩), .string (bs x), .string (bs s), .int .i64 s.length, .bool false, undef, .string (bs s),
      .func (.func 240) #[] #[.pointer (some ⟨g + 1, 0, none⟩), .pointer (some ⟨g + 1 + 1, 0, none⟩)], .string (bs x), undef, undef, undef, undef, undef, undef, undef], defers := [] }) ?_ ?_ ?_ ?_
  · rintro b rfl; omega
  · intro S' W hS' hbW
    refine ⟨k2.ext hbW, fun hb => by rcases hS' _ hb with h | h <;> omega, k3.ext hbW, fun hb => by rcases hS' _ hb with h | h <;> omega, w, HT.out, hbw1.trans (hbW.mono hbw1.size), fun b hb => by rcases hS' _ hb with h | h <;> omega⟩
  · rintro k S W W' ⟨h1, h2, h3, h0, A', c', L, hL, h4, h5, h6⟩ hkept
    refine ⟨h1, h2, hkept.below (by omega) h3 h3.size, h0.keep (hkept.same _ h0.lt (.inl (by omega))), A', c', L, hL, h4.keep (hkept.same _ h4.lt (.inr h1)), h5.flat (fun b hb => hkept.same b (h5.lt b hb) (.inr (h6 b hb))), h6⟩
  · intro l' x W K hK
    simp only [encW]
    gi_wp2_with (rw [Oper.semAt_eq _ _ _ (fun c h => by cases h)]; go_simp)
    exact hK
  · rintro l' k hk S W ⟨h1, h2, h3, h0, A', c', L, hL, h4, h5, h6⟩ hlt hsz
    obtain ⟨hc, hz, hb⟩ := h4.one
    have hrl := Hlen.out k hk
    obtain ⟨r, hr⟩ : ∃ r, r = (Sm.rawWords s)[k] := ⟨_, rfl⟩
    rw [← hr] at hrl ⊢
    have Hr := Lib.hid hr
    clear hr
    gi_wp2_with (rw [Oper.semAt_eq _ _ _ (fun c h => by cases h)]; go_simp)
    refine wpIn_region_D_round (fun W' => W'.cell? ⟨g, 0, none⟩ = some (.slice A' L.length c')) (fun j => j == 5) (by kernel_rfl) (by kernel_rfl) (fun hh => by obtain ⟨_, _, hh⟩ := hh; exact hh) ?_
    refine anyD_light (i := 0) (v := .slice A' L.length c') rfl (by kernel_rfl) (by kernel_rfl) (by kernel_rfl) (by kernel_rfl) (by kernel_rfl) (fun _ _ _ h => h) (.inl ⟨rfl, fun W' hW' => by simp [go_sem, hW', execOp]⟩) hc ?_
    refine anyD_light (i := 1) (v := .string (bs r)) rfl (by kernel_rfl) (by kernel_rfl) (by kernel_rfl) (by kernel_rfl) (by kernel_rfl) (fun _ _ _ h => h) (.inl ⟨rfl, fun W' hW' => by simp [go_sem, execOp]⟩) hc ?_
    refine anyD_one (i := 2) (by kernel_rfl) rfl rfl (fun K hK => ?_)
    have HK := Lib.hid hK
    clear hK
    unfold Oper.wp
    go_simp
    refine (stemLower_ok r (by omega) _ ((HT.out.ext h3).ext (below_drewN' _ _ 1))).mono ?_
    rintro e W1 ⟨rfl, hb1'⟩
    have h4' := (h4.drewN 1).ext hb1'
    refine HK.out _ _ (fun _ => h4'.one.1) ?_
    clear HK
    refine anyD_one (i := 3) (by kernel_rfl) rfl rfl (fun K hK => ?_)
    have HK := Lib.hid hK
    clear hK
    unfold Oper.wp
    go_simp
    refine HK.out _ _ (fun _ => (h4'.alloc _).one.1) ?_
    clear HK
    refine anyD_one (i := 4) (by kernel_rfl) rfl rfl (fun K hK => ?_)
    have HK := Lib.hid hK
    clear hK
    have hLk : L.length ≤ 4000 := by rw [hL.out, List.length_map, List.length_take]; omega
    have hll := Sm.lower_len r.length r (Nat.le_refl _)
    have hszW : W.heap.size ≤ W1.heap.size := hb1'.size
    have hown2 : Own strC M0 W1 (g + 3) 9 (.slice A' L.length c') L := (h5.ext (below_drewN' _ _ 1)).ext hb1'
    refine wp_push_Own strC (w := W1) (M := M0) (B := g + 3) (v := .slice A' L.length c') (l := L) (cs := [.string (bs (Sm.lower r))]) (y := Sm.lower r) TStrs (.tmp 13) (.tmp 16) rfl rfl hown2 rfl ⟨rfl, by unfold maxLen; omega⟩ (fun b hb => hb.elim) (by simp [maxLen]; omega) (by omega) (by omega) ?_
    intro A3 c3 L3 W3 hL3 hown3 hbl3 hgr3 hor3
    have hne : some g ≠ (Value.slice A' L.length c').ownBlock := fun e => by have := h5.base _ e.symm; omega
    have h43 := h4'.grown hgr3 hne
    obtain ⟨q0, q1, q2⟩ := h43.one
    refine HK.out _ _ (fun _ => q0) ?_
    clear HK
    refine anyD_one (i := 5) (by kernel_rfl) rfl rfl (fun K hK => ?_)
    have HK := Lib.hid hK
    clear hK
    unfold Oper.wp
    go_simp
    refine HK.out _ _ (fun h => by cases h) ?_
    clear HK
    refine anyD_done (by kernel_rfl) ?_ _
    have hs1 : W.heap.size ≤ W3.heap.size := Nat.le_trans hszW hbl3.size
    have hwsz := h3.size
    have hown4 : ∀ b, (Value.slice A3 L3.length c3).ownBlock = some b → (S b ∨ (W.heap.size ≤ b ∧ b < W3.heap.size)) ∧ b ≠ g := fun b ho => by
      refine ⟨?_, by have := hown3.base b ho; omega⟩
      rcases hor3 with e | e
      · exact .inl (h6 b (e ▸ ho))
      · have h7 := hown3.lt b ho
        rw [e] at ho; injection ho with ho
        exact .inr ⟨by omega, h7⟩
    refine ⟨fun b => S b ∨ (W.heap.size ≤ b ∧ b < W3.heap.size), ⟨hbl3.os.trans hb1'.os, hbl3.tape.trans hb1'.tape, hbl3.output.trans hb1'.output, by simpa using hs1, fun b hb1 hnS => ?_, fun b hb1 => ?_⟩, .inl h1, fun b hb1 => ?_, ?_, ?_, A3, c3, L3, ?_, ?_, ?_, fun b ho => (hown4 b ho).1⟩
    · refine (Below.heap_setCell _ _ _ _ fun e => hnS (by rw [e]; exact h1)).trans ((hgr3.block b (by omega) fun e => hnS (h6 b e.symm)).trans (hb1'.block b hb1))
    · rcases hb1 with h7 | h7
      · exact ⟨by have := hlt b h7; simp; omega, .inl h7⟩
      · exact ⟨by simp; omega, .inr h7.1⟩
    · rcases hb1 with h7 | h7
      · exact h2 b h7
      · exact .inr (by omega)
    · exact Below.setCell (p := ⟨g, 0, none⟩) (h3.trans (((below_drewN' _ W 1).trans (hb1'.mono (by show w.heap.size ≤ W.heap.size; omega)) : Below w.heap.size W W1).trans (hbl3.mono (by omega)))) (by show w.heap.size ≤ g; omega) _
    · refine ((h0.drewN 1).ext hb1').keep ((Below.heap_setCell _ _ _ _ (by show w.heap.size ≠ g; omega)).trans (hgr3.block _ (by have := h0.lt; omega) fun e => by have := h5.base _ e.symm; omega))
    · exact Lib.hid (by rw [hL3.out, hL.out, List.take_succ_eq_append_getElem hk, List.map_append, ← Hr.out]; rfl)
    · have := h43.set_ 0 (Value.slice A3 L3.length c3); simpa using this
    · exact hown3.flat fun b hb => Below.heap_setCell _ _ _ _ (hown4 b hb).2
  · rintro D S W hD hSD ⟨h1, h2, h3, h0, A', c', L, hL, h4, h5, h6⟩ hWD
    obtain ⟨hc, hz, hb⟩ := h4.one
    have hk9 := (h4.drewN 1)
    have k9 := (h0.drewN 1)
    have hne : ¬ w.heap.size = g := by omega
    have hne' : ¬ g = w.heap.size := by omega
    go_wp2
    go_region_held3 (fun W' => W'.cell? ⟨g, 0, none⟩ = some (.slice A' L.length c')) (first | exact hk9.one.1 | exact hk11.one.1 | exact hk12.one.1) (first
      | (go_at_call 59; refine (none_ok _).mono ?_; rintro e w6 ⟨rfl, hb6⟩; have hk11 := hk9.ext hb6; have k10 := k9.ext hb6; obtain ⟨c0, c1, z0, z1, s1⟩ := k10.two; have hk12 := (hk11.far (p := ⟨w.heap.size, 0, none⟩) hne' (.int .i64 0)).far (p := ⟨w.heap.size, 1, none⟩) hne' (.int .i64 0)))
    go_wp2
    have hLe : L = Sm.words s := by rw [hL.out, List.take_length]; rfl
    have hDlt : D < W.heap.size := (Array.getElem?_eq_some_iff.1 hWD).1
    have hb56 : Below W.heap.size W w6 := (below_drewN' _ W 1).trans hb6
    have hDw : D ≠ w.heap.size := by omega
    obtain ⟨W8, hW8⟩ : ∃ W8, W8 = (w6.setCell ⟨w.heap.size, 0, none⟩ (.int .i64 0)).setCell ⟨w.heap.size, 1, none⟩ (.int .i64 0) := ⟨_, rfl⟩
    have hfar : ∀ b, b ≠ w.heap.size → W8.heap[b]? = w6.heap[b]? := fun b hb1 => by
      rw [hW8]
      exact (Below.heap_setCell _ _ _ _ hb1).trans (Below.heap_setCell _ _ _ _ hb1)
    have k11 : Blk W8 w.heap.size 27 #[.int .i64 0, .int .i64 0] := by
      rw [hW8]
      simpa using (k10.set_ 0 (.int .i64 0)).set_ 1 (.int .i64 0)
    have hbW8 : Below w.heap.size w W8 := by
      rw [hW8]
      exact below_set2 (h3.trans (hb56.mono h3.size)) (Nat.le_refl _) _ _
    have hs8 : W8.heap.size = w6.heap.size := by rw [hW8]; simp
    rw [← hW8]
    clear hW8
    have k12 : Blk (W8.putObj D (.deferred none)) w.heap.size 27 #[.int .i64 0, .int .i64 0] := k11.keep (World.putObj_heap_other (fun e => hDw e.symm))
    obtain ⟨e0, e1, _⟩ := k12.two
    have hWD8 : W8.heap[D]? = some (.deferred (some [])) := (hfar D hDw).trans ((hb56.block D hDlt).trans hWD)
    have h10 : Own strC M0 (W8.putObj D (.deferred none)) w.heap.size 9 (.slice A' L.length c') L := by
      have h11 : Own strC M0 (W8.putObj D (.deferred none)) (g + 3) 9 (.slice A' L.length c') L := h5.flat fun b ho => by
        have hx := h5.base b ho
        have hxD : b ≠ D := fun e => hSD (e ▸ h6 b ho)
        exact (World.putObj_heap_other hxD).trans ((hfar b (by omega)).trans (hb56.block b (h5.lt b ho)))
      exact h11.weak (by omega) (fun _ h => h)
    exact bodyPostM_one hWD8 (v := .tuple #[.slice A' L.length c', .agg #[.int .i64 0, .int .i64 0]]) (by simp [results, Tryz.results104, go_sem, e0, e1]) ⟨A', c', L, rfl, Lib.hid hLe, h10,
      ⟨hbW8.os, hbW8.tape, hbW8.output, by rw [World.putObj_size]; exact hbW8.size, fun k hk => (World.putObj_heap_other (by omega)).trans (hbW8.block k hk)⟩⟩
  · rintro D c' k S W _ _ h
    exact h.elim
end Go.Proofs.YtfjpedgddgbelaaGreatDoor
namespace Go.Proofs.YtfjpedgddgbelaaGreatDoor
namespace Ix
set_option linter.unusedVariables false
def insId (ids : List Int) (id : Int) : List Int := ids.filter (fun n => decide (n < id)) ++ id :: ids.filter (fun n => decide (id < n))
def addF (x : Idx) (id : Int) (s : List Str) : Idx := (insId x.1 id, putAll id s 0 x.2)
def removeF (x : Idx) (id : Int) : Idx := (x.1.filter (fun n => !(n == id)), removeT id x.2)
theorem split_at {ids : List Int} {id : Int} {k : Nat} (hk : k ≤ ids.length) (h1 : ∀ (m : Nat) (h : m < ids.length), m < k → ids[m] < id) (h2 : ∀ (m : Nat) (h : m < ids.length), k ≤ m → id < ids[m]) :
    ids.filter (fun n => decide (n < id)) = ids.take k ∧ ids.filter (fun n => decide (id < n)) = ids.drop k := by
  have ht : ∀ n ∈ ids.take k, n < id := fun n hn => by
    obtain ⟨m, hm, rfl⟩ := List.mem_iff_getElem.1 hn
    rw [List.length_take] at hm
    rw [List.getElem_take]
    exact h1 m (by omega) (by omega)
  have hd : ∀ n ∈ ids.drop k, id < n := fun n hn => by
    obtain ⟨m, hm, rfl⟩ := List.mem_iff_getElem.1 hn
    rw [List.length_drop] at hm
    rw [List.getElem_drop]
    exact h2 _ (by omega) (by omega)
  constructor
  · conv => lhs; rw [← List.take_append_drop k ids]
    rw [List.filter_append, List.filter_eq_self.2 fun n hn => by simpa using ht n hn, List.filter_eq_nil_iff.2 fun n hn => by have := hd n hn; simp; omega, List.append_nil]
  · conv => lhs; rw [← List.take_append_drop k ids]
    rw [List.filter_append, List.filter_eq_nil_iff.2 fun n hn => by have := ht n hn; simp; omega, List.filter_eq_self.2 fun n hn => by simpa using hd n hn, List.nil_append]
theorem insId_at {ids : List Int} {id : Int} {k : Nat} (hk : k ≤ ids.length) (h1 : ∀ (m : Nat) (h : m < ids.length), m < k → ids[m] < id) (h2 : ∀ (m : Nat) (h : m < ids.length), k ≤ m → id < ids[m]) : insId ids id = ids.take k ++ id :: ids.drop k := by
  obtain ⟨a, b⟩ := split_at hk h1 h2
  unfold insId
  rw [a, b]
theorem mem_insId {ids : List Int} {id n : Int} : n ∈ insId ids id ↔ n = id ∨ n ∈ ids := by
  unfold insId
  simp only [List.mem_append, List.mem_cons, List.mem_filter, decide_eq_true_eq]
  constructor
  · rintro (⟨h, _⟩ | h | ⟨h, _⟩)
    · exact .inr h
    · exact .inl h
    · exact .inr h
  · rintro (h | h)
    · exact .inr (.inl h)
    · rcases Int.lt_trichotomy n id with e | e | e
      · exact .inl ⟨h, e⟩
      · exact .inr (.inl e)
      · exact .inr (.inr ⟨h, e⟩)
theorem insId_sorted {ids : List Int} {id : Int} (h : ids.Pairwise (· < ·)) : (insId ids id).Pairwise (· < ·) := by
  unfold insId
  rw [List.pairwise_append]
  refine ⟨h.sublist List.filter_sublist, List.pairwise_cons.2 ⟨fun n hn => by simpa using (List.mem_filter.1 hn).2, h.sublist List.filter_sublist⟩, fun a ha b hb => ?_⟩
  have h1 : a < id := by simpa using (List.mem_filter.1 ha).2
  rcases List.mem_cons.1 hb with e | e
  · rw [e]; exact h1
  · have h2 : id < b := by simpa using (List.mem_filter.1 e).2
    omega
theorem filter_parts {ids : List Int} {id : Int} (hid : id ∉ ids) (h : ids.Pairwise (· < ·)) : ids.filter (fun n => decide (n < id)) ++ ids.filter (fun n => decide (id < n)) = ids := by
  induction ids with
  | nil => rfl
  | cons a r ih =>
    rw [List.pairwise_cons] at h
    have hne : a ≠ id := fun e => hid (by rw [e]; exact List.mem_cons_self)
    have hr : id ∉ r := fun e => hid (List.mem_cons_of_mem _ e)
    by_cases ha : a < id
    · have : ¬ id < a := by omega
      simp [ha, this, ih hr h.2]
    · have ha2 : id < a := by omega
      have : r.filter (fun n => decide (n < id)) = [] := List.filter_eq_nil_iff.2 fun n hn => by have := h.1 n hn; simp; omega
      have h3 : r.filter (fun n => decide (id < n)) = r := List.filter_eq_self.2 fun n hn => by have := h.1 n hn; simp; omega
      simp [ha, ha2, this, h3]
theorem insId_len {ids : List Int} {id : Int} (hid : id ∉ ids) (h : ids.Pairwise (· < ·)) : (insId ids id).length = ids.length + 1 := by
  have := congrArg List.length (filter_parts hid h)
  rw [List.length_append] at this
  unfold insId
  rw [List.length_append, List.length_cons]
  omega
theorem remove_insId {ids : List Int} {id : Int} (hid : id ∉ ids) (h : ids.Pairwise (· < ·)) : (insId ids id).filter (fun n => !(n == id)) = ids := by
  conv => rhs; rw [← filter_parts hid h]
  unfold insId
  rw [List.filter_append, List.filter_cons, List.filter_filter, List.filter_filter]
  simp only [beq_self_eq_true, Bool.not_true, Bool.false_eq_true, if_false]
  congr 1
  · exact List.filter_congr fun n _ => by by_cases e : n < id <;> simp [e]; omega
  · exact List.filter_congr fun n _ => by by_cases e : id < n <;> simp [e]; omega
theorem sorted_ext {a b : List Int} (ha : a.Pairwise (· < ·)) (hb : b.Pairwise (· < ·)) (h : ∀ n, n ∈ a ↔ n ∈ b) : a = b := by
  refine List.Perm.eq_of_pairwise (le := fun x y => x < y) (fun x y _ _ h1 h2 => by omega) ha hb ?_
  exact (List.perm_ext_iff_of_nodup (ha.imp fun h => by omega) (hb.imp fun h => by omega)).2 h
theorem insId_comm {ids : List Int} {a b : Int} (h : ids.Pairwise (· < ·)) : insId (insId ids a) b = insId (insId ids b) a := by
  refine sorted_ext (insId_sorted (insId_sorted h)) (insId_sorted (insId_sorted h)) fun n => ?_
  simp only [mem_insId]
  constructor <;> rintro (h | h | h) <;> simp [h]
theorem eraseIdx_filter {ids : List Int} (h : ids.Pairwise (· < ·)) {k : Nat} (hk : k < ids.length) : ids.eraseIdx k = ids.filter fun n => !(n == ids[k]) := by
  have hp := List.pairwise_iff_getElem.1 h
  refine sorted_ext (h.sublist (List.eraseIdx_sublist _ _)) (h.sublist List.filter_sublist) fun n => ?_
  rw [List.mem_eraseIdx_iff_getElem, List.mem_filter]
  constructor
  · rintro ⟨i, hi, hik, rfl⟩
    refine ⟨List.getElem_mem _, ?_⟩
    rcases Nat.lt_or_gt_of_ne hik with e | e
    · have := hp i k hi hk e; simp; omega
    · have := hp k i hk hi e; simp; omega
  · rintro ⟨h1, h2⟩
    obtain ⟨i, hi, rfl⟩ := List.mem_iff_getElem.1 h1
    exact ⟨i, hi, fun e => by subst e; simp at h2, rfl⟩
/-! ### members and contents -/
theorem cont_mem {ts : List Term} (h : Wf ts) {t : Term} (ht : t ∈ ts) {p : Post} (hp : p ∈ t.2) : cont ts t.1 p.1 = p.2 := by
  unfold cont
  rw [Al.look_of_mem tot_str h.srt (show (t.1, t.2) ∈ ts from ht)]
  show (Al.look t.2 p.1).getD [] = _
  rw [Al.look_of_mem totI (h.post t ht).2.1 (show (p.1, p.2) ∈ t.2 from hp)]
  rfl
theorem mem_cont {ts : List Term} {w : Str} {i : Int} (h : cont ts w i ≠ []) : ∃ t ∈ ts, t.1 = w ∧ ∃ p ∈ t.2, p.1 = i ∧ p.2 = cont ts w i := by
  unfold cont at h ⊢
  cases hw : Al.look ts w with
  | none => rw [hw] at h; exact absurd rfl h
  | some ps =>
    rw [hw] at h
    simp only [Option.bind_some] at h ⊢
    cases hq : Al.look ps i with
    | none => rw [hq] at h; exact absurd rfl h
    | some q => exact ⟨_, Al.look_mem hw, rfl, _, Al.look_mem hq, rfl, rfl⟩
theorem occ_range (w : Str) : ∀ (s : List Str) (n : Nat), (occ w s n).Pairwise (· < ·) ∧ ∀ m ∈ occ w s n, (n : Int) ≤ m ∧ m < n + s.length
  | [], n => by simp [occ]
  | a :: s, n => by
    have ih := occ_range w s (n + 1)
    rw [occ]
    split
    · refine ⟨List.pairwise_cons.2 ⟨fun m hm => by have := (ih.2 m hm).1; omega, ih.1⟩, fun m hm => ?_⟩
      rcases List.mem_cons.1 hm with e | e
      · simp; omega
      · have := ih.2 m e; simp; omega
    · exact ⟨ih.1, fun m hm => by have := ih.2 m hm; simp; omega⟩
theorem occ_nil (w : Str) : ∀ (s : List Str) (n : Nat), occ w s n = [] ↔ w ∉ s
  | [], n => by simp [occ]
  | a :: s, n => by
    rw [occ]
    split
    · rename_i e; simp [e]
    · rename_i e
      rw [occ_nil w s (n + 1), List.mem_cons]
      simp only [not_or]
      exact ⟨fun h => ⟨fun e' => e e'.symm, h⟩, fun h => h.2⟩
theorem strange {x : Idx} (h : Canon x) {id : Int} (hid : id ∉ x.1) (w : Str) : cont x.2 w id = [] := by
  cases hc : cont x.2 w id with
  | nil => rfl
  | cons a r =>
    obtain ⟨t, ht, _, p, hp, e, _⟩ := mem_cont (ts := x.2) (w := w) (i := id) (by rw [hc]; simp)
    exact absurd (e ▸ ((h.post t ht).2.2 p hp).1) hid
theorem canon_add {x : Idx} (h : Canon x) {id : Int} {s : List Str} (h1 : 1 ≤ id ∧ id ≤ 1000000) (hid : id ∉ x.1) (hn : x.1.length < 300) (hs : ∀ w ∈ s, w ≠ [] ∧ w.length ≤ 8000) (hsl : s.length ≤ 1000000) (hm : (putAll id s 0 x.2).length ≤ 1000000) : Canon (addF x id s) := by
  have hwf := h.wf
  have hw' := Wf.putAll id s 0 hwf
  have hc := cont_putAll id s 0 hwf
  have key : ∀ t ∈ putAll id s 0 x.2, ∀ p ∈ t.2, (t.1 ≠ [] ∧ t.1.length ≤ 8000) ∧ p.1 ∈ insId x.1 id ∧ p.2.Pairwise (· < ·) ∧ ∀ n ∈ p.2, 0 ≤ n ∧ n ≤ 1000000 := by
    intro t ht p hp
    have e := cont_mem hw' ht hp
    have hne := (hw'.post t ht).2.2 p hp
    rw [hc] at e
    split at e
    · rename_i hi
      rw [strange h hid, List.nil_append] at e
      rw [← e] at hne ⊢
      have hmem : t.1 ∈ s := Classical.byContradiction fun hno => hne ((occ_nil _ _ _).2 hno)
      have ho := occ_range t.1 s 0
      exact ⟨hs _ hmem, mem_insId.2 (.inl hi), ho.1, fun n hn => by have := ho.2 n hn; omega⟩
    · rename_i hi
      rw [← e] at hne
      obtain ⟨t', ht', e1, p', hp', e2, e3⟩ := mem_cont hne
      have h2 := (h.post t' ht').2.2 p' hp'
      rw [e3, e] at h2
      exact ⟨by rw [← e1]; exact h.word t' ht', mem_insId.2 (.inr (e2 ▸ h2.1)), h2.2.2⟩
  refine ⟨by show (insId x.1 id).length ≤ 300; rw [insId_len hid h.ids]; omega, insId_sorted h.ids, fun n hn => ?_, hm, hw'.srt, fun t ht => ?_, fun t ht => ?_⟩
  · rcases mem_insId.1 hn with e | e
    · rw [e]; exact h1
    · exact h.idr n e
  · obtain ⟨hne, _, _⟩ := hw'.post t ht
    obtain ⟨p, r, e⟩ : ∃ p r, t.2 = p :: r := by cases h : t.2 with | nil => exact absurd h hne | cons p r => exact ⟨p, r, rfl⟩
    exact (key t ht p (by rw [e]; exact List.mem_cons_self)).1
  · obtain ⟨hne, hsr, hno⟩ := hw'.post t ht
    exact ⟨hne, hsr, fun p hp => ⟨(key t ht p hp).2.1, hno p hp, (key t ht p hp).2.2⟩⟩
theorem len_filter_lt {ids : List Int} (p : Int → Bool) : (ids.filter p).length ≤ ids.length := List.length_filter_le _ _
theorem canon_remove {x : Idx} (h : Canon x) (id : Int) : Canon (removeF x id) := by
  have hw' := h.wf.remove id
  have hc := cont_remove h.wf id
  have key : ∀ t ∈ removeT id x.2, ∀ p ∈ t.2, (t.1 ≠ [] ∧ t.1.length ≤ 8000) ∧ p.1 ∈ x.1.filter (fun n => !(n == id)) ∧ p.2.Pairwise (· < ·) ∧ ∀ n ∈ p.2, 0 ≤ n ∧ n ≤ 1000000 := by
    intro t ht p hp
    have e := cont_mem hw' ht hp
    have hne := (hw'.post t ht).2.2 p hp
    rw [hc] at e
    split at e
    · exact absurd e.symm hne
    · rename_i hi
      rw [← e] at hne
      obtain ⟨t', ht', e1, p', hp', e2, e3⟩ := mem_cont hne
      have h2 := (h.post t' ht').2.2 p' hp'
      rw [e3, e] at h2
      refine ⟨by rw [← e1]; exact h.word t' ht', List.mem_filter.2 ⟨e2 ▸ h2.1, by simpa using hi⟩, h2.2.2⟩
  refine ⟨?_, h.ids.sublist List.filter_sublist, fun n hn => h.idr n (List.mem_filter.1 hn).1, ?_, hw'.srt, fun t ht => ?_, fun t ht => ?_⟩
  · have := h.few
    have := List.length_filter_le (fun n => !(n == id)) x.1
    show (x.1.filter _).length ≤ 300
    omega
  · have := h.many
    have h2 : (removeT id x.2).length ≤ x.2.length := by
      unfold removeT
      refine Nat.le_trans (List.length_filter_le _ _) ?_
      rw [List.length_map]
      exact Nat.le_refl _
    show (removeT id x.2).length ≤ 1000000
    omega
  · obtain ⟨hne, _, _⟩ := hw'.post t ht
    obtain ⟨p, r, e⟩ : ∃ p r, t.2 = p :: r := by cases h : t.2 with | nil => exact absurd h hne | cons p r => exact ⟨p, r, rfl⟩
    exact (key t ht p (by rw [e]; exact List.mem_cons_self)).1
  · obtain ⟨hne, hsr, hno⟩ := hw'.post t ht
    exact ⟨hne, hsr, fun p hp => ⟨(key t ht p hp).2.1, hno p hp, (key t ht p hp).2.2⟩⟩
/-! ### the laws -/
theorem remove_add {x : Idx} (h : Canon x) {id : Int} (hid : id ∉ x.1) (s : List Str) : removeF (addF x id s) id = x := by
  unfold removeF addF
  rw [remove_insId hid h.ids, remove_put h.wf id s (strange h hid)]
theorem add_comm {x : Idx} (h : Canon x) {a b : Int} (s t : List Str) (hab : a ≠ b) : addF (addF x a s) b t = addF (addF x b t) a s := by
  unfold addF
  simp only
  rw [insId_comm h.ids, put_comm h.wf a b s t hab]
/-! ### how many terms there are -/
theorem upd_len {f : Option (List Post) → List Post} {w : Str} : ∀ {ts : List Term}, Al.Sorted ltS ts → (Al.upd ltS f w ts).length = ts.length + if Al.look ts w = none then 1 else 0
  | [], _ => by simp [Al.upd, Al.look]
  | t :: ts, h => by
    have h0 := h
    unfold Al.Sorted at h
    rw [List.pairwise_cons] at h
    rw [Al.upd]
    split
    · rename_i hlt
      have hne : ¬ t.1 = w := tot_str.ne hlt
      rw [List.length_cons, upd_len h.2, Al.look, if_neg hne, List.length_cons]
      omega
    · rename_i hlt
      split
      · rename_i e
        rw [Al.look, if_pos e]
        simp
      · rename_i e
        have hgt : ltS w t.1 = true := by
          cases hh : ltS w t.1 with
          | true => rfl
          | false => exact absurd (tot_str.total _ _ (by simpa using hlt) hh) e
        have hn : Al.look (t :: ts) w = none := Al.look_none fun q hq e2 => by
          rcases List.mem_cons.1 hq with e3 | e3
          · subst e3; exact e e2
          · exact tot_str.ne (tot_str.trans _ _ _ hgt (h.1 _ e3)) e2.symm
        rw [hn]
        simp
/-- how many words are new -/
def fresh (ts : List Term) : List Str → List Str → Nat
  | _, [] => 0
  | seen, w :: s => (if Al.look ts w = none ∧ w ∉ seen then 1 else 0) + fresh ts (seen ++ [w]) s
theorem look_putT {id place : Int} {ts : List Term} (h : Wf ts) (w w' : Str) : Al.look (putT id place w ts) w' = none ↔ Al.look ts w' = none ∧ w' ≠ w := by
  unfold putT
  rw [Al.look_upd tot_str h.srt]
  by_cases e : w' = w
  · simp [e]
  · simp [e]
theorem putAll_len (id : Int) (ts0 : List Term) : ∀ (s : List Str) (n : Nat) (seen : List Str) {ts : List Term}, Wf ts → (∀ w, Al.look ts w = none ↔ Al.look ts0 w = none ∧ w ∉ seen) → (putAll id s n ts).length = ts.length + fresh ts0 seen s
  | [], n, seen, ts, _, _ => rfl
  | w :: s, n, seen, ts, h, hl => by
    rw [putAll, putAll_len id ts0 s (n + 1) (seen ++ [w]) (h.put id n w) fun w' => by
      rw [look_putT h, hl w', List.mem_append, List.mem_singleton]
      constructor
      · rintro ⟨⟨a, b⟩, c⟩; exact ⟨a, fun e => e.elim b c⟩
      · rintro ⟨a, b⟩; exact ⟨⟨a, fun e => b (.inl e)⟩, fun e => b (.inr e)⟩]
    rw [show (putT id n w ts).length = _ from upd_len h.srt, fresh]
    by_cases e : Al.look ts w = none
    · rw [if_pos e, if_pos ((hl w).1 e)]; omega
    · rw [if_neg e, if_neg fun e' => e ((hl w).2 e')]; omega
theorem fresh_le (ts : List Term) : ∀ (s seen : List Str), fresh ts seen s ≤ s.length
  | [], _ => Nat.le_refl _
  | w :: s, seen => by
    have := fresh_le ts s (seen ++ [w])
    rw [fresh, List.length_cons]
    split <;> omega
end Ix
end Go.Proofs.YtfjpedgddgbelaaGreatDoor
namespace Go.Proofs.YtfjpedgddgbelaaGreatDoor
open Go.RowKit
set_option linter.unusedVariables false
theorem cloneTerm_ok (M : Nat → Prop) (v : Value) (l : List _) (w : World) (h : SlR rtC M w v l) (hn : l.length ≤ 1000001) : Calls Tryz.prog 107 #[v] w fun e w' =>
    ∃ v', e = .returned v' ∧ Own rtC M w' w.heap.size 43 v' l ∧ Below w.heap.size w w' := by
  obtain ⟨A, c, rfl, _, _⟩ := h.form
  have hnil := fun w => Lib.run_eql_slice_nil (P := Tryz.prog) w 23 43 A l.length c 0 0 Tryz.underlying23
  rcases A with _ | ad
  · go_enter Tryz.func107, Tryz.ntmps107
    go_wp2
    go_ret
    obtain rfl : l = [] := List.eq_nil_of_length_eq_zero (Nat.eq_zero_of_not_pos fun h0 => by obtain ⟨_, _, _, h', _⟩ := h.at_ h0; cases h')
    exact ⟨_, rfl, Own.nil _ _ _ _ _, Below.refl _ _⟩
  · go_enter Tryz.func107, Tryz.ntmps107
    go_wp2_with (at_builtin; refine wpList_append_Own rtC (M := M) (B := w.heap.size) (l := []) (l' := l) TTerms rfl (.tmp 5) (.tmp 6) rfl rfl (Own.built (cs := []) _ (Els.nil _ _ _) (Nat.le_refl _) (Nat.zero_le _)) rfl ?_ ?_ ?_ ?_ ?_)
    case refine_1 =>
      refine (h.sub fun b hb hor => ?_).ext ((Below.refl _ _).alloc (Nat.le_refl _) _)
      rcases hor with h' | h'
      · exact h'
      · have h2 : w.heap.size = b := by simpa [Act.eval, Value.ownBlock] using h'
        omega
    case refine_2 => simp [maxLen]; omega
    case refine_3 => simp; omega
    case refine_4 => simp
    case refine_5 =>
      intro A' c' L w' hL hown _ hg hor
      obtain rfl : L = l := by simpa using hL.out
      go_wp2
      go_ret
      refine ⟨_, rfl, hown, ((Below.refl _ _).alloc (Nat.le_refl _) _).grown hg (by simp) fun k hk => ?_⟩
      simp [Value.ownBlock] at hk; omega
theorem clonePost_ok (M : Nat → Prop) (v : Value) (l : List _) (w : World) (h : SlR rpC M w v l) (hn : l.length ≤ 1000001) : Calls Tryz.prog 153 #[v] w fun e w' =>
    ∃ v', e = .returned v' ∧ Own rpC M w' w.heap.size 96 v' l ∧ Below w.heap.size w w' := by
  obtain ⟨A, c, rfl, _, _⟩ := h.form
  have hnil := fun w => Lib.run_eql_slice_nil (P := Tryz.prog) w 31 96 A l.length c 0 0 Tryz.underlying31
  rcases A with _ | ad
  · go_enter Tryz.func153, Tryz.ntmps153
    go_wp2
    go_ret
    obtain rfl : l = [] := List.eq_nil_of_length_eq_zero (Nat.eq_zero_of_not_pos fun h0 => by obtain ⟨_, _, _, h', _⟩ := h.at_ h0; cases h')
    exact ⟨_, rfl, Own.nil _ _ _ _ _, Below.refl _ _⟩
  · go_enter Tryz.func153, Tryz.ntmps153
    go_wp2_with (at_builtin; refine wpList_append_Own rpC (M := M) (B := w.heap.size) (l := []) (l' := l) TPosts rfl (.tmp 5) (.tmp 6) rfl rfl (Own.built (cs := []) _ (Els.nil _ _ _) (Nat.le_refl _) (Nat.zero_le _)) rfl ?_ ?_ ?_ ?_ ?_)
    case refine_1 =>
      refine (h.sub fun b hb hor => ?_).ext ((Below.refl _ _).alloc (Nat.le_refl _) _)
      rcases hor with h' | h'
      · exact h'
      · have h2 : w.heap.size = b := by simpa [Act.eval, Value.ownBlock] using h'
        omega
    case refine_2 => simp [maxLen]; omega
    case refine_3 => simp; omega
    case refine_4 => simp
    case refine_5 =>
      intro A' c' L w' hL hown _ hg hor
      obtain rfl : L = l := by simpa using hL.out
      go_wp2
      go_ret
      refine ⟨_, rfl, hown, ((Below.refl _ _).alloc (Nat.le_refl _) _).grown hg (by simp) fun k hk => ?_⟩
      simp [Value.ownBlock] at hk; omega
theorem cloneInt_ok (M : Nat → Prop) (v : Value) (l : List _) (w : World) (h : SlR intC M w v l) (hn : l.length ≤ 1000001) : Calls Tryz.prog 106 #[v] w fun e w' =>
    ∃ v', e = .returned v' ∧ Own intC M w' w.heap.size 3 v' l ∧ Below w.heap.size w w' := by
  obtain ⟨A, c, rfl, _, _⟩ := h.form
  have hnil := fun w => Lib.run_eql_slice_nil (P := Tryz.prog) w 22 3 A l.length c 0 0 Tryz.underlying22
  rcases A with _ | ad
  · go_enter Tryz.func106, Tryz.ntmps106
    go_wp2
    go_ret
    obtain rfl : l = [] := List.eq_nil_of_length_eq_zero (Nat.eq_zero_of_not_pos fun h0 => by obtain ⟨_, _, _, h', _⟩ := h.at_ h0; cases h')
    exact ⟨_, rfl, Own.nil _ _ _ _ _, Below.refl _ _⟩
  · go_enter Tryz.func106, Tryz.ntmps106
    go_wp2_with (at_builtin; refine wpList_append_Own intC (M := M) (B := w.heap.size) (l := []) (l' := l) TInts rfl (.tmp 5) (.tmp 6) rfl rfl (Own.built (cs := []) _ (Els.nil _ _ _) (Nat.le_refl _) (Nat.zero_le _)) rfl ?_ ?_ ?_ ?_ ?_)
    case refine_1 =>
      refine (h.sub fun b hb hor => ?_).ext ((Below.refl _ _).alloc (Nat.le_refl _) _)
      rcases hor with h' | h'
      · exact h'
      · have h2 : w.heap.size = b := by simpa [Act.eval, Value.ownBlock] using h'
        omega
    case refine_2 => simp [maxLen]; omega
    case refine_3 => simp; omega
    case refine_4 => simp
    case refine_5 =>
      intro A' c' L w' hL hown _ hg hor
      obtain rfl : L = l := by simpa using hL.out
      go_wp2
      go_ret
      refine ⟨_, rfl, hown, ((Below.refl _ _).alloc (Nat.le_refl _) _).grown hg (by simp) fun k hk => ?_⟩
      simp [Value.ownBlock] at hk; omega
end Go.Proofs.YtfjpedgddgbelaaGreatDoor
namespace Go.Proofs.YtfjpedgddgbelaaGreatDoor
open Go.RowKit

set_option maxRecDepth 20000 in
theorem compareString_ok (a b : Str) (w : World) : Calls Tryz.prog 198 #[.string (bs a), .string (bs b)] w fun e w' => e = .returned (.int .i64 (Lib.compareBytes a b)) ∧ w = w' := by
  go_enter Tryz.func198, Tryz.ntmps198
  go_wp2
  rw [run_callFunc_extern Tryz.func241 (by kernel_rfl) (by kernel_rfl) (by kernel_rfl) (e := Extern.BytealgCompare.compare) (by kernel_rfl), Lib.run_compareString]
  simp only [Result.andThen]
  rw [Oper.upon_value]
  go_wp2
  go_ret
  exact ⟨by simp, rfl⟩
theorem compare_ok (a b : Str) (w : World) : Calls Tryz.prog 157 #[.string (bs a), .string (bs b)] w fun e w' => e = .returned (.int .i64 (Lib.compareBytes a b)) ∧ w = w' := by
  have hp := compareString_ok a b w
  have Hp := Lib.hid hp
  clear hp
  go_enter Tryz.func157, Tryz.ntmps157
  go_wp2_with fail
  refine Hp.out.mono ?_
  rintro e w1 ⟨rfl, rfl⟩
  go_wp2
  go_ret
  exact ⟨rfl, rfl⟩
end Go.Proofs.YtfjpedgddgbelaaGreatDoor
