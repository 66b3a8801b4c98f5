/-
  stem.Stems.
-/
import Derived.Test.YtinmpjhmbciapaaDoorSmJ
import Derived.RegionTactic
import Derived.ChangeAlike
namespace Go.Proofs.YtinmpjhmbciapaaDoor
open Go.RowKit
set_option linter.unusedVariables false
set_option maxHeartbeats 4000000 in
theorem stems_any (s : Str) (L0 : List Str) (a b : Int) (w : World)
    (hw : ∀ W : World, Below w.heap.size w W → Calls Tryd.prog 10 #[.string (bs s)] W fun e w' => ∃ (A : Option Addr) (c : Nat) (L : List Str), e = .returned (.tuple #[.slice A L.length c, .agg #[.int .i64 a, .int .i64 b]]) ∧
      Hid (L = L0) ∧ Own strC M0 w' W.heap.size 9 (.slice A L.length c) L ∧ Below W.heap.size W w') :
    Calls Tryd.prog 11 #[.string (bs s)] w fun e w' => ∃ (A : Option Addr) (c : Nat) (L : List Str), e = .returned (.tuple #[.slice A L.length c, .agg #[.int .i64 a, .int .i64 b]]) ∧
      Hid (L = L0.map Sm.stem) ∧ Own strC M0 w' w.heap.size 9 (.slice A L.length c) L ∧ Below w.heap.size w w' := by
  have Hw := Lib.hid hw
  clear hw
  go_enter Tryd.func11, Tryd.ntmps11
  go_wp2_with fail
  refine (Hw.out _ ((Below.refl _ _).alloc (Nat.le_refl _) _)).mono ?_
  rintro e w1 ⟨A, c, L, rfl, hL, hown1, hb1⟩
  have hbw1 := below_alloc hb1
  have k0 := (Blk.new w 24 #[.int .i64 0, .int .i64 0]).ext hb1
  rw [World.size_alloc] at hown1
  have hs1 : w.heap.size + 1 ≤ w1.heap.size := by have := hb1.size; rw [World.size_alloc] at this; exact this
  clear hb1
  have k1 := Blk.new w1 24 #[.int .i64 a, .int .i64 b]
  have k0' := k0.alloc (.cells #[.int .i64 a, .int .i64 b] 24)
  have hown1' := hown1.ext ((Below.refl w1.heap.size w1).alloc (Nat.le_refl _) (.cells #[.int .i64 a, .int .i64 b] 24))
  have hbw1' := hbw1.alloc hbw1.size (.cells #[.int .i64 a, .int .i64 b] 24)
  have hlt1 := hown1.lt
  obtain ⟨F, hF⟩ : ∃ F, F = w1.heap.size := ⟨_, rfl⟩
  rw [← hF] at k1 hlt1 hs1
  clear hown1
  go_wp2
  rw [← hF]
  generalize w1.alloc (.cells #[.int .i64 a, .int .i64 b] 24) = w1a at k1 k0' hown1' hbw1' ⊢
  have HF := Lib.hid hF
  have Hlt1 := Lib.hid hlt1
  clear hF hbw1 k0 hlt1
  go_loopw [15] (fun i wr => ∃ (k : Nat) (Lk : List Str), i = .int .i64 k ∧ k ≤ L.length ∧ Hid (Lk = mapTo Sm.stem L k) ∧ Hid (Lk.length = L.length) ∧ Own strC M0 wr (w.heap.size + 1) 9 (.slice A L.length c) Lk ∧ Blk wr w.heap.size 24 #[.int .i64 0, .int .i64 0] ∧ Blk wr F 24 #[.int .i64 a, .int .i64 b] ∧ Below w.heap.size w wr) (fun i _ => L.length - (intOf i).toNat)
  case atStart => exact ⟨0, L, rfl, Nat.zero_le _, Lib.hid (mapTo_zero _ _).symm, Lib.hid rfl, hown1', k0', k1, hbw1'⟩
  case round =>
    obtain ⟨k, Lk, rfl, hk, hLk, hlen, hown, q0, q1, hb⟩ := hrel
    clear k0' k1 hown1' hbw1'
    by_cases hlt : k < L.length
    · have hkl : k < Lk.length := by rw [hlen.out]; exact hlt
      obtain ⟨g, c', cur, hv, hlc, hcm, hBg, hblk, hcs⟩ := hown.blk (by omega)
      injection hv with hv1 hv2 hv3
      subst hv1 hv3
      obtain ⟨b', off, he, _, _, hcell, hel⟩ := hown.read0.strAt hkl
      injection he with he
      injection he with he1 he2
      subst he1 he2
      rw [Nat.zero_add] at hcell
      obtain ⟨x, hx⟩ : ∃ x, Lk[k] = x := ⟨_, rfl⟩
      rw [hx] at hcell hel
      have hxl : L[k] = x := by
        rw [← hx, ← mapTo_get Sm.stem L k hlt]
        congr 1
        exact hLk.out.symm
      have hc := fun W => of_ok x hel W
      obtain ⟨y, hy⟩ : ∃ y, Sm.stem x = y := ⟨_, rfl⟩
      rw [hy] at hc
      have hyl : y.length ≤ x.length := by rw [← hy]; exact Sm.stem_len x
      have hset : mapTo Sm.stem L (k + 1) = Lk.set k y := by rw [mapTo_succ Sm.stem L k hlt, hxl, hy, hLk.out]
      have Hc := Lib.hid hc; have Hset := Lib.hid hset
      have hbk := Lib.hid hblk
      unfold maxLen at hcm hel
      have hcn : L.length ≤ c := by rw [hv2]; exact hlc
      have hgF : g < F := Hlt1.out g rfl
      clear hc hset hx hxl hy hlc hcs hblk hv2
      go_wp2_with fail
      refine (Hc.out _).mono ?_
      rintro e w2 ⟨rfl, hb2⟩
      clear Hc
      have hfz2 := (hbk.out.ext hb2).frozen k
      have hlt2 := (hbk.out.ext hb2).lt
      have hown2 := hown.ext hb2
      have hc2 : w2.cell? ⟨g, k, none⟩ = some (.string (bs x)) := (hb2.cell (p := ⟨g, k, none⟩) (by exact hbk.out.lt)).trans hcell
      have hbw2 := below2 hb hb2
      have hput := hown2.put1 rfl hkl (u := .string (bs y)) (a := y) ⟨rfl, by unfold maxLen; omega⟩
      have q0' := (q0.ext hb2).far (p := ⟨g, k, none⟩) (by show w.heap.size ≠ g; omega) (.string (bs y))
      have q1' := (q1.ext hb2).far (p := ⟨g, k, none⟩) (by show F ≠ g; omega) (.string (bs y))
      clear hcell hown hb hb2 hown2 q0 q1
      go_wp2
      go_roundw
      case rel => exact ⟨k + 1, Lk.set k y, by go_num, by omega, Lib.hid Hset.out.symm, Lib.hid (by rw [List.length_set, hlen.out]), hput, q0', q1', hbw2.setCell (p := ⟨g, k, none⟩) (by show w.heap.size ≤ g; omega) _⟩
      case measure => simp [intOf]; omega
    · have he : k = L.length := by omega
      have hres : Lk = L0.map Sm.stem := by rw [hLk.out, he, mapTo_all, hL.out]
      have hlk := hlen.out
      have Hres := Lib.hid hres
      have Hlk := Lib.hid hlk
      clear hres he hlk
      obtain ⟨c0, c1, z0, z1, s1⟩ := q0.two
      obtain ⟨d0, d1, y0, y1, s2⟩ := q1.two
      go_wp2
      go_region
      all_goals go_wp2
      obtain ⟨e0, e1⟩ := q0.put2 (.int .i64 a) (.int .i64 b)
      have hown8 : Own strC M0 ((wr.setCell ⟨w.heap.size, 0, none⟩ (.int .i64 a)).setCell ⟨w.heap.size, 1, none⟩ (.int .i64 b)).drew (w.heap.size + 1) 9 (.slice A L.length c) Lk := hown.flat fun b' hb' => by
        have := hown.base b' hb'
        exact (Below.heap_setCell _ _ _ _ (by show b' ≠ w.heap.size; omega)).trans (Below.heap_setCell _ _ _ _ (by show b' ≠ w.heap.size; omega))
      have hown9 := hown8.weak (B' := w.heap.size) (by omega) (M' := M0) (fun _ h => h)
      rw [← Hlk.out] at hown9
      refine bodyPost_ret (v := .tuple #[.slice A L.length c, .agg #[.int .i64 a, .int .i64 b]]) (by simp [results, Tryd.results11, go_sem, e0, e1]) rfl ⟨A, c, Lk, by rw [Hlk.out], Hres, hown9, below_drew (below_set2 hb (Nat.le_refl _) _ _)⟩
theorem stemStems_ok (s : Str) (hs : s.length ≤ 4000) (w : World) (hT : TabsU w) : Calls Tryd.prog 11 #[.string (bs s)] w fun e w' => ∃ (A : Option Addr) (c : Nat) (L : List Str), e = .returned (.tuple #[.slice A L.length c, .agg #[.int .i64 0, .int .i64 0]]) ∧
      Hid (L = Sm.stems s) ∧ Own strC M0 w' w.heap.size 9 (.slice A L.length c) L ∧ Below w.heap.size w w' :=
  stems_any s (Sm.words s) 0 0 w fun W hW => stemWords_ok s hs W (hT.ext hW)
theorem stemStems_long (s : Str) (hs : 4000 < s.length) (w : World) : Calls Tryd.prog 11 #[.string (bs s)] w fun e w' => ∃ (A : Option Addr) (c : Nat) (L : List Str), e = .returned (.tuple #[.slice A L.length c, .agg #[.int .i64 1, .int .i64 (-1)]]) ∧
      Hid (L = []) ∧ Own strC M0 w' w.heap.size 9 (.slice A L.length c) L ∧ Below w.heap.size w w' :=
  stems_any s [] 1 (-1) w fun W hW => (stemWords_long s hs W).mono fun e w' h => ⟨none, 0, [], h.1, Lib.hid rfl, Own.nil _ _ _ _ _, h.2⟩
end Go.Proofs.YtinmpjhmbciapaaDoor
