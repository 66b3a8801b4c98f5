/-
  rights.Set.
-/
import Derived.Test.YtopldghfphgjoaaSetP
import Derived.Test.YtopldghfphgjoaaRg8
import Derived.Test.YtopldghfphgjoaaPut3
namespace Go.Proofs.Ytopldghfphgjoaa
open Go.RowKit
/-- What Set answers. -/
def setR (l : List Grant) (x : Grant) : List Grant × Int × Int :=
  if (grantsF l).1 ≠ 0 then ([], grantsF l) else if whoF x.1 = false then ([], 10, -3) else if x.2.2 < 0 ∨ 63 < x.2.2 then ([], 3, -3) else if 60 < (grantedF l x).length then ([], 2, -2) else (grantedF l x, 0, 0)

theorem SlR.set2 {α : Type} {C : Codec α} {M : Nat → Prop} {w : World} {v : Value} {l : List α} (h : SlR C M w v l) {g : Nat} (hg : M g) (a b : Value) : SlR C M ((w.setCell ⟨g, 0, none⟩ a).setCell ⟨g, 1, none⟩ b) v l :=
  h.keep (fun k _ hk => (heap_setCell_other _ _ _ _ (fun e => hk (by rw [show k = g from e]; exact hg))).trans (heap_setCell_other _ _ _ _ (fun e => hk (by rw [show k = g from e]; exact hg)))) (by simp)

theorem hit_lt {l : List Grant} {x : Grant} {k : Nat} (h : hitF l x k = true) : k < l.length := by
  unfold hitF at h
  rcases Nat.lt_or_ge k l.length with hk | hk
  · exact hk
  · rw [List.getElem?_eq_none hk] at h; cases h

set_option maxRecDepth 20000 in
set_option maxHeartbeats 4000000 in
theorem set_ok (v : Value) (l : List Grant) (x : Grant) (w : World) (h : SlR grantC M0 w v l) (hx1 : x.1.length ≤ maxLen) (hx2 : -9223372036854775808 ≤ x.2.2) (hx3 : x.2.2 ≤ 9223372036854775807) : Calls Try.prog 25 #[v, gv x] w fun e w' =>
    ∃ v', e = .returned (.tuple #[v', .agg #[.int .i64 (setR l x).2.1, .int .i64 (setR l x).2.2]]) ∧ SlR grantC M0 w' v' (setR l x).1 ∧ Below w.heap.size w w' := by
  obtain ⟨A, c, rfl, _, _⟩ := h.form
  obtain ⟨hlc, hcm⟩ := h.lenM
  obtain ⟨xs, xn, xr⟩ := x
  dsimp only at hx1 hx2 hx3
  obtain ⟨⟨g1, g2⟩, hg⟩ : ∃ f, grantsF l = f := ⟨_, rfl⟩
  have hr : setR l (xs, xn, xr) = if g1 ≠ 0 then ([], g1, g2) else if whoF xs = false then ([], 10, -3) else if xr < 0 ∨ 63 < xr then ([], 3, -3) else if 60 < (grantedF l (xs, xn, xr)).length then ([], 2, -2) else (grantedF l (xs, xn, xr), 0, 0) := by rw [setR, hg]
  have hL := fun w' (hb : Below w.heap.size w w') => grants_ok _ l w' (h.ext hb)
  rw [hg] at hL
  have HL := Lib.hid hL; have Hr := Lib.hid hr; have Hg := Lib.hid hg; have Hh := Lib.hid h
  clear hL hr hg h
  unfold gv
  dsimp only
  have kg := Blk.new w 47 #[.string (bs xs), .bool xn, .int .i64 xr]
  have bg := (Below.refl w.heap.size w).alloc (Nat.le_refl _) (.cells #[.string (bs xs), .bool xn, .int .i64 xr] 47)
  have kf := Blk.new (w.alloc (.cells #[.string (bs xs), .bool xn, .int .i64 xr] 47)) 24 #[.int .i64 0, .int .i64 0]
  rw [World.size_alloc] at kf
  have b0 := bg.alloc bg.size (.cells #[.int .i64 0, .int .i64 0] 24)
  have k0 := kg.alloc (.cells #[.int .i64 0, .int .i64 0] 24)
  clear kg bg
  go_enter Try.func25, Try.ntmps25
  go_wp2_with fail
  generalize (w.alloc (.cells #[.string (bs xs), .bool xn, .int .i64 xr] 47)).alloc (.cells #[.int .i64 0, .int .i64 0] 24) = w0 at kf b0 k0 ⊢
  refine (HL.out _ b0).mono ?_
  rintro e w1 ⟨rfl, hb1⟩
  have k1 := k0.ext hb1
  have kf1 := kf.ext hb1
  have b1 := b0.trans (hb1.mono b0.size)
  go_wp2_with fail
  refine (failed_ok _ _ _).mono ?_
  rintro e w2 ⟨rfl, hb2⟩
  have k2 := (k1.alloc _).ext hb2
  have kf2 := (kf1.alloc _).ext hb2
  have ke2 := (Blk.new w1 24 #[.int .i64 g1, .int .i64 g2]).ext hb2
  have b2 := (b1.alloc b1.size _).trans (hb2.mono (b1.alloc b1.size _).size)
  clear k0 kf b0 k1 kf1 b1 hb1 hb2
  by_cases hg0 : g1 = 0
  · subst hg0
    clear ke2
    have hw := fun w => who_ok xs hx1 w
    obtain ⟨t, ht⟩ : ∃ t, whoF xs = t := ⟨_, rfl⟩
    rw [ht] at hw
    have Hw := Lib.hid hw; have Ht := Lib.hid ht
    clear hw ht
    obtain ⟨x0, x1, x2, _, _, _, xb⟩ := k2.three
    go_wp2_with fail
    refine (Hw.out _).mono ?_
    rintro e w3 ⟨rfl, hb3⟩
    have k3 := k2.ext hb3
    have kf3 := kf2.ext hb3
    have b3 := b2.trans (hb3.mono b2.size)
    clear k2 kf2 b2 hb3 x0 x1 x2 xb
    cases t with
    | false =>
      have hr2 : setR l (xs, xn, xr) = ([], 10, -3) := by rw [Hr.out, Ht.out]; rfl
      have Hr2 := Lib.hid hr2
      clear hr2
      go_wp2_with fail
      refine (fault_ok _ _ _).mono ?_
      rintro e w6 ⟨rfl, hb6⟩
      have k6 := kf3.ext hb6
      obtain ⟨c0, c1, z0, z1, s1⟩ := k6.two
      obtain ⟨e0, e1⟩ := k6.put2 (.int .i64 10) (.int .i64 (-3))
      have b6 := b3.trans (hb6.mono b3.size)
      go_wp2
      exact bodyPost_ret (v := .tuple #[.slice none 0 0, .agg #[.int .i64 10, .int .i64 (-3)]]) (by simp [results, Try.results25, go_sem, e0, e1]) rfl ⟨_, by rw [Hr2.out], by rw [Hr2.out]; exact SlR.nil _ _ _, below_set2 b6 (by omega) _ _⟩
    | true =>
      obtain ⟨x0, x1, x2, _, _, _, xb⟩ := k3.three
      by_cases hrg : 0 ≤ xr ∧ xr ≤ 63
      · have j0 : ¬ xr < 0 := by omega
        have j1 : ¬ 63 < xr := by omega
        have hln : l.length ≤ 60 := (grants_small (l := l) (by rw [Hg.out])).1
        go_wp2_with fail
        refine (cloneGr_ok (fun b => b = w.heap.size + 1) _ l _ ((Hh.out.sub (M' := fun b => b = w.heap.size + 1) fun b hb e => absurd hb (by omega)).ext b3) (by omega)).mono ?_
        rintro e w4 ⟨v1, rfl, hown, hb4⟩
        have k4 := k3.ext hb4
        have kf4 := kf3.ext hb4
        have b4 := b3.trans (hb4.mono b3.size)
        have hB := b3.size
        have hbk := k3.lt
        have hfk := kf3.lt
        clear x0 x1 x2 xb
        obtain ⟨x0, x1, x2, _, _, _, xb⟩ := k4.three
        go_wp2_with fail
        refine (bsearch_ok l (xs, xn, xr) _ _ (hown.readB (fun b e => by omega)).zero (by omega)).mono ?_
        rintro e w5 ⟨k, rfl, hkl, hc1, hc2, hb5⟩
        have k5 := k4.ext hb5
        have kf5 := kf4.ext hb5
        have b5 := b4.trans (hb5.mono b4.size)
        have hown5 := hown.ext hb5
        have hset := setAt_eq (x := (xs, xn, xr)) (by rw [Hg.out]) hrg.1 hkl hc1 hc2
        have Hset := Lib.hid hset
        have hs35 : w3.heap.size ≤ w5.heap.size := by have := hb4.size; have := hb5.size; omega
        clear hset hc1 hc2 x0 x1 x2 xb k4 kf4 b4 hb4 hb5 hown kf3 k3 b3 hbk
        obtain ⟨x0, x1, x2, x3, x4, x5, xb⟩ := k5.three
        obtain ⟨t, ht⟩ : ∃ t, hitF l (xs, xn, xr) k = t := ⟨_, rfl⟩
        rw [ht]
        have Hhit := Lib.hid ht
        clear ht
        cases t with
        | true =>
          have hkl2 : k < l.length := hit_lt Hhit.out
          by_cases hz : xr = 0
          · have hz2 : (xr == 0) = true := by simpa using hz
            have hres : l.eraseIdx k = grantedF l (xs, xn, xr) := by rw [← Hset.out, setAt, Hhit.out, if_pos rfl, if_pos hz]
            have Hres := Lib.hid hres
            clear hres
            obtain ⟨R, hR⟩ : ∃ R, R = l.eraseIdx k := ⟨_, rfl⟩
            have hRl : R.length ≤ 60 := by rw [hR, List.length_eraseIdx]; split <;> omega
            have hdel := deleteGr_ok _ _ l k _ _ hown5 hkl2
            rw [← hR] at hdel Hres
            clear hR
            clear hz
            have hk1 : (k : Int) + 1 ≤ 1000 := by omega
            go_wp2_with fail
            refine hdel.mono ?_
            rintro e w6 ⟨v2, rfl, hown6, hg6, hrow⟩
            have hne : ∀ b, v1.ownBlock = some b → w3.heap.size ≤ b := fun b hb => hown5.base b hb
            have kf6 := kf5.grown hg6 (fun e => by have := hne _ e.symm; omega)
            have b6 := b5.grown hg6 b5.size (fun b hb => by have := hne _ hb; omega)
            clear x0 x1 x2 x3 x4 x5 xb
            obtain ⟨A9, c9, rfl, _, _⟩ := (hown6.readB (fun b e => by omega)).form
            by_cases h60 : 60 < (R).length
            · exact absurd h60 (by omega)
            · have hr2 : setR l (xs, xn, xr) = (R, 0, 0) := by rw [Hr.out, Ht.out, if_neg (by simp), if_neg (by simp), if_neg (by omega), ← Hres.out, if_neg h60]
              have Hr2 := Lib.hid hr2
              clear hr2
              go_wp2_with fail
              refine (none_ok _).mono ?_
              rintro e w9 ⟨rfl, hb9⟩
              have k9 := kf6.ext hb9
              obtain ⟨c0, c1, z0, z1, s1⟩ := k9.two
              obtain ⟨e0, e1⟩ := k9.put2 (.int .i64 0) (.int .i64 0)
              have b9 := b6.trans (hb9.mono b6.size)
              have hs9 := (((hown6.readB (fun b e => by omega)).ext hb9).set2 (g := w.heap.size + 1) rfl (.int .i64 0) (.int .i64 0)).zero
              go_wp2
              exact bodyPost_ret (v := .tuple #[.slice A9 (R).length c9, .agg #[.int .i64 0, .int .i64 0]]) (by simp [results, Try.results25, go_sem, e0, e1]) rfl ⟨_, by rw [Hr2.out], by rw [Hr2.out]; exact hs9, below_set2 b9 (by omega) _ _⟩
          · have hz2 : (xr == 0) = false := by simpa using hz
            obtain ⟨R, hR⟩ : ∃ R, R = l.set k (xs, xn, xr) := ⟨_, rfl⟩
            have hres : R = grantedF l (xs, xn, xr) := by rw [hR, ← Hset.out, setAt, Hhit.out, if_pos rfl, if_neg hz]
            have Hres := Lib.hid hres
            clear hres
            obtain ⟨g, c, cur, rfl, hlc, hcm, hBg, hblk, hsz⟩ := hown5.blk (by omega)
            have hfz := fun j => hblk.frozen j
            have hsz3 : cur.size = c * 3 := hsz
            have hgl := hblk.lt
            have hi0 : (k : Int) < l.length := by omega
            have hc0 := hblk.cell (k * 3)
            have hc1 := hblk.cell (k * 3 + 1)
            have hc2 := hblk.cell (k * 3 + 2)
            rw [Array.getElem?_eq_getElem (by omega)] at hc0 hc1 hc2
            have hRn : R.length = l.length := by rw [hR, List.length_set]
            have hown6 := hown5.put3 rfl hkl2 (grant_rd (a := (xs, xn, xr)) hx1 ⟨hx2, hx3⟩)
            rw [← hR] at hown6
            have hr2 : setR l (xs, xn, xr) = (R, 0, 0) := by rw [Hr.out, Ht.out, if_neg (by simp), if_neg (by simp), if_neg (by omega), ← Hres.out, if_neg (by omega)]
            have Hr2 := Lib.hid hr2
            have HRn := Lib.hid hRn
            clear hr2 hR hRn
            have b6 := Below.setCell (p := ⟨g, k * 3 + 2, none⟩) (Below.setCell (p := ⟨g, k * 3 + 1, none⟩) (Below.setCell (p := ⟨g, k * 3, none⟩) b5 (show w.heap.size ≤ g by omega) (.string (bs xs))) (show w.heap.size ≤ g by omega) (.bool xn)) (show w.heap.size ≤ g by omega) (.int .i64 xr)
            have hng : w.heap.size + 1 ≠ g := by omega
            have kf6 := ((kf5.far (p := ⟨g, k * 3, none⟩) hng (.string (bs xs))).far (p := ⟨g, k * 3 + 1, none⟩) hng (.bool xn)).far (p := ⟨g, k * 3 + 2, none⟩) hng (.int .i64 xr)
            go_wp2_with fail
            refine (none_ok _).mono ?_
            rintro e w9 ⟨rfl, hb9⟩
            have k9 := kf6.ext hb9
            obtain ⟨c0, c1, z0, z1, s1⟩ := k9.two
            obtain ⟨e0, e1⟩ := k9.put2 (.int .i64 0) (.int .i64 0)
            have b9 := b6.trans (hb9.mono b6.size)
            have hs9 := (((hown6.readB (fun b e => by omega)).ext hb9).set2 (g := w.heap.size + 1) rfl (.int .i64 0) (.int .i64 0)).zero
            clear hc0 hc1 hc2 hfz
            go_wp2
            exact bodyPost_ret (v := .tuple #[.slice (some ⟨g, 0, none⟩) l.length c, .agg #[.int .i64 0, .int .i64 0]]) (by simp [results, Try.results25, go_sem, e0, e1]) rfl ⟨_, by rw [Hr2.out], by rw [Hr2.out]; exact hs9, below_set2 b9 (by omega) _ _⟩
        | false =>
          by_cases hz : xr = 0
          · have j2 : ¬ 0 < xr := by omega
            have hres : l = grantedF l (xs, xn, xr) := by rw [← Hset.out, setAt, Hhit.out, if_neg (by simp), if_neg (by simpa using j2)]
            clear hz
            have Hres := Lib.hid hres
            clear hres
            obtain ⟨A9, c9, rfl, _, _⟩ := (hown5.readB (fun b e => by omega)).form
            by_cases h60 : 60 < (l).length
            · exact absurd h60 (by omega)
            · have hr2 : setR l (xs, xn, xr) = (l, 0, 0) := by rw [Hr.out, Ht.out, if_neg (by simp), if_neg (by simp), if_neg (by omega), ← Hres.out, if_neg h60]
              have Hr2 := Lib.hid hr2
              clear hr2
              go_wp2_with fail
              refine (none_ok _).mono ?_
              rintro e w9 ⟨rfl, hb9⟩
              have k9 := kf5.ext hb9
              obtain ⟨c0, c1, z0, z1, s1⟩ := k9.two
              obtain ⟨e0, e1⟩ := k9.put2 (.int .i64 0) (.int .i64 0)
              have b9 := b5.trans (hb9.mono b5.size)
              have hs9 := (((hown5.readB (fun b e => by omega)).ext hb9).set2 (g := w.heap.size + 1) rfl (.int .i64 0) (.int .i64 0)).zero
              go_wp2
              exact bodyPost_ret (v := .tuple #[.slice A9 (l).length c9, .agg #[.int .i64 0, .int .i64 0]]) (by simp [results, Try.results25, go_sem, e0, e1]) rfl ⟨_, by rw [Hr2.out], by rw [Hr2.out]; exact hs9, below_set2 b9 (by omega) _ _⟩
          · have j2 : 0 < xr := by omega
            obtain ⟨R, hR⟩ : ∃ R, R = l.take k ++ (xs, xn, xr) :: l.drop k := ⟨_, rfl⟩
            have hres : R = grantedF l (xs, xn, xr) := by rw [hR, ← Hset.out, setAt, Hhit.out, if_neg (by simp), if_pos (by simpa using j2)]
            have Hres := Lib.hid hres
            clear hres
            have hRl : R.length ≤ 61 := by
              rw [hR, List.length_append, List.length_cons, List.length_take, List.length_drop]
              omega
            have hne : v1.ownBlock ≠ some w5.heap.size := fun h => by have := hown5.lt _ h; omega
            have bA := (Below.refl w5.heap.size w5).alloc (Nat.le_refl _) (.cells #[.string (bs xs), .bool xn, .int .i64 xr] 47)
            have hins := insertGr_ok _ _ l (xs, xn, xr) k w3.heap.size w5.heap.size _ _ (hown5.ext bA) hkl (by omega) (Blk.new w5 47 #[.string (bs xs), .bool xn, .int .i64 xr]) (fun _ => grant_rd (a := (xs, xn, xr)) hx1 ⟨hx2, hx3⟩) hne (show ¬ w5.heap.size = w.heap.size + 1 by have := kf5.lt; omega) (by rw [World.size_alloc]; omega) (fun b (e : b = w.heap.size + 1) => by rw [World.size_alloc]; have := kf5.lt; omega)
            rw [← hR] at hins
            have kfA := kf5.ext bA
            have bb5 := b5.trans (bA.mono b5.size)
            clear hR bA hz
            go_wp2_with fail
            refine hins.mono ?_
            rintro e w6 ⟨v2, rfl, hown6, hg6⟩
            have hne6 : ∀ b, v1.ownBlock = some b → w3.heap.size ≤ b := fun b hb => hown5.base b hb
            have kf6 := kfA.grown hg6 (fun e => by have := hne6 _ e.symm; omega)
            have b6 := bb5.grown hg6 bb5.size (fun b hb => by have := hne6 _ hb; omega)
            clear x0 x1 x2 x3 x4 x5 xb hins
            obtain ⟨A9, c9, rfl, _, _⟩ := (hown6.readB (fun b e => by omega)).form
            by_cases h60 : 60 < (R).length
            · have hr2 : setR l (xs, xn, xr) = ([], 2, -2) := by rw [Hr.out, Ht.out, if_neg (by simp), if_neg (by simp), if_neg (by omega), ← Hres.out, if_pos h60]
              have Hr2 := Lib.hid hr2
              clear hr2
              go_wp2_with fail
              refine (fault_ok _ _ _).mono ?_
              rintro e w9 ⟨rfl, hb9⟩
              have k9 := kf6.ext hb9
              obtain ⟨c0, c1, z0, z1, s1⟩ := k9.two
              obtain ⟨e0, e1⟩ := k9.put2 (.int .i64 2) (.int .i64 (-2))
              have b9 := b6.trans (hb9.mono b6.size)
              go_wp2
              exact bodyPost_ret (v := .tuple #[.slice none 0 0, .agg #[.int .i64 2, .int .i64 (-2)]]) (by simp [results, Try.results25, go_sem, e0, e1]) rfl ⟨_, by rw [Hr2.out], by rw [Hr2.out]; exact SlR.nil _ _ _, below_set2 b9 (by omega) _ _⟩
            · have hr2 : setR l (xs, xn, xr) = (R, 0, 0) := by rw [Hr.out, Ht.out, if_neg (by simp), if_neg (by simp), if_neg (by omega), ← Hres.out, if_neg h60]
              have Hr2 := Lib.hid hr2
              clear hr2
              go_wp2_with fail
              refine (none_ok _).mono ?_
              rintro e w9 ⟨rfl, hb9⟩
              have k9 := kf6.ext hb9
              obtain ⟨c0, c1, z0, z1, s1⟩ := k9.two
              obtain ⟨e0, e1⟩ := k9.put2 (.int .i64 0) (.int .i64 0)
              have b9 := b6.trans (hb9.mono b6.size)
              have hs9 := (((hown6.readB (fun b e => by omega)).ext hb9).set2 (g := w.heap.size + 1) rfl (.int .i64 0) (.int .i64 0)).zero
              go_wp2
              exact bodyPost_ret (v := .tuple #[.slice A9 (R).length c9, .agg #[.int .i64 0, .int .i64 0]]) (by simp [results, Try.results25, go_sem, e0, e1]) rfl ⟨_, by rw [Hr2.out], by rw [Hr2.out]; exact hs9, below_set2 b9 (by omega) _ _⟩
      · have hr2 : setR l (xs, xn, xr) = ([], 3, -3) := by rw [Hr.out, Ht.out, if_neg (by simp), if_neg (by simp), if_pos (by omega)]
        have Hr2 := Lib.hid hr2
        clear hr2
        by_cases hneg : xr < 0
        · go_wp2_with fail
          refine (fault_ok _ _ _).mono ?_
          rintro e w6 ⟨rfl, hb6⟩
          have k6 := kf3.ext hb6
          obtain ⟨c0, c1, z0, z1, s1⟩ := k6.two
          obtain ⟨e0, e1⟩ := k6.put2 (.int .i64 3) (.int .i64 (-3))
          have b6 := b3.trans (hb6.mono b3.size)
          go_wp2
          exact bodyPost_ret (v := .tuple #[.slice none 0 0, .agg #[.int .i64 3, .int .i64 (-3)]]) (by simp [results, Try.results25, go_sem, e0, e1]) rfl ⟨_, by rw [Hr2.out], by rw [Hr2.out]; exact SlR.nil _ _ _, below_set2 b6 (by omega) _ _⟩
        · have hbig : 63 < xr := by omega
          go_wp2_with fail
          refine (fault_ok _ _ _).mono ?_
          rintro e w6 ⟨rfl, hb6⟩
          have k6 := kf3.ext hb6
          obtain ⟨c0, c1, z0, z1, s1⟩ := k6.two
          obtain ⟨e0, e1⟩ := k6.put2 (.int .i64 3) (.int .i64 (-3))
          have b6 := b3.trans (hb6.mono b3.size)
          go_wp2
          exact bodyPost_ret (v := .tuple #[.slice none 0 0, .agg #[.int .i64 3, .int .i64 (-3)]]) (by simp [results, Try.results25, go_sem, e0, e1]) rfl ⟨_, by rw [Hr2.out], by rw [Hr2.out]; exact SlR.nil _ _ _, below_set2 b6 (by omega) _ _⟩
  · have hr2 : setR l (xs, xn, xr) = ([], g1, g2) := by rw [Hr.out, if_pos hg0]
    have Hr2 := Lib.hid hr2
    have hfb : (g1 != 0) = true := by simpa using hg0
    clear hr2
    obtain ⟨c0, c1, z0, z1, s1⟩ := kf2.two
    obtain ⟨d0, d1, y0, y1, s2⟩ := ke2.two
    go_wp2
    go_region
    all_goals go_wp2
    all_goals
      obtain ⟨e0, e1⟩ := kf2.put2 (.int .i64 g1) (.int .i64 g2)
      refine bodyPost_ret (v := .tuple #[.slice none 0 0, .agg #[.int .i64 g1, .int .i64 g2]]) (by simp [results, Try.results25, go_sem, e0, e1]) rfl ⟨_, by rw [Hr2.out], by rw [Hr2.out]; exact SlR.nil _ _ _, ?_⟩
      exact below_drew (below_set2 b2 (by omega) _ _)
end Go.Proofs.Ytopldghfphgjoaa
