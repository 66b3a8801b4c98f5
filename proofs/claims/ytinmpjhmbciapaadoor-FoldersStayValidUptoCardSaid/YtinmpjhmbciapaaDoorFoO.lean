/-
  folders.List.
-/
import Derived.Test.YtinmpjhmbciapaaDoorFoN
namespace Go.Proofs.YtinmpjhmbciapaaDoor
open Go.RowKit

def listF (l : List Str) (n : Str) : List Str × Int × Int :=
  if (foldersF l).1 ≠ 0 then ([], foldersF l) else if 60 < n.length then ([], 1, -3) else (l.filter (fun s => matchF n s), 0, 0)
theorem list1_ok (s : Str) (B : Nat) (n : Str) (hn : n.length ≤ 4000000) (hs : s.length ≤ 4000000) (w : World) (hc : w.cell? ⟨B, 0, none⟩ = some (.string (bs n))) : Calls Tryd.prog 77 #[.string (bs s), .pointer (some ⟨B, 0, none⟩)] w fun e w' => e = .returned (.bool (!matchF n s)) ∧ Below w.heap.size w w' := by
  have h := match_ok n s w hn hs
  have H := Lib.hid h
  clear h hn hs
  go_enter Tryd.func77, Tryd.ntmps77
  go_wp2_with fail
  refine H.out.mono ?_
  rintro e w1 ⟨rfl, hb⟩
  go_wp2
  go_ret
  exact ⟨rfl, hb⟩

set_option maxRecDepth 20000 in
set_option maxHeartbeats 4000000 in
theorem list_ok' (v : Value) (l : List Str) (n : Str) (w : World) (h : SlR strC M0 w v l) (hz : ∀ s ∈ l, s.length ≤ 4000000) (hn : n.length ≤ 4000000) : Calls Tryd.prog 52 #[v, .string (bs n)] w fun e w' =>
    ∃ v', e = .returned (.tuple #[v', .agg #[.int .i64 (listF l n).2.1, .int .i64 (listF l n).2.2]]) ∧ SlR strC M0 w' v' (listF l n).1 ∧ Below w.heap.size w w' := by
  obtain ⟨A, c, rfl, _, _⟩ := h.form
  obtain ⟨hlc, hcm⟩ := h.lenM
  obtain ⟨⟨g1, g2⟩, hg⟩ : ∃ f, foldersF l = f := ⟨_, rfl⟩
  have hr : ∃ r, listF l n = r := ⟨_, rfl⟩
  clear hr
  have hL := fun w' (hb : Below w.heap.size w w') => validate_ok _ l w' (h.ext hb) hz
  rw [hg] at hL
  have HL := Lib.hid hL; have Hg := Lib.hid hg; have Hh := Lib.hid h
  clear hL hg h
  have kx := Blk.new w 9 #[.string (bs n)]
  have bx := (Below.refl w.heap.size w).alloc (Nat.le_refl _) (.cells #[.string (bs n)] 9)
  have kf := Blk.new (w.alloc (.cells #[.string (bs n)] 9)) 24 #[.int .i64 0, .int .i64 0]
  rw [World.size_alloc] at kf
  have b0 := bx.alloc bx.size (.cells #[.int .i64 0, .int .i64 0] 24)
  have kx0 := kx.alloc (.cells #[.int .i64 0, .int .i64 0] 24)
  clear kx bx
  go_enter Tryd.func52, Tryd.ntmps52
  go_wp2_with fail
  refine (HL.out _ b0).mono ?_
  rintro e w1 ⟨rfl, hb1⟩
  have kx1 := kx0.ext hb1
  have kf1 := kf.ext hb1
  have b1 := b0.trans (hb1.mono b0.size)
  have ke1 := Blk.new w1 24 #[.int .i64 g1, .int .i64 g2]
  go_wp2_with fail
  refine (failed_ok _ _ _).mono ?_
  rintro e w2 ⟨rfl, hb2⟩
  have kx2 := (kx1.alloc _).ext hb2
  have kf2 := (kf1.alloc _).ext hb2
  have ke2 := ke1.ext hb2
  have b2 := (b1.alloc b1.size _).trans (hb2.mono (b1.alloc b1.size _).size)
  clear kf kf1 ke1 b0 b1 hb1 hb2 kx0 kx1
  by_cases hg0 : g1 = 0
  · subst hg0
    clear ke2
    have hv := valid_of_folders (l := l) (by rw [Hg.out])
    have HV := Lib.hid hv
    have hvl := hv.len
    clear hv
    obtain ⟨x0, _, xb⟩ := kx2.one
    by_cases h60 : 60 < n.length
    · have hr2 : listF l n = ([], 1, -3) := by rw [listF, Hg.out, if_neg (by simp), if_pos h60]
      have Hr2 := Lib.hid hr2
      clear hr2
      go_wp2_with fail
      refine (fault_ok _ _ _).mono ?_
      rintro e w9 ⟨rfl, hb9⟩
      have k9 := kf2.ext hb9
      obtain ⟨c0, c1, z0, z1, s1⟩ := k9.two
      obtain ⟨e0, e1⟩ := k9.put2 (.int .i64 1) (.int .i64 (-3))
      have b9 := b2.trans (hb9.mono b2.size)
      go_wp2
      exact bodyPost_ret (v := .tuple #[.slice none 0 0, .agg #[.int .i64 1, .int .i64 (-3)]]) (by simp [results, Tryd.results52, go_sem, e0, e1]) rfl ⟨_, by rw [Hr2.out], by rw [Hr2.out]; exact SlR.nil _ _ _, below_set2 b9 (by omega) _ _⟩
    · have hr2 : listF l n = (l.filter (fun s => matchF n s), 0, 0) := by rw [listF, Hg.out, if_neg (by simp), if_neg h60]
      have Hr2 := Lib.hid hr2
      clear hr2
      have hfl := kf2.lt
      have hcl := cloneSt_ok (fun b => b = w.heap.size + 1) _ l w2 ((Hh.out.sub (M' := fun b => b = w.heap.size + 1) fun b hb e => absurd hb (by omega)).ext b2) (by omega)
      go_wp2_with fail
      refine hcl.mono ?_
      rintro e w5 ⟨v5, rfl, hown5, hb5⟩
      clear hcl
      have kf5 := kf2.ext hb5
      have kx5 := kx2.ext hb5
      have b5 := b2.trans (hb5.mono b2.size)
      have hxl := kx2.lt
      have hne5 : ∀ b, v5.ownBlock = some b → w2.heap.size ≤ b := fun b hb => hown5.base b hb
      have Hne5 := Lib.hid hne5
      have hdf := deleteFuncS_ok (fun b => b = w.heap.size + 1) 77 #[.pointer (some ⟨w.heap.size, 0, none⟩)] (fun s => !matchF n s) l v5 w2.heap.size w5 hown5 (fun b hb e => by have := hne5 b hb; omega) (by omega) (enters_of Tryd.func77 (by kernel_rfl) rfl)
        (fun g W hg hW => list1_ok g _ n (by omega) (hz g hg) W ((kx5.grown hW (fun e => by have := Hne5.out _ e.symm; omega)).cell 0))
      have hff : l.filter (fun s => !(fun s => !matchF n s) s) = l.filter (fun s => matchF n s) := by simp
      rw [hff] at hdf
      obtain ⟨R, hR⟩ : ∃ R, l.filter (fun s => matchF n s) = R := ⟨_, rfl⟩
      rw [hR] at hdf Hr2
      have Hdf := Lib.hid hdf
      clear hne5 hdf hff hR x0 xb
      obtain ⟨A5, c5, rfl, _, _⟩ := hown5.shape
      clear hown5
      go_wp2_with fail
      refine Hdf.out.mono ?_
      rintro e w6 ⟨v6, rfl, hown6, hg6⟩
      have kf6 := kf5.grown hg6 (fun e => by have := Hne5.out _ e.symm; omega)
      have b6 := b5.grown hg6 b5.size (fun b hb => by have := Hne5.out _ hb; have := b2.size; omega)
      obtain ⟨A6, c6, rfl, _, _⟩ := hown6.shape
      clear hg6 kf5 b5 kx5 Hdf
      go_wp2_with fail
      refine (none_ok _).mono ?_
      rintro e w7 ⟨rfl, hb7⟩
      have k9 := kf6.ext hb7
      obtain ⟨c0, c1, z0, z1, s1⟩ := k9.two
      obtain ⟨e0, e1⟩ := k9.put2 (.int .i64 0) (.int .i64 0)
      have b9 := b6.trans (hb7.mono b6.size)
      have hs9 := (((hown6.readB (fun b (e : b = w.heap.size + 1) => by omega)).ext hb7).set2 (g := w.heap.size + 1) rfl (.int .i64 0) (.int .i64 0)).zero
      clear hown6
      go_wp2
      exact bodyPost_ret (v := .tuple #[.slice A6 R.length c6, .agg #[.int .i64 0, .int .i64 0]]) (by simp [results, Tryd.results52, go_sem, e0, e1]) rfl ⟨_, by rw [Hr2.out], by rw [Hr2.out]; exact hs9, below_set2 b9 (by omega) _ _⟩
  · have hr2 : listF l n = ([], g1, g2) := by rw [listF, Hg.out, if_pos hg0]
    have hfb : (g1 != 0) = true := by simpa using hg0
    have Hr2 := Lib.hid hr2
    clear hr2
    obtain ⟨c0, c1, z0, z1, s1⟩ := kf2.two
    obtain ⟨d0, d1, y0, y1, s2⟩ := ke2.two
    go_wp2
    go_region
    all_goals go_wp2
    all_goals
      obtain ⟨e0, e1⟩ := kf2.put2 (.int .i64 g1) (.int .i64 g2)
      refine bodyPost_ret (v := .tuple #[.slice none 0 0, .agg #[.int .i64 g1, .int .i64 g2]]) (by simp [results, Tryd.results52, go_sem, e0, e1]) rfl ⟨_, by rw [Hr2.out], by rw [Hr2.out]; exact SlR.nil _ _ _, ?_⟩
      exact below_drew (below_set2 b2 (by omega) _ _)
end Go.Proofs.YtinmpjhmbciapaaDoor
