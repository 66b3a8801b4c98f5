/-
  folders.Create and Delete.
-/
import Derived.Test.YtinmpjhmbciapaaDoorFoC
import Derived.Deep.CutBlock
import Derived.Deep.DeepCutAuto
namespace Go.Proofs.YtinmpjhmbciapaaDoor
open Go.RowKit

theorem split_sum : ∀ s : Str, s.length + 1 = ((splitF s).map fun x => x.length + 1).sum
  | [] => rfl
  | c :: t => by
    have ih := split_sum t
    rw [splitF]
    split
    · rw [List.map_cons, List.sum_cons, ← ih]; simp; omega
    · cases h : splitF t with
      | nil => exact absurd h (splitF_ne t)
      | cons a r =>
        rw [h] at ih
        simp only [List.map_cons, List.sum_cons, List.length_cons] at ih ⊢
        omega
theorem name_len {s : Str} (h : nameF s = true) : s.length ≤ 60 := by
  unfold nameF at h
  simp only [Bool.and_eq_true, decide_eq_true_eq] at h
  exact h.1.2
theorem sum_le_mul {α : Type} (f : α → Nat) (b : Nat) : ∀ l : List α, (∀ x ∈ l, f x ≤ b) → (l.map f).sum ≤ l.length * b
  | [], _ => by simp
  | a :: l, h => by
    have ih := sum_le_mul f b l fun x hx => h x (by simp [hx])
    have := h a (by simp)
    rw [List.map_cons, List.sum_cons, List.length_cons, Nat.add_mul]
    omega
theorem path_len {s : Str} (h : pathF s = true) : s.length ≤ 500 := by
  rw [path_iff] at h
  have h1 := split_sum s
  have h2 := sum_le_mul (fun x : Str => x.length + 1) 61 (splitF s) fun x hx => by have := name_len (h.2 x hx); omega
  have h3 : (splitF s).length * 61 ≤ 8 * 61 := Nat.mul_le_mul_right _ h.1
  omega
theorem erase_filter {l : List Str} {n : Str} {k : Nat} (hl : SortedS l) (hk : k < l.length) (hn : l[k] = n) : l.eraseIdx k = l.filter (fun s => s != n) := by
  have hs : l = l.take k ++ n :: l.drop (k + 1) := by
    rw [← hn, ← List.drop_eq_getElem_cons hk, List.take_append_drop]
  have hsort := hl
  rw [hs] at hsort
  unfold SortedS at hsort
  rw [List.pairwise_append, List.pairwise_cons] at hsort
  have f1 : (l.take k).filter (fun s => s != n) = l.take k := List.filter_eq_self.2 fun x hx => by
    have := hsort.2.2 x hx n (by simp)
    simpa using ltS_ne this
  have f2 : (l.drop (k + 1)).filter (fun s => s != n) = l.drop (k + 1) := List.filter_eq_self.2 fun x hx => by
    have := hsort.2.1.1 x hx
    simpa using (ltS_ne this).symm
  rw [List.eraseIdx_eq_take_drop_succ]
  conv => rhs; rw [hs]
  rw [List.filter_append, List.filter_cons_of_neg (by simp), f1, f2]

set_option maxRecDepth 20000 in
set_option maxHeartbeats 4000000 in
theorem create_ok' (v : Value) (l : List Str) (n : Str) (w : World) (h : SlR strC M0 w v l) (hz : ∀ s ∈ l, s.length ≤ 4000000) (hn : n.length ≤ 4000000) : Calls Tryd.prog 21 #[v, .string (bs n)] w fun e w' =>
    ∃ v', e = .returned (.tuple #[v', .agg #[.int .i64 (createF l n).2.1, .int .i64 (createF l n).2.2]]) ∧ SlR strC M0 w' v' (createF l n).1 ∧ Below w.heap.size w w' := by
  obtain ⟨A, c, rfl, _, _⟩ := h.form
  obtain ⟨hlc, hcm⟩ := h.lenM
  obtain ⟨⟨g1, g2⟩, hg⟩ : ∃ f, foldersF l = f := ⟨_, rfl⟩
  have hr : ∃ r, createF l n = r := ⟨_, rfl⟩
  clear hr
  have hL := fun w' (hb : Below w.heap.size w w') => validate_ok _ l w' (h.ext hb) hz
  rw [hg] at hL
  have HL := Lib.hid hL; have Hg := Lib.hid hg; have Hh := Lib.hid h
  clear hL hg h
  have kf := Blk.new w 24 #[.int .i64 0, .int .i64 0]
  have b0 := (Below.refl w.heap.size w).alloc (Nat.le_refl _) (.cells #[.int .i64 0, .int .i64 0] 24)
  go_enter Tryd.func21, Tryd.ntmps21
  go_wp2_with fail
  refine (HL.out _ b0).mono ?_
  rintro e w1 ⟨rfl, hb1⟩
  have kf1 := kf.ext hb1
  have b1 := b0.trans (hb1.mono b0.size)
  have ke1 := Blk.new w1 24 #[.int .i64 g1, .int .i64 g2]
  go_wp2_with fail
  refine (failed_ok _ _ _).mono ?_
  rintro e w2 ⟨rfl, hb2⟩
  have kf2 := (kf1.alloc _).ext hb2
  have ke2 := ke1.ext hb2
  have b2 := (b1.alloc b1.size _).trans (hb2.mono (b1.alloc b1.size _).size)
  clear kf kf1 ke1 b0 b1 hb1 hb2
  by_cases hg0 : g1 = 0
  · subst hg0
    clear ke2
    have hv := valid_of_folders (l := l) (by rw [Hg.out])
    have HV := Lib.hid hv
    have hvl := hv.len
    have hpt := path_ok n hn w2
    obtain ⟨t, ht⟩ : ∃ t, pathF n = t := ⟨_, rfl⟩
    rw [ht] at hpt
    have Ht := Lib.hid ht
    clear ht hv
    go_wp2_with fail
    refine hpt.mono ?_
    rintro e w3 ⟨rfl, hb3⟩
    have kf3 := kf2.ext hb3
    have b3 := b2.trans (hb3.mono b2.size)
    clear kf2 b2 hpt hb3
    cases t with
    | false =>
      have hr2 : createF l n = ([], 10, -3) := by rw [createF, Hg.out, if_neg (by simp), if_pos Ht.out]
      have Hr2 := Lib.hid hr2
      clear hr2
      go_wp2_with fail
      refine (fault_ok _ _ _).mono ?_
      rintro e w9 ⟨rfl, hb9⟩
      have k9 := kf3.ext hb9
      obtain ⟨c0, c1, z0, z1, s1⟩ := k9.two
      obtain ⟨e0, e1⟩ := k9.put2 (.int .i64 10) (.int .i64 (-3))
      have b9 := b3.trans (hb9.mono b3.size)
      go_wp2
      exact bodyPost_ret (v := .tuple #[.slice none 0 0, .agg #[.int .i64 10, .int .i64 (-3)]]) (by simp [results, Tryd.results21, go_sem, e0, e1]) rfl ⟨_, by rw [Hr2.out], by rw [Hr2.out]; exact SlR.nil _ _ _, below_set2 b9 (Nat.le_refl _) _ _⟩
    | true =>
      have hpl := path_len Ht.out
      have hhs := has_ok l n _ w3 (Hh.out.ext b3) (by omega) HV.out.sorted
      obtain ⟨t2, ht2⟩ : ∃ t, decide (n ∈ l) = t := ⟨_, rfl⟩
      rw [ht2] at hhs
      have Ht2 := Lib.hid ht2
      clear ht2
      go_wp2_with fail
      refine hhs.mono ?_
      rintro e w4 ⟨rfl, rfl⟩
      clear hhs
      cases t2 with
      | true =>
        have hr2 : createF l n = ([], 7, -3) := by rw [createF, Hg.out, if_neg (by simp), if_neg (by simp [Ht.out]), if_pos (by simpa using Ht2.out)]
        have Hr2 := Lib.hid hr2
        clear hr2
        go_wp2_with fail
        refine (fault_ok _ _ _).mono ?_
        rintro e w9 ⟨rfl, hb9⟩
        have k9 := kf3.ext hb9
        obtain ⟨c0, c1, z0, z1, s1⟩ := k9.two
        obtain ⟨e0, e1⟩ := k9.put2 (.int .i64 7) (.int .i64 (-3))
        have b9 := b3.trans (hb9.mono b3.size)
        go_wp2
        exact bodyPost_ret (v := .tuple #[.slice none 0 0, .agg #[.int .i64 7, .int .i64 (-3)]]) (by simp [results, Tryd.results21, go_sem, e0, e1]) rfl ⟨_, by rw [Hr2.out], by rw [Hr2.out]; exact SlR.nil _ _ _, below_set2 b9 (Nat.le_refl _) _ _⟩
      | false =>
        have hr2 : createF l n = fewF (withF l n) := by rw [createF, Hg.out, if_neg (by simp), if_neg (by simp [Ht.out]), if_neg (by simpa using Ht2.out)]
        obtain ⟨⟨q1, q2, q3⟩, hq⟩ : ∃ q, fewF (withF l n) = q := ⟨_, rfl⟩
        rw [hq] at hr2
        have Hr2 := Lib.hid hr2; have Hq := Lib.hid hq
        clear hr2 hq
        have hfl := kf3.lt
        have hcl := cloneSt_ok (fun b => b = w.heap.size) _ l w3 ((Hh.out.sub (M' := fun b => b = w.heap.size) fun b hb e => absurd hb (by omega)).ext b3) (by omega)
        go_wp2_with fail
        refine hcl.mono ?_
        rintro e w5 ⟨v5, rfl, hown5, hb5⟩
        clear hcl
        have kf5 := kf3.ext hb5
        have b5 := b3.trans (hb5.mono b3.size)
        have hwt := with_ok (fun b => b = w.heap.size) v5 l n w3.heap.size w5 hown5 HV.out.sorted (by omega) (by omega) hb5.size (fun b e => by have := kf5.lt; omega) (fun b hb e => by have := hown5.base b hb; omega)
        have hne5 : ∀ b, v5.ownBlock = some b → w3.heap.size ≤ b := fun b hb => hown5.base b hb
        obtain ⟨A5, c5, rfl, _, _⟩ := hown5.shape
        have Hne5 := Lib.hid hne5
        clear hne5 hown5
        go_wp2_with fail
        refine hwt.mono ?_
        rintro e w6 ⟨v6, rfl, hown6, hg6, hor6⟩
        clear hwt hor6
        have kf6 := kf5.grown hg6 (fun e => by have := Hne5.out _ e.symm; omega)
        have b6 := b5.grown hg6 b5.size (fun b hb => by have := Hne5.out _ hb; have := b3.size; omega)
        have hfw := few_ok' (fun b => b = w.heap.size) (withF l n) v6 w6 (hown6.readB (fun b (e : b = w.heap.size) => by omega))
        rw [Hq.out] at hfw
        obtain ⟨A6, c6, rfl, _, _⟩ := hown6.shape
        clear hg6 hown6 kf5 b5 kf3
        go_wp2_with fail
        refine hfw.mono ?_
        rintro e w7 ⟨v7, rfl, hr7, hb7⟩
        have k9 := kf6.ext hb7
        obtain ⟨c0, c1, z0, z1, s1⟩ := k9.two
        obtain ⟨e0, e1⟩ := k9.put2 (.int .i64 q2) (.int .i64 q3)
        have b9 := b6.trans (hb7.mono b6.size)
        have hs9 := (hr7.set2 (g := w.heap.size) rfl (.int .i64 q2) (.int .i64 q3)).zero
        obtain ⟨A7, c7, rfl, _, _⟩ := hr7.form
        clear hfw hr7
        go_wp2
        exact bodyPost_ret (v := .tuple #[.slice A7 q1.length c7, .agg #[.int .i64 q2, .int .i64 q3]]) (by simp [results, Tryd.results21, go_sem, e0, e1]) rfl ⟨_, by rw [Hr2.out], by rw [Hr2.out]; exact hs9, below_set2 b9 (Nat.le_refl _) _ _⟩
  · have hr2 : createF l n = ([], g1, g2) := by rw [createF, Hg.out, if_pos hg0]
    have hfb : (g1 != 0) = true := by simpa using hg0
    have Hr2 := Lib.hid hr2
    clear hr2
    obtain ⟨c0, c1, z0, z1, s1⟩ := kf2.two
    obtain ⟨d0, d1, y0, y1, s2⟩ := ke2.two
    go_wp2
    go_region
    all_goals go_wp2
    all_goals
      obtain ⟨e0, e1⟩ := kf2.put2 (.int .i64 g1) (.int .i64 g2)
      refine bodyPost_ret (v := .tuple #[.slice none 0 0, .agg #[.int .i64 g1, .int .i64 g2]]) (by simp [results, Tryd.results21, go_sem, e0, e1]) rfl ⟨_, by rw [Hr2.out], by rw [Hr2.out]; exact SlR.nil _ _ _, ?_⟩
      exact below_drew (below_set2 b2 (Nat.le_refl _) _ _)

theorem delete1_ok (s : Str) (B : Nat) (n : Str) (hn : n.length ≤ 4000000) (w : World) (hc : w.cell? ⟨B, 0, none⟩ = some (.string (bs n))) (_hB : B < w.heap.size) : Calls Tryd.prog 49 #[.string (bs s), .pointer (some ⟨B, 0, none⟩)] w fun e w' => e = .returned (.bool (belowF s n)) ∧ Below w.heap.size w w' := by
  have h := below_ok s n hn w
  have H := Lib.hid h
  clear h hn
  go_enter Tryd.func49, Tryd.ntmps49
  go_wp2_with fail
  refine H.out.mono ?_
  rintro e w1 ⟨rfl, rfl⟩
  go_wp2
  go_ret
  exact ⟨rfl, Below.refl _ _⟩

set_option maxRecDepth 20000 in
set_option maxHeartbeats 4000000 in
theorem delete_ok' (v : Value) (l : List Str) (n : Str) (w : World) (h : SlR strC M0 w v l) (hz : ∀ s ∈ l, s.length ≤ 4000000) (hn : n.length ≤ 4000000) : Calls Tryd.prog 22 #[v, .string (bs n)] w fun e w' =>
    ∃ v', e = .returned (.tuple #[v', .agg #[.int .i64 (deleteF l n).2.1, .int .i64 (deleteF l n).2.2]]) ∧ SlR strC M0 w' v' (deleteF l n).1 ∧ Below w.heap.size w w' := by
  obtain ⟨A, c, rfl, _, _⟩ := h.form
  obtain ⟨hlc, hcm⟩ := h.lenM
  obtain ⟨⟨g1, g2⟩, hg⟩ : ∃ f, foldersF l = f := ⟨_, rfl⟩
  have hr : ∃ r, deleteF l n = r := ⟨_, rfl⟩
  clear hr
  have hL := fun w' (hb : Below w.heap.size w w') => validate_ok _ l w' (h.ext hb) hz
  rw [hg] at hL
  have HL := Lib.hid hL; have Hg := Lib.hid hg; have Hh := Lib.hid h
  clear hL hg h
  have kx := Blk.new w 9 #[.string (bs n)]
  have bx := (Below.refl w.heap.size w).alloc (Nat.le_refl _) (.cells #[.string (bs n)] 9)
  have kf := Blk.new (w.alloc (.cells #[.string (bs n)] 9)) 24 #[.int .i64 0, .int .i64 0]
  rw [World.size_alloc] at kf
  have b0 := bx.alloc bx.size (.cells #[.int .i64 0, .int .i64 0] 24)
  have kx0 := kx.alloc (.cells #[.int .i64 0, .int .i64 0] 24)
  clear kx bx
  go_enter Tryd.func22, Tryd.ntmps22
  go_wp2_with fail
  refine (HL.out _ b0).mono ?_
  rintro e w1 ⟨rfl, hb1⟩
  have kx1 := kx0.ext hb1
  have kf1 := kf.ext hb1
  have b1 := b0.trans (hb1.mono b0.size)
  have ke1 := Blk.new w1 24 #[.int .i64 g1, .int .i64 g2]
  go_wp2_with fail
  refine (failed_ok _ _ _).mono ?_
  rintro e w2 ⟨rfl, hb2⟩
  have kx2 := (kx1.alloc _).ext hb2
  have kf2 := (kf1.alloc _).ext hb2
  have ke2 := ke1.ext hb2
  have b2 := (b1.alloc b1.size _).trans (hb2.mono (b1.alloc b1.size _).size)
  clear kf kf1 ke1 b0 b1 hb1 hb2 kx0 kx1
  by_cases hg0 : g1 = 0
  · subst hg0
    clear ke2
    have hv := valid_of_folders (l := l) (by rw [Hg.out])
    have HV := Lib.hid hv
    have hvl := hv.len
    clear hv
    have hbsr := bsearchS_ok l n _ w2 (Hh.out.ext b2) (by omega)
    obtain ⟨x0, _, xb⟩ := kx2.one
    go_wp2_with fail
    refine hbsr.mono ?_
    rintro e w3 ⟨k, rfl, hk, h1, h2, rfl⟩
    obtain ⟨hhit, _⟩ := cut_sorted HV.out.sorted hk h1 h2
    clear hbsr h1 h2
    obtain ⟨t, ht⟩ : ∃ t, hitS l n k = t := ⟨_, rfl⟩
    rw [ht] at hhit ⊢
    have Ht := Lib.hid ht; have Hhit := Lib.hid hhit
    clear ht hhit
    cases t with
    | false =>
      have hr2 : deleteF l n = ([], 6, -3) := by rw [deleteF, Hg.out, if_neg (by simp), if_pos (by simpa using Hhit.out.symm)]
      have Hr2 := Lib.hid hr2
      clear hr2
      go_wp2_with fail
      refine (fault_ok _ _ _).mono ?_
      rintro e w9 ⟨rfl, hb9⟩
      have k9 := kf2.ext hb9
      obtain ⟨c0, c1, z0, z1, s1⟩ := k9.two
      obtain ⟨e0, e1⟩ := k9.put2 (.int .i64 6) (.int .i64 (-3))
      have b9 := b2.trans (hb9.mono b2.size)
      go_wp2
      exact bodyPost_ret (v := .tuple #[.slice none 0 0, .agg #[.int .i64 6, .int .i64 (-3)]]) (by simp [results, Tryd.results22, go_sem, e0, e1]) rfl ⟨_, by rw [Hr2.out], by rw [Hr2.out]; exact SlR.nil _ _ _, below_set2 b9 (by omega) _ _⟩
    | true =>
      have hmem : n ∈ l := by simpa using Hhit.out.symm
      have hkl : ∃ (hk : k < l.length), l[k] = n := by
        have := Ht.out
        unfold hitS at this
        split at this
        · rename_i y hy
          obtain ⟨h1, h2⟩ := List.getElem?_eq_some_iff.1 hy
          exact ⟨h1, h2.trans (beq_iff_eq.1 this)⟩
        · cases this
      have Hmem := Lib.hid hmem; have Hkl := Lib.hid hkl
      clear hmem hkl
      cases hib : (n == ([105, 110, 98, 111, 120] : List UInt8)) with
      | true =>
        have hr2 : deleteF l n = ([], 8, -3) := by rw [deleteF, Hg.out, if_neg (by simp), if_neg (by rw [Classical.not_not]; exact Hmem.out), if_pos (.inl (beq_iff_eq.1 hib))]
        have Hr2 := Lib.hid hr2
        clear hr2
        go_wp2_with fail
        refine (fault_ok _ _ _).mono ?_
        rintro e w9 ⟨rfl, hb9⟩
        have k9 := kf2.ext hb9
        obtain ⟨c0, c1, z0, z1, s1⟩ := k9.two
        obtain ⟨e0, e1⟩ := k9.put2 (.int .i64 8) (.int .i64 (-3))
        have b9 := b2.trans (hb9.mono b2.size)
        go_wp2
        exact bodyPost_ret (v := .tuple #[.slice none 0 0, .agg #[.int .i64 8, .int .i64 (-3)]]) (by simp [results, Tryd.results22, go_sem, e0, e1]) rfl ⟨_, by rw [Hr2.out], by rw [Hr2.out]; exact SlR.nil _ _ _, below_set2 b9 (by omega) _ _⟩
      | false =>
        have hni : n ≠ inboxF := fun e => by rw [e] at hib; exact absurd hib (by decide)
        have hcf := containsFuncS_ok M0 49 #[.pointer (some ⟨w.heap.size, 0, none⟩)] (fun s => belowF s n) l _ w2 (Hh.out.ext b2) (enters_of Tryd.func49 (by kernel_rfl) rfl) (fun g W hW _ => delete1_ok g _ n hn W ((kx2.ext hW).cell 0) (kx2.ext hW).lt)
        obtain ⟨t2, ht2⟩ : ∃ t, l.any (fun s => belowF s n) = t := ⟨_, rfl⟩
        rw [ht2] at hcf
        have Ht2 := Lib.hid ht2; have Hni := Lib.hid hni
        clear ht2 hni
        go_wp2_with fail
        refine hcf.mono ?_
        rintro e w3 ⟨rfl, hb3⟩
        have kf3 := kf2.ext hb3
        have b3 := b2.trans (hb3.mono b2.size)
        clear hcf kx2 x0 xb kf2 b2 hb3
        cases t2 with
        | true =>
          have hr2 : deleteF l n = ([], 8, -3) := by rw [deleteF, Hg.out, if_neg (by simp), if_neg (by rw [Classical.not_not]; exact Hmem.out), if_pos (.inr Ht2.out)]
          have Hr2 := Lib.hid hr2
          clear hr2
          go_wp2_with fail
          refine (fault_ok _ _ _).mono ?_
          rintro e w9 ⟨rfl, hb9⟩
          have k9 := kf3.ext hb9
          obtain ⟨c0, c1, z0, z1, s1⟩ := k9.two
          obtain ⟨e0, e1⟩ := k9.put2 (.int .i64 8) (.int .i64 (-3))
          have b9 := b3.trans (hb9.mono b3.size)
          go_wp2
          exact bodyPost_ret (v := .tuple #[.slice none 0 0, .agg #[.int .i64 8, .int .i64 (-3)]]) (by simp [results, Tryd.results22, go_sem, e0, e1]) rfl ⟨_, by rw [Hr2.out], by rw [Hr2.out]; exact SlR.nil _ _ _, below_set2 b9 (by omega) _ _⟩
        | false =>
          have hr2 : deleteF l n = (l.filter (fun s => s != n), 0, 0) := by
            rw [deleteF, Hg.out, if_neg (by simp), if_neg (by rw [Classical.not_not]; exact Hmem.out), if_neg]
            rintro (h | h)
            · exact Hni.out h
            · rw [Ht2.out] at h; cases h
          obtain ⟨hkl, hke⟩ := Hkl.out
          have hers := erase_filter HV.out.sorted hkl hke
          rw [← hers] at hr2
          have Hr2 := Lib.hid hr2
          clear hr2 hers hke
          have hfl := kf3.lt
          have hcl := cloneSt_ok (fun b => b = w.heap.size + 1) _ l w3 ((Hh.out.sub (M' := fun b => b = w.heap.size + 1) fun b hb e => absurd hb (by omega)).ext b3) (by omega)
          have hk1 : (k : Int) + 1 ≤ 1000 := by omega
          go_wp2_with fail
          refine hcl.mono ?_
          rintro e w5 ⟨v5, rfl, hown5, hb5⟩
          clear hcl
          have kf5 := kf3.ext hb5
          have b5 := b3.trans (hb5.mono b3.size)
          have hdel := deleteSt_ok _ _ l k _ _ hown5 hkl
          have hne5 : ∀ b, v5.ownBlock = some b → w3.heap.size ≤ b := fun b hb => hown5.base b hb
          obtain ⟨A5, c5, rfl, _, _⟩ := hown5.shape
          have Hne5 := Lib.hid hne5
          obtain ⟨R, hR⟩ : ∃ R, l.eraseIdx k = R := ⟨_, rfl⟩
          rw [hR] at hdel Hr2
          clear hne5 hown5 hR
          go_wp2_with fail
          refine hdel.mono ?_
          rintro e w6 ⟨v6, rfl, hown6, hg6, hrow6⟩
          clear hdel hrow6
          have kf6 := kf5.grown hg6 (fun e => by have := Hne5.out _ e.symm; omega)
          have b6 := b5.grown hg6 b5.size (fun b hb => by have := Hne5.out _ hb; have := b3.size; omega)
          obtain ⟨A6, c6, rfl, _, _⟩ := hown6.shape
          clear hg6 kf5 b5 kf3
          go_wp2_with fail
          refine (none_ok _).mono ?_
          rintro e w7 ⟨rfl, hb7⟩
          have k9 := kf6.ext hb7
          obtain ⟨c0, c1, z0, z1, s1⟩ := k9.two
          obtain ⟨e0, e1⟩ := k9.put2 (.int .i64 0) (.int .i64 0)
          have b9 := b6.trans (hb7.mono b6.size)
          have hs9 := (((hown6.readB (fun b (e : b = w.heap.size + 1) => by omega)).ext hb7).set2 (g := w.heap.size + 1) rfl (.int .i64 0) (.int .i64 0)).zero
          clear hown6
          go_wp2
          exact bodyPost_ret (v := .tuple #[.slice A6 R.length c6, .agg #[.int .i64 0, .int .i64 0]]) (by simp [results, Tryd.results22, go_sem, e0, e1]) rfl ⟨_, by rw [Hr2.out], by rw [Hr2.out]; exact hs9, below_set2 b9 (by omega) _ _⟩
  · have hr2 : deleteF l n = ([], g1, g2) := by rw [deleteF, Hg.out, if_pos hg0]
    have hfb : (g1 != 0) = true := by simpa using hg0
    have Hr2 := Lib.hid hr2
    clear hr2
    obtain ⟨c0, c1, z0, z1, s1⟩ := kf2.two
    obtain ⟨d0, d1, y0, y1, s2⟩ := ke2.two
    go_wp2
    go_region
    all_goals go_wp2
    all_goals
      obtain ⟨e0, e1⟩ := kf2.put2 (.int .i64 g1) (.int .i64 g2)
      refine bodyPost_ret (v := .tuple #[.slice none 0 0, .agg #[.int .i64 g1, .int .i64 g2]]) (by simp [results, Tryd.results22, go_sem, e0, e1]) rfl ⟨_, by rw [Hr2.out], by rw [Hr2.out]; exact SlR.nil _ _ _, ?_⟩
      exact below_drew (below_set2 b2 (by omega) _ _)
end Go.Proofs.YtinmpjhmbciapaaDoor
