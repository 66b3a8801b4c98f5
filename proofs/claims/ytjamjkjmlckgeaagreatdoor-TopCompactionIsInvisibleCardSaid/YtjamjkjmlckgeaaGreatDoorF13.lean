/-
  Contracts and plain facts, one after another: A number in decimal; The check of a removal.
-/
import Derived.Test.YtjamjkjmlckgeaaGreatDoorF12
namespace Go.Proofs.YtjamjkjmlckgeaaGreatDoor
namespace Mb
/-! ### letters of a mailbox -/
def digF (n : Int) : Str := Lib.decDigits n.toNat
def refsF (es : List Ent) (i : Nat) (f : Int) : List Str := (((es.take i).filter fun e => e.2.2.1 == f).take 30).map fun e => digF e.1
def letterF (es : List Ent) (i : Nat) : Letter := (digF (es.getD i (0, 0, 0, 0, [], [])).1, refsF es i (es.getD i (0, 0, 0, 0, [], [])).2.2.1, (es.getD i (0, 0, 0, 0, [], [])).2.2.2.1)
def lettersB (es : List Ent) : List Letter := (List.range es.length).map (letterF es)
theorem digF_inj {a b : Int} (ha : 0 ≤ a) (hb : 0 ≤ b) (h : digF a = digF b) : a = b := by
  unfold digF at h
  have h1 := dec_nat a.toNat
  rw [h, dec_nat] at h1
  have := Option.some.inj h1
  omega
theorem digF_len {a : Int} (h : a ≤ 1000000) : digF a ≠ [] ∧ (digF a).length ≤ 200 := by
  unfold digF
  refine ⟨dec_ne _, ?_⟩
  rw [Lib.decDigits_length]
  have := nDigits_le 7 a.toNat (by omega) (by omega)
  omega
theorem lettersB_len (es : List Ent) : (lettersB es).length = es.length := by
  unfold lettersB
  rw [List.length_map, List.length_range]
theorem lettersB_get (es : List Ent) (i : Nat) (h : i < (lettersB es).length) : (lettersB es)[i] = letterF es i := by
  show ((List.range es.length).map (letterF es))[i]'(by simpa using (lettersB_len es ▸ h)) = letterF es i
  rw [List.getElem_map, List.getElem_range]
theorem letterF_app {es : List Ent} {e : Ent} {i : Nat} (h : i < es.length) : letterF (es ++ [e]) i = letterF es i := by
  unfold letterF refsF
  rw [gD _ (by rw [List.length_append]; omega), gD _ h, List.getElem_append_left h, List.take_append_of_le_length (Nat.le_of_lt h)]
theorem lettersB_app (es : List Ent) (e : Ent) : lettersB (es ++ [e]) = lettersB es ++ [letterF (es ++ [e]) es.length] := by
  unfold lettersB
  rw [List.length_append, show [e].length = 1 from rfl, List.range_succ, List.map_append]
  congr 1
  refine List.map_congr_left fun i hi => ?_
  exact letterF_app (List.mem_range.1 hi)
theorem refs_from {es : List Ent} {i : Nat} {f : Int} {r : Str} (h : r ∈ refsF es i f) : ∃ e ∈ es, r = digF e.1 := by
  unfold refsF at h
  rw [List.mem_map] at h
  obtain ⟨e, he, rfl⟩ := h
  exact ⟨e, List.mem_of_mem_take (List.mem_filter.1 (List.mem_of_mem_take he)).1, rfl⟩
theorem refs_len (es : List Ent) (i : Nat) (f : Int) : (refsF es i f).length ≤ 30 := by
  unfold refsF
  rw [List.length_map, List.length_take]
  omega
theorem errOf_zero {b : Box} (h : Good b) {k : Nat} (hk : k < b.es.length) : Th.errOf ((lettersB b.es).take k) (letterF b.es k) = 0 := by
  have he := h.es _ (List.getElem_mem hk)
  have hnu := h.nu
  unfold Th.errOf
  have h1 : (letterF b.es k).1 = digF b.es[k].1 := by unfold letterF; rw [gD _ hk]
  have h2 : (letterF b.es k).2.2 = b.es[k].2.2.2.1 := by unfold letterF; rw [gD _ hk]
  have h3 := digF_len (a := b.es[k].1) (by omega)
  rw [if_neg (by rw [h1]; rintro (h4 | h4); exact h3.1 h4; omega), if_neg (by rw [h2]; omega), if_neg (by have := refs_len b.es k (b.es.getD k (0, 0, 0, 0, [], [])).2.2.1; show ¬ 30 < (refsF _ _ _).length; omega), if_neg ?_]
  rw [Bool.not_eq_true, List.any_eq_false]
  intro y hy e
  rw [List.mem_take_iff_getElem] at hy
  obtain ⟨j, hj, rfl⟩ := hy
  rw [lettersB_len] at hj
  have hj' : j < b.es.length := by omega
  rw [lettersB_get, h1] at e
  have h5 : (letterF b.es j).1 = digF b.es[j].1 := by unfold letterF; rw [gD _ hj']
  rw [h5] at e
  have hej := h.es _ (List.getElem_mem hj')
  have h6 := digF_inj (by omega) (by omega) (show digF b.es[j].1 = digF b.es[k].1 by simpa using e)
  have h7 := List.pairwise_iff_getElem.1 h.up j k hj' hk (by omega)
  omega
theorem letters_ok {b : Box} (h : Good b) : Th.lettersF (lettersB b.es) = (0, 0) := by
  unfold Th.lettersF
  have hle := h.le
  rw [lettersB_len, if_neg (by omega)]
  have : ∀ (f k : Nat), k + f = b.es.length → Th.faultGo (lettersB b.es) f k = (0, 0) := by
    intro f
    induction f with
    | zero => intro k _; rfl
    | succ f ih =>
      intro k hk
      unfold Th.faultGo
      rw [List.getElem?_eq_getElem (by rw [lettersB_len]; omega)]
      dsimp only
      rw [lettersB_get, if_pos (errOf_zero h (by omega))]
      exact ih (k + 1) (by omega)
  exact this b.es.length 0 (by omega)
theorem lastOf_app (l : List Letter) (x : Letter) (r : Str) (h : x.1 ≠ r) : Th.lastOf (l ++ [x]) r = Th.lastOf l r := by
  induction l with
  | nil =>
    show (match Th.lastOf [] r with | some k => some (k + 1) | none => if x.1 == r then some 0 else none) = none
    show (if (x.1 == r) = true then some 0 else none) = none
    rw [if_neg (by simpa using h)]
  | cons y l ih =>
    show (match Th.lastOf (l ++ [x]) r with | some k => some (k + 1) | none => if y.1 == r then some 0 else none) = _
    rw [ih]
    rfl
theorem lastOf_lt : ∀ (l : List Letter) (r : Str) (k : Nat), Th.lastOf l r = some k → k < l.length
  | [], _, _, h => by cases h
  | y :: l, r, k, h => by
    have h1 : (match Th.lastOf l r with | some k => some (k + 1) | none => if y.1 == r then some 0 else none) = some k := h
    cases h2 : Th.lastOf l r with
    | some j =>
      rw [h2] at h1
      have := lastOf_lt l r j h2
      have h3 := Option.some.inj h1
      rw [List.length_cons]
      omega
    | none =>
      rw [h2] at h1
      dsimp only at h1
      split at h1
      · have := Option.some.inj h1
        rw [List.length_cons]
        omega
      · cases h1
theorem refTo_app (l : List Letter) (y x : Letter) (r : Str) (h : x.1 ≠ r) : Th.refTo (l ++ [x]) y r = Th.refTo l y r := by
  unfold Th.refTo
  rw [lastOf_app l x r h]
  cases h1 : Th.lastOf l r with
  | none => rfl
  | some k =>
    dsimp only
    rw [List.getElem?_append_left (lastOf_lt l r k h1)]
theorem foldl_same {α β : Type} (f g : α → β → α) : ∀ (l : List β) (a : α), (∀ x ∈ l, ∀ a, f a x = g a x) → l.foldl f a = l.foldl g a
  | [], _, _ => rfl
  | x :: l, a, h => by
    rw [List.foldl_cons, List.foldl_cons, h x (.head _), foldl_same f g l _ fun y hy => h y (.tail _ hy)]
theorem parentOf_app (l : List Letter) (y x : Letter) (h : ∀ r ∈ y.2.1, x.1 ≠ r) : Th.parentOf (l ++ [x]) y = Th.parentOf l y := by
  unfold Th.parentOf
  exact foldl_same _ _ _ _ fun r hr p => by rw [refTo_app l y x r (h r hr)]
/-- a message that comes later changes nothing for those that are there -/
theorem parents_app {b : Box} {e : Ent} (h : Good b) (he : b.nu ≤ e.1 ∧ e.1 ≤ 1000000) {i : Nat} (hi : i < b.es.length) : (Th.parentsF (lettersB (b.es ++ [e]))).getD i 0 = (Th.parentsF (lettersB b.es)).getD i 0 := by
  unfold Th.parentsF
  have hl := lettersB_len b.es
  rw [lettersB_app, gD _ (by rw [List.length_map, List.length_append, hl]; omega), gD _ (by rw [List.length_map, hl]; exact hi), List.getElem_map, List.getElem_map, List.getElem_append_left (by rw [hl]; exact hi)]
  refine parentOf_app _ _ _ fun r hr => ?_
  rw [lettersB_get] at hr
  obtain ⟨x, hx, rfl⟩ := refs_from hr
  have h1 : (letterF (b.es ++ [e]) b.es.length).1 = digF e.1 := by
    unfold letterF
    rw [gD _ (by rw [List.length_append]; exact Nat.lt_succ_self _), List.getElem_append_right (Nat.le_refl _)]
    simp
  rw [h1]
  intro h2
  have h3 := (h.es x hx).1
  have h4 := h.nu
  have := digF_inj (by omega) (by omega) h2
  omega
theorem parents_len (es : List Ent) : (Th.parentsF (lettersB es)).length = es.length := by
  unfold Th.parentsF
  rw [List.length_map, lettersB_len]
end Mb
end Go.Proofs.YtjamjkjmlckgeaaGreatDoor
namespace Go.Proofs.YtjamjkjmlckgeaaGreatDoor
open Go.RowKit

set_option maxHeartbeats 1000000 in
theorem dig_small (n : Nat) (h : n < 10) (w : World) : Calls Tryz.prog 39 #[.int .i64 (n : Int)] w fun e w' => e = .returned (.string (bs (Lib.decDigits n))) ∧ w = w' := by
  have hd : Lib.decDigits n = [UInt8.ofNat (48 + n)] := by rw [Lib.decDigits, dif_pos h]
  rw [hd]
  have hc : n = 0 ∨ n = 1 ∨ n = 2 ∨ n = 3 ∨ n = 4 ∨ n = 5 ∨ n = 6 ∨ n = 7 ∨ n = 8 ∨ n = 9 := by omega
  clear hd h
  rcases hc with rfl | rfl | rfl | rfl | rfl | rfl | rfl | rfl | rfl | rfl
  all_goals
    go_enter Tryz.func39, Tryz.ntmps39
    go_wp2
    go_ret
    exact ⟨rfl, rfl⟩
theorem digits_ok : ∀ (n : Nat), n ≤ 1000000 → ∀ w, Calls Tryz.prog 39 #[.int .i64 (n : Int)] w fun e w' => e = .returned (.string (bs (Lib.decDigits n))) ∧ w = w' := by
  intro n
  induction n using Nat.strongRecOn with
  | _ n ih =>
    intro hn w
    by_cases h : n < 10
    · exact dig_small n h w
    · have h1 := fun w => ih (n / 10) (by omega) (by omega) w
      have h2 := fun w => dig_small (n % 10) (by omega) w
      have hd : Lib.decDigits n = Lib.decDigits (n / 10) ++ Lib.decDigits (n % 10) := by
        have hs : Lib.decDigits (n % 10) = [UInt8.ofNat (48 + n % 10)] := by rw [Lib.decDigits, dif_pos (by omega)]
        rw [hs, Lib.decDigits, dif_neg h]
      have l1 : (Lib.decDigits (n / 10)).length ≤ 7 := by rw [Lib.decDigits_length]; exact Mb.nDigits_le 7 _ (by omega) (by omega)
      have l2 : (Lib.decDigits (n % 10)).length ≤ 7 := by rw [Lib.decDigits_length]; exact Mb.nDigits_le 7 _ (by omega) (by omega)
      have e1 : ((n / 10 : Nat) : Int) = (n : Int) / 10 := by omega
      have e2 : ((n % 10 : Nat) : Int) = (n : Int) % 10 := by omega
      rw [e1] at h1
      rw [e2] at h2
      have H1 := Lib.hid h1
      have H2 := Lib.hid h2
      have Hd := Lib.hid hd
      clear h1 h2 hd ih e1 e2
      go_enter Tryz.func39, Tryz.ntmps39
      go_wp2_with fail
      refine (H1.out w).mono ?_
      rintro e w1 ⟨rfl, rfl⟩
      go_wp2_with fail
      refine (H2.out w).mono ?_
      rintro e w1 ⟨rfl, rfl⟩
      go_wp2
      go_ret
      exact ⟨by rw [Hd.out]; exact ret_str (by apply ByteArray.ext; apply Array.ext'; simp [bs]), rfl⟩
end Go.Proofs.YtjamjkjmlckgeaaGreatDoor
namespace Go.Proofs.YtjamjkjmlckgeaaGreatDoor
open Go.RowKit

theorem goneErr_eq {b : Mb.Box} {k : Nat} (hk : k < b.gs.length) : Mb.goneErr b k = (if (!(decide (1 ≤ b.gs[k].1) && decide (b.gs[k].1 ≤ b.nu - 1)) || !(decide (b.hz + 1 ≤ b.gs[k].2) && decide (b.gs[k].2 ≤ b.ns - 1))) = true then 3 else if (decide (0 < k) && decide (b.gs[k].2 ≤ (b.gs.getD (k - 1) (0, 0)).2)) = true then 19 else if (((b.gs.take k).any fun x => x.1 == b.gs[k].1) || decide (0 ≤ Mb.findI b.es b.gs[k].1)) = true then 7 else 0) := by
  unfold Mb.goneErr
  rw [Mb.gD _ hk]
  dsimp only
  simp only [Bool.or_eq_true, Bool.not_eq_true', Bool.and_eq_true, decide_eq_true_eq, Bool.and_eq_false_iff, decide_eq_false_iff_not, Decidable.not_and_iff_or_not]
set_option maxRecDepth 100000 in
set_option maxHeartbeats 4000000 in
theorem removed_ok (b : Mb.Box) (es gs : Value) (k : Nat) (hk : k < b.gs.length) (w : World) (he : SlR entC M0 w es b.es) (hg : SlR gnC M0 w gs b.gs) (hnu : 1 ≤ b.nu ∧ b.nu ≤ 1000000) (hns : 1 ≤ b.ns ∧ b.ns ≤ 1000000) (hhz : 0 ≤ b.hz ∧ b.hz ≤ b.ns - 1) (hgl : b.gs.length ≤ 400) :
    Calls Tryz.prog 43 #[boxV b es gs, .int .i64 (k : Int)] w fun e w' => e = .returned (.int .i64 (Mb.goneErr b k)) ∧ Below w.heap.size w w' := by
  have hfi := fun W (h1 : SlR entC M0 W es b.es) (h2 : SlR gnC M0 W gs b.gs) => find_ok b es gs b.gs[k].1 W h1 h2
  obtain ⟨Ae, ce, rfl, _, _⟩ := he.form
  obtain ⟨Ag, cg, rfl, hgc, hgm⟩ := hg.form
  unfold boxV at hfi ⊢
  obtain ⟨v, hv⟩ : ∃ v, v = Mb.goneErr b k := ⟨_, rfl⟩
  rw [← hv]
  have HE := hv.trans (goneErr_eq hk)
  obtain ⟨w1, g1, hw1, hg1, hsz1, k1, hb1⟩ := box1 w #[.int .i64 b.nu, .int .i64 b.ns, .int .i64 b.hz, .slice Ae b.es.length ce, .slice Ag b.gs.length cg] 26
  obtain ⟨u, hu⟩ : ∃ x, x = b.gs[k].1 := ⟨_, rfl⟩
  obtain ⟨s, hs⟩ : ∃ x, x = b.gs[k].2 := ⟨_, rfl⟩
  obtain ⟨bb, off, rfl, _, hbb, q0, q1⟩ := (hg.ext hb1).gnAt hk
  rw [← hu] at q0 hfi HE
  rw [← hs] at q1 HE
  obtain ⟨w2, g2, hw2, hg2, hsz2, k2, hb2⟩ := box1 w1 #[.int .i64 u, .int .i64 s] 82
  have hb2' := below2 hb1 hb2
  have hcn := fun W (hW : SlR gnC M0 W (.slice (some ⟨bb, off, none⟩) b.gs.length cg) b.gs) (hk2 : Blk W g2 82 #[.int .i64 u, .int .i64 s]) => containsGn_ok M0 u s g2 (.slice (some ⟨bb, off, none⟩) k cg) (b.gs.take k) W (hW.firsts (Nat.le_of_lt hk)) hk2
  obtain ⟨t1, e1⟩ : ∃ t, (decide (1 ≤ u) && decide (u ≤ b.nu - 1)) = t := ⟨_, rfl⟩
  obtain ⟨t2, e2⟩ : ∃ t, (decide (b.hz + 1 ≤ s) && decide (s ≤ b.ns - 1)) = t := ⟨_, rfl⟩
  obtain ⟨t4, e4⟩ : ∃ t, ((b.gs.take k).any fun x => x.1 == u) = t := ⟨_, rfl⟩
  obtain ⟨fi, e5⟩ : ∃ t, Mb.findI b.es u = t := ⟨_, rfl⟩
  rw [e1, e2, e4, e5] at HE
  rw [e5] at hfi
  have E1 := Lib.hid e1; have E2 := Lib.hid e2
  rw [e4] at hcn
  have C1 := Lib.hid hcn; have F1 := Lib.hid hfi
  have he2 := he.ext hb2'
  have hg2' := hg.ext hb2'
  have hkc : k ≤ cg := by omega
  obtain ⟨d0, d1⟩ := (⟨k2.two.1, k2.two.2.1⟩ : _ ∧ _)
  have c0 := (k1.ext hb2).cell 0; have c1 := (k1.ext hb2).cell 1; have c2 := (k1.ext hb2).cell 2; have c3 := (k1.ext hb2).cell 3; have c4 := (k1.ext hb2).cell 4
  have x4 := k1.cell 4
  obtain ⟨p, hp⟩ : ∃ p, p = (b.gs.getD (k - 1) (0, 0)).2 := ⟨_, rfl⟩
  rw [← hp] at HE
  have hprev : 0 < k → ∃ j, k = j + 1 ∧ w2.cell? ⟨bb, off + j * 2 + 1, none⟩ = some (.int .i64 p) := fun h0 => by
    obtain ⟨j, rfl⟩ : ∃ j, k = j + 1 := ⟨k - 1, by omega⟩
    obtain ⟨b3, off3, hA, _, _, _, y1⟩ := hg2'.gnAt (show j < b.gs.length by omega)
    cases hA
    rw [Nat.add_sub_cancel, Mb.gD _ (by omega)] at hp
    rw [← hp] at y1
    exact ⟨j, rfl, y1⟩
  have HP := Lib.hid hprev
  have Hk2 := Lib.hid k2
  have Hk1 := Lib.hid (k1.ext hb2)
  have HB := Lib.hid hb2'
  clear hsz1 hsz2 hcn hfi e1 e2 e4 e5 hp hprev hv hu hs hgc hgm hb1 k2
  cases t1 with
  | false =>
    have HE2 := Lib.hid (show v = 3 from HE)
    clear HE
    go_enter Tryz.func43, Tryz.ntmps43
    go_wp2_with (go_at_call 40; refine (between_ok _ _ _ _).mono ?_; rintro e w3 ⟨rfl, rfl⟩; first | rw [E1.out] | rw [E2.out])
    go_ret
    exact ⟨by rw [HE2.out] <;> rfl, HB.out⟩
  | true =>
    cases t2 with
    | false =>
      have HE2 := Lib.hid (show v = 3 from HE)
      clear HE
      go_enter Tryz.func43, Tryz.ntmps43
      go_wp2_with (go_at_call 40; refine (between_ok _ _ _ _).mono ?_; rintro e w3 ⟨rfl, rfl⟩; first | rw [E1.out] | rw [E2.out])
      go_ret
      exact ⟨by rw [HE2.out] <;> rfl, HB.out⟩
    | true =>
      have HEa := HE
      rw [show (!true || !true) = false from rfl, if_neg (by decide)] at HEa
      clear HE
      by_cases h0 : 0 < k
      · obtain ⟨j, rfl, y1⟩ := HP.out h0
        have hd0 : decide ((0 : Int) < ((j + 1 : Nat) : Int)) = true := decide_eq_true (by omega)
        have hsub : (((j + 1 : Nat) : Int) - 1) = (j : Int) := by omega
        rw [show decide (0 < j + 1) = true from by simp, Bool.true_and] at HEa
        clear HP h0
        obtain ⟨t3, e3⟩ : ∃ t, decide (s ≤ p) = t := ⟨_, rfl⟩
        rw [e3] at HEa
        cases t3 with
        | true =>
          have HE2 := Lib.hid (show v = 19 from HEa)
          clear HEa
          go_enter Tryz.func43, Tryz.ntmps43
          go_wp2_with (go_at_call 40; refine (between_ok _ _ _ _).mono ?_; rintro e w3 ⟨rfl, rfl⟩; first | rw [E1.out] | rw [E2.out])
          go_quiet (fail)
          go_wp2
          go_ret
          exact ⟨by rw [HE2.out] <;> rfl, below_drewN HB.out _⟩
        | false =>
          have HE3 := Lib.hid HEa
          clear HEa
          go_enter Tryz.func43, Tryz.ntmps43
          go_wp2_with (go_at_call 40; refine (between_ok _ _ _ _).mono ?_; rintro e w3 ⟨rfl, rfl⟩; first | rw [E1.out] | rw [E2.out])
          go_quiet (fail)
          generalize hV : w2.drewN nq = V
          have hbV : Below w2.heap.size w2 V := by rw [← hV]; exact below_drewN' _ _ _
          have hB3 := below2 HB.out hbV
          have d0 := (Hk2.out.ext hbV).two.1
          have d1 := (Hk2.out.ext hbV).two.2.1
          have c0 := (Hk1.out.ext hbV).cell 0; have c1 := (Hk1.out.ext hbV).cell 1; have c2 := (Hk1.out.ext hbV).cell 2; have c3 := (Hk1.out.ext hbV).cell 3; have c4 := (Hk1.out.ext hbV).cell 4
          have kk := Hk2.out.ext hbV
          have hgV := hg2'.ext hbV
          have heV := he2.ext hbV
          clear hV hw2
          go_wp2_with fail
          refine (C1.out V hgV kk).mono ?_
          rintro e w4 ⟨rfl, hb4⟩
          have hB4 := below2 hB3 hb4
          cases t4 with
          | true =>
            have HE2 := Lib.hid (show v = 7 from HE3.out)
            go_wp2
            go_ret
            exact ⟨by rw [HE2.out] <;> rfl, hB4⟩
          | false =>
            have d0 := (kk.ext hb4).two.1
            have d1 := (kk.ext hb4).two.2.1
            have k5 := (Hk1.out.ext hbV).ext hb4
            have c0 := k5.cell 0; have c1 := k5.cell 1; have c2 := k5.cell 2; have c3 := k5.cell 3; have c4 := k5.cell 4
            obtain ⟨t5, e5⟩ : ∃ t, decide (0 ≤ fi) = t := ⟨_, rfl⟩
            have HE4 := HE3.out
            rw [e5] at HE4
            have heW := heV.ext hb4
            have hgW := hgV.ext hb4
            cases t5 with
            | true =>
              have HE2 := Lib.hid (show v = 7 from HE4)
              clear HE4 k5
              go_wp2_with (go_at_call 57; refine (F1.out w4 heW hgW).mono ?_; rintro e w5 ⟨rfl, hb5⟩)
              go_ret
              exact ⟨by rw [HE2.out] <;> rfl, below2 hB4 hb5⟩
            | false =>
              have HE2 := Lib.hid (show v = 0 from HE4)
              clear HE4 k5
              go_wp2_with (go_at_call 57; refine (F1.out w4 heW hgW).mono ?_; rintro e w5 ⟨rfl, hb5⟩)
              go_ret
              exact ⟨by rw [HE2.out] <;> rfl, below2 hB4 hb5⟩
      · have h0' : k = 0 := by omega
        subst h0'
        rw [Nat.zero_mul, Nat.add_zero] at q0 q1
        have HE3 := Lib.hid HEa
        clear HEa HP h0
        go_enter Tryz.func43, Tryz.ntmps43
        go_wp2_with (go_at_call 40; refine (between_ok _ _ _ _).mono ?_; rintro e w3 ⟨rfl, rfl⟩; first | rw [E1.out] | rw [E2.out])
        go_quiet (fail)
        generalize hV : w2.drewN nq = V
        have hbV : Below w2.heap.size w2 V := by rw [← hV]; exact below_drewN' _ _ _
        have hB3 := below2 HB.out hbV
        have d0 := (Hk2.out.ext hbV).two.1
        have d1 := (Hk2.out.ext hbV).two.2.1
        have c0 := (Hk1.out.ext hbV).cell 0; have c1 := (Hk1.out.ext hbV).cell 1; have c2 := (Hk1.out.ext hbV).cell 2; have c3 := (Hk1.out.ext hbV).cell 3; have c4 := (Hk1.out.ext hbV).cell 4
        have kk := Hk2.out.ext hbV
        have hgV := hg2'.ext hbV
        have heV := he2.ext hbV
        clear hV hw2
        go_wp2_with fail
        refine (C1.out V hgV kk).mono ?_
        rintro e w4 ⟨rfl, hb4⟩
        have hB4 := below2 hB3 hb4
        cases t4 with
        | true =>
          have HE2 := Lib.hid (show v = 7 from HE3.out)
          go_wp2
          go_ret
          exact ⟨by rw [HE2.out] <;> rfl, hB4⟩
        | false =>
          have d0 := (kk.ext hb4).two.1
          have d1 := (kk.ext hb4).two.2.1
          have k5 := (Hk1.out.ext hbV).ext hb4
          have c0 := k5.cell 0; have c1 := k5.cell 1; have c2 := k5.cell 2; have c3 := k5.cell 3; have c4 := k5.cell 4
          obtain ⟨t5, e5⟩ : ∃ t, decide (0 ≤ fi) = t := ⟨_, rfl⟩
          have HE4 := HE3.out
          rw [e5] at HE4
          have heW := heV.ext hb4
          have hgW := hgV.ext hb4
          cases t5 with
          | true =>
            have HE2 := Lib.hid (show v = 7 from HE4)
            clear HE4 k5
            go_wp2_with (go_at_call 57; refine (F1.out w4 heW hgW).mono ?_; rintro e w5 ⟨rfl, hb5⟩)
            go_ret
            exact ⟨by rw [HE2.out] <;> rfl, below2 hB4 hb5⟩
          | false =>
            have HE2 := Lib.hid (show v = 0 from HE4)
            clear HE4 k5
            go_wp2_with (go_at_call 57; refine (F1.out w4 heW hgW).mono ?_; rintro e w5 ⟨rfl, hb5⟩)
            go_ret
            exact ⟨by rw [HE2.out] <;> rfl, below2 hB4 hb5⟩
end Go.Proofs.YtjamjkjmlckgeaaGreatDoor
