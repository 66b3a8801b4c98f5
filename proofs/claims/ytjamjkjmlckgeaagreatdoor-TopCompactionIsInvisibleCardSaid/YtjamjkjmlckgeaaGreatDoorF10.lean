/-
  Contracts and plain facts, one after another: The check of a message.
-/
import Derived.Test.YtjamjkjmlckgeaaGreatDoorF37
import Derived.Test.YtjamjkjmlckgeaaGreatDoorF2
namespace Go.Proofs.YtjamjkjmlckgeaaGreatDoor
open Go.RowKit

theorem foldGo_count : ∀ (f : Nat) (s : Str) (k : Nat), (Mb.foldGo f s k).length ≤ f + 1
  | 0, s, k => by simp [Mb.foldGo]
  | f + 1, s, k => by
    unfold Mb.foldGo
    split
    · simp
    · split
      · simp
      · have := foldGo_count f (s.drop (Mb.pointF s k)) 0
        rw [List.length_cons]
        omega
theorem lineB_len {x : Mb.Fld} (h : (Mb.foldF x.1 x.2).2.1 = 0) : (lineB x).length ≤ 20000 := by
  obtain ⟨h1, h2, h3, _⟩ := Mb.foldF_ok h
  have h4 := nameF_len h2
  unfold lineB
  rw [Mb.lines_bytes, h1]
  unfold Mb.linesF
  rw [Mb.foldGo_sum]
  have := foldGo_count (x.1.length + 2 + x.2.length) (x.1 ++ 58 :: 32 :: x.2) (x.1.length + 2)
  simp only [List.length_append, List.length_cons]
  omega
theorem msgF_body {m : Mb.Msg} (h : (Mb.headerF m.1).1 = 0) (h2 : ¬ 12000 < (Mb.writeF m).length) : Mb.msgF m = bodyE m.2 := by
  unfold Mb.msgF bodyE
  rw [if_neg (fun hh => hh h), if_neg h2]
theorem msgF_long {m : Mb.Msg} (h : (Mb.headerF m.1).1 = 0) (h2 : 12000 < (Mb.writeF m).length) : Mb.msgF m = (1, -4) := by
  unfold Mb.msgF
  rw [if_neg (fun hh => hh h), if_pos h2]
theorem msgF_head {m : Mb.Msg} (h : (Mb.headerF m.1).1 ≠ 0) : Mb.msgF m = Mb.headerF m.1 := by
  unfold Mb.msgF
  rw [if_pos h]
theorem header_zero {l : List Mb.Fld} (h : (Mb.headerF l).1 = 0) : l.length ≤ 60 ∧ ∀ x ∈ l, (lineB x).length ≤ 20000 := by
  unfold Mb.headerF at h
  split at h
  · cases h
  · exact ⟨by omega, fun x hx => lineB_len (Mb.fields_ok l 0 h x hx)⟩
set_option maxRecDepth 100000 in
set_option maxHeartbeats 4000000 in
theorem mvalidate_ok (f b : Value) (m : Mb.Msg) (w : World) (hf : SlR fldC M0 w f m.1) (hb : SlR byteC M0 w b m.2) (hlen : m.2.length ≤ 140737488355328) :
    Calls Tryz.prog 42 #[.agg #[f, b]] w fun e w' => e = .returned (.agg #[.int .i64 (Mb.msgF m).1, .int .i64 (Mb.msgF m).2]) ∧ Below w.heap.size w w' := by
  obtain ⟨Af, cf, rfl, hlf, _⟩ := hf.form
  obtain ⟨Ab, cb, rfl, hlb, _⟩ := hb.form
  obtain ⟨w0, g, g2, hw0, hg, hg2, hsz0, k0, k02, hb0⟩ := box2 w #[.slice Af m.1.length cf, .slice Ab m.2.length cb] 45 #[.int .i64 0, .int .i64 0] 31
  obtain ⟨c1, hc1⟩ : ∃ x, x = (Mb.headerF m.1).1 := ⟨_, rfl⟩
  obtain ⟨c2, hc2⟩ : ∃ x, x = (Mb.headerF m.1).2 := ⟨_, rfl⟩
  have hgl : w.heap.size ≤ g2 := by omega
  obtain ⟨d0, d1, y0, y1, _⟩ := k0.two
  have hhd := fun W (hW : SlR fldC M0 W (.slice Af m.1.length cf) m.1) => header_ok _ m.1 W hW
  rw [← hc1, ← hc2] at hhd
  have Hhd := Lib.hid hhd
  have hf0 := hf.ext hb0
  clear hsz0 hhd
  by_cases h1 : c1 = 0
  · have hh0 : (Mb.headerF m.1).1 = 0 := by rw [← hc1]; exact h1
    obtain ⟨h60, hsz⟩ := header_zero hh0
    subst h1
    have hwr := fun W (hW : SlR fldC M0 W (.slice Af m.1.length cf) m.1) (hW2 : SlR byteC M0 W (.slice Ab m.2.length cb) m.2) => write_ok _ _ m W hW hW2 h60 hsz hlen
    have hmb := fun W (hW2 : SlR byteC M0 W (.slice Ab m.2.length cb) m.2) => mbody_ok M0 _ m.2 W hW2
    have Hwr := Lib.hid hwr
    have hz : ((0 : Int) != 0) = false := rfl
    have hbB := hb.ext hb0
    clear hc1 hc2 hwr h60 hsz
    by_cases hbig : 12000 < (Mb.writeF m).length
    · have HE := Lib.hid (show Mb.msgF m = (1, -4) from msgF_long hh0 hbig)
      have Hbig := Lib.hid hbig
      clear hh0 hmb hbig
      go_enter Tryz.func42, Tryz.ntmps42
      go_wp2_with (first
        | (go_at_call 78; refine (Hhd.out _ hf0).mono ?_; rintro e w1 ⟨rfl, hb1⟩)
        | (go_at_call 21; refine (failed_ok _ _ _).mono ?_; rintro e w2 ⟨rfl, hb2⟩; have hb2' := below2 hb1 (below_alloc hb2); obtain ⟨a0, a1, a2, a3, a4⟩ := (k0.ext hb2').two)
        | (go_at_call 79; refine (Hwr.out _ (hf0.ext hb2') (hbB.ext hb2')).mono ?_; rintro e w3 ⟨A3, c3, L3, rfl, hL3, own3, hb3⟩; have hb3' := below2 hb2' hb3; have hlong : (12000 : Int) < (L3.length : Int) := by (have := Hbig.out; rw [← hL3.out] at this; omega))
        | (go_at_call 27; refine (fault_ok _ _ _).mono ?_; rintro e w4 ⟨rfl, hb4⟩; have hb4' := below2 hb3' hb4; have k3 := k02.ext hb4'; obtain ⟨p0, p1, p2, p3, p4⟩ := k3.two; obtain ⟨e0, e1⟩ := k3.put2 (.int .i64 1) (.int .i64 (-4))))
      refine bodyPost_ret (v := .agg #[.int .i64 1, .int .i64 (-4)]) (by simp [results, Tryz.results42, go_sem, e0, e1]) rfl ⟨by rw [HE.out], ?_⟩
      exact below_set2 (below2 hb0 hb4') hgl _ _
    · have HE := Lib.hid (show Mb.msgF m = bodyE m.2 from msgF_body hh0 hbig)
      have Hbig := Lib.hid hbig
      obtain ⟨r1, hr1⟩ : ∃ x, x = (bodyE m.2).1 := ⟨_, rfl⟩
      obtain ⟨r2, hr2⟩ : ∃ x, x = (bodyE m.2).2 := ⟨_, rfl⟩
      rw [← hr1, ← hr2] at hmb
      have Hmb := Lib.hid hmb
      have HE2 := Lib.hid (show Mb.msgF m = (r1, r2) by rw [HE.out, hr1, hr2])
      clear hh0 hmb hbig hr1 hr2 HE
      go_enter Tryz.func42, Tryz.ntmps42
      go_wp2_with (first
        | (go_at_call 78; refine (Hhd.out _ hf0).mono ?_; rintro e w1 ⟨rfl, hb1⟩)
        | (go_at_call 21; refine (failed_ok _ _ _).mono ?_; rintro e w2 ⟨rfl, hb2⟩; have hb2' := below2 hb1 (below_alloc hb2); obtain ⟨a0, a1, a2, a3, a4⟩ := (k0.ext hb2').two)
        | (go_at_call 79; refine (Hwr.out _ (hf0.ext hb2') (hbB.ext hb2')).mono ?_; rintro e w3 ⟨A3, c3, L3, rfl, hL3, own3, hb3⟩; have hb3' := below2 hb2' hb3; obtain ⟨b0, b1, b2, b3, b4⟩ := (k0.ext hb3').two; have hlong : ¬ (12000 : Int) < (L3.length : Int) := by (have := Hbig.out; rw [← hL3.out] at this; omega))
        | (go_at_call 80; refine (Hmb.out _ (hbB.ext hb3')).mono ?_; rintro e w4 ⟨rfl, hb4⟩; have hb4' := below2 hb3' hb4; have k3 := k02.ext hb4'; obtain ⟨p0, p1, p2, p3, p4⟩ := k3.two; obtain ⟨e0, e1⟩ := k3.put2 (.int .i64 r1) (.int .i64 r2)))
      refine bodyPost_ret (v := .agg #[.int .i64 r1, .int .i64 r2]) (by simp [results, Tryz.results42, go_sem, e0, e1]) rfl ⟨by rw [HE2.out], ?_⟩
      exact below_set2 (below2 hb0 hb4') hgl _ _
  · have hz : (c1 != 0) = true := by simpa using h1
    have HE := Lib.hid (show Mb.msgF m = (c1, c2) by rw [msgF_head (by rw [← hc1]; exact h1), hc1, hc2])
    clear hc1 hc2 h1
    go_enter Tryz.func42, Tryz.ntmps42
    go_wp2_with (first
      | (go_at_call 78; refine (Hhd.out _ hf0).mono ?_; rintro e w1 ⟨rfl, hb1⟩)
      | (go_at_call 21; refine (failed_ok _ _ _).mono ?_; rintro e w2 ⟨rfl, hb2⟩; have hb2' := below2 hb1 (below_alloc hb2); have k2 := (Blk.new w1 31 #[.int .i64 c1, .int .i64 c2]).ext hb2; have k3 := k02.ext hb2'; obtain ⟨a0, a1, a2, a3, a4⟩ := k2.two; obtain ⟨p0, p1, p2, p3, p4⟩ := k3.two; obtain ⟨e0, e1⟩ := k3.put2 (.int .i64 c1) (.int .i64 c2)))
    refine bodyPost_ret (v := .agg #[.int .i64 c1, .int .i64 c2]) (by simp [results, Tryz.results42, go_sem, e0, e1]) rfl ⟨by rw [HE.out], ?_⟩
    exact below_set2 (below2 hb0 hb2') hgl _ _
end Go.Proofs.YtjamjkjmlckgeaaGreatDoor
namespace Go.Proofs.YtjamjkjmlckgeaaGreatDoor
namespace Mb
/-! ### a mailbox that is good -/
theorem gD {α : Type} {l : List α} {i : Nat} (d : α) (h : i < l.length) : l.getD i d = l[i] := (List.getElem_eq_getD d).symm
structure Good (b : Box) : Prop where
  le : b.es.length ≤ 200
  lg : b.gs.length ≤ 400
  nu : 1 ≤ b.nu ∧ b.nu ≤ 1000000
  ns : 1 ≤ b.ns ∧ b.ns ≤ 1000000
  hz : 0 ≤ b.hz ∧ b.hz ≤ b.ns - 1
  es : ∀ e ∈ b.es, (1 ≤ e.1 ∧ e.1 ≤ b.nu - 1) ∧ (1 ≤ e.2.1 ∧ e.2.1 ≤ b.ns - 1) ∧ (0 ≤ e.2.2.1 ∧ e.2.2.1 ≤ 63) ∧ (-68719476736 ≤ e.2.2.2.1 ∧ e.2.2.2.1 ≤ 68719476736) ∧ (msgF e.2.2.2.2).1 = 0
  up : b.es.Pairwise fun x y => x.1 < y.1
  gs : ∀ g ∈ b.gs, (1 ≤ g.1 ∧ g.1 ≤ b.nu - 1) ∧ (b.hz + 1 ≤ g.2 ∧ g.2 ≤ b.ns - 1)
  gup : b.gs.Pairwise fun x y => x.2 < y.2
  gne : b.gs.Pairwise fun x y => x.1 ≠ y.1
  apart : ∀ g ∈ b.gs, ∀ e ∈ b.es, e.1 ≠ g.1
theorem errGo_zero (p : Nat → Int) (off : Int) : ∀ (f k : Nat), (errGo p off f k).1 = 0 ↔ ∀ i, k ≤ i → i < k + f → p i = 0
  | 0, k => by
    constructor
    · intro _ i h1 h2; omega
    · intro _; rfl
  | f + 1, k => by
    unfold errGo
    split
    · rename_i h
      constructor
      · intro h1; exact absurd h1 h
      · intro h1; exact absurd (h1 k (by omega) (by omega)) h
    · rename_i h
      rw [errGo_zero p off f (k + 1)]
      constructor
      · intro h1 i h2 h3
        by_cases h4 : i = k
        · subst h4; simpa using h
        · exact h1 i (by omega) (by omega)
      · intro h1 i h2 h3
        exact h1 i (by omega) (by omega)
theorem errGo_pair (p : Nat → Int) (off : Int) : ∀ (f k : Nat), (errGo p off f k).1 = 0 → errGo p off f k = (0, 0)
  | 0, k, _ => rfl
  | f + 1, k, h => by
    unfold errGo at h ⊢
    split at h
    · rename_i h1; exact absurd h h1
    · rename_i h1
      rw [if_neg h1]
      exact errGo_pair p off f (k + 1) h
theorem rise_get {l : List Ent} : (∀ i, 0 < i → i < l.length → (l.getD (i - 1) (0, 0, 0, 0, [], [])).1 < (l.getD i (0, 0, 0, 0, [], [])).1) ↔ l.Pairwise fun x y => x.1 < y.1 := by
  constructor
  · intro h
    rw [List.pairwise_iff_getElem]
    intro i j hi hj hij
    induction j with
    | zero => omega
    | succ j ih =>
      have h1 := h (j + 1) (by omega) hj
      rw [gD _ (by omega), gD _ hj] at h1
      simp only [Nat.add_sub_cancel] at h1
      by_cases h2 : i = j
      · subst h2; exact h1
      · exact Int.lt_trans (ih (by omega) (by omega)) h1
  · intro h i h1 h2
    rw [List.pairwise_iff_getElem] at h
    rw [gD _ (by omega), gD _ h2]
    exact h (i - 1) i (by omega) h2 (by omega)
theorem grise_get {l : List Gn} : (∀ i, 0 < i → i < l.length → (l.getD (i - 1) (0, 0)).2 < (l.getD i (0, 0)).2) ↔ l.Pairwise fun x y => x.2 < y.2 := by
  constructor
  · intro h
    rw [List.pairwise_iff_getElem]
    intro i j hi hj hij
    induction j with
    | zero => omega
    | succ j ih =>
      have h1 := h (j + 1) (by omega) hj
      rw [gD _ (by omega), gD _ hj] at h1
      simp only [Nat.add_sub_cancel] at h1
      by_cases h2 : i = j
      · subst h2; exact h1
      · exact Int.lt_trans (ih (by omega) (by omega)) h1
  · intro h i h1 h2
    rw [List.pairwise_iff_getElem] at h
    rw [gD _ (by omega), gD _ h2]
    exact h (i - 1) i (by omega) h2 (by omega)
theorem gne_get {l : List Gn} : (∀ k, k < l.length → ((l.take k).any fun x => x.1 == (l.getD k (0, 0)).1) = false) ↔ l.Pairwise fun x y => x.1 ≠ y.1 := by
  rw [List.pairwise_iff_getElem]
  constructor
  · intro h i j hi hj hij e
    have h1 := h j hj
    rw [gD _ hj, List.any_eq_false] at h1
    refine h1 l[i] ?_ (by simpa using e)
    rw [List.mem_take_iff_getElem]
    exact ⟨i, by omega, rfl⟩
  · intro h k hk
    rw [gD _ hk, List.any_eq_false]
    intro x hx e
    rw [List.mem_take_iff_getElem] at hx
    obtain ⟨i, hi, rfl⟩ := hx
    exact h i k (by omega) hk (by omega) (by simpa using e)
theorem findI_neg {es : List Ent} {u : Int} : ¬ 0 ≤ findI es u ↔ ∀ e ∈ es, e.1 ≠ u := by
  unfold findI
  cases h : es.findIdx? (fun e => e.1 == u) with
  | none =>
    rw [List.findIdx?_eq_none_iff] at h
    constructor
    · intro _ e he; simpa using h e he
    · intro _; show ¬ (0 : Int) ≤ -1; omega
  | some k =>
    rw [List.findIdx?_eq_some_iff_getElem] at h
    obtain ⟨hk, h1, _⟩ := h
    constructor
    · intro h2; exact absurd (by show (0 : Int) ≤ (k : Int); omega) h2
    · intro h2
      exact absurd (by simpa using h1) (h2 _ (List.getElem_mem hk))
theorem entErr_zero {b : Box} {i : Nat} (hi : i < b.es.length) : entErr b i = 0 ↔ ((1 ≤ b.es[i].1 ∧ b.es[i].1 ≤ b.nu - 1) ∧ (1 ≤ b.es[i].2.1 ∧ b.es[i].2.1 ≤ b.ns - 1) ∧ (0 ≤ b.es[i].2.2.1 ∧ b.es[i].2.2.1 ≤ 63) ∧ (-68719476736 ≤ b.es[i].2.2.2.1 ∧ b.es[i].2.2.2.1 ≤ 68719476736) ∧ (msgF b.es[i].2.2.2.2).1 = 0) ∧ (0 < i → (b.es.getD (i - 1) (0, 0, 0, 0, [], [])).1 < (b.es.getD i (0, 0, 0, 0, [], [])).1) := by
  unfold entErr
  rw [gD _ hi]
  dsimp only
  by_cases h1 : ¬ (1 ≤ b.es[i].1 ∧ b.es[i].1 ≤ b.nu - 1) ∨ ¬ (1 ≤ b.es[i].2.1 ∧ b.es[i].2.1 ≤ b.ns - 1) ∨ ¬ (0 ≤ b.es[i].2.2.1 ∧ b.es[i].2.2.1 ≤ 63) ∨ ¬ (-68719476736 ≤ b.es[i].2.2.2.1 ∧ b.es[i].2.2.2.1 ≤ 68719476736)
  · rw [if_pos h1]
    constructor
    · intro h; cases h
    · rintro ⟨⟨a, c, d, e, f⟩, _⟩
      rcases h1 with h1 | h1 | h1 | h1
      · exact absurd a h1
      · exact absurd c h1
      · exact absurd d h1
      · exact absurd e h1
  · rw [if_neg h1]
    have hn : (1 ≤ b.es[i].1 ∧ b.es[i].1 ≤ b.nu - 1) ∧ (1 ≤ b.es[i].2.1 ∧ b.es[i].2.1 ≤ b.ns - 1) ∧ (0 ≤ b.es[i].2.2.1 ∧ b.es[i].2.2.1 ≤ 63) ∧ (-68719476736 ≤ b.es[i].2.2.2.1 ∧ b.es[i].2.2.2.1 ≤ 68719476736) := by
      simp only [not_or, Decidable.not_not] at h1
      exact h1
    by_cases h2 : 0 < i ∧ b.es[i].1 ≤ (b.es.getD (i - 1) (0, 0, 0, 0, [], [])).1
    · rw [if_pos h2]
      constructor
      · intro h; cases h
      · rintro ⟨_, h⟩
        have := h h2.1
        omega
    · rw [if_neg h2]
      constructor
      · intro h
        exact ⟨⟨hn.1, hn.2.1, hn.2.2.1, hn.2.2.2, h⟩, fun h3 => by omega⟩
      · rintro ⟨⟨_, _, _, _, h⟩, _⟩; exact h
theorem goneErr_zero {b : Box} {k : Nat} (hk : k < b.gs.length) : goneErr b k = 0 ↔ ((1 ≤ b.gs[k].1 ∧ b.gs[k].1 ≤ b.nu - 1) ∧ (b.hz + 1 ≤ b.gs[k].2 ∧ b.gs[k].2 ≤ b.ns - 1)) ∧ (0 < k → (b.gs.getD (k - 1) (0, 0)).2 < (b.gs.getD k (0, 0)).2) ∧ ((b.gs.take k).any fun x => x.1 == (b.gs.getD k (0, 0)).1) = false ∧ ∀ e ∈ b.es, e.1 ≠ b.gs[k].1 := by
  unfold goneErr
  rw [gD _ hk]
  dsimp only
  by_cases h1 : ¬ (1 ≤ b.gs[k].1 ∧ b.gs[k].1 ≤ b.nu - 1) ∨ ¬ (b.hz + 1 ≤ b.gs[k].2 ∧ b.gs[k].2 ≤ b.ns - 1)
  · rw [if_pos h1]
    constructor
    · intro h; cases h
    · rintro ⟨⟨a, c⟩, _⟩
      rcases h1 with h1 | h1
      · exact absurd a h1
      · exact absurd c h1
  · rw [if_neg h1]
    have hn : (1 ≤ b.gs[k].1 ∧ b.gs[k].1 ≤ b.nu - 1) ∧ (b.hz + 1 ≤ b.gs[k].2 ∧ b.gs[k].2 ≤ b.ns - 1) := by
      simp only [not_or, Decidable.not_not] at h1
      exact h1
    by_cases h2 : 0 < k ∧ b.gs[k].2 ≤ (b.gs.getD (k - 1) (0, 0)).2
    · rw [if_pos h2]
      constructor
      · intro h; cases h
      · rintro ⟨_, h, _⟩
        have := h h2.1
        omega
    · rw [if_neg h2]
      by_cases h3 : ((b.gs.take k).any fun x => x.1 == b.gs[k].1) = true ∨ 0 ≤ findI b.es b.gs[k].1
      · rw [if_pos h3]
        constructor
        · intro h; cases h
        · rintro ⟨_, _, h4, h5⟩
          rcases h3 with h3 | h3
          · rw [h4] at h3; cases h3
          · exact absurd h3 (findI_neg.2 h5)
      · rw [if_neg h3]
        rw [not_or] at h3
        exact ⟨fun _ => ⟨hn, fun h4 => by omega, Bool.eq_false_iff.2 h3.1, findI_neg.1 h3.2⟩, fun _ => rfl⟩
theorem boxF_good {b : Box} : (boxF b).1 = 0 ↔ Good b := by
  unfold boxF
  by_cases h1 : 200 < b.es.length
  · rw [if_pos h1]
    exact ⟨fun h => (by cases h), fun h => absurd h.le (by omega)⟩
  rw [if_neg h1]
  by_cases h2 : 400 < b.gs.length
  · rw [if_pos h2]
    exact ⟨fun h => (by cases h), fun h => absurd h.lg (by omega)⟩
  rw [if_neg h2]
  by_cases h3 : ¬ (1 ≤ b.nu ∧ b.nu ≤ 1000000) ∨ ¬ (1 ≤ b.ns ∧ b.ns ≤ 1000000) ∨ ¬ (0 ≤ b.hz ∧ b.hz ≤ b.ns - 1)
  · rw [if_pos h3]
    refine ⟨fun h => (by cases h), fun h => ?_⟩
    rcases h3 with h3 | h3 | h3
    · exact absurd h.nu h3
    · exact absurd h.ns h3
    · exact absurd h.hz h3
  rw [if_neg h3]
  have hn : (1 ≤ b.nu ∧ b.nu ≤ 1000000) ∧ (1 ≤ b.ns ∧ b.ns ≤ 1000000) ∧ (0 ≤ b.hz ∧ b.hz ≤ b.ns - 1) := by
    simp only [not_or, Decidable.not_not] at h3
    exact h3
  have he := errGo_zero (entErr b) 0 b.es.length 0
  have hg := errGo_zero (goneErr b) 1000 b.gs.length 0
  by_cases h4 : (errGo (entErr b) 0 b.es.length 0).1 ≠ 0
  · rw [if_pos h4]
    refine ⟨fun h => absurd h h4, fun h => absurd (he.2 fun i _ hi => ?_) h4⟩
    have hi : i < b.es.length := by omega
    exact (entErr_zero hi).2 ⟨h.es _ (List.getElem_mem hi), fun h5 => rise_get.2 h.up i h5 hi⟩
  · rw [if_neg h4, hg]
    have h5 := he.1 (by simpa using h4)
    have h6 : ∀ (i : Nat) (hi : i < b.es.length), _ := fun i hi => (entErr_zero hi).1 (h5 i (by omega) (by omega))
    constructor
    · intro h
      have h7 : ∀ (k : Nat) (hk : k < b.gs.length), _ := fun k hk => (goneErr_zero hk).1 (h k (by omega) (by omega))
      refine ⟨by omega, by omega, hn.1, hn.2.1, hn.2.2, ?_, rise_get.1 fun i h8 h9 => (h6 i h9).2 h8, ?_, grise_get.1 fun i h8 h9 => (h7 i h9).2.1 h8, gne_get.1 fun k hk => (h7 k hk).2.2.1, ?_⟩
      · intro e he
        obtain ⟨i, hi, rfl⟩ := List.getElem_of_mem he
        exact (h6 i hi).1
      · intro g hg
        obtain ⟨k, hk, rfl⟩ := List.getElem_of_mem hg
        exact (h7 k hk).1
      · intro g hg
        obtain ⟨k, hk, rfl⟩ := List.getElem_of_mem hg
        exact (h7 k hk).2.2.2
    · intro h k _ hk
      have hk : k < b.gs.length := by omega
      exact (goneErr_zero hk).2 ⟨h.gs _ (List.getElem_mem hk), fun h8 => grise_get.2 h.gup k h8 hk, gne_get.2 h.gne k hk, h.apart _ (List.getElem_mem hk)⟩
theorem boxF_pair {b : Box} (h : (boxF b).1 = 0) : boxF b = (0, 0) := by
  unfold boxF at h ⊢
  split at h
  · cases h
  · rename_i h1
    rw [if_neg h1]
    split at h
    · cases h
    · rename_i h2
      rw [if_neg h2]
      split at h
      · cases h
      · rename_i h3
        rw [if_neg h3]
        split at h
        · rename_i h4; exact absurd h h4
        · rename_i h4
          rw [if_neg h4]
          exact errGo_pair _ _ _ _ h
end Mb
end Go.Proofs.YtjamjkjmlckgeaaGreatDoor
namespace Go.Proofs.YtjamjkjmlckgeaaGreatDoor
namespace Mb
/-! ### changes -/
def mixF (f c s : Int) : Int := (((f.toNat &&& (63 - c.toNat)) ||| s.toNat : Nat) : Int)
theorem mixF_le {f c s : Int} (hs : 0 ≤ s ∧ s ≤ 63) : 0 ≤ mixF f c s ∧ mixF f c s ≤ 63 := by
  unfold mixF
  have h1 : f.toNat &&& (63 - c.toNat) < 2 ^ 6 := Nat.and_lt_two_pow _ (by omega)
  have h2 := Nat.or_lt_two_pow h1 (show s.toNat < 2 ^ 6 by omega)
  omega
def emptyB : Box := ⟨0, 0, 0, [], []⟩
def addC (b : Box) (c : Chg) : Box := ⟨b.nu + 1, b.ns + 1, b.hz, b.es ++ [(b.nu, b.ns, c.2.2.1, c.2.2.2.2.1, c.2.2.2.2.2)], b.gs⟩
def flagC (b : Box) (c : Chg) (i : Nat) : Box :=
  let e := b.es.getD i (0, 0, 0, 0, [], [])
  if mixF e.2.2.1 c.2.2.2.1 c.2.2.1 ≠ e.2.2.1 then ⟨b.nu, b.ns + 1, b.hz, b.es.set i (e.1, b.ns, mixF e.2.2.1 c.2.2.2.1 c.2.2.1, e.2.2.2), b.gs⟩ else b
def remC (b : Box) (i : Nat) : Box :=
  let gs := b.gs ++ [((b.es.getD i (0, 0, 0, 0, [], [])).1, b.ns)]
  if 400 < gs.length then ⟨b.nu, b.ns + 1, (gs.getD 0 (0, 0)).2, b.es.eraseIdx i, gs.eraseIdx 0⟩ else ⟨b.nu, b.ns + 1, b.hz, b.es.eraseIdx i, gs⟩
/-- a change of a valid mailbox -/
def applF (b : Box) (c : Chg) : Box × Int × Int :=
  if (chgF c).1 ≠ 0 then (emptyB, chgF c)
  else if b.ns = 1000000 ∨ (c.1 = 1 ∧ b.nu = 1000000) then (emptyB, 1, -3)
  else if c.1 = 1 ∧ b.es.length = 200 then (emptyB, 2, -1)
  else if ¬ c.1 = 1 ∧ findI b.es c.2.1 < 0 then (emptyB, 6, -9)
  else (if c.1 = 1 then addC b c else if c.1 = 2 then flagC b c (findI b.es c.2.1).toNat else remC b (findI b.es c.2.1).toNat, 0, 0)
def appF (b : Box) (c : Chg) : Box × Int × Int := if (boxF b).1 ≠ 0 then (emptyB, boxF b) else applF b c
theorem chg_ok {c : Chg} (h : (chgF c).1 = 0) : chgF c = (0, 0) ∧ (c.1 = 1 ∨ c.1 = 2 ∨ c.1 = 3) ∧ (0 ≤ c.2.2.1 ∧ c.2.2.1 ≤ 63) ∧ (0 ≤ c.2.2.2.1 ∧ c.2.2.2.1 ≤ 63) ∧ (-68719476736 ≤ c.2.2.2.2.1 ∧ c.2.2.2.2.1 ≤ 68719476736) ∧ (c.1 = 1 → c.2.1 = 0 ∧ (msgF c.2.2.2.2.2).1 = 0) ∧ (¬ c.1 = 1 → c.2.2.2.2.1 = 0 ∧ c.2.2.2.2.2 = ([], [])) := by
  unfold chgF at h ⊢
  dsimp only at h ⊢
  by_cases h1 : ¬ (c.1 = 1 ∨ c.1 = 2 ∨ c.1 = 3)
  · rw [if_pos h1] at h; cases h
  rw [if_neg h1] at h ⊢
  by_cases h2 : (if c.1 = 1 then (c.2.1 != 0 || c.2.2.2.1 != 0) else if c.1 = 2 then (c.2.2.2.2.1 != 0 || decide (0 < c.2.2.2.2.2.1.length + c.2.2.2.2.2.2.length)) else (c.2.2.2.2.1 != 0 || decide (0 < c.2.2.2.2.2.1.length + c.2.2.2.2.2.2.length) || (c.2.2.1 != 0 || c.2.2.2.1 != 0))) = true
  · rw [if_pos h2] at h; cases h
  rw [if_neg h2] at h ⊢
  by_cases h3 : ¬ (0 ≤ c.2.2.1 ∧ c.2.2.1 ≤ 63) ∨ ¬ (0 ≤ c.2.2.2.1 ∧ c.2.2.2.1 ≤ 63) ∨ ¬ (-68719476736 ≤ c.2.2.2.2.1 ∧ c.2.2.2.2.1 ≤ 68719476736)
  · rw [if_pos h3] at h; cases h
  rw [if_neg h3] at h ⊢
  by_cases h4 : c.1 = 1 ∧ (msgF c.2.2.2.2.2).1 ≠ 0
  · rw [if_pos h4] at h; exact absurd h h4.2
  rw [if_neg h4] at h ⊢
  have hk : c.1 = 1 ∨ c.1 = 2 ∨ c.1 = 3 := Decidable.not_not.1 h1
  have hn : (0 ≤ c.2.2.1 ∧ c.2.2.1 ≤ 63) ∧ (0 ≤ c.2.2.2.1 ∧ c.2.2.2.1 ≤ 63) ∧ (-68719476736 ≤ c.2.2.2.2.1 ∧ c.2.2.2.2.1 ≤ 68719476736) := by
    simp only [not_or, Decidable.not_not] at h3
    exact h3
  refine ⟨rfl, hk, hn.1, hn.2.1, hn.2.2, fun h5 => ?_, fun h5 => ?_⟩
  · rw [if_pos h5] at h2
    simp only [Bool.or_eq_true, bne_iff_ne, not_or, Decidable.not_not] at h2
    refine ⟨h2.1, ?_⟩
    rw [not_and, Decidable.not_not] at h4
    exact h4 h5
  · rw [if_neg h5] at h2
    have h6 : c.2.2.2.2.1 = 0 ∧ ¬ 0 < c.2.2.2.2.2.1.length + c.2.2.2.2.2.2.length := by
      by_cases h7 : c.1 = 2
      · rw [if_pos h7] at h2
        simp only [Bool.or_eq_true, bne_iff_ne, not_or, Decidable.not_not, decide_eq_true_eq] at h2
        exact h2
      · rw [if_neg h7] at h2
        simp only [Bool.or_eq_true, bne_iff_ne, not_or, Decidable.not_not, decide_eq_true_eq] at h2
        exact h2.1
    refine ⟨h6.1, ?_⟩
    have h8 := List.length_eq_zero_iff.1 (show c.2.2.2.2.2.1.length = 0 by omega)
    have h9 := List.length_eq_zero_iff.1 (show c.2.2.2.2.2.2.length = 0 by omega)
    exact Prod.ext h8 h9
theorem findI_get {es : List Ent} {u : Int} (h : ¬ findI es u < 0) : ∃ hi : (findI es u).toNat < es.length, es[(findI es u).toNat].1 = u := by
  unfold findI at h ⊢
  cases hf : es.findIdx? (fun e => e.1 == u) with
  | none => rw [hf] at h; exact absurd (by show (-1 : Int) < 0; omega) h
  | some k =>
    rw [List.findIdx?_eq_some_iff_getElem] at hf
    obtain ⟨hk, h1, _⟩ := hf
    exact ⟨by simpa using hk, by simpa using h1⟩
theorem good_add {b : Box} {c : Chg} (h : Good b) (h1 : b.ns ≠ 1000000) (h2 : b.nu ≠ 1000000) (h3 : b.es.length ≠ 200) (h4 : 0 ≤ c.2.2.1 ∧ c.2.2.1 ≤ 63) (h5 : -68719476736 ≤ c.2.2.2.2.1 ∧ c.2.2.2.2.1 ≤ 68719476736) (h6 : (msgF c.2.2.2.2.2).1 = 0) : Good (addC b c) := by
  have hle := h.le; have hnu := h.nu; have hns := h.ns; have hhz := h.hz
  refine ⟨?_, h.lg, ?_, ?_, ?_, ?_, ?_, ?_, h.gup, h.gne, ?_⟩
  · show (b.es ++ [_]).length ≤ 200
    rw [List.length_append]
    simp only [List.length_cons, List.length_nil]
    omega
  · show 1 ≤ b.nu + 1 ∧ b.nu + 1 ≤ 1000000
    omega
  · show 1 ≤ b.ns + 1 ∧ b.ns + 1 ≤ 1000000
    omega
  · show 0 ≤ b.hz ∧ b.hz ≤ b.ns + 1 - 1
    omega
  · intro e he
    have he : e ∈ b.es ++ [(b.nu, b.ns, c.2.2.1, c.2.2.2.2.1, c.2.2.2.2.2)] := he
    show (1 ≤ e.1 ∧ e.1 ≤ b.nu + 1 - 1) ∧ (1 ≤ e.2.1 ∧ e.2.1 ≤ b.ns + 1 - 1) ∧ _
    rcases List.mem_append.1 he with he | he
    · obtain ⟨a, d, r⟩ := h.es e he
      exact ⟨by omega, by omega, r⟩
    · rw [List.mem_singleton] at he
      subst he
      exact ⟨by dsimp only; omega, by dsimp only; omega, h4, h5, h6⟩
  · show (b.es ++ [_]).Pairwise _
    rw [List.pairwise_append]
    refine ⟨h.up, List.pairwise_singleton _ _, fun x hx y hy => ?_⟩
    rw [List.mem_singleton] at hy
    subst hy
    have := (h.es x hx).1
    show x.1 < b.nu
    omega
  · intro g hg
    have := h.gs g hg
    show (1 ≤ g.1 ∧ g.1 ≤ b.nu + 1 - 1) ∧ (b.hz + 1 ≤ g.2 ∧ g.2 ≤ b.ns + 1 - 1)
    omega
  · intro g hg e he
    have he : e ∈ b.es ++ [(b.nu, b.ns, c.2.2.1, c.2.2.2.2.1, c.2.2.2.2.2)] := he
    rcases List.mem_append.1 he with he | he
    · exact h.apart g hg e he
    · rw [List.mem_singleton] at he
      subst he
      have := (h.gs g hg).1
      show b.nu ≠ g.1
      omega
theorem good_flag {b : Box} {c : Chg} {i : Nat} (h : Good b) (h1 : b.ns ≠ 1000000) (hi : i < b.es.length) (h4 : 0 ≤ c.2.2.1 ∧ c.2.2.1 ≤ 63) : Good (flagC b c i) := by
  unfold flagC
  dsimp only
  rw [gD _ hi]
  split
  · have hle := h.le; have hnu := h.nu; have hns := h.ns; have hhz := h.hz
    have he := h.es _ (List.getElem_mem hi)
    have hm := mixF_le (f := b.es[i].2.2.1) (c := c.2.2.2.1) h4
    refine ⟨?_, h.lg, hnu, ?_, ?_, ?_, ?_, ?_, h.gup, h.gne, ?_⟩
    · show (b.es.set i _).length ≤ 200
      rw [List.length_set]; exact hle
    · show 1 ≤ b.ns + 1 ∧ b.ns + 1 ≤ 1000000
      omega
    · show 0 ≤ b.hz ∧ b.hz ≤ b.ns + 1 - 1
      omega
    · intro e hx
      have hx : e ∈ b.es.set i _ := hx
      show (1 ≤ e.1 ∧ e.1 ≤ b.nu - 1) ∧ (1 ≤ e.2.1 ∧ e.2.1 ≤ b.ns + 1 - 1) ∧ _
      rcases List.mem_or_eq_of_mem_set hx with hx | rfl
      · obtain ⟨a, d, r⟩ := h.es e hx
        exact ⟨a, by omega, r⟩
      · exact ⟨he.1, by dsimp only; omega, hm, he.2.2.2⟩
    · show (b.es.set i _).Pairwise _
      rw [List.pairwise_iff_getElem]
      have hu := List.pairwise_iff_getElem.1 h.up
      intro j k hj hk hjk
      rw [List.length_set] at hj hk
      have h7 := hu j k hj hk hjk
      simp only [List.getElem_set]
      split
      · rename_i h8
        subst h8
        rw [if_neg (by omega)]
        exact h7
      · split
        · rename_i h8; subst h8; exact h7
        · exact h7
    · intro g hg
      have := h.gs g hg
      show (1 ≤ g.1 ∧ g.1 ≤ b.nu - 1) ∧ (b.hz + 1 ≤ g.2 ∧ g.2 ≤ b.ns + 1 - 1)
      omega
    · intro g hg e hx
      have hx : e ∈ b.es.set i _ := hx
      rcases List.mem_or_eq_of_mem_set hx with hx | rfl
      · exact h.apart g hg e hx
      · exact h.apart g hg b.es[i] (List.getElem_mem hi)
  · exact h
theorem good_rem {b : Box} {i : Nat} (h : Good b) (h1 : b.ns ≠ 1000000) (hi : i < b.es.length) (hg : b.gs.length < 400) : Good (remC b i) := by
  unfold remC
  dsimp only
  rw [gD _ hi, if_neg (by rw [List.length_append]; simp only [List.length_cons, List.length_nil]; omega)]
  have hle := h.le; have hnu := h.nu; have hns := h.ns; have hhz := h.hz
  have he := h.es _ (List.getElem_mem hi)
  refine ⟨?_, ?_, hnu, ?_, ?_, ?_, ?_, ?_, ?_, ?_, ?_⟩
  · show (b.es.eraseIdx i).length ≤ 200
    rw [List.length_eraseIdx]; split <;> omega
  · show (b.gs ++ [_]).length ≤ 400
    rw [List.length_append]
    simp only [List.length_cons, List.length_nil]
    omega
  · show 1 ≤ b.ns + 1 ∧ b.ns + 1 ≤ 1000000
    omega
  · show 0 ≤ b.hz ∧ b.hz ≤ b.ns + 1 - 1
    omega
  · intro e hx
    have hx : e ∈ b.es := List.mem_of_mem_eraseIdx hx
    show (1 ≤ e.1 ∧ e.1 ≤ b.nu - 1) ∧ (1 ≤ e.2.1 ∧ e.2.1 ≤ b.ns + 1 - 1) ∧ _
    obtain ⟨a, d, r⟩ := h.es e hx
    exact ⟨a, by omega, r⟩
  · exact h.up.sublist (List.eraseIdx_sublist _ _)
  · intro g hx
    have hx : g ∈ b.gs ++ [_] := hx
    show (1 ≤ g.1 ∧ g.1 ≤ b.nu - 1) ∧ (b.hz + 1 ≤ g.2 ∧ g.2 ≤ b.ns + 1 - 1)
    rcases List.mem_append.1 hx with hx | hx
    · have := h.gs g hx
      omega
    · rw [List.mem_singleton] at hx
      subst hx
      have := he.1
      dsimp only
      omega
  · show (b.gs ++ [_]).Pairwise _
    rw [List.pairwise_append]
    refine ⟨h.gup, List.pairwise_singleton _ _, fun x hx y hy => ?_⟩
    rw [List.mem_singleton] at hy
    subst hy
    have := (h.gs x hx).2
    show x.2 < b.ns
    omega
  · show (b.gs ++ [_]).Pairwise _
    rw [List.pairwise_append]
    refine ⟨h.gne, List.pairwise_singleton _ _, fun x hx y hy => ?_⟩
    rw [List.mem_singleton] at hy
    subst hy
    exact fun e => h.apart x hx _ (List.getElem_mem hi) e.symm
  · intro g hx e hy
    have hx : g ∈ b.gs ++ [_] := hx
    have hy : e ∈ b.es.eraseIdx i := hy
    rcases List.mem_append.1 hx with hx | hx
    · exact h.apart g hx e (List.mem_of_mem_eraseIdx hy)
    · rw [List.mem_singleton] at hx
      subst hx
      show e.1 ≠ b.es[i].1
      rw [List.mem_eraseIdx_iff_getElem] at hy
      obtain ⟨j, hj, hji, rfl⟩ := hy
      have hu := List.pairwise_iff_getElem.1 h.up
      rcases Nat.lt_or_gt_of_ne hji with h8 | h8
      · have := hu j i hj hi h8; omega
      · have := hu i j hi hj h8; omega
theorem appl_good {b : Box} {c : Chg} (h : Good b) (hg : b.gs.length < 400) (h0 : (applF b c).2.1 = 0) : Good (applF b c).1 := by
  unfold applF at h0 ⊢
  by_cases h1 : (chgF c).1 ≠ 0
  · rw [if_pos h1] at h0; exact absurd h0 h1
  rw [if_neg h1] at h0 ⊢
  by_cases h2 : b.ns = 1000000 ∨ (c.1 = 1 ∧ b.nu = 1000000)
  · rw [if_pos h2] at h0; cases h0
  rw [if_neg h2] at h0 ⊢
  by_cases h3 : c.1 = 1 ∧ b.es.length = 200
  · rw [if_pos h3] at h0; cases h0
  rw [if_neg h3] at h0 ⊢
  by_cases h4 : ¬ c.1 = 1 ∧ findI b.es c.2.1 < 0
  · rw [if_pos h4] at h0; cases h0
  rw [if_neg h4]
  obtain ⟨_, hk, hs, hc, ht, ha, hn⟩ := chg_ok (Decidable.not_not.1 h1)
  rw [not_or] at h2
  dsimp only
  by_cases h5 : c.1 = 1
  · rw [if_pos h5]
    exact good_add h h2.1 (fun e => h2.2 ⟨h5, e⟩) (fun e => h3 ⟨h5, e⟩) hs ht (ha h5).2
  · rw [if_neg h5]
    obtain ⟨hi, _⟩ := findI_get (fun e => h4 ⟨h5, e⟩)
    by_cases h6 : c.1 = 2
    · rw [if_pos h6]
      exact good_flag h h2.1 hi hs
    · rw [if_neg h6]
      exact good_rem h h2.1 hi hg
theorem good_new : Good newB := ⟨by decide, by decide, by decide, by decide, by decide, fun _ h => (by cases h), List.Pairwise.nil, fun _ h => (by cases h), List.Pairwise.nil, List.Pairwise.nil, fun _ h => (by cases h)⟩
theorem appl_len {b : Box} {c : Chg} (h : (applF b c).2.1 = 0) : (applF b c).1.es.length ≤ b.es.length + 1 ∧ (applF b c).1.gs.length ≤ b.gs.length + 1 := by
  unfold applF at h ⊢
  by_cases h1 : (chgF c).1 ≠ 0
  · rw [if_pos h1] at h; exact absurd h h1
  rw [if_neg h1] at h ⊢
  split at h
  · cases h
  rename_i h2
  rw [if_neg h2]
  split at h
  · cases h
  rename_i h3
  rw [if_neg h3]
  split at h
  · cases h
  rename_i h4
  rw [if_neg h4]
  dsimp only
  by_cases h5 : c.1 = 1
  · rw [if_pos h5]
    unfold addC
    dsimp only
    rw [List.length_append]
    simp only [List.length_cons, List.length_nil]
    omega
  rw [if_neg h5]
  by_cases h6 : c.1 = 2
  · rw [if_pos h6]
    unfold flagC
    dsimp only
    split
    · dsimp only; rw [List.length_set]; omega
    · omega
  · rw [if_neg h6]
    unfold remC
    dsimp only
    split
    · dsimp only
      rw [List.length_eraseIdx, List.length_eraseIdx, List.length_append]
      simp only [List.length_cons, List.length_nil]
      split <;> split <;> omega
    · dsimp only
      rw [List.length_eraseIdx, List.length_append]
      simp only [List.length_cons, List.length_nil]
      split <;> omega
/-! ### prefixes -/
theorem good_take {b : Box} (h : Good b) (n : Nat) : Good ⟨b.nu, b.ns, b.hz, b.es.take n, b.gs⟩ := by
  refine ⟨?_, h.lg, h.nu, h.ns, h.hz, fun e he => h.es e (List.mem_of_mem_take he), h.up.sublist (List.take_sublist _ _), h.gs, h.gup, h.gne, fun g hg e he => h.apart g hg e (List.mem_of_mem_take he)⟩
  have := h.le
  show (b.es.take n).length ≤ 200
  rw [List.length_take]
  omega
end Mb
end Go.Proofs.YtjamjkjmlckgeaaGreatDoor
