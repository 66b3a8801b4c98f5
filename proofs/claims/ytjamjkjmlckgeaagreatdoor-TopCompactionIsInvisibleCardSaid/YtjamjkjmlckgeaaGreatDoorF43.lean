/-
  Package records: Read.
-/
import Derived.Test.YtjamjkjmlckgeaaGreatDoorF18
import Derived.Test.YtjamjkjmlckgeaaGreatDoorF4
namespace Go.Proofs.YtjamjkjmlckgeaaGreatDoor
open Go.RowKit

/-- What Read answers. -/
def readF (l : List UInt8) : List (List UInt8) × Nat × Int × Int := if 400000 < l.length then ([], 0, 1, -1) else ((recs l).map (·.2), endOf (recs l), 0, 0)

/-- Outside of what a loop's body has made, or the variable's own block. -/
def Mw (S : Nat → Prop) (g n : Nat) : Nat → Prop := fun b => b < n ∧ (¬ S b ∨ b = g)

theorem Own.subW {α : Type} {C : Codec α} {M M' : Nat → Prop} {w : World} {B : Nat} {e : TypeId} {v : Value} {l : List α} (h : Own C M w B e v l) (hM : ∀ b, b < w.heap.size → M' b → M b) : Own C M' w B e v l := by
  obtain ⟨xs, ho, he⟩ := h
  exact ⟨xs, ho, he.sub fun b hb hor => hor.imp (hM b hb) id⟩

theorem Own.kept {α : Type} {C : Codec α} {S : Nat → Prop} {g n : Nat} {w w' : World} {B : Nat} {e : TypeId} {v : Value} {l : List α} (h : Own C (Mw S g w.heap.size) w B e v l) (hS : ∀ b, v.ownBlock = some b → S b ∧ b ≠ g) (hk : Kept n S w w') :
    Own C (Mw S g w'.heap.size) w' B e v l := by
  have h1 : Own C (Mw S g w'.heap.size) w B e v l := h.subW fun b hb hm => ⟨hb, hm.2⟩
  refine h1.keep (fun b hb hor => hk.same b hb (.inr ?_)) hk.size (fun b ho hm => ?_)
  · rcases hor with h' | h'
    · exact Classical.byContradiction fun hs => h' ⟨Nat.lt_of_lt_of_le hb hk.size, .inl hs⟩
    · exact (hS b h').1
  · exact hm.2.elim (fun h' => h' (hS b ho).1) (hS b ho).2

theorem Own.setN {α : Type} {C : Codec α} {M : Nat → Prop} {w : World} {B : Nat} {e : TypeId} {v : Value} {l : List α} (h : Own C M w B e v l) (p : Addr) (u : Value) (hp : M p.block) (hB : p.block < B) (hn : ∀ b, v.ownBlock = some b → ¬ M b) : Own C M (w.setCell p u) B e v l :=
  h.keep (fun b _ hor => Below.heap_setCell w p u b fun e => hor.elim (fun hn => hn (e ▸ hp)) fun ho => by have h1 := h.base b ho; omega) (by simp) hn
theorem Own.byteM {M M' : Nat → Prop} {w : World} {B : Nat} {e : TypeId} {v : Value} {l : List UInt8} (h : Own byteC M w B e v l) : Own byteC M' w B e v l := by
  obtain ⟨xs, ho, he⟩ := h
  exact ⟨xs, ho, he.1, fun i hi => he.2 i hi⟩

theorem recsGo_mem (l : List UInt8) : ∀ (f p k : Nat) (h : k < (recsGo l f p).length), recAt l (recsGo l f p)[k].1 = some (recsGo l f p)[k].2
  | 0, p, k, h => by simp [recsGo] at h
  | f + 1, p, k, h => by
    cases hr : recAt l p with
    | none => simp [recsGo, hr] at h
    | some r =>
      have e : recsGo l (f + 1) p = (p, r) :: recsGo l f (p + 10 + r.length) := by simp [recsGo, hr]
      cases k with
      | zero => simp [e, hr]
      | succ k =>
        have h' : k < (recsGo l f (p + 10 + r.length)).length := by rw [e] at h; simpa using h
        simpa [e] using recsGo_mem l f (p + 10 + r.length) k h'
theorem rec_len (l : List UInt8) {k : Nat} (hk : k < (recs l).length) : (recs l)[k].2.length ≤ 20000 := (recAt_len (recsGo_mem l (l.length + 1) 0 k hk)).2.1
theorem endOf_ge (l : List (Nat × List UInt8)) : 10 * l.length ≤ endOf l := by
  induction l with
  | nil => simp [endOf]
  | cons a l ih => simp [endOf] at ih ⊢; omega
theorem recs_count (l : List UInt8) : 10 * (recs l).length ≤ l.length := Nat.le_trans (endOf_ge _) (endOf_recs_le l)
/-- The slice that the iterator yields reads the record. -/
theorem rec_reads {M : Nat → Prop} {w : World} {l : List UInt8} {A : Option Addr} {c : Nat} (h : SlR byteC M w (.slice A l.length c) l) {k : Nat} (hk : k < (recs l).length) :
    SlR byteC M w (.slice (A.map fun a => ⟨a.block, a.off + ((recs l)[k].1 + 2), none⟩) (recs l)[k].2.length (c - ((recs l)[k].1 + 2))) (recs l)[k].2 := by
  obtain ⟨h1, h2, h3⟩ := recAt_len (recsGo_mem l (l.length + 1) 0 k hk)
  obtain ⟨x, hx⟩ : ∃ x, x = (recs l)[k] := ⟨_, rfl⟩
  have h1 : (recs l)[k].1 + 10 + (recs l)[k].2.length ≤ l.length := h1
  have h3 : (recs l)[k].2 = (l.take ((recs l)[k].1 + 2 + (recs l)[k].2.length)).drop ((recs l)[k].1 + 2) := h3
  rw [← hx] at h1 h3 ⊢
  obtain ⟨b, off, rfl, _⟩ := h.byteD (k := x.1) (by omega)
  obtain ⟨A', c', e, hc, _⟩ := h.form
  cases e
  have := h.cutN (lo := x.1 + 2) (m := x.2.length) (by omega) (by omega)
  rw [← h3] at this
  exact this

set_option maxHeartbeats 2000000 in
theorem read_ok (v : Value) (l : List UInt8) (w : World) (h : SlR byteC M0 w v l) :
    Calls Tryz.prog 25 #[v] w fun e w' => ∃ u, e = .returned (.tuple #[u, .int .i64 (((readF l).2.1 : Nat) : Int), .agg #[.int .i64 (readF l).2.2.1, .int .i64 (readF l).2.2.2]]) ∧
      SlR (sliceC byteC) M0 w' u (readF l).1 ∧ Below w.heap.size w w' := by
  obtain ⟨A, c, rfl, hlc, _⟩ := h.form
  by_cases hl : 400000 < l.length
  · simp only [readF, if_pos hl]
    refine calls_of_wp_marks Tryz.func25 rfl ?_
    simp only [Tryz.ntmps25, List.size_toArray, List.length_cons, List.length_nil, Nat.reduceAdd, Nat.reduceSub, Array.replicate_succ, Array.replicate_zero, List.push_toArray, List.append_toArray, List.nil_append, List.cons_append]
    go_wp2_with (first
      | (go_at_call 47; refine (valid_ok M0 _ l _ (h.ext ((Below.refl _ _).alloc (Nat.le_refl _) _))).mono ?_; rintro e w1 ⟨he, hb1⟩; rw [if_pos hl, if_pos hl] at he; subst he; have k1 := (Blk.new w 31 #[.int .i64 0, .int .i64 0]).ext hb1)
      | (go_at_call 21; refine (failed_ok _ _ _).mono ?_; rintro e w2 ⟨rfl, hb2⟩; have k2 := (k1.alloc _).ext hb2; have k3 := (Blk.new w1 31 #[.int .i64 1, .int .i64 (-1)]).ext hb2; obtain ⟨c0, c1, z0, z1, s1⟩ := k2.two; obtain ⟨d0, d1, y0, y1, s2⟩ := k3.two))
    go_region
    all_goals go_wp2
    all_goals
      obtain ⟨e0, e1⟩ := k2.put2 (.int .i64 1) (.int .i64 (-1))
      have hbw : Below w.heap.size w w2 := (below_alloc hb1).trans ((below_alloc hb2).mono (below_alloc hb1).size)
      exact bodyPostM_none (v := .tuple #[.slice none 0 0, .int .i64 0, .agg #[.int .i64 1, .int .i64 (-1)]]) (by simp [results, Tryz.results25, go_sem, e0, e1]) ⟨_, rfl, SlR.nil _ _ _,
        below_drew ((hbw.setCell (p := ⟨w.heap.size, 0, none⟩) (Nat.le_refl _) _).setCell (p := ⟨w.heap.size, 1, none⟩) (Nat.le_refl _) _)⟩
  · simp only [readF, if_neg hl]
    have hn : l.length ≤ 400000 := by omega
    obtain ⟨z, hz⟩ : ∃ z, z = endOf (recs l) := ⟨_, rfl⟩
    have Hz := Lib.hid hz
    rw [← hz]
    clear hz
    refine calls_of_wp_marks Tryz.func25 rfl ?_
    simp only [Tryz.ntmps25, List.size_toArray, List.length_cons, List.length_nil, Nat.reduceAdd, Nat.reduceSub, Array.replicate_succ, Array.replicate_zero, List.push_toArray, List.append_toArray, List.nil_append, List.cons_append]
    go_wp2_with (first
      | (go_at_call 47; refine (valid_ok M0 _ l _ (h.ext ((Below.refl _ _).alloc (Nat.le_refl _) _))).mono ?_; rintro e w1 ⟨he, hb1⟩; rw [if_neg hl, if_neg hl] at he; subst he; have k1 := (Blk.new w 31 #[.int .i64 0, .int .i64 0]).ext hb1; have hbw1 := below_alloc hb1)
      | (go_at_call 21; refine (failed_ok _ _ _).mono ?_; rintro e w2 ⟨rfl, hb2⟩; have k2 := (k1.alloc _).ext hb2; have hbw2 := below2 hbw1 (below_alloc hb2))
      | (go_at_call 51; refine (all_ok _ _ A l.length c rfl).mono ?_; rintro e w3 ⟨rfl, hw3⟩))
    rw [← hw3]
    obtain ⟨g, hg⟩ : ∃ g, g = w2.heap.size := ⟨_, rfl⟩
    have hs3 : w3.heap.size = g + 2 := by rw [hw3, hg]; simp
    have hk3 : Blk w3 g 67 #[.slice none 0 0] := hw3 ▸ hg ▸ (Blk.new w2 _ _).alloc _
    have hk4 : Blk w3 (g + 1) 29 #[.slice A l.length c] := hw3 ▸ hg ▸ (by have := Blk.new (w2.alloc (.cells #[.slice none 0 0] 67)) 29 #[.slice A l.length c]; simpa using this)
    have hb3 : Below g w2 w3 := hw3 ▸ hg ▸ ((Below.refl _ _).alloc (Nat.le_refl _) _).alloc (by simp) _
    have hB : SlR byteC (MB M0 g) w2 (.slice A l.length c) l := hg ▸ (h.ext hbw2).toMB
    clear hw3
    subst hg
    refine wp_rangeFunc_iter (all_iter (w2.heap.size + 1) A c l hn) rfl (enters_of Tryz.func85 (by kernel_rfl) rfl) (fun _ => rfl)
      (fun k S W => S w2.heap.size ∧ (∀ b, S b → b = w2.heap.size ∨ w2.heap.size + 2 ≤ b) ∧ Below w2.heap.size w2 W ∧ ∃ A' c' L, Hid (L = ((recs l).take k).map (·.2)) ∧ Blk W w2.heap.size 67 #[.slice A' L.length c'] ∧ Own (sliceC byteC) (Mw S w2.heap.size W.heap.size) W (w2.heap.size + 2) 29 (.slice A' L.length c') L ∧
        (∀ b, (Value.slice A' L.length c').ownBlock = some b → S b)) (fun _ _ _ _ => False) (fun b => b = w2.heap.size) ?_ ?_ ?_ (fun _ _ _ _ _ h _ => h)
      ⟨rfl, fun b hb => .inl hb, hb3, none, 0, [], Lib.hid (by simp), hk3, Own.nil _ _ _ _ _, fun b hb => by simp [Value.ownBlock] at hb⟩
      (fun x => { tmps := #[.slice A l.length c, undef, .slice none 0 0, .int .i64 0, .pointer (some ⟨w.heap.size, 0, none⟩), .pointer (some ⟨w1.heap.size, 0, none⟩), .pointer (some ⟨w2.heap.size, 0, none⟩),
        .slice (A.map fun a => ⟨a.block, a.off + (x.1 + 2), none⟩) x.2.length (c - (x.1 + 2)), .slice A l.length c, .agg #[.int .i64 0, .int .i64 0], .agg #[.int .i64 0, .int .i64 0], .bool false, undef, .slice A l.length c,
        .func (.func 85) #[] #[.pointer (some ⟨w2.heap.size + 1, 0, none⟩)], .slice (A.map fun a => ⟨a.block, a.off + (x.1 + 2), none⟩) x.2.length (c - (x.1 + 2)), .int .i64 ((x.1 : Int) + 10 + (x.2.length : Int)),
        undef, undef, undef, undef, undef, undef, undef, undef, undef], defers := [] }) ?_ ?_ ?_ ?_
    · rintro b rfl; omega
    · intro S' W hS' hbW
      refine ⟨hk4.ext hbW, fun hb => by rcases hS' _ hb with h | h <;> omega, ?_⟩
      refine (hB.ext (hb3.trans (hbW.mono (by omega)))).sub fun b _ hb => .inr ?_
      rcases hS' b hb with h | h <;> omega
    · rintro k S W W' ⟨h1, h2, h3, A', c', L, hL, h4, h5, h6⟩ hkept
      refine ⟨h1, h2, hkept.below (by omega) h3 (by have := h3.size; omega), A', c', L, hL, h4.keep (hkept.same _ h4.lt (.inr h1)), h5.kept (fun b hb => ⟨h6 b hb, by have := h5.base b hb; omega⟩) hkept, h6⟩
    · intro l' x W K hK
      simp only [recEnc]
      gi_wp2_with (rw [Oper.semAt_eq _ _ _ (fun c h => by cases h)]; go_simp)
      exact hK
    · rintro l' k hk S W ⟨h1, h2, h3, A', c', L, hL, h4, h5, h6⟩ hlt hsz
      obtain ⟨hc, hz, hb⟩ := h4.one
      have hrec : SlR byteC (MB M0 w2.heap.size) W _ _ := rec_reads (hB.ext h3) hk
      obtain ⟨r, hr⟩ : ∃ r, r = (recs l)[k] := ⟨_, rfl⟩
      have hrl := rec_len l hk
      rw [← hr] at hrec hrl ⊢
      have Hr := Lib.hid hr
      clear hr
      gi_wp2_with (rw [Oper.semAt_eq _ _ _ (fun c h => by cases h)]; go_simp)
      refine wpIn_region_D_round (fun W' => W'.cell? ⟨w2.heap.size, 0, none⟩ = some (.slice A' L.length c')) (fun j => j == 5) (by kernel_rfl) (by kernel_rfl) (fun hh => by obtain ⟨_, _, hh⟩ := hh; exact hh) ?_
      refine anyD_light (i := 0) (v := .slice A' L.length c') rfl (by kernel_rfl) (by kernel_rfl) (by kernel_rfl) (by kernel_rfl) (by kernel_rfl) (fun _ _ _ h => h) (.inl ⟨rfl, fun W' hW' => by simp [go_sem, hW', execOp]⟩) hc ?_
      refine anyD_light (i := 1) (v := .slice (A.map fun a => ⟨a.block, a.off + (r.1 + 2), none⟩) r.2.length (c - (r.1 + 2))) rfl (by kernel_rfl) (by kernel_rfl) (by kernel_rfl) (by kernel_rfl) (by kernel_rfl) (fun _ _ _ h => h) (.inl ⟨rfl, fun W' hW' => by simp [go_sem, execOp]⟩) hc ?_
      refine anyD_one (i := 2) (by kernel_rfl) rfl rfl (fun K hK => ?_)
      have HK := Lib.hid hK
      clear hK
      unfold Oper.wp
      go_simp
      refine (clone_bytes_ok M0 _ r.2 _ (hrec.zero.drewN 1) (by omega)).mono ?_
      rintro e W1 ⟨v1, rfl, hown1, hb1'⟩
      obtain ⟨A1, c1, rfl, _⟩ := hown1.shape
      have h4' := (h4.drewN 1).ext hb1'
      refine HK.out _ _ (fun _ => h4'.one.1) ?_
      clear HK
      refine anyD_one (i := 3) (by kernel_rfl) rfl rfl (fun K hK => ?_)
      have HK := Lib.hid hK
      clear hK
      unfold Oper.wp
      go_simp
      refine HK.out _ _ (fun _ => (h4'.alloc _).one.1) ?_
      clear HK
      refine anyD_one (i := 4) (by kernel_rfl) rfl rfl (fun K hK => ?_)
      have HK := Lib.hid hK
      clear hK
      have hLk : L.length ≤ 1000000 := by have := recs_count l; rw [hL.out]; simp; omega
      have hszW : W.heap.size ≤ W1.heap.size := hb1'.size
      have hown2 : Own (sliceC byteC) (Mw S w2.heap.size W.heap.size) W1 (w2.heap.size + 2) 29 (.slice A' L.length c') L := (h5.ext (below_drewN' _ _ 1)).ext hb1'
      have hrd : (sliceC byteC).rd (fun b => Mw S w2.heap.size W.heap.size b ∨ (Value.slice A' L.length c').ownBlock = some b) W1 [.slice A1 r.2.length c1] r.2 :=
        ⟨_, rfl, ((hown1.byteM (M' := fun b => b < W.heap.size)).readB (fun b hb => hb)).sub fun b _ hor => hor.elim (fun h => h.1) (fun h => h5.lt b h)⟩
      refine wp_push_Own (sliceC byteC) (w := W1) (M := Mw S w2.heap.size W.heap.size) (B := w2.heap.size + 2) (v := .slice A' L.length c') (l := L) (cs := [.slice A1 r.2.length c1]) (y := r.2) TBytess (.tmp 17) (.tmp 20) rfl rfl hown2 rfl hrd (fun b hb => Nat.lt_of_lt_of_le hb.1 hszW) (by simp [maxLen]; omega) (by omega) (by omega) ?_
      intro A3 c3 L3 W3 hL3 hown3 hbl3 hgr3 hor3
      have hne : some w2.heap.size ≠ (Value.slice A' L.length c').ownBlock := fun e => by have := h5.base _ e.symm; omega
      have h43 := h4'.grown hgr3 hne
      obtain ⟨q0, q1, q2⟩ := h43.one
      refine HK.out _ _ (fun _ => q0) ?_
      clear HK
      refine anyD_one (i := 5) (by kernel_rfl) rfl rfl (fun K hK => ?_)
      have HK := Lib.hid hK
      clear hK
      unfold Oper.wp
      go_simp
      refine HK.out _ _ (fun h => by cases h) ?_
      clear HK
      refine anyD_done (by kernel_rfl) ?_ _
      have hs1 : W.heap.size ≤ W3.heap.size := Nat.le_trans hszW hbl3.size
      have hown4 : ∀ b, (Value.slice A3 L3.length c3).ownBlock = some b → (S b ∨ (W.heap.size ≤ b ∧ b < W3.heap.size)) ∧ b ≠ w2.heap.size := fun b ho => by
        refine ⟨?_, by have := hown3.base b ho; omega⟩
        rcases hor3 with e | e
        · exact .inl (h6 b (e ▸ ho))
        · have h7 := hown3.lt b ho
          rw [e] at ho; injection ho with ho
          exact .inr ⟨by omega, h7⟩
      refine ⟨fun b => S b ∨ (W.heap.size ≤ b ∧ b < W3.heap.size), ⟨hbl3.os.trans hb1'.os, hbl3.tape.trans hb1'.tape, hbl3.output.trans hb1'.output, by simpa using hs1, fun b hb1 hnS => ?_, fun b hb1 => ?_⟩, .inl h1, fun b hb1 => ?_, ?_, A3, c3, L3, ?_, ?_, ?_, fun b ho => (hown4 b ho).1⟩
      · refine (Below.heap_setCell _ _ _ _ fun e => hnS (by rw [e]; exact h1)).trans ((hgr3.block b (by omega) fun e => hnS (h6 b e.symm)).trans (hb1'.block b hb1))
      · rcases hb1 with h7 | h7
        · exact ⟨by have := hlt b h7; simp; omega, .inl h7⟩
        · exact ⟨by simp; omega, .inr h7.1⟩
      · rcases hb1 with h7 | h7
        · exact h2 b h7
        · exact .inr (by omega)
      · exact Below.setCell (p := ⟨w2.heap.size, 0, none⟩) (h3.trans (((below_drewN' _ W 1).trans (hb1'.mono (by show w2.heap.size ≤ W.heap.size; omega)) : Below w2.heap.size W W1).trans (hbl3.mono (by omega)))) (Nat.le_refl _) _
      · exact Lib.hid (by rw [hL3.out, hL.out, take_snoc_get _ k hk, List.map_append, ← Hr.out]; rfl)
      · have := h43.set_ 0 (Value.slice A3 L3.length c3); simpa using this
      · have h8 : Own (sliceC byteC) (Mw (fun b => S b ∨ (W.heap.size ≤ b ∧ b < W3.heap.size)) w2.heap.size W3.heap.size) W3 (w2.heap.size + 2) 29 (.slice A3 L3.length c3) L3 := hown3.subW fun b hb1 hm => by
          have hbg : b < W.heap.size := Classical.byContradiction fun hge => by
            rcases hm.2 with h7 | h7
            · exact h7 (.inr ⟨by omega, hb1⟩)
            · omega
          exact ⟨hbg, hm.2.imp (fun h7 hs => h7 (.inl hs)) id⟩
        have h9 := h8.setN ⟨w2.heap.size, 0, none⟩ (Value.slice A3 L3.length c3) ⟨by show w2.heap.size < _; omega, .inr rfl⟩ (by show w2.heap.size < _; omega) (fun b ho hm => hm.2.elim (fun h7 => h7 (hown4 b ho).1) (hown4 b ho).2)
        simpa using h9
    · rintro D S W hD hSD ⟨h1, h2, h3, A', c', L, hL, h4, h5, h6⟩ hWD
      obtain ⟨hc, hz, hb⟩ := h4.one
      have hne : ¬ w.heap.size = w2.heap.size := by have := k2.lt; omega
      have hne' : ¬ w2.heap.size = w.heap.size := fun e => hne e.symm
      have hbW : Below w.heap.size w W := hbw2.trans (h3.mono hbw2.size)
      have k8 := k2.keep (h3.block _ k2.lt)
      have hk9 := (h4.drewN 1)
      go_wp2
      go_region_held3 (fun W' => W'.cell? ⟨w2.heap.size, 0, none⟩ = some (.slice A' L.length c')) (first | exact hk9.one.1 | exact hk10.one.1 | exact hk11.one.1 | exact hk12.one.1) (first
        | (go_at_call 48; refine (size_ok _ l _ ((h.ext hbW).drewN 1) hn).mono ?_; rintro e w5 ⟨he, hb5⟩; rw [← Hz.out] at he; subst he; have hk10 := hk9.ext hb5; have k9 := (k8.drewN 1).ext hb5)
        | (go_at_call 24; refine (none_ok _).mono ?_; rintro e w6 ⟨rfl, hb6⟩; have hk11 := hk10.ext hb6; have k10 := k9.ext hb6; obtain ⟨c0, c1, z0, z1, s1⟩ := k10.two; have hk12 := (hk11.far (p := ⟨w.heap.size, 0, none⟩) hne' (.int .i64 0)).far (p := ⟨w.heap.size, 1, none⟩) hne' (.int .i64 0)))
      go_wp2
      have hLe : L = (recs l).map (·.2) := by rw [hL.out, List.take_length]
      have hDlt : D < W.heap.size := (Array.getElem?_eq_some_iff.1 hWD).1
      have hb56 : Below W.heap.size W w6 := (below_drewN' _ W 1).trans ((show Below W.heap.size (W.drewN 1) w5 from hb5).trans (hb6.mono hb5.size))
      have hfar : ∀ b, b ≠ w.heap.size → ((w6.setCell ⟨w.heap.size, 0, none⟩ (.int .i64 0)).setCell ⟨w.heap.size, 1, none⟩ (.int .i64 0)).heap[b]? = w6.heap[b]? := fun b hb1 =>
        (Below.heap_setCell _ _ _ _ hb1).trans (Below.heap_setCell _ _ _ _ hb1)
      have hDw : D ≠ w.heap.size := by have := k2.lt; omega
      have k11 : Blk ((w6.setCell ⟨w.heap.size, 0, none⟩ (.int .i64 0)).setCell ⟨w.heap.size, 1, none⟩ (.int .i64 0)) w.heap.size 31 #[.int .i64 0, .int .i64 0] := by
        simpa using (k10.set_ 0 (.int .i64 0)).set_ 1 (.int .i64 0)
      obtain ⟨W8, hW8⟩ : ∃ W8, W8 = (w6.setCell ⟨w.heap.size, 0, none⟩ (.int .i64 0)).setCell ⟨w.heap.size, 1, none⟩ (.int .i64 0) := ⟨_, rfl⟩
      have hb8 : Below w.heap.size w W8 := hW8 ▸ Below.setCell (p := ⟨w.heap.size, 1, none⟩) (Below.setCell (p := ⟨w.heap.size, 0, none⟩) (hbW.trans (hb56.mono hbW.size)) (Nat.le_refl _) _) (Nat.le_refl _) _
      have hs8 : W8.heap.size = w6.heap.size := by rw [hW8]; simp
      rw [← hW8] at hfar k11 ⊢
      have k12 : Blk (W8.putObj D (.deferred none)) w.heap.size 31 #[.int .i64 0, .int .i64 0] := k11.keep (World.putObj_heap_other (fun e => hDw e.symm))
      obtain ⟨e0, e1, _⟩ := k12.two
      have hMw : ∀ b, Mw S w2.heap.size W.heap.size b → True := fun _ _ => trivial
      have hnS : ¬ S w.heap.size := fun hs => by have := k2.lt; rcases h2 _ hs with e | e <;> omega
      have h10 : Own (sliceC byteC) (Mw S w2.heap.size W.heap.size) (W8.putObj D (.deferred none)) (w2.heap.size + 2) 29 (.slice A' L.length c') L := by
        have hnM : ∀ b, (Value.slice A' L.length c').ownBlock = some b → ¬ Mw S w2.heap.size W.heap.size b := fun b ho hm => by
          have := h5.base b ho
          exact hm.2.elim (fun h7 => h7 (h6 b ho)) (fun h7 => by omega)
        refine h5.keep (fun b hb1 hor => ?_) (by rw [World.putObj_size]; have := hb56.size; omega) hnM
        have hx : b ≠ D ∧ b ≠ w.heap.size := by
          rcases hor with h7 | h7
          · exact ⟨fun e => h7 ⟨hb1, .inl (e ▸ hSD)⟩, fun e => h7 ⟨hb1, .inl (e ▸ hnS)⟩⟩
          · have h8 := h6 b h7
            exact ⟨fun e => hSD (e ▸ h8), fun e => hnS (e ▸ h8)⟩
        exact (World.putObj_heap_other hx.1).trans ((hfar b hx.2).trans (hb56.block b hb1))
      have h11 : SlR (sliceC byteC) M0 (W8.putObj D (.deferred none)) (.slice A' L.length c') ((recs l).map (·.2)) := by
        have := (h10.read fun b ho hm => by
          have := h5.base b ho
          exact hm.2.elim (fun h7 => h7 (h6 b ho)) (fun h7 => by omega)).zero
        rwa [hLe] at this ⊢
      exact bodyPostM_one (v := .tuple #[.slice A' L.length c', .int .i64 z, .agg #[.int .i64 0, .int .i64 0]]) ((hfar D hDw).trans ((hb56.block D hDlt).trans hWD)) (by simp [results, Tryz.results25, go_sem, e0, e1])
        ⟨_, rfl, h11, hb8.os, hb8.tape, hb8.output, by simpa using hb8.size, fun b hb1 => (World.putObj_heap_other (by have := k2.lt; omega)).trans (hb8.block b hb1)⟩
    · rintro D c' k S W _ _ h
      exact h.elim
end Go.Proofs.YtjamjkjmlckgeaaGreatDoor
