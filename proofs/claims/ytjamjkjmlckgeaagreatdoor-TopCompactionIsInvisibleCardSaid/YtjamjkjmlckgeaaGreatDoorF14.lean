/-
  Contracts and plain facts, one after another: A store inside an element of several cells of a row of the call's own. No program is named here; Rows and blocks while one block turns. No program is named here; mailbox.Copy.
-/
import Derived.Test.YtjamjkjmlckgeaaGreatDoorF8
import Derived.Test.YtjamjkjmlckgeaaGreatDoorF13
import Derived.Test.YtjamjkjmlckgeaaGreatDoorF39
namespace Go.Proofs.YtjamjkjmlckgeaaGreatDoor
open Go.RowKit
theorem slot_bound {i k n j : Nat} (hik : i ≠ k) (hj : j < n) (q : Nat) (hq : q < n) : i * n + q ≠ k * n + j := by
  intro e
  rcases Nat.lt_or_gt_of_ne hik with h | h
  · have : (i + 1) * n ≤ k * n := Nat.mul_le_mul_right n h
    rw [Nat.add_mul, Nat.one_mul] at this
    omega
  · have : (k + 1) * n ≤ i * n := Nat.mul_le_mul_right n h
    rw [Nat.add_mul, Nat.one_mul] at this
    omega
theorem own_putC {α : Type} {C : Codec α} {M : Nat → Prop} {w : World} {B : Nat} {e : TypeId} {l : List α} {g n c : Nat} (h : Own C M w B e (.slice (some ⟨g, 0, none⟩) n c) l) {k j : Nat} (hk : k < l.length) (hj : j < C.n) {u : Value} {a : α}
    (hr : ∀ cs, C.rd (fun b => M b ∨ b = g) w cs l[k] → C.rd (fun b => M b ∨ b = g) w (cs.set j u) a) : Own C M (w.setCell ⟨g, k * C.n + j, none⟩ u) B e (.slice (some ⟨g, 0, none⟩) n c) (l.set k a) := by
  obtain ⟨xs, ho, he⟩ := h
  have hxl : xs.length = l.length * C.n := he.1
  have hkj : k * C.n + j < l.length * C.n := by
    have : (k + 1) * C.n ≤ l.length * C.n := Nat.mul_le_mul_right _ hk
    rw [Nat.add_mul, Nat.one_mul] at this
    omega
  rcases ho with ⟨hl, ⟨hv, _⟩ | ⟨g', cap, cur, hv, hb, hblk, h1, h2, hsz, htk⟩⟩
  · cases hv
  · injection hv with hv1 hv2 hv3
    injection hv1 with hv1
    injection hv1 with hv1
    subst hv1 hv2 hv3
    refine ⟨xs.set (k * C.n + j) u, ⟨by rw [List.length_set, List.length_set, hl], .inr ⟨g, c, cur.setIfInBounds (k * C.n + j) u, by rw [List.length_set], hb, ?_, by rw [List.length_set]; exact h1, h2, by rw [Array.size_setIfInBounds, hsz], ?_⟩⟩, ?_⟩
    · simp [World.setCell, Array.getElem?_modify, hblk]
    · rw [Array.toList_setIfInBounds, List.take_set, List.length_set, htk]
    · refine ⟨by rw [List.length_set, List.length_set, he.1], fun i hi => ?_⟩
      rw [List.length_set] at hi
      have keep : ∀ (cs : List Value) (x : α), C.rd (fun b => M b ∨ b = g) w cs x → C.rd (fun b => M b ∨ (Value.slice (some ⟨g, 0, none⟩) l.length c).ownBlock = some b) (w.setCell ⟨g, k * C.n + j, none⟩ u) cs x := fun cs x hx => by
        have h3 := C.keep (w' := w.setCell ⟨g, k * C.n + j, none⟩ u) hx (fun b _ hn => Below.heap_setCell w ⟨g, k * C.n + j, none⟩ u b fun e => hn (.inr e)) (by simp)
        exact C.sub h3 fun b _ hor => hor.imp id fun ho => by simp only [Value.ownBlock, Option.some.injEq] at ho; exact ho.symm
      have hsub : ∀ (cs : List Value) (x : α), C.rd (fun b => M b ∨ (Value.slice (some ⟨g, 0, none⟩) l.length c).ownBlock = some b) w cs x → C.rd (fun b => M b ∨ b = g) w cs x := fun cs x hx => C.sub hx fun b _ hor => hor.imp id fun e => by rw [e]; rfl
      by_cases hik : i = k
      · subst hik
        rw [List.getElem_set_self]
        have : ((xs.set (i * C.n + j) u).drop (i * C.n)).take C.n = ((xs.drop (i * C.n)).take C.n).set j u := by
          rw [List.drop_set, if_neg (by omega), List.take_set]
          congr 1
          omega
        rw [this]
        exact keep _ _ (hr _ (hsub _ _ (he.2 i hk)))
      · rw [List.getElem_set_ne (fun e => hik e.symm)]
        have : ((xs.set (k * C.n + j) u).drop (i * C.n)).take C.n = (xs.drop (i * C.n)).take C.n := by
          apply List.ext_getElem?
          intro q
          simp only [List.getElem?_take, List.getElem?_drop]
          split
          · rename_i hq
            rw [List.getElem?_set_ne (fun e => slot_bound hik hj q hq e.symm)]
          · rfl
        rw [this]
        exact keep _ _ (hsub _ _ (he.2 i hi))
end Go.Proofs.YtjamjkjmlckgeaaGreatDoor
namespace Go.Proofs.YtjamjkjmlckgeaaGreatDoor
open Go.RowKit
set_option linter.unusedVariables false
section
variable {α : Type} {C : Codec α} {M M' : Nat → Prop} {w W : World} {B : Nat} {e : TypeId} {v : Value} {l : List α}
/-- only block g has turned -/
structure Turned (g : Nat) (w W : World) : Prop where
  block : ∀ b, b ≠ g → W.heap[b]? = w.heap[b]?
  size : W.heap.size = w.heap.size
  rest : ∀ B, B ≤ g → Below B w W
theorem Turned.refl (g : Nat) (w : World) : Turned g w w := ⟨fun _ _ => rfl, rfl, fun B _ => Below.refl _ _⟩
theorem Turned.set {g : Nat} (h : Turned g w W) (i : Nat) (u : Value) : Turned g w (W.setCell ⟨g, i, none⟩ u) :=
  ⟨fun b hb => (heap_set_ne _ _ _ hb).trans (h.block b hb), by simpa using h.size, fun B hB => (h.rest B hB).setCell (p := ⟨g, i, none⟩) hB u⟩
theorem Turned.trans {g : Nat} {W' : World} (h : Turned g w W) (h' : Turned g W W') : Turned g w W' := ⟨fun b hb => (h'.block b hb).trans (h.block b hb), h'.size.trans h.size, fun B hB => (h.rest B hB).trans (h'.rest B hB)⟩
theorem Own.turned (h : Own C M w B e v l) {g : Nat} (hW : Turned g w W) (hg : M g) (hv : ∀ b, v.ownBlock = some b → b ≠ g) : Own C M W B e v l := by
  have h1 : Own C (fun b => M b ∧ v.ownBlock ≠ some b) w B e v l := by
    obtain ⟨xs, ho, he⟩ := h
    exact ⟨xs, ho, he.sub fun b _ hor => hor.elim (fun h => .inl h.1) .inr⟩
  have h2 : Own C (fun b => M b ∧ v.ownBlock ≠ some b) W B e v l := h1.keep (fun b hb hor => hW.block b fun e => by
    subst e
    rcases hor with h | h
    · exact h ⟨hg, fun h' => hv b h' rfl⟩
    · exact hv b h rfl) (Nat.le_of_eq hW.size.symm) fun b hb hm => hm.2 hb
  obtain ⟨xs, ho, he⟩ := h2
  exact ⟨xs, ho, he.sub fun b _ hor => by
    by_cases hb : v.ownBlock = some b
    · exact .inr hb
    · exact hor.elim (fun h => .inl ⟨h, hb⟩) .inr⟩
theorem SlR.turned (h : SlR C M w v l) {g : Nat} (hW : Turned g w W) (hg : M g) : SlR C M W v l :=
  h.keep (fun b _ hn => hW.block b fun e => hn (e ▸ hg)) (Nat.le_of_eq hW.size.symm)
theorem Blk.turned {g k : Nat} {t : TypeId} {cs : Array Value} (h : Blk w k t cs) (hW : Turned g w W) (hk : k ≠ g) : Blk W k t cs := h.keep (hW.block k hk)
theorem own_sub (h : Own C M w B e v l) (hM : ∀ b, b < w.heap.size → M' b → M b) : Own C M' w B e v l := by
  obtain ⟨xs, ho, he⟩ := h
  exact ⟨xs, ho, he.sub fun b hb hor => hor.imp (hM b hb) id⟩
theorem own_freeR (hF : FreeC C) (h : Own C M0 w B e v l) (hM : ∀ b, M b → b < B) : SlR C M w v l := (own_freeM (M' := M) hF h).readB hM
end
theorem entC_put4 {M : Nat → Prop} {w : World} {e : Mb.Ent} {f : Value} (hf : SlR fldC M w f e.2.2.2.2.1) (cs : List Value) (h : entC.rd M w cs e) : entC.rd M w (cs.set 4 f) e := by
  obtain ⟨c1, d1, rfl, ⟨rfl, i1⟩, c2, d2, rfl, ⟨rfl, i2⟩, c3, d3, rfl, ⟨rfl, i3⟩, c4, d4, rfl, ⟨rfl, i4⟩, c5, d5, rfl, ⟨v5, rfl, h5⟩, ⟨v6, rfl, h6⟩⟩ := h
  exact ⟨_, _, rfl, ⟨rfl, i1⟩, _, _, rfl, ⟨rfl, i2⟩, _, _, rfl, ⟨rfl, i3⟩, _, _, rfl, ⟨rfl, i4⟩, _, _, rfl, ⟨_, rfl, hf⟩, ⟨_, rfl, h6⟩⟩
theorem entC_put5 {M : Nat → Prop} {w : World} {e : Mb.Ent} {f : Value} (hf : SlR byteC M w f e.2.2.2.2.2) (cs : List Value) (h : entC.rd M w cs e) : entC.rd M w (cs.set 5 f) e := by
  obtain ⟨c1, d1, rfl, ⟨rfl, i1⟩, c2, d2, rfl, ⟨rfl, i2⟩, c3, d3, rfl, ⟨rfl, i3⟩, c4, d4, rfl, ⟨rfl, i4⟩, c5, d5, rfl, ⟨v5, rfl, h5⟩, ⟨v6, rfl, h6⟩⟩ := h
  exact ⟨_, _, rfl, ⟨rfl, i1⟩, _, _, rfl, ⟨rfl, i2⟩, _, _, rfl, ⟨rfl, i3⟩, _, _, rfl, ⟨rfl, i4⟩, _, _, rfl, ⟨_, rfl, h5⟩, ⟨_, rfl, hf⟩⟩
theorem entC_put1 {M : Nat → Prop} {w : World} {a b c d : Int} {m : Mb.Msg} (n : Int) (hn : -9223372036854775808 ≤ n ∧ n ≤ 9223372036854775807) (cs : List Value) (h : entC.rd M w cs (a, b, c, d, m)) : entC.rd M w (cs.set 1 (.int .i64 n)) (a, n, c, d, m) := by
  obtain ⟨c1, d1, rfl, ⟨rfl, i1⟩, c2, d2, rfl, ⟨rfl, i2⟩, c3, d3, rfl, ⟨rfl, i3⟩, c4, d4, rfl, ⟨rfl, i4⟩, c5, d5, rfl, ⟨v5, rfl, h5⟩, ⟨v6, rfl, h6⟩⟩ := h
  exact ⟨_, _, rfl, ⟨rfl, i1⟩, _, _, rfl, ⟨rfl, hn⟩, _, _, rfl, ⟨rfl, i3⟩, _, _, rfl, ⟨rfl, i4⟩, _, _, rfl, ⟨_, rfl, h5⟩, ⟨_, rfl, h6⟩⟩
theorem entC_put2 {M : Nat → Prop} {w : World} {a b c d : Int} {m : Mb.Msg} (n : Int) (hn : -9223372036854775808 ≤ n ∧ n ≤ 9223372036854775807) (cs : List Value) (h : entC.rd M w cs (a, b, c, d, m)) : entC.rd M w (cs.set 2 (.int .i64 n)) (a, b, n, d, m) := by
  obtain ⟨c1, d1, rfl, ⟨rfl, i1⟩, c2, d2, rfl, ⟨rfl, i2⟩, c3, d3, rfl, ⟨rfl, i3⟩, c4, d4, rfl, ⟨rfl, i4⟩, c5, d5, rfl, ⟨v5, rfl, h5⟩, ⟨v6, rfl, h6⟩⟩ := h
  exact ⟨_, _, rfl, ⟨rfl, i1⟩, _, _, rfl, ⟨rfl, i2⟩, _, _, rfl, ⟨rfl, hn⟩, _, _, rfl, ⟨rfl, i4⟩, _, _, rfl, ⟨_, rfl, h5⟩, ⟨_, rfl, h6⟩⟩
end Go.Proofs.YtjamjkjmlckgeaaGreatDoor
namespace Go.Proofs.YtjamjkjmlckgeaaGreatDoor
open Go.RowKit
set_option linter.unusedVariables false

/-- five cells of a block -/
def put5 (w : World) (g : Nat) (a b c d e : Value) : World := ((((w.setCell ⟨g, 0, none⟩ a).setCell ⟨g, 1, none⟩ b).setCell ⟨g, 2, none⟩ c).setCell ⟨g, 3, none⟩ d).setCell ⟨g, 4, none⟩ e
theorem put5_turned (w : World) (g : Nat) (a b c d e : Value) : Turned g w (put5 w g a b c d e) := (((((Turned.refl g w).set 0 a).set 1 b).set 2 c).set 3 d).set 4 e
theorem Blk.of5 {w : World} {g : Nat} {t : TypeId} {x0 x1 x2 x3 x4 : Value} (h : Blk w g t #[x0, x1, x2, x3, x4]) (a b c d e : Value) : Blk (put5 w g a b c d e) g t #[a, b, c, d, e] := by
  unfold put5
  simpa using ((((h.set_ 0 a).set_ 1 b).set_ 2 c).set_ 3 d).set_ 4 e
set_option maxRecDepth 100000 in
set_option maxHeartbeats 8000000 in
theorem copy_ok (M : Nat → Prop) (b : Mb.Box) (es gs : Value) (w : World) (hM : ∀ x, M x → x < w.heap.size) (he : SlR entC M w es b.es) (hg : SlR gnC M w gs b.gs) (hE : b.es.length ≤ 1000000) (hG : b.gs.length ≤ 1000000) (hbody : ∀ e ∈ b.es, e.2.2.2.2.1.length ≤ 1000000 ∧ e.2.2.2.2.2.length ≤ 1000000000) :
    Calls Tryz.prog 58 #[boxV b es gs] w fun e w' => ∃ es' gs', e = .returned (boxV b es' gs') ∧ Own entC (fun x => M x ∨ gs'.ownBlock = some x) w' w.heap.size 65 es' b.es ∧ Own gnC M w' w.heap.size 82 gs' b.gs ∧ Below w.heap.size w w' := by
  obtain ⟨Ae, ce, rfl, hec, hem⟩ := he.form
  obtain ⟨Ag, cg, rfl, hgc, hgm⟩ := hg.form
  unfold boxV
  obtain ⟨w0, g, g2, hw0, hgg, hg2, hsz0, k0, k02, hb0⟩ := box2 w #[.int .i64 b.nu, .int .i64 b.ns, .int .i64 b.hz, .slice Ae b.es.length ce, .slice Ag b.gs.length cg] 26 #[.int .i64 0, .int .i64 0, .int .i64 0, .slice none 0 0, .slice none 0 0] 26
  obtain ⟨M1, hM1⟩ : ∃ M1 : Nat → Prop, M1 = fun x => M x ∨ x = g ∨ x = g2 := ⟨_, rfl⟩
  have m1g : M1 g := by rw [hM1]; exact .inr (.inl rfl)
  have m1h : M1 g2 := by rw [hM1]; exact .inr (.inr rfl)
  have m1M : ∀ x, M x → M1 x := fun x hx => by rw [hM1]; exact .inl hx
  have hsz0' := hsz0
  have m1lt : ∀ x, M1 x → x < w0.heap.size := by
    intro x hx
    rw [hM1] at hx
    rcases hx with hx | hx | hx
    · have := hM x hx; omega
    · omega
    · omega
  have he0 : SlR entC (MB M w.heap.size) w0 (.slice Ae b.es.length ce) b.es := he.toMB.ext hb0
  have hg0' : SlR gnC M1 w0 (.slice Ag b.gs.length cg) b.gs := (hg.toMB.sub fun x hx h => by
    rw [hM1] at h
    rcases h with h | h | h
    · exact .inl h
    · exact .inr (by omega)
    · exact .inr (by omega)).ext hb0
  have m1c : ∀ x, M1 x → M x ∨ w.heap.size ≤ x := by
    intro x hx
    rw [hM1] at hx
    rcases hx with hx | hx | hx
    · exact .inl hx
    · exact .inr (by omega)
    · exact .inr (by omega)
  have hng : g ≠ g2 := by omega
  have hgw : w.heap.size ≤ g := by omega
  clear hsz0 hM1 hsz0'
  have HS := Lib.hid (show ∀ W, Below w0.heap.size w0 W → W.cell? ⟨g, 3, none⟩ = some (.slice Ae b.es.length ce) ∧ W.cell? ⟨g, 4, none⟩ = some (.slice Ag b.gs.length cg) from fun W hW => ⟨(k0.ext hW).cell 3, (k0.ext hW).cell 4⟩)
  go_enter Tryz.func58, Tryz.ntmps58
  go_wp2_with fail
  refine wp_region_D (fun W => W.cell? ⟨g, 3, none⟩ = some (.slice Ae b.es.length ce) ∧ W.cell? ⟨g, 4, none⟩ = some (.slice Ag b.gs.length cg)) (fun j => j == 7 || j == 8 || j == 9) (by kernel_rfl) ?_
  change anyD _ _ _ _ _ _ _ _ _ (w0.drewN 1)
  have hbV := below_drewN' w0.heap.size w0 1
  generalize w0.drewN 1 = V0 at hbV ⊢
  have hS := HS.out V0 hbV
  (refine anyD_light (i := 0) (v := ?_) rfl (by kernel_rfl) (by kernel_rfl) (by kernel_rfl) (by kernel_rfl) (by kernel_rfl) (fun _ _ _ h => h) (.inl ⟨by kernel_rfl, fun W9 hW9 => ?_⟩) hS ?_; rotate_left; · (obtain ⟨hw0, hw1⟩ := hW9; go_simp; rfl))
  (refine anyD_light (i := 1) (v := ?_) rfl (by kernel_rfl) (by kernel_rfl) (by kernel_rfl) (by kernel_rfl) (by kernel_rfl) (fun _ _ _ h => h) (.inl ⟨by kernel_rfl, fun W9 hW9 => ?_⟩) hS ?_; rotate_left; · (obtain ⟨hw0, hw1⟩ := hW9; go_simp; rfl))
  (refine anyD_light (i := 3) (v := ?_) rfl (by kernel_rfl) (by kernel_rfl) (by kernel_rfl) (by kernel_rfl) (by kernel_rfl) (fun _ _ _ h => h) (.inl ⟨by kernel_rfl, fun W9 hW9 => ?_⟩) hS ?_; rotate_left; · (obtain ⟨hw0, hw1⟩ := hW9; go_simp; rfl))
  (refine anyD_light (i := 4) (v := ?_) rfl (by kernel_rfl) (by kernel_rfl) (by kernel_rfl) (by kernel_rfl) (by kernel_rfl) (fun _ _ _ h => h) (.inl ⟨by kernel_rfl, fun W9 hW9 => ?_⟩) hS ?_; rotate_left; · (obtain ⟨hw0, hw1⟩ := hW9; go_simp; rfl))
  go_simp
  refine anyD_one (i := 2) (by kernel_rfl) rfl rfl (fun K hK => ?_)
  have HK := Lib.hid hK
  clear hK
  clear hS
  unfold Oper.wp
  go_simp
  refine (cloneEnt_ok (MB M w.heap.size) _ b.es V0 (he0.ext hbV) hE).mono ?_
  rintro e V1 ⟨ve, rfl, owne, hb1⟩
  obtain ⟨Av, cv, rfl, _, _⟩ := owne.shape
  have hb1' := below2 hbV hb1
  have hS := HS.out V1 hb1'
  refine HK.out _ _ (fun _ => hS) ?_
  clear HK
  (refine anyD_light (i := 6) (v := ?_) rfl (by kernel_rfl) (by kernel_rfl) (by kernel_rfl) (by kernel_rfl) (by kernel_rfl) (fun _ _ _ h => h) (.inl ⟨by kernel_rfl, fun W9 hW9 => ?_⟩) hS ?_; rotate_left; · (obtain ⟨hw0, hw1⟩ := hW9; go_simp; rfl))
  go_simp
  refine anyD_one (i := 5) (by kernel_rfl) rfl rfl (fun K hK => ?_)
  have HK := Lib.hid hK
  clear hK
  clear hS
  unfold Oper.wp
  go_simp
  refine (cloneGn_ok M1 _ b.gs V1 (hg0'.ext hb1') hG).mono ?_
  rintro e V2 ⟨vg, rfl, owng, hb2⟩
  obtain ⟨Aw, cw, rfl, _, _⟩ := owng.shape
  have hb2' := below2 hb1' hb2
  replace owne := owne.ext hb2
  have hS := HS.out V2 hb2'
  refine HK.out _ _ (fun _ => hS) ?_
  clear HK
  go_simp
  refine anyD_one (i := 7) (by kernel_rfl) rfl rfl (fun K hK => ?_)
  have HK := Lib.hid hK
  clear hK
  have x3 := (k0.ext hb2').frozen 3; have x4 := (k0.ext hb2').frozen 4; have x5 := (k0.ext hb2').lt; have y3 := (k0.ext hb2').cell 3; have y4 := (k0.ext hb2').cell 4
  unfold Oper.wp
  go_simp
  refine HK.out _ _ (fun h => by cases h) ?_
  clear HK
  go_simp
  refine anyD_one (i := 8) (by kernel_rfl) rfl rfl (fun K hK => ?_)
  have HK := Lib.hid hK
  clear hK
  unfold Oper.wp
  go_simp
  refine HK.out _ _ (fun h => by cases h) ?_
  clear HK
  go_simp
  refine anyD_one (i := 9) (by kernel_rfl) rfl rfl (fun K hK => ?_)
  have HK := Lib.hid hK
  clear hK
  unfold Oper.wp
  go_simp
  refine HK.out _ _ (fun h => by cases h) ?_
  clear HK
  go_simp
  refine anyD_done (by kernel_rfl) ?_ _
  have kA := ((k0.ext hb2').set_ 3 (.slice Av b.es.length cv)).set_ 4 (.slice Aw b.gs.length cw)
  have hT : Turned g V2 ((V2.setCell ⟨g, 3, none⟩ (.slice Av b.es.length cv)).setCell ⟨g, 4, none⟩ (.slice Aw b.gs.length cw)) := ((Turned.refl g V2).set 3 _).set 4 _
  generalize (V2.setCell ⟨g, 3, none⟩ (.slice Av b.es.length cv)).setCell ⟨g, 4, none⟩ (.slice Aw b.gs.length cw) = W at kA hT ⊢
  have kA : Blk W g 26 #[.int .i64 b.nu, .int .i64 b.ns, .int .i64 b.hz, .slice Av b.es.length cv, .slice Aw b.gs.length cw] := by simpa using kA
  have kB := (k02.ext hb2').turned hT (fun e => hng e.symm)
  obtain ⟨M2, hM2⟩ : ∃ M2 : Nat → Prop, M2 = fun x => M1 x ∨ (Value.slice Aw b.gs.length cw).ownBlock = some x := ⟨_, rfl⟩
  have m2g : M2 g := by rw [hM2]; exact .inl m1g
  have m2h : M2 g2 := by rw [hM2]; exact .inl m1h
  have m2M : ∀ x, (M x ∨ (Value.slice Aw b.gs.length cw).ownBlock = some x) → M2 x := fun x hx => by rw [hM2]; exact hx.imp (m1M x) id
  have hapE : ∀ x, (Value.slice Av b.es.length cv).ownBlock = some x → ¬ M2 x := fun x hx hm => by
    rw [hM2] at hm
    rcases hm with hm | hm
    · have h1 := owne.base x hx; have h2 := m1lt x hm; have h3 := hbV.size; omega
    · exact own_apart owng owne (by decide) x hx hm
  have m2lt : ∀ x, M2 x → x < W.heap.size := fun x hx => by
    rw [hM2] at hx
    have h5 := hT.size
    rcases hx with hx | hx
    · have h1 := m1lt x hx; have h2 := hb2'.size; omega
    · have h1 := owng.lt x hx; omega
  have owne2 : Own entC M2 V2 V0.heap.size 65 (.slice Av b.es.length cv) b.es := own_sub owne fun x _ hx => by
    rw [hM2] at hx
    rcases hx with hx | hx
    · rcases m1c x hx with h | h
      · exact .inl h
      · exact .inr h
    · have h1 := owng.base x hx; have h2 := hb1'.size; have h3 := hb0.size; exact .inr (by omega)
  have ownE : Own entC M2 W w0.heap.size 65 (.slice Av b.es.length cv) b.es := own_lower (owne2.turned hT m2g fun x hx e => by have h1 := owne.base x hx; have h2 := hbV.size; have h3 := k0.lt; omega) hbV.size
  have ownG : Own gnC M1 W w0.heap.size 82 (.slice Aw b.gs.length cw) b.gs := own_lower (owng.turned hT m1g fun x hx e => by have h1 := owng.base x hx; have h2 := hb1'.size; have h3 := k0.lt; omega) hb1'.size
  have hbW : Below w.heap.size w W := (below2 hb0 hb2').trans (hT.rest _ hgw)
  have hbW0 : w0.heap.size ≤ W.heap.size := by have h1 := hb2'.size; have h2 := hT.size; omega
  have hWW : W.heap.size ≤ W.heap.size := Nat.le_refl _
  clear owne2 hM2
  have c3 := kA.cell 3
  clear owne owng hT HS he0 hg0' hb1 hb2 hb1' hb2' hbV hw0 k0 k02 he hg hec hem hgc hgm
  go_wp2_with fail
  go_loopw [15] (fun i wr => ∃ k : Nat, k ≤ b.es.length ∧ i = .int .i64 (k : Int) ∧ Blk wr g 26 #[.int .i64 b.nu, .int .i64 b.ns, .int .i64 b.hz, .slice Av b.es.length cv, .slice Aw b.gs.length cw] ∧ Blk wr g2 26 #[.int .i64 0, .int .i64 0, .int .i64 0, .slice none 0 0, .slice none 0 0] ∧ Own entC M2 wr w0.heap.size 65 (.slice Av b.es.length cv) b.es ∧ Own gnC M1 wr w0.heap.size 82 (.slice Aw b.gs.length cw) b.gs ∧ Below w.heap.size w wr ∧ W.heap.size ≤ wr.heap.size) (fun i _ => b.es.length - (intOf i).toNat)
  case atStart => exact ⟨0, Nat.zero_le _, rfl, kA, kB, ownE, ownG, hbW, hWW⟩
  case round =>
    obtain ⟨k, hk, rfl, kr, kr2, oE, oG, hbr, hsr⟩ := hrel
    clear kA kB ownE ownG hbW hWW c3
    have c0 := kr.cell 0; have c1 := kr.cell 1; have c2 := kr.cell 2; have c3 := kr.cell 3; have c4 := kr.cell 4
    by_cases hlt : k < b.es.length
    · obtain ⟨q, cq, cur, hq, hqc, hqm, hq0, hqb, hqs⟩ := oE.blk (by omega)
      injection hq with hq1 _ hq2
      subst hq1 hq2
      have hre : SlR entC M2 wr (.slice (some ⟨q, 0, none⟩) b.es.length cv) b.es := oE.read hapE
      obtain ⟨be, off, Af, cf, Ab, cb, hA, _, _, _, _, _, _, q4, q5, qf, qb⟩ := hre.entAt hlt
      cases hA
      rw [Nat.zero_add] at q4 q5
      have hbd := hbody _ (List.getElem_mem hlt)
      have hcm := fun W (h1 : SlR fldC M0 W (.slice Af b.es[k].2.2.2.2.1.length cf) b.es[k].2.2.2.2.1) (h2 : SlR byteC M0 W (.slice Ab b.es[k].2.2.2.2.2.length cb) b.es[k].2.2.2.2.2) => copyMsg_ok _ _ b.es[k].2.2.2.2 W h1 h2 hbd.1 hbd.2
      obtain ⟨n1, hn1⟩ : ∃ n, n = b.es[k].2.2.2.2.1.length := ⟨_, rfl⟩
      obtain ⟨n2, hn2⟩ : ∃ n, n = b.es[k].2.2.2.2.2.length := ⟨_, rfl⟩
      rw [← hn1] at q4 qf hcm
      rw [← hn2] at q5 qb hcm
      have Hcm := Lib.hid hcm
      have hqlt := hqb.lt
      have HS := Lib.hid (show ∀ W, Below wr.heap.size wr W → W.cell? ⟨g, 3, none⟩ = some (.slice (some ⟨q, 0, none⟩) b.es.length cv) ∧ W.cell? ⟨q, k * 6 + 4, none⟩ = some (.slice Af n1 cf) ∧ W.cell? ⟨q, k * 6 + 5, none⟩ = some (.slice Ab n2 cb) from fun W hW => ⟨(kr.ext hW).cell 3, (hW.cell (p := ⟨q, k * 6 + 4, none⟩) hqlt).trans q4, (hW.cell (p := ⟨q, k * 6 + 5, none⟩) hqlt).trans q5⟩)
      have hki : (k : Int) < (b.es.length : Int) := by omega
      have Hn1 := Lib.hid hn1; have Hn2 := Lib.hid hn2
      clear hcm hn1 hn2 hbd c0 c1 c2 c4
      go_wp2_with fail
      refine wp_region_D (fun W => W.cell? ⟨g, 3, none⟩ = some (.slice (some ⟨q, 0, none⟩) b.es.length cv) ∧ W.cell? ⟨q, k * 6 + 4, none⟩ = some (.slice Af n1 cf) ∧ W.cell? ⟨q, k * 6 + 5, none⟩ = some (.slice Ab n2 cb)) (fun j => j == 11 || j == 12) (by kernel_rfl) ?_
      change anyD _ _ _ _ _ _ _ _ _ (wr.drewN 1)
      have hbV := below_drewN' wr.heap.size wr 1
      generalize wr.drewN 1 = V0 at hbV ⊢
      have hS := HS.out V0 hbV
      (refine anyD_light (i := 0) (v := ?_) rfl (by kernel_rfl) (by kernel_rfl) (by kernel_rfl) (by kernel_rfl) (by kernel_rfl) (fun _ _ _ h => h) (.inl ⟨by kernel_rfl, fun W9 hW9 => ?_⟩) hS ?_; rotate_left; · (obtain ⟨hw0, hw1, hw2⟩ := hW9; go_simp; rfl))
      (refine anyD_light (i := 1) (v := ?_) rfl (by kernel_rfl) (by kernel_rfl) (by kernel_rfl) (by kernel_rfl) (by kernel_rfl) (fun _ _ _ h => h) (.inl ⟨by kernel_rfl, fun W9 hW9 => ?_⟩) hS ?_; rotate_left; · (obtain ⟨hw0, hw1, hw2⟩ := hW9; go_simp; rfl))
      (refine anyD_light (i := 2) (v := ?_) rfl (by kernel_rfl) (by kernel_rfl) (by kernel_rfl) (by kernel_rfl) (by kernel_rfl) (fun _ _ _ h => h) (.inl ⟨by kernel_rfl, fun W9 hW9 => ?_⟩) hS ?_; rotate_left; · (obtain ⟨hw0, hw1, hw2⟩ := hW9; go_simp; rfl))
      (refine anyD_light (i := 3) (v := ?_) rfl (by kernel_rfl) (by kernel_rfl) (by kernel_rfl) (by kernel_rfl) (by kernel_rfl) (fun _ _ _ h => h) (.inl ⟨by kernel_rfl, fun W9 hW9 => ?_⟩) hS ?_; rotate_left; · (obtain ⟨hw0, hw1, hw2⟩ := hW9; go_simp; rfl))
      (refine anyD_light (i := 4) (v := ?_) rfl (by kernel_rfl) (by kernel_rfl) (by kernel_rfl) (by kernel_rfl) (by kernel_rfl) (fun _ _ _ h => h) (.inl ⟨by kernel_rfl, fun W9 hW9 => ?_⟩) hS ?_; rotate_left; · (obtain ⟨hw0, hw1, hw2⟩ := hW9; go_simp; rfl))
      (refine anyD_light (i := 5) (v := ?_) rfl (by kernel_rfl) (by kernel_rfl) (by kernel_rfl) (by kernel_rfl) (by kernel_rfl) (fun _ _ _ h => h) (.inl ⟨by kernel_rfl, fun W9 hW9 => ?_⟩) hS ?_; rotate_left; · (obtain ⟨hw0, hw1, hw2⟩ := hW9; go_simp; rfl))
      go_simp
      (refine anyD_light (i := 6) (v := ?_) rfl (by kernel_rfl) (by kernel_rfl) (by kernel_rfl) (by kernel_rfl) (by kernel_rfl) (fun _ _ _ h => h) (.inl ⟨by kernel_rfl, fun W9 hW9 => ?_⟩) hS ?_; rotate_left; · (obtain ⟨hw0, hw1, hw2⟩ := hW9; go_simp; rfl))
      (refine anyD_light (i := 7) (v := ?_) rfl (by kernel_rfl) (by kernel_rfl) (by kernel_rfl) (by kernel_rfl) (by kernel_rfl) (fun _ _ _ h => h) (.inl ⟨by kernel_rfl, fun W9 hW9 => ?_⟩) hS ?_; rotate_left; · (obtain ⟨hw0, hw1, hw2⟩ := hW9; go_simp; rfl))
      (refine anyD_light (i := 8) (v := ?_) rfl (by kernel_rfl) (by kernel_rfl) (by kernel_rfl) (by kernel_rfl) (by kernel_rfl) (fun _ _ _ h => h) (.inl ⟨by kernel_rfl, fun W9 hW9 => ?_⟩) hS ?_; rotate_left; · (obtain ⟨hw0, hw1, hw2⟩ := hW9; go_simp; rfl))
      go_simp
      refine anyD_one (i := 9) (by kernel_rfl) rfl rfl (fun K hK => ?_)
      have HK := Lib.hid hK
      clear hK
      clear hS
      unfold Oper.wp
      go_simp
      refine (Hcm.out V0 (qf.zero.ext hbV) (qb.zero.ext hbV)).mono ?_
      rintro e V1 ⟨vf, vb, rfl, ownf, ownb, hb1⟩
      obtain ⟨Afn, cfn, rfl, _, _⟩ := ownf.shape
      obtain ⟨Abn, cbn, rfl, _, _⟩ := ownb.shape
      have hb1' := below2 hbV hb1
      have hS := HS.out V1 hb1'
      refine HK.out _ _ (fun _ => hS) ?_
      clear HK
      (refine anyD_light (i := 10) (v := ?_) rfl (by kernel_rfl) (by kernel_rfl) (by kernel_rfl) (by kernel_rfl) (by kernel_rfl) (fun _ _ _ h => h) (.inl ⟨by kernel_rfl, fun W9 hW9 => ?_⟩) hS ?_; rotate_left; · (obtain ⟨hw0, hw1, hw2⟩ := hW9; go_simp; rfl))
      (refine anyD_light (i := 11) (v := ?_) rfl (by kernel_rfl) (by kernel_rfl) (by kernel_rfl) (by kernel_rfl) (by kernel_rfl) (fun _ _ _ h => h) (.inl ⟨by kernel_rfl, fun W9 hW9 => ?_⟩) hS ?_; rotate_left; · (obtain ⟨hw0, hw1, hw2⟩ := hW9; go_simp; rfl))
      go_simp
      refine anyD_one (i := 12) (by kernel_rfl) rfl rfl (fun K hK => ?_)
      have HK := Lib.hid hK
      clear hK
      have hq1 := hqb.ext hb1'
      have x4 := hq1.frozen (k * 6 + 4); have x5 := hq1.frozen (k * 6 + 5); have xl := hq1.lt
      have y4 := (HS.out V1 hb1').2.1; have y5 := (HS.out V1 hb1').2.2
      unfold Oper.wp
      go_simp
      refine HK.out _ _ (fun h => by cases h) ?_
      clear HK
      go_simp
      refine anyD_done (by kernel_rfl) ?_ _
      have oE1 := oE.ext hb1'
      have oG1 := oG.ext hb1'
      have hgq : g ≠ q := by have h1 := m1lt g m1g; omega
      have hgq2 : g2 ≠ q := by have h1 := m1lt g2 m1h; omega
      have hfr : SlR fldC (fun x => M2 x ∨ x = q) V1 (.slice Afn b.es[k].2.2.2.2.1.length cfn) b.es[k].2.2.2.2.1 := own_freeR free_fld ownf fun x hx => by
        have h3 := hbV.size
        rcases hx with hx | hx
        · have h1 := m2lt x hx; omega
        · omega
      have hbr' : SlR byteC (fun x => M2 x ∨ x = q) V1 (.slice Abn b.es[k].2.2.2.2.2.length cbn) b.es[k].2.2.2.2.2 := own_freeR free_byte ownb fun x hx => by
        have h3 := hbV.size
        rcases hx with hx | hx
        · have h1 := m2lt x hx; omega
        · omega
      have e1 := own_putC (C := entC) oE1 hlt (j := 4) (by decide) (u := .slice Afn b.es[k].2.2.2.2.1.length cfn) (a := b.es[k]) (fun cs h => entC_put4 hfr cs h)
      rw [List.set_getElem_self] at e1
      have hT1 : Turned q V1 (V1.setCell ⟨q, k * 6 + 4, none⟩ (.slice Afn b.es[k].2.2.2.2.1.length cfn)) := (Turned.refl q V1).set _ _
      have e2 := own_putC (C := entC) e1 hlt (j := 5) (by decide) (u := .slice Abn b.es[k].2.2.2.2.2.length cbn) (a := b.es[k]) (fun cs h => entC_put5 (hbr'.turned hT1 (.inr rfl)) cs h)
      rw [List.set_getElem_self] at e2
      have hT2 : Turned q V1 ((V1.setCell ⟨q, k * 6 + 4, none⟩ (.slice Afn b.es[k].2.2.2.2.1.length cfn)).setCell ⟨q, k * 6 + 5, none⟩ (.slice Abn b.es[k].2.2.2.2.2.length cbn)) := hT1.set _ _
      have e3 : Own entC M2 ((V1.setCell ⟨q, k * 6 + 4, none⟩ (.slice Afn b.es[k].2.2.2.2.1.length cfn)).setCell ⟨q, k * 6 + 5, none⟩ (.slice Abn b.es[k].2.2.2.2.2.length cbn)) w0.heap.size 65 (.slice (some ⟨q, 0, none⟩) b.es.length cv) b.es := e2
      generalize (V1.setCell ⟨q, k * 6 + 4, none⟩ (.slice Afn b.es[k].2.2.2.2.1.length cfn)).setCell ⟨q, k * 6 + 5, none⟩ (.slice Abn b.es[k].2.2.2.2.2.length cbn) = W' at e3 hT2 ⊢
      have kA := (kr.ext hb1').turned hT2 hgq
      have kB := (kr2.ext hb1').turned hT2 hgq2
      have oG2 : Own gnC M1 W' w0.heap.size 82 (.slice Aw b.gs.length cw) b.gs := own_freeM free_gn (Own.turned (M := fun _ => True) (own_freeM free_gn oG1) hT2 trivial fun x hx e => by
        subst e
        exact own_apart oE1 oG1 (by decide) x hx rfl)
      have hbW' : Below w.heap.size w W' := (hbr.trans (hb1'.mono hbr.size)).trans (hT2.rest _ (by have h1 := hb0.size; omega))
      have hsW : W.heap.size ≤ W'.heap.size := by have h1 := hb1'.size; have h2 := hT2.size; omega
      clear oE oG oE1 oG1 e1 e2 hT1 hT2 hfr hbr' ownf ownb kr kr2
      go_wp2_with fail
      go_roundw
      case rel => exact ⟨k + 1, by omega, by go_num, kA, kB, e3, oG2, hbW', hsW⟩
      case measure => simp [intOf]; omega
    · have d0 := kr2.frozen 0; have d1 := kr2.frozen 1; have d2 := kr2.frozen 2; have d3 := kr2.frozen 3; have d4 := kr2.frozen 4; have dl := kr2.lt
      have b0 := kr2.cell 0; have b1 := kr2.cell 1; have b2 := kr2.cell 2; have b3 := kr2.cell 3; have b4 := kr2.cell 4
      have hT := put5_turned wr g2 (.int .i64 b.nu) (.int .i64 b.ns) (.int .i64 b.hz) (.slice Av b.es.length cv) (.slice Aw b.gs.length cw)
      have kC := kr2.of5 (.int .i64 b.nu) (.int .i64 b.ns) (.int .i64 b.hz) (.slice Av b.es.length cv) (.slice Aw b.gs.length cw)
      have z0 := kC.cell 0; have z1 := kC.cell 1; have z2 := kC.cell 2; have z3 := kC.cell 3; have z4 := kC.cell 4
      have oE2 := oE.turned hT m2h (fun x hx e => by have h1 := oE.base x hx; have h2 := m1lt g2 m1h; omega)
      have oG2 := oG.turned hT m1h (fun x hx e => by have h1 := oG.base x hx; have h2 := m1lt g2 m1h; omega)
      unfold put5 at *
      go_wp2_with fail
      refine bodyPost_ret (v := boxV b (.slice Av b.es.length cv) (.slice Aw b.gs.length cw)) (by simp [results, Tryz.results58, go_sem, boxV, z0, z1, z2, z3, z4]) rfl ⟨_, _, rfl, ?_, ?_, ?_⟩
      · exact own_lower (own_sub oE2 fun x _ hx => m2M x hx) hb0.size
      · exact own_lower (own_sub oG2 fun x _ hx => m1M x hx) hb0.size
      · exact hbr.trans (hT.rest _ (by omega))
end Go.Proofs.YtjamjkjmlckgeaaGreatDoor
