/-
  Contracts and plain facts, one after another: The reference's SameQuery; queryExample; Two faults and two queries that are the same, compared.
-/
import Derived.Test.YtihhgmpanfboaaaGreatDoorK7
import Derived.Test.YtihhgmpanfboaaaGreatDoorK3
import Derived.Test.YtihhgmpanfboaaaGreatDoorQyV
import Derived.Test.YtihhgmpanfboaaaGreatDoorK19
import Derived.Test.YtihhgmpanfboaaaGreatDoorK21
import Derived.Test.YtihhgmpanfboaaaGreatDoorK6
namespace Go.Proofs.YtihhgmpanfboaaaGreatDoor
open Go.RowKit
set_option linter.unusedVariables false
theorem node_eq {k k' n n' : Int} {t t' : Str} {l l' : List Q} : Q.node k t n l = Q.node k' t' n' l' ↔ k = k' ∧ t = t' ∧ n = n' ∧ l = l' := by simp
/-- what a comparison hands back -/
def SameAt (w : World) (E : Prop) (e : Ending) (w' : World) : Prop := ∃ r, e = .returned (.bool r) ∧ (r = true ↔ E) ∧ Below w.heap.size w w'
set_option maxRecDepth 100000 in
set_option maxHeartbeats 8000000 in
theorem same_ok : ∀ (f : Nat) (a b : Q) (va vb : Value) (fb : Nat) (w : World), QAt f M0 w va a → QAt fb M0 w vb b →
    Calls Tryz.prog 15 #[va, vb] w (SameAt w (a = b)) := by
  intro f
  induction f using Nat.strongRecOn with
  | _ f ih =>
  intro a b va vb fb w ha hb
  obtain ⟨Aa, ca, rfl, _, _, _, sa⟩ := ha
  obtain ⟨Ab, cb, rfl, _, _, _, sb⟩ := hb
  obtain ⟨ak, at_, an, al⟩ := a
  obtain ⟨bk, bt, bn, bl⟩ := b
  simp only [Q.kind_node, Q.text_node, Q.num_node, Q.parts_node] at sa sb ⊢
  have ham := sa.len_le
  unfold maxLen at ham
  obtain ⟨W, g, hW, hg, hs, kA, kB, hal⟩ := boxPair w #[.int .i64 ak, .string (bs at_), .int .i64 an, .slice Aa al.length ca] 24 #[.int .i64 bk, .string (bs bt), .int .i64 bn, .slice Ab bl.length cb] 24
  have HW := Lib.hid hW
  have Sa := Lib.hid (sa.ext hal); have Sb := Lib.hid (sb.ext hal); have Ih := Lib.hid ih; have := hal
  have Hal := Lib.hid hal
  have hgW : g ≤ W.heap.size := by omega
  clear hW hs hal sa sb ih
  obtain ⟨a0, a1, a2, a3, _⟩ := kA.four
  obtain ⟨b0, b1, b2, b3, _⟩ := kB.four
  rw [node_eq]
  obtain ⟨E, hE⟩ : ∃ E : Prop, (ak = bk ∧ at_ = bt ∧ an = bn ∧ al = bl ↔ E) := ⟨_, Iff.rfl⟩
  rw [hE]
  have HE := Lib.hid hE
  clear hE
  by_cases h : ak = bk
  rotate_left
  · have hbq : (ak != bk) = true := by simpa using h
    have hend : ¬ E := fun e => by
      have e' := HE.out.2 e
      exact h e'.1
    have Hend := Lib.hid hend
    clear hend h 
    go_enter Tryz.func15, Tryz.ntmps15
    go_wp2_with fail
    rw [HW.out]
    try rw [hg]
    go_wp2_with fail
    go_ret
    exact ⟨false, rfl, ⟨fun h => (by cases h), fun h => (Hend.out h).elim⟩, Hal.out⟩
  subst h
  by_cases h : at_ = bt
  rotate_left
  · have hbq : (at_ != bt) = true := by simpa using h
    have hbq2 : (at_ == bt) = false := by simpa using h
    have hend : ¬ E := fun e => by
      have e' := HE.out.2 e
      exact h e'.2.1
    have Hend := Lib.hid hend
    clear hend h 
    go_enter Tryz.func15, Tryz.ntmps15
    go_wp2_with fail
    rw [HW.out]
    try rw [hg]
    go_wp2_with fail
    go_ret
    exact ⟨false, rfl, ⟨fun h => (by cases h), fun h => (Hend.out h).elim⟩, Hal.out⟩
  subst h
  by_cases h : an = bn
  rotate_left
  · have hbq : (an != bn) = true := by simpa using h
    have hend : ¬ E := fun e => by
      have e' := HE.out.2 e
      exact h e'.2.2.1
    have Hend := Lib.hid hend
    clear hend h 
    go_enter Tryz.func15, Tryz.ntmps15
    go_wp2_with fail
    rw [HW.out]
    try rw [hg]
    go_wp2_with fail
    go_ret
    exact ⟨false, rfl, ⟨fun h => (by cases h), fun h => (Hend.out h).elim⟩, Hal.out⟩
  subst h
  by_cases h : al.length = bl.length
  rotate_left
  · have hbq : ((al.length : Int) != (bl.length : Int)) = true := by rw [bne_iff_ne]; omega
    have hend : ¬ E := fun e => by
      have e' := HE.out.2 e
      exact h (by rw [e'.2.2.2])
    have Hend := Lib.hid hend
    clear hend h 
    go_enter Tryz.func15, Tryz.ntmps15
    go_wp2_with fail
    rw [HW.out]
    try rw [hg]
    go_wp2_with fail
    go_ret
    exact ⟨false, rfl, ⟨fun h => (by cases h), fun h => (Hend.out h).elim⟩, Hal.out⟩
  obtain ⟨n, hn⟩ : ∃ n, al.length = n := ⟨_, rfl⟩
  have hbn : bl.length = n := by omega
  have Han := Lib.hid hn; have Hbn := Lib.hid hbn
  rw [hn] at a3 ham ⊢
  rw [hbn] at b3 ⊢
  have HSa := Sa.out; have HSb := Sb.out
  rw [hn] at HSa
  rw [hbn] at HSb
  have HWo := HW.out
  rw [hn, hbn] at HWo
  have HW2 := Lib.hid HWo
  clear HW HWo
  have HW := HW2
  clear HW2
  have Sa2 := Lib.hid HSa; have Sb2 := Lib.hid HSb; have KA := Lib.hid kA; have KB := Lib.hid kB
  clear Sa Sb HSa HSb h hn hbn kA kB
  go_enter Tryz.func15, Tryz.ntmps15
  go_wp2_with fail
  rw [HW.out]
  try rw [hg]
  go_wp2_with fail
  clear a0 a1 a2 b0 b1 b2 a3 b3
  go_loopw [5] (fun iv wr => ∃ m : Nat, m ≤ n ∧ iv = .int .i64 (m : Int) ∧ Hid (∀ j, j < m → al[j]? = bl[j]?) ∧ Below W.heap.size W wr) (fun iv _ => n - (intOf iv).toNat)
  case atStart => exact ⟨0, Nat.zero_le _, rfl, Lib.hid (fun j h => absurd h (Nat.not_lt_zero _)), Below.refl _ _⟩
  case round =>
    obtain ⟨m, hm, rfl, hsame, hbr⟩ := hrel
    obtain ⟨wo, rfl⟩ : ∃ W, W = wr := ⟨_, rfl⟩
    have HKA := KA.out; have HKB := KB.out
    rw [Han.out] at HKA
    rw [Hbn.out] at HKB
    obtain ⟨_, _, _, a3, _⟩ := (HKA.ext hbr).four
    obtain ⟨_, _, _, b3, _⟩ := (HKB.ext hbr).four
    clear HKA HKB
    by_cases hlt : m < n
    · have hmi : (m : Int) < (n : Int) := by omega
      have hm0 : (0 : Int) ≤ (m : Int) := by omega
      have hla : m < al.length := by have := Han.out; omega
      have hlb : m < bl.length := by have := Hbn.out; omega
      obtain ⟨xb, xo, xe, xA, xc, rfl, hfx, _, _, x0, x1, x2, x3, hqx⟩ := (Sa2.out.ext hbr).qAt hla
      obtain ⟨yb, yo, ye, yA, yc, rfl, hfy, _, _, y0, y1, y2, y3, hqy⟩ := (Sb2.out.ext hbr).qAt hlb
      have hc := fun V (hv : Below wo.heap.size wo V) => Ih.out xe (by omega) al[m] bl[m] _ _ ye V (hqx.ext hv) (hqy.ext hv)
      have hga : al[m]? = some al[m] := List.getElem?_eq_getElem hla
      have hgb : bl[m]? = some bl[m] := List.getElem?_eq_getElem hlb
      obtain ⟨xk, hxk⟩ : ∃ k, al[m].kind = k := ⟨_, rfl⟩
      obtain ⟨xt, hxt⟩ : ∃ k, al[m].text = k := ⟨_, rfl⟩
      obtain ⟨xn, hxn⟩ : ∃ k, al[m].num = k := ⟨_, rfl⟩
      obtain ⟨xl, hxl⟩ : ∃ k, al[m].parts.length = k := ⟨_, rfl⟩
      obtain ⟨yk, hyk⟩ : ∃ k, bl[m].kind = k := ⟨_, rfl⟩
      obtain ⟨yt, hyt⟩ : ∃ k, bl[m].text = k := ⟨_, rfl⟩
      obtain ⟨yn, hyn⟩ : ∃ k, bl[m].num = k := ⟨_, rfl⟩
      obtain ⟨yl, hyl⟩ : ∃ k, bl[m].parts.length = k := ⟨_, rfl⟩
      rw [hxk, hxt, hxn, hxl, hyk, hyt, hyn, hyl] at hc
      rw [hxk] at x0; rw [hxt] at x1; rw [hxn] at x2; rw [hxl] at x3
      rw [hyk] at y0; rw [hyt] at y1; rw [hyn] at y2; rw [hyl] at y3
      obtain ⟨p, hp⟩ : ∃ p, al[m] = p := ⟨_, rfl⟩
      obtain ⟨q, hq⟩ : ∃ p, bl[m] = p := ⟨_, rfl⟩
      rw [hp, hq] at hc
      rw [hp] at hga
      rw [hq] at hgb
      have Hc := Lib.hid hc; have Hga := Lib.hid hga; have Hgb := Lib.hid hgb
      have HS : Hid (∀ W, Below wo.heap.size wo W → W.cell? ⟨g, 3, none⟩ = some (.slice (some ⟨xb, xo, none⟩) n ca) ∧ W.cell? ⟨g + 1, 3, none⟩ = some (.slice (some ⟨yb, yo, none⟩) n cb) ∧ W.cell? ⟨xb, xo + m * 4, none⟩ = some (.int .i64 xk) ∧ W.cell? ⟨xb, xo + m * 4 + 1, none⟩ = some (.string (bs xt)) ∧ W.cell? ⟨xb, xo + m * 4 + 2, none⟩ = some (.int .i64 xn) ∧ W.cell? ⟨xb, xo + m * 4 + 3, none⟩ = some (.slice xA xl xc) ∧ W.cell? ⟨yb, yo + m * 4, none⟩ = some (.int .i64 yk) ∧ W.cell? ⟨yb, yo + m * 4 + 1, none⟩ = some (.string (bs yt)) ∧ W.cell? ⟨yb, yo + m * 4 + 2, none⟩ = some (.int .i64 yn) ∧ W.cell? ⟨yb, yo + m * 4 + 3, none⟩ = some (.slice yA yl yc)) := Lib.hid fun W hb => by
        have hcl : ∀ {p : Addr} {v : Value}, wo.cell? p = some v → W.cell? p = some v := fun h => (hb.cell (World.block_lt_of_cell? _ _ h)).trans h
        exact ⟨hcl a3, hcl b3, hcl x0, hcl x1, hcl x2, hcl x3, hcl y0, hcl y1, hcl y2, hcl y3⟩
      clear hc hga hgb hp hq hxk hxt hxn hxl hyk hyt hyn hyl hqx hqy hfx hfy x0 x1 x2 x3 y0 y1 y2 y3
      go_wp2_with fail
      clear a3 b3
      have hS := HS.out (wo.drewN 1) (below_drewN' _ _ _)
      refine wp_region_D (fun W => W.cell? ⟨g, 3, none⟩ = some (.slice (some ⟨xb, xo, none⟩) n ca) ∧ W.cell? ⟨g + 1, 3, none⟩ = some (.slice (some ⟨yb, yo, none⟩) n cb) ∧ W.cell? ⟨xb, xo + m * 4, none⟩ = some (.int .i64 xk) ∧ W.cell? ⟨xb, xo + m * 4 + 1, none⟩ = some (.string (bs xt)) ∧ W.cell? ⟨xb, xo + m * 4 + 2, none⟩ = some (.int .i64 xn) ∧ W.cell? ⟨xb, xo + m * 4 + 3, none⟩ = some (.slice xA xl xc) ∧ W.cell? ⟨yb, yo + m * 4, none⟩ = some (.int .i64 yk) ∧ W.cell? ⟨yb, yo + m * 4 + 1, none⟩ = some (.string (bs yt)) ∧ W.cell? ⟨yb, yo + m * 4 + 2, none⟩ = some (.int .i64 yn) ∧ W.cell? ⟨yb, yo + m * 4 + 3, none⟩ = some (.slice yA yl yc)) (fun _ => false) (by kernel_rfl) ?_
      change anyD _ _ _ _ _ _ _ _ _ (wo.drewN 1)
      have hbV := below_drewN' wo.heap.size wo 1
      generalize wo.drewN 1 = V0 at hS hbV ⊢
      (refine anyD_light (i := 0) (v := ?_) rfl (by kernel_rfl) (by kernel_rfl) (by kernel_rfl) (by kernel_rfl) (by kernel_rfl) (fun _ _ _ h => h) (.inl ⟨by kernel_rfl, fun W9 hW9 => ?_⟩) hS ?_; rotate_left; · (obtain ⟨hw0, hw1, hw2, hw3, hw4, hw5, hw6, hw7, hw8, hw9⟩ := hW9; go_simp; rfl))
      (refine anyD_light (i := 1) (v := ?_) rfl (by kernel_rfl) (by kernel_rfl) (by kernel_rfl) (by kernel_rfl) (by kernel_rfl) (fun _ _ _ h => h) (.inl ⟨by kernel_rfl, fun W9 hW9 => ?_⟩) hS ?_; rotate_left; · (obtain ⟨hw0, hw1, hw2, hw3, hw4, hw5, hw6, hw7, hw8, hw9⟩ := hW9; go_simp; rfl))
      (refine anyD_light (i := 2) (v := ?_) rfl (by kernel_rfl) (by kernel_rfl) (by kernel_rfl) (by kernel_rfl) (by kernel_rfl) (fun _ _ _ h => h) (.inl ⟨by kernel_rfl, fun W9 hW9 => ?_⟩) hS ?_; rotate_left; · (obtain ⟨hw0, hw1, hw2, hw3, hw4, hw5, hw6, hw7, hw8, hw9⟩ := hW9; go_simp; rfl))
      (refine anyD_light (i := 3) (v := ?_) rfl (by kernel_rfl) (by kernel_rfl) (by kernel_rfl) (by kernel_rfl) (by kernel_rfl) (fun _ _ _ h => h) (.inl ⟨by kernel_rfl, fun W9 hW9 => ?_⟩) hS ?_; rotate_left; · (obtain ⟨hw0, hw1, hw2, hw3, hw4, hw5, hw6, hw7, hw8, hw9⟩ := hW9; go_simp; rfl))
      (refine anyD_light (i := 4) (v := ?_) rfl (by kernel_rfl) (by kernel_rfl) (by kernel_rfl) (by kernel_rfl) (by kernel_rfl) (fun _ _ _ h => h) (.inl ⟨by kernel_rfl, fun W9 hW9 => ?_⟩) hS ?_; rotate_left; · (obtain ⟨hw0, hw1, hw2, hw3, hw4, hw5, hw6, hw7, hw8, hw9⟩ := hW9; go_simp; rfl))
      (refine anyD_light (i := 5) (v := ?_) rfl (by kernel_rfl) (by kernel_rfl) (by kernel_rfl) (by kernel_rfl) (by kernel_rfl) (fun _ _ _ h => h) (.inl ⟨by kernel_rfl, fun W9 hW9 => ?_⟩) hS ?_; rotate_left; · (obtain ⟨hw0, hw1, hw2, hw3, hw4, hw5, hw6, hw7, hw8, hw9⟩ := hW9; go_simp; rfl))
      go_simp
      (refine anyD_light (i := 6) (v := ?_) rfl (by kernel_rfl) (by kernel_rfl) (by kernel_rfl) (by kernel_rfl) (by kernel_rfl) (fun _ _ _ h => h) (.inl ⟨by kernel_rfl, fun W9 hW9 => ?_⟩) hS ?_; rotate_left; · (obtain ⟨hw0, hw1, hw2, hw3, hw4, hw5, hw6, hw7, hw8, hw9⟩ := hW9; go_simp; rfl))
      (refine anyD_light (i := 7) (v := ?_) rfl (by kernel_rfl) (by kernel_rfl) (by kernel_rfl) (by kernel_rfl) (by kernel_rfl) (fun _ _ _ h => h) (.inl ⟨by kernel_rfl, fun W9 hW9 => ?_⟩) hS ?_; rotate_left; · (obtain ⟨hw0, hw1, hw2, hw3, hw4, hw5, hw6, hw7, hw8, hw9⟩ := hW9; go_simp; rfl))
      (refine anyD_light (i := 8) (v := ?_) rfl (by kernel_rfl) (by kernel_rfl) (by kernel_rfl) (by kernel_rfl) (by kernel_rfl) (fun _ _ _ h => h) (.inl ⟨by kernel_rfl, fun W9 hW9 => ?_⟩) hS ?_; rotate_left; · (obtain ⟨hw0, hw1, hw2, hw3, hw4, hw5, hw6, hw7, hw8, hw9⟩ := hW9; go_simp; rfl))
      (refine anyD_light (i := 9) (v := ?_) rfl (by kernel_rfl) (by kernel_rfl) (by kernel_rfl) (by kernel_rfl) (by kernel_rfl) (fun _ _ _ h => h) (.inl ⟨by kernel_rfl, fun W9 hW9 => ?_⟩) hS ?_; rotate_left; · (obtain ⟨hw0, hw1, hw2, hw3, hw4, hw5, hw6, hw7, hw8, hw9⟩ := hW9; go_simp; rfl))
      go_simp
      refine anyD_one (i := 10) (by kernel_rfl) rfl rfl (fun K hK => ?_)
      have HK := Lib.hid hK
      clear hK
      unfold Oper.wp
      go_simp
      refine (Hc.out V0 hbV).mono ?_
      rintro e w9 ⟨r, rfl, hr, hb9⟩
      replace hbV := hbV.trans (hb9.mono hbV.size)
      clear hb9 hS
      have hS := HS.out _ hbV
      refine HK.out _ _ (fun _ => hS) ?_
      clear HK
      (refine anyD_light (i := 11) (v := ?_) rfl (by kernel_rfl) (by kernel_rfl) (by kernel_rfl) (by kernel_rfl) (by kernel_rfl) (fun _ _ _ h => h) (.inl ⟨by kernel_rfl, fun W9 hW9 => ?_⟩) hS ?_; rotate_left; · (obtain ⟨hw0, hw1, hw2, hw3, hw4, hw5, hw6, hw7, hw8, hw9⟩ := hW9; go_simp; rfl))
      go_simp
      refine anyD_done (by kernel_rfl) ?_ _
      have hbf := hbr.trans (hbV.mono hbr.size)
      cases r with
      | false =>
        have hend : ¬ (al = bl) := fun e => by
          have h1 := Hga.out; have h2 := Hgb.out
          rw [e, h2] at h1
          have h3 := hr.2 (Option.some.inj h1).symm
          cases h3
        have Hend := Lib.hid hend
        clear hend hr
        go_wp2_with fail
        go_ret
        exact ⟨false, rfl, ⟨fun h => (by cases h), fun h => (Hend.out (HE.out.2 h).2.2.2).elim⟩, Hal.out.trans (hbf.mono Hal.out.size)⟩
      | true =>
        have hpq := hr.1 rfl
        have Hpq := Lib.hid hpq
        clear hpq hr
        go_wp2_with fail
        go_roundw
        case rel =>
          refine ⟨m + 1, by omega, by go_num, Lib.hid fun j hj => ?_, hbf⟩
          by_cases e : j = m
          · rw [e, Hga.out, Hgb.out, Hpq.out]
          · exact hsame.out j (by omega)
        case measure => simp [intOf]; omega
    · have hall : al = bl := List.ext_getElem? fun j => by
        by_cases h : j < n
        · exact hsame.out j (by omega)
        · rw [List.getElem?_eq_none (by have := Han.out; omega), List.getElem?_eq_none (by have := Hbn.out; omega)]
      have Hall := Lib.hid hall
      have hmn : ¬ (m : Int) < (n : Int) := by omega
      clear hall
      go_wp2_with fail
      go_ret
      exact ⟨true, rfl, ⟨fun _ => HE.out.1 (by simp [Hall.out]), fun _ => rfl⟩, Hal.out.trans (hbr.mono Hal.out.size)⟩
end Go.Proofs.YtihhgmpanfboaaaGreatDoor
namespace Go.Proofs.YtihhgmpanfboaaaGreatDoor
open Go.RowKit
set_option linter.unusedVariables false
theorem run_eq_fault (a b a' b' : Int) (w : World) : (binOp .eql 26 (.agg #[.int .i64 a, .int .i64 b]) (.agg #[.int .i64 a', .int .i64 b'])).run Tryz.prog w = .ok (.bool ((a, b) == (a', b'))) w := by
  have h1 : ((a, b) == (a', b')) = ((a == a') && (b == b')) := rfl
  rw [h1]
  cases e1 : (a == a') <;> cases e2 : (b == b') <;> simp [go_sem, e1, e2]
abbrev exS : Str := [97, 32, 124, 32, 98, 32, 45, 99]
def exQ : Q := .node 7 [] 0 [.node 2 [97] 0 [], .node 6 [] 0 [.node 2 [98] 0 [], .node 8 [] 0 [.node 2 [99] 0 []]]]
theorem ex_parse : Q.parseF exS = (exQ, 0, 0) := by kernel_rfl
theorem ex_print : Q.printF exQ = (exS, 0, 0) := by kernel_rfl
theorem ex_none : Q.fault (.node 0 [] 0 []) = (4, 0) := by kernel_rfl
theorem ex_bulk : exQ.bulk ≤ 4000000 := by decide +kernel
set_option maxRecDepth 100000 in
set_option maxHeartbeats 8000000 in
theorem qexample_ok (w : World) (hT : TabsU w) (hC : CutV w) : Calls Tryz.prog 9 #[] w fun e w' => e = .returned (.bool true) ∧ Below w.heap.size w w' := by
  have hp := parse_ok exS (by simp [maxLen]) w hT
  rw [ex_parse] at hp
  have Hp := Lib.hid hp; have HT := Lib.hid hT; have HC := Lib.hid hC
  clear hp hT hC
  go_enter Tryz.func9, Tryz.ntmps9
  go_wp2_with fail
  refine Hp.out.mono ?_
  rintro e w1 ⟨f, v, rfl, hq, hb1⟩
  dsimp only at hq ⊢
  replace hq : QAt f M0 w1 v exQ := hq.sub fun b _ h => h.elim
  have hq0 := hq
  obtain ⟨A, c, rfl, _, _, _, hs⟩ := hq
  rw [show exQ.kind = 7 from rfl, show bs exQ.text = ⟨#[]⟩ from rfl, show exQ.num = 0 from rfl, show exQ.parts.length = 2 from rfl] at hq0 ⊢
  replace hs : SlR (qF f) M0 w1 (.slice A 2 c) [.node 2 [97] 0 [], .node 6 [] 0 [.node 2 [98] 0 [], .node 8 [] 0 [.node 2 [99] 0 []]]] := hs
  obtain ⟨W, g, hW, hg, hsz, kQ, kF, hal⟩ := boxPair w1 #[.int .i64 7, .string ⟨#[]⟩, .int .i64 0, .slice A 2 c] 24 #[.int .i64 0, .int .i64 0] 26
  have hb01 := hb1.trans (hal.mono hb1.size)
  have hpr := print_ok f exQ _ W (hq0.ext hal) ex_bulk (HT.out.ext hb01) (HC.out.ext hb01)
  rw [ex_print] at hpr
  dsimp only at hpr
  obtain ⟨q0, q1, q2, q3, _⟩ := kQ.four
  have HW := Lib.hid hW; have Hpr := Lib.hid hpr; have Hb01 := Lib.hid hb01; have KQ := Lib.hid kQ; have KF := Lib.hid kF; have Hs := Lib.hid (hs.ext hal)
  rw [← hW] at q0 q1 q2 q3
  clear hW hsz kQ kF hal hb1 hb01 hpr hs hq0
  go_wp2_with fail
  rw [HW.out] at q0 q1 q2 q3 ⊢
  refine Hpr.out.mono ?_
  rintro e w2 ⟨rfl, hb2⟩
  obtain ⟨W2, g2, hW2, hg2, hs2, kF2, hal2⟩ := boxA w2 #[.int .i64 0, .int .i64 0] 26
  have hbW := hb2.trans (hal2.mono hb2.size)
  have hb02 := Hb01.out.trans (hbW.mono Hb01.out.size)
  obtain ⟨b, off, e2, A2, c2, rfl, _, _, _, s0, _, _, _, _⟩ := (Hs.out.ext hbW).qAt (k := 1) (by simp)
  simp only [List.getElem_cons_succ, List.getElem_cons_zero, Q.kind_node, Nat.one_mul] at s0
  have kQ2 := KQ.out.ext hbW; have kF3 := KF.out.ext hbW
  clear q0 q1 q2 q3
  obtain ⟨q0, q1, q2, q3, _⟩ := kQ2.four
  obtain ⟨f0, f1, _⟩ := kF3.two
  obtain ⟨z0, z1, _⟩ := kF2.two
  have hval := qvalidate_ok 0 (.node 0 [] 0 []) _ W2 (QAt.zero W2 M0) (by simp [Q.bulk, Q.bulks]) (HT.out.ext hb02)
  rw [ex_none] at hval
  dsimp only at hval
  have Hval := Lib.hid hval; have Hb02 := Lib.hid hb02; have HW2 := Lib.hid hW2
  clear hval hb02 hbW hal2 hb2 kQ2 kF3 kF2 hs2 Hs
  rw [← hW2] at q0 q1 q2 q3 f0 f1 z0 z1 s0
  rw [← hg2] at z0 z1
  clear hW2
  go_wp2_with fail
  rw [HW2.out] at q0 q1 q2 q3 f0 f1 z0 z1 s0 ⊢
  refine Hval.out.mono ?_
  rintro e w3 ⟨rfl, hb3⟩
  have hat := at_ok 4 0 w3
  have Hat := Lib.hid hat
  clear hat
  go_wp2_with fail
  refine Hat.out.mono ?_
  rintro e w4 ⟨rfl, hb4⟩
  have hcmp := fun w => run_eq_fault 4 0 4 0 w
  go_wp2_with fail
  go_ret
  have h23 := Hb02.out.trans (hb3.mono Hb02.out.size)
  exact ⟨rfl, h23.trans (hb4.mono h23.size)⟩
end Go.Proofs.YtihhgmpanfboaaaGreatDoor
namespace Go.Proofs.YtihhgmpanfboaaaGreatDoor
open Go.RowKit
theorem eq_fault_same (a b : Int) (w : World) : (binOp .eql 26 (.agg #[.int .i64 a, .int .i64 b]) (.agg #[.int .i64 a, .int .i64 b])).run Tryz.prog w = .ok (.bool true) w := by
  rw [run_eq_fault, beq_self_eq_true]
theorem same_true {f fb : Nat} {a b : Q} {va vb : Value} {w : World} (ha : QAt f M0 w va a) (hb : QAt fb M0 w vb b) (h : a = b) : Calls Tryz.prog 15 #[va, vb] w fun e w' => e = .returned (.bool true) ∧ Below w.heap.size w w' :=
  (same_ok f a b va vb fb w ha hb).mono fun e w' ⟨r, he, hr, hbl⟩ => ⟨by rw [he, hr.2 h], hbl⟩
end Go.Proofs.YtihhgmpanfboaaaGreatDoor
