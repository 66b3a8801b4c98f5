/-
  The reference's Shown.
-/
import Derived.Test.YtclobnojpmgmaaaThQ1
import Derived.Test.YtclobnojpmgmaaaThU
import Derived.Test.YtclobnojpmgmaaaHeldD
import Derived.Deep.CutBlock
import Derived.Deep.DeepCutAuto
namespace Go.Proofs.Ytclobnojpmgmaaa
open Go.RowKit
set_option linter.unusedVariables false
section
variable {P : Program} {ops : Array Oper} {md : Region.Mode} {Q : Exit → Act → World → Prop} {S : World → Prop} {D : Nat → Bool}
theorem anyD_oneG {i fuel : Nat} {o : Oper} {listed : Array Bool} {a : Act} {w : World} (hr : Region.ready md ops listed = [i]) (ho : ops[i]? = some o) (hw : Region.wanted o (yielded ops a.tmps) = true)
    (h : ∀ K : Act → World → Prop, (∀ a w, (D i = false → S w) → anyD P md ops Q S D fuel (listed.setIfInBounds i true) a w → K a w) → o.wp P a w K Q) : anyD P md ops Q S D (fuel + 1) listed a w := by
  refine ⟨fun h0 => absurd (hr ▸ h0) (by simp), fun j hj => ?_⟩
  rw [hr] at hj
  obtain rfl : j = i := by simpa using hj
  unfold wpOp
  rw [ho]
  simp only [hw, if_true]
  exact .inl (h _ fun a w h1 h2 => ⟨h1, h2⟩)
end
theorem TIntsS : SlT Try.prog 1 23 3 8 := SlT.mk' Try.underlying23 (by kernel_rfl : (Try.prog.info? 3).map (fun i => (i.zero, i.size, i.bytes)) = some (some (.int .i64 0), 1, 8)) rfl
def DeepS (l : List Letter) (p : Int) (n : Nat) : Prop := (p < 0 ∧ l.length < n) ∨ ∃ j : Nat, p = j ∧ j < l.length ∧ Th.rank l j < n
theorem DeepS.kid {l : List Letter} (hd : Distinct l) {p : Int} {n k : Nat} (h : DeepS l p (n + 1)) (hk : k ∈ Th.kidsS l p) : DeepS l (k : Int) n := by
  have hkl := kidsS_lt' hk
  refine .inr ⟨k, rfl, hkl, ?_⟩
  rcases h with ⟨_, h⟩ | ⟨j, rfl, hj, h⟩
  · have h1 : Th.rank l k < l.length := by
      refine Nat.lt_of_lt_of_le (Th.cnt_lt _ (fun _ => true) _ (fun _ _ _ => rfl) ⟨k, List.mem_range.2 hkl, ?_, rfl⟩) (Nat.le_trans (List.length_filter_le _ _) (by simp))
      unfold Th.later
      rw [List.getElem?_eq_getElem hkl]
      exact Th.earlier_irrefl _
    omega
  · obtain ⟨_, _, he⟩ := kid_later hd j k ((kidsS_mem l j k).1 hk)
    have := Th.rank_lt l j k hj hkl he
    omega
theorem DeepS.place {l : List Letter} {p : Int} {n : Nat} (h : DeepS l p n) : p < 0 ∨ ∃ k : Nat, p = k ∧ k < l.length := h.elim (fun h => .inl h.1) fun ⟨j, h1, h2, _⟩ => .inr ⟨j, h1, h2⟩
theorem nextStep_eq {l : List Letter} {p la nx : Int} {i : Nat} (hi : i < l.length) : nextStep l p la nx i = if (Th.parentOf l l[i] == p) && ((decide (la < 0) || Th.later l la.toNat i) && (decide (nx < 0) || Th.later l i nx.toNat)) then (i : Int) else nx := by
  unfold nextStep candB Th.parentsF
  rw [List.getElem?_map, List.getElem?_eq_getElem hi, Option.map_some, Bool.and_assoc]
  rfl
theorem nextTo_bound {l : List Letter} (p la : Int) : ∀ i, i ≤ l.length → nextTo l p la i < 0 ∨ ∃ c : Nat, nextTo l p la i = c ∧ c < l.length
  | 0, _ => .inl (by simp [nextTo])
  | i + 1, hi => by
    rw [nextTo]
    unfold nextStep
    split
    · exact .inr ⟨i, rfl, by omega⟩
    · exact nextTo_bound p la i (by omega)
theorem lastK_bound {l : List Letter} {p : Int} {j : Nat} (hj : j ≤ (Th.kidsS l p).length) : lastK l p j < 0 ∨ ∃ c : Nat, lastK l p j = c ∧ c < l.length := by
  unfold lastK
  by_cases h : j = 0
  · rw [if_pos h]; left; omega
  · rw [if_neg h, List.getElem?_eq_getElem (by omega)]
    exact .inr ⟨_, rfl, kidsS_lt' (List.getElem_mem _)⟩
theorem lastK_succ {l : List Letter} {p : Int} {j : Nat} (hj : j < (Th.kidsS l p).length) : lastK l p (j + 1) = ((Th.kidsS l p)[j] : Int) := by
  unfold lastK
  rw [if_neg (by omega), Nat.add_sub_cancel, List.getElem?_eq_getElem hj]
  rfl
theorem shownTo_le (l : List Letter) (p d : Int) (j : Nat) : (shownTo l p d j).length ≤ (shownTo l p d (Th.kidsS l p).length).length := by
  unfold shownTo
  rw [List.take_length]
  conv => rhs; rw [← List.take_append_drop j (Th.kidsS l p), List.flatMap_append, List.length_append]
  exact Nat.le_add_right _ _
def lenOf : Value → Nat
  | .slice _ n _ => n
  | _ => 0
theorem Own.other {w w' : World} {B : Nat} {e : TypeId} {v u : Value} {l : List Int} (h : Own intC M0 w B e v l) (hg : w.grownBy w' u.ownBlock) (ha : ∀ b, v.ownBlock = some b → u.ownBlock ≠ some b) : Own intC M0 w' B e v l :=
  h.flatI fun b hb => hg.block b (h.lt b hb) fun e => ha b hb e.symm
theorem shown_facts {l : List Letter} (hd : Distinct l) {pp : Int} {n : Nat} (hdp : DeepS l pp (n + 1)) (d : Int) : ∃ K : List Nat,
    (∀ j, j ≤ K.length → nextTo l pp (lastK l pp j) l.length = if h : j < K.length then (K[j] : Int) else -1) ∧
    (∀ (j : Nat) (hj : j < K.length), shownTo l pp d (j + 1) = shownTo l pp d j ++ (K[j], d) :: Th.shownA l (K[j] : Int) (d + 1)) ∧
    (∀ j, (shownTo l pp d j).length ≤ (Th.shownA l pp d).length) ∧ shownTo l pp d K.length = Th.shownA l pp d ∧
    (∀ j, j ≤ K.length → lastK l pp j < 0 ∨ ∃ c : Nat, lastK l pp j = c ∧ c < l.length) ∧
    (∀ (j : Nat) (hj : j < K.length), lastK l pp (j + 1) = (K[j] : Int)) ∧
    (∀ k ∈ K, DeepS l (k : Int) n) ∧ (∀ k ∈ K, k < l.length) := by
  have hall := shownTo_all hd pp d hdp.place
  exact ⟨Th.kidsS l pp, fun j hj => nextTo_all hd pp j hj, fun j hj => shownTo_succ l pp d j hj, fun j => by rw [← hall]; exact shownTo_le l pp d j, hall, fun j hj => lastK_bound hj, fun j hj => lastK_succ hj, fun k hk => hdp.kid hd hk, fun k hk => kidsS_lt' hk⟩
/-- an ending of two rows -/
def TwoRows (B : Nat) (w : World) (L1 L2 : List Int) (e : Ending) (w' : World) : Prop := ∃ (A1 : Option Addr) (c1 : Nat) (M1 : List Int) (A2 : Option Addr) (c2 : Nat) (M2 : List Int), e = .returned (.tuple #[.slice A1 M1.length c1, .slice A2 M2.length c2]) ∧ Hid (M1 = L1) ∧ Hid (M2 = L2) ∧
  Own intC M0 w' B 3 (.slice A1 M1.length c1) M1 ∧ Own intC M0 w' B 3 (.slice A2 M2.length c2) M2 ∧ (∀ b, (Value.slice A1 M1.length c1).ownBlock = some b → (Value.slice A2 M2.length c2).ownBlock ≠ some b) ∧ Below w.heap.size w w'
set_option maxRecDepth 30000 in
set_option maxHeartbeats 8000000 in
theorem refShown_ok (l : List Letter) (h0 : (Th.lettersF l).1 = 0) (A : Option Addr) (c : Nat) : ∀ (n : Nat) (pp d : Int) (w : World), DeepS l pp n → -1 ≤ pp → 0 ≤ d → d + n ≤ 9000000 → (Th.shownA l pp d).length ≤ 1000000 → SlR letterC M0 w (.slice A l.length c) l →
    Calls Try.prog 13 #[.slice A l.length c, .int .i64 pp, .int .i64 d] w (TwoRows w.heap.size w ((Th.shownA l pp d).map fun x => (x.1 : Int)) ((Th.shownA l pp d).map fun x => x.2)) := by
  have hd := distinct_of h0
  have hn : l.length ≤ 4000000 := by have := short_of h0; omega
  have Hd := Lib.hid hd
  clear hd
  intro n
  induction n with
  | zero =>
    intro pp d w hdp
    rcases hdp with ⟨_, h⟩ | ⟨_, _, _, h⟩ <;> omega
  | succ n ih =>
    intro pp d w hdp hp1 hd0 hdn hsz hs0
    obtain ⟨K, hto, hstp, hle, hall, hlk, hls, hkid, hkl⟩ := shown_facts Hd.out hdp d
    obtain ⟨X, hX⟩ : ∃ X, Th.shownA l pp d = X := ⟨_, rfl⟩
    rw [hX] at hall hle hsz ⊢
    have Ih := Lib.hid ih; have Hall := Lib.hid hall; have Hto := Lib.hid hto; have Hstp := Lib.hid hstp; have Hle := Lib.hid hle; have Hlk := Lib.hid hlk; have Hls := Lib.hid hls; have Hkid := Lib.hid hkid; have Hkl := Lib.hid hkl
    clear ih hall hto hstp hle hlk hls hkid hkl hX hdp
    have hbw := Below.refl w.heap.size w
    go_enter Try.func13, Try.ntmps13
    go_wp2
    go_loopw [8, 9, 10] (fun v1 v2 lv wr => ∃ (j : Nat) (la : Int) (A1 : Option Addr) (c1 : Nat) (L1 : List Int) (A2 : Option Addr) (c2 : Nat) (L2 : List Int), j ≤ K.length ∧ lv = .int .i64 la ∧ Hid (la = lastK l pp j) ∧ v1 = .slice A1 L1.length c1 ∧ v2 = .slice A2 L2.length c2 ∧
      Hid (L1 = (shownTo l pp d j).map fun x => (x.1 : Int)) ∧ Hid (L2 = (shownTo l pp d j).map fun x => x.2) ∧ Own intC M0 wr w.heap.size 3 v1 L1 ∧ Own intC M0 wr w.heap.size 3 v2 L2 ∧ (∀ b, v1.ownBlock = some b → v2.ownBlock ≠ some b) ∧ Below w.heap.size w wr) (fun v1 _ _ _ => X.length + 1 - lenOf v1)
    case atStart => exact ⟨0, -1, none, 0, [], none, 0, [], Nat.zero_le _, rfl, Lib.hid rfl, rfl, rfl, Lib.hid rfl, Lib.hid rfl, Own.nil _ _ _ _ _, Own.nil _ _ _ _ _, fun b h => (by cases h), hbw⟩
    case round =>
      obtain ⟨j, la, A1, c1, L1, A2, c2, L2, hj, rfl, hlaH, rfl, rfl, hL1, hL2, o1, o2, hap, hbr0⟩ := hrel
      clear hbw
      have hs := hs0.ext hbr0
      have hla := Hlk.out j hj
      have hto := Hto.out j hj
      rw [← hlaH.out] at hla hto
      have Hto2 := Lib.hid hto
      obtain ⟨wo, rfl⟩ : ∃ wo : World, wo = wr := ⟨_, rfl⟩
      have hbr := Below.refl wo.heap.size wo
      have Hap := Lib.hid hap
      clear hto hap
      go_wp2
      go_loopw [11, 12] (fun nv iv wz => ∃ (i : Nat) (nx : Int), i ≤ l.length ∧ nv = .int .i64 nx ∧ iv = .int .i64 (i : Int) ∧ Hid (nx = nextTo l pp la i) ∧ Below wo.heap.size wo wz) (fun _ iv _ => l.length - (intOf iv).toNat)
      case atStart => exact ⟨0, -1, Nat.zero_le _, rfl, rfl, Lib.hid rfl, hbr⟩

      case round =>
        obtain ⟨i, nx, hi, rfl, rfl, hnx, hbz⟩ := hrel
        clear hbr
        by_cases hlt : i < l.length
        · obtain ⟨bb, off, A2, c2, rfl, _, _, p0, p1, p2, _, _, _, _⟩ := (hs.ext hbz).letterAt hlt
          have hil : (i : Int) < (l.length : Int) := by omega
          have hi0 : (0 : Int) ≤ (i : Int) := by omega
          have hiw : IntKind.i64.wrap (i : Int) = (i : Int) := IntWalk.i64_in _ (by omega)
          have hpc := fun W (hb : Below wr.heap.size wr W) => refParent_ok _ l i W ((hs.ext hbz).ext hb) hn hlt
          rw [refParent_eq h0] at hpc
          have hst : nextTo l pp la (i + 1) = nextStep l pp la nx i := by rw [nextTo, hnx.out]
          rw [nextStep_eq hlt] at hst
          obtain ⟨x, hx⟩ : ∃ x, l[i] = x := ⟨_, rfl⟩
          have he1 : ∀ a (ha : a < l.length) va vb W, Calls Try.prog 24 #[letV l[a] va, letV x vb] W fun e w' => e = .returned (.bool (Th.later l a i)) ∧ Below W.heap.size W w' := fun a ha va vb W => by rw [later_eq ha hlt, hx]; exact earlier_ok _ _ _ _ _
          have he2 : ∀ a (ha : a < l.length) va vb W, Calls Try.prog 24 #[letV x va, letV l[a] vb] W fun e w' => e = .returned (.bool (Th.later l i a)) ∧ Below W.heap.size W w' := fun a ha va vb W => by rw [later_eq hlt ha, hx]; exact earlier_ok _ _ _ _ _
          rw [hx] at p0 p1 p2 hpc hst
          obtain ⟨q, hq⟩ : ∃ q, Th.parentOf l x = q := ⟨_, rfl⟩
          rw [hq] at hpc hst
          obtain ⟨tt, htt⟩ : ∃ t, ((q == pp) && ((decide (la < 0) || Th.later l la.toNat i) && (decide (nx < 0) || Th.later l i nx.toNat))) = t := ⟨_, rfl⟩
          rw [htt] at hst
          have Hpc := Lib.hid hpc; have He1 := Lib.hid he1; have He2 := Lib.hid he2; have Htt := Lib.hid htt; have Hst := Lib.hid hst
          have hnb := nextTo_bound pp la i hi
          rw [← hnx.out] at hnb
          obtain ⟨xi, xr, xt⟩ := x
          dsimp only at p0 p1 p2
          clear hpc he1 he2 hq hnx htt hst
          go_upto_region 8 with fail
          go_cut [55] (fun v wc => v = .bool tt ∧ Below wr.heap.size wr wc)
          case first =>
            by_cases hqp : q = pp
            · have hqb : (q == pp) = true := by simpa using hqp
              have hqd : (decide (q = pp)) = true := by simpa using hqp
              have htt := Htt.out
              rw [hqb, Bool.true_and] at htt
              clear hqp hx
              rcases hla with hla | ⟨a, rfl, hal⟩
              · have hlb : decide (la < 0) = true := decide_eq_true hla
                rw [hlb, Bool.true_or, Bool.true_and] at htt
                rcases hnb with hnb | ⟨cn, rfl, hcl⟩
                · have hnbb : decide (nx < 0) = true := decide_eq_true hnb
                  rw [hnbb, Bool.true_or] at htt
                  subst htt
                  have hSS : ∀ W, Below wr.heap.size wr W → W.cell? ⟨bb, off + i * 3, none⟩ = some (.string (bs xi)) ∧ W.cell? ⟨bb, off + i * 3 + 1, none⟩ = some (.slice A2 xr.length c2) ∧ W.cell? ⟨bb, off + i * 3 + 2, none⟩ = some (.int .i64 xt) := fun W hW => ⟨cell_ext hW p0, cell_ext hW p1, cell_ext hW p2⟩
                  have HS := Lib.hid hSS
                  have hS := HS.out _ (below_drewN' wr.heap.size wr 1)
                  clear hSS
                  refine wp_region_D (fun W => W.cell? ⟨bb, off + i * 3, none⟩ = some (.string (bs xi)) ∧ W.cell? ⟨bb, off + i * 3 + 1, none⟩ = some (.slice A2 xr.length c2) ∧ W.cell? ⟨bb, off + i * 3 + 2, none⟩ = some (.int .i64 xt)) (fun _ => false) (by kernel_rfl) ?_
                  refine anyD_light (i := 0) (v := .slice (some ⟨bb, off, none⟩) l.length c) rfl (by kernel_rfl) (by kernel_rfl) (by kernel_rfl) (by kernel_rfl) (by kernel_rfl) (fun _ _ _ h => h) (.inl ⟨by kernel_rfl, fun W' hW' => by go_simp⟩) hS ?_
                  refine anyD_light (i := 1) (v := .int .i64 (i : Int)) rfl (by kernel_rfl) (by kernel_rfl) (by kernel_rfl) (by kernel_rfl) (by kernel_rfl) (fun _ _ _ h => h) (.inl ⟨by kernel_rfl, fun W' hW' => by go_simp⟩) hS ?_
                  refine anyD_light (i := 3) (v := .int .i64 pp) rfl (by kernel_rfl) (by kernel_rfl) (by kernel_rfl) (by kernel_rfl) (by kernel_rfl) (fun _ _ _ h => h) (.inl ⟨by kernel_rfl, fun W' hW' => by go_simp⟩) hS ?_
                  go_simp
                  refine anyD_one (i := 2) (by kernel_rfl) rfl rfl (fun K hK => ?_)
                  have HK := Lib.hid hK
                  clear hK
                  unfold Oper.wp
                  go_simp
                  refine (Hpc.out _ (below_drewN' wr.heap.size wr 1)).mono ?_
                  rintro e w2 ⟨rfl, hb2⟩
                  have hb12 : Below wr.heap.size wr w2 := Below.trans (below_drewN' wr.heap.size wr 1) hb2
                  clear hS
                  have hS := HS.out _ hb12
                  refine HK.out _ _ (fun _ => hS) ?_
                  clear HK
                  refine anyD_light (i := 4) (v := .bool true) rfl (by kernel_rfl) (by kernel_rfl) (by kernel_rfl) (by kernel_rfl) (by kernel_rfl) (fun _ _ _ h => h) (.inl ⟨by kernel_rfl, fun W' hW' => by go_simp⟩) hS ?_
                  refine anyD_light (i := 5) (v := .bool true) rfl (by kernel_rfl) (by kernel_rfl) (by kernel_rfl) (by kernel_rfl) (by kernel_rfl) (fun _ _ _ h => h) (.inl ⟨by kernel_rfl, fun W' hW' => by go_simp⟩) hS ?_
                  refine anyD_light (i := 6) (v := .int .i64 la) rfl (by kernel_rfl) (by kernel_rfl) (by kernel_rfl) (by kernel_rfl) (by kernel_rfl) (fun _ _ _ h => h) (.inl ⟨by kernel_rfl, fun W' hW' => by go_simp⟩) hS ?_
                  refine anyD_light (i := 7) (v := .bool true) rfl (by kernel_rfl) (by kernel_rfl) (by kernel_rfl) (by kernel_rfl) (by kernel_rfl) (fun _ _ _ h => h) (.inl ⟨by kernel_rfl, fun W' hW' => by go_simp⟩) hS ?_
                  refine anyD_light (i := 8) (v := .bool true) rfl (by kernel_rfl) (by kernel_rfl) (by kernel_rfl) (by kernel_rfl) (by kernel_rfl) (fun _ _ _ h => h) (.inl ⟨by kernel_rfl, fun W' hW' => by go_simp⟩) hS ?_
                  go_simp
                  refine anyD_light (i := 9) (v := undef) rfl (by kernel_rfl) (by kernel_rfl) (by kernel_rfl) (by kernel_rfl) (by kernel_rfl) (fun _ _ _ h => h) (.inr ⟨by kernel_rfl, rfl⟩) hS ?_
                  go_simp
                  refine anyD_light (i := 10) (v := undef) rfl (by kernel_rfl) (by kernel_rfl) (by kernel_rfl) (by kernel_rfl) (by kernel_rfl) (fun _ _ _ h => h) (.inr ⟨by kernel_rfl, rfl⟩) hS ?_
                  go_simp
                  refine anyD_light (i := 11) (v := undef) rfl (by kernel_rfl) (by kernel_rfl) (by kernel_rfl) (by kernel_rfl) (by kernel_rfl) (fun _ _ _ h => h) (.inr ⟨by kernel_rfl, rfl⟩) hS ?_
                  go_simp
                  refine anyD_light (i := 12) (v := undef) rfl (by kernel_rfl) (by kernel_rfl) (by kernel_rfl) (by kernel_rfl) (by kernel_rfl) (fun _ _ _ h => h) (.inr ⟨by kernel_rfl, rfl⟩) hS ?_
                  go_simp
                  refine anyD_light (i := 13) (v := undef) rfl (by kernel_rfl) (by kernel_rfl) (by kernel_rfl) (by kernel_rfl) (by kernel_rfl) (fun _ _ _ h => h) (.inr ⟨by kernel_rfl, rfl⟩) hS ?_
                  go_simp
                  refine anyD_light (i := 14) (v := undef) rfl (by kernel_rfl) (by kernel_rfl) (by kernel_rfl) (by kernel_rfl) (by kernel_rfl) (fun _ _ _ h => h) (.inr ⟨by kernel_rfl, rfl⟩) hS ?_
                  go_simp
                  refine anyD_light (i := 15) (v := undef) rfl (by kernel_rfl) (by kernel_rfl) (by kernel_rfl) (by kernel_rfl) (by kernel_rfl) (fun _ _ _ h => h) (.inr ⟨by kernel_rfl, rfl⟩) hS ?_
                  go_simp
                  refine anyD_light (i := 16) (v := undef) rfl (by kernel_rfl) (by kernel_rfl) (by kernel_rfl) (by kernel_rfl) (by kernel_rfl) (fun _ _ _ h => h) (.inr ⟨by kernel_rfl, rfl⟩) hS ?_
                  go_simp
                  refine anyD_light (i := 17) (v := undef) rfl (by kernel_rfl) (by kernel_rfl) (by kernel_rfl) (by kernel_rfl) (by kernel_rfl) (fun _ _ _ h => h) (.inr ⟨by kernel_rfl, rfl⟩) hS ?_
                  refine anyD_light (i := 18) (v := .bool true) rfl (by kernel_rfl) (by kernel_rfl) (by kernel_rfl) (by kernel_rfl) (by kernel_rfl) (fun _ _ _ h => h) (.inl ⟨by kernel_rfl, fun W' hW' => by go_simp⟩) hS ?_
                  refine anyD_light (i := 19) (v := .bool true) rfl (by kernel_rfl) (by kernel_rfl) (by kernel_rfl) (by kernel_rfl) (by kernel_rfl) (fun _ _ _ h => h) (.inl ⟨by kernel_rfl, fun W' hW' => by go_simp⟩) hS ?_
                  refine anyD_light (i := 20) (v := .bool true) rfl (by kernel_rfl) (by kernel_rfl) (by kernel_rfl) (by kernel_rfl) (by kernel_rfl) (fun _ _ _ h => h) (.inl ⟨by kernel_rfl, fun W' hW' => by go_simp⟩) hS ?_
                  refine anyD_light (i := 21) (v := .int .i64 nx) rfl (by kernel_rfl) (by kernel_rfl) (by kernel_rfl) (by kernel_rfl) (by kernel_rfl) (fun _ _ _ h => h) (.inl ⟨by kernel_rfl, fun W' hW' => by go_simp⟩) hS ?_
                  refine anyD_light (i := 22) (v := .bool true) rfl (by kernel_rfl) (by kernel_rfl) (by kernel_rfl) (by kernel_rfl) (by kernel_rfl) (fun _ _ _ h => h) (.inl ⟨by kernel_rfl, fun W' hW' => by go_simp⟩) hS ?_
                  refine anyD_light (i := 23) (v := .bool true) rfl (by kernel_rfl) (by kernel_rfl) (by kernel_rfl) (by kernel_rfl) (by kernel_rfl) (fun _ _ _ h => h) (.inl ⟨by kernel_rfl, fun W' hW' => by go_simp⟩) hS ?_
                  go_simp
                  refine anyD_light (i := 24) (v := undef) rfl (by kernel_rfl) (by kernel_rfl) (by kernel_rfl) (by kernel_rfl) (by kernel_rfl) (fun _ _ _ h => h) (.inr ⟨by kernel_rfl, rfl⟩) hS ?_
                  go_simp
                  refine anyD_light (i := 25) (v := undef) rfl (by kernel_rfl) (by kernel_rfl) (by kernel_rfl) (by kernel_rfl) (by kernel_rfl) (fun _ _ _ h => h) (.inr ⟨by kernel_rfl, rfl⟩) hS ?_
                  go_simp
                  refine anyD_light (i := 26) (v := undef) rfl (by kernel_rfl) (by kernel_rfl) (by kernel_rfl) (by kernel_rfl) (by kernel_rfl) (fun _ _ _ h => h) (.inr ⟨by kernel_rfl, rfl⟩) hS ?_
                  go_simp
                  refine anyD_light (i := 27) (v := undef) rfl (by kernel_rfl) (by kernel_rfl) (by kernel_rfl) (by kernel_rfl) (by kernel_rfl) (fun _ _ _ h => h) (.inr ⟨by kernel_rfl, rfl⟩) hS ?_
                  go_simp
                  refine anyD_light (i := 28) (v := undef) rfl (by kernel_rfl) (by kernel_rfl) (by kernel_rfl) (by kernel_rfl) (by kernel_rfl) (fun _ _ _ h => h) (.inr ⟨by kernel_rfl, rfl⟩) hS ?_
                  go_simp
                  refine anyD_light (i := 29) (v := undef) rfl (by kernel_rfl) (by kernel_rfl) (by kernel_rfl) (by kernel_rfl) (by kernel_rfl) (fun _ _ _ h => h) (.inr ⟨by kernel_rfl, rfl⟩) hS ?_
                  go_simp
                  refine anyD_light (i := 30) (v := undef) rfl (by kernel_rfl) (by kernel_rfl) (by kernel_rfl) (by kernel_rfl) (by kernel_rfl) (fun _ _ _ h => h) (.inr ⟨by kernel_rfl, rfl⟩) hS ?_
                  go_simp
                  refine anyD_light (i := 31) (v := undef) rfl (by kernel_rfl) (by kernel_rfl) (by kernel_rfl) (by kernel_rfl) (by kernel_rfl) (fun _ _ _ h => h) (.inr ⟨by kernel_rfl, rfl⟩) hS ?_
                  go_simp
                  refine anyD_light (i := 32) (v := undef) rfl (by kernel_rfl) (by kernel_rfl) (by kernel_rfl) (by kernel_rfl) (by kernel_rfl) (fun _ _ _ h => h) (.inr ⟨by kernel_rfl, rfl⟩) hS ?_
                  refine anyD_light (i := 33) (v := .bool true) rfl (by kernel_rfl) (by kernel_rfl) (by kernel_rfl) (by kernel_rfl) (by kernel_rfl) (fun _ _ _ h => h) (.inl ⟨by kernel_rfl, fun W' hW' => by go_simp⟩) hS ?_
                  refine anyD_light (i := 34) (v := .bool true) rfl (by kernel_rfl) (by kernel_rfl) (by kernel_rfl) (by kernel_rfl) (by kernel_rfl) (fun _ _ _ h => h) (.inl ⟨by kernel_rfl, fun W' hW' => by go_simp⟩) hS ?_
                  go_simp
                  refine anyD_done (by kernel_rfl) ?_ _
                  go_simp
                  go_wp2_with fail
                  go_meet
                  case rel => exact ⟨rfl, hb12⟩
                · have hnbb : decide ((cn : Int) < 0) = false := by simp
                  rw [hnbb, Bool.false_or, Int.toNat_natCast] at htt
                  obtain ⟨bb2, off2, A4, c4, hA, _, _, s0, s1, s2, _, _, _, _⟩ := (hs.ext hbz).letterAt hcl
                  injection hA with hA
                  injection hA with hA1 hA2
                  subst hA1 hA2
                  have e2 := fun W => He2.out cn hcl (.slice A2 xr.length c2) (.slice A4 l[cn].2.1.length c4) W
                  obtain ⟨z, hz⟩ : ∃ z, l[cn] = z := ⟨_, rfl⟩
                  rw [hz] at s0 s1 s2 e2
                  obtain ⟨t2, ht2⟩ : ∃ t, Th.later l i cn = t := ⟨_, rfl⟩
                  rw [ht2] at e2 htt
                  subst htt
                  obtain ⟨zi, zr, zt⟩ := z
                  unfold letV at e2
                  dsimp only at s0 s1 s2 e2
                  have HE2 := Lib.hid e2
                  have hcl' : (cn : Int) < (l.length : Int) := by omega
                  have hcw : IntKind.i64.wrap (cn : Int) = (cn : Int) := IntWalk.i64_in _ (by omega)
                  clear e2 hz ht2
                  have hSS : ∀ W, Below wr.heap.size wr W → W.cell? ⟨bb, off + i * 3, none⟩ = some (.string (bs xi)) ∧ W.cell? ⟨bb, off + i * 3 + 1, none⟩ = some (.slice A2 xr.length c2) ∧ W.cell? ⟨bb, off + i * 3 + 2, none⟩ = some (.int .i64 xt) ∧ W.cell? ⟨bb, off + cn * 3, none⟩ = some (.string (bs zi)) ∧ W.cell? ⟨bb, off + cn * 3 + 1, none⟩ = some (.slice A4 zr.length c4) ∧ W.cell? ⟨bb, off + cn * 3 + 2, none⟩ = some (.int .i64 zt) := fun W hW => ⟨cell_ext hW p0, cell_ext hW p1, cell_ext hW p2, cell_ext hW s0, cell_ext hW s1, cell_ext hW s2⟩
                  have HS := Lib.hid hSS
                  have hS := HS.out _ (below_drewN' wr.heap.size wr 1)
                  clear hSS
                  refine wp_region_D (fun W => W.cell? ⟨bb, off + i * 3, none⟩ = some (.string (bs xi)) ∧ W.cell? ⟨bb, off + i * 3 + 1, none⟩ = some (.slice A2 xr.length c2) ∧ W.cell? ⟨bb, off + i * 3 + 2, none⟩ = some (.int .i64 xt) ∧ W.cell? ⟨bb, off + cn * 3, none⟩ = some (.string (bs zi)) ∧ W.cell? ⟨bb, off + cn * 3 + 1, none⟩ = some (.slice A4 zr.length c4) ∧ W.cell? ⟨bb, off + cn * 3 + 2, none⟩ = some (.int .i64 zt)) (fun _ => false) (by kernel_rfl) ?_
                  refine anyD_light (i := 0) (v := .slice (some ⟨bb, off, none⟩) l.length c) rfl (by kernel_rfl) (by kernel_rfl) (by kernel_rfl) (by kernel_rfl) (by kernel_rfl) (fun _ _ _ h => h) (.inl ⟨by kernel_rfl, fun W' hW' => by go_simp⟩) hS ?_
                  refine anyD_light (i := 1) (v := .int .i64 (i : Int)) rfl (by kernel_rfl) (by kernel_rfl) (by kernel_rfl) (by kernel_rfl) (by kernel_rfl) (fun _ _ _ h => h) (.inl ⟨by kernel_rfl, fun W' hW' => by go_simp⟩) hS ?_
                  refine anyD_light (i := 3) (v := .int .i64 pp) rfl (by kernel_rfl) (by kernel_rfl) (by kernel_rfl) (by kernel_rfl) (by kernel_rfl) (fun _ _ _ h => h) (.inl ⟨by kernel_rfl, fun W' hW' => by go_simp⟩) hS ?_
                  go_simp
                  refine anyD_one (i := 2) (by kernel_rfl) rfl rfl (fun K hK => ?_)
                  have HK := Lib.hid hK
                  clear hK
                  unfold Oper.wp
                  go_simp
                  refine (Hpc.out _ (below_drewN' wr.heap.size wr 1)).mono ?_
                  rintro e w2 ⟨rfl, hb2⟩
                  have hb12 : Below wr.heap.size wr w2 := Below.trans (below_drewN' wr.heap.size wr 1) hb2
                  clear hS
                  have hS := HS.out _ hb12
                  refine HK.out _ _ (fun _ => hS) ?_
                  clear HK
                  refine anyD_light (i := 4) (v := .bool true) rfl (by kernel_rfl) (by kernel_rfl) (by kernel_rfl) (by kernel_rfl) (by kernel_rfl) (fun _ _ _ h => h) (.inl ⟨by kernel_rfl, fun W' hW' => by go_simp⟩) hS ?_
                  refine anyD_light (i := 5) (v := .bool true) rfl (by kernel_rfl) (by kernel_rfl) (by kernel_rfl) (by kernel_rfl) (by kernel_rfl) (fun _ _ _ h => h) (.inl ⟨by kernel_rfl, fun W' hW' => by go_simp⟩) hS ?_
                  refine anyD_light (i := 6) (v := .int .i64 la) rfl (by kernel_rfl) (by kernel_rfl) (by kernel_rfl) (by kernel_rfl) (by kernel_rfl) (fun _ _ _ h => h) (.inl ⟨by kernel_rfl, fun W' hW' => by go_simp⟩) hS ?_
                  refine anyD_light (i := 7) (v := .bool true) rfl (by kernel_rfl) (by kernel_rfl) (by kernel_rfl) (by kernel_rfl) (by kernel_rfl) (fun _ _ _ h => h) (.inl ⟨by kernel_rfl, fun W' hW' => by go_simp⟩) hS ?_
                  refine anyD_light (i := 8) (v := .bool true) rfl (by kernel_rfl) (by kernel_rfl) (by kernel_rfl) (by kernel_rfl) (by kernel_rfl) (fun _ _ _ h => h) (.inl ⟨by kernel_rfl, fun W' hW' => by go_simp⟩) hS ?_
                  go_simp
                  refine anyD_light (i := 9) (v := undef) rfl (by kernel_rfl) (by kernel_rfl) (by kernel_rfl) (by kernel_rfl) (by kernel_rfl) (fun _ _ _ h => h) (.inr ⟨by kernel_rfl, rfl⟩) hS ?_
                  go_simp
                  refine anyD_light (i := 10) (v := undef) rfl (by kernel_rfl) (by kernel_rfl) (by kernel_rfl) (by kernel_rfl) (by kernel_rfl) (fun _ _ _ h => h) (.inr ⟨by kernel_rfl, rfl⟩) hS ?_
                  go_simp
                  refine anyD_light (i := 11) (v := undef) rfl (by kernel_rfl) (by kernel_rfl) (by kernel_rfl) (by kernel_rfl) (by kernel_rfl) (fun _ _ _ h => h) (.inr ⟨by kernel_rfl, rfl⟩) hS ?_
                  go_simp
                  refine anyD_light (i := 12) (v := undef) rfl (by kernel_rfl) (by kernel_rfl) (by kernel_rfl) (by kernel_rfl) (by kernel_rfl) (fun _ _ _ h => h) (.inr ⟨by kernel_rfl, rfl⟩) hS ?_
                  go_simp
                  refine anyD_light (i := 13) (v := undef) rfl (by kernel_rfl) (by kernel_rfl) (by kernel_rfl) (by kernel_rfl) (by kernel_rfl) (fun _ _ _ h => h) (.inr ⟨by kernel_rfl, rfl⟩) hS ?_
                  go_simp
                  refine anyD_light (i := 14) (v := undef) rfl (by kernel_rfl) (by kernel_rfl) (by kernel_rfl) (by kernel_rfl) (by kernel_rfl) (fun _ _ _ h => h) (.inr ⟨by kernel_rfl, rfl⟩) hS ?_
                  go_simp
                  refine anyD_light (i := 15) (v := undef) rfl (by kernel_rfl) (by kernel_rfl) (by kernel_rfl) (by kernel_rfl) (by kernel_rfl) (fun _ _ _ h => h) (.inr ⟨by kernel_rfl, rfl⟩) hS ?_
                  go_simp
                  refine anyD_light (i := 16) (v := undef) rfl (by kernel_rfl) (by kernel_rfl) (by kernel_rfl) (by kernel_rfl) (by kernel_rfl) (fun _ _ _ h => h) (.inr ⟨by kernel_rfl, rfl⟩) hS ?_
                  go_simp
                  refine anyD_light (i := 17) (v := undef) rfl (by kernel_rfl) (by kernel_rfl) (by kernel_rfl) (by kernel_rfl) (by kernel_rfl) (fun _ _ _ h => h) (.inr ⟨by kernel_rfl, rfl⟩) hS ?_
                  refine anyD_light (i := 18) (v := .bool true) rfl (by kernel_rfl) (by kernel_rfl) (by kernel_rfl) (by kernel_rfl) (by kernel_rfl) (fun _ _ _ h => h) (.inl ⟨by kernel_rfl, fun W' hW' => by go_simp⟩) hS ?_
                  refine anyD_light (i := 19) (v := .bool true) rfl (by kernel_rfl) (by kernel_rfl) (by kernel_rfl) (by kernel_rfl) (by kernel_rfl) (fun _ _ _ h => h) (.inl ⟨by kernel_rfl, fun W' hW' => by go_simp⟩) hS ?_
                  refine anyD_light (i := 20) (v := .bool true) rfl (by kernel_rfl) (by kernel_rfl) (by kernel_rfl) (by kernel_rfl) (by kernel_rfl) (fun _ _ _ h => h) (.inl ⟨by kernel_rfl, fun W' hW' => by go_simp⟩) hS ?_
                  refine anyD_light (i := 21) (v := .int .i64 (cn : Int)) rfl (by kernel_rfl) (by kernel_rfl) (by kernel_rfl) (by kernel_rfl) (by kernel_rfl) (fun _ _ _ h => h) (.inl ⟨by kernel_rfl, fun W' hW' => by go_simp⟩) hS ?_
                  refine anyD_light (i := 22) (v := .bool false) rfl (by kernel_rfl) (by kernel_rfl) (by kernel_rfl) (by kernel_rfl) (by kernel_rfl) (fun _ _ _ h => h) (.inl ⟨by kernel_rfl, fun W' hW' => by go_simp⟩) hS ?_
                  refine anyD_light (i := 23) (v := .bool false) rfl (by kernel_rfl) (by kernel_rfl) (by kernel_rfl) (by kernel_rfl) (by kernel_rfl) (fun _ _ _ h => h) (.inl ⟨by kernel_rfl, fun W' hW' => by go_simp⟩) hS ?_
                  refine anyD_light (i := 24) (v := .slice (some ⟨bb, off, none⟩) l.length c) rfl (by kernel_rfl) (by kernel_rfl) (by kernel_rfl) (by kernel_rfl) (by kernel_rfl) (fun _ _ _ h => h) (.inl ⟨by kernel_rfl, fun W' hW' => by go_simp⟩) hS ?_
                  refine anyD_light (i := 25) (v := .int .i64 (i : Int)) rfl (by kernel_rfl) (by kernel_rfl) (by kernel_rfl) (by kernel_rfl) (by kernel_rfl) (fun _ _ _ h => h) (.inl ⟨by kernel_rfl, fun W' hW' => by go_simp⟩) hS ?_
                  refine anyD_light (i := 26) (v := .pointer (some ⟨bb, off + i * 3, none⟩)) rfl (by kernel_rfl) (by kernel_rfl) (by kernel_rfl) (by kernel_rfl) (by kernel_rfl) (fun _ _ _ h => h) (.inl ⟨by kernel_rfl, fun W' hW' => by go_simp⟩) hS ?_
                  refine anyD_light (i := 27) (v := .agg #[.string (bs xi), .slice A2 xr.length c2, .int .i64 xt]) rfl (by kernel_rfl) (by kernel_rfl) (by kernel_rfl) (by kernel_rfl) (by kernel_rfl) (fun _ _ _ h => h) (.inl ⟨by kernel_rfl, fun W' hW' => by obtain ⟨hw0, hw1, hw2, hw3, hw4, hw5⟩ := hW'; go_simp⟩) hS ?_
                  refine anyD_light (i := 28) (v := .slice (some ⟨bb, off, none⟩) l.length c) rfl (by kernel_rfl) (by kernel_rfl) (by kernel_rfl) (by kernel_rfl) (by kernel_rfl) (fun _ _ _ h => h) (.inl ⟨by kernel_rfl, fun W' hW' => by go_simp⟩) hS ?_
                  refine anyD_light (i := 29) (v := .int .i64 (cn : Int)) rfl (by kernel_rfl) (by kernel_rfl) (by kernel_rfl) (by kernel_rfl) (by kernel_rfl) (fun _ _ _ h => h) (.inl ⟨by kernel_rfl, fun W' hW' => by go_simp⟩) hS ?_
                  refine anyD_light (i := 30) (v := .pointer (some ⟨bb, off + cn * 3, none⟩)) rfl (by kernel_rfl) (by kernel_rfl) (by kernel_rfl) (by kernel_rfl) (by kernel_rfl) (fun _ _ _ h => h) (.inl ⟨by kernel_rfl, fun W' hW' => by go_simp⟩) hS ?_
                  refine anyD_light (i := 31) (v := .agg #[.string (bs zi), .slice A4 zr.length c4, .int .i64 zt]) rfl (by kernel_rfl) (by kernel_rfl) (by kernel_rfl) (by kernel_rfl) (by kernel_rfl) (fun _ _ _ h => h) (.inl ⟨by kernel_rfl, fun W' hW' => by obtain ⟨hw0, hw1, hw2, hw3, hw4, hw5⟩ := hW'; go_simp⟩) hS ?_
                  go_simp
                  refine anyD_oneG (i := 32) (by kernel_rfl) rfl rfl (fun K hK => ?_)
                  have HK := Lib.hid hK
                  clear hK
                  unfold Oper.wp
                  go_simp
                  refine (HE2.out _).mono ?_
                  rintro e w3 ⟨rfl, hb3⟩
                  have hb13 : Below wr.heap.size wr w3 := Below.trans hb12 (hb3.mono hb12.size)
                  clear hS
                  have hS := HS.out _ hb13
                  refine HK.out _ _ (fun _ => hS) ?_
                  clear HK
                  refine anyD_light (i := 33) (v := .bool t2) rfl (by kernel_rfl) (by kernel_rfl) (by kernel_rfl) (by kernel_rfl) (by kernel_rfl) (fun _ _ _ h => h) (.inl ⟨by kernel_rfl, fun W' hW' => by go_simp⟩) hS ?_
                  refine anyD_light (i := 34) (v := .bool t2) rfl (by kernel_rfl) (by kernel_rfl) (by kernel_rfl) (by kernel_rfl) (by kernel_rfl) (fun _ _ _ h => h) (.inl ⟨by kernel_rfl, fun W' hW' => by go_simp⟩) hS ?_
                  go_simp
                  refine anyD_done (by kernel_rfl) ?_ _
                  go_simp
                  go_wp2_with fail
                  go_meet
                  case rel => exact ⟨rfl, hb13⟩
              · have hlb : decide ((a : Int) < 0) = false := by simp
                rw [hlb, Bool.false_or, Int.toNat_natCast] at htt
                obtain ⟨bb3, off3, A3, c3, hA, _, _, r0, r1, r2, _, _, _, _⟩ := (hs.ext hbz).letterAt hal
                injection hA with hA
                injection hA with hA1 hA2
                subst hA1 hA2
                have e1 := fun W => He1.out a hal (.slice A3 l[a].2.1.length c3) (.slice A2 xr.length c2) W
                obtain ⟨y, hy⟩ : ∃ y, l[a] = y := ⟨_, rfl⟩
                rw [hy] at r0 r1 r2 e1
                obtain ⟨t1, ht1⟩ : ∃ t, Th.later l a i = t := ⟨_, rfl⟩
                rw [ht1] at e1 htt
                obtain ⟨yi, yr, yt⟩ := y
                unfold letV at e1
                dsimp only at r0 r1 r2 e1
                have HE1 := Lib.hid e1
                have hal' : (a : Int) < (l.length : Int) := by omega
                have haw : IntKind.i64.wrap (a : Int) = (a : Int) := IntWalk.i64_in _ (by omega)
                clear e1 hy ht1
                cases t1 with
                | false =>
                  rw [Bool.false_and] at htt
                  subst htt
                  have hSS : ∀ W, Below wr.heap.size wr W → W.cell? ⟨bb, off + i * 3, none⟩ = some (.string (bs xi)) ∧ W.cell? ⟨bb, off + i * 3 + 1, none⟩ = some (.slice A2 xr.length c2) ∧ W.cell? ⟨bb, off + i * 3 + 2, none⟩ = some (.int .i64 xt) ∧ W.cell? ⟨bb, off + a * 3, none⟩ = some (.string (bs yi)) ∧ W.cell? ⟨bb, off + a * 3 + 1, none⟩ = some (.slice A3 yr.length c3) ∧ W.cell? ⟨bb, off + a * 3 + 2, none⟩ = some (.int .i64 yt) := fun W hW => ⟨cell_ext hW p0, cell_ext hW p1, cell_ext hW p2, cell_ext hW r0, cell_ext hW r1, cell_ext hW r2⟩
                  have HS := Lib.hid hSS
                  have hS := HS.out _ (below_drewN' wr.heap.size wr 1)
                  clear hSS
                  refine wp_region_D (fun W => W.cell? ⟨bb, off + i * 3, none⟩ = some (.string (bs xi)) ∧ W.cell? ⟨bb, off + i * 3 + 1, none⟩ = some (.slice A2 xr.length c2) ∧ W.cell? ⟨bb, off + i * 3 + 2, none⟩ = some (.int .i64 xt) ∧ W.cell? ⟨bb, off + a * 3, none⟩ = some (.string (bs yi)) ∧ W.cell? ⟨bb, off + a * 3 + 1, none⟩ = some (.slice A3 yr.length c3) ∧ W.cell? ⟨bb, off + a * 3 + 2, none⟩ = some (.int .i64 yt)) (fun _ => false) (by kernel_rfl) ?_
                  refine anyD_light (i := 0) (v := .slice (some ⟨bb, off, none⟩) l.length c) rfl (by kernel_rfl) (by kernel_rfl) (by kernel_rfl) (by kernel_rfl) (by kernel_rfl) (fun _ _ _ h => h) (.inl ⟨by kernel_rfl, fun W' hW' => by go_simp⟩) hS ?_
                  refine anyD_light (i := 1) (v := .int .i64 (i : Int)) rfl (by kernel_rfl) (by kernel_rfl) (by kernel_rfl) (by kernel_rfl) (by kernel_rfl) (fun _ _ _ h => h) (.inl ⟨by kernel_rfl, fun W' hW' => by go_simp⟩) hS ?_
                  refine anyD_light (i := 3) (v := .int .i64 pp) rfl (by kernel_rfl) (by kernel_rfl) (by kernel_rfl) (by kernel_rfl) (by kernel_rfl) (fun _ _ _ h => h) (.inl ⟨by kernel_rfl, fun W' hW' => by go_simp⟩) hS ?_
                  go_simp
                  refine anyD_one (i := 2) (by kernel_rfl) rfl rfl (fun K hK => ?_)
                  have HK := Lib.hid hK
                  clear hK
                  unfold Oper.wp
                  go_simp
                  refine (Hpc.out _ (below_drewN' wr.heap.size wr 1)).mono ?_
                  rintro e w2 ⟨rfl, hb2⟩
                  have hb12 : Below wr.heap.size wr w2 := Below.trans (below_drewN' wr.heap.size wr 1) hb2
                  clear hS
                  have hS := HS.out _ hb12
                  refine HK.out _ _ (fun _ => hS) ?_
                  clear HK
                  refine anyD_light (i := 4) (v := .bool true) rfl (by kernel_rfl) (by kernel_rfl) (by kernel_rfl) (by kernel_rfl) (by kernel_rfl) (fun _ _ _ h => h) (.inl ⟨by kernel_rfl, fun W' hW' => by go_simp⟩) hS ?_
                  refine anyD_light (i := 5) (v := .bool true) rfl (by kernel_rfl) (by kernel_rfl) (by kernel_rfl) (by kernel_rfl) (by kernel_rfl) (fun _ _ _ h => h) (.inl ⟨by kernel_rfl, fun W' hW' => by go_simp⟩) hS ?_
                  refine anyD_light (i := 6) (v := .int .i64 (a : Int)) rfl (by kernel_rfl) (by kernel_rfl) (by kernel_rfl) (by kernel_rfl) (by kernel_rfl) (fun _ _ _ h => h) (.inl ⟨by kernel_rfl, fun W' hW' => by go_simp⟩) hS ?_
                  refine anyD_light (i := 7) (v := .bool false) rfl (by kernel_rfl) (by kernel_rfl) (by kernel_rfl) (by kernel_rfl) (by kernel_rfl) (fun _ _ _ h => h) (.inl ⟨by kernel_rfl, fun W' hW' => by go_simp⟩) hS ?_
                  refine anyD_light (i := 8) (v := .bool false) rfl (by kernel_rfl) (by kernel_rfl) (by kernel_rfl) (by kernel_rfl) (by kernel_rfl) (fun _ _ _ h => h) (.inl ⟨by kernel_rfl, fun W' hW' => by go_simp⟩) hS ?_
                  refine anyD_light (i := 9) (v := .slice (some ⟨bb, off, none⟩) l.length c) rfl (by kernel_rfl) (by kernel_rfl) (by kernel_rfl) (by kernel_rfl) (by kernel_rfl) (fun _ _ _ h => h) (.inl ⟨by kernel_rfl, fun W' hW' => by go_simp⟩) hS ?_
                  refine anyD_light (i := 10) (v := .int .i64 (a : Int)) rfl (by kernel_rfl) (by kernel_rfl) (by kernel_rfl) (by kernel_rfl) (by kernel_rfl) (fun _ _ _ h => h) (.inl ⟨by kernel_rfl, fun W' hW' => by go_simp⟩) hS ?_
                  refine anyD_light (i := 11) (v := .pointer (some ⟨bb, off + a * 3, none⟩)) rfl (by kernel_rfl) (by kernel_rfl) (by kernel_rfl) (by kernel_rfl) (by kernel_rfl) (fun _ _ _ h => h) (.inl ⟨by kernel_rfl, fun W' hW' => by go_simp⟩) hS ?_
                  refine anyD_light (i := 12) (v := .agg #[.string (bs yi), .slice A3 yr.length c3, .int .i64 yt]) rfl (by kernel_rfl) (by kernel_rfl) (by kernel_rfl) (by kernel_rfl) (by kernel_rfl) (fun _ _ _ h => h) (.inl ⟨by kernel_rfl, fun W' hW' => by obtain ⟨hw0, hw1, hw2, hw3, hw4, hw5⟩ := hW'; go_simp⟩) hS ?_
                  refine anyD_light (i := 13) (v := .slice (some ⟨bb, off, none⟩) l.length c) rfl (by kernel_rfl) (by kernel_rfl) (by kernel_rfl) (by kernel_rfl) (by kernel_rfl) (fun _ _ _ h => h) (.inl ⟨by kernel_rfl, fun W' hW' => by go_simp⟩) hS ?_
                  refine anyD_light (i := 14) (v := .int .i64 (i : Int)) rfl (by kernel_rfl) (by kernel_rfl) (by kernel_rfl) (by kernel_rfl) (by kernel_rfl) (fun _ _ _ h => h) (.inl ⟨by kernel_rfl, fun W' hW' => by go_simp⟩) hS ?_
                  refine anyD_light (i := 15) (v := .pointer (some ⟨bb, off + i * 3, none⟩)) rfl (by kernel_rfl) (by kernel_rfl) (by kernel_rfl) (by kernel_rfl) (by kernel_rfl) (fun _ _ _ h => h) (.inl ⟨by kernel_rfl, fun W' hW' => by go_simp⟩) hS ?_
                  refine anyD_light (i := 16) (v := .agg #[.string (bs xi), .slice A2 xr.length c2, .int .i64 xt]) rfl (by kernel_rfl) (by kernel_rfl) (by kernel_rfl) (by kernel_rfl) (by kernel_rfl) (fun _ _ _ h => h) (.inl ⟨by kernel_rfl, fun W' hW' => by obtain ⟨hw0, hw1, hw2, hw3, hw4, hw5⟩ := hW'; go_simp⟩) hS ?_
                  go_simp
                  refine anyD_oneG (i := 17) (by kernel_rfl) rfl rfl (fun K hK => ?_)
                  have HK := Lib.hid hK
                  clear hK
                  unfold Oper.wp
                  go_simp
                  refine (HE1.out _).mono ?_
                  rintro e w3 ⟨rfl, hb3⟩
                  have hb13 : Below wr.heap.size wr w3 := Below.trans hb12 (hb3.mono hb12.size)
                  clear hS
                  have hS := HS.out _ hb13
                  refine HK.out _ _ (fun _ => hS) ?_
                  clear HK
                  refine anyD_light (i := 18) (v := .bool false) rfl (by kernel_rfl) (by kernel_rfl) (by kernel_rfl) (by kernel_rfl) (by kernel_rfl) (fun _ _ _ h => h) (.inl ⟨by kernel_rfl, fun W' hW' => by go_simp⟩) hS ?_
                  refine anyD_light (i := 19) (v := .bool false) rfl (by kernel_rfl) (by kernel_rfl) (by kernel_rfl) (by kernel_rfl) (by kernel_rfl) (fun _ _ _ h => h) (.inl ⟨by kernel_rfl, fun W' hW' => by go_simp⟩) hS ?_
                  refine anyD_light (i := 20) (v := .bool false) rfl (by kernel_rfl) (by kernel_rfl) (by kernel_rfl) (by kernel_rfl) (by kernel_rfl) (fun _ _ _ h => h) (.inl ⟨by kernel_rfl, fun W' hW' => by go_simp⟩) hS ?_
                  go_simp
                  refine anyD_light (i := 21) (v := undef) rfl (by kernel_rfl) (by kernel_rfl) (by kernel_rfl) (by kernel_rfl) (by kernel_rfl) (fun _ _ _ h => h) (.inr ⟨by kernel_rfl, rfl⟩) hS ?_
                  go_simp
                  refine anyD_light (i := 22) (v := undef) rfl (by kernel_rfl) (by kernel_rfl) (by kernel_rfl) (by kernel_rfl) (by kernel_rfl) (fun _ _ _ h => h) (.inr ⟨by kernel_rfl, rfl⟩) hS ?_
                  go_simp
                  refine anyD_light (i := 23) (v := undef) rfl (by kernel_rfl) (by kernel_rfl) (by kernel_rfl) (by kernel_rfl) (by kernel_rfl) (fun _ _ _ h => h) (.inr ⟨by kernel_rfl, rfl⟩) hS ?_
                  go_simp
                  refine anyD_light (i := 24) (v := undef) rfl (by kernel_rfl) (by kernel_rfl) (by kernel_rfl) (by kernel_rfl) (by kernel_rfl) (fun _ _ _ h => h) (.inr ⟨by kernel_rfl, rfl⟩) hS ?_
                  go_simp
                  refine anyD_light (i := 25) (v := undef) rfl (by kernel_rfl) (by kernel_rfl) (by kernel_rfl) (by kernel_rfl) (by kernel_rfl) (fun _ _ _ h => h) (.inr ⟨by kernel_rfl, rfl⟩) hS ?_
                  go_simp
                  refine anyD_light (i := 26) (v := undef) rfl (by kernel_rfl) (by kernel_rfl) (by kernel_rfl) (by kernel_rfl) (by kernel_rfl) (fun _ _ _ h => h) (.inr ⟨by kernel_rfl, rfl⟩) hS ?_
                  go_simp
                  refine anyD_light (i := 27) (v := undef) rfl (by kernel_rfl) (by kernel_rfl) (by kernel_rfl) (by kernel_rfl) (by kernel_rfl) (fun _ _ _ h => h) (.inr ⟨by kernel_rfl, rfl⟩) hS ?_
                  go_simp
                  refine anyD_light (i := 28) (v := undef) rfl (by kernel_rfl) (by kernel_rfl) (by kernel_rfl) (by kernel_rfl) (by kernel_rfl) (fun _ _ _ h => h) (.inr ⟨by kernel_rfl, rfl⟩) hS ?_
                  go_simp
                  refine anyD_light (i := 29) (v := undef) rfl (by kernel_rfl) (by kernel_rfl) (by kernel_rfl) (by kernel_rfl) (by kernel_rfl) (fun _ _ _ h => h) (.inr ⟨by kernel_rfl, rfl⟩) hS ?_
                  go_simp
                  refine anyD_light (i := 30) (v := undef) rfl (by kernel_rfl) (by kernel_rfl) (by kernel_rfl) (by kernel_rfl) (by kernel_rfl) (fun _ _ _ h => h) (.inr ⟨by kernel_rfl, rfl⟩) hS ?_
                  go_simp
                  refine anyD_light (i := 31) (v := undef) rfl (by kernel_rfl) (by kernel_rfl) (by kernel_rfl) (by kernel_rfl) (by kernel_rfl) (fun _ _ _ h => h) (.inr ⟨by kernel_rfl, rfl⟩) hS ?_
                  go_simp
                  refine anyD_light (i := 32) (v := undef) rfl (by kernel_rfl) (by kernel_rfl) (by kernel_rfl) (by kernel_rfl) (by kernel_rfl) (fun _ _ _ h => h) (.inr ⟨by kernel_rfl, rfl⟩) hS ?_
                  go_simp
                  refine anyD_light (i := 33) (v := undef) rfl (by kernel_rfl) (by kernel_rfl) (by kernel_rfl) (by kernel_rfl) (by kernel_rfl) (fun _ _ _ h => h) (.inr ⟨by kernel_rfl, rfl⟩) hS ?_
                  refine anyD_light (i := 34) (v := .bool false) rfl (by kernel_rfl) (by kernel_rfl) (by kernel_rfl) (by kernel_rfl) (by kernel_rfl) (fun _ _ _ h => h) (.inl ⟨by kernel_rfl, fun W' hW' => by go_simp⟩) hS ?_
                  go_simp
                  refine anyD_done (by kernel_rfl) ?_ _
                  go_simp
                  go_wp2_with fail
                  go_meet
                  case rel => exact ⟨rfl, hb13⟩
                | true =>
                  rw [Bool.true_and] at htt
                  rcases hnb with hnb | ⟨cn, rfl, hcl⟩
                  · have hnbb : decide (nx < 0) = true := decide_eq_true hnb
                    rw [hnbb, Bool.true_or] at htt
                    subst htt
                    have hSS : ∀ W, Below wr.heap.size wr W → W.cell? ⟨bb, off + i * 3, none⟩ = some (.string (bs xi)) ∧ W.cell? ⟨bb, off + i * 3 + 1, none⟩ = some (.slice A2 xr.length c2) ∧ W.cell? ⟨bb, off + i * 3 + 2, none⟩ = some (.int .i64 xt) ∧ W.cell? ⟨bb, off + a * 3, none⟩ = some (.string (bs yi)) ∧ W.cell? ⟨bb, off + a * 3 + 1, none⟩ = some (.slice A3 yr.length c3) ∧ W.cell? ⟨bb, off + a * 3 + 2, none⟩ = some (.int .i64 yt) := fun W hW => ⟨cell_ext hW p0, cell_ext hW p1, cell_ext hW p2, cell_ext hW r0, cell_ext hW r1, cell_ext hW r2⟩
                    have HS := Lib.hid hSS
                    have hS := HS.out _ (below_drewN' wr.heap.size wr 1)
                    clear hSS
                    refine wp_region_D (fun W => W.cell? ⟨bb, off + i * 3, none⟩ = some (.string (bs xi)) ∧ W.cell? ⟨bb, off + i * 3 + 1, none⟩ = some (.slice A2 xr.length c2) ∧ W.cell? ⟨bb, off + i * 3 + 2, none⟩ = some (.int .i64 xt) ∧ W.cell? ⟨bb, off + a * 3, none⟩ = some (.string (bs yi)) ∧ W.cell? ⟨bb, off + a * 3 + 1, none⟩ = some (.slice A3 yr.length c3) ∧ W.cell? ⟨bb, off + a * 3 + 2, none⟩ = some (.int .i64 yt)) (fun _ => false) (by kernel_rfl) ?_
                    refine anyD_light (i := 0) (v := .slice (some ⟨bb, off, none⟩) l.length c) rfl (by kernel_rfl) (by kernel_rfl) (by kernel_rfl) (by kernel_rfl) (by kernel_rfl) (fun _ _ _ h => h) (.inl ⟨by kernel_rfl, fun W' hW' => by go_simp⟩) hS ?_
                    refine anyD_light (i := 1) (v := .int .i64 (i : Int)) rfl (by kernel_rfl) (by kernel_rfl) (by kernel_rfl) (by kernel_rfl) (by kernel_rfl) (fun _ _ _ h => h) (.inl ⟨by kernel_rfl, fun W' hW' => by go_simp⟩) hS ?_
                    refine anyD_light (i := 3) (v := .int .i64 pp) rfl (by kernel_rfl) (by kernel_rfl) (by kernel_rfl) (by kernel_rfl) (by kernel_rfl) (fun _ _ _ h => h) (.inl ⟨by kernel_rfl, fun W' hW' => by go_simp⟩) hS ?_
                    go_simp
                    refine anyD_one (i := 2) (by kernel_rfl) rfl rfl (fun K hK => ?_)
                    have HK := Lib.hid hK
                    clear hK
                    unfold Oper.wp
                    go_simp
                    refine (Hpc.out _ (below_drewN' wr.heap.size wr 1)).mono ?_
                    rintro e w2 ⟨rfl, hb2⟩
                    have hb12 : Below wr.heap.size wr w2 := Below.trans (below_drewN' wr.heap.size wr 1) hb2
                    clear hS
                    have hS := HS.out _ hb12
                    refine HK.out _ _ (fun _ => hS) ?_
                    clear HK
                    refine anyD_light (i := 4) (v := .bool true) rfl (by kernel_rfl) (by kernel_rfl) (by kernel_rfl) (by kernel_rfl) (by kernel_rfl) (fun _ _ _ h => h) (.inl ⟨by kernel_rfl, fun W' hW' => by go_simp⟩) hS ?_
                    refine anyD_light (i := 5) (v := .bool true) rfl (by kernel_rfl) (by kernel_rfl) (by kernel_rfl) (by kernel_rfl) (by kernel_rfl) (fun _ _ _ h => h) (.inl ⟨by kernel_rfl, fun W' hW' => by go_simp⟩) hS ?_
                    refine anyD_light (i := 6) (v := .int .i64 (a : Int)) rfl (by kernel_rfl) (by kernel_rfl) (by kernel_rfl) (by kernel_rfl) (by kernel_rfl) (fun _ _ _ h => h) (.inl ⟨by kernel_rfl, fun W' hW' => by go_simp⟩) hS ?_
                    refine anyD_light (i := 7) (v := .bool false) rfl (by kernel_rfl) (by kernel_rfl) (by kernel_rfl) (by kernel_rfl) (by kernel_rfl) (fun _ _ _ h => h) (.inl ⟨by kernel_rfl, fun W' hW' => by go_simp⟩) hS ?_
                    refine anyD_light (i := 8) (v := .bool false) rfl (by kernel_rfl) (by kernel_rfl) (by kernel_rfl) (by kernel_rfl) (by kernel_rfl) (fun _ _ _ h => h) (.inl ⟨by kernel_rfl, fun W' hW' => by go_simp⟩) hS ?_
                    refine anyD_light (i := 9) (v := .slice (some ⟨bb, off, none⟩) l.length c) rfl (by kernel_rfl) (by kernel_rfl) (by kernel_rfl) (by kernel_rfl) (by kernel_rfl) (fun _ _ _ h => h) (.inl ⟨by kernel_rfl, fun W' hW' => by go_simp⟩) hS ?_
                    refine anyD_light (i := 10) (v := .int .i64 (a : Int)) rfl (by kernel_rfl) (by kernel_rfl) (by kernel_rfl) (by kernel_rfl) (by kernel_rfl) (fun _ _ _ h => h) (.inl ⟨by kernel_rfl, fun W' hW' => by go_simp⟩) hS ?_
                    refine anyD_light (i := 11) (v := .pointer (some ⟨bb, off + a * 3, none⟩)) rfl (by kernel_rfl) (by kernel_rfl) (by kernel_rfl) (by kernel_rfl) (by kernel_rfl) (fun _ _ _ h => h) (.inl ⟨by kernel_rfl, fun W' hW' => by go_simp⟩) hS ?_
                    refine anyD_light (i := 12) (v := .agg #[.string (bs yi), .slice A3 yr.length c3, .int .i64 yt]) rfl (by kernel_rfl) (by kernel_rfl) (by kernel_rfl) (by kernel_rfl) (by kernel_rfl) (fun _ _ _ h => h) (.inl ⟨by kernel_rfl, fun W' hW' => by obtain ⟨hw0, hw1, hw2, hw3, hw4, hw5⟩ := hW'; go_simp⟩) hS ?_
                    refine anyD_light (i := 13) (v := .slice (some ⟨bb, off, none⟩) l.length c) rfl (by kernel_rfl) (by kernel_rfl) (by kernel_rfl) (by kernel_rfl) (by kernel_rfl) (fun _ _ _ h => h) (.inl ⟨by kernel_rfl, fun W' hW' => by go_simp⟩) hS ?_
                    refine anyD_light (i := 14) (v := .int .i64 (i : Int)) rfl (by kernel_rfl) (by kernel_rfl) (by kernel_rfl) (by kernel_rfl) (by kernel_rfl) (fun _ _ _ h => h) (.inl ⟨by kernel_rfl, fun W' hW' => by go_simp⟩) hS ?_
                    refine anyD_light (i := 15) (v := .pointer (some ⟨bb, off + i * 3, none⟩)) rfl (by kernel_rfl) (by kernel_rfl) (by kernel_rfl) (by kernel_rfl) (by kernel_rfl) (fun _ _ _ h => h) (.inl ⟨by kernel_rfl, fun W' hW' => by go_simp⟩) hS ?_
                    refine anyD_light (i := 16) (v := .agg #[.string (bs xi), .slice A2 xr.length c2, .int .i64 xt]) rfl (by kernel_rfl) (by kernel_rfl) (by kernel_rfl) (by kernel_rfl) (by kernel_rfl) (fun _ _ _ h => h) (.inl ⟨by kernel_rfl, fun W' hW' => by obtain ⟨hw0, hw1, hw2, hw3, hw4, hw5⟩ := hW'; go_simp⟩) hS ?_
                    go_simp
                    refine anyD_oneG (i := 17) (by kernel_rfl) rfl rfl (fun K hK => ?_)
                    have HK := Lib.hid hK
                    clear hK
                    unfold Oper.wp
                    go_simp
                    refine (HE1.out _).mono ?_
                    rintro e w3 ⟨rfl, hb3⟩
                    have hb13 : Below wr.heap.size wr w3 := Below.trans hb12 (hb3.mono hb12.size)
                    clear hS
                    have hS := HS.out _ hb13
                    refine HK.out _ _ (fun _ => hS) ?_
                    clear HK
                    refine anyD_light (i := 18) (v := .bool true) rfl (by kernel_rfl) (by kernel_rfl) (by kernel_rfl) (by kernel_rfl) (by kernel_rfl) (fun _ _ _ h => h) (.inl ⟨by kernel_rfl, fun W' hW' => by go_simp⟩) hS ?_
                    refine anyD_light (i := 19) (v := .bool true) rfl (by kernel_rfl) (by kernel_rfl) (by kernel_rfl) (by kernel_rfl) (by kernel_rfl) (fun _ _ _ h => h) (.inl ⟨by kernel_rfl, fun W' hW' => by go_simp⟩) hS ?_
                    refine anyD_light (i := 20) (v := .bool true) rfl (by kernel_rfl) (by kernel_rfl) (by kernel_rfl) (by kernel_rfl) (by kernel_rfl) (fun _ _ _ h => h) (.inl ⟨by kernel_rfl, fun W' hW' => by go_simp⟩) hS ?_
                    refine anyD_light (i := 21) (v := .int .i64 nx) rfl (by kernel_rfl) (by kernel_rfl) (by kernel_rfl) (by kernel_rfl) (by kernel_rfl) (fun _ _ _ h => h) (.inl ⟨by kernel_rfl, fun W' hW' => by go_simp⟩) hS ?_
                    refine anyD_light (i := 22) (v := .bool true) rfl (by kernel_rfl) (by kernel_rfl) (by kernel_rfl) (by kernel_rfl) (by kernel_rfl) (fun _ _ _ h => h) (.inl ⟨by kernel_rfl, fun W' hW' => by go_simp⟩) hS ?_
                    refine anyD_light (i := 23) (v := .bool true) rfl (by kernel_rfl) (by kernel_rfl) (by kernel_rfl) (by kernel_rfl) (by kernel_rfl) (fun _ _ _ h => h) (.inl ⟨by kernel_rfl, fun W' hW' => by go_simp⟩) hS ?_
                    go_simp
                    refine anyD_light (i := 24) (v := undef) rfl (by kernel_rfl) (by kernel_rfl) (by kernel_rfl) (by kernel_rfl) (by kernel_rfl) (fun _ _ _ h => h) (.inr ⟨by kernel_rfl, rfl⟩) hS ?_
                    go_simp
                    refine anyD_light (i := 25) (v := undef) rfl (by kernel_rfl) (by kernel_rfl) (by kernel_rfl) (by kernel_rfl) (by kernel_rfl) (fun _ _ _ h => h) (.inr ⟨by kernel_rfl, rfl⟩) hS ?_
                    go_simp
                    refine anyD_light (i := 26) (v := undef) rfl (by kernel_rfl) (by kernel_rfl) (by kernel_rfl) (by kernel_rfl) (by kernel_rfl) (fun _ _ _ h => h) (.inr ⟨by kernel_rfl, rfl⟩) hS ?_
                    go_simp
                    refine anyD_light (i := 27) (v := undef) rfl (by kernel_rfl) (by kernel_rfl) (by kernel_rfl) (by kernel_rfl) (by kernel_rfl) (fun _ _ _ h => h) (.inr ⟨by kernel_rfl, rfl⟩) hS ?_
                    go_simp
                    refine anyD_light (i := 28) (v := undef) rfl (by kernel_rfl) (by kernel_rfl) (by kernel_rfl) (by kernel_rfl) (by kernel_rfl) (fun _ _ _ h => h) (.inr ⟨by kernel_rfl, rfl⟩) hS ?_
                    go_simp
                    refine anyD_light (i := 29) (v := undef) rfl (by kernel_rfl) (by kernel_rfl) (by kernel_rfl) (by kernel_rfl) (by kernel_rfl) (fun _ _ _ h => h) (.inr ⟨by kernel_rfl, rfl⟩) hS ?_
                    go_simp
                    refine anyD_light (i := 30) (v := undef) rfl (by kernel_rfl) (by kernel_rfl) (by kernel_rfl) (by kernel_rfl) (by kernel_rfl) (fun _ _ _ h => h) (.inr ⟨by kernel_rfl, rfl⟩) hS ?_
                    go_simp
                    refine anyD_light (i := 31) (v := undef) rfl (by kernel_rfl) (by kernel_rfl) (by kernel_rfl) (by kernel_rfl) (by kernel_rfl) (fun _ _ _ h => h) (.inr ⟨by kernel_rfl, rfl⟩) hS ?_
                    go_simp
                    refine anyD_light (i := 32) (v := undef) rfl (by kernel_rfl) (by kernel_rfl) (by kernel_rfl) (by kernel_rfl) (by kernel_rfl) (fun _ _ _ h => h) (.inr ⟨by kernel_rfl, rfl⟩) hS ?_
                    refine anyD_light (i := 33) (v := .bool true) rfl (by kernel_rfl) (by kernel_rfl) (by kernel_rfl) (by kernel_rfl) (by kernel_rfl) (fun _ _ _ h => h) (.inl ⟨by kernel_rfl, fun W' hW' => by go_simp⟩) hS ?_
                    refine anyD_light (i := 34) (v := .bool true) rfl (by kernel_rfl) (by kernel_rfl) (by kernel_rfl) (by kernel_rfl) (by kernel_rfl) (fun _ _ _ h => h) (.inl ⟨by kernel_rfl, fun W' hW' => by go_simp⟩) hS ?_
                    go_simp
                    refine anyD_done (by kernel_rfl) ?_ _
                    go_simp
                    go_wp2_with fail
                    go_meet
                    case rel => exact ⟨rfl, hb13⟩
                  · have hnbb : decide ((cn : Int) < 0) = false := by simp
                    rw [hnbb, Bool.false_or, Int.toNat_natCast] at htt
                    obtain ⟨bb2, off2, A4, c4, hA, _, _, s0, s1, s2, _, _, _, _⟩ := (hs.ext hbz).letterAt hcl
                    injection hA with hA
                    injection hA with hA1 hA2
                    subst hA1 hA2
                    have e2 := fun W => He2.out cn hcl (.slice A2 xr.length c2) (.slice A4 l[cn].2.1.length c4) W
                    obtain ⟨z, hz⟩ : ∃ z, l[cn] = z := ⟨_, rfl⟩
                    rw [hz] at s0 s1 s2 e2
                    obtain ⟨t2, ht2⟩ : ∃ t, Th.later l i cn = t := ⟨_, rfl⟩
                    rw [ht2] at e2 htt
                    subst htt
                    obtain ⟨zi, zr, zt⟩ := z
                    unfold letV at e2
                    dsimp only at s0 s1 s2 e2
                    have HE2 := Lib.hid e2
                    have hcl' : (cn : Int) < (l.length : Int) := by omega
                    have hcw : IntKind.i64.wrap (cn : Int) = (cn : Int) := IntWalk.i64_in _ (by omega)
                    clear e2 hz ht2
                    have hSS : ∀ W, Below wr.heap.size wr W → W.cell? ⟨bb, off + i * 3, none⟩ = some (.string (bs xi)) ∧ W.cell? ⟨bb, off + i * 3 + 1, none⟩ = some (.slice A2 xr.length c2) ∧ W.cell? ⟨bb, off + i * 3 + 2, none⟩ = some (.int .i64 xt) ∧ W.cell? ⟨bb, off + a * 3, none⟩ = some (.string (bs yi)) ∧ W.cell? ⟨bb, off + a * 3 + 1, none⟩ = some (.slice A3 yr.length c3) ∧ W.cell? ⟨bb, off + a * 3 + 2, none⟩ = some (.int .i64 yt) ∧ W.cell? ⟨bb, off + cn * 3, none⟩ = some (.string (bs zi)) ∧ W.cell? ⟨bb, off + cn * 3 + 1, none⟩ = some (.slice A4 zr.length c4) ∧ W.cell? ⟨bb, off + cn * 3 + 2, none⟩ = some (.int .i64 zt) := fun W hW => ⟨cell_ext hW p0, cell_ext hW p1, cell_ext hW p2, cell_ext hW r0, cell_ext hW r1, cell_ext hW r2, cell_ext hW s0, cell_ext hW s1, cell_ext hW s2⟩
                    have HS := Lib.hid hSS
                    have hS := HS.out _ (below_drewN' wr.heap.size wr 1)
                    clear hSS
                    refine wp_region_D (fun W => W.cell? ⟨bb, off + i * 3, none⟩ = some (.string (bs xi)) ∧ W.cell? ⟨bb, off + i * 3 + 1, none⟩ = some (.slice A2 xr.length c2) ∧ W.cell? ⟨bb, off + i * 3 + 2, none⟩ = some (.int .i64 xt) ∧ W.cell? ⟨bb, off + a * 3, none⟩ = some (.string (bs yi)) ∧ W.cell? ⟨bb, off + a * 3 + 1, none⟩ = some (.slice A3 yr.length c3) ∧ W.cell? ⟨bb, off + a * 3 + 2, none⟩ = some (.int .i64 yt) ∧ W.cell? ⟨bb, off + cn * 3, none⟩ = some (.string (bs zi)) ∧ W.cell? ⟨bb, off + cn * 3 + 1, none⟩ = some (.slice A4 zr.length c4) ∧ W.cell? ⟨bb, off + cn * 3 + 2, none⟩ = some (.int .i64 zt)) (fun _ => false) (by kernel_rfl) ?_
                    refine anyD_light (i := 0) (v := .slice (some ⟨bb, off, none⟩) l.length c) rfl (by kernel_rfl) (by kernel_rfl) (by kernel_rfl) (by kernel_rfl) (by kernel_rfl) (fun _ _ _ h => h) (.inl ⟨by kernel_rfl, fun W' hW' => by go_simp⟩) hS ?_
                    refine anyD_light (i := 1) (v := .int .i64 (i : Int)) rfl (by kernel_rfl) (by kernel_rfl) (by kernel_rfl) (by kernel_rfl) (by kernel_rfl) (fun _ _ _ h => h) (.inl ⟨by kernel_rfl, fun W' hW' => by go_simp⟩) hS ?_
                    refine anyD_light (i := 3) (v := .int .i64 pp) rfl (by kernel_rfl) (by kernel_rfl) (by kernel_rfl) (by kernel_rfl) (by kernel_rfl) (fun _ _ _ h => h) (.inl ⟨by kernel_rfl, fun W' hW' => by go_simp⟩) hS ?_
                    go_simp
                    refine anyD_one (i := 2) (by kernel_rfl) rfl rfl (fun K hK => ?_)
                    have HK := Lib.hid hK
                    clear hK
                    unfold Oper.wp
                    go_simp
                    refine (Hpc.out _ (below_drewN' wr.heap.size wr 1)).mono ?_
                    rintro e w2 ⟨rfl, hb2⟩
                    have hb12 : Below wr.heap.size wr w2 := Below.trans (below_drewN' wr.heap.size wr 1) hb2
                    clear hS
                    have hS := HS.out _ hb12
                    refine HK.out _ _ (fun _ => hS) ?_
                    clear HK
                    refine anyD_light (i := 4) (v := .bool true) rfl (by kernel_rfl) (by kernel_rfl) (by kernel_rfl) (by kernel_rfl) (by kernel_rfl) (fun _ _ _ h => h) (.inl ⟨by kernel_rfl, fun W' hW' => by go_simp⟩) hS ?_
                    refine anyD_light (i := 5) (v := .bool true) rfl (by kernel_rfl) (by kernel_rfl) (by kernel_rfl) (by kernel_rfl) (by kernel_rfl) (fun _ _ _ h => h) (.inl ⟨by kernel_rfl, fun W' hW' => by go_simp⟩) hS ?_
                    refine anyD_light (i := 6) (v := .int .i64 (a : Int)) rfl (by kernel_rfl) (by kernel_rfl) (by kernel_rfl) (by kernel_rfl) (by kernel_rfl) (fun _ _ _ h => h) (.inl ⟨by kernel_rfl, fun W' hW' => by go_simp⟩) hS ?_
                    refine anyD_light (i := 7) (v := .bool false) rfl (by kernel_rfl) (by kernel_rfl) (by kernel_rfl) (by kernel_rfl) (by kernel_rfl) (fun _ _ _ h => h) (.inl ⟨by kernel_rfl, fun W' hW' => by go_simp⟩) hS ?_
                    refine anyD_light (i := 8) (v := .bool false) rfl (by kernel_rfl) (by kernel_rfl) (by kernel_rfl) (by kernel_rfl) (by kernel_rfl) (fun _ _ _ h => h) (.inl ⟨by kernel_rfl, fun W' hW' => by go_simp⟩) hS ?_
                    refine anyD_light (i := 9) (v := .slice (some ⟨bb, off, none⟩) l.length c) rfl (by kernel_rfl) (by kernel_rfl) (by kernel_rfl) (by kernel_rfl) (by kernel_rfl) (fun _ _ _ h => h) (.inl ⟨by kernel_rfl, fun W' hW' => by go_simp⟩) hS ?_
                    refine anyD_light (i := 10) (v := .int .i64 (a : Int)) rfl (by kernel_rfl) (by kernel_rfl) (by kernel_rfl) (by kernel_rfl) (by kernel_rfl) (fun _ _ _ h => h) (.inl ⟨by kernel_rfl, fun W' hW' => by go_simp⟩) hS ?_
                    refine anyD_light (i := 11) (v := .pointer (some ⟨bb, off + a * 3, none⟩)) rfl (by kernel_rfl) (by kernel_rfl) (by kernel_rfl) (by kernel_rfl) (by kernel_rfl) (fun _ _ _ h => h) (.inl ⟨by kernel_rfl, fun W' hW' => by go_simp⟩) hS ?_
                    refine anyD_light (i := 12) (v := .agg #[.string (bs yi), .slice A3 yr.length c3, .int .i64 yt]) rfl (by kernel_rfl) (by kernel_rfl) (by kernel_rfl) (by kernel_rfl) (by kernel_rfl) (fun _ _ _ h => h) (.inl ⟨by kernel_rfl, fun W' hW' => by obtain ⟨hw0, hw1, hw2, hw3, hw4, hw5, hw6, hw7, hw8⟩ := hW'; go_simp⟩) hS ?_
                    refine anyD_light (i := 13) (v := .slice (some ⟨bb, off, none⟩) l.length c) rfl (by kernel_rfl) (by kernel_rfl) (by kernel_rfl) (by kernel_rfl) (by kernel_rfl) (fun _ _ _ h => h) (.inl ⟨by kernel_rfl, fun W' hW' => by go_simp⟩) hS ?_
                    refine anyD_light (i := 14) (v := .int .i64 (i : Int)) rfl (by kernel_rfl) (by kernel_rfl) (by kernel_rfl) (by kernel_rfl) (by kernel_rfl) (fun _ _ _ h => h) (.inl ⟨by kernel_rfl, fun W' hW' => by go_simp⟩) hS ?_
                    refine anyD_light (i := 15) (v := .pointer (some ⟨bb, off + i * 3, none⟩)) rfl (by kernel_rfl) (by kernel_rfl) (by kernel_rfl) (by kernel_rfl) (by kernel_rfl) (fun _ _ _ h => h) (.inl ⟨by kernel_rfl, fun W' hW' => by go_simp⟩) hS ?_
                    refine anyD_light (i := 16) (v := .agg #[.string (bs xi), .slice A2 xr.length c2, .int .i64 xt]) rfl (by kernel_rfl) (by kernel_rfl) (by kernel_rfl) (by kernel_rfl) (by kernel_rfl) (fun _ _ _ h => h) (.inl ⟨by kernel_rfl, fun W' hW' => by obtain ⟨hw0, hw1, hw2, hw3, hw4, hw5, hw6, hw7, hw8⟩ := hW'; go_simp⟩) hS ?_
                    go_simp
                    refine anyD_oneG (i := 17) (by kernel_rfl) rfl rfl (fun K hK => ?_)
                    have HK := Lib.hid hK
                    clear hK
                    unfold Oper.wp
                    go_simp
                    refine (HE1.out _).mono ?_
                    rintro e w3 ⟨rfl, hb3⟩
                    have hb13 : Below wr.heap.size wr w3 := Below.trans hb12 (hb3.mono hb12.size)
                    clear hS
                    have hS := HS.out _ hb13
                    refine HK.out _ _ (fun _ => hS) ?_
                    clear HK
                    refine anyD_light (i := 18) (v := .bool true) rfl (by kernel_rfl) (by kernel_rfl) (by kernel_rfl) (by kernel_rfl) (by kernel_rfl) (fun _ _ _ h => h) (.inl ⟨by kernel_rfl, fun W' hW' => by go_simp⟩) hS ?_
                    refine anyD_light (i := 19) (v := .bool true) rfl (by kernel_rfl) (by kernel_rfl) (by kernel_rfl) (by kernel_rfl) (by kernel_rfl) (fun _ _ _ h => h) (.inl ⟨by kernel_rfl, fun W' hW' => by go_simp⟩) hS ?_
                    refine anyD_light (i := 20) (v := .bool true) rfl (by kernel_rfl) (by kernel_rfl) (by kernel_rfl) (by kernel_rfl) (by kernel_rfl) (fun _ _ _ h => h) (.inl ⟨by kernel_rfl, fun W' hW' => by go_simp⟩) hS ?_
                    refine anyD_light (i := 21) (v := .int .i64 (cn : Int)) rfl (by kernel_rfl) (by kernel_rfl) (by kernel_rfl) (by kernel_rfl) (by kernel_rfl) (fun _ _ _ h => h) (.inl ⟨by kernel_rfl, fun W' hW' => by go_simp⟩) hS ?_
                    refine anyD_light (i := 22) (v := .bool false) rfl (by kernel_rfl) (by kernel_rfl) (by kernel_rfl) (by kernel_rfl) (by kernel_rfl) (fun _ _ _ h => h) (.inl ⟨by kernel_rfl, fun W' hW' => by go_simp⟩) hS ?_
                    refine anyD_light (i := 23) (v := .bool false) rfl (by kernel_rfl) (by kernel_rfl) (by kernel_rfl) (by kernel_rfl) (by kernel_rfl) (fun _ _ _ h => h) (.inl ⟨by kernel_rfl, fun W' hW' => by go_simp⟩) hS ?_
                    refine anyD_light (i := 24) (v := .slice (some ⟨bb, off, none⟩) l.length c) rfl (by kernel_rfl) (by kernel_rfl) (by kernel_rfl) (by kernel_rfl) (by kernel_rfl) (fun _ _ _ h => h) (.inl ⟨by kernel_rfl, fun W' hW' => by go_simp⟩) hS ?_
                    refine anyD_light (i := 25) (v := .int .i64 (i : Int)) rfl (by kernel_rfl) (by kernel_rfl) (by kernel_rfl) (by kernel_rfl) (by kernel_rfl) (fun _ _ _ h => h) (.inl ⟨by kernel_rfl, fun W' hW' => by go_simp⟩) hS ?_
                    refine anyD_light (i := 26) (v := .pointer (some ⟨bb, off + i * 3, none⟩)) rfl (by kernel_rfl) (by kernel_rfl) (by kernel_rfl) (by kernel_rfl) (by kernel_rfl) (fun _ _ _ h => h) (.inl ⟨by kernel_rfl, fun W' hW' => by go_simp⟩) hS ?_
                    refine anyD_light (i := 27) (v := .agg #[.string (bs xi), .slice A2 xr.length c2, .int .i64 xt]) rfl (by kernel_rfl) (by kernel_rfl) (by kernel_rfl) (by kernel_rfl) (by kernel_rfl) (fun _ _ _ h => h) (.inl ⟨by kernel_rfl, fun W' hW' => by obtain ⟨hw0, hw1, hw2, hw3, hw4, hw5, hw6, hw7, hw8⟩ := hW'; go_simp⟩) hS ?_
                    refine anyD_light (i := 28) (v := .slice (some ⟨bb, off, none⟩) l.length c) rfl (by kernel_rfl) (by kernel_rfl) (by kernel_rfl) (by kernel_rfl) (by kernel_rfl) (fun _ _ _ h => h) (.inl ⟨by kernel_rfl, fun W' hW' => by go_simp⟩) hS ?_
                    refine anyD_light (i := 29) (v := .int .i64 (cn : Int)) rfl (by kernel_rfl) (by kernel_rfl) (by kernel_rfl) (by kernel_rfl) (by kernel_rfl) (fun _ _ _ h => h) (.inl ⟨by kernel_rfl, fun W' hW' => by go_simp⟩) hS ?_
                    refine anyD_light (i := 30) (v := .pointer (some ⟨bb, off + cn * 3, none⟩)) rfl (by kernel_rfl) (by kernel_rfl) (by kernel_rfl) (by kernel_rfl) (by kernel_rfl) (fun _ _ _ h => h) (.inl ⟨by kernel_rfl, fun W' hW' => by go_simp⟩) hS ?_
                    refine anyD_light (i := 31) (v := .agg #[.string (bs zi), .slice A4 zr.length c4, .int .i64 zt]) rfl (by kernel_rfl) (by kernel_rfl) (by kernel_rfl) (by kernel_rfl) (by kernel_rfl) (fun _ _ _ h => h) (.inl ⟨by kernel_rfl, fun W' hW' => by obtain ⟨hw0, hw1, hw2, hw3, hw4, hw5, hw6, hw7, hw8⟩ := hW'; go_simp⟩) hS ?_
                    go_simp
                    refine anyD_oneG (i := 32) (by kernel_rfl) rfl rfl (fun K hK => ?_)
                    have HK := Lib.hid hK
                    clear hK
                    unfold Oper.wp
                    go_simp
                    refine (HE2.out _).mono ?_
                    rintro e w4 ⟨rfl, hb4⟩
                    have hb14 : Below wr.heap.size wr w4 := Below.trans hb13 (hb4.mono hb13.size)
                    clear hS
                    have hS := HS.out _ hb14
                    refine HK.out _ _ (fun _ => hS) ?_
                    clear HK
                    refine anyD_light (i := 33) (v := .bool t2) rfl (by kernel_rfl) (by kernel_rfl) (by kernel_rfl) (by kernel_rfl) (by kernel_rfl) (fun _ _ _ h => h) (.inl ⟨by kernel_rfl, fun W' hW' => by go_simp⟩) hS ?_
                    refine anyD_light (i := 34) (v := .bool t2) rfl (by kernel_rfl) (by kernel_rfl) (by kernel_rfl) (by kernel_rfl) (by kernel_rfl) (fun _ _ _ h => h) (.inl ⟨by kernel_rfl, fun W' hW' => by go_simp⟩) hS ?_
                    go_simp
                    refine anyD_done (by kernel_rfl) ?_ _
                    go_simp
                    go_wp2_with fail
                    go_meet
                    case rel => exact ⟨rfl, hb14⟩
            · have hqb : (q == pp) = false := by simpa using hqp
              have hqd : (decide (q = pp)) = false := by simpa using hqp
              have htt := Htt.out
              rw [hqb, Bool.false_and] at htt
              subst htt
              clear hqp hx
              have hSS : ∀ W, Below wr.heap.size wr W → W.cell? ⟨bb, off + i * 3, none⟩ = some (.string (bs xi)) ∧ W.cell? ⟨bb, off + i * 3 + 1, none⟩ = some (.slice A2 xr.length c2) ∧ W.cell? ⟨bb, off + i * 3 + 2, none⟩ = some (.int .i64 xt) := fun W hW => ⟨cell_ext hW p0, cell_ext hW p1, cell_ext hW p2⟩
              have HS := Lib.hid hSS
              have hS := HS.out _ (below_drewN' wr.heap.size wr 1)
              clear hSS
              refine wp_region_D (fun W => W.cell? ⟨bb, off + i * 3, none⟩ = some (.string (bs xi)) ∧ W.cell? ⟨bb, off + i * 3 + 1, none⟩ = some (.slice A2 xr.length c2) ∧ W.cell? ⟨bb, off + i * 3 + 2, none⟩ = some (.int .i64 xt)) (fun _ => false) (by kernel_rfl) ?_
              refine anyD_light (i := 0) (v := .slice (some ⟨bb, off, none⟩) l.length c) rfl (by kernel_rfl) (by kernel_rfl) (by kernel_rfl) (by kernel_rfl) (by kernel_rfl) (fun _ _ _ h => h) (.inl ⟨by kernel_rfl, fun W' hW' => by go_simp⟩) hS ?_
              refine anyD_light (i := 1) (v := .int .i64 (i : Int)) rfl (by kernel_rfl) (by kernel_rfl) (by kernel_rfl) (by kernel_rfl) (by kernel_rfl) (fun _ _ _ h => h) (.inl ⟨by kernel_rfl, fun W' hW' => by go_simp⟩) hS ?_
              refine anyD_light (i := 3) (v := .int .i64 pp) rfl (by kernel_rfl) (by kernel_rfl) (by kernel_rfl) (by kernel_rfl) (by kernel_rfl) (fun _ _ _ h => h) (.inl ⟨by kernel_rfl, fun W' hW' => by go_simp⟩) hS ?_
              go_simp
              refine anyD_one (i := 2) (by kernel_rfl) rfl rfl (fun K hK => ?_)
              have HK := Lib.hid hK
              clear hK
              unfold Oper.wp
              go_simp
              refine (Hpc.out _ (below_drewN' wr.heap.size wr 1)).mono ?_
              rintro e w2 ⟨rfl, hb2⟩
              have hb12 : Below wr.heap.size wr w2 := Below.trans (below_drewN' wr.heap.size wr 1) hb2
              clear hS
              have hS := HS.out _ hb12
              refine HK.out _ _ (fun _ => hS) ?_
              clear HK
              refine anyD_light (i := 4) (v := .bool false) rfl (by kernel_rfl) (by kernel_rfl) (by kernel_rfl) (by kernel_rfl) (by kernel_rfl) (fun _ _ _ h => h) (.inl ⟨by kernel_rfl, fun W' hW' => by go_simp⟩) hS ?_
              refine anyD_light (i := 5) (v := .bool false) rfl (by kernel_rfl) (by kernel_rfl) (by kernel_rfl) (by kernel_rfl) (by kernel_rfl) (fun _ _ _ h => h) (.inl ⟨by kernel_rfl, fun W' hW' => by go_simp⟩) hS ?_
              go_simp
              refine anyD_light (i := 6) (v := undef) rfl (by kernel_rfl) (by kernel_rfl) (by kernel_rfl) (by kernel_rfl) (by kernel_rfl) (fun _ _ _ h => h) (.inr ⟨by kernel_rfl, rfl⟩) hS ?_
              go_simp
              refine anyD_light (i := 7) (v := undef) rfl (by kernel_rfl) (by kernel_rfl) (by kernel_rfl) (by kernel_rfl) (by kernel_rfl) (fun _ _ _ h => h) (.inr ⟨by kernel_rfl, rfl⟩) hS ?_
              go_simp
              refine anyD_light (i := 8) (v := undef) rfl (by kernel_rfl) (by kernel_rfl) (by kernel_rfl) (by kernel_rfl) (by kernel_rfl) (fun _ _ _ h => h) (.inr ⟨by kernel_rfl, rfl⟩) hS ?_
              go_simp
              refine anyD_light (i := 9) (v := undef) rfl (by kernel_rfl) (by kernel_rfl) (by kernel_rfl) (by kernel_rfl) (by kernel_rfl) (fun _ _ _ h => h) (.inr ⟨by kernel_rfl, rfl⟩) hS ?_
              go_simp
              refine anyD_light (i := 10) (v := undef) rfl (by kernel_rfl) (by kernel_rfl) (by kernel_rfl) (by kernel_rfl) (by kernel_rfl) (fun _ _ _ h => h) (.inr ⟨by kernel_rfl, rfl⟩) hS ?_
              go_simp
              refine anyD_light (i := 11) (v := undef) rfl (by kernel_rfl) (by kernel_rfl) (by kernel_rfl) (by kernel_rfl) (by kernel_rfl) (fun _ _ _ h => h) (.inr ⟨by kernel_rfl, rfl⟩) hS ?_
              go_simp
              refine anyD_light (i := 12) (v := undef) rfl (by kernel_rfl) (by kernel_rfl) (by kernel_rfl) (by kernel_rfl) (by kernel_rfl) (fun _ _ _ h => h) (.inr ⟨by kernel_rfl, rfl⟩) hS ?_
              go_simp
              refine anyD_light (i := 13) (v := undef) rfl (by kernel_rfl) (by kernel_rfl) (by kernel_rfl) (by kernel_rfl) (by kernel_rfl) (fun _ _ _ h => h) (.inr ⟨by kernel_rfl, rfl⟩) hS ?_
              go_simp
              refine anyD_light (i := 14) (v := undef) rfl (by kernel_rfl) (by kernel_rfl) (by kernel_rfl) (by kernel_rfl) (by kernel_rfl) (fun _ _ _ h => h) (.inr ⟨by kernel_rfl, rfl⟩) hS ?_
              go_simp
              refine anyD_light (i := 15) (v := undef) rfl (by kernel_rfl) (by kernel_rfl) (by kernel_rfl) (by kernel_rfl) (by kernel_rfl) (fun _ _ _ h => h) (.inr ⟨by kernel_rfl, rfl⟩) hS ?_
              go_simp
              refine anyD_light (i := 16) (v := undef) rfl (by kernel_rfl) (by kernel_rfl) (by kernel_rfl) (by kernel_rfl) (by kernel_rfl) (fun _ _ _ h => h) (.inr ⟨by kernel_rfl, rfl⟩) hS ?_
              go_simp
              refine anyD_light (i := 17) (v := undef) rfl (by kernel_rfl) (by kernel_rfl) (by kernel_rfl) (by kernel_rfl) (by kernel_rfl) (fun _ _ _ h => h) (.inr ⟨by kernel_rfl, rfl⟩) hS ?_
              go_simp
              refine anyD_light (i := 18) (v := undef) rfl (by kernel_rfl) (by kernel_rfl) (by kernel_rfl) (by kernel_rfl) (by kernel_rfl) (fun _ _ _ h => h) (.inr ⟨by kernel_rfl, rfl⟩) hS ?_
              refine anyD_light (i := 19) (v := .bool false) rfl (by kernel_rfl) (by kernel_rfl) (by kernel_rfl) (by kernel_rfl) (by kernel_rfl) (fun _ _ _ h => h) (.inl ⟨by kernel_rfl, fun W' hW' => by go_simp⟩) hS ?_
              refine anyD_light (i := 20) (v := .bool false) rfl (by kernel_rfl) (by kernel_rfl) (by kernel_rfl) (by kernel_rfl) (by kernel_rfl) (fun _ _ _ h => h) (.inl ⟨by kernel_rfl, fun W' hW' => by go_simp⟩) hS ?_
              go_simp
              refine anyD_light (i := 21) (v := undef) rfl (by kernel_rfl) (by kernel_rfl) (by kernel_rfl) (by kernel_rfl) (by kernel_rfl) (fun _ _ _ h => h) (.inr ⟨by kernel_rfl, rfl⟩) hS ?_
              go_simp
              refine anyD_light (i := 22) (v := undef) rfl (by kernel_rfl) (by kernel_rfl) (by kernel_rfl) (by kernel_rfl) (by kernel_rfl) (fun _ _ _ h => h) (.inr ⟨by kernel_rfl, rfl⟩) hS ?_
              go_simp
              refine anyD_light (i := 23) (v := undef) rfl (by kernel_rfl) (by kernel_rfl) (by kernel_rfl) (by kernel_rfl) (by kernel_rfl) (fun _ _ _ h => h) (.inr ⟨by kernel_rfl, rfl⟩) hS ?_
              go_simp
              refine anyD_light (i := 24) (v := undef) rfl (by kernel_rfl) (by kernel_rfl) (by kernel_rfl) (by kernel_rfl) (by kernel_rfl) (fun _ _ _ h => h) (.inr ⟨by kernel_rfl, rfl⟩) hS ?_
              go_simp
              refine anyD_light (i := 25) (v := undef) rfl (by kernel_rfl) (by kernel_rfl) (by kernel_rfl) (by kernel_rfl) (by kernel_rfl) (fun _ _ _ h => h) (.inr ⟨by kernel_rfl, rfl⟩) hS ?_
              go_simp
              refine anyD_light (i := 26) (v := undef) rfl (by kernel_rfl) (by kernel_rfl) (by kernel_rfl) (by kernel_rfl) (by kernel_rfl) (fun _ _ _ h => h) (.inr ⟨by kernel_rfl, rfl⟩) hS ?_
              go_simp
              refine anyD_light (i := 27) (v := undef) rfl (by kernel_rfl) (by kernel_rfl) (by kernel_rfl) (by kernel_rfl) (by kernel_rfl) (fun _ _ _ h => h) (.inr ⟨by kernel_rfl, rfl⟩) hS ?_
              go_simp
              refine anyD_light (i := 28) (v := undef) rfl (by kernel_rfl) (by kernel_rfl) (by kernel_rfl) (by kernel_rfl) (by kernel_rfl) (fun _ _ _ h => h) (.inr ⟨by kernel_rfl, rfl⟩) hS ?_
              go_simp
              refine anyD_light (i := 29) (v := undef) rfl (by kernel_rfl) (by kernel_rfl) (by kernel_rfl) (by kernel_rfl) (by kernel_rfl) (fun _ _ _ h => h) (.inr ⟨by kernel_rfl, rfl⟩) hS ?_
              go_simp
              refine anyD_light (i := 30) (v := undef) rfl (by kernel_rfl) (by kernel_rfl) (by kernel_rfl) (by kernel_rfl) (by kernel_rfl) (fun _ _ _ h => h) (.inr ⟨by kernel_rfl, rfl⟩) hS ?_
              go_simp
              refine anyD_light (i := 31) (v := undef) rfl (by kernel_rfl) (by kernel_rfl) (by kernel_rfl) (by kernel_rfl) (by kernel_rfl) (fun _ _ _ h => h) (.inr ⟨by kernel_rfl, rfl⟩) hS ?_
              go_simp
              refine anyD_light (i := 32) (v := undef) rfl (by kernel_rfl) (by kernel_rfl) (by kernel_rfl) (by kernel_rfl) (by kernel_rfl) (fun _ _ _ h => h) (.inr ⟨by kernel_rfl, rfl⟩) hS ?_
              go_simp
              refine anyD_light (i := 33) (v := undef) rfl (by kernel_rfl) (by kernel_rfl) (by kernel_rfl) (by kernel_rfl) (by kernel_rfl) (fun _ _ _ h => h) (.inr ⟨by kernel_rfl, rfl⟩) hS ?_
              refine anyD_light (i := 34) (v := .bool false) rfl (by kernel_rfl) (by kernel_rfl) (by kernel_rfl) (by kernel_rfl) (by kernel_rfl) (fun _ _ _ h => h) (.inl ⟨by kernel_rfl, fun W' hW' => by go_simp⟩) hS ?_
              go_simp
              refine anyD_done (by kernel_rfl) ?_ _
              go_simp
              go_wp2_with fail
              go_meet
              case rel => exact ⟨rfl, hb12⟩
          case rest =>
            obtain ⟨rfl, hbc⟩ := hcut
            have hbw2 := hbz.trans (hbc.mono hbz.size)
            clear p0 p1 p2 Hpc He1 He2 Htt
            cases tt with
            | true =>
              have hst := Hst.out
              simp only [if_true] at hst
              have Hs3 := Lib.hid hst
              clear hst Hst
              go_wp2
              go_roundw
              case rel => exact ⟨i + 1, (i : Int), by omega, rfl, by go_num, Lib.hid Hs3.out.symm, hbw2⟩
              case measure => simp [intOf]; omega
            | false =>
              have hst := Hst.out
              simp only [Bool.false_eq_true, if_false] at hst
              have Hs3 := Lib.hid hst
              clear hst Hst
              go_wp2
              go_roundw
              case rel => exact ⟨i + 1, nx, by omega, rfl, by go_num, Lib.hid Hs3.out.symm, hbw2⟩
              case measure => simp [intOf]; omega
        · obtain rfl : i = l.length := by omega
          have hnx2 : nx = if h : j < K.length then (K[j] : Int) else -1 := by rw [hnx.out]; exact Hto2.out
          have hs := hs.ext hbz
          have o1z := o1.lt
          have o2z := o2.lt
          have o1 := o1.ext hbz
          have o2 := o2.ext hbz
          have hwr := hbr0.trans (hbz.mono hbr0.size)
          have hwz := hbz.size
          have hap := Hap.out
          clear hnx hbz hla Hto2
          by_cases hjl : j < K.length
          · rw [dif_pos hjl] at hnx2
            obtain ⟨kk, hkk⟩ : ∃ kk, K[j] = kk := ⟨_, rfl⟩
            rw [hkk] at hnx2
            subst hnx2
            have hkl := Hkl.out kk (hkk ▸ List.getElem_mem hjl)
            have hkd := Hkid.out kk (hkk ▸ List.getElem_mem hjl)
            have hst := Hstp.out j hjl
            rw [hkk] at hst
            have hlen := Hle.out (j + 1)
            rw [hst, List.length_append, List.length_cons] at hlen
            have hlen1 : L1.length = (shownTo l pp d j).length := by rw [hL1.out, List.length_map]
            have hlen2 : L2.length = (shownTo l pp d j).length := by rw [hL2.out, List.length_map]
            have hk0 : ((kk : Int) < 0) = False := by simp
            have hdw : IntKind.i64.wrap (d + 1) = d + 1 := IntWalk.i64_in _ (by omega)
            have hcall := Ih.out (kk : Int) (d + 1) wr hkd (by omega) (by omega) (by omega) (by omega) hs
            obtain ⟨Y, hY⟩ : ∃ Y, Th.shownA l (kk : Int) (d + 1) = Y := ⟨_, rfl⟩
            rw [hY] at hcall hst hlen
            have Hst := Lib.hid hst; have Hcall := Lib.hid hcall; have HL := Lib.hid (And.intro hlen (And.intro hlen1 hlen2))
            have Hl := Hls.out j hjl
            rw [hkk] at Hl
            have Hl := Lib.hid Hl
            have Ho1 := Lib.hid (And.intro o1z o2z); have Hap := Lib.hid hap
            clear hst hcall hlen hlen1 hlen2 hY o1z o2z hap
            go_wp2_with fail
            refine Hcall.out.mono ?_
            rintro e w3 ⟨A3, c3, M1, A4, c4, M2, rfl, hM1, hM2, p1, p2, hpa, hb3⟩
            have hz3 := hb3.size
            have o1 := o1.ext hb3
            have o2 := o2.ext hb3
            have hw3 := hwr.trans (hb3.mono hwr.size)
            have hM1l : M1.length = Y.length := by rw [hM1.out, List.length_map]
            have hM2l : M2.length = Y.length := by rw [hM2.out, List.length_map]
            have hb0 : w.heap.size ≤ w3.heap.size := hw3.size
            have HL := Lib.hid (And.intro HL.out (And.intro hM1l hM2l))
            clear Hcall hM1l hM2l hwr hb3 hs
            go_wp2_with (at_builtin; refine wpList_push_Own intC (M := M0) (B := w.heap.size) TIntsS rfl (.tmp 69) (.tmp 71) rfl rfl o1 rfl (cs := [.int .i64 (kk : Int)]) (y := (kk : Int)) ⟨rfl, by omega, by omega⟩ (fun _ h => h.elim) ?a1 ?b1 hb0 ?_)
            case a1 => have := HL.out; simp only [maxLen]; omega
            case b1 => have := HL.out; omega
            intro A5 c5 L5 w5 hL5 o5 hb5 hg5 hor5
            have n31 : ∀ b, (Value.slice A3 M1.length c3).ownBlock = some b → (Value.slice A1 L1.length c1).ownBlock ≠ some b := fun b h1 h2 => by
              have := p1.base b h1; have := Ho1.out.1 b h2; omega
            have n41 : ∀ b, (Value.slice A4 M2.length c4).ownBlock = some b → (Value.slice A1 L1.length c1).ownBlock ≠ some b := fun b h1 h2 => by
              have := p2.base b h1; have := Ho1.out.1 b h2; omega
            have n42 : ∀ b, (Value.slice A4 M2.length c4).ownBlock = some b → (Value.slice A2 L2.length c2).ownBlock ≠ some b := fun b h1 h2 => by
              have := p2.base b h1; have := Ho1.out.2 b h2; omega
            have p1z := p1.lt
            have p2z := p2.lt
            have o2z := o2.lt
            have p1 := p1.other hg5 n31
            have p2 := p2.other hg5 n41
            have o2 := o2.other hg5 fun b h1 h2 => Hap.out b h2 h1
            have x1 : SlR intC (fun b => M0 b ∨ (Value.slice A5 L5.length c5).ownBlock = some b) w5 (.slice A3 M1.length c3) M1 := (Own.intM p1).read fun b hb hor => by
              rcases hor with h | h
              · exact h
              · rcases hor5 with e | e
                · rw [e] at h; exact n31 b hb h
                · rw [e] at h; injection h with h; have := p1z b hb; omega
            have n45 : ∀ b, (Value.slice A4 M2.length c4).ownBlock = some b → (Value.slice A5 L5.length c5).ownBlock ≠ some b := fun b h1 h => by
              rcases hor5 with e | e
              · rw [e] at h; exact n41 b h1 h
              · rw [e] at h; injection h with h; have := p2z b h1; omega
            have n25 : ∀ b, (Value.slice A2 L2.length c2).ownBlock = some b → (Value.slice A5 L5.length c5).ownBlock ≠ some b := fun b h1 h => by
              rcases hor5 with e | e
              · rw [e] at h; exact Hap.out b h h1
              · rw [e] at h; injection h with h; have := o2z b h1; omega
            have hL5l : L5.length = L1.length + 1 := by rw [hL5.out]; simp
            have hb0 : w.heap.size ≤ w5.heap.size := Nat.le_trans hb0 hg5.size
            have hz5 := hg5.size
            have hw5 := hw3.trans hb5
            have HL := Lib.hid (And.intro hL5l HL.out)
            have N := Lib.hid (And.intro n42 (And.intro n45 n25))
            clear p1 o1 hb5 hg5 hw3 n31 n41 n42 n45 n25 hL5l p1z
            go_wp2_with (at_builtin; refine wpList_append_Own intC (M := M0) (B := w.heap.size) TIntsS rfl (.tmp 72) (.tmp 73) rfl rfl o5 rfl x1 ?a2 ?b2 hb0 ?_)
            case a2 => have := HL.out; simp only [maxLen]; omega
            case b2 => have := HL.out; omega
            intro A6 c6 L6 w6 hL6 o6 hb6 hg6 hor6
            have p2 := p2.other hg6 N.out.2.1
            have o2 := o2.other hg6 N.out.2.2
            have hz6 := hg6.size
            have hb0 : w.heap.size ≤ w6.heap.size := Nat.le_trans hb0 hg6.size
            have hw6 := hw5.trans hb6
            have n26 : ∀ b, (Value.slice A2 L2.length c2).ownBlock = some b → (Value.slice A6 L6.length c6).ownBlock ≠ some b := fun b h1 h => by
              rcases hor6 with e | e
              · rw [e] at h; exact N.out.2.2 b h1 h
              · rw [e] at h; injection h with h; have := o2z b h1; omega
            have hL6l : L6.length = L5.length + M1.length := by rw [hL6.out]; simp
            have HL := Lib.hid (And.intro hL6l HL.out)
            have N6 := Lib.hid n26
            clear o5 hb6 hg6 hw5 x1 hor5 hor6 n26 hL6l
            go_wp2_with (at_builtin; refine wpList_push_Own intC (M := M0) (B := w.heap.size) TIntsS rfl (.tmp 75) (.tmp 77) rfl rfl o2 rfl (cs := [.int .i64 d]) (y := d) ⟨rfl, by omega, by omega⟩ (fun _ h => h.elim) ?a3 ?b3 hb0 ?_)
            case a3 => have := HL.out; simp only [maxLen]; omega
            case b3 => have := HL.out; omega
            intro A7 c7 L7 w7 hL7 o7 hb7 hg7 hor7
            have o6z := o6.lt
            have p2z := p2.lt
            have o6 := o6.other hg7 fun b h1 h2 => N6.out b h2 h1
            have p2 := p2.other hg7 N.out.1
            have x2 : SlR intC (fun b => M0 b ∨ (Value.slice A7 L7.length c7).ownBlock = some b) w7 (.slice A4 M2.length c4) M2 := (Own.intM p2).read fun b hb hor => by
              rcases hor with h | h
              · exact h
              · rcases hor7 with e | e
                · rw [e] at h; exact N.out.1 b hb h
                · rw [e] at h; injection h with h; have := p2z b hb; omega
            have n67 : ∀ b, (Value.slice A6 L6.length c6).ownBlock = some b → (Value.slice A7 L7.length c7).ownBlock ≠ some b := fun b h1 h => by
              rcases hor7 with e | e
              · rw [e] at h; exact N6.out b h h1
              · rw [e] at h; injection h with h; have := o6z b h1; omega
            have hz7 := hg7.size
            have hb0 : w.heap.size ≤ w7.heap.size := Nat.le_trans hb0 hg7.size
            have hw7 := hw6.trans hb7
            have hL7l : L7.length = L2.length + 1 := by rw [hL7.out]; simp
            have HL := Lib.hid (And.intro hL7l HL.out)
            have N7 := Lib.hid n67
            clear o2 p2 hb7 hg7 hw6 hor7 n67 N6 N hL7l
            go_wp2_with (at_builtin; refine wpList_append_Own intC (M := M0) (B := w.heap.size) TIntsS rfl (.tmp 78) (.tmp 79) rfl rfl o7 rfl x2 ?a4 ?b4 hb0 ?_)
            case a4 => have := HL.out; simp only [maxLen]; omega
            case b4 => have := HL.out; omega
            intro A8 c8 L8 w8 hL8 o8 hb8 hg8 hor8
            have o6 := o6.other hg8 N7.out
            have hw8 := hw7.trans hb8
            have n68 : ∀ b, (Value.slice A6 L6.length c6).ownBlock = some b → (Value.slice A8 L8.length c8).ownBlock ≠ some b := fun b h1 h => by
              rcases hor8 with e | e
              · rw [e] at h; exact N7.out b h1 h
              · rw [e] at h; injection h with h; have := o6z b h1; omega
            have hF1 : Hid (L6 = (shownTo l pp d (j + 1)).map fun x => (x.1 : Int)) := Lib.hid (by rw [hL6.out, hL5.out, hL1.out, hM1.out, Hst.out]; simp)
            have hF2 : Hid (L8 = (shownTo l pp d (j + 1)).map fun x => x.2) := Lib.hid (by rw [hL8.out, hL7.out, hL2.out, hM2.out, Hst.out]; simp)
            have N68 := Lib.hid n68
            have HO := Lib.hid (And.intro o6 o8)
            clear o7 hb8 hg8 hor8 x2 hw7 n68 o6 o8 o6z p2z o2z hb0 hz3 hz5 hz6 hz7 hwz hpa hkk hi hlt hs hkd hkl hk0 hdw o1 o2 p1 p2
            go_wp2
            go_roundw
            case rel => exact ⟨j + 1, (kk : Int), A6, c6, L6, A8, c8, L8, hjl, rfl, Lib.hid Hl.out.symm, rfl, rfl, hF1, hF2, HO.out.1, HO.out.2, N68.out, hw8⟩
            case measure => have := HL.out; simp only [lenOf]; omega
          · rw [dif_neg hjl] at hnx2
            subst hnx2
            obtain rfl : j = K.length := by omega
            have ha := Hall.out
            go_wp2
            refine bodyPost_ret (v := .tuple #[.slice A1 L1.length c1, .slice A2 L2.length c2]) (by simp [results, Try.results13, go_sem]) rfl ⟨A1, c1, L1, A2, c2, L2, rfl, Lib.hid (by rw [hL1.out, ha]), Lib.hid (by rw [hL2.out, ha]), o1, o2, hap, hwr⟩
end Go.Proofs.Ytclobnojpmgmaaa

