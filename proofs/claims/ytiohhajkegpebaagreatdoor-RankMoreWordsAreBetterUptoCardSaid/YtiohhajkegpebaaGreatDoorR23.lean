/-
  Contracts and plain facts, one after another: rank.score; rank.Score; rank.Order: the comparison of two texts.
-/
import Derived.Test.YtiohhajkegpebaaGreatDoorR13
import Derived.Test.YtiohhajkegpebaaGreatDoorR17
import Derived.Test.YtiohhajkegpebaaGreatDoorIxB
import Derived.Test.YtiohhajkegpebaaGreatDoorR12
import Derived.Test.YtiohhajkegpebaaGreatDoorQyNd
import Derived.Test.YtiohhajkegpebaaGreatDoorR22
import Derived.Test.YtiohhajkegpebaaGreatDoorR19
import Derived.Deep.RegionWith
namespace Go.Proofs.YtiohhajkegpebaaGreatDoor
open Go.RowKit
set_option linter.unusedVariables false
namespace Rk
/-- what some postings count for a text -/
def postSum (W id : Int) (ps : List Ix.Post) : Int := (ps.map fun p => if p.1 = id then W * min (p.2.length : Int) 10 else 0).sum
def scoreG (x : Ix.Idx) (l : List Str) (id : Int) : Int := (l.map fun s => postSum (weight x s) id ((Al.look x.2 s).getD [])).sum
theorem sum_snoc (l : List Int) (a : Int) : (l ++ [a]).sum = l.sum + a := by rw [List.sum_append]; simp
theorem postSum_bound {W id : Int} (hW : 0 ≤ W) : ∀ ps : List Ix.Post, 0 ≤ postSum W id ps ∧ postSum W id ps ≤ (ps.length : Int) * (W * 10)
  | [] => by simp [postSum]
  | p :: ps => by
    have ih := postSum_bound (W := W) (id := id) hW ps
    unfold postSum at ih ⊢
    rw [List.map_cons, List.sum_cons, List.length_cons]
    have h1 : 0 ≤ W * min (p.2.length : Int) 10 := Int.mul_nonneg hW (by omega)
    have h2 : W * min (p.2.length : Int) 10 ≤ W * 10 := Int.mul_le_mul_of_nonneg_left (by omega) hW
    have h3 : ((ps.length + 1 : Nat) : Int) * (W * 10) = (ps.length : Int) * (W * 10) + W * 10 := by rw [Int.natCast_add, Int.add_mul]; simp
    rw [h3]
    split <;> omega
theorem postSum_zero {W id : Int} : ∀ ps : List Ix.Post, (∀ p ∈ ps, p.1 ≠ id) → postSum W id ps = 0
  | [], _ => rfl
  | p :: ps, h => by
    have ih := postSum_zero (W := W) ps fun q hq => h q (.tail _ hq)
    unfold postSum at ih ⊢
    rw [List.map_cons, List.sum_cons, ih, if_neg (h p (.head _))]
    rfl
theorem postSum_look {W id : Int} : ∀ ps : List Ix.Post, Al.Sorted Ix.ltI ps → postSum W id ps = W * min ((((Al.look ps id).getD []).length : Nat) : Int) 10
  | [], _ => by
    show (0 : Int) = W * min 0 10
    rw [show min (0 : Int) 10 = 0 by decide, Int.mul_zero]
  | p :: ps, h => by
    unfold Al.Sorted at h
    rw [List.pairwise_cons] at h
    rw [Al.look]
    by_cases hp : p.1 = id
    · have h0 : postSum W id ps = 0 := postSum_zero ps fun q hq e => by
        have := h.1 q hq
        rw [hp, e] at this
        simp [Ix.ltI] at this
      rw [if_pos hp]
      unfold postSum at h0 ⊢
      rw [List.map_cons, List.sum_cons, h0, if_pos hp]
      simp
    · have ih := postSum_look (W := W) (id := id) ps h.2
      rw [if_neg hp, ← ih]
      unfold postSum
      rw [List.map_cons, List.sum_cons, if_neg hp]
      simp
theorem score_same {x : Ix.Idx} (h : Ix.Wf x.2) (l : List Str) (id : Int) : scoreG x l id = scoreF x l id := by
  unfold scoreG scoreF
  congr 1
  refine List.map_congr_left fun s _ => ?_
  unfold Ix.cont
  cases hl : Al.look x.2 s with
  | none =>
    show (0 : Int) = weight x s * min 0 10
    rw [show min (0 : Int) 10 = 0 by decide, Int.mul_zero]
  | some ps =>
    have hm := Al.look_mem hl
    have hs := (h.post _ hm).2.1
    exact postSum_look ps hs
end Rk
namespace Rk
theorem postSum_take (W id : Int) (ps : List Ix.Post) {m : Nat} (h : m < ps.length) : postSum W id (ps.take (m + 1)) = postSum W id (ps.take m) + (if ps[m].1 = id then W * min (ps[m].2.length : Int) 10 else 0) := by
  unfold postSum
  rw [List.take_succ_eq_append_getElem h, List.map_append, List.sum_append]
  simp
theorem weight_eq (n k : Nat) : Int.tdiv (1000 * ((n : Int) + 1)) ((k : Int) + 1) = 1000 * ((n : Int) + 1) / ((k : Int) + 1) := Int.tdiv_eq_ediv_of_nonneg (by omega)
theorem weight_le (n k : Nat) (h : n ≤ 300) : 0 ≤ 1000 * ((n : Int) + 1) / ((k : Int) + 1) ∧ 1000 * ((n : Int) + 1) / ((k : Int) + 1) ≤ 301000 := by
  refine ⟨Int.ediv_nonneg (by omega) (by omega), Int.le_trans (Int.ediv_le_self _ (by omega)) (by omega)⟩
end Rk
set_option maxRecDepth 100000 in
set_option maxHeartbeats 8000000 in
theorem rscore_ok (a b : Value) (x : Ix.Idx) (lv : Value) (l : List Str) (id : Int) (w : World) (h0 : SlR intC M0 w a x.1) (h1 : SlR termC M0 w b x.2) (hl : SlR strC M0 w lv l) (hcan : Ix.Canon x) (hln : l.length ≤ 10000) :
    Calls Tryz.prog 23 #[.agg #[a, b], lv, .int .i64 id] w fun e w' => e = .returned (.int .i64 (Rk.scoreF x l id)) ∧ Below w.heap.size w w' := by
  rw [← Rk.score_same hcan.wf]
  obtain ⟨A0, c0, rfl, _, _⟩ := h0.form
  obtain ⟨A1, c1, rfl, _, _⟩ := h1.form
  obtain ⟨Aq, cl, rfl, _, _⟩ := hl.form
  have hfew := hcan.few
  have hps : ∀ s, ((Al.look x.2 s).getD []).length ≤ 1000000 := fun s => by
    cases hk : Al.look x.2 s with
    | none => simp
    | some ps => exact (hcan.small.posts _ (Al.look_mem hk)).1
  obtain ⟨W, g, hW, hg, hs, kb, hal⟩ := boxA w #[.slice A0 x.1.length c0, .slice A1 x.2.length c1] 32
  have hof := fun s V (hb : Below W.heap.size W V) => indexOf_ok (.slice A0 x.1.length c0) (.slice A1 x.2.length c1) x.2 s V (h1.ext (hal.trans (hb.mono hal.size))) hcan.srt hcan.many hcan.small.posts
  obtain ⟨n0, hn0⟩ : ∃ n, x.1.length = n := ⟨_, rfl⟩
  obtain ⟨n1, hn1⟩ : ∃ n, x.2.length = n := ⟨_, rfl⟩
  have hwt : ∀ s, Rk.weight x s = 1000 * ((n0 : Int) + 1) / ((((Al.look x.2 s).getD []).length : Int) + 1) := fun s => by unfold Rk.weight; rw [hn0]
  rw [hn0, hn1] at hof kb hW ⊢
  rw [hn0] at hfew
  obtain ⟨f, hf⟩ : ∃ f : Str → Int, (fun s => Rk.postSum (Rk.weight x s) id ((Al.look x.2 s).getD [])) = f := ⟨_, rfl⟩
  have hscore : Rk.scoreG x l id = (l.map f).sum := by unfold Rk.scoreG; rw [hf]
  rw [hscore]
  have hfb : ∀ s, 0 ≤ f s ∧ f s ≤ 3010000000000 := fun s => by
    rw [← hf]
    dsimp only
    have h3 := Rk.weight_le n0 ((Al.look x.2 s).getD []).length hfew
    have h4 := Rk.postSum_bound (W := Rk.weight x s) (id := id) (by rw [hwt]; exact h3.1) ((Al.look x.2 s).getD [])
    have h5 := hps s
    rw [hwt] at h4 ⊢
    generalize 1000 * ((n0 : Int) + 1) / ((((Al.look x.2 s).getD []).length : Int) + 1) = Wt at h3 h4 ⊢
    refine ⟨h4.1, Int.le_trans h4.2 ?_⟩
    have h6 : (((Al.look x.2 s).getD []).length : Int) * (Wt * 10) ≤ 1000000 * (Wt * 10) := Int.mul_le_mul_of_nonneg_right (by omega) (by omega)
    omega
  have hsb : ∀ k, k ≤ l.length → 0 ≤ ((l.take k).map f).sum ∧ ((l.take k).map f).sum ≤ (k : Int) * 3010000000000 := by
    intro k
    induction k with
    | zero => intro _; simp
    | succ k ih =>
      intro hk
      have h1 := ih (by omega)
      have h2 := hfb (l[k]'(by omega))
      rw [List.take_succ_eq_append_getElem (by omega), List.map_append, List.sum_append]
      simp only [List.map_cons, List.map_nil, List.sum_cons, List.sum_nil]
      omega
  have HW := Lib.hid hW; have Hkb := Lib.hid kb; have Hof := Lib.hid hof; have Hal := Lib.hid hal; have Hl := Lib.hid (hl.ext hal); have Hwt := Lib.hid hwt; have Hf := Lib.hid hf; have Hps := Lib.hid hps; have Hsb := Lib.hid hsb; have Hfb := Lib.hid hfb
  clear hW hs kb hof hal h0 h1 hl hwt hf hps hsb hfb hcan hscore hn0 hn1
  go_enter Tryz.func23, Tryz.ntmps23
  go_wp2_with fail
  rw [HW.out]
  try rw [hg]
  clear hg
  go_loopw [7, 16] (fun sv iv wr => ∃ k : Nat, k ≤ l.length ∧ iv = .int .i64 (k : Int) ∧ sv = .int .i64 (((l.take k).map f).sum) ∧ Below W.heap.size W wr) (fun _ iv _ => l.length - (intOf iv).toNat)
  case atStart => exact ⟨0, Nat.zero_le _, rfl, rfl, Below.refl _ _⟩
  case round =>
    obtain ⟨k, hk, rfl, rfl, hb⟩ := hrel
    obtain ⟨wo, rfl⟩ : ∃ W, W = wr := ⟨_, rfl⟩
    have hsk := Hsb.out k hk
    by_cases hlt : k < l.length
    · have hki : (k : Int) < (l.length : Int) := by omega
      have hk0 : (0 : Int) ≤ (k : Int) := by omega
      obtain ⟨lb, lo, rfl, _, _, p0, _⟩ := (Hl.out.ext hb).strAt hlt
      obtain ⟨q0, q1, _⟩ := (Hkb.out.ext hb).two
      have htk : ((l.take (k + 1)).map f).sum = ((l.take k).map f).sum + f l[k] := by
        rw [List.take_succ_eq_append_getElem hlt, List.map_append, List.sum_append]; simp
      obtain ⟨s, hs⟩ : ∃ s, l[k] = s := ⟨_, rfl⟩
      rw [hs] at p0 htk
      have hof := Hof.out s wo hb
      obtain ⟨ps, hpsq⟩ : ∃ ps, (Al.look x.2 s).getD [] = ps := ⟨_, rfl⟩
      have hpl := Hps.out s
      have hwq := Hwt.out s
      have hfs : f s = Rk.postSum (Rk.weight x s) id ps := by rw [← Hf.out, ← hpsq]
      rw [hpsq] at hof hpl hwq
      obtain ⟨Wt, hWt⟩ : ∃ W, Rk.weight x s = W := ⟨_, rfl⟩
      rw [hWt] at hwq hfs
      have hwl := Rk.weight_le n0 ps.length hfew
      rw [← hwq] at hwl
      have htd : Int.tdiv (1000 * ((n0 : Int) + 1)) ((ps.length : Int) + 1) = Wt := by rw [Rk.weight_eq, hwq]
      obtain ⟨S0, hS0⟩ : ∃ S, ((l.take k).map f).sum = S := ⟨_, rfl⟩
      rw [hS0] at hsk htk ⊢
      have Hof2 := Lib.hid hof; have Htk := Lib.hid htk; have Hfs := Lib.hid hfs; have Hb := Lib.hid hb
      have hw1 : IntKind.i64.wrap ((n0 : Int) + 1) = (n0 : Int) + 1 := IntWalk.i64_in _ (by omega)
      have hw2 : IntKind.i64.wrap (1000 * ((n0 : Int) + 1)) = 1000 * ((n0 : Int) + 1) := IntWalk.i64_in _ (by omega)
      have hw3 : IntKind.i64.wrap ((ps.length : Int) + 1) = (ps.length : Int) + 1 := IntWalk.i64_in _ (by omega)
      have hw4 : IntKind.i64.wrap Wt = Wt := IntWalk.i64_in _ (by omega)
      have hw5 : ¬ ((ps.length : Int) + 1) = 0 := by omega
      clear hof htk hfs hb hs hpsq hwq hWt hS0
      go_wp2_with fail
      refine Hof2.out.mono ?_
      clear Hof2 p0
      rintro e w1 ⟨v, rfl, hv, hb1⟩
      obtain ⟨A2, c2, rfl, _, _⟩ := hv.form
      have hb01 := Hb.out.trans (hb1.mono Hb.out.size)
      clear q0 q1
      obtain ⟨q0, q1, _⟩ := (Hkb.out.ext hb01).two
      have Hv := Lib.hid hv.zero; have Hb01 := Lib.hid hb01
      clear hv hb1 hb01
      go_wp2_with fail
      clear q0 q1
      go_loopw [7, 34] (fun sv jv wr => ∃ m : Nat, m ≤ ps.length ∧ jv = .int .i64 (m : Int) ∧ sv = .int .i64 (S0 + Rk.postSum Wt id (ps.take m)) ∧ Below w1.heap.size w1 wr) (fun _ jv _ => ps.length - (intOf jv).toNat)
      case atStart => exact ⟨0, Nat.zero_le _, rfl, by simp [Rk.postSum], Below.refl _ _⟩
      case round =>
        obtain ⟨m, hm, rfl, rfl, hb2⟩ := hrel
        obtain ⟨wi, rfl⟩ : ∃ W, W = wr := ⟨_, rfl⟩
        have hpb := Rk.postSum_bound (W := Wt) (id := id) hwl.1 (ps.take m)
        have hml : ((ps.take m).length : Int) * (Wt * 10) ≤ 1000000 * (Wt * 10) := Int.mul_le_mul_of_nonneg_right (by rw [List.length_take]; omega) (by omega)
        by_cases hml2 : m < ps.length
        · have hmi : (m : Int) < (ps.length : Int) := by omega
          have hm0 : (0 : Int) ≤ (m : Int) := by omega
          obtain ⟨pb, po, A4, c4, rfl, _, _, r0, r1, _, _, _⟩ := (Hv.out.ext hb2).postAt hml2
          have htk2 := Rk.postSum_take Wt id ps hml2
          obtain ⟨pi, hpi⟩ : ∃ i, ps[m].1 = i := ⟨_, rfl⟩
          obtain ⟨pn, hpn⟩ : ∃ n, ps[m].2.length = n := ⟨_, rfl⟩
          rw [hpi] at r0 htk2
          rw [hpn] at r1 htk2
          obtain ⟨mn, hmn⟩ : ∃ mn : Int, min (pn : Int) 10 = mn := ⟨_, rfl⟩
          have hmb : 0 ≤ mn ∧ mn ≤ 10 := by omega
          rw [hmn] at htk2
          obtain ⟨S1, hS1⟩ : ∃ S, Rk.postSum Wt id (ps.take m) = S := ⟨_, rfl⟩
          rw [hS1] at htk2 hpb ⊢
          have hpr : 0 ≤ Wt * mn ∧ Wt * mn ≤ Wt * 10 := ⟨Int.mul_nonneg hwl.1 hmb.1, Int.mul_le_mul_of_nonneg_left hmb.2 hwl.1⟩
          have hv1 : IntKind.i64.wrap (Wt * mn) = Wt * mn := IntWalk.i64_in _ (by omega)
          have hv2 : IntKind.i64.wrap (S0 + S1 + Wt * mn) = S0 + S1 + Wt * mn := IntWalk.i64_in _ (by omega)
          obtain ⟨V, gV, hV, hgV, hsV, kV, hbV⟩ := boxA wi #[.int .i64 pi, .slice A4 pn c4] 56
          obtain ⟨y0, y1, _⟩ := kV.two
          have Htk2 := Lib.hid htk2; have HbV := Lib.hid (hb2.trans (hbV.mono hb2.size))
          clear htk2 hpi hpn hS1 hsV kV hbV hb2 hml hpb
          by_cases hpid : pi = id
          · subst hpid
            go_wp2_with fail
            go_roundw
            case rel => exact ⟨m + 1, by omega, by go_num, by rw [Htk2.out, if_pos rfl, Int.add_assoc], HbV.out⟩
            case measure => simp [intOf]; omega
          · have hpe : (pi == id) = false := by simpa using hpid
            have Hpid := Lib.hid hpid
            clear hpid
            go_wp2_with fail
            go_roundw
            case rel => exact ⟨m + 1, by omega, by go_num, by rw [Htk2.out, if_neg Hpid.out, Int.add_zero], HbV.out⟩
            case measure => simp [intOf]; omega
        · have hmi : ¬ (m : Int) < (ps.length : Int) := by omega
          have hme : ps.take m = ps := List.take_of_length_le (by omega)
          rw [hme]
          have hend : S0 + Rk.postSum Wt id ps = ((l.take (k + 1)).map f).sum := by rw [Htk.out, Hfs.out]
          rw [hend]
          have Hb2 := Lib.hid (Hb01.out.trans (hb2.mono Hb01.out.size))
          clear hme hend hb2
          go_wp2_with fail
          go_roundw
          case rel => exact ⟨k + 1, by omega, by go_num, rfl, Hb2.out⟩
          case measure => simp [intOf]; omega
    · have hki : ¬ (k : Int) < (l.length : Int) := by omega
      have hke : l.take k = l := List.take_of_length_le (by omega)
      rw [hke]
      have Hb := Lib.hid hb
      clear hke hb
      go_wp2_with fail
      go_ret
      exact ⟨rfl, Hal.out.trans (Hb.out.mono Hal.out.size)⟩
end Go.Proofs.YtiohhajkegpebaaGreatDoor
namespace Go.Proofs.YtiohhajkegpebaaGreatDoor
open Go.RowKit
set_option linter.unusedVariables false
namespace Rk
/-- what rank.Score answers: the score and the fault -/
def scoreR (x : Ix.Idx) (q : Q) (xs : List Str) (id : Int) : Int × Int × Int :=
  if (Sr.findR x q).2.1 ≠ 0 then (0, (Sr.findR x q).2) else if x.1.contains id then (scoreF x (countF xs) id, 0, 0) else (0, 6, -3)
theorem countF_len (xs : List Str) : (countF xs).length ≤ xs.length := by
  unfold countF
  exact Nat.le_trans (compact_len _) (by rw [sort_len]; exact Nat.le_refl _)
end Rk
set_option maxRecDepth 100000 in
set_option maxHeartbeats 8000000 in
theorem rankScore_ok (a b qv : Value) (x : Ix.Idx) (q : Q) (f : Nat) (xs : List Str) (id : Int) (w : World) (h0 : SlR intC M0 w a x.1) (h1 : SlR termC M0 w b x.2) (hq : QAt f M0 w qv q) (hcan : Ix.Canon x) (hsz : SzIx x.2) (hbk : q.bulk ≤ 4000000) (hT : TabsU w)
    (hit : ∀ V cs, Below w.heap.size w V → qv = .agg cs → StemsIt cs xs V) (hx : ∀ s ∈ xs, s.length ≤ maxLen) (hn : xs.length ≤ 10000) :
    Calls Tryz.prog 7 #[.agg #[a, b], qv, .int .i64 id] w fun e w' => e = .returned (.tuple #[.int .i64 (Rk.scoreR x q xs id).1, .agg #[.int .i64 (Rk.scoreR x q xs id).2.1, .int .i64 (Rk.scoreR x q xs id).2.2]]) ∧ Below w.heap.size w w' := by
  obtain ⟨A0, c0, rfl, _, _⟩ := h0.form
  obtain ⟨A1, c1, rfl, _, _⟩ := h1.form
  have hq' := hq
  obtain ⟨A, c, rfl, _, _, _, _⟩ := hq'
  obtain ⟨W, g, hW, hg, hs, kX, kQ, kF, hal⟩ := box3 w #[.slice A0 x.1.length c0, .slice A1 x.2.length c1] #[.int .i64 q.kind, .string (bs q.text), .int .i64 q.num, .slice A q.parts.length c] #[.int .i64 0, .int .i64 0] 32 25 27
  have hfd := sfind_ok (.slice A0 x.1.length c0) (.slice A1 x.2.length c1) _ x q f W (h0.ext hal) (h1.ext hal) (hq.ext hal) hsz hbk (hT.ext hal)
  have hcn := fun V (hb : Below w.heap.size w V) => counted_ok (.int .i64 q.kind) (.string (bs q.text)) (.int .i64 q.num) (.slice A q.parts.length c) xs V (hit V _ hb rfl) hx (by omega)
  have hsc := fun V v (hb : Below w.heap.size w V) (hv : SlR strC M0 V v (Rk.countF xs)) => rscore_ok (.slice A0 x.1.length c0) (.slice A1 x.2.length c1) x v (Rk.countF xs) id V (h0.ext hb) (h1.ext hb) hv hcan (Nat.le_trans (Rk.countF_len xs) hn)
  have hct := fun V (hb : Below w.heap.size w V) => contInt_ok x.1 (.slice A0 x.1.length c0) id V (h0.ext hb)
  obtain ⟨fa, hfa⟩ : ∃ y, (Sr.findR x q).2.1 = y := ⟨_, rfl⟩
  obtain ⟨fb, hfb⟩ : ∃ y, (Sr.findR x q).2.2 = y := ⟨_, rfl⟩
  obtain ⟨R, hR⟩ : ∃ R, Rk.scoreR x q xs id = R := ⟨_, rfl⟩
  unfold SFindAt at hfd
  rw [hfa, hfb] at hfd
  rw [hR]
  have hRe := hR
  unfold Rk.scoreR at hRe
  obtain ⟨F, hF⟩ : ∃ F, (Sr.findR x q) = F := ⟨_, rfl⟩
  rw [hF] at hfd hfa hfb hRe
  obtain ⟨kn, hkn⟩ : ∃ k, q.kind = k := ⟨_, rfl⟩
  obtain ⟨tx, htx⟩ : ∃ k, bs q.text = k := ⟨_, rfl⟩
  obtain ⟨nm, hnm⟩ : ∃ k, q.num = k := ⟨_, rfl⟩
  obtain ⟨pl, hpl⟩ : ∃ k, q.parts.length = k := ⟨_, rfl⟩
  obtain ⟨xl, hxl⟩ : ∃ k, x.1.length = k := ⟨_, rfl⟩
  obtain ⟨tl, htl⟩ : ∃ k, x.2.length = k := ⟨_, rfl⟩
  rw [hkn, htx, hnm, hpl] at hfd hcn hW kQ ⊢
  rw [hxl, htl] at hfd hsc hW kX ⊢
  rw [hxl] at hct
  obtain ⟨q0, q1, q2, q3, _⟩ := kQ.fourV
  obtain ⟨x0, x1, _⟩ := kX.two
  have HW := Lib.hid hW; have Hfd := Lib.hid hfd; have Hcn := Lib.hid hcn; have Hsc := Lib.hid hsc; have Hct := Lib.hid hct; have HRe := Lib.hid hRe; have Hfa := Lib.hid hfa; have Hfb := Lib.hid hfb
  have HX := Lib.hid kX; have HQ := Lib.hid kQ; have HF := Lib.hid kF; have Hal := Lib.hid hal
  have hgw : w.heap.size ≤ g := by omega
  clear hW hs kX kQ kF hal hfd hcn hsc hct hRe hfa hfb hF hR h0 h1 hq hit hkn htx hnm hpl hxl htl hx hn hcan hsz hbk hT
  go_enter Tryz.func7, Tryz.ntmps7
  go_wp2_with fail
  rw [HW.out]
  refine Hfd.out.mono ?_
  clear Hfd q0 q1 q2 q3 x0 x1
  rintro e w3 ⟨A3, c3, L, rfl, hL, hown, hb3⟩
  obtain ⟨U, gu, hU, hgu, hsu, kU, halU⟩ := boxA w3 #[.int .i64 fa, .int .i64 fb] 27
  have hbWU := hb3.trans (halU.mono hb3.size)
  obtain ⟨i0, i1, _⟩ := kU.two
  have HU := Lib.hid hU; have HkU := Lib.hid kU; have HbWU := Lib.hid hbWU
  clear hL hown hb3 halU hbWU kU hsu hU
  go_wp2_with fail
  rw [HU.out]
  refine (failed_ok fa fb U).mono ?_
  rintro e w4 ⟨rfl, hb4⟩
  have hbW4 := HbWU.out.trans (hb4.mono HbWU.out.size)
  have hb04 := Hal.out.trans (hbW4.mono Hal.out.size)
  have kX4 := HX.out.ext hbW4
  have kQ4 := HQ.out.ext hbW4
  have kF4 := HF.out.ext hbW4
  clear i0 i1
  obtain ⟨i0, i1, _⟩ := (HkU.out.ext hb4).two
  obtain ⟨x0, x1, _⟩ := kX4.two
  obtain ⟨q0, q1, q2, q3, _⟩ := kQ4.fourV
  obtain ⟨y0, y1, y2, y3, _⟩ := kF4.two
  have HX4 := Lib.hid kX4; have HQ4 := Lib.hid kQ4; have HF4 := Lib.hid kF4; have Hb04 := Lib.hid hb04; have HU4 := Lib.hid (HkU.out.ext hb4)
  clear kX4 kQ4 kF4 hbW4 hb04 hb4 hgu
  by_cases hf0 : fa = 0
  · subst hf0
    have hcond : ((0 : Int) != 0) = false := rfl
    have hct := Hct.out w4 Hb04.out
    obtain ⟨B, hB⟩ : ∃ B, x.1.contains id = B := ⟨_, rfl⟩
    rw [hB] at hct
    have Hct4 := Lib.hid hct; have HB := Lib.hid hB
    clear hct hB
    go_wp2_with fail
    refine Hct4.out.mono ?_
    rintro e w5 ⟨rfl, rfl⟩
    cases B with
    | false =>
      go_wp2_with fail
      refine (fault_ok _ _ _).mono ?_
      clear i0 i1 x0 x1 q0 q1 q2 q3 y0 y1 y2 y3
      rintro e w6 ⟨rfl, hb6⟩
      have kF6 := HF4.out.ext hb6
      obtain ⟨y0, y1, y2, y3, _⟩ := kF6.two
      have Hb6 := Lib.hid (Hb04.out.trans (hb6.mono Hb04.out.size)); have HF6 := Lib.hid kF6
      clear kF6 hb6
      go_wp2_with fail
      obtain ⟨V, hV⟩ : ∃ V, (w6.setCell ⟨g + 1 + 1, 0, none⟩ (.int .i64 6)).setCell ⟨g + 1 + 1, 1, none⟩ (.int .i64 (-3)) = V := ⟨_, rfl⟩
      have k9 : Blk V (g + 1 + 1) 27 #[.int .i64 6, .int .i64 (-3)] := by
        rw [← hV]; simpa using (HF6.out.set_ 0 (.int .i64 6)).set_ 1 (.int .i64 (-3))
      have hb9 : Below w.heap.size w V := by
        rw [← hV]; exact (Hb6.out.setCell (p := ⟨g + 1 + 1, 0, none⟩) (by show w.heap.size ≤ g + 1 + 1; omega) _).setCell (p := ⟨g + 1 + 1, 1, none⟩) (by show w.heap.size ≤ g + 1 + 1; omega) _
      rw [hV]
      obtain ⟨t0, t1, _⟩ := k9.two
      have hRR := HRe.out
      rw [Hfa.out, HB.out, if_neg (by simp), if_neg (by simp)] at hRR
      subst hRR
      exact bodyPost_ret (v := .tuple #[.int .i64 0, .agg #[.int .i64 6, .int .i64 (-3)]]) (by simp [results, Tryz.results7, go_sem, t0, t1]) rfl ⟨rfl, hb9⟩
    | true =>
      go_wp2_with fail
      have hbd : Below w5.heap.size w5 w5.drew := (Below.refl _ _).drew
      obtain ⟨x0, x1, _⟩ := (HX4.out.ext hbd).two
      obtain ⟨q0, q1, q2, q3, _⟩ := (HQ4.out.ext hbd).fourV
      have Hcnd := Lib.hid (Hcn.out w5.drew (Hb04.out.trans (hbd.mono Hb04.out.size)))
      clear i0 i1 hbd y0 y1 y2 y3
      go_region_with (first
        | (go_at_call 24; refine Hcnd.out.mono ?_; rintro e w6 ⟨v, rfl, hown, hb6⟩; obtain ⟨A2, c2, hv2, _, _⟩ := hown.read0.form; subst hv2; have hb56 : Below w5.heap.size w5 w6 := (Below.refl w5.heap.size w5).drew.trans hb6; obtain ⟨x2, x3, _⟩ := (HX4.out.ext hb56).two; have Hb06 := Lib.hid (Hb04.out.trans (hb56.mono Hb04.out.size)); have Hsc6 := Lib.hid (Hsc.out w6 _ Hb06.out hown.read0); have HF6 := Lib.hid (HF4.out.ext hb56); clear hown hb6 hb56)
        | (go_at_call 23; refine Hsc6.out.mono ?_; rintro e w7 ⟨rfl, hb7⟩)
        | (go_at_call 25; refine (none_ok _).mono ?_; rintro e w8 ⟨rfl, hb8⟩; have hb08 := Hb06.out.trans ((hb7.mono Hb06.out.size).trans (hb8.mono (Nat.le_trans Hb06.out.size hb7.size))); have kF8 := (HF6.out.ext hb7).ext hb8; obtain ⟨y0, y1, y2, y3, _⟩ := kF8.two))
      all_goals
        have HF8 := Lib.hid kF8; have Hb08 := Lib.hid hb08
        clear kF8 hb08 hb7 hb8
        go_wp2_with fail
        obtain ⟨V, hV⟩ : ∃ V, (w8.setCell ⟨g + 1 + 1, 0, none⟩ (.int .i64 0)).setCell ⟨g + 1 + 1, 1, none⟩ (.int .i64 0) = V := ⟨_, rfl⟩
        have k9 : Blk V (g + 1 + 1) 27 #[.int .i64 0, .int .i64 0] := by
          rw [← hV]; simpa using (HF8.out.set_ 0 (.int .i64 0)).set_ 1 (.int .i64 0)
        have hb9 : Below w.heap.size w V := by
          rw [← hV]; exact (Hb08.out.setCell (p := ⟨g + 1 + 1, 0, none⟩) (by show w.heap.size ≤ g + 1 + 1; omega) _).setCell (p := ⟨g + 1 + 1, 1, none⟩) (by show w.heap.size ≤ g + 1 + 1; omega) _
        rw [hV]
        obtain ⟨t0, t1, _⟩ := k9.two
        have hRR := HRe.out
        rw [Hfa.out, HB.out, if_neg (by simp), if_pos rfl] at hRR
        subst hRR
        exact bodyPost_ret (v := .tuple #[.int .i64 (Rk.scoreF x (Rk.countF xs) id), .agg #[.int .i64 0, .int .i64 0]]) (by simp [results, Tryz.results7, go_sem, t0, t1]) rfl ⟨rfl, hb9⟩
  · have hcond : (fa != 0) = true := by simpa using hf0
    have Hf0 := Lib.hid hf0
    clear hf0
    go_wp2_with fail
    go_region
    go_wp2_with fail
    obtain ⟨V, hV⟩ : ∃ V, (w4.setCell ⟨g + 1 + 1, 0, none⟩ (.int .i64 fa)).setCell ⟨g + 1 + 1, 1, none⟩ (.int .i64 fb) = V := ⟨_, rfl⟩
    have k9 : Blk V (g + 1 + 1) 27 #[.int .i64 fa, .int .i64 fb] := by
      rw [← hV]; simpa using (HF4.out.set_ 0 (.int .i64 fa)).set_ 1 (.int .i64 fb)
    have hb9 : Below w.heap.size w V := by
      rw [← hV]; exact (Hb04.out.setCell (p := ⟨g + 1 + 1, 0, none⟩) (by show w.heap.size ≤ g + 1 + 1; omega) _).setCell (p := ⟨g + 1 + 1, 1, none⟩) (by show w.heap.size ≤ g + 1 + 1; omega) _
    rw [hV]
    obtain ⟨t0, t1, _⟩ := k9.two
    have hRR := HRe.out
    rw [Hfa.out, if_pos Hf0.out] at hRR
    subst hRR
    exact bodyPost_ret (v := .tuple #[.int .i64 0, .agg #[.int .i64 fa, .int .i64 fb]]) (by simp [results, Tryz.results7, go_sem, t0, t1]) rfl ⟨by rw [Hfa.out, Hfb.out], hb9.drew⟩
end Go.Proofs.YtiohhajkegpebaaGreatDoor
namespace Go.Proofs.YtiohhajkegpebaaGreatDoor
open Go.RowKit
set_option linter.unusedVariables false
namespace Rk
theorem term_bound (x : Ix.Idx) (s : Str) (id : Int) (h : x.1.length ≤ 300) : 0 ≤ weight x s * min ((Ix.cont x.2 s id).length : Int) 10 ∧ weight x s * min ((Ix.cont x.2 s id).length : Int) 10 ≤ 3010000 := by
  have h3 := weight_le x.1.length ((Al.look x.2 s).getD []).length h
  unfold weight
  generalize 1000 * ((x.1.length : Int) + 1) / ((((Al.look x.2 s).getD []).length : Int) + 1) = W at h3
  have hm : (0 : Int) ≤ min ((Ix.cont x.2 s id).length : Int) 10 ∧ min ((Ix.cont x.2 s id).length : Int) 10 ≤ 10 := by omega
  generalize min ((Ix.cont x.2 s id).length : Int) 10 = m at hm
  refine ⟨Int.mul_nonneg h3.1 hm.1, ?_⟩
  have h1 : W * m ≤ W * 10 := Int.mul_le_mul_of_nonneg_left hm.2 h3.1
  omega
theorem score_bound (x : Ix.Idx) (h : x.1.length ≤ 300) (id : Int) : ∀ l : List Str, 0 ≤ scoreF x l id ∧ scoreF x l id ≤ (l.length : Int) * 3010000
  | [] => by simp [scoreF]
  | s :: l => by
    have ih := score_bound x h id l
    have h1 := term_bound x s id h
    unfold scoreF at ih ⊢
    rw [List.map_cons, List.sum_cons, List.length_cons]
    omega
end Rk
set_option maxRecDepth 100000 in
set_option maxHeartbeats 8000000 in
theorem ordCmp_ok (a b lv : Value) (x : Ix.Idx) (l : List Str) (gx gl : Nat) (hcan : Ix.Canon x) (hln : l.length ≤ 10000) (i j : Int) (w : World) (h0 : SlR intC M0 w a x.1) (h1 : SlR termC M0 w b x.2) (hl : SlR strC M0 w lv l)
    (kx : Blk w gx 32 #[a, b]) (kl : Blk w gl 47 #[lv]) :
    Calls Tryz.prog 27 #[.int .i64 i, .int .i64 j, .pointer (some ⟨gx, 0, none⟩), .pointer (some ⟨gl, 0, none⟩)] w fun e w' => e = .returned (.int .i64 (Rk.scoreF x l j - Rk.scoreF x l i)) ∧ Below w.heap.size w w' := by
  obtain ⟨A0, c0, rfl, _, _⟩ := h0.form
  obtain ⟨A1, c1, rfl, _, _⟩ := h1.form
  obtain ⟨A2, c2, rfl, _, _⟩ := hl.form
  have hsc := fun (id : Int) V (hb : Below w.heap.size w V) => rscore_ok (.slice A0 x.1.length c0) (.slice A1 x.2.length c1) x _ l id V (h0.ext hb) (h1.ext hb) (hl.ext hb) hcan hln
  have hbi := Rk.score_bound x hcan.few i l
  have hbj := Rk.score_bound x hcan.few j l
  obtain ⟨sf, hsf⟩ : ∃ s, Rk.scoreF x l = s := ⟨_, rfl⟩
  rw [hsf] at hbi hbj hsc ⊢
  have hwr : IntKind.i64.wrap (sf j - sf i) = sf j - sf i := IntWalk.i64_in _ (by omega)
  obtain ⟨xl, hxl⟩ : ∃ k, x.1.length = k := ⟨_, rfl⟩
  obtain ⟨tl, htl⟩ : ∃ k, x.2.length = k := ⟨_, rfl⟩
  obtain ⟨ll, hll⟩ : ∃ k, l.length = k := ⟨_, rfl⟩
  rw [hxl, htl, hll] at hsc
  rw [hxl, htl] at kx
  rw [hll] at kl
  have Hs := Lib.hid hsc; have Kx := Lib.hid kx; have Kl := Lib.hid kl
  have hSS : ∀ W, Below w.heap.size w W → W.cell? ⟨gx, 0, none⟩ = some (.slice A0 xl c0) ∧ W.cell? ⟨gx, 1, none⟩ = some (.slice A1 tl c1) ∧ W.cell? ⟨gl, 0, none⟩ = some (.slice A2 ll c2) := fun W hW => ⟨(kx.ext hW).two.1, (kx.ext hW).two.2.1, (kl.ext hW).one.1⟩
  have HS := Lib.hid hSS
  have hS := HS.out _ (below_drewN' w.heap.size w 1)
  clear hSS hsc hsf hbi hbj hxl htl hll h0 h1 hl kx kl hcan hln
  go_enter Tryz.func27, Tryz.ntmps27
  go_wp2_with fail
  refine wp_region_D (fun W => W.cell? ⟨gx, 0, none⟩ = some (.slice A0 xl c0) ∧ W.cell? ⟨gx, 1, none⟩ = some (.slice A1 tl c1) ∧ W.cell? ⟨gl, 0, none⟩ = some (.slice A2 ll c2)) (fun _ => false) (by kernel_rfl) ?_
  change anyD _ _ _ _ _ _ _ _ _ (w.drewN 1)
  have hbV := below_drewN' w.heap.size w 1
  generalize w.drewN 1 = V0 at hS hbV ⊢
  have HBV := Lib.hid hbV
  (refine anyD_light (i := 0) (v := ?_) rfl (by kernel_rfl) (by kernel_rfl) (by kernel_rfl) (by kernel_rfl) (by kernel_rfl) (fun _ _ _ h => h) (.inl ⟨by kernel_rfl, fun W9 hW9 => ?_⟩) hS ?_; rotate_left; · (obtain ⟨hw0, hw1, hw2⟩ := hW9; go_simp; rfl))
  (refine anyD_light (i := 1) (v := ?_) rfl (by kernel_rfl) (by kernel_rfl) (by kernel_rfl) (by kernel_rfl) (by kernel_rfl) (fun _ _ _ h => h) (.inl ⟨by kernel_rfl, fun W9 hW9 => ?_⟩) hS ?_; rotate_left; · (obtain ⟨hw0, hw1, hw2⟩ := hW9; go_simp; rfl))
  (refine anyD_light (i := 2) (v := ?_) rfl (by kernel_rfl) (by kernel_rfl) (by kernel_rfl) (by kernel_rfl) (by kernel_rfl) (fun _ _ _ h => h) (.inl ⟨by kernel_rfl, fun W9 hW9 => ?_⟩) hS ?_; rotate_left; · (obtain ⟨hw0, hw1, hw2⟩ := hW9; go_simp; rfl))
  (refine anyD_light (i := 4) (v := ?_) rfl (by kernel_rfl) (by kernel_rfl) (by kernel_rfl) (by kernel_rfl) (by kernel_rfl) (fun _ _ _ h => h) (.inl ⟨by kernel_rfl, fun W9 hW9 => ?_⟩) hS ?_; rotate_left; · (obtain ⟨hw0, hw1, hw2⟩ := hW9; go_simp; rfl))
  (refine anyD_light (i := 5) (v := ?_) rfl (by kernel_rfl) (by kernel_rfl) (by kernel_rfl) (by kernel_rfl) (by kernel_rfl) (fun _ _ _ h => h) (.inl ⟨by kernel_rfl, fun W9 hW9 => ?_⟩) hS ?_; rotate_left; · (obtain ⟨hw0, hw1, hw2⟩ := hW9; go_simp; rfl))
  (refine anyD_light (i := 6) (v := ?_) rfl (by kernel_rfl) (by kernel_rfl) (by kernel_rfl) (by kernel_rfl) (by kernel_rfl) (fun _ _ _ h => h) (.inl ⟨by kernel_rfl, fun W9 hW9 => ?_⟩) hS ?_; rotate_left; · (obtain ⟨hw0, hw1, hw2⟩ := hW9; go_simp; rfl))
  go_simp
  go_simp
  refine anyD_one (i := 3) (by kernel_rfl) rfl rfl (fun K hK => ?_)
  have HK := Lib.hid hK
  clear hK
  unfold Oper.wp
  go_simp
  refine (Hs.out j _ (HBV.out)).mono ?_
  rintro e w5 ⟨rfl, hb5⟩
  have hb05 := HBV.out.trans (hb5.mono HBV.out.size)
  have hS := HS.out _ hb05
  refine HK.out _ _ (fun _ => hS) ?_
  clear HK
  go_simp
  refine anyD_one (i := 7) (by kernel_rfl) rfl rfl (fun K hK => ?_)
  have HK := Lib.hid hK
  clear hK
  unfold Oper.wp
  go_simp
  refine (Hs.out i _ hb05).mono ?_
  rintro e w6 ⟨rfl, hb6⟩
  have hb06 := hb05.trans (hb6.mono hb05.size)
  have hS := HS.out _ hb06
  refine HK.out _ _ (fun _ => hS) ?_
  clear HK
  (refine anyD_light (i := 8) (v := ?_) rfl (by kernel_rfl) (by kernel_rfl) (by kernel_rfl) (by kernel_rfl) (by kernel_rfl) (fun _ _ _ h => h) (.inl ⟨by kernel_rfl, fun W9 hW9 => ?_⟩) hS ?_; rotate_left; · (obtain ⟨hw0, hw1, hw2⟩ := hW9; go_simp; rfl))
  (refine anyD_light (i := 9) (v := ?_) rfl (by kernel_rfl) (by kernel_rfl) (by kernel_rfl) (by kernel_rfl) (by kernel_rfl) (fun _ _ _ h => h) (.inl ⟨by kernel_rfl, fun W9 hW9 => ?_⟩) hS ?_; rotate_left; · (obtain ⟨hw0, hw1, hw2⟩ := hW9; go_simp; rfl))
  go_simp
  refine anyD_done (by kernel_rfl) ?_ _
  go_wp2_with fail
  go_ret
  exact ⟨rfl, hb06⟩
end Go.Proofs.YtiohhajkegpebaaGreatDoor
