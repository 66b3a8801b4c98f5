/-
  The visit of one letter's answers.
-/
import Derived.Test.YtclobnojpmgmaaaThV
import Derived.Test.YtclobnojpmgmaaaHeldD
import Derived.Stop.RegionWithIn
import Derived.OwnWalkIn
import Derived.TacticsInMore
import Derived.LoopNIn
import Derived.LoopIn
namespace Go.Proofs.Ytclobnojpmgmaaa
open Go.RowKit
set_option linter.unusedVariables false
def encP (x : Nat × Int) : Array Value := #[.int .i64 (x.1 : Int), .int .i64 x.2]
def kidsG (l : List Letter) (d : Int) (k : Nat) : List (Nat × Int) := (k, d) :: Th.shownA l (k : Int) (d + 1)
theorem kidsS_lt {l : List Letter} {p : Int} {k : Nat} (h : k ∈ Th.kidsS l p) : k < l.length := by
  have := (kidsS_mem l p k).1 h
  unfold Th.kids at this
  exact List.mem_range.1 (List.mem_filter.1 this).1
/-- how deep a visit may go -/
def DeepIn (l : List Letter) (p : Int) (n : Nat) : Prop := (p < 0 ∧ l.length < n) ∨ ∃ j : Nat, p = j ∧ j < l.length ∧ Th.rank l j < n
theorem DeepIn.kid {l : List Letter} (hd : Distinct l) {p : Int} {n k : Nat} (h : DeepIn l p (n + 1)) (hk : k ∈ Th.kidsS l p) : DeepIn l (k : Int) n := by
  have hkl := kidsS_lt hk
  refine .inr ⟨k, rfl, hkl, ?_⟩
  rcases h with ⟨_, h⟩ | ⟨j, rfl, hj, h⟩
  · have h1 : Th.rank l k < l.length := by
      refine Nat.lt_of_lt_of_le (Th.cnt_lt _ (fun _ => true) _ (fun _ _ _ => rfl) ⟨k, List.mem_range.2 hkl, ?_, rfl⟩) (Nat.le_trans (List.length_filter_le _ _) (by simp))
      unfold Th.later
      rw [List.getElem?_eq_getElem hkl]
      exact Th.earlier_irrefl _
    omega
  · obtain ⟨_, _, he⟩ := kid_later hd j k ((kidsS_mem l j k).1 hk)
    have := Th.rank_lt l j k hj hkl he
    omega
set_option maxHeartbeats 4000000 in
theorem visit_ok (l : List Letter) (hd : Distinct l) (hn : l.length ≤ 4000000) (X : Bx) (A : Option Addr) (c ll : Nat) (m : Int → Option Value) (xs : List (Nat × Int)) (J Jx : Nat → (Nat → Prop) → World → Prop) (n0 : Nat) (hn0 : n0 ≤ X.b0) (hq1 : X.q1 < X.b0)
    (hJ : ∀ k S W1 W2, J k S W1 → Kept n0 S W1 W2 → J k S W2) (hJx : ∀ k S W1 W2, Jx k S W1 → Kept n0 S W1 W2 → Jx k S W2)
    (hY : ∀ k (h : k < xs.length) S W1, J k S W1 → n0 ≤ W1.heap.size → YieldAt Fence.wide 0 Try.prog ll (encP xs[k]) W1 fun e W' => ∃ S', Chg S S' W1 W' ∧
      ((e = .returned (.bool true) ∧ J (k + 1) S' W') ∨ (e = .returned (.bool false) ∧ Jx (k + 1) S' W'))) :
    ∀ (n : Nat) (p d : Int) (k : Nat) (S : Nat → Prop) (ct : Int → List Nat) (w : World), DeepIn l p n → -1 ≤ p → 0 ≤ d → d + n ≤ 9000000 → VS X l A c ll m S ct w → J k S w → PartAt xs k (Th.shownA l p d) →
    CallsIn Fence.wide 0 Try.prog 27 #[.int .i64 p, .int .i64 d, .pointer (some ⟨X.q3, 0, none⟩), .pointer (some ⟨X.q1, 0, none⟩), .pointer (some ⟨X.q2, 0, none⟩), .pointer (some ⟨X.q6, 0, none⟩)] w fun e w' =>
      ∃ S' ct', VS X l A c ll m S' ct' w' ∧ (∀ s, ct' s = ct s ∨ ct' s = Th.kidsS l s) ∧
        ((e = .returned (.bool true) ∧ J (k + (Th.shownA l p d).length) S' w') ∨ (e = .returned (.bool false) ∧ ∃ k', Jx k' S' w')) := by
  have HY := Lib.hid hY; clear hY
  have HJ := Lib.hid hJ; clear hJ
  have HJx := Lib.hid hJx; clear hJx
  intro n
  induction n with
  | zero =>
    intro p d k S ct w hdp
    rcases hdp with ⟨_, h⟩ | ⟨_, _, _, h⟩ <;> omega
  | succ n ih =>
    intro p d k S ct w hdp hp1 hd0 hdn hvs hj hpart
    have hpl : p < 0 ∨ ∃ k : Nat, p = k ∧ k < l.length := by
      rcases hdp with ⟨h, _⟩ | ⟨j, h1, h2, _⟩
      · exact .inl h
      · exact .inr ⟨j, h1, h2⟩
    have hsh : Th.shownA l p d = (Th.kidsS l p).flatMap (kidsG l d) := shownA_eq hd p d hpl
    rw [hsh] at hpart ⊢
    obtain ⟨K, hK⟩ : ∃ K, Th.kidsS l p = K := ⟨_, rfl⟩
    rw [hK] at hpart ⊢
    have Ih := Lib.hid ih
    have Hpart := Lib.hid hpart
    have Hdp := Lib.hid hdp
    have HK := Lib.hid hK
    clear ih hpart hdp hK hsh
    have hF1 : Fence.wide.fn 28 := trivial
    have hF2 : Fence.wide.fn 27 := trivial
    have hF3 : Fence.wide.depth = none := rfl
    have hF4 : Fence.wide.round = none := rfl
    refine callsIn_of_wp Try.func27 rfl trivial ?_ rfl
    simp only [Try.ntmps27, List.size_toArray, List.length_cons, List.length_nil, Nat.reduceAdd, Nat.reduceSub, Array.replicate_succ, Array.replicate_zero, List.push_toArray, List.append_toArray, List.nil_append, List.cons_append]
    obtain ⟨c3, z3, s3⟩ := hvs.b3.one
    by_cases hct : ct p = []
    · have hm := hvs.miss p hct
      have hK0 : K = [] := by
        have h1 := hvs.perm p
        rw [hct] at h1
        have h2 : Th.kids l p = [] := h1.symm.eq_nil
        rw [← HK.out]; unfold Th.kidsS; rw [h2]; simp
      have hlk : ∀ ty : TypeId, ty = 57 → (Instr.lookup ty (.map (some X.bm)) (.int .i64 p) false).run Try.prog w = .ok (.slice none 0 0) w := fun ty e => by
        subst e
        exact hvs.mp.look_none Try.underlying57 Try.underlying3 (zero_ints w) (k := p) hm false
      have hlk2 := hlk 57 rfl
      have hsf := sortF_none none 0 (.func (.func 29) #[] #[.pointer (some ⟨X.q1, 0, none⟩)]) w
      have Hsf := Lib.hid hsf
      clear hlk hsf
      gi_wp2_with fail
      refine (callsIn_wide.2 Hsf.out).mono ?_
      rintro e w1 ⟨rfl, hw1⟩
      obtain rfl : w = w1 := hw1.symm
      gi_wp2
      gi_loopw [20] (fun i wr => i = .int .i64 0 ∧ wr = w) (fun i _ => 0)
      case atStart => exact ⟨rfl, rfl⟩
      case round =>
        obtain ⟨rfl, rfl⟩ := hrel
        gi_wp2
        refine bodyPost_ret (v := .bool true) (by simp [results, Try.results27, go_sem]) rfl ?_
        exact ⟨S, ct, hvs, fun _ => .inl rfl, .inl ⟨rfl, by rw [hK0]; exact hj⟩⟩
    · obtain ⟨v, hm, hown⟩ := hvs.row p hct
      have hlk : ∀ ty : TypeId, ty = 57 → (Instr.lookup ty (.map (some X.bm)) (.int .i64 p) false).run Try.prog w = .ok v w := fun ty e => by
        subst e
        exact hvs.mp.look_some Try.underlying57 Try.underlying3 (k := p) hm false
      have hlk2 := hlk 57 rfl
      have hlen : (ct p).length ≤ l.length := by
        rw [(hvs.perm p).length_eq]
        unfold Th.kids
        exact Nat.le_trans (List.length_filter_le _ _) (by simp)
      have hkm : ∀ j ∈ ct p, j < l.length := fun j hj => by
        have := (hvs.perm p).mem_iff.1 hj
        unfold Th.kids at this
        exact List.mem_range.1 (List.mem_filter.1 this).1
      have hsf := sortKids_ok l hd A c X.q1 X.b0 v (ct p) hct hkm w (hvs.lt.sub fun _ _ h => .inr h) hvs.b1.one.1 (fun e => (hvs.far p v _ hm e).2 (.inl rfl)) hn (by omega) hown
      rw [kidsS_perm hd (hvs.perm p), HK.out] at hsf
      obtain ⟨g, vc, hv, hNc, hcm, hBg⟩ : ∃ g vc, v = .slice (some ⟨g, 0, none⟩) ((ct p).map fun (j : Nat) => (j : Int)).length vc ∧ ((ct p).map fun (j : Nat) => (j : Int)).length ≤ vc ∧ vc ≤ maxLen ∧ X.b0 ≤ g := by
        rcases hown.form with ⟨_, h0⟩ | ⟨g, vc, hv, h1, h2, h3, _⟩
        · exact absurd (List.map_eq_nil_iff.1 h0) hct
        · exact ⟨g, vc, hv, h1, h2, h3⟩
      obtain ⟨N, hN⟩ : ∃ N, ((ct p).map fun (j : Nat) => (j : Int)).length = N := ⟨_, rfl⟩
      rw [hN] at hv hNc
      subst hv
      have hNl : N = (ct p).length := by rw [← hN]; simp
      have hNK : N = K.length := by
        rw [hNl, (hvs.perm p).length_eq, ← HK.out]
        exact (List.length_mergeSort _).symm
      have hKne : K ≠ [] := fun e => hct (List.eq_nil_of_length_eq_zero (by rw [← hNl, hNK, e]; rfl))
      have hKp : K.Perm (ct p) := by
        rw [← HK.out]
        exact (List.mergeSort_perm _ _).trans (hvs.perm p).symm
      have hKl : ∀ x ∈ K, x < l.length := fun x hx => kidsS_lt (by rw [HK.out]; exact hx)
      have hNn : N ≤ 4000000 := by omega
      have Hsf := Lib.hid hsf
      have HNK := Lib.hid hNK
      have HKl := Lib.hid hKl
      have Hm := Lib.hid hm
      have hgS : ¬ S g := (hvs.far p _ g hm rfl).1
      clear hlk hsf hN hNl hNK hKl hlen hkm
      gi_wp2_with fail
      refine (callsIn_wide.2 Hsf.out).mono ?_
      rintro e w1 ⟨rfl, hgr, hown2⟩
      have hvs1 := hvs.turn Hm.out hgr hKne hKp hown2
      have hj1 : J k S w1 := HJ.out _ _ _ _ hj (Kept.grownBy hgr (Nat.le_trans hn0 hBg) hgS)
      obtain ⟨ct1, hct1⟩ : ∃ ct1, (fun s' => if s' = p then K else ct s') = ct1 := ⟨_, rfl⟩
      have hc1 : ct1 p = K := by rw [← hct1]; exact if_pos rfl
      have hch1 : ∀ s, ct1 s = ct s ∨ ct1 s = Th.kidsS l s := fun s => by
        rw [← hct1]
        by_cases e : s = p
        · subst e; right; exact (if_pos rfl).trans HK.out.symm
        · left; exact if_neg e
      rw [hct1] at hvs1
      have Hc1 := Lib.hid hc1
      have Hch1 := Lib.hid hch1
      clear hct1 hc1 hch1 hown2 hgr hgS hvs hj c3 z3 s3 hlk2 hm Hsf hown hct hKp
      gi_wp2
      gi_loopw [20] (fun i wr => ∃ (j k2 : Nat) (S2 : Nat → Prop) (ct2 : Int → List Nat), i = .int .i64 (j : Int) ∧ VS X l A c ll m S2 ct2 wr ∧ Hid (ct2 p = K) ∧ Hid (∀ s, ct2 s = ct s ∨ ct2 s = Th.kidsS l s) ∧ J k2 S2 wr ∧
        Hid (PartAt xs k2 ((K.drop j).flatMap (kidsG l d))) ∧ Hid (k2 + ((K.drop j).flatMap (kidsG l d)).length = k + (K.flatMap (kidsG l d)).length) ∧ j ≤ N) (fun i _ => N - (intOf i).toNat)
      case atStart => exact ⟨0, k, S, ct1, rfl, hvs1, Hc1, Hch1, hj1, Hpart, Lib.hid rfl, Nat.zero_le _⟩
      case round =>
        clear hvs1 hj1 Hc1 Hch1
        obtain ⟨j, k2, S2, ct2, rfl, hvs2, hc2, hch2, hj2, hpart2, hlen2, hjN⟩ := hrel
        by_cases hjl : j < N
        · have hjK : j < K.length := by rw [← HNK.out]; exact hjl
          have hp2 := hpart2.out
          rw [List.drop_eq_getElem_cons hjK, List.flatMap_cons] at hp2
          have hl2 := hlen2.out
          rw [List.drop_eq_getElem_cons hjK, List.flatMap_cons, List.length_append] at hl2
          have hxl := HKl.out _ (List.getElem_mem hjK)
          have hxK : K[j] ∈ Th.kidsS l p := by rw [HK.out]; exact List.getElem_mem hjK
          obtain ⟨v', h1, ho⟩ := hvs2.row p (by rw [hc2.out]; exact hKne)
          rw [Hm.out] at h1
          injection h1 with h1
          subst h1
          rw [hc2.out] at ho
          obtain ⟨b, off, hA, _, _, hcx⟩ := ho.read0.intAt (k := j) (by simpa using hjK)
          injection hA with hA
          injection hA with hA1 hA2
          subst hA1 hA2
          rw [List.getElem_map, Nat.zero_add] at hcx
          obtain ⟨x, hx⟩ : ∃ x, K[j] = x := ⟨_, rfl⟩
          rw [hx] at hcx hp2 hl2 hxl hxK
          have hkg : kidsG l d x = (x, d) :: Th.shownA l (x : Int) (d + 1) := rfl
          rw [hkg] at hp2 hl2
          clear hkg
          rw [List.cons_append] at hp2
          obtain ⟨hk2, hxs, hp3⟩ := hp2.head
          have hp4 := hp3.fst
          have hp5 := hp3.snd
          have hdeep := Hdp.out.kid hd hxK
          have hy := HY.out k2 hk2 S2 wr hj2 (Nat.le_trans hn0 hvs2.bz)
          rw [hxs] at hy
          obtain ⟨fn, tmps, assign, body, hyy, hRR⟩ := hy
          dsimp only [encP] at hyy
          have Hp4 := Lib.hid hp4; have Hp5 := Lib.hid hp5; have Hdeep := Lib.hid hdeep; have Hl2 := Lib.hid hl2
          have HxK := Lib.hid hxK
          clear hp2 hp3 hp4 hp5 hdeep hl2 hxs hx hxK hpart2 hlen2 hjK
          have hjj : (j : Int) < (N : Int) := by omega
          have hj0 : (0 : Int) ≤ (j : Int) := by omega
          have hjw : IntKind.i64.wrap (j : Int) = (j : Int) := IntWalk.i64_in _ (by omega)
          have hdw : IntKind.i64.wrap (d + 1) = d + 1 := IntWalk.i64_in _ (by omega)
          obtain ⟨e2, z2, s2⟩ := hvs2.b2.one
          gi_wp2_with fail
          refine hRR.mono ?_
          rintro e w3 ⟨S3, hchg, hor3⟩
          obtain ⟨tt, rfl⟩ : ∃ tt, e = .returned (.bool tt) := hor3.elim (fun h => ⟨_, h.1⟩) (fun h => ⟨_, h.1⟩)
          have Hor3 := Lib.hid hor3
          have hvs3 := hvs2.chg hchg
          clear hor3 hyy hRR e2 z2 s2 hcx ho hvs2 hj2 hchg
          cases tt with
          | false =>
            have hx3 : Jx (k2 + 1) S3 w3 := Hor3.out.elim (fun h => by cases h.1) (fun h => h.2)
            gi_wp2
            refine ⟨fun f h => (by cases h), ?_⟩
            gi_wp2
            refine bodyPost_ret (v := .bool false) (by simp [results, Try.results27, go_sem]) rfl ?_
            exact ⟨S3, ct2, hvs3, hch2.out, .inr ⟨rfl, _, hx3⟩⟩
          | true =>
            have hj3 : J (k2 + 1) S3 w3 := Hor3.out.elim (fun h => h.2) (fun h => by cases h.1)
            have hrec := Ih.out (x : Int) (d + 1) (k2 + 1) S3 ct2 w3 Hdeep.out (by omega) (by omega) (by omega) hvs3 hj3 Hp4.out
            have Hrec := Lib.hid hrec
            clear hrec
            obtain ⟨e6, z6, s6⟩ := hvs3.b6.one
            gi_wp2_with fail
            refine Hrec.out.mono ?_
            rintro e w4 ⟨S4, ct4, hvs4, hch4, hor4⟩
            obtain ⟨tt, rfl⟩ : ∃ tt, e = .returned (.bool tt) := hor4.elim (fun h => ⟨_, h.1⟩) (fun h => ⟨_, h.1⟩)
            have Hor4 := Lib.hid hor4
            have Hch4 := Lib.hid hch4
            clear hor4 hch4 Hrec e6 z6 s6
            cases tt with
            | false =>
              gi_wp2
              refine bodyPost_ret (v := .bool false) (by simp [results, Try.results27, go_sem]) rfl ?_
              refine ⟨S4, ct4, hvs4, fun s => ?_, .inr ⟨rfl, Hor4.out.elim (fun h => by cases h.1) (fun h => h.2)⟩⟩
              rcases Hch4.out s with h | h
              · rw [h]; exact hch2.out s
              · exact .inr h
            | true =>
              have hj4 := Hor4.out.elim (fun h => h.2) (fun h => by cases h.1)
              gi_wp2
              go_roundw
              case rel =>
                refine ⟨j + 1, k2 + 1 + (Th.shownA l (x : Int) (d + 1)).length, S4, ct4, by go_num, hvs4, Lib.hid ?_, Lib.hid fun s => ?_, hj4, Hp5, Lib.hid ?_, by omega⟩
                · rcases Hch4.out p with h | h
                  · rw [h]; exact hc2.out
                  · rw [h]; exact HK.out
                · rcases Hch4.out s with h | h
                  · rw [h]; exact hch2.out s
                  · exact .inr h
                · have := Hl2.out
                  rw [List.length_cons] at this
                  omega
              case measure => simp [intOf]; omega
        · have hend : k2 = k + (K.flatMap (kidsG l d)).length := by
            have := hlen2.out
            rw [List.drop_of_length_le (by rw [← HNK.out]; omega)] at this
            simpa using this
          have Hend := Lib.hid hend
          clear hend
          gi_wp2
          refine bodyPost_ret (v := .bool true) (by simp [results, Try.results27, go_sem]) rfl ?_
          exact ⟨S2, ct2, hvs2, hch2.out, .inl ⟨rfl, by rw [← Hend.out]; exact hj2⟩⟩
end Go.Proofs.Ytclobnojpmgmaaa
