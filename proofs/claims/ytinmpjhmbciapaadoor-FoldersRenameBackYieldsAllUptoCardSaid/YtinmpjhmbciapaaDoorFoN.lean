/-
  slices.DeleteFunc on texts; folders.List.
-/
import Derived.Test.YtinmpjhmbciapaaDoorFoM
namespace Go.Proofs.YtinmpjhmbciapaaDoor
open Go.RowKit

/-- The place of the first that p holds of. -/
def idxF (p : Str → Bool) (l : List Str) : Int := match l.findIdx? p with | some k => k | none => -1
theorem idx_hit {p : Str → Bool} {l : List Str} {k : Nat} (hk : k < l.length) (h : p l[k] = true) (hn : ∀ (j : Nat) (hj : j < l.length), j < k → p l[j] = false) : l.findIdx? p = some k :=
  List.findIdx?_eq_some_iff_getElem.2 ⟨hk, h, fun j hjk => by rw [hn j (by omega) hjk]; simp⟩
theorem idx_none {p : Str → Bool} {l : List Str} (hn : ∀ (j : Nat) (hj : j < l.length), p l[j] = false) : l.findIdx? p = none := by
  rw [List.findIdx?_eq_none_iff]
  intro x hx
  obtain ⟨j, hj, rfl⟩ := List.getElem_of_mem hx
  exact hn j hj

set_option maxHeartbeats 1000000 in
theorem indexFuncS2_ok (M : Nat → Prop) (f : FuncId) (lb : Array Value) (p : Str → Bool) (l : List Str) (v : Value) (w : World) (h : SlR strC M w v l) (eg : ∀ args w, (callFunc f args).run Tryd.prog w = .ok (.enter f args) w)
    (hf : ∀ (g : Str) (w1 : World), g ∈ l → Below w.heap.size w w1 → Calls Tryd.prog f (#[.string (bs g)] ++ lb) w1 fun e w2 => e = .returned (.bool (p g)) ∧ Below w1.heap.size w1 w2) :
    Calls Tryd.prog 74 #[v, .func (.func f) #[] lb] w fun e w' => e = .returned (.int .i64 (idxF p l)) ∧ Below w.heap.size w w' := by
  obtain ⟨A, c, rfl, _, _⟩ := h.form
  obtain ⟨hlc, hcm⟩ := h.lenM
  have Hf := Lib.hid hf
  clear hf
  go_enter Tryd.func74, Tryd.ntmps74
  go_wp2
  go_loopw [8] (fun i wr => ∃ k : Nat, k ≤ l.length ∧ i = .int .i64 k ∧ Hid (∀ (j : Nat) (hj : j < l.length), j < k → p l[j] = false) ∧ Below w.heap.size w wr) (fun i _ => l.length - (intOf i).toNat)
  case atStart => exact ⟨0, Nat.zero_le _, rfl, Lib.hid fun j _ h => absurd h (by omega), Below.refl _ _⟩
  case round =>
    obtain ⟨k, hk, rfl, hpre, hb⟩ := hrel
    by_cases hlt : k < l.length
    · have hx1 := (h.sub (M' := M) (fun _ _ h => h)).ext hb
      obtain ⟨b, off, rfl, _, _, q0, hl1⟩ := hx1.strAt hlt
      obtain ⟨gs, hx⟩ : ∃ x, x = l[k] := ⟨_, rfl⟩
      rw [← hx] at q0 hl1
      obtain ⟨t, ht⟩ : ∃ t, p gs = t := ⟨_, rfl⟩
      have hfc := Hf.out gs wr (by rw [hx]; exact List.getElem_mem hlt) hb
      rw [ht] at hfc
      have Hfc := Lib.hid hfc; have Hx := Lib.hid hx; have Ht := Lib.hid ht
      clear hfc hx ht hx1
      go_wp2_with fail
      refine Hfc.out.mono ?_
      rintro e w1 ⟨rfl, hb1⟩
      cases t with
      | true =>
        go_wp2
        go_ret
        exact ⟨by unfold idxF; rw [idx_hit hlt (by rw [← Hx.out]; exact Ht.out) hpre.out]; rfl, hb.trans (hb1.mono hb.size)⟩
      | false =>
        go_wp2
        go_roundw
        case rel => exact ⟨k + 1, by omega, by go_num, Lib.hid fun j hj hjk => by
          by_cases e : j = k
          · subst e; rw [← Hx.out]; exact Ht.out
          · exact hpre.out j hj (by omega), hb.trans (hb1.mono hb.size)⟩
        case measure => simp [intOf]; omega
    · go_wp2
      go_ret
      exact ⟨by unfold idxF; rw [idx_none fun i hi => hpre.out i hi (by omega)]; rfl, hb⟩
theorem Own.strCell {M : Nat → Prop} {w : World} {B g n c : Nat} {e : TypeId} {l : List Str} (h : Own strC M w B e (.slice (some ⟨g, 0, none⟩) n c) l) {k : Nat} {s : Str} (hk : l[k]? = some s) : w.cell? ⟨g, k, none⟩ = some (.string (bs s)) := by
  obtain ⟨hkl, rfl⟩ := List.getElem?_eq_some_iff.1 hk
  have h0 : Own strC M0 w B e (.slice (some ⟨g, 0, none⟩) n c) l := h.flat fun _ _ => rfl
  obtain ⟨b', off, he, _, _, hc, _⟩ := h0.read0.strAt hkl
  injection he with he
  injection he with e1 e2
  subst e1 e2
  rw [Nat.zero_add] at hc
  exact hc
theorem filter_snoc (l : List Str) (p : Str → Bool) (k : Nat) (hk : k < l.length) : (l.take (k + 1)).filter p = if p l[k] then (l.take k).filter p ++ [l[k]] else (l.take k).filter p := by
  rw [List.take_succ_eq_append_getElem hk, List.filter_append]
  cases h : p l[k] <;> simp [h]
theorem grown_of_below {w w' : World} (h : Below w.heap.size w w') (row : Option Nat) : w.grownBy w' row := ⟨h.os, h.tape, h.output, h.size, fun k hk _ => h.block k hk⟩

set_option maxRecDepth 20000 in
set_option maxHeartbeats 8000000 in
theorem deleteFuncS_ok (M : Nat → Prop) (f : FuncId) (lb : Array Value) (p : Str → Bool) (l : List Str) (v : Value) (B : Nat) (w : World) (hown : Own strC M w B 9 v l) (hMv : ∀ b, v.ownBlock = some b → ¬ M b) (hln : l.length ≤ 1000000) (eg : ∀ args w, (callFunc f args).run Tryd.prog w = .ok (.enter f args) w)
    (hf : ∀ (g : Str) (w1 : World), g ∈ l → w.grownBy w1 v.ownBlock → Calls Tryd.prog f (#[.string (bs g)] ++ lb) w1 fun e w2 => e = .returned (.bool (p g)) ∧ Below w1.heap.size w1 w2) :
    Calls Tryd.prog 76 #[v, .func (.func f) #[] lb] w fun e w' => ∃ v', e = .returned v' ∧ Own strC M w' B 9 v' (l.filter fun s => !p s) ∧ w.grownBy w' v.ownBlock := by
  have hix := indexFuncS2_ok M f lb p l v w (hown.read hMv) eg (fun g w1 hg hb => hf g w1 hg (grown_of_below hb _))
  cases hk : l.findIdx? p with
  | none =>
    have hi : idxF p l = -1 := by unfold idxF; rw [hk]
    rw [hi] at hix
    have hfl : l.filter (fun s => !p s) = l := by
      rw [List.findIdx?_eq_none_iff] at hk
      exact List.filter_eq_self.2 fun x hx => by rw [hk x hx]; rfl
    rw [hfl]
    obtain ⟨A, c, rfl, _, _⟩ := hown.shape
    have Hx := Lib.hid hix; have HO := Lib.hid hown
    clear hix hown hfl hi hk hf hMv
    go_enter Tryd.func76, Tryd.ntmps76
    go_wp2_with fail
    refine Hx.out.mono ?_
    rintro e w1 ⟨rfl, hb1⟩
    go_wp2
    go_ret
    exact ⟨_, rfl, HO.out.ext hb1, grown_of_below hb1 _⟩
  | some k =>
    have hi : idxF p l = (k : Int) := by unfold idxF; rw [hk]
    rw [hi] at hix
    obtain ⟨hkl, hpk, hpre⟩ := List.findIdx?_eq_some_iff_getElem.1 hk
    obtain ⟨g, c, cur, rfl, hlc, hcm, hBg, hblk, hsz⟩ := hown.blk (by omega)
    unfold maxLen at hcm
    have hfk : (l.take k).filter (fun s => !p s) = l.take k := List.filter_eq_self.2 fun x hx => by
      obtain ⟨j, hj, rfl⟩ := List.getElem_of_mem hx
      rw [List.length_take] at hj
      rw [List.getElem_take]
      have := hpre j (by omega)
      simpa using this
    have hfk1 : (l.take (k + 1)).filter (fun s => !p s) = l.take k := by
      rw [List.take_succ_eq_append_getElem hkl, List.filter_append, hfk, List.filter_cons_of_neg (by rw [hpk]; simp)]
      simp
    have Hx := Lib.hid hix; have HO := Lib.hid hown; have Hf := Lib.hid hf; have Hfk1 := Lib.hid hfk1
    obtain ⟨n, hn⟩ : ∃ n, l.length = n := ⟨_, rfl⟩
    rw [hn] at hlc hkl hln ⊢
    have Hn := Lib.hid hn
    have Hsz := Lib.hid hsz
    clear hix hown hf hfk hfk1 hpre hpk hi hk hn hblk hsz hMv
    have hj0 : ((k : Int) == -1) = false := by simp
    go_enter Tryd.func76, Tryd.ntmps76
    go_wp2_with fail
    rw [← Hn.out]
    refine Hx.out.mono ?_
    rw [Hn.out]
    rintro e w1 ⟨rfl, hb1⟩
    go_wp2
    go_loopw [5, 6, 7] (fun iv jv _ wr => ∃ (i j : Nat) (J : List Str), i < j ∧ j ≤ n ∧ iv = .int .i64 i ∧ jv = .int .i64 j ∧ Hid (i = ((l.take j).filter fun s => !p s).length ∧ J.length = j - i) ∧ Hid (Own strC M wr B 9 (.slice (some ⟨g, 0, none⟩) n c) (((l.take j).filter fun s => !p s) ++ (J ++ l.drop j))) ∧ Hid (w.grownBy wr (some g))) (fun _ jv _ _ => n - (intOf jv).toNat)
    case atStart =>
      have hkl' : k < l.length := by rw [Hn.out]; exact hkl
      refine ⟨k, k + 1, [l[k]], by omega, by omega, rfl, by go_num, Lib.hid ⟨by rw [Hfk1.out, List.length_take]; omega, by simp⟩, Lib.hid ?_, Lib.hid (grown_of_below hb1 _)⟩
      have e : l.take k ++ ([l[k]] ++ l.drop (k + 1)) = l := by
        rw [List.singleton_append, ← List.drop_eq_getElem_cons hkl', List.take_append_drop]
      rw [Hfk1.out, e]
      have := HO.out.ext hb1
      rwa [Hn.out] at this
    case round =>
      obtain ⟨i, j, J, hij, hjn, rfl, rfl, hF, how, hgr⟩ := hrel
      clear Hx HO Hfk1 hb1 hj0 hkl
      obtain ⟨hF1, hF2⟩ := hF.out
      obtain ⟨FL, hFL⟩ : ∃ F, ((l.take j).filter fun s => !p s) = F := ⟨_, rfl⟩
      have HFL := Lib.hid hFL
      rw [hFL] at how hF1
      clear hFL hF
      have HF1 := Lib.hid hF1; have HF2 := Lib.hid hF2
      clear hF1 hF2
      by_cases hlt : j < n
      · have hjl : j < l.length := by rw [Hn.out]; exact hlt
        obtain ⟨s, hs⟩ : ∃ s, l[j] = s := ⟨_, rfl⟩
        have hdj : l.drop j = s :: l.drop (j + 1) := by rw [← hs]; exact List.drop_eq_getElem_cons hjl
        have hfs := filter_snoc l (fun s => !p s) j hjl
        rw [hs, HFL.out] at hfs
        have hcell := how.out.strCell (k := j) (s := s) (by
          have h1 := HF1.out; have h2 := HF2.out
          rw [List.getElem?_append_right (by omega), List.getElem?_append_right (by omega), hdj, show j - FL.length - J.length = 0 by omega]; rfl)
        have hmem : s ∈ l := by rw [← hs]; exact List.getElem_mem hjl
        have hcl := Hf.out s wr hmem hgr.out
        obtain ⟨t, ht⟩ : ∃ t, p s = t := ⟨_, rfl⟩
        rw [ht] at hcl hfs
        have Hcl := Lib.hid hcl; have Hfs := Lib.hid hfs; have Hdj := Lib.hid hdj
        clear hcl hfs hdj ht hs hmem
        have hji : (j : Int) < (n : Int) := by omega
        go_wp2_with fail
        refine Hcl.out.mono ?_
        rintro e w5 ⟨rfl, hb5⟩
        have how5 := how.out.ext hb5
        have hgr5 : w.grownBy w5 (some g) := grown_trans hgr.out (grown_of_below hb5 none) (.inl rfl)
        have How5 := Lib.hid how5; have Hgr5 := Lib.hid hgr5
        clear hcell hgr5
        cases t with
        | true =>
          clear how5
          go_wp2
          go_roundw
          case rel => exact ⟨i, j + 1, J ++ [s], by omega, by omega, rfl, by go_num, Lib.hid ⟨by rw [Hfs.out]; simpa using HF1.out, by have := HF2.out; rw [List.length_append, List.length_singleton]; omega⟩, Lib.hid (by
            have := How5.out
            rw [Hdj.out] at this
            rw [Hfs.out]
            simpa using this), Hgr5⟩
          case measure => simp [intOf]; omega
        | false =>
          obtain ⟨a, J', hJ⟩ : ∃ a J', J = a :: J' := by
            have h2 := HF2.out
            cases J with
            | nil => simp at h2; omega
            | cons a r => exact ⟨a, r, rfl⟩
          have hset := how5.put1 rfl (k := i) (by have h1 := HF1.out; have h2 := HF2.out; rw [List.length_append, List.length_append]; omega) (u := .string (bs s)) (a := s) ⟨rfl, by
            have h0 : Own strC M0 w5 B 9 (.slice (some ⟨g, 0, none⟩) n c) (FL ++ (J ++ l.drop j)) := how5.flat fun _ _ => rfl
            have hj2 : j < (FL ++ (J ++ l.drop j)).length := by
              have h1 := HF1.out; have h2 := HF2.out
              rw [List.length_append, List.length_append, List.length_drop]; omega
            obtain ⟨_, _, _, _, _, _, hml⟩ := h0.read0.strAt hj2
            have e : (FL ++ (J ++ l.drop j))[j] = s := by
              have h1 := HF1.out; have h2 := HF2.out
              have : (FL ++ (J ++ l.drop j))[j]? = some s := by
                rw [List.getElem?_append_right (by omega), List.getElem?_append_right (by omega), Hdj.out, show j - FL.length - J.length = 0 by omega]; rfl
              rw [List.getElem?_eq_getElem hj2] at this
              injection this
            rw [e] at hml
            exact hml⟩
          rw [hJ, List.cons_append, set_mid _ _ _ _ _ HF1.out.symm] at hset
          obtain ⟨gx, cx, cur2, hvx, _, _, _, hblk2, _⟩ := how5.blk (by have h2 := HF2.out; rw [List.length_append, List.length_append]; omega)
          injection hvx with hv1 hv2 hv3
          injection hv1 with hv1
          injection hv1 with hv1
          subst hv1 hv3
          have hf0 := hblk2.frozen i
          have hc0 := how5.strCell (k := i) (s := a) (by rw [hJ, List.cons_append, List.getElem?_append_right (by rw [← HF1.out]; exact Nat.le_refl _), ← HF1.out, Nat.sub_self]; rfl)
          have hin : (i : Int) < (n : Int) := by omega
          have Hset := Lib.hid hset; have HJ := Lib.hid hJ
          have hgs : w.grownBy (w5.setCell ⟨g, i, none⟩ (.string (bs s))) (some g) := ⟨Hgr5.out.os, Hgr5.out.tape, Hgr5.out.output, by simpa using Hgr5.out.size, fun b hb hne => (Below.heap_setCell w5 ⟨g, i, none⟩ _ b (fun e => hne (by rw [e]))).trans (Hgr5.out.block b hb hne)⟩
          have Hgs := Lib.hid hgs
          clear hset hJ hblk2 hv2 how5 hgs
          go_wp2
          go_roundw
          case rel => exact ⟨i + 1, j + 1, J' ++ [s], by omega, by omega, by go_num, by go_num, Lib.hid ⟨by rw [Hfs.out]; have := HF1.out; simp; omega, by have h2 := HF2.out; rw [HJ.out, List.length_cons] at h2; rw [List.length_append, List.length_singleton]; omega⟩, Lib.hid (by
            have := Hset.out
            rw [Hdj.out] at this
            rw [Hfs.out]
            simpa using this), Hgs⟩
          case measure => simp [intOf]; omega
      · obtain rfl : j = n := by omega
        have hFe : FL = l.filter fun s => !p s := by rw [← HFL.out, ← Hn.out, List.take_length]
        have hX : FL ++ (J ++ l.drop j) = FL ++ J := by rw [← Hn.out, List.drop_length, List.append_nil]
        have how' := how.out
        rw [hX] at how'
        have hXl : (FL ++ J).length = j := by have h1 := HF1.out; have h2 := HF2.out; rw [List.length_append]; omega
        obtain ⟨gx, cx, cur2, hvx, _, _, _, hblk2, hsz2⟩ := how'.blk (by omega)
        injection hvx with hv1 hv2 hv3
        injection hv1 with hv1
        injection hv1 with hv1
        subst hv1 hv3
        have hels := (how'.cells hblk2).2
        have hsz3 : cur2.size = c := by rw [hsz2]; show c * 1 = c; omega
        obtain ⟨zs, hzl, hclr⟩ := run_clear_in (P := Tryd.prog) TStrs hblk2 (o := i) (j - i) (c - i) (by omega) (by omega) oneStr (by omega)
        obtain ⟨w2, hw2⟩ : ∃ w2, w2 = wr.setRow g (splice cur2.toList i zs).toArray := ⟨_, rfl⟩
        rw [← hw2] at hclr
        have hblk3 : Blk w2 g 9 (splice cur2.toList i zs).toArray := hw2 ▸ hblk2.setRow
        have hgr2 : wr.grownBy w2 (some g) := by
          rw [hw2]
          exact ⟨rfl, rfl, rfl, by simp [World.setRow], fun k _ hne => setRow_other _ _ _ _ (fun e => hne (by rw [e]))⟩
        have hc2l : cur2.toList.length = c := by rw [Array.length_toList, hsz3]
        have hzl2 : zs.length = j - i := by rw [hzl, Nat.mul_one]
        have hfin : Own strC M w2 B 9 (.slice (some ⟨g, 0, none⟩) i c) FL := by
          have h1 := hels.take FL.length
          rw [List.take_left' rfl, hXl] at h1
          refine Own.mk_row hblk3 hBg ?_ HF1.out.symm (by omega) (by unfold maxLen; omega) (h1.keep (fun b hb hn => hgr2.block b hb fun e => hn (.inr (by injection e))) hgr2.size) ?_
          · rw [List.size_toArray, length_splice _ _ _ (by omega), hc2l]; show c = c * 1; omega
          · rw [List.toList_toArray]
            have e1 : i * strC.n = i := Nat.mul_one i
            have e2 : j * strC.n = j := Nat.mul_one j
            have e3 : FL.length * strC.n = i := by rw [← HF1.out]; exact Nat.mul_one i
            rw [e1, e2, e3, List.take_take, Nat.min_eq_left (by omega), splice, List.take_append_of_le_length (by rw [List.length_take]; omega), List.take_take, Nat.min_self]
        rw [hFe] at hfin
        have hgf : w.grownBy w2 (some g) := grown_trans hgr.out hgr2 (.inr (.inl rfl))
        have Hfin := Lib.hid hfin; have Hgf := Lib.hid hgf
        have j1 : i ≤ j := by omega
        have j2 : (i : Int) ≤ (j : Int) := by omega
        have j3 : (j : Int) ≤ (c : Int) := by omega
        have j4 : ¬ c = i := by omega
        have j5 : i ≤ c := by omega
        clear hfin hgf hgr2 hblk3 hw2 hels hsz3 hsz2 hblk2 how' hX hXl hFe hc2l hzl hzl2 hv2
        go_wp2
        go_ret
        exact ⟨_, rfl, Hfin.out, Hgf.out⟩
end Go.Proofs.YtinmpjhmbciapaaDoor
