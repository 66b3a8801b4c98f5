/-
  slices.SortFunc at the row of one letter's answers, as a row of ints.
-/
import Derived.Test.YtclobnojpmgmaaaThS
import Derived.Test.YtclobnojpmgmaaaThT
import Derived.Test.YtclobnojpmgmaaaThU
namespace Go.Proofs.Ytclobnojpmgmaaa
open Go.RowKit Go.Shelf Go.Lib Go.Sort
set_option linter.unusedVariables false
theorem sortKids_ok (l : List Letter) (hd : Distinct l) (A : Option Addr) (c q B : Nat) (v : Value) (ks : List Nat) (h0 : ks ≠ []) (hks : ∀ k ∈ ks, k < l.length) (w : World) (h : SlR letterC (fun b => B ≤ b) w (.slice A l.length c) l) (hq : w.cell? ⟨q, 0, none⟩ = some (.slice A l.length c)) (hqB : v.ownBlock ≠ some q) (hn : l.length ≤ 4000000) (hlen : ks.length ≤ 4000000)
    (hown : Own intC M0 w B 3 v (ks.map fun (k : Nat) => (k : Int))) :
    Calls Try.prog 28 #[v, .func (.func 29) #[] #[.pointer (some ⟨q, 0, none⟩)]] w fun e w' => e = .returned (.tuple #[]) ∧ w.grownBy w' v.ownBlock ∧ Own intC M0 w' B 3 v ((ks.mergeSort fun a b => !Th.later l b a).map fun (k : Nat) => (k : Int)) := by
  obtain ⟨d, hd1⟩ : ∃ d : List (Fin l.length), d.map (fun i => i.1) = ks := ⟨_, pmap_fst ks hks⟩
  subst hd1
  have hdl : 0 < d.length := by
    rcases Nat.eq_zero_or_pos d.length with e | e
    · exact absurd (by rw [List.eq_nil_of_length_eq_zero e]; rfl) h0
    · exact e
  have inst : Inhabited (Fin l.length) := ⟨d[0]⟩
  obtain ⟨xs, ho, hels⟩ := hown
  have hxs := ints_of_els hels
  have hln : ((d.map fun i => i.1).map fun (k : Nat) => (k : Int)).length = d.length := by simp
  obtain ⟨hol, hor⟩ := ho
  rcases hor with ⟨rfl, h1⟩ | ⟨g, cap, cur, rfl, hBg, hblk, hc1, hc2, hsz, htk⟩
  · rw [hln] at h1; omega
  · have hgq : q ≠ g := fun e => hqB (by rw [e]; rfl)
    have hn1 : intC.n = 1 := rfl
    rw [hn1] at hsz htk
    rw [hln] at hc1 htk ⊢
    rw [Nat.mul_one] at htk
    have hss : cur.toList.take ((d.map fun i => i.1).map fun (k : Nat) => (k : Int)).length = ((d.map fun i => i.1).map fun (k : Nat) => (k : Int)).map (Value.int .i64) := by rw [hln, htk, hxs]
    have hH : Holds (encI (n := l.length)) w g 0 d.toArray := by
      intro j hj
      have hj2 : j < d.length := by simpa using hj
      have h3 := holds_of_blockI (w := w) hblk hss j (by simpa using hj2)
      refine ⟨?_, h3.2⟩
      rw [h3.1]
      simp [encI, getElem!_pos, hj2]
    have hL : SlR letterC (fun b => b = g) w (.slice A l.length c) l := h.sub fun b _ e => by subst e; exact hBg
    have hdz : d.toArray.size = d.length := by simp
    have hmain := sortF_ok l hd A c q g cap d.toArray w hL hq hgq hn hH (Array.getElem?_eq_some_iff.1 hblk).1 (by simp only [List.length_map] at hlen; rw [hdz]; omega)
    rw [hdz] at hmain
    refine hmain.mono ?_
    rintro e w' ⟨rfl, n, os, rfl⟩
    have hsw : sortWorld (encI (n := l.length)) w g 0 n (d.mergeSort fun x y => !(ltOf (cfL l)) y x).toArray os = grow (putRow (Value.int .i64) (Sort.ahead w n) g 0 (((d.map fun i => i.1).mergeSort fun a b => !Th.later l b a).map fun (k : Nat) => (k : Int)).toArray) os := by
      unfold sortWorld
      rw [putRow_encI, ← sorted_map]
      simp
      rfl
    refine ⟨rfl, ?_, ?_⟩
    · rw [hsw]
      exact grownBy_sortedI _
    · rw [hsw]
      obtain ⟨ts, hts⟩ : ∃ ts, (((d.map fun i => i.1).mergeSort fun a b => !Th.later l b a).map fun (k : Nat) => (k : Int)) = ts := ⟨_, rfl⟩
      have htl : ts.length = d.length := by rw [← hts]; simp
      have hr := ownsRow_sortedI (n := n) (os := os) (base := B) (cap := cap) (e := 3) (w := w) (g := g) (cur := cur) (ss := ((d.map fun i => i.1).map fun (k : Nat) => (k : Int))) (ts := ts) (by rw [htl, hln]) hBg hblk (by rw [hln]; exact hc1) hc2 hsz
      rw [hln] at hr
      rw [hts]
      refine ⟨ts.map (Value.int .i64), by rw [htl]; exact hr, els_ints _ _ _ fun x hx => ?_⟩
      rw [← hts] at hx
      obtain ⟨k, hk, rfl⟩ := List.mem_map.1 hx
      have := hks k (List.mem_mergeSort.1 hk)
      omega
end Go.Proofs.Ytclobnojpmgmaaa
