/-
  Package records: its iterator and what is built on it.
-/
import Derived.Test.YtopldghfphgjoaaRec2
import Derived.Lib.AppendZeros
import Derived.Stop.RegionWithIn
namespace Go.Proofs.Ytopldghfphgjoaa
open Go.RowKit

theorem SlR.slice1 {α : Type} {C : Codec α} {M : Nat → Prop} {w : World} {l : List (List α)} {A : Option Addr} {n c : Nat} (h : SlR (sliceC C) M w (.slice A n c) l) {k : Nat} (hk : k < l.length) :
    ∃ b off A2 c2, A = some ⟨b, off, none⟩ ∧ b < w.heap.size ∧ w.cell? ⟨b, off + k, none⟩ = some (.slice A2 (l[k]).length c2) ∧ SlR C M w (.slice A2 (l[k]).length c2) l[k] := by
  obtain ⟨b, off, cs, rfl, _, hb, ⟨v, rfl, hv⟩, hc⟩ := h.at_ hk
  obtain ⟨A2, c2, rfl, _⟩ := hv.form
  refine ⟨b, off, A2, c2, rfl, hb, ?_, hv⟩
  have := hc 0 _ rfl
  simpa [sliceC] using this

set_option maxHeartbeats 1000000 in
theorem sameRecords_ok (M : Nat → Prop) (v v' : Value) (l l' : List (List UInt8)) (w : World) (h : SlR (sliceC byteC) M w v l) (h' : SlR (sliceC byteC) M w v' l') (hn : l.length ≤ 1000000000) : Calls Try.prog 19 #[v, v'] w fun e w' =>
    e = .returned (.bool (l == l')) ∧ ∃ n, w' = w.drewN n := by
  obtain ⟨A, c, rfl, _, _⟩ := h.form
  obtain ⟨A', c', rfl, _, _⟩ := h'.form
  by_cases hl : l.length = l'.length
  · have hl' : ((l.length : Int) != (l'.length : Int)) = false := by simp [hl]
    have Hl := Lib.hid hl
    clear hl
    go_enter Try.func19, Try.ntmps19
    go_wp2
    go_loopw [5] (fun i wr => ∃ k : Nat, k ≤ l.length ∧ i = .int .i64 k ∧ Hid (l.take k = l'.take k) ∧ ∃ n, wr = w.drewN n) (fun i _ => l.length - (intOf i).toNat)
    case atStart => exact ⟨0, Nat.zero_le _, rfl, Lib.hid rfl, 0, rfl⟩
    case round =>
      obtain ⟨k, hk, rfl, hpre, n, hwr⟩ := hrel
      have h1 : SlR (sliceC byteC) M wr (.slice A l.length c) l := hwr ▸ h.drewN n
      have h1' : SlR (sliceC byteC) M wr (.slice A' l'.length c') l' := hwr ▸ h'.drewN n
      have Hwr := Lib.hid hwr
      clear hwr
      by_cases hlt : k < l.length
      · have hlt' : k < l'.length := by have := Hl.out; omega
        obtain ⟨b, off, A2, c2, rfl, _, hcell, hs⟩ := h1.slice1 hlt
        obtain ⟨b', off', A2', c2', rfl, _, hcell', hs'⟩ := h1'.slice1 hlt'
        obtain ⟨t, ht⟩ : ∃ t, (l[k] == l'[k]) = t := ⟨_, rfl⟩
        have hsame : ∀ n, Calls Try.prog 20 #[.slice A2 (l[k]).length c2, .slice A2' (l'[k]).length c2'] (wr.drewN n) fun e w' => e = .returned (.bool t) ∧ w' = wr.drewN n := fun n =>
          (same_ok M _ _ _ _ _ (hs.drewN n) (hs'.drewN n)).mono fun e w' hh => ⟨by rw [hh.1, ht], hh.2.symm⟩
        obtain ⟨x, hx⟩ : ∃ x, x = (l[k]).length := ⟨_, rfl⟩
        obtain ⟨y, hy⟩ : ∃ y, y = (l'[k]).length := ⟨_, rfl⟩
        rw [← hx] at hcell hsame
        rw [← hy] at hcell' hsame
        have Hsame := Lib.hid hsame
        have Ht := Lib.hid ht
        clear hsame ht hx hy hs hs'
        go_wp2
        go_quiet ((go_at_call 20; exact Calls.quiet_of_same (Hsame.out _)))
        cases t with
        | true =>
          go_wp2
          go_roundw
          case rel => exact ⟨k + 1, by omega, by go_num, Lib.hid (by rw [take_snoc_get l k hlt, take_snoc_get l' k hlt', hpre.out, eq_of_beq Ht.out]), n + nq, by rw [Hwr.out, World.drewN_drewN]⟩
          case measure => simp [intOf]; omega
        | false =>
          go_wp2
          go_ret
          refine ⟨?_, n + nq, by rw [Hwr.out, World.drewN_drewN]⟩
          have hff : (l == l') = false := by
            simp only [beq_eq_false_iff_ne, ne_eq]
            intro e; subst e
            have := Ht.out
            simp at this
          rw [hff]; rfl
      · have he : k = l.length := by omega
        subst he
        go_wp2
        go_ret
        refine ⟨?_, n, Hwr.out⟩
        have htt : (l == l') = true := by
          have hp := hpre.out
          have := Hl.out
          simp only [beq_iff_eq]
          rw [List.take_of_length_le (Nat.le_refl _), List.take_of_length_le (by omega)] at hp
          exact hp
        rw [htt]; rfl
  · have hl' : ((l.length : Int) != (l'.length : Int)) = true := by simp; omega
    have hne : (l == l') = false := by simp; intro h; exact hl (by rw [h])
    go_enter Try.func19, Try.ntmps19
    go_wp2
    go_ret
    refine ⟨?_, 0, rfl⟩
    rw [hne]; rfl

theorem logFault_ok (M : Nat → Prop) (v : Value) (l : List UInt8) (w : World) (h : SlR byteC M w v l) : Calls Try.prog 17 #[v] w fun e w' =>
    e = .returned (.agg #[.int .i64 (if 400000 < l.length then 1 else 0), .int .i64 (if 400000 < l.length then -1 else 0)]) ∧ Below w.heap.size w w' := by
  obtain ⟨A, c, rfl, _, _⟩ := h.form
  by_cases hl : 400000 < l.length
  · go_enter Try.func17, Try.ntmps17
    go_wp2_with (go_at_call 21; refine (at_ok _ _ _).mono ?_; rintro e w1 ⟨rfl, hb1⟩; obtain ⟨c0, c1, z0, z1, s1⟩ := two_kept hb1)
    refine bodyPost_ret (v := .agg #[.int .i64 _, .int .i64 _]) (by simp [results, Try.results17, go_sem, c1, World.cell?_setCell_other, World.cell?_setCell_same (h := c0)]) rfl ⟨rfl, ((below_alloc hb1).setCell (by simp) _).setCell (by simp) _⟩
  · go_enter Try.func17, Try.ntmps17
    go_wp2
    refine bodyPost_ret (v := .agg #[.int .i64 _, .int .i64 _]) (by simp [results, Try.results17, go_sem]) rfl ⟨rfl, (Below.refl _ _).alloc (Nat.le_refl _) _⟩

theorem all_ok (v : Value) (w : World) (A : Option Addr) (n c : Nat) (hv : v = .slice A n c) : Calls Try.prog 44 #[v] w fun e w' =>
    e = .returned (.func (.func 63) #[] #[.pointer (some ⟨w.heap.size, 0, none⟩)]) ∧ w' = w.alloc (.cells #[v] 22) := by
  subst hv
  go_enter Try.func44, Try.ntmps44
  go_wp2
  go_ret
  exact ⟨rfl, rfl⟩
end Go.Proofs.Ytopldghfphgjoaa
