/-
  The plain laws of logs that the statements are made of.
-/
import Derived.Test.YtopldghfphgjoaaRecPure
import Derived.Test.YtopldghfphgjoaaRec7
namespace Go.Proofs.Ytopldghfphgjoaa

theorem endOf_nil : endOf [] = 0 := rfl
theorem recs_cut (l r : List UInt8) (k : Nat) (he : endOf (recs l) = l.length) (hr : r.length ≤ 20000) :
    recs (l ++ (storedF r).take k) = recs l ++ if r.length + 10 ≤ k then [(l.length, r)] else [] := by
  obtain ⟨h1, _⟩ := recs_links l
  rw [he] at h1
  have h2 : Links (l ++ (storedF r).take k) 0 (recs l) l.length := h1.local_ (by simp) (Nat.zero_le _) (by simp)
  have h3 := recAt_stored l r k hr
  by_cases hk : r.length + 10 ≤ k
  · rw [if_pos hk] at h3 ⊢
    have h4 := h2.snoc h3
    refine recs_of_links h4 (recAt_short ?_)
    have := storedF_len r
    rw [List.length_append, List.length_take]; omega
  · rw [if_neg hk] at h3 ⊢
    rw [List.append_nil]
    exact recs_of_links h2 h3
theorem recs_repair (l : List UInt8) : recs (l.take (endOf (recs l))) = recs l := by
  obtain ⟨h1, _⟩ := recs_links l
  have hle := endOf_le l
  have h2 : Links (l.take (endOf (recs l))) 0 (recs l) (endOf (recs l)) := h1.local_ (by rw [List.length_take]; omega) (Nat.zero_le _) (by rw [List.take_take, Nat.min_self])
  exact recs_of_links h2 (recAt_short (by rw [List.length_take]; omega))
theorem recs_none {l : List UInt8} (h : recAt l 0 = none) : recs l = [] := recAt_none h _

theorem set_split {α : Type} (l : List α) (i : Nat) (x : α) (h : i < l.length) : l = l.take i ++ l[i] :: l.drop (i + 1) ∧ l.set i x = l.take i ++ x :: l.drop (i + 1) := by
  refine ⟨by simp, ?_⟩
  rw [List.set_eq_take_append_cons_drop, if_pos h]
theorem changed_none (r : List UInt8) (at_ : Nat) (x : UInt8) (hr : r.length ≤ 20000) (h2 : 2 ≤ at_) (hat : at_ < (storedF r).length) (hx : x ≠ (storedF r)[at_]) :
    recAt ((storedF r).set at_ x) 0 = none := by
  cases h : recAt ((storedF r).set at_ x) 0 with
  | none => rfl
  | some r' =>
    exfalso
    have hsl := storedF_len r
    obtain ⟨k1, k2, k3⟩ := recAt_len h
    have hlen : r'.length = r.length := by
      have h' := h
      unfold recAt at h'
      rw [if_pos (by rw [List.length_set]; omega)] at h'
      have g0 : ((storedF r).set at_ x).getD 0 0 = u8 (r.length / 256) := by
        rw [List.getD, List.getElem?_set_ne (by omega)]; simp [storedF, headF]
      have g1 : ((storedF r).set at_ x).getD (0 + 1) 0 = u8 r.length := by
        rw [List.getD, List.getElem?_set_ne (by omega)]; simp [storedF, headF]
      rw [g0, g1] at h'
      dsimp only at h'
      rw [len_bytes hr] at h'
      split at h'
      · cases h'
      · split at h'
        · injection h' with h'
          rw [← h', List.length_drop, List.length_take, List.length_set, hsl]; omega
        · cases h'
    have hst : storedF r' = (storedF r).set at_ x := by
      have h' := h
      unfold recAt at h'
      split at h'
      · dsimp only at h'
        split at h'
        · cases h'
        · split at h'
          · rename_i hc
            injection h' with h'
            rw [h'] at hc
            rw [eq_of_beq hc, List.drop_zero, List.take_of_length_le]
            have e : r'.length = 256 * (((storedF r).set at_ x).getD 0 0).toNat + (((storedF r).set at_ x).getD (0 + 1) 0).toNat := by
              rw [← h', List.length_drop, List.length_take]; omega
            rw [← e, List.length_set, hsl]; omega
          · cases h'
      · cases h'
    have hh : (headF r).length = r.length + 2 := by simp [headF]
    have hh' : (headF r').length = r.length + 2 := by simp [headF, hlen]
    by_cases hlt : at_ < r.length + 2
    · have e1 : headF r' ++ tailF (sumF (headF r')) 8 = (headF r).set at_ x ++ tailF (sumF (headF r)) 8 := by
        rw [← List.set_append_left _ _ (by omega)]; exact hst
      obtain ⟨e2, e3⟩ := List.append_inj e1 (by simp [hh, hh'])
      have e4 := tailF_inj _ _ e3
      obtain ⟨s1, s2⟩ := set_split (headF r) at_ x (by omega)
      rw [e2, s2] at e4
      conv at e4 => rhs; rw [s1]
      have e5 := sumF_changed _ _ _ _ e4
      refine hx (e5.trans ?_)
      simp [storedF, List.getElem_append_left (show at_ < (headF r).length by omega)]
    · have e1 : headF r' ++ tailF (sumF (headF r')) 8 = headF r ++ (tailF (sumF (headF r)) 8).set (at_ - (headF r).length) x := by
        rw [← List.set_append_right _ _ (by omega)]; exact hst
      obtain ⟨e2, _⟩ := List.append_inj e1 (by simp [hh, hh'])
      have e3 : r' = r := by
        have := congrArg (List.drop 2) e2
        simpa [headF] using this
      subst e3
      refine hx ?_
      have := congrArg (fun l : List UInt8 => l[at_]?) hst
      simp only [List.getElem?_set_self hat, List.getElem?_eq_getElem hat, Option.some.injEq] at this
      exact this.symm

theorem xor_u8 (a m : UInt8) : (((a ^^^ m).toNat : Nat) : Int) = bits .xor .u8 (a.toNat : Int) (m.toNat : Int) := by
  have ha := a.toNat_lt
  have hm := m.toNat_lt
  unfold bits
  have h2 : (BitVec.ofInt 8 (a.toNat : Int) ^^^ BitVec.ofInt 8 (m.toNat : Int)).toNat = (a ^^^ m).toNat := by
    rw [BitVec.ofInt_natCast, BitVec.ofInt_natCast, BitVec.toNat_xor, BitVec.toNat_ofNat, BitVec.toNat_ofNat, Nat.mod_eq_of_lt (by omega), Nat.mod_eq_of_lt (by omega), UInt8.toNat_xor]
  have h3 : IntKind.u8.wrap (((a ^^^ m).toNat : Nat) : Int) = (((a ^^^ m).toNat : Nat) : Int) := by
    have := (a ^^^ m).toNat_lt
    rw [IntKind.wrap_u8]; omega
  exact ((congrArg (fun z : Nat => IntKind.u8.wrap (z : Int)) h2).trans h3).symm
theorem xor_ne (a m : UInt8) (hm : m ≠ 0) : a ^^^ m ≠ a := fun h => hm (by
  have := congrArg (fun z => a ^^^ z) h
  simpa [← UInt8.xor_assoc] using this)
end Go.Proofs.Ytopldghfphgjoaa
