/-
  The plain laws of logs: no program in sight.
-/
import Derived.Test.YtopldghfphgjoaaRec2
namespace Go.Proofs.Ytopldghfphgjoaa

/-! ### Links of a log -/
/-- From p on lie the records l, one behind the other, up to q. -/
def Links (log : List UInt8) : Nat → List (Nat × List UInt8) → Nat → Prop
  | p, [], q => q = p
  | p, (a, r) :: l, q => a = p ∧ recAt log p = some r ∧ Links log (p + 10 + r.length) l q
theorem Links.go {log : List UInt8} : ∀ {l : List (Nat × List UInt8)} {p q : Nat} (f : Nat), Links log p l q → recAt log q = none → l.length < f → recsGo log f p = l
  | [], p, q, f, h, hn, _ => by cases h; exact recAt_none hn f
  | (a, r) :: l, p, q, 0, _, _, hf => by simp at hf
  | (a, r) :: l, p, q, f + 1, h, hn, hf => by
    obtain ⟨rfl, h1, h2⟩ := h
    simp only [recsGo, h1]
    rw [Links.go f h2 hn (by simpa using hf)]
theorem Links.end_ {log : List UInt8} : ∀ {l : List (Nat × List UInt8)} {p q : Nat}, Links log p l q → q = p + endOf l
  | [], p, q, h => by cases h; simp [endOf]
  | (a, r) :: l, p, q, h => by
    obtain ⟨_, _, h2⟩ := h
    rw [Links.end_ h2]; simp [endOf]; omega
theorem Links.len {log : List UInt8} : ∀ {l : List (Nat × List UInt8)} {p q : Nat}, Links log p l q → p ≤ log.length → q ≤ log.length ∧ p + 10 * l.length ≤ q
  | [], p, q, h, hp => by cases h; exact ⟨hp, by simp⟩
  | (a, r) :: l, p, q, h, hp => by
    obtain ⟨_, h1, h2⟩ := h
    have := (recAt_len h1).1
    have := Links.len h2 this
    simp at *; omega
theorem links_of_go {log : List UInt8} : ∀ (f p : Nat), p ≤ log.length → log.length - p < f → ∃ q, Links log p (recsGo log f p) q ∧ recAt log q = none
  | 0, p, _, hf => by omega
  | f + 1, p, hp, hf => by
    simp only [recsGo]
    cases h : recAt log p with
    | none => exact ⟨p, rfl, h⟩
    | some r =>
      have hl := (recAt_len h).1
      obtain ⟨q, h1, h2⟩ := links_of_go f (p + 10 + r.length) hl (by omega)
      exact ⟨q, ⟨rfl, h, h1⟩, h2⟩
theorem recs_links (log : List UInt8) : Links log 0 (recs log) (endOf (recs log)) ∧ recAt log (endOf (recs log)) = none := by
  obtain ⟨q, h1, h2⟩ := links_of_go (log := log) (log.length + 1) 0 (by omega) (by omega)
  have := h1.end_
  rw [Nat.zero_add] at this
  subst this
  exact ⟨h1, h2⟩
theorem recs_of_links {log : List UInt8} {l : List (Nat × List UInt8)} {q : Nat} (h : Links log 0 l q) (hn : recAt log q = none) : recs log = l := by
  have := h.len (Nat.zero_le _)
  exact h.go _ hn (by omega)
theorem endOf_le (log : List UInt8) : endOf (recs log) ≤ log.length := ((recs_links log).1.len (Nat.zero_le _)).1
theorem Links.snoc {log : List UInt8} : ∀ {l : List (Nat × List UInt8)} {p q : Nat} {r : List UInt8}, Links log p l q → recAt log q = some r → Links log p (l ++ [(q, r)]) (q + 10 + r.length)
  | [], p, q, r, h, hr => by cases h; exact ⟨rfl, hr, rfl⟩
  | (a, s) :: l, p, q, r, h, hr => by
    obtain ⟨h0, h1, h2⟩ := h
    exact ⟨h0, h1, Links.snoc h2 hr⟩

/-! ### A record is where it is, whatever follows -/
theorem recAt_local {log log' : List UInt8} {p : Nat} {r : List UInt8} (h : recAt log p = some r) (hl : p + 10 + r.length ≤ log'.length) (he : log'.take (p + 10 + r.length) = log.take (p + 10 + r.length)) : recAt log' p = some r := by
  obtain ⟨h1, h2, h3⟩ := recAt_len h
  have hg : ∀ i, i < p + 10 + r.length → log'.getD i 0 = log.getD i 0 := fun i hi => by
    have := congrArg (fun l : List UInt8 => l[i]?) he
    simp only [List.getElem?_take, if_pos hi] at this
    simp [List.getD, this]
  unfold recAt at h ⊢
  rw [if_pos (by omega)] at h ⊢
  rw [hg p (by omega), hg (p + 1) (by omega)]
  dsimp only at h ⊢
  generalize hn : 256 * (log.getD p 0).toNat + (log.getD (p + 1) 0).toNat = n at h ⊢
  split at h
  · cases h
  · rename_i hc
    split at h
    · rename_i hs
      injection h with h
      have hrn : r.length = n := by rw [← h, List.length_drop, List.length_take]; omega
      rw [hrn] at he hl
      rw [if_neg (by omega)]
      have e1 : log'.take (p + 2 + n) = log.take (p + 2 + n) := by
        have := congrArg (List.take (p + 2 + n)) he
        rwa [List.take_take, List.take_take, Nat.min_eq_left (by omega)] at this
      rw [e1, he, if_pos hs, h]
    · cases h
theorem Links.local_ {log log' : List UInt8} : ∀ {l : List (Nat × List UInt8)} {p q : Nat}, Links log p l q → q ≤ log'.length → p ≤ log.length → log'.take q = log.take q → Links log' p l q
  | [], p, q, h, _, _, _ => h
  | (a, r) :: l, p, q, h, hq, hp, he => by
    obtain ⟨h0, h1, h2⟩ := h
    have h3 := (recAt_len h1).1
    have h4 := h2.len h3
    refine ⟨h0, recAt_local h1 (by omega) ?_, h2.local_ hq h3 he⟩
    have := congrArg (List.take (p + 10 + r.length)) he
    rwa [List.take_take, List.take_take, Nat.min_eq_left (by omega)] at this
theorem recAt_short {log : List UInt8} {p : Nat} (h : log.length < p + 10) : recAt log p = none := by
  unfold recAt; rw [if_neg (by omega)]

/-! ### A record stored -/
theorem storedF_len (r : List UInt8) : (storedF r).length = r.length + 10 := by simp [storedF, headF, tailF]
theorem len_bytes {r : List UInt8} (h : r.length ≤ 20000) : 256 * (u8 (r.length / 256)).toNat + (u8 r.length).toNat = r.length := by
  simp only [u8, UInt8.toNat_ofNat']; omega
theorem getD_append_right' (a b : List UInt8) (i : Nat) : (a ++ b).getD (a.length + i) 0 = b.getD i 0 := by
  simp [List.getD, List.getElem?_append_right]
/-- A stored record behind a log, cut at k of its bytes. -/
theorem recAt_stored (log r : List UInt8) (k : Nat) (hr : r.length ≤ 20000) : recAt (log ++ (storedF r).take k) log.length = if r.length + 10 ≤ k then some r else none := by
  by_cases hk : k < 10
  · rw [recAt_short (by rw [List.length_append, List.length_take]; omega), if_neg (by omega)]
  · have hsl := storedF_len r
    unfold recAt
    rw [if_pos (by rw [List.length_append, List.length_take]; omega)]
    have g0 : (log ++ (storedF r).take k).getD log.length 0 = u8 (r.length / 256) := by
      have := getD_append_right' log ((storedF r).take k) 0
      rw [Nat.add_zero] at this
      rw [this]
      simp [List.getD, storedF, headF, show 0 < k by omega]
    have g1 : (log ++ (storedF r).take k).getD (log.length + 1) 0 = u8 r.length := by
      rw [getD_append_right']
      simp [List.getD, storedF, headF, show 1 < k by omega]
    rw [g0, g1]
    dsimp only
    rw [len_bytes hr]
    by_cases hc : r.length + 10 ≤ k
    · rw [if_neg (by rw [List.length_append, List.length_take]; omega), if_pos hc, List.take_of_length_le (by omega : (storedF r).length ≤ k)]
      have e1 : ((log ++ storedF r).take (log.length + 2 + r.length)).drop (log.length + 2) = r := by
        rw [show log.length + 2 + r.length = log.length + (2 + r.length) by omega, List.take_length_add_append, show log.length + 2 = log.length + 2 from rfl, List.drop_length_add_append]
        rw [storedF, headF, Nat.add_comm 2 r.length]
        simp
      have e2 : ((log ++ storedF r).take (log.length + 10 + r.length)).drop log.length = storedF r := by
        rw [List.take_of_length_le (by rw [List.length_append]; omega), List.drop_left]
      rw [e1, e2]
      simp
    · rw [if_pos (by rw [List.length_append, List.length_take]; omega), if_neg hc]

/-! ### A changed byte is seen -/
theorem mul_inj (x y : UInt64) (h : 1099511628211 * x = 1099511628211 * y) : x = y := by
  have hk : (14886173955864302971 : UInt64) * 1099511628211 = 1 := by decide
  have h2 := congrArg (fun z => 14886173955864302971 * z) h
  simp only [← UInt64.mul_assoc, hk, UInt64.one_mul] at h2
  exact h2
theorem xor_left_inj (s a b : UInt64) (h : s ^^^ a = s ^^^ b) : a = b := by
  have := congrArg (fun z => s ^^^ z) h
  simpa [← UInt64.xor_assoc] using this
theorem xor_right_inj (s a b : UInt64) (h : a ^^^ s = b ^^^ s) : a = b := by
  rw [UInt64.xor_comm a, UInt64.xor_comm b] at h
  exact xor_left_inj s a b h
theorem sumStep_inj_c (s : UInt64) (a b : UInt8) (h : sumStep s a = sumStep s b) : a = b := by
  have h1 := xor_left_inj _ _ _ (mul_inj _ _ h)
  have := congrArg UInt64.toNat h1
  simp only [UInt8.toNat_toUInt64] at this
  exact UInt8.toNat_inj.1 this
theorem sumStep_inj_s (s t : UInt64) (a : UInt8) (h : sumStep s a = sumStep t a) : s = t := xor_right_inj _ _ _ (mul_inj _ _ h)
theorem fold_inj (l : List UInt8) : ∀ s t : UInt64, l.foldl sumStep s = l.foldl sumStep t → s = t := by
  induction l with
  | nil => exact fun s t h => h
  | cons c l ih => exact fun s t h => sumStep_inj_s s t c (ih _ _ h)
theorem shift_inj (x y : UInt64) (h : x ^^^ (x >>> 32) = y ^^^ (y >>> 32)) : x = y := by
  have key : ∀ z : UInt64, (z ^^^ (z >>> 32)) ^^^ ((z ^^^ (z >>> 32)) >>> 32) = z := fun z => by
    apply UInt64.toBitVec_inj.1
    apply BitVec.eq_of_getLsbD_eq
    intro i hi
    have h2 : z.toBitVec.getLsbD (32 + (32 + i)) = false := BitVec.getLsbD_of_ge _ _ (by omega)
    have h3 : ((UInt64.toBitVec 32 % 64).toNat) = 32 := rfl
    simp only [UInt64.toBitVec_xor, UInt64.toBitVec_shiftRight, BitVec.getLsbD_xor, BitVec.ushiftRight_eq', BitVec.getLsbD_ushiftRight]
    rw [h3, h2]
    clear h2 hi
    generalize z.toBitVec.getLsbD i = a
    generalize z.toBitVec.getLsbD (32 + i) = b
    cases a <;> cases b <;> rfl
  rw [← key x, h, key y]
theorem sumF_changed (a b : List UInt8) (x y : UInt8) (h : sumF (a ++ x :: b) = sumF (a ++ y :: b)) : x = y := by
  have h1 := shift_inj _ _ h
  simp only [sumFold, List.foldl_append, List.foldl_cons] at h1
  exact sumStep_inj_c _ _ _ (fold_inj b _ _ h1)
theorem tailF_inj (s t : UInt64) (h : tailF s 8 = tailF t 8) : s = t := by
  have e : ∀ i, i < 8 → s.toNat / 2 ^ (56 - 8 * i) % 256 = t.toNat / 2 ^ (56 - 8 * i) % 256 := fun i hi => by
    have := congrArg (fun l : List UInt8 => l[i]?) h
    simp only [tailF, List.getElem?_map, List.getElem?_range, hi, Option.map_some] at this
    have h2 := congrArg UInt8.toNat (Option.some.inj this)
    simpa [u8, UInt8.toNat_ofNat'] using h2
  have hs := s.toNat_lt
  have ht := t.toNat_lt
  have e0 := e 0 (by omega); have e1 := e 1 (by omega); have e2 := e 2 (by omega); have e3 := e 3 (by omega)
  have e4 := e 4 (by omega); have e5 := e 5 (by omega); have e6 := e 6 (by omega); have e7 := e 7 (by omega)
  simp at e0 e1 e2 e3 e4 e5 e6 e7
  apply UInt64.toNat_inj.1
  omega
end Go.Proofs.Ytopldghfphgjoaa
