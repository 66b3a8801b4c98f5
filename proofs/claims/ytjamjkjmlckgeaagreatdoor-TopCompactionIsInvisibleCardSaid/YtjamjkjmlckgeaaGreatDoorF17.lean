/-
  Contracts and plain facts, one after another: The records of a log: the reference's loop, the iterator of package records, and what is built on it; The plain laws of logs: no program in sight; Package records: its iterator and what is built on it; The iterator of package records.
-/
import Derived.Test.YtjamjkjmlckgeaaGreatDoorF38
import Derived.Test.YtjamjkjmlckgeaaGreatDoorF3
import Derived.Test.YtjamjkjmlckgeaaGreatDoorF4
import Derived.Lib.AppendZeros
import Derived.Stop.RegionWithIn
namespace Go.Proofs.YtjamjkjmlckgeaaGreatDoor
open Go.RowKit

/-! ### What a log holds -/
/-- The record at a place: its bytes, if one is there. -/
def recAt (log : List UInt8) (at' : Nat) : Option (List UInt8) :=
  if at' + 10 ≤ log.length then
    let n := 256 * (log.getD at' 0).toNat + (log.getD (at' + 1) 0).toNat
    if 20000 < n ∨ log.length < at' + 10 + n then none else
    let r := (log.take (at' + 2 + n)).drop (at' + 2)
    if storedF r == (log.take (at' + 10 + n)).drop at' then some r else none
  else none
def recsGo (log : List UInt8) : Nat → Nat → List (Nat × List UInt8)
  | 0, _ => []
  | f + 1, at' => match recAt log at' with
    | none => []
    | some r => (at', r) :: recsGo log f (at' + 10 + r.length)
/-- The records, and where each begins. -/
def recs (log : List UInt8) : List (Nat × List UInt8) := recsGo log (log.length + 1) 0
def endOf (l : List (Nat × List UInt8)) : Nat := (l.map fun x => 10 + x.2.length).sum
theorem endOf_snoc (l : List (Nat × List UInt8)) (a : Nat) (r : List UInt8) : endOf (l ++ [(a, r)]) = endOf l + 10 + r.length := by
  simp [endOf]; omega
theorem recAt_len {log : List UInt8} {a : Nat} {r : List UInt8} (h : recAt log a = some r) : a + 10 + r.length ≤ log.length ∧ r.length ≤ 20000 ∧ r = (log.take (a + 2 + r.length)).drop (a + 2) := by
  unfold recAt at h
  split at h
  · dsimp only at h
    split at h
    · cases h
    · rename_i h2
      split at h
      · injection h with h
        have hl : r.length = 256 * (log.getD a 0).toNat + (log.getD (a + 1) 0).toNat := by
          rw [← h, List.length_drop, List.length_take]; omega
        rw [hl]
        exact ⟨by omega, by omega, h.symm⟩
      · cases h
  · cases h

theorem recAt_none {log : List UInt8} {a : Nat} (h : recAt log a = none) (f : Nat) : recsGo log f a = [] := by
  cases f with
  | zero => rfl
  | succ f => simp [recsGo, h]
/-- The two bytes of a length, as the walk reads them. -/
theorem SlR.byteD {M : Nat → Prop} {w : World} {l : List UInt8} {A : Option Addr} {n c : Nat} (h : SlR byteC M w (.slice A n c) l) {k : Nat} (hk : k < l.length) :
    ∃ b off, A = some ⟨b, off, none⟩ ∧ ¬ M b ∧ b < w.heap.size ∧ w.cell? ⟨b, off + k, none⟩ = some (.int .u8 ((l.getD k 0).toNat : Int)) := by
  obtain ⟨b, off, rfl, hM, hb, hc⟩ := h.byte hk
  exact ⟨b, off, rfl, hM, hb, by rw [hc]; simp [hk]⟩

theorem recGo_step {l : List UInt8} {p k : Nat} {pre : List (Nat × List UInt8)} {r : List UInt8} (hrec : recs l = pre ++ recsGo l (l.length + 1 - k) p) (hk : 10 * k ≤ p) (hl : p + 10 ≤ l.length) (h : recAt l p = some r) :
    recs l = (pre ++ [(p, r)]) ++ recsGo l (l.length + 1 - (k + 1)) (p + 10 + r.length) := by
  rw [hrec, show l.length + 1 - k = (l.length + 1 - (k + 1)) + 1 by omega]
  simp [recsGo, h]

end Go.Proofs.YtjamjkjmlckgeaaGreatDoor
namespace Go.Proofs.YtjamjkjmlckgeaaGreatDoor

/-! ### Links of a log -/
/-- From p on lie the records l, one behind the other, up to q. -/
def Links (log : List UInt8) : Nat → List (Nat × List UInt8) → Nat → Prop
  | p, [], q => q = p
  | p, (a, r) :: l, q => a = p ∧ recAt log p = some r ∧ Links log (p + 10 + r.length) l q
theorem Links.go {log : List UInt8} : ∀ {l : List (Nat × List UInt8)} {p q : Nat} (f : Nat), Links log p l q → recAt log q = none → l.length < f → recsGo log f p = l
  | [], p, q, f, h, hn, _ => by cases h; exact recAt_none hn f
  | (a, r) :: l, p, q, 0, _, _, hf => by simp at hf
  | (a, r) :: l, p, q, f + 1, h, hn, hf => by
    obtain ⟨rfl, h1, h2⟩ := h
    simp only [recsGo, h1]
    rw [Links.go f h2 hn (by simpa using hf)]
theorem Links.end_ {log : List UInt8} : ∀ {l : List (Nat × List UInt8)} {p q : Nat}, Links log p l q → q = p + endOf l
  | [], p, q, h => by cases h; simp [endOf]
  | (a, r) :: l, p, q, h => by
    obtain ⟨_, _, h2⟩ := h
    rw [Links.end_ h2]; simp [endOf]; omega
theorem Links.len {log : List UInt8} : ∀ {l : List (Nat × List UInt8)} {p q : Nat}, Links log p l q → p ≤ log.length → q ≤ log.length ∧ p + 10 * l.length ≤ q
  | [], p, q, h, hp => by cases h; exact ⟨hp, by simp⟩
  | (a, r) :: l, p, q, h, hp => by
    obtain ⟨_, h1, h2⟩ := h
    have := (recAt_len h1).1
    have := Links.len h2 this
    simp at *; omega
theorem links_of_go {log : List UInt8} : ∀ (f p : Nat), p ≤ log.length → log.length - p < f → ∃ q, Links log p (recsGo log f p) q ∧ recAt log q = none
  | 0, p, _, hf => by omega
  | f + 1, p, hp, hf => by
    simp only [recsGo]
    cases h : recAt log p with
    | none => exact ⟨p, rfl, h⟩
    | some r =>
      have hl := (recAt_len h).1
      obtain ⟨q, h1, h2⟩ := links_of_go f (p + 10 + r.length) hl (by omega)
      exact ⟨q, ⟨rfl, h, h1⟩, h2⟩
theorem recs_links (log : List UInt8) : Links log 0 (recs log) (endOf (recs log)) ∧ recAt log (endOf (recs log)) = none := by
  obtain ⟨q, h1, h2⟩ := links_of_go (log := log) (log.length + 1) 0 (by omega) (by omega)
  have := h1.end_
  rw [Nat.zero_add] at this
  subst this
  exact ⟨h1, h2⟩
theorem recs_of_links {log : List UInt8} {l : List (Nat × List UInt8)} {q : Nat} (h : Links log 0 l q) (hn : recAt log q = none) : recs log = l := by
  have := h.len (Nat.zero_le _)
  exact h.go _ hn (by omega)
theorem endOf_le (log : List UInt8) : endOf (recs log) ≤ log.length := ((recs_links log).1.len (Nat.zero_le _)).1
theorem Links.snoc {log : List UInt8} : ∀ {l : List (Nat × List UInt8)} {p q : Nat} {r : List UInt8}, Links log p l q → recAt log q = some r → Links log p (l ++ [(q, r)]) (q + 10 + r.length)
  | [], p, q, r, h, hr => by cases h; exact ⟨rfl, hr, rfl⟩
  | (a, s) :: l, p, q, r, h, hr => by
    obtain ⟨h0, h1, h2⟩ := h
    exact ⟨h0, h1, Links.snoc h2 hr⟩

/-! ### A record is where it is, whatever follows -/
theorem recAt_local {log log' : List UInt8} {p : Nat} {r : List UInt8} (h : recAt log p = some r) (hl : p + 10 + r.length ≤ log'.length) (he : log'.take (p + 10 + r.length) = log.take (p + 10 + r.length)) : recAt log' p = some r := by
  obtain ⟨h1, h2, h3⟩ := recAt_len h
  have hg : ∀ i, i < p + 10 + r.length → log'.getD i 0 = log.getD i 0 := fun i hi => by
    have := congrArg (fun l : List UInt8 => l[i]?) he
    simp only [List.getElem?_take, if_pos hi] at this
    simp [List.getD, this]
  unfold recAt at h ⊢
  rw [if_pos (by omega)] at h ⊢
  rw [hg p (by omega), hg (p + 1) (by omega)]
  dsimp only at h ⊢
  generalize hn : 256 * (log.getD p 0).toNat + (log.getD (p + 1) 0).toNat = n at h ⊢
  split at h
  · cases h
  · rename_i hc
    split at h
    · rename_i hs
      injection h with h
      have hrn : r.length = n := by rw [← h, List.length_drop, List.length_take]; omega
      rw [hrn] at he hl
      rw [if_neg (by omega)]
      have e1 : log'.take (p + 2 + n) = log.take (p + 2 + n) := by
        have := congrArg (List.take (p + 2 + n)) he
        rwa [List.take_take, List.take_take, Nat.min_eq_left (by omega)] at this
      rw [e1, he, if_pos hs, h]
    · cases h
theorem Links.local_ {log log' : List UInt8} : ∀ {l : List (Nat × List UInt8)} {p q : Nat}, Links log p l q → q ≤ log'.length → p ≤ log.length → log'.take q = log.take q → Links log' p l q
  | [], p, q, h, _, _, _ => h
  | (a, r) :: l, p, q, h, hq, hp, he => by
    obtain ⟨h0, h1, h2⟩ := h
    have h3 := (recAt_len h1).1
    have h4 := h2.len h3
    refine ⟨h0, recAt_local h1 (by omega) ?_, h2.local_ hq h3 he⟩
    have := congrArg (List.take (p + 10 + r.length)) he
    rwa [List.take_take, List.take_take, Nat.min_eq_left (by omega)] at this
theorem recAt_short {log : List UInt8} {p : Nat} (h : log.length < p + 10) : recAt log p = none := by
  unfold recAt; rw [if_neg (by omega)]

/-! ### A record stored -/
theorem storedF_len (r : List UInt8) : (storedF r).length = r.length + 10 := by simp [storedF, headF, tailF]
theorem len_bytes {r : List UInt8} (h : r.length ≤ 20000) : 256 * (u8 (r.length / 256)).toNat + (u8 r.length).toNat = r.length := by
  simp only [u8, UInt8.toNat_ofNat']; omega
theorem getD_append_right' (a b : List UInt8) (i : Nat) : (a ++ b).getD (a.length + i) 0 = b.getD i 0 := by
  simp [List.getD, List.getElem?_append_right]
/-- A stored record behind a log, cut at k of its bytes. -/
theorem recAt_stored (log r : List UInt8) (k : Nat) (hr : r.length ≤ 20000) : recAt (log ++ (storedF r).take k) log.length = if r.length + 10 ≤ k then some r else none := by
  by_cases hk : k < 10
  · rw [recAt_short (by rw [List.length_append, List.length_take]; omega), if_neg (by omega)]
  · have hsl := storedF_len r
    unfold recAt
    rw [if_pos (by rw [List.length_append, List.length_take]; omega)]
    have g0 : (log ++ (storedF r).take k).getD log.length 0 = u8 (r.length / 256) := by
      have := getD_append_right' log ((storedF r).take k) 0
      rw [Nat.add_zero] at this
      rw [this]
      simp [List.getD, storedF, headF, show 0 < k by omega]
    have g1 : (log ++ (storedF r).take k).getD (log.length + 1) 0 = u8 r.length := by
      rw [getD_append_right']
      simp [List.getD, storedF, headF, show 1 < k by omega]
    rw [g0, g1]
    dsimp only
    rw [len_bytes hr]
    by_cases hc : r.length + 10 ≤ k
    · rw [if_neg (by rw [List.length_append, List.length_take]; omega), if_pos hc, List.take_of_length_le (by omega : (storedF r).length ≤ k)]
      have e1 : ((log ++ storedF r).take (log.length + 2 + r.length)).drop (log.length + 2) = r := by
        rw [show log.length + 2 + r.length = log.length + (2 + r.length) by omega, List.take_length_add_append, show log.length + 2 = log.length + 2 from rfl, List.drop_length_add_append]
        rw [storedF, headF, Nat.add_comm 2 r.length]
        simp
      have e2 : ((log ++ storedF r).take (log.length + 10 + r.length)).drop log.length = storedF r := by
        rw [List.take_of_length_le (by rw [List.length_append]; omega), List.drop_left]
      rw [e1, e2]
      simp
    · rw [if_pos (by rw [List.length_append, List.length_take]; omega), if_neg hc]

/-! ### A changed byte is seen -/
theorem mul_inj (x y : UInt64) (h : 1099511628211 * x = 1099511628211 * y) : x = y := by
  have hk : (14886173955864302971 : UInt64) * 1099511628211 = 1 := by decide
  have h2 := congrArg (fun z => 14886173955864302971 * z) h
  simp only [← UInt64.mul_assoc, hk, UInt64.one_mul] at h2
  exact h2
theorem xor_left_inj (s a b : UInt64) (h : s ^^^ a = s ^^^ b) : a = b := by
  have := congrArg (fun z => s ^^^ z) h
  simpa [← UInt64.xor_assoc] using this
theorem xor_right_inj (s a b : UInt64) (h : a ^^^ s = b ^^^ s) : a = b := by
  rw [UInt64.xor_comm a, UInt64.xor_comm b] at h
  exact xor_left_inj s a b h
theorem sumStep_inj_c (s : UInt64) (a b : UInt8) (h : sumStep s a = sumStep s b) : a = b := by
  have h1 := xor_left_inj _ _ _ (mul_inj _ _ h)
  have := congrArg UInt64.toNat h1
  simp only [UInt8.toNat_toUInt64] at this
  exact UInt8.toNat_inj.1 this
theorem sumStep_inj_s (s t : UInt64) (a : UInt8) (h : sumStep s a = sumStep t a) : s = t := xor_right_inj _ _ _ (mul_inj _ _ h)
theorem fold_inj (l : List UInt8) : ∀ s t : UInt64, l.foldl sumStep s = l.foldl sumStep t → s = t := by
  induction l with
  | nil => exact fun s t h => h
  | cons c l ih => exact fun s t h => sumStep_inj_s s t c (ih _ _ h)
theorem shift_inj (x y : UInt64) (h : x ^^^ (x >>> 32) = y ^^^ (y >>> 32)) : x = y := by
  have key : ∀ z : UInt64, (z ^^^ (z >>> 32)) ^^^ ((z ^^^ (z >>> 32)) >>> 32) = z := fun z => by
    apply UInt64.toBitVec_inj.1
    apply BitVec.eq_of_getLsbD_eq
    intro i hi
    have h2 : z.toBitVec.getLsbD (32 + (32 + i)) = false := BitVec.getLsbD_of_ge _ _ (by omega)
    have h3 : ((UInt64.toBitVec 32 % 64).toNat) = 32 := rfl
    simp only [UInt64.toBitVec_xor, UInt64.toBitVec_shiftRight, BitVec.getLsbD_xor, BitVec.ushiftRight_eq', BitVec.getLsbD_ushiftRight]
    rw [h3, h2]
    clear h2 hi
    generalize z.toBitVec.getLsbD i = a
    generalize z.toBitVec.getLsbD (32 + i) = b
    cases a <;> cases b <;> rfl
  rw [← key x, h, key y]
theorem sumF_changed (a b : List UInt8) (x y : UInt8) (h : sumF (a ++ x :: b) = sumF (a ++ y :: b)) : x = y := by
  have h1 := shift_inj _ _ h
  simp only [sumFold, List.foldl_append, List.foldl_cons] at h1
  exact sumStep_inj_c _ _ _ (fold_inj b _ _ h1)
theorem tailF_inj (s t : UInt64) (h : tailF s 8 = tailF t 8) : s = t := by
  have e : ∀ i, i < 8 → s.toNat / 2 ^ (56 - 8 * i) % 256 = t.toNat / 2 ^ (56 - 8 * i) % 256 := fun i hi => by
    have := congrArg (fun l : List UInt8 => l[i]?) h
    simp only [tailF, List.getElem?_map, List.getElem?_range, hi, Option.map_some] at this
    have h2 := congrArg UInt8.toNat (Option.some.inj this)
    simpa [u8, UInt8.toNat_ofNat'] using h2
  have hs := s.toNat_lt
  have ht := t.toNat_lt
  have e0 := e 0 (by omega); have e1 := e 1 (by omega); have e2 := e 2 (by omega); have e3 := e 3 (by omega)
  have e4 := e 4 (by omega); have e5 := e 5 (by omega); have e6 := e 6 (by omega); have e7 := e 7 (by omega)
  simp at e0 e1 e2 e3 e4 e5 e6 e7
  apply UInt64.toNat_inj.1
  omega
end Go.Proofs.YtjamjkjmlckgeaaGreatDoor
namespace Go.Proofs.YtjamjkjmlckgeaaGreatDoor
open Go.RowKit

theorem SlR.slice1 {α : Type} {C : Codec α} {M : Nat → Prop} {w : World} {l : List (List α)} {A : Option Addr} {n c : Nat} (h : SlR (sliceC C) M w (.slice A n c) l) {k : Nat} (hk : k < l.length) :
    ∃ b off A2 c2, A = some ⟨b, off, none⟩ ∧ b < w.heap.size ∧ w.cell? ⟨b, off + k, none⟩ = some (.slice A2 (l[k]).length c2) ∧ SlR C M w (.slice A2 (l[k]).length c2) l[k] := by
  obtain ⟨b, off, cs, rfl, _, hb, ⟨v, rfl, hv⟩, hc⟩ := h.at_ hk
  obtain ⟨A2, c2, rfl, _⟩ := hv.form
  refine ⟨b, off, A2, c2, rfl, hb, ?_, hv⟩
  have := hc 0 _ rfl
  simpa [sliceC] using this

theorem all_ok (v : Value) (w : World) (A : Option Addr) (n c : Nat) (hv : v = .slice A n c) : Calls Tryz.prog 51 #[v] w fun e w' =>
    e = .returned (.func (.func 85) #[] #[.pointer (some ⟨w.heap.size, 0, none⟩)]) ∧ w' = w.alloc (.cells #[v] 29) := by
  subst hv
  go_enter Tryz.func51, Tryz.ntmps51
  go_wp2
  go_ret
  exact ⟨rfl, rfl⟩
end Go.Proofs.YtjamjkjmlckgeaaGreatDoor
namespace Go.Proofs.YtjamjkjmlckgeaaGreatDoor
open Go.RowKit

/-- What the iterator reads: the captured log. -/
def allFP (B : Nat) (A : Option Addr) (c : Nat) (l : List UInt8) (S : Nat → Prop) (w : World) : Prop :=
  Blk w B 29 #[.slice A l.length c] ∧ ¬ S B ∧ SlR byteC S w (.slice A l.length c) l
def recEnc (A : Option Addr) (c : Nat) (x : Nat × List UInt8) : Array Value :=
  #[.slice (A.map fun a => ⟨a.block, a.off + (x.1 + 2), none⟩) x.2.length (c - (x.1 + 2)), .int .i64 ((x.1 : Int) + 10 + (x.2.length : Int))]
theorem SlR.chg {α : Type} {C : Codec α} {S S' : Nat → Prop} {w w' : World} {v : Value} {l : List α} (h : SlR C S w v l) (hc : Chg S S' w w') : SlR C S' w' v l :=
  (h.sub (M' := fun b => S b ∨ S' b) fun b hb hor => hor.elim id fun h' => (hc.own b h').2.elim id fun h2 => by omega).keep (fun b hb hn => hc.same b hb fun h' => hn (.inl h')) hc.size |>.sub fun _ _ h' => .inr h'
theorem Blk.chg {S S' : Nat → Prop} {w w' : World} {g : Nat} {t : TypeId} {cs : Array Value} (h : Blk w g t cs) (hS : ¬ S g) (hc : Chg S S' w w') : Blk w' g t cs ∧ ¬ S' g :=
  ⟨h.keep (hc.same g h.lt hS), fun h' => (hc.own g h').2.elim hS fun h2 => by have := h.lt; omega⟩
theorem allFP.chg {B : Nat} {A : Option Addr} {c : Nat} {l : List UInt8} {S S' : Nat → Prop} {w w' : World} (h : allFP B A c l S w) (hc : Chg S S' w w') : allFP B A c l S' w' :=
  ⟨(h.1.chg h.2.1 hc).1, (h.1.chg h.2.1 hc).2, h.2.2.chg hc⟩
theorem allFP.ext {B : Nat} {A : Option Addr} {c : Nat} {l : List UInt8} {S : Nat → Prop} {w w' : World} (h : allFP B A c l S w) (hb : Below w.heap.size w w') : allFP B A c l S w' :=
  ⟨h.1.ext hb, h.2.1, h.2.2.ext hb⟩

theorem or256 (x y : Nat) (hx : x < 256) (hy : y < 256) : bits .or .i64 ((x : Int) * 256) (y : Int) = 256 * (x : Int) + (y : Int) := by
  have h : (256 * x) ||| y = 256 * x + y := by
    have := Nat.two_pow_add_eq_or_of_lt (i := 8) (b := y) (by omega) x
    simpa using this.symm
  unfold bits
  have h2 : (BitVec.ofInt 64 ((x : Int) * 256) ||| BitVec.ofInt 64 (y : Int)).toNat = 256 * x + y := by
    rw [show ((x : Int) * 256) = ((256 * x : Nat) : Int) by omega, BitVec.ofInt_natCast, BitVec.ofInt_natCast, BitVec.toNat_or, BitVec.toNat_ofNat, BitVec.toNat_ofNat,
      Nat.mod_eq_of_lt (by omega), Nat.mod_eq_of_lt (by omega), h]
  have h3 : IntKind.i64.wrap (((256 * x + y : Nat) : Int)) = ((256 * x + y : Nat) : Int) := IntWalk.i64_in _ (by omega)
  exact (congrArg (fun z : Nat => IntKind.i64.wrap (z : Int)) h2).trans (h3.trans (by omega))

set_option maxHeartbeats 4000000 in
theorem all_iter (B : Nat) (A : Option Addr) (c : Nat) (l : List UInt8) (hn : l.length ≤ 400000) :
    Iter Tryz.prog 85 #[.pointer (some ⟨B, 0, none⟩)] (recEnc A c) (recs l) (allFP B A c l) := by
  intro ll J Jx S W hFP hS hJ hJx hY h0
  refine callsIn_of_wp Tryz.func85 rfl trivial ((wpIn_wide (n := 0)).2 ?_) rfl
  simp only [Tryz.ntmps85, List.size_toArray, List.length_cons, List.length_nil, Nat.reduceAdd, Nat.reduceSub, Array.replicate_succ, Array.replicate_zero, List.push_toArray, List.append_toArray, List.nil_append, List.cons_append]
  have HY := Lib.hid hY; clear hY
  have HJ := Lib.hid hJ; clear hJ
  have HJx := Lib.hid hJx; clear hJx
  have HS := Lib.hid hS; clear hS
  have hlc : l.length ≤ c := by obtain ⟨A', c', e, h1, _⟩ := hFP.2.2.form; cases e; exact h1
  go_wp2
  go_loopw [3] (fun i wr => ∃ (k p : Nat) (T : Nat → Prop), i = .int .i64 (p : Int) ∧ J k T wr ∧ allFP B A c l T wr ∧ Hid (∀ b, T b → b < wr.heap.size) ∧ W.heap.size ≤ wr.heap.size ∧
      Hid (p = endOf ((recs l).take k)) ∧ Hid (recs l = (recs l).take k ++ recsGo l (l.length + 1 - k) p) ∧ 10 * k ≤ p ∧ p ≤ l.length ∧ k ≤ (recs l).length) (fun i _ => l.length - (intOf i).toNat)
  case atStart => exact ⟨0, 0, S, rfl, h0, hFP, HS, Nat.le_refl _, Lib.hid rfl, Lib.hid rfl, by omega, by omega, by omega⟩
  case round =>
    obtain ⟨k, p, T, rfl, hj, hfp, hT, hsz, hp, hrec, hp1, hp2, hk⟩ := hrel
    have hfin : Hid (recAt l p = none → k = (recs l).length) := Lib.hid fun hnone => by
      have h1 := congrArg List.length hrec.out
      rw [recAt_none hnone, List.append_nil, List.length_take] at h1
      omega
    have hw := hfp.2.2
    obtain ⟨hcb, hzb, hsb⟩ := hfp.1.one
    by_cases h10 : p + 10 ≤ l.length
    · obtain ⟨b, off, rfl, _, _, hc0⟩ := hw.byteD (show p < l.length by omega)
      obtain ⟨_, _, e1, _, _, hc1⟩ := hw.byteD (show p + 1 < l.length by omega)
      cases e1
      have hx := (l.getD p 0).toNat_lt
      have hy := (l.getD (p + 1) 0).toNat_lt
      obtain ⟨x, hx1⟩ : ∃ x, x = (l.getD p 0).toNat := ⟨_, rfl⟩
      obtain ⟨y, hy1⟩ : ∃ y, y = (l.getD (p + 1) 0).toNat := ⟨_, rfl⟩
      rw [← hx1] at hc0 hx
      rw [← hy1] at hc1 hy
      have Hx := Lib.hid hx1; have Hy := Lib.hid hy1; clear hx1 hy1
      have hor := or256 x y (by omega) (by omega)
      have hq0 : IntKind.i64.wrap ((p : Int) + 2 + (256 * (x : Int) + (y : Int))) = (p : Int) + 2 + (256 * (x : Int) + (y : Int)) := IntWalk.i64_in _ (by omega)
      have hq1 : IntKind.i64.wrap ((p : Int) + 2 + (256 * (x : Int) + (y : Int)) + 8) = (p : Int) + 2 + (256 * (x : Int) + (y : Int)) + 8 := IntWalk.i64_in _ (by omega)
      by_cases hbad : 20000 < 256 * x + y ∨ l.length < p + 10 + (256 * x + y)
      · have hnone : recAt l p = none := by simp only [recAt, if_pos h10, ← Hx.out, ← Hy.out, if_pos hbad]
        have Hnone := Lib.hid hnone; clear hnone
        go_wp2
        go_quiet (fail)
        go_wp2
        all_goals first | (exfalso; omega) | skip
        all_goals
          refine bodyPost_ret (results_none rfl _ _ _) rfl ?_
          refine ⟨⟨_, rfl⟩, .inl ⟨T, ?_⟩⟩
          rw [← hfin.out Hnone.out]
          exact HJ.out _ _ _ _ hj (Kept.of_below (below_drewN' _ _ _))
      · have hcut := hw.cutN (lo := p + 2) (m := 256 * x + y) (by omega) (by omega)
        have hcut2 := hw.cutN (lo := p) (m := 10 + (256 * x + y)) (by omega) (by omega)
        obtain ⟨r, hr⟩ : ∃ r, r = (l.take (p + 2 + (256 * x + y))).drop (p + 2) := ⟨_, rfl⟩
        obtain ⟨q, hq⟩ : ∃ q, q = (l.take (p + (10 + (256 * x + y)))).drop p := ⟨_, rfl⟩
        rw [← hr] at hcut
        rw [← hq] at hcut2
        have hrl : r.length = 256 * x + y := by rw [hr, List.length_drop, List.length_take]; omega
        obtain ⟨t, ht⟩ : ∃ t, (storedF r == q) = t := ⟨_, rfl⟩
        have hat : recAt l p = if t then some r else none := by
          simp only [recAt, if_pos h10, ← Hx.out, ← Hy.out, if_neg hbad, ← hr, ← ht, hq]
          rw [show p + 10 + (256 * x + y) = p + (10 + (256 * x + y)) by omega]
        have Hr := Lib.hid hr; have Hq := Lib.hid hq; have Hrl := Lib.hid hrl; have Hat := Lib.hid hat; have Ht := Lib.hid ht; clear hr hq hrl hat ht
        go_wp2
        go_quiet (fail)
        go_wp2
        all_goals first | (exfalso; omega) | skip
        have hi1 : (p : Int) + 2 + (256 * (x : Int) + (y : Int)) + 8 ≤ (c : Int) := by omega
        have hi2 : (p : Int) ≤ (p : Int) + 2 + (256 * (x : Int) + (y : Int)) + 8 := by omega
        have hq3 : ((p : Int) + 2 + (256 * (x : Int) + (y : Int)) + 8).toNat = p + (10 + (256 * x + y)) := by omega
        have hq4 : (0 : Int) ≤ (p : Int) := by omega
        have hne : ¬ c = p := by omega
        have hcbn := (hfp.1.drewN (nq + 1)).one.1
        have hF1 : Fence.wide.fn 50 := trivial
        have hF2 : Fence.wide.fn 86 := trivial
        have hF3 : Fence.wide.depth = none := rfl
        cases t with
        | false =>
          have Hnone : Hid (recAt l p = none) := Hat
          have hS := hcbn
          refine wp_region_D (fun W' => W'.cell? ⟨B, 0, none⟩ = some (Value.slice (some ⟨b, off, none⟩) l.length c)) (fun _ => false) (by kernel_rfl) ?_
          refine anyD_light (i := 0) (v := .slice (some ⟨b, off + (p + 2), none⟩) (256 * x + y) (c - (p + 2))) rfl (by kernel_rfl) (by kernel_rfl) (by kernel_rfl) (by kernel_rfl) (by kernel_rfl) (fun _ _ _ h => h) (.inl ⟨rfl, fun W' hW' => by simp [go_sem, execOp]⟩) hS ?_
          refine anyD_light (i := 2) (v := .slice (some ⟨b, off, none⟩) l.length c) rfl (by kernel_rfl) (by kernel_rfl) (by kernel_rfl) (by kernel_rfl) (by kernel_rfl) (fun _ _ _ h => h) (.inl ⟨rfl, fun W' hW' => by simp [go_sem, hW', execOp]⟩) hS ?_
          refine anyD_light (i := 3) (v := .int .i64 (p : Int)) rfl (by kernel_rfl) (by kernel_rfl) (by kernel_rfl) (by kernel_rfl) (by kernel_rfl) (fun _ _ _ h => h) (.inl ⟨rfl, fun W' hW' => by simp [go_sem, execOp]⟩) hS ?_
          refine anyD_light (i := 4) (v := .int .i64 ((p : Int) + 2 + (256 * (x : Int) + (y : Int)) + 8)) rfl (by kernel_rfl) (by kernel_rfl) (by kernel_rfl) (by kernel_rfl) (by kernel_rfl) (fun _ _ _ h => h) (.inl ⟨rfl, fun W' hW' => by simp [go_sem, execOp]⟩) hS ?_
          refine anyD_light (i := 5) (v := .slice (some ⟨b, off + p, none⟩) (10 + (256 * x + y)) (c - p)) rfl (by kernel_rfl) (by kernel_rfl) (by kernel_rfl) (by kernel_rfl) (by kernel_rfl) (fun _ _ _ h => h) (.inl ⟨rfl, fun W' _ => by go_simp⟩) hS ?_
          refine anyD_one (i := 1) (by kernel_rfl) rfl rfl (fun K hK => ?_)
          have HK := Lib.hid hK
          clear hK
          unfold Oper.wp
          go_simp
          refine (stored_ok M0 _ r _ (fun _ h => h.elim) (hcut.zero.drewN (nq + 1)) (by rw [Hrl.out]; omega)).mono ?_
          rintro e w2 ⟨v2, rfl, hown2, hb2⟩
          have hS2 := ((hfp.1.drewN (nq + 1)).ext hb2).one.1
          refine HK.out _ _ (fun _ => hS2) ?_
          clear HK
          refine anyD_one (i := 6) (by kernel_rfl) rfl rfl (fun K hK => ?_)
          have HK := Lib.hid hK
          clear hK
          unfold Oper.wp
          go_simp
          refine (equal_bytes_ok M0 _ _ (storedF r) q _ hown2.read0 ((hcut2.zero.drewN (nq + 1)).ext hb2) hown2.len_le (hcut2.len_le)).mono ?_
          rintro e w3 ⟨he, n3, hw3⟩
          rw [Ht.out] at he
          have hb3 : Below wr.heap.size wr w3 := hw3 ▸ ((below_drewN' _ _ (nq + 1)).trans (hb2.trans (below_drewN' _ _ n3)))
          have hS3 : w3.cell? ⟨B, 0, none⟩ = some (Value.slice (some ⟨b, off, none⟩) l.length c) := hw3 ▸ hS2
          clear hw3
          subst he
          refine HK.out _ _ (fun _ => hS3) ?_
          clear HK hS
          have hS := hS3
          refine anyD_light (i := 7) (v := .bool true) rfl (by kernel_rfl) (by kernel_rfl) (by kernel_rfl) (by kernel_rfl) (by kernel_rfl) (fun _ _ _ h => h) (.inl ⟨rfl, fun W' hW' => by simp [go_sem, execOp]⟩) hS ?_
          refine anyD_light (i := 8) (v := .bool true) rfl (by kernel_rfl) (by kernel_rfl) (by kernel_rfl) (by kernel_rfl) (by kernel_rfl) (fun _ _ _ h => h) (.inl ⟨rfl, fun W' hW' => by simp [go_sem, execOp]⟩) hS ?_
          go_simp
          refine anyD_light (i := 9) (v := undef) rfl (by kernel_rfl) (by kernel_rfl) (by kernel_rfl) (by kernel_rfl) (by kernel_rfl) (fun _ _ _ h => h) (.inr ⟨rfl, rfl⟩) hS ?_
          go_simp
          refine anyD_light (i := 10) (v := undef) rfl (by kernel_rfl) (by kernel_rfl) (by kernel_rfl) (by kernel_rfl) (by kernel_rfl) (fun _ _ _ h => h) (.inr ⟨rfl, rfl⟩) hS ?_
          go_simp
          refine anyD_light (i := 11) (v := undef) rfl (by kernel_rfl) (by kernel_rfl) (by kernel_rfl) (by kernel_rfl) (by kernel_rfl) (fun _ _ _ h => h) (.inr ⟨rfl, rfl⟩) hS ?_
          go_simp
          refine anyD_light (i := 12) (v := undef) rfl (by kernel_rfl) (by kernel_rfl) (by kernel_rfl) (by kernel_rfl) (by kernel_rfl) (fun _ _ _ h => h) (.inr ⟨rfl, rfl⟩) hS ?_
          go_simp
          refine anyD_light (i := 13) (v := undef) rfl (by kernel_rfl) (by kernel_rfl) (by kernel_rfl) (by kernel_rfl) (by kernel_rfl) (fun _ _ _ h => h) (.inr ⟨rfl, rfl⟩) hS ?_
          go_simp
          refine anyD_light (i := 14) (v := .bool true) rfl (by kernel_rfl) (by kernel_rfl) (by kernel_rfl) (by kernel_rfl) (by kernel_rfl) (fun _ _ _ h => h) (.inl ⟨rfl, fun W' hW' => by simp [go_sem, execOp]⟩) hS ?_
          refine anyD_done (by kernel_rfl) ?_ _
          go_simp
          all_goals go_wp2
          all_goals
            refine bodyPost_ret (results_none rfl _ _ _) rfl ?_
            refine ⟨⟨_, rfl⟩, .inl ⟨T, ?_⟩⟩
            rw [← hfin.out Hnone.out]
            exact HJ.out _ _ _ _ hj (Kept.of_below hb3)
        | true =>
          have Hsome : Hid (recAt l p = some r) := Hat
          have Hnext : Hid ((recs l = (recs l).take (k + 1) ++ recsGo l (l.length + 1 - (k + 1)) (p + 10 + r.length) ∧ (recs l).take (k + 1) = (recs l).take k ++ [(p, r)]) ∧ ∃ hk' : k < (recs l).length, (recs l)[k] = (p, r)) := Lib.hid (by
            have h1 := recGo_step hrec.out (by simpa [Nat.min_eq_left hk] using hp1) h10 Hsome.out
            have h2 : ((recs l).take k ++ [(p, r)]).length = k + 1 := by simp [Nat.min_eq_left hk]
            have h3 : (recs l).take (k + 1) = (recs l).take k ++ [(p, r)] := by
              conv => lhs; rw [h1]
              rw [List.take_append_of_le_length (by omega), List.take_of_length_le (by omega)]
            have h4 : k < (recs l).length := by have := congrArg List.length h1; rw [List.length_append, h2] at this; omega
            refine ⟨⟨by rw [h3]; simpa [Nat.min_eq_left hk] using h1, h3⟩, h4, ?_⟩
            have h5 := List.getElem_of_eq h1 h4
            rw [h5, List.getElem_append_left (by omega), List.getElem_append_right (by simp; omega)]
            simp [Nat.min_eq_left hk])
          have Henc : Hid (recEnc (some ⟨b, off, none⟩) c (p, r) = #[.slice (some ⟨b, off + (p + 2), none⟩) (256 * x + y) (c - (p + 2)), .int .i64 ((p : Int) + 2 + (256 * (x : Int) + (y : Int)) + 8)]) := Lib.hid (by
            have h9 : (p : Int) + 10 + ((256 * x + y : Nat) : Int) = (p : Int) + 2 + (256 * (x : Int) + (y : Int)) + 8 := by omega
            simp only [recEnc, Option.map, Hrl.out, h9])
          have hF1 : Fence.wide.fn 50 := trivial
          have hF2 : Fence.wide.fn 86 := trivial
          have hF3 : Fence.wide.depth = none := rfl
          have hF4 : Fence.wide.round = none := rfl
          refine (wpIn_wide (n := 0)).1 ?_
          gi_region_with (first
            | (gi_at_call 50; have hcd := callsIn_wide (n := 0) |>.2 (stored_ok M0 _ r _ (fun _ h => h.elim) (hcut.zero.drewN (nq + 1)) (by rw [Hrl.out]; omega)); refine hcd.mono ?_; clear hcd; rintro e w2 ⟨v2, rfl, hown2, hb2⟩; obtain ⟨hcb2, hzb2, hsb2⟩ := ((hfp.1.drewN (nq + 1)).ext hb2).one)
            | (gi_at_call 86; have hce := callsIn_wide (n := 0) |>.2 (equal_bytes_ok M0 _ _ (storedF r) q _ hown2.read0 ((hcut2.zero.drewN (nq + 1)).ext hb2) hown2.len_le (hcut2.len_le)); refine hce.mono ?_; clear hce; rintro e w3 ⟨he, n3, hw3⟩; rw [Ht.out] at he; have hb3 : Below wr.heap.size wr w3 := hw3 ▸ ((below_drewN' _ _ (nq + 1)).trans (hb2.trans (below_drewN' _ _ n3))); clear hw3; subst he;
               have hy3 := HY.out k Hnext.out.2.1 T w3 (HJ.out _ _ _ _ hj (Kept.of_below hb3)) (Nat.le_trans hsz hb3.size); rw [Hnext.out.2.2] at hy3; rw [Henc.out] at hy3; obtain ⟨fn, tmps, assign, body, hy, hR⟩ := hy3)
            | (refine hR.mono ?_; rintro e w4 ⟨T', hchg, hor4⟩; obtain ⟨tt, rfl⟩ : ∃ tt, e = .returned (.bool tt) := hor4.elim (fun h => ⟨_, h.1⟩) (fun h => ⟨_, h.1⟩); have Hor4 := Lib.hid hor4; clear hor4))
          all_goals cases tt with
          | true =>
            have hj4 : J (k + 1) T' w4 := Hor4.out.elim (fun h => h.2) (fun h => by cases h.1)
            have hfp4 := (hfp.ext hb3).chg hchg
            have hsz4 : W.heap.size ≤ w4.heap.size := Nat.le_trans hsz (Nat.le_trans hb3.size hchg.size)
            go_wp2
            go_roundw
            case rel =>
              exact ⟨k + 1, p + 10 + (256 * x + y), T', congrArg (Value.int .i64) (by omega), hj4, hfp4, Lib.hid (fun b hb => (hchg.own b hb).1), hsz4,
                Lib.hid (by rw [Hnext.out.1.2, endOf_snoc, ← hp.out, Hrl.out]), Lib.hid (by have := Hnext.out.1.1; rw [Hrl.out] at this; exact this), by omega, by omega, Hnext.out.2.1⟩
            case measure => simp [intOf]; omega
          | false =>
            have hx4 : Jx (k + 1) T' w4 := Hor4.out.elim (fun h => by cases h.1) (fun h => h.2)
            go_wp2
            exact bodyPost_ret (results_none rfl _ _ _) rfl ⟨⟨_, rfl⟩, .inr ⟨k + 1, T', hx4⟩⟩
    · have hnone : recAt l p = none := by simp only [recAt, if_neg h10]
      have Hnone := Lib.hid hnone; clear hnone
      have fin : ∀ w', Below wr.heap.size wr w' → (∃ v, Ending.returned (.tuple #[]) = .returned v) ∧ ((∃ S', J (recs l).length S' w') ∨ ∃ k S', Jx k S' w') := fun w' hb' =>
        ⟨⟨_, rfl⟩, .inl ⟨T, by rw [← hfin.out Hnone.out]; exact HJ.out _ _ _ _ hj (Kept.of_below hb')⟩⟩
      have Fin := Lib.hid fin; clear fin
      by_cases h2 : p + 2 ≤ l.length
      · obtain ⟨b, off, rfl, _, _, hc0⟩ := hw.byteD (show p < l.length by omega)
        obtain ⟨_, _, e1, _, _, hc1⟩ := hw.byteD (show p + 1 < l.length by omega)
        cases e1
        have hx := (l.getD p 0).toNat_lt
        have hy := (l.getD (p + 1) 0).toNat_lt
        obtain ⟨x, hx1⟩ : ∃ x, x = (l.getD p 0).toNat := ⟨_, rfl⟩
        obtain ⟨y, hy1⟩ : ∃ y, y = (l.getD (p + 1) 0).toNat := ⟨_, rfl⟩
        rw [← hx1] at hc0 hx
        rw [← hy1] at hc1 hy
        clear hx1 hy1
        have hor := or256 x y (by omega) (by omega)
        have hq0 : IntKind.i64.wrap ((p : Int) + 2 + (256 * (x : Int) + (y : Int))) = (p : Int) + 2 + (256 * (x : Int) + (y : Int)) := IntWalk.i64_in _ (by omega)
        have hq1 : IntKind.i64.wrap ((p : Int) + 2 + (256 * (x : Int) + (y : Int)) + 8) = (p : Int) + 2 + (256 * (x : Int) + (y : Int)) + 8 := IntWalk.i64_in _ (by omega)
        go_wp2
        go_quiet (fail)
        go_wp2
        all_goals first | (exfalso; omega) | skip
        all_goals
          exact bodyPost_ret (results_none rfl _ _ _) rfl (Fin.out _ (below_drewN' _ _ _))
      · go_wp2
        all_goals first | (exfalso; omega) | skip
        all_goals
          exact bodyPost_end (results_none rfl _ _ _) rfl (Fin.out _ (Below.refl _ _))
end Go.Proofs.YtjamjkjmlckgeaaGreatDoor
