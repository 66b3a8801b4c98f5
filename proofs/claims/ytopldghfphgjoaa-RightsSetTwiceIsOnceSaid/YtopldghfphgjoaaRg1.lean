/-
  Grants and groups: how they lie in memory; the small functions.
-/
import Derived.Test.YtopldghfphgjoaaStr
namespace Go.Proofs.Ytopldghfphgjoaa
open Go.RowKit

@[simp] theorem mk_append_bs (a : Array UInt8) (l : Str) : (⟨a⟩ : ByteArray) ++ bs l = bs (a.toList ++ l) := by
  have : (⟨a⟩ : ByteArray) = bs a.toList := by simp [bs]
  rw [this, bs_append]
@[simp] theorem bs_append_mk (a : Array UInt8) (l : Str) : bs l ++ (⟨a⟩ : ByteArray) = bs (l ++ a.toList) := by
  have : (⟨a⟩ : ByteArray) = bs a.toList := by simp [bs]
  rw [this, bs_append]

def grantC : Codec Grant := pairC strC (pairC boolC intC)
def groupC : Codec Group := pairC strC (sliceC strC)
def gv (a : Grant) : Value := .agg #[.string (bs a.1), .bool a.2.1, .int .i64 a.2.2]
theorem grant_cells {M : Nat → Prop} {w : World} {cs : List Value} {a : Grant} (h : grantC.rd M w cs a) : cs = [.string (bs a.1), .bool a.2.1, .int .i64 a.2.2] ∧ a.1.length ≤ maxLen ∧ -9223372036854775808 ≤ a.2.2 ∧ a.2.2 ≤ 9223372036854775807 := by
  obtain ⟨c, d, rfl, ⟨rfl, h1⟩, ⟨c2, d2, rfl, h2, ⟨rfl, h3⟩⟩⟩ := h
  have : c2 = [.bool a.2.1] := h2
  subst this
  exact ⟨rfl, h1, h3⟩
theorem grant_rd {M : Nat → Prop} {w : World} {a : Grant} (h1 : a.1.length ≤ maxLen) (h2 : -9223372036854775808 ≤ a.2.2 ∧ a.2.2 ≤ 9223372036854775807) : grantC.rd M w [.string (bs a.1), .bool a.2.1, .int .i64 a.2.2] a :=
  ⟨[.string (bs a.1)], [.bool a.2.1, .int .i64 a.2.2], rfl, ⟨rfl, h1⟩, [.bool a.2.1], [.int .i64 a.2.2], rfl, rfl, rfl, h2⟩
theorem SlR.grantAt {M : Nat → Prop} {w : World} {A : Option Addr} {n c : Nat} {l : List Grant} (h : SlR grantC M w (.slice A n c) l) {k : Nat} (hk : k < l.length) :
    ∃ b off, A = some ⟨b, off, none⟩ ∧ b < w.heap.size ∧ w.cell? ⟨b, off + k * 3, none⟩ = some (.string (bs l[k].1)) ∧ w.cell? ⟨b, off + k * 3 + 1, none⟩ = some (.bool l[k].2.1) ∧ w.cell? ⟨b, off + k * 3 + 2, none⟩ = some (.int .i64 l[k].2.2) ∧
      l[k].1.length ≤ maxLen ∧ -9223372036854775808 ≤ l[k].2.2 ∧ l[k].2.2 ≤ 9223372036854775807 := by
  obtain ⟨b, off, cs, rfl, _, hb, hr, hc⟩ := h.at_ hk
  obtain ⟨rfl, h1, h2⟩ := grant_cells hr
  exact ⟨b, off, rfl, hb, hc 0 _ rfl, hc 1 _ rfl, hc 2 _ rfl, h1, h2⟩
theorem SlR.groupAt {M : Nat → Prop} {w : World} {A : Option Addr} {n c : Nat} {l : List Group} (h : SlR groupC M w (.slice A n c) l) {k : Nat} (hk : k < l.length) :
    ∃ b off A2 c2, A = some ⟨b, off, none⟩ ∧ b < w.heap.size ∧ w.cell? ⟨b, off + k * 2, none⟩ = some (.string (bs l[k].1)) ∧ w.cell? ⟨b, off + k * 2 + 1, none⟩ = some (.slice A2 l[k].2.length c2) ∧ l[k].1.length ≤ maxLen ∧ SlR strC M w (.slice A2 l[k].2.length c2) l[k].2 := by
  obtain ⟨b, off, cs, rfl, _, hb, ⟨c1, d1, rfl, ⟨rfl, h1⟩, ⟨v, rfl, hv⟩⟩, hc⟩ := h.at_ hk
  obtain ⟨A2, c2, rfl, _⟩ := hv.form
  exact ⟨b, off, A2, c2, rfl, hb, hc 0 _ rfl, hc 1 _ rfl, h1, hv⟩
theorem SlR.lenM {α : Type} {C : Codec α} {M : Nat → Prop} {w : World} {A : Option Addr} {n c : Nat} {l : List α} (h : SlR C M w (.slice A n c) l) : l.length ≤ c ∧ c ≤ 9223372036854775807 := by
  obtain ⟨A2, c2, e, h1, h2⟩ := h.form
  cases e
  exact ⟨h1, h2⟩

set_option maxHeartbeats 1000000 in
theorem order_ok (a b : Grant) (w : World) : Calls Try.prog 51 #[gv a, gv b] w fun e w' => e = .returned (.int .i64 (orderF a b)) ∧ Below w.heap.size w w' := by
  obtain ⟨sa, na, ra⟩ := a
  obtain ⟨sb, nb, rb⟩ := b
  have ho : orderF (sa, na, ra) (sb, nb, rb) = if Lib.compareBytes sa sb ≠ 0 ∨ na = nb then Lib.compareBytes sa sb else if na then 1 else -1 := rfl
  have hcm := compare_ok sa sb
  obtain ⟨c, hc⟩ : ∃ c, Lib.compareBytes sa sb = c := ⟨_, rfl⟩
  rw [hc] at ho
  have hcm2 := fun w => hcm w
  rw [hc] at hcm2
  have Ho := Lib.hid ho; have Hcm := Lib.hid hcm2
  clear ho hcm hcm2 hc
  unfold gv
  by_cases h0 : c = 0
  · subst h0
    cases na <;> cases nb
    all_goals
      go_enter Try.func51, Try.ntmps51
      go_wp2_with fail
      refine (Hcm.out _).mono ?_
      rintro e w1 ⟨rfl, rfl⟩
      go_wp2
      go_ret
      exact ⟨by rw [Ho.out]; rfl, ((Below.refl _ _).alloc (Nat.le_refl _) _).alloc (by simp) _⟩
  · have h0' : (c != 0) = true := by simpa using h0
    go_enter Try.func51, Try.ntmps51
    go_wp2_with fail
    refine (Hcm.out _).mono ?_
    rintro e w1 ⟨rfl, rfl⟩
    go_wp2
    go_ret
    exact ⟨by rw [Ho.out, if_pos (.inl h0)]; rfl, ((Below.refl _ _).alloc (Nat.le_refl _) _).alloc (by simp) _⟩

set_option maxHeartbeats 1000000 in
theorem after_ok (a b : Grant) (w : World) : Calls Try.prog 55 #[gv a, gv b] w fun e w' => e = .returned (.bool (afterF a b)) ∧ Below w.heap.size w w' := by
  obtain ⟨sa, na, ra⟩ := a
  obtain ⟨sb, nb, rb⟩ := b
  have ho : afterF (sa, na, ra) (sb, nb, rb) = (ltS sb sa || (sa == sb && na && !nb)) := rfl
  have hg : (!(Op.bytesLess sa sb || sa == sb)) = ltS sb sa := by
    rcases ltS_total sa sb with h | h | h
    · have h2 := ltS_asymm h
      have h1 : Op.bytesLess sa sb = true := h
      rw [h1, h2]; rfl
    · subst h; simp [ltS_irrefl]
    · have h1 : Op.bytesLess sa sb = false := ltS_asymm h
      have h3 : (sa == sb) = false := by simpa using (ltS_ne h).symm
      rw [h1, h3, h]; rfl
  rw [← hg] at ho
  have Ho := Lib.hid ho
  clear ho hg
  unfold gv
  obtain ⟨t1, ht1⟩ : ∃ t, t = Op.bytesLess sa sb := ⟨_, rfl⟩
  obtain ⟨t2, ht2⟩ : ∃ t, t = (sa == sb) := ⟨_, rfl⟩
  rw [← ht1, ← ht2] at Ho
  have h1 := ht1.symm
  have h2 := ht2.symm
  cases t1 <;> cases t2 <;> cases na <;> cases nb
  all_goals clear ht1 ht2
  all_goals
    go_enter Try.func55, Try.ntmps55
    go_wp2
    go_ret
    exact ⟨by rw [Ho.out]; rfl, ((Below.refl _ _).alloc (Nat.le_refl _) _).alloc (by simp) _⟩
end Go.Proofs.Ytopldghfphgjoaa
