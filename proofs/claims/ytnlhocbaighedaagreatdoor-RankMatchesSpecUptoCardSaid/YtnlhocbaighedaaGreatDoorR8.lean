/-
  Contracts and plain facts, one after another: stem: a step (printed by gen/smstep.py); stem.Of; The reference's ends, Letters; The reference's step (printed by gen/smref.py); The reference's Stem.
-/
import Derived.Test.YtnlhocbaighedaaGreatDoorR7
import Derived.Test.YtnlhocbaighedaaGreatDoorR5
namespace Go.Proofs.YtnlhocbaighedaaGreatDoor
open Go.RowKit
set_option linter.unusedVariables false
theorem lit_els (M : Nat → Prop) (w : World) : ∀ l : List Str, (∀ s ∈ l, s.length ≤ maxLen) → Els strC M w (l.map fun s => .string (bs s)) l
 | [], _ => Els.nil _ _ _
 | s :: l, h => (Els.single (C := strC) (cs := [.string (bs s)]) ⟨rfl, h s (by simp)⟩).append (lit_els M w l fun x hx => h x (by simp [hx]))
theorem lit_row (w : World) (l : List Str) (h : ∀ s ∈ l, s.length ≤ 1000) (hn : l.length ≤ 1000) : SlR strC M0 (w.alloc (.cells (l.map fun s => Value.string (bs s)).toArray 9)) (.slice (some ⟨w.heap.size, 0, none⟩) l.length l.length) l :=
 (Own.built (M := M0) (B := w.heap.size) 9 (lit_els _ w l fun s hs => by have := h s hs; unfold maxLen; omega) (Nat.le_refl _) (by unfold maxLen; omega)).read0
theorem rule_cells {w : World} {b B0 : Nat} (kB : Blk w b 156 #[.string ⟨#[105, 101, 115]⟩, .string ⟨#[105]⟩, .slice none 0 0, .string ⟨#[115, 115, 101, 115]⟩, .string ⟨#[115, 115]⟩, .slice none 0 0, .string ⟨#[110, 101, 115, 115]⟩, .string ⟨#[]⟩, .slice none 0 0, .string ⟨#[109, 101, 110, 116]⟩, .string ⟨#[]⟩, .slice none 0 0, .string ⟨#[105, 110, 103]⟩, .string ⟨#[]⟩, .slice none 0 0, .string ⟨#[101, 100, 108, 121]⟩, .string ⟨#[]⟩, .slice none 0 0, .string ⟨#[101, 100]⟩, .string ⟨#[]⟩, .slice none 0 0, .string ⟨#[108, 121]⟩, .string ⟨#[]⟩, .slice none 0 0, .string ⟨#[115]⟩, .string ⟨#[]⟩, .slice (some ⟨B0, 0, none⟩) 3 3, .string ⟨#[121]⟩, .string ⟨#[105]⟩, .slice none 0 0]) (k : Nat) (hk : k < 10) : ∃ (r : Sm.Rule) (v : Value), Sm.rules.drop k = r :: Sm.rules.drop (k + 1) ∧
  w.cell? ⟨b, k * 3, none⟩ = some (.string (bs r.ending)) ∧ w.cell? ⟨b, k * 3 + 1, none⟩ = some (.string (bs r.to)) ∧ w.cell? ⟨b, k * 3 + 2, none⟩ = some v ∧
  (v = .slice none 0 0 ∧ r.bars = [] ∨ v = .slice (some ⟨B0, 0, none⟩) 3 3 ∧ r.bars = [[115, 115], [117, 115], [105, 115]]) ∧ r.to.length ≤ 10 := by
 match k, hk with
 | 0, _ => exact ⟨_, _, rfl, kB.cell 0, kB.cell 1, kB.cell 2, .inl ⟨rfl, rfl⟩, by decide⟩
 | 1, _ => exact ⟨_, _, rfl, kB.cell 3, kB.cell 4, kB.cell 5, .inl ⟨rfl, rfl⟩, by decide⟩
 | 2, _ => exact ⟨_, _, rfl, kB.cell 6, kB.cell 7, kB.cell 8, .inl ⟨rfl, rfl⟩, by decide⟩
 | 3, _ => exact ⟨_, _, rfl, kB.cell 9, kB.cell 10, kB.cell 11, .inl ⟨rfl, rfl⟩, by decide⟩
 | 4, _ => exact ⟨_, _, rfl, kB.cell 12, kB.cell 13, kB.cell 14, .inl ⟨rfl, rfl⟩, by decide⟩
 | 5, _ => exact ⟨_, _, rfl, kB.cell 15, kB.cell 16, kB.cell 17, .inl ⟨rfl, rfl⟩, by decide⟩
 | 6, _ => exact ⟨_, _, rfl, kB.cell 18, kB.cell 19, kB.cell 20, .inl ⟨rfl, rfl⟩, by decide⟩
 | 7, _ => exact ⟨_, _, rfl, kB.cell 21, kB.cell 22, kB.cell 23, .inl ⟨rfl, rfl⟩, by decide⟩
 | 8, _ => exact ⟨_, _, rfl, kB.cell 24, kB.cell 25, kB.cell 26, .inr ⟨rfl, rfl⟩, by decide⟩
 | 9, _ => exact ⟨_, _, rfl, kB.cell 27, kB.cell 28, kB.cell 29, .inl ⟨rfl, rfl⟩, by decide⟩
theorem Sm.twice_of {s : List UInt8} {x y : UInt8} (h4 : 4 ≤ s.length) (hx : s[s.length - 1] = x) (hy : s[s.length - 2] = y) : Sm.twice s = ((x == y) && !(Sm.vowels.any (· == x))) := by
 have e1 : s[s.length - 1]? = some x := by rw [List.getElem?_eq_getElem (by omega), hx]
 have e2 : s[s.length - 2]? = some y := by rw [List.getElem?_eq_getElem (by omega), hy]
 simp [Sm.twice, e1, e2, h4, BEq.comm]
theorem Sm.index_hit {x : UInt8} (h : Sm.vowels.any (· == x) = true) : decide (Lib.indexByte [97, 101, 105, 111, 117, 108, 115, 122] x < 0) = false := by
 simp only [Sm.vowels, List.any_cons, List.any_nil, Bool.or_eq_true, beq_iff_eq, Bool.or_false] at h
 rcases h with h | h | h | h | h | h | h | h <;> (subst h; rfl)
theorem Sm.index_miss {x : UInt8} (h : Sm.vowels.any (· == x) = false) : decide (Lib.indexByte [97, 101, 105, 111, 117, 108, 115, 122] x < 0) = true := by
 simp only [Sm.vowels, List.any_cons, List.any_nil, Bool.or_eq_false_iff, beq_eq_false_iff_ne, Bool.or_false] at h
 simp [Lib.indexByte, h, Ne.symm]
set_option maxRecDepth 100000 in
set_option maxHeartbeats 8000000 in
theorem step_ok (s : Str) (w : World) (hs : s.length ≤ 4000000) :
  Calls Tryz.prog 100 #[.string (bs s)] w fun e w' => e = .returned (.string (bs (Sm.step s))) ∧ Below w.heap.size w w' := by
 have hbar : SlR strC M0 (w.alloc (.cells #[.string ⟨#[115, 115]⟩, .string ⟨#[117, 115]⟩, .string ⟨#[105, 115]⟩] 9)) (.slice (some ⟨w.heap.size, 0, none⟩) 3 3) [[115, 115], [117, 115], [105, 115]] := lit_row w [[115, 115], [117, 115], [105, 115]] (by decide) (by decide)
 obtain ⟨res, hres⟩ : ∃ r, Sm.step s = r := ⟨_, rfl⟩
 rw [hres]
 have Hres := Lib.hid hres
 clear hres
 have hbw := ((Below.refl w.heap.size w).alloc (Nat.le_refl _) (.cells #[.string ⟨#[115, 115]⟩, .string ⟨#[117, 115]⟩, .string ⟨#[105, 115]⟩] 9)).alloc (by simp) (.cells #[.string ⟨#[105, 101, 115]⟩, .string ⟨#[105]⟩, .slice none 0 0, .string ⟨#[115, 115, 101, 115]⟩, .string ⟨#[115, 115]⟩, .slice none 0 0, .string ⟨#[110, 101, 115, 115]⟩, .string ⟨#[]⟩, .slice none 0 0, .string ⟨#[109, 101, 110, 116]⟩, .string ⟨#[]⟩, .slice none 0 0, .string ⟨#[105, 110, 103]⟩, .string ⟨#[]⟩, .slice none 0 0, .string ⟨#[101, 100, 108, 121]⟩, .string ⟨#[]⟩, .slice none 0 0, .string ⟨#[101, 100]⟩, .string ⟨#[]⟩, .slice none 0 0, .string ⟨#[108, 121]⟩, .string ⟨#[]⟩, .slice none 0 0, .string ⟨#[115]⟩, .string ⟨#[]⟩, .slice (some ⟨w.heap.size, 0, none⟩) 3 3, .string ⟨#[121]⟩, .string ⟨#[105]⟩, .slice none 0 0] 156)
 have kB := Blk.new (w.alloc (.cells #[.string ⟨#[115, 115]⟩, .string ⟨#[117, 115]⟩, .string ⟨#[105, 115]⟩] 9)) 156 #[.string ⟨#[105, 101, 115]⟩, .string ⟨#[105]⟩, .slice none 0 0, .string ⟨#[115, 115, 101, 115]⟩, .string ⟨#[115, 115]⟩, .slice none 0 0, .string ⟨#[110, 101, 115, 115]⟩, .string ⟨#[]⟩, .slice none 0 0, .string ⟨#[109, 101, 110, 116]⟩, .string ⟨#[]⟩, .slice none 0 0, .string ⟨#[105, 110, 103]⟩, .string ⟨#[]⟩, .slice none 0 0, .string ⟨#[101, 100, 108, 121]⟩, .string ⟨#[]⟩, .slice none 0 0, .string ⟨#[101, 100]⟩, .string ⟨#[]⟩, .slice none 0 0, .string ⟨#[108, 121]⟩, .string ⟨#[]⟩, .slice none 0 0, .string ⟨#[115]⟩, .string ⟨#[]⟩, .slice (some ⟨w.heap.size, 0, none⟩) 3 3, .string ⟨#[121]⟩, .string ⟨#[105]⟩, .slice none 0 0]
 rw [show ∀ o, (w.alloc o).heap.size = w.heap.size + 1 from fun o => by simp] at kB
 replace hbar := hbar.ext (w' := _) ((Below.refl _ _).alloc (Nat.le_refl _) (.cells #[.string ⟨#[105, 101, 115]⟩, .string ⟨#[105]⟩, .slice none 0 0, .string ⟨#[115, 115, 101, 115]⟩, .string ⟨#[115, 115]⟩, .slice none 0 0, .string ⟨#[110, 101, 115, 115]⟩, .string ⟨#[]⟩, .slice none 0 0, .string ⟨#[109, 101, 110, 116]⟩, .string ⟨#[]⟩, .slice none 0 0, .string ⟨#[105, 110, 103]⟩, .string ⟨#[]⟩, .slice none 0 0, .string ⟨#[101, 100, 108, 121]⟩, .string ⟨#[]⟩, .slice none 0 0, .string ⟨#[101, 100]⟩, .string ⟨#[]⟩, .slice none 0 0, .string ⟨#[108, 121]⟩, .string ⟨#[]⟩, .slice none 0 0, .string ⟨#[115]⟩, .string ⟨#[]⟩, .slice (some ⟨w.heap.size, 0, none⟩) 3 3, .string ⟨#[121]⟩, .string ⟨#[105]⟩, .slice none 0 0] 156))
 go_enter Tryz.func100, Tryz.ntmps100
 go_wp2_with fail
 generalize hw1 : (w.alloc _).alloc _ = w1 at hbw kB hbar ⊢
 have Hw1 := Lib.hid hw1; clear hw1
 go_loopw [21] (fun i wr => ∃ k : Nat, k ≤ 10 ∧ i = .int .i64 k ∧ Hid (Sm.stepOf (Sm.rules.drop k) s = res) ∧ Below w1.heap.size w1 wr) (fun i _ => 10 - (intOf i).toNat)
 case atStart => exact ⟨0, Nat.zero_le _, rfl, Lib.hid Hres.out, Below.refl _ _⟩
 case round =>
  obtain ⟨k, hk, rfl, hst, hb⟩ := hrel
  by_cases hlt : k < 10
  ·obtain ⟨r, v, hdr, c0, c1, c2, hvv, hto⟩ := rule_cells (kB.ext hb) k hlt
   have hbar1 := hbar.ext (hb.mono (Nat.le_refl _))
   have Hk := Lib.hid kB
   clear kB hbar
   have hsl : SlR strC M0 wr v r.bars := by
    rcases hvv with ⟨rfl, e⟩ | ⟨rfl, e⟩
    ·rw [e]; exact SlR.nil _ _ _
    ·rw [e]; exact hbar1
   clear hbar1
   have hsz := hb.size
   obtain ⟨A, n, c, rfl⟩ : ∃ A n c, v = .slice A n c := by
    rcases hvv with ⟨rfl, e⟩ | ⟨rfl, e⟩
    ·exact ⟨_, _, _, rfl⟩
    ·exact ⟨_, _, _, rfl⟩
   clear hvv
   have hba := (Below.refl w1.heap.size wr).alloc hsz (.cells #[.string (bs r.ending), .string (bs r.to), .slice A n c] 156)
   have hcall := apply_ok M0 r (.slice A n c) s _ (hsl.ext ((Below.refl wr.heap.size wr).alloc (Nat.le_refl _) (.cells #[.string (bs r.ending), .string (bs r.to), .slice A n c] 156))) hs hto
   clear hsl
   go_wp2_with fail
   refine hcall.mono ?_
   rintro e w2 ⟨rfl, hq⟩
   clear hcall
   have hb2 := hb.trans (hba.trans (hq.mono (Nat.le_trans hsz hba.size)))
   have hall := hbw.trans (hb2.mono hbw.size)
   clear hq hba c0 c1 c2
   obtain ⟨t, ht⟩ : ∃ t, Sm.fits r s = t := ⟨_, rfl⟩
   obtain ⟨ap, hap⟩ : ∃ a, Sm.applied r s = a := ⟨_, rfl⟩
   rw [ht, hap]
   have hres : res = if t then ap else Sm.stepOf (Sm.rules.drop (k + 1)) s := by
    rw [← hst.out, hdr, Sm.stepOf, ht, ← hap]
    cases t with
    | true => rw [if_pos rfl, if_pos rfl, Sm.applied_fits ht]
    | false => rw [if_neg (by simp), if_neg (by simp)]
   have Hap := Lib.hid hap; have Ht := Lib.hid ht; have Hdr := Lib.hid hdr; have Hr := Lib.hid hres
   clear hap ht hdr hres
   cases t with
   | true =>
    go_wp2
    go_ret
    exact ⟨by rw [Hr.out]; rfl, hall⟩
   | false =>
    go_wp2
    go_round
    case rel => exact ⟨k + 1, by omega, by go_num, Lib.hid (by rw [Hr.out]; rfl), hb2⟩
    case measure => simp [intOf]; omega
  ·obtain rfl : k = 10 := by omega
   have htl : res = Sm.tail s := hst.out.symm
   have Htl := Lib.hid htl
   have hall := hbw.trans (hb.mono hbw.size)
   clear htl hst kB hbar hbw hb
   have hib := fun (c : UInt8) (W : World) => Tryz.strings_IndexByte (bs [97, 101, 105, 111, 117, 108, 115, 122]) (c.toNat : Int) W
   by_cases h4 : 4 ≤ s.length
   ·have hd4 : decide (4 ≤ (s.length : Int)) = true := by simp; omega
    have hi1 : IntKind.i64.wrap ((s.length : Int) - 1) = (s.length : Int) - 1 := IntWalk.i64_in _ (by omega)
    have hi2 : IntKind.i64.wrap ((s.length : Int) - 2) = (s.length : Int) - 2 := IntWalk.i64_in _ (by omega)
    have hj1 : (0 : Int) ≤ (s.length : Int) - 1 := by omega
    have hj2 : (0 : Int) ≤ (s.length : Int) - 2 := by omega
    have hk1 : (1 : Int) ≤ (s.length : Int) := by omega
    have hk2 : (2 : Int) ≤ (s.length : Int) := by omega
    have hk3 : 1 ≤ s.length := by omega
    have hk4 : 2 ≤ s.length := by omega
    have hj3 : (s.length : Int) - 1 < (s.length : Int) := by omega
    have hj4 : (s.length : Int) - 2 < (s.length : Int) := by omega
    obtain ⟨x, hx⟩ : ∃ x, s[s.length - 1] = x := ⟨_, rfl⟩
    obtain ⟨y, hy⟩ : ∃ y, s[s.length - 2] = y := ⟨_, rfl⟩
    have hib := fun (n : Nat) => hib x (wr.drewN n)
    rw [bs_toList, show ((x.toNat : Int)).toNat.toUInt8 = x from by simp] at hib
    have htw := Sm.twice_of (s := s) h4 hx hy
    cases ht : ((x.toNat : Int) == (y.toNat : Int)) with
    | false =>
     have hxy : (x == y) = false := by
      rw [beq_eq_false_iff_ne] at ht ⊢
      exact fun e => ht (by rw [e])
     have hq : Sm.tail s = s := by rw [Sm.tail, htw, hxy]; rfl
     have Hq := Lib.hid hq
     clear hq hib htw hxy
     go_wp2
     go_quiet (fail)
     go_wp2
     go_ret
     exact ⟨ret_str (by rw [Htl.out, Hq.out]), hall.trans (below_drewN' _ _ _)⟩
    | true =>
     have hxy : (x == y) = true := by
      rw [beq_iff_eq] at ht ⊢
      exact UInt8.toNat_inj.1 (by omega)
     rw [hxy] at htw
     cases hv : (Sm.vowels.any (· == x)) with
     | true =>
      have hlt : decide (Lib.indexByte [97, 101, 105, 111, 117, 108, 115, 122] x < 0) = false := Sm.index_hit hv
      have hq : Sm.tail s = s := by rw [Sm.tail, htw, hv]; rfl
      obtain ⟨n, hn⟩ : ∃ n, Lib.indexByte [97, 101, 105, 111, 117, 108, 115, 122] x = n := ⟨_, rfl⟩
      rw [hn] at hlt hib
      have Hq := Lib.hid hq; have Hib := Lib.hid hib
      clear hq htw hxy hn hv hib
      go_wp2
      go_quiet ((go_at_call 136; exact Calls.quiet_of_same (Hib.out _)))
      go_wp2
      go_ret
      exact ⟨ret_str (by rw [Htl.out, Hq.out]), hall.trans (below_drewN' _ _ _)⟩
     | false =>
      have hlt : decide (Lib.indexByte [97, 101, 105, 111, 117, 108, 115, 122] x < 0) = true := Sm.index_miss hv
      have hq : Sm.tail s = s.take (s.length - 1) := by rw [Sm.tail, htw, hv]; rfl
      obtain ⟨n, hn⟩ : ∃ n, Lib.indexByte [97, 101, 105, 111, 117, 108, 115, 122] x = n := ⟨_, rfl⟩
      rw [hn] at hlt hib
      have Hq := Lib.hid hq; have Hib := Lib.hid hib
      clear hq htw hxy hn hv hib
      go_wp2
      go_quiet ((go_at_call 136; exact Calls.quiet_of_same (Hib.out _)))
      go_wp2
      go_ret
      exact ⟨ret_str (by rw [Htl.out, Hq.out]), hall.trans (below_drewN' _ _ _)⟩
   ·have hd4 : decide (4 ≤ (s.length : Int)) = false := by simp; omega
    have hq : Sm.tail s = s := by simp [Sm.tail, Sm.twice, h4]
    have Hq := Lib.hid hq
    clear hq hib
    go_wp2
    go_quiet (fail)
    go_wp2
    go_ret
    exact ⟨ret_str (by rw [Htl.out, Hq.out]), hall.trans (below_drewN' _ _ _)⟩
end Go.Proofs.YtnlhocbaighedaaGreatDoor
namespace Go.Proofs.YtnlhocbaighedaaGreatDoor
open Go.RowKit
set_option linter.unusedVariables false
def Sm.lc (c : UInt8) : Bool := decide (97 ≤ c) && decide (c ≤ 122)
theorem Sm.lc_int (c : UInt8) : Sm.lc c = (decide ((97 : Int) ≤ (c.toNat : Int)) && decide ((c.toNat : Int) ≤ 122)) := by
 rw [Bool.eq_iff_iff]
 simp only [Sm.lc, Bool.and_eq_true, decide_eq_true_eq, UInt8.le_iff_toNat_le, UInt8.reduceToNat]
 omega
theorem of1_ok (c : UInt8) (w : World) : Calls Tryz.prog 99 #[.int .u8 (c.toNat : Int)] w fun e w' => e = .returned (.bool (Sm.lc c)) ∧ w = w' := by
 have hl := Sm.lc_int c
 have Hl := Lib.hid hl
 clear hl
 by_cases h1 : (97 : Int) ≤ (c.toNat : Int)
 all_goals by_cases h2 : (c.toNat : Int) ≤ 122
 all_goals
  go_enter Tryz.func99, Tryz.ntmps99
  go_wp2
  go_ret
  exact ⟨by rw [Hl.out]; simp [h1, h2], rfl⟩
theorem Sm.letters_lc (s : Str) : Sm.letters s = s.all Sm.lc := rfl
set_option maxHeartbeats 1000000 in
theorem of_ok (s : Str) (hs : s.length ≤ maxLen) (w : World) : Calls Tryz.prog 69 #[.string (bs s)] w fun e w' => e = .returned (.string (bs (Sm.stem s))) ∧ Below w.heap.size w w' := by
 have hall := allB_ok 99 Sm.lc (enters_of Tryz.func99 (by kernel_rfl) rfl) of1_ok s hs w
 have Hall := Lib.hid hall
 clear hall
 unfold maxLen at hs
 by_cases h60 : s.length ≤ 60
 ·have hd : decide (60 < (s.length : Int)) = false := by simp; omega
  obtain ⟨t, ht⟩ : ∃ t, s.all Sm.lc = t := ⟨_, rfl⟩
  have hc := Hall.out.mono fun e w' h => (⟨by rw [h.1, ht], h.2⟩ : e = .returned (.bool t) ∧ w = w')
  have Hc := Lib.hid hc
  clear hc Hall
  cases t with
  | false =>
   have hst : Sm.stem s = s := by unfold Sm.stem; rw [if_neg]; rw [Sm.letters_lc, ht]; simp
   have Hst := Lib.hid hst
   clear hst ht
   go_enter Tryz.func69, Tryz.ntmps69
   go_wp2_with fail
   refine Hc.out.mono ?_
   rintro e w1 ⟨rfl, rfl⟩
   go_wp2
   go_ret
   exact ⟨ret_str (by rw [Hst.out]), Below.refl _ _⟩
  | true =>
   have hst : Sm.stem s = Sm.rounds (Sm.mu s) s := by unfold Sm.stem; rw [if_pos ⟨by rw [Sm.letters_lc, ht], h60⟩]
   obtain ⟨res, hres⟩ : ∃ r, Sm.rounds (Sm.mu s) s = r := ⟨_, rfl⟩
   rw [hres] at hst
   have Hst := Lib.hid hst; have Hres := Lib.hid hres
   clear hst ht hres
   go_enter Tryz.func69, Tryz.ntmps69
   go_wp2_with fail
   refine Hc.out.mono ?_
   rintro e w1 ⟨rfl, rfl⟩
   go_wp2
   go_loopw [0] (fun v wr => ∃ t : Str, v = .string (bs t) ∧ t.length ≤ 60 ∧ Hid (Sm.rounds (Sm.mu t) t = res) ∧ Below w.heap.size w wr) (fun v _ => Sm.mu (strOf v))
   case atStart => exact ⟨s, rfl, h60, Hres, Below.refl _ _⟩
   case round =>
    obtain ⟨t, rfl, ht, hr, hb⟩ := hrel
    have hc := step_ok t wr (by omega)
    have hl := Sm.step_len t
    obtain ⟨u, hu⟩ : ∃ u, Sm.step t = u := ⟨_, rfl⟩
    rw [hu] at hc hl
    have Hu := Lib.hid hu; have Hc2 := Lib.hid hc
    clear hu hc
    go_wp2_with fail
    refine Hc2.out.mono ?_
    rintro e w1 ⟨rfl, hb1⟩
    clear Hc2
    have hb2 := below2 hb (hb1)
    cases hq : (u == t) with
    | true =>
     have he : Sm.step t = t := by rw [Hu.out]; exact eq_of_beq hq
     have He := Lib.hid he
     clear he
     go_wp2
     go_ret
     exact ⟨ret_str (by rw [Hst.out, ← hr.out, Sm.rounds_fix He.out, ← Hu.out, He.out]), hb2⟩
    | false =>
     have he : Sm.step t ≠ t := by rw [Hu.out]; intro e; rw [e] at hq; simp at hq
     have hm : Sm.mu u < Sm.mu t := by rw [← Hu.out]; exact Sm.step_mu he
     have he2 : Sm.rounds (Sm.mu u) u = res := by rw [← hr.out, Sm.rounds_step he, Hu.out]
     have He := Lib.hid he2
     clear he he2
     go_wp2
     go_roundw
     case rel => exact ⟨u, rfl, by omega, He, hb2⟩
     case measure => simpa [strOf, bs] using hm
 ·have hst : Sm.stem s = s := by unfold Sm.stem; rw [if_neg]; omega
  have hd : decide (60 < (s.length : Int)) = true := by simp; omega
  have Hst := Lib.hid hst
  clear hst Hall
  go_enter Tryz.func69, Tryz.ntmps69
  go_wp2
  go_ret
  exact ⟨ret_str (by rw [Hst.out]), Below.refl _ _⟩
end Go.Proofs.YtnlhocbaighedaaGreatDoor
namespace Go.Proofs.YtnlhocbaighedaaGreatDoor
open Go.RowKit
set_option linter.unusedVariables false
theorem suffix_drop {s e : Str} (h : e.length ≤ s.length) : Lib.hasSuffix s e = ((s.drop (s.length - e.length)).take (s.length - (s.length - e.length)) == e) := by
 rw [List.take_of_length_le (by rw [List.length_drop]; omega), Bool.eq_iff_iff]
 unfold Lib.hasSuffix
 rw [List.isSuffixOf_iff_suffix, beq_iff_eq]
 constructor
 ·rintro ⟨t, rfl⟩
  simp
 ·intro h'
  rw [← h']
  exact List.drop_suffix _ _
theorem suffix_long {s e : Str} (h : s.length < e.length) : Lib.hasSuffix s e = false := by
 rw [Bool.eq_false_iff]
 intro h'
 unfold Lib.hasSuffix at h'
 have := (List.isSuffixOf_iff_suffix.1 h').length_le
 omega
theorem ends_ok (s e : Str) (hs : s.length ≤ maxLen) (w : World) : Calls Tryz.prog 102 #[.string (bs s), .string (bs e)] w fun r w' => r = .returned (.bool (Lib.hasSuffix s e)) ∧ w = w' := by
 unfold maxLen at hs
 by_cases h : e.length ≤ s.length
 ·obtain ⟨t, ht⟩ : ∃ t, ((s.drop (s.length - e.length)).take (s.length - (s.length - e.length)) == e) = t := ⟨_, rfl⟩
  have hf : Lib.hasSuffix s e = t := by rw [suffix_drop h, ht]
  have Hf := Lib.hid hf
  clear hf
  have hd : decide ((e.length : Int) ≤ (s.length : Int)) = true := by simp; omega
  have hi : IntKind.i64.wrap ((s.length : Int) - (e.length : Int)) = (s.length : Int) - (e.length : Int) := IntWalk.i64_in _ (by omega)
  have hn : ((s.length : Int) - (e.length : Int)).toNat = s.length - e.length := by omega
  have h0 : (0 : Int) ≤ (s.length : Int) - (e.length : Int) := by omega
  have h1 : (e.length : Int) ≤ (s.length : Int) := by omega
  have h2 : (s.length : Int) - (e.length : Int) ≤ (s.length : Int) := by omega
  go_enter Tryz.func102, Tryz.ntmps102
  go_wp2
  go_ret
  exact ⟨ret_bool (by rw [Hf.out]), rfl⟩
 ·have hf := suffix_long (s := s) (e := e) (by omega)
  have Hf := Lib.hid hf
  clear hf
  have hd : decide ((e.length : Int) ≤ (s.length : Int)) = false := by simp; omega
  go_enter Tryz.func102, Tryz.ntmps102
  go_wp2
  go_ret
  exact ⟨ret_bool (by rw [Hf.out]), rfl⟩
set_option maxHeartbeats 400000 in
theorem letters_ok (s : Str) (hs : s.length ≤ maxLen) (w : World) : Calls Tryz.prog 72 #[.string (bs s)] w fun e w' => e = .returned (.bool (Sm.letters s)) ∧ w = w' := by
 unfold maxLen at hs
 go_enter Tryz.func72, Tryz.ntmps72
 go_wp2
 go_loop [3] (fun i => ∃ k : Nat, k ≤ s.length ∧ i = .int .i64 k ∧ Hid (∀ (j : Nat) (hj : j < s.length), j < k → Sm.lc s[j] = true)) (fun i => s.length - (intOf i).toNat)
 case atStart => exact ⟨0, Nat.zero_le _, rfl, Lib.hid fun j _ h => absurd h (by omega)⟩
 case round =>
  obtain ⟨k, hk, rfl, hpre⟩ := hrel
  by_cases hlt : k < s.length
  ·have hget : (bs s)[k]'(by simpa using hlt) = s[k] := bs_get s k (by simpa using hlt)
   obtain ⟨x, hx⟩ : ∃ x, s[k] = x := ⟨_, rfl⟩
   rw [hx] at hget
   have hxx := Sm.lc_int x
   have Hx := Lib.hid hx; have Hxx := Lib.hid hxx
   clear hx hxx
   by_cases h1 : (97 : Int) ≤ (x.toNat : Int)
   all_goals by_cases h2 : (x.toNat : Int) ≤ 122
   ·have hd1 : decide ((x.toNat : Int) < 97) = false := by simp; omega
    have hd2 : decide ((122 : Int) < (x.toNat : Int)) = false := by simp; omega
    go_wp2
    go_round
    case rel => exact ⟨k + 1, by omega, by go_num, Lib.hid fun j hj h => by
     by_cases e : j = k
     ·subst e; rw [Hx.out, Hxx.out]; simp [h1, h2]
     ·exact hpre.out j hj (by omega)⟩
    case measure => simp [intOf]; omega
   all_goals
    have hf : Sm.letters s = false := by
     rw [Sm.letters_lc]
     exact all_false s _ k hlt (by rw [Hx.out, Hxx.out]; simp [h1, h2])
    have Hf := Lib.hid hf
    clear hf
    first
     | (have hd1 : decide ((x.toNat : Int) < 97) = true := by simp; omega)
     | (have hd1 : decide ((x.toNat : Int) < 97) = false := by simp; omega)
    first
     | (have hd2 : decide ((122 : Int) < (x.toNat : Int)) = true := by simp; omega)
     | (have hd2 : decide ((122 : Int) < (x.toNat : Int)) = false := by simp; omega)
    go_wp2
    all_goals go_ret
    all_goals exact ⟨ret_bool (by rw [Hf.out]), rfl⟩
  ·go_wp2
   go_ret
   exact ⟨ret_bool (by rw [Sm.letters_lc, all_true s _ fun i hi => hpre.out i hi (by omega)]), rfl⟩
end Go.Proofs.YtnlhocbaighedaaGreatDoor
namespace Go.Proofs.YtnlhocbaighedaaGreatDoor
open Go.RowKit
set_option linter.unusedVariables false
theorem ref_cells {w : World} {a b : Nat} (kA : Blk w a 9 #[.string ⟨#[105, 101, 115]⟩, .string ⟨#[115, 115, 101, 115]⟩, .string ⟨#[110, 101, 115, 115]⟩, .string ⟨#[109, 101, 110, 116]⟩, .string ⟨#[105, 110, 103]⟩, .string ⟨#[101, 100, 108, 121]⟩, .string ⟨#[101, 100]⟩, .string ⟨#[108, 121]⟩, .string ⟨#[115]⟩, .string ⟨#[121]⟩]) (kB : Blk w b 9 #[.string ⟨#[105]⟩, .string ⟨#[115, 115]⟩, .string ⟨#[]⟩, .string ⟨#[]⟩, .string ⟨#[]⟩, .string ⟨#[]⟩, .string ⟨#[]⟩, .string ⟨#[]⟩, .string ⟨#[]⟩, .string ⟨#[105]⟩]) (k : Nat) (hk : k < 10) : ∃ (r : Sm.Rule), Sm.rules.drop k = r :: Sm.rules.drop (k + 1) ∧
    w.cell? ⟨a, k, none⟩ = some (.string (bs r.ending)) ∧ w.cell? ⟨b, k, none⟩ = some (.string (bs r.to)) ∧
    (k ≠ 8 ∧ r.bars = [] ∨ k = 8 ∧ r.bars = [[115, 115], [117, 115], [105, 115]]) ∧ r.to.length ≤ r.ending.length ∧ r.ending.length ≤ 10 ∧ 1 ≤ r.ending.length := by
  match k, hk with
  | 0, _ => exact ⟨_, rfl, kA.cell 0, kB.cell 0, .inl ⟨by decide, rfl⟩, by decide, by decide, by decide⟩
  | 1, _ => exact ⟨_, rfl, kA.cell 1, kB.cell 1, .inl ⟨by decide, rfl⟩, by decide, by decide, by decide⟩
  | 2, _ => exact ⟨_, rfl, kA.cell 2, kB.cell 2, .inl ⟨by decide, rfl⟩, by decide, by decide, by decide⟩
  | 3, _ => exact ⟨_, rfl, kA.cell 3, kB.cell 3, .inl ⟨by decide, rfl⟩, by decide, by decide, by decide⟩
  | 4, _ => exact ⟨_, rfl, kA.cell 4, kB.cell 4, .inl ⟨by decide, rfl⟩, by decide, by decide, by decide⟩
  | 5, _ => exact ⟨_, rfl, kA.cell 5, kB.cell 5, .inl ⟨by decide, rfl⟩, by decide, by decide, by decide⟩
  | 6, _ => exact ⟨_, rfl, kA.cell 6, kB.cell 6, .inl ⟨by decide, rfl⟩, by decide, by decide, by decide⟩
  | 7, _ => exact ⟨_, rfl, kA.cell 7, kB.cell 7, .inl ⟨by decide, rfl⟩, by decide, by decide, by decide⟩
  | 8, _ => exact ⟨_, rfl, kA.cell 8, kB.cell 8, .inr ⟨rfl, rfl⟩, by decide, by decide, by decide⟩
  | 9, _ => exact ⟨_, rfl, kA.cell 9, kB.cell 9, .inl ⟨by decide, rfl⟩, by decide, by decide, by decide⟩
theorem three_bars (s : Str) : ([[115, 115], [117, 115], [105, 115]] : List Str).any (Lib.hasSuffix s) = (Lib.hasSuffix s [115, 115] || Lib.hasSuffix s [117, 115] || Lib.hasSuffix s [105, 115]) := by
  simp [Bool.or_assoc]
set_option maxRecDepth 100000 in
set_option maxHeartbeats 8000000 in
theorem rstep_ok (s : Str) (w : World) (hs : s.length ≤ maxLen) :
    Calls Tryz.prog 73 #[.string (bs s)] w fun e w' => e = .returned (.string (bs (Sm.step s))) ∧ Below w.heap.size w w' := by
  unfold maxLen at hs
  obtain ⟨res, hres⟩ : ∃ r, Sm.step s = r := ⟨_, rfl⟩
  rw [hres]
  have Hres := Lib.hid hres
  clear hres
  have hbw := ((Below.refl w.heap.size w).alloc (Nat.le_refl _) (.cells #[.string ⟨#[105, 101, 115]⟩, .string ⟨#[115, 115, 101, 115]⟩, .string ⟨#[110, 101, 115, 115]⟩, .string ⟨#[109, 101, 110, 116]⟩, .string ⟨#[105, 110, 103]⟩, .string ⟨#[101, 100, 108, 121]⟩, .string ⟨#[101, 100]⟩, .string ⟨#[108, 121]⟩, .string ⟨#[115]⟩, .string ⟨#[121]⟩] 9)).alloc (by simp) (.cells #[.string ⟨#[105]⟩, .string ⟨#[115, 115]⟩, .string ⟨#[]⟩, .string ⟨#[]⟩, .string ⟨#[]⟩, .string ⟨#[]⟩, .string ⟨#[]⟩, .string ⟨#[]⟩, .string ⟨#[]⟩, .string ⟨#[105]⟩] 9)
  have kA := (Blk.new w 9 #[.string ⟨#[105, 101, 115]⟩, .string ⟨#[115, 115, 101, 115]⟩, .string ⟨#[110, 101, 115, 115]⟩, .string ⟨#[109, 101, 110, 116]⟩, .string ⟨#[105, 110, 103]⟩, .string ⟨#[101, 100, 108, 121]⟩, .string ⟨#[101, 100]⟩, .string ⟨#[108, 121]⟩, .string ⟨#[115]⟩, .string ⟨#[121]⟩]).alloc (.cells #[.string ⟨#[105]⟩, .string ⟨#[115, 115]⟩, .string ⟨#[]⟩, .string ⟨#[]⟩, .string ⟨#[]⟩, .string ⟨#[]⟩, .string ⟨#[]⟩, .string ⟨#[]⟩, .string ⟨#[]⟩, .string ⟨#[105]⟩] 9)
  have kB := Blk.new (w.alloc (.cells #[.string ⟨#[105, 101, 115]⟩, .string ⟨#[115, 115, 101, 115]⟩, .string ⟨#[110, 101, 115, 115]⟩, .string ⟨#[109, 101, 110, 116]⟩, .string ⟨#[105, 110, 103]⟩, .string ⟨#[101, 100, 108, 121]⟩, .string ⟨#[101, 100]⟩, .string ⟨#[108, 121]⟩, .string ⟨#[115]⟩, .string ⟨#[121]⟩] 9)) 9 #[.string ⟨#[105]⟩, .string ⟨#[115, 115]⟩, .string ⟨#[]⟩, .string ⟨#[]⟩, .string ⟨#[]⟩, .string ⟨#[]⟩, .string ⟨#[]⟩, .string ⟨#[]⟩, .string ⟨#[]⟩, .string ⟨#[105]⟩]
  rw [show ∀ o, (w.alloc o).heap.size = w.heap.size + 1 from fun o => by simp] at kB
  go_enter Tryz.func73, Tryz.ntmps73
  go_wp2_with fail
  generalize hw1 : (w.alloc _).alloc _ = w1 at hbw kA kB ⊢
  have Hw1 := Lib.hid hw1; clear hw1
  go_loopw [5] (fun i wr => ∃ k : Nat, k ≤ 10 ∧ i = .int .i64 k ∧ Hid (Sm.stepOf (Sm.rules.drop k) s = res) ∧ Below w1.heap.size w1 wr) (fun i _ => 10 - (intOf i).toNat)
  case atStart => exact ⟨0, Nat.zero_le _, rfl, Lib.hid Hres.out, Below.refl _ _⟩
  case round =>
    obtain ⟨k, hk, rfl, hst, hb⟩ := hrel
    by_cases hlt : k < 10
    · obtain ⟨r, hdr, c0, c1, hbars, hto, hen, hen1⟩ := ref_cells (kA.ext hb) (kB.ext hb) k hlt
      have hall := hbw.trans (hb.mono hbw.size)
      have hres : res = if Sm.fits r s then Sm.cut r s else Sm.stepOf (Sm.rules.drop (k + 1)) s := by rw [← hst.out, hdr, Sm.stepOf]
      have Hr := Lib.hid hres; have Hst := hst
      clear hres hdr kA kB
      have hi : IntKind.i64.wrap ((s.length : Int) - (r.ending.length : Int)) = (s.length : Int) - (r.ending.length : Int) := IntWalk.i64_in _ (by omega)
      have hk0 : (0 : Int) ≤ (k : Int) := by omega
      have hk1 : (k : Int) < 10 := by omega
      have hen2 : (r.ending.length : Int) ≤ 10 := by omega
      have ends := fun (x : Str) (W : World) => ends_ok s x (by unfold maxLen; omega) W
      have Ends := Lib.hid ends
      clear ends
      by_cases h3 : r.ending.length + 3 ≤ s.length
      · have hd3 : decide ((s.length : Int) - (r.ending.length : Int) < 3) = false := by simp; omega
        have hc := Ends.out r.ending wr
        cases hsu : Lib.hasSuffix s r.ending with
        | false =>
          rw [hsu] at hc
          have Hc := Lib.hid hc
          have hf : Sm.fits r s = false := by simp [Sm.fits, hsu]
          rw [hf] at Hr
          clear hc hf hsu
          go_wp2_with fail
          refine Hc.out.mono ?_
          rintro e w2 ⟨rfl, rfl⟩
          go_wp2
          go_roundw
          case rel => exact ⟨k + 1, by omega, by go_num, Lib.hid (by rw [Hr.out]; rfl), hb⟩
          case measure => simp [intOf]; omega
        | true =>
          rw [hsu] at hc
          have Hc := Lib.hid hc
          have hf : Sm.fits r s = !r.bars.any (Lib.hasSuffix s) := by simp [Sm.fits, hsu, h3]
          rw [hf] at Hr
          clear hc hf
          rcases hbars with ⟨hk8, hb0⟩ | ⟨hk8, hb0⟩
          · have he8 : ((k : Int) == 8) = false := by simp; omega
            have hr2 : res = s.take (s.length - r.ending.length) ++ r.to := by rw [Hr.out, hb0]; rfl
            have Hr2 := Lib.hid hr2; have Hsu := Lib.hid hsu
            clear hr2 Hr hb0 hsu
            have hn : ((s.length : Int) - (r.ending.length : Int)).toNat = s.length - r.ending.length := by omega
            have hn0 : (0 : Int) ≤ (s.length : Int) - (r.ending.length : Int) := by omega
            have hn2 : (r.ending.length : Int) ≤ (s.length : Int) := by omega
            have hn1 : (s.length : Int) - (r.ending.length : Int) ≤ (s.length : Int) := by omega
            have hcat : ((s.take (s.length - r.ending.length)).length + r.to.length ≤ 9223372036854775807) = True := by simp; omega
            have hcat2 : (min (s.length - r.ending.length) s.length + r.to.length ≤ 9223372036854775807) = True := by simp; omega
            go_wp2_with fail
            refine Hc.out.mono ?_
            rintro e w2 ⟨rfl, rfl⟩
            go_wp2
            go_quiet (fail)
            go_wp2
            go_ret
            exact ⟨ret_str (by rw [Hr2.out]), hall.trans (below_drewN' _ _ _)⟩
          · subst hk8
            rw [hb0, three_bars] at Hr
            clear hb0
            have Hsu := Lib.hid hsu
            clear hsu
            have c1 := Ends.out [115, 115] wr
            have c2 := Ends.out [117, 115] wr
            have c3 := Ends.out [105, 115] wr
            have hn : ((s.length : Int) - (r.ending.length : Int)).toNat = s.length - r.ending.length := by omega
            have hn0 : (0 : Int) ≤ (s.length : Int) - (r.ending.length : Int) := by omega
            have hn2 : (r.ending.length : Int) ≤ (s.length : Int) := by omega
            have hn1 : (s.length : Int) - (r.ending.length : Int) ≤ (s.length : Int) := by omega
            have hcat2 : (min (s.length - r.ending.length) s.length + r.to.length ≤ 9223372036854775807) = True := by simp; omega
            have hcat : (s.length - r.ending.length + r.to.length ≤ 9223372036854775807) = True := by simp; omega
            cases b1 : Lib.hasSuffix s [115, 115]
            all_goals cases b2 : Lib.hasSuffix s [117, 115]
            all_goals cases b3 : Lib.hasSuffix s [105, 115]
            all_goals
              rw [b1] at c1 Hr
              rw [b2] at c2 Hr
              rw [b3] at c3 Hr
              have C1 := Lib.hid c1; have C2 := Lib.hid c2; have C3 := Lib.hid c3
              clear c1 c2 c3 b1 b2 b3
              go_wp2_with fail
              refine Hc.out.mono ?_
              rintro e w2 ⟨rfl, rfl⟩
              go_wp2_with fail
              refine C1.out.mono ?_
              rintro e w2 ⟨rfl, rfl⟩
              try (go_wp2_with fail; refine C2.out.mono ?_; rintro e w2 ⟨rfl, rfl⟩)
              try (go_wp2_with fail; refine C3.out.mono ?_; rintro e w2 ⟨rfl, rfl⟩)
              go_wp2
            all_goals first
              | (go_roundw
                 case rel => exact ⟨8 + 1, by omega, by go_num, Lib.hid (by rw [Hr.out]; rfl), hb⟩
                 case measure => decide)
              | (go_quiet (fail)
                 go_wp2
                 go_ret
                 exact ⟨ret_str (by rw [Hr.out]; rfl), hall.trans (below_drewN' _ _ _)⟩)
      · have hf : Sm.fits r s = false := by simp [Sm.fits, h3]
        rw [hf] at Hr
        clear hf
        have hd3 : decide ((s.length : Int) - (r.ending.length : Int) < 3) = true := decide_eq_true (by omega)
        go_wp2
        go_roundw
        case rel => exact ⟨k + 1, by omega, by go_num, Lib.hid (by rw [Hr.out]; rfl), hb⟩
        case measure => simp [intOf]; omega
    · obtain rfl : k = 10 := by omega
      have htl : res = Sm.tail s := hst.out.symm
      have Htl := Lib.hid htl
      have hall := hbw.trans (hb.mono hbw.size)
      clear htl hst kA kB hbw hb
      have hi0 : IntKind.i64.wrap ((s.length : Int) - 1) = (s.length : Int) - 1 := IntWalk.i64_in _ (by omega)
      by_cases h4 : 4 ≤ s.length
      · have hd4 : decide (3 ≤ (s.length : Int) - 1) = true := by simp; omega
        have hi2 : IntKind.i64.wrap ((s.length : Int) - 1 - 1) = (s.length : Int) - 2 := (IntWalk.i64_in _ (by omega)).trans (by omega)
        have hk1 : (1 : Int) ≤ (s.length : Int) := by omega
        have hk2 : (2 : Int) ≤ (s.length : Int) := by omega
        have hk3 : 1 ≤ s.length := by omega
        have hk4 : 2 ≤ s.length := by omega
        have hj3 : (s.length : Int) - 1 < (s.length : Int) := by omega
        have hj4 : (s.length : Int) - 2 < (s.length : Int) := by omega
        have hj5 : (s.length : Int) - 1 ≤ (s.length : Int) := by omega
        have hk0 : (0 : Int) ≤ (s.length : Int) - 1 := by omega
        have hk6 : (0 : Int) ≤ (s.length : Int) - 2 := by omega
        obtain ⟨x, hx⟩ : ∃ x, s[s.length - 1] = x := ⟨_, rfl⟩
        obtain ⟨y, hy⟩ : ∃ y, s[s.length - 2] = y := ⟨_, rfl⟩
        have htw := Sm.twice_of (s := s) h4 hx hy
        cases ht : ((x.toNat : Int) == (y.toNat : Int)) with
        | false =>
          have hxy : (x == y) = false := by
            rw [beq_eq_false_iff_ne] at ht ⊢
            exact fun e => ht (by rw [e])
          have hq : Sm.tail s = s := by rw [Sm.tail, htw, hxy]; rfl
          have Hq := Lib.hid hq
          clear hq htw hxy
          go_wp2
          go_quiet (fail)
          go_wp2
          go_ret
          exact ⟨ret_str (by rw [Htl.out, Hq.out]), hall.trans (below_drewN' _ _ _)⟩
        | true =>
          have hxy : (x == y) = true := by
            rw [beq_iff_eq] at ht ⊢
            exact UInt8.toNat_inj.1 (by omega)
          rw [hxy] at htw
          cases hv : (Sm.vowels.any (· == x)) with
          | true =>
            have hq : Sm.tail s = s := by rw [Sm.tail, htw, hv]; rfl
            have Hq := Lib.hid hq
            clear hq htw hxy
            simp only [Sm.vowels, List.any_cons, List.any_nil, Bool.or_eq_true, beq_iff_eq, Bool.or_false] at hv
            rcases hv with h | h | h | h | h | h | h | h
            all_goals
              subst h
              first
                | (have ht2 : ((97 : Int) == (y.toNat : Int)) = true := ht)
                | (have ht2 : ((101 : Int) == (y.toNat : Int)) = true := ht)
                | (have ht2 : ((105 : Int) == (y.toNat : Int)) = true := ht)
                | (have ht2 : ((111 : Int) == (y.toNat : Int)) = true := ht)
                | (have ht2 : ((117 : Int) == (y.toNat : Int)) = true := ht)
                | (have ht2 : ((108 : Int) == (y.toNat : Int)) = true := ht)
                | (have ht2 : ((115 : Int) == (y.toNat : Int)) = true := ht)
                | (have ht2 : ((122 : Int) == (y.toNat : Int)) = true := ht)
              clear ht
              go_wp2
              go_quiet (fail)
              go_wp2
              go_ret
              exact ⟨ret_str (by rw [Htl.out, Hq.out]), hall.trans (below_drewN' _ _ _)⟩
          | false =>
            have hq : Sm.tail s = s.take (s.length - 1) := by rw [Sm.tail, htw, hv]; rfl
            have Hq := Lib.hid hq
            clear hq htw hxy
            simp only [Sm.vowels, List.any_cons, List.any_nil, Bool.or_eq_false_iff, beq_eq_false_iff_ne, Bool.or_false] at hv
            have vne : ∀ n : Nat, n < 256 → UInt8.ofNat n ≠ x → ((x.toNat : Int) != (n : Int)) = true := by
              intro n hn h
              rw [bne_iff_ne]
              intro e
              exact h (UInt8.toNat_inj.1 (by simp; omega))
            have v1 : ((x.toNat : Int) != 97) = true := vne 97 (by omega) hv.1
            have v2 : ((x.toNat : Int) != 101) = true := vne 101 (by omega) hv.2.1
            have v3 : ((x.toNat : Int) != 105) = true := vne 105 (by omega) hv.2.2.1
            have v4 : ((x.toNat : Int) != 111) = true := vne 111 (by omega) hv.2.2.2.1
            have v5 : ((x.toNat : Int) != 117) = true := vne 117 (by omega) hv.2.2.2.2.1
            have v6 : ((x.toNat : Int) != 108) = true := vne 108 (by omega) hv.2.2.2.2.2.1
            have v7 : ((x.toNat : Int) != 115) = true := vne 115 (by omega) hv.2.2.2.2.2.2.1
            have v8 : ((x.toNat : Int) != 122) = true := vne 122 (by omega) hv.2.2.2.2.2.2.2
            clear vne hv
            go_wp2
            go_quiet (fail)
            go_wp2
            go_ret
            exact ⟨ret_str (by rw [Htl.out, Hq.out]), hall.trans (below_drewN' _ _ _)⟩
      · have hd4 : decide (3 ≤ (s.length : Int) - 1) = false := by simp; omega
        have hq : Sm.tail s = s := by simp [Sm.tail, Sm.twice, h4]
        have Hq := Lib.hid hq
        clear hq
        go_wp2
        go_quiet (fail)
        go_wp2
        go_ret
        exact ⟨ret_str (by rw [Htl.out, Hq.out]), hall.trans (below_drewN' _ _ _)⟩
end Go.Proofs.YtnlhocbaighedaaGreatDoor
namespace Go.Proofs.YtnlhocbaighedaaGreatDoor
open Go.RowKit
set_option linter.unusedVariables false
set_option maxHeartbeats 1000000 in
theorem stem_ok : ∀ (n : Nat) (s : Str) (hm : Sm.mu s ≤ n) (hs : s.length ≤ maxLen) (w : World), Calls Tryz.prog 52 #[.string (bs s)] w fun e w' => e = .returned (.string (bs (Sm.stem s))) ∧ Below w.heap.size w w' := by
 intro n
 induction n with
 | zero =>
  intro s hm hs w
  have h0 : s = [] := by
   unfold Sm.mu at hm
   exact List.eq_nil_of_length_eq_zero (by omega)
  subst h0
  have hl := letters_ok [] hs w
  have hc := rstep_ok [] w hs
  have e1 : Sm.letters [] = true := rfl
  have e2 : Sm.step [] = [] := rfl
  have e3 : Sm.stem [] = [] := rfl
  rw [e1] at hl
  rw [e2] at hc
  rw [e3]
  have Hl := Lib.hid hl; have Hc := Lib.hid hc
  clear hl hc e1 e2 e3
  go_enter Tryz.func52, Tryz.ntmps52
  go_wp2_with fail
  refine Hl.out.mono ?_
  rintro e w1 ⟨rfl, rfl⟩
  go_wp2_with fail
  refine Hc.out.mono ?_
  rintro e w1 ⟨rfl, hb⟩
  go_wp2
  go_ret
  exact ⟨rfl, hb⟩
 | succ n ih =>
  intro s hm hs w
  have hl := letters_ok s hs w
  unfold maxLen at hs
  cases hlt : Sm.letters s with
  | false =>
   rw [hlt] at hl
   have hq : Sm.stem s = s := by unfold Sm.stem; rw [if_neg]; rw [hlt]; simp
   have Hl := Lib.hid hl; have Hq := Lib.hid hq
   clear hl hq hlt ih
   go_enter Tryz.func52, Tryz.ntmps52
   go_wp2_with fail
   refine Hl.out.mono ?_
   rintro e w1 ⟨rfl, rfl⟩
   go_wp2
   go_ret
   exact ⟨ret_str (by rw [Hq.out]), Below.refl _ _⟩
  | true =>
   rw [hlt] at hl
   by_cases h6 : s.length ≤ 60
   ·have hd : decide (60 < (s.length : Int)) = false := by simp; omega
    have hst := Sm.stem_step hlt h6
    have hc := rstep_ok s w (by unfold maxLen; omega)
    have hsl := Sm.step_len s
    obtain ⟨t, ht⟩ : ∃ t, Sm.step s = t := ⟨_, rfl⟩
    rw [ht] at hc hst hsl
    cases hq : (t == s) with
    | true =>
     have hfix : Sm.stem s = s := Sm.stem_fix (by rw [ht]; exact eq_of_beq hq)
     have Hl := Lib.hid hl; have Hc := Lib.hid hc; have Ht := Lib.hid ht; have Hst := Lib.hid hst; have Hf := Lib.hid hfix
     clear hl hc ht hst hlt ih hfix
     go_enter Tryz.func52, Tryz.ntmps52
     go_wp2_with fail
     refine Hl.out.mono ?_
     rintro e w1 ⟨rfl, rfl⟩
     go_wp2_with fail
     refine Hc.out.mono ?_
     rintro e w1 ⟨rfl, hb⟩
     go_wp2
     go_ret
     exact ⟨ret_str (by rw [Hf.out]), hb⟩
    | false =>
     have hne : Sm.step s ≠ s := by rw [ht]; intro e; rw [e] at hq; simp at hq
     have hmu : Sm.mu t < Sm.mu s := by rw [← ht]; exact Sm.step_mu hne
     have hrec := fun W => ih t (by omega) (by unfold maxLen; omega) W
     rw [hst] at hrec
     have Hl := Lib.hid hl; have Hc := Lib.hid hc; have Hrec := Lib.hid hrec
     clear hl hc ht hst hlt ih hne hrec
     go_enter Tryz.func52, Tryz.ntmps52
     go_wp2_with fail
     refine Hl.out.mono ?_
     rintro e w1 ⟨rfl, rfl⟩
     go_wp2_with fail
     refine Hc.out.mono ?_
     rintro e w1 ⟨rfl, hb⟩
     go_wp2_with fail
     refine (Hrec.out _).mono ?_
     rintro e w2 ⟨rfl, hb2⟩
     go_wp2
     go_ret
     exact ⟨rfl, below2 hb hb2⟩
   ·have hd : decide (60 < (s.length : Int)) = true := by simp; omega
    have hq : Sm.stem s = s := by unfold Sm.stem; rw [if_neg]; omega
    have Hl := Lib.hid hl; have Hq := Lib.hid hq
    clear hl hq hlt ih
    go_enter Tryz.func52, Tryz.ntmps52
    go_wp2_with fail
    refine Hl.out.mono ?_
    rintro e w1 ⟨rfl, rfl⟩
    go_wp2
    go_ret
    exact ⟨ret_str (by rw [Hq.out]), Below.refl _ _⟩
end Go.Proofs.YtnlhocbaighedaaGreatDoor
