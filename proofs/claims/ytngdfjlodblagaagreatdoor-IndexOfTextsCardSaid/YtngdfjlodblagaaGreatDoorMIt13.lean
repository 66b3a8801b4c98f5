/-
  Contracts and plain facts, one after another: stem.Of; The reference's ends, Letters; The reference's step (printed by gen/smref.py); The reference's Stem; The reference's Words and Stems; stem.Words; stem.Stems.
-/
import Derived.Test.YtngdfjlodblagaaGreatDoorMIt12
import Derived.Test.YtngdfjlodblagaaGreatDoorMIt8
import Derived.RegionTactic
import Derived.ChangeAlike
/-
  stem.Of.
-/
namespace Go.Proofs.YtngdfjlodblagaaGreatDoor
open Go.RowKit
set_option linter.unusedVariables false
def Sm.lc (c : UInt8) : Bool := decide (97 ≤ c) && decide (c ≤ 122)
theorem Sm.lc_int (c : UInt8) : Sm.lc c = (decide ((97 : Int) ≤ (c.toNat : Int)) && decide ((c.toNat : Int) ≤ 122)) := by
  rw [Bool.eq_iff_iff]
  simp only [Sm.lc, Bool.and_eq_true, decide_eq_true_eq, UInt8.le_iff_toNat_le, UInt8.reduceToNat]
  omega
theorem of1_ok (c : UInt8) (w : World) : Calls Tryz.prog 83 #[.int .u8 (c.toNat : Int)] w fun e w' => e = .returned (.bool (Sm.lc c)) ∧ w = w' := by
  have hl := Sm.lc_int c
  have Hl := Lib.hid hl
  clear hl
  by_cases h1 : (97 : Int) ≤ (c.toNat : Int)
  all_goals by_cases h2 : (c.toNat : Int) ≤ 122
  all_goals
    go_enter Tryz.func83, Tryz.ntmps83
    go_wp2
    go_ret
    exact ⟨by rw [Hl.out]; simp [h1, h2], rfl⟩
theorem Sm.letters_lc (s : Str) : Sm.letters s = s.all Sm.lc := rfl
set_option maxHeartbeats 1000000 in
theorem of_ok (s : Str) (hs : s.length ≤ maxLen) (w : World) : Calls Tryz.prog 47 #[.string (bs s)] w fun e w' => e = .returned (.string (bs (Sm.stem s))) ∧ Below w.heap.size w w' := by
  have hall := allB_ok 83 Sm.lc (enters_of Tryz.func83 (by kernel_rfl) rfl) of1_ok s hs w
  have Hall := Lib.hid hall
  clear hall
  unfold maxLen at hs
  by_cases h60 : s.length ≤ 60
  · have hd : decide (60 < (s.length : Int)) = false := by simp; omega
    obtain ⟨t, ht⟩ : ∃ t, s.all Sm.lc = t := ⟨_, rfl⟩
    have hc := Hall.out.mono fun e w' h => (⟨by rw [h.1, ht], h.2⟩ : e = .returned (.bool t) ∧ w = w')
    have Hc := Lib.hid hc
    clear hc Hall
    cases t with
    | false =>
      have hst : Sm.stem s = s := by unfold Sm.stem; rw [if_neg]; rw [Sm.letters_lc, ht]; simp
      have Hst := Lib.hid hst
      clear hst ht
      go_enter Tryz.func47, Tryz.ntmps47
      go_wp2_with fail
      refine Hc.out.mono ?_
      rintro e w1 ⟨rfl, rfl⟩
      go_wp2
      go_ret
      exact ⟨ret_str (by rw [Hst.out]), Below.refl _ _⟩
    | true =>
      have hst : Sm.stem s = Sm.rounds (Sm.mu s) s := by unfold Sm.stem; rw [if_pos ⟨by rw [Sm.letters_lc, ht], h60⟩]
      obtain ⟨res, hres⟩ : ∃ r, Sm.rounds (Sm.mu s) s = r := ⟨_, rfl⟩
      rw [hres] at hst
      have Hst := Lib.hid hst; have Hres := Lib.hid hres
      clear hst ht hres
      go_enter Tryz.func47, Tryz.ntmps47
      go_wp2_with fail
      refine Hc.out.mono ?_
      rintro e w1 ⟨rfl, rfl⟩
      go_wp2
      go_loopw [0] (fun v wr => ∃ t : Str, v = .string (bs t) ∧ t.length ≤ 60 ∧ Hid (Sm.rounds (Sm.mu t) t = res) ∧ Below w.heap.size w wr) (fun v _ => Sm.mu (strOf v))
      case atStart => exact ⟨s, rfl, h60, Hres, Below.refl _ _⟩
      case round =>
        obtain ⟨t, rfl, ht, hr, hb⟩ := hrel
        have hc := step_ok t wr (by omega)
        have hl := Sm.step_len t
        obtain ⟨u, hu⟩ : ∃ u, Sm.step t = u := ⟨_, rfl⟩
        rw [hu] at hc hl
        have Hu := Lib.hid hu; have Hc2 := Lib.hid hc
        clear hu hc
        go_wp2_with fail
        refine Hc2.out.mono ?_
        rintro e w1 ⟨rfl, hb1⟩
        clear Hc2
        have hb2 := below2 hb (hb1)
        cases hq : (u == t) with
        | true =>
          have he : Sm.step t = t := by rw [Hu.out]; exact eq_of_beq hq
          have He := Lib.hid he
          clear he
          go_wp2
          go_ret
          exact ⟨ret_str (by rw [Hst.out, ← hr.out, Sm.rounds_fix He.out, ← Hu.out, He.out]), hb2⟩
        | false =>
          have he : Sm.step t ≠ t := by rw [Hu.out]; intro e; rw [e] at hq; simp at hq
          have hm : Sm.mu u < Sm.mu t := by rw [← Hu.out]; exact Sm.step_mu he
          have he2 : Sm.rounds (Sm.mu u) u = res := by rw [← hr.out, Sm.rounds_step he, Hu.out]
          have He := Lib.hid he2
          clear he he2
          go_wp2
          go_roundw
          case rel => exact ⟨u, rfl, by omega, He, hb2⟩
          case measure => simpa [strOf, bs] using hm
  · have hst : Sm.stem s = s := by unfold Sm.stem; rw [if_neg]; omega
    have hd : decide (60 < (s.length : Int)) = true := by simp; omega
    have Hst := Lib.hid hst
    clear hst Hall
    go_enter Tryz.func47, Tryz.ntmps47
    go_wp2
    go_ret
    exact ⟨ret_str (by rw [Hst.out]), Below.refl _ _⟩
end Go.Proofs.YtngdfjlodblagaaGreatDoor
/-
  The reference's ends, Letters.
-/
namespace Go.Proofs.YtngdfjlodblagaaGreatDoor
open Go.RowKit
set_option linter.unusedVariables false
theorem suffix_drop {s e : Str} (h : e.length ≤ s.length) : Lib.hasSuffix s e = ((s.drop (s.length - e.length)).take (s.length - (s.length - e.length)) == e) := by
  rw [List.take_of_length_le (by rw [List.length_drop]; omega), Bool.eq_iff_iff]
  unfold Lib.hasSuffix
  rw [List.isSuffixOf_iff_suffix, beq_iff_eq]
  constructor
  · rintro ⟨t, rfl⟩
    simp
  · intro h'
    rw [← h']
    exact List.drop_suffix _ _
theorem suffix_long {s e : Str} (h : s.length < e.length) : Lib.hasSuffix s e = false := by
  rw [Bool.eq_false_iff]
  intro h'
  unfold Lib.hasSuffix at h'
  have := (List.isSuffixOf_iff_suffix.1 h').length_le
  omega
theorem ends_ok (s e : Str) (hs : s.length ≤ maxLen) (w : World) : Calls Tryz.prog 86 #[.string (bs s), .string (bs e)] w fun r w' => r = .returned (.bool (Lib.hasSuffix s e)) ∧ w = w' := by
  unfold maxLen at hs
  by_cases h : e.length ≤ s.length
  · obtain ⟨t, ht⟩ : ∃ t, ((s.drop (s.length - e.length)).take (s.length - (s.length - e.length)) == e) = t := ⟨_, rfl⟩
    have hf : Lib.hasSuffix s e = t := by rw [suffix_drop h, ht]
    have Hf := Lib.hid hf
    clear hf
    have hd : decide ((e.length : Int) ≤ (s.length : Int)) = true := by simp; omega
    have hi : IntKind.i64.wrap ((s.length : Int) - (e.length : Int)) = (s.length : Int) - (e.length : Int) := IntWalk.i64_in _ (by omega)
    have hn : ((s.length : Int) - (e.length : Int)).toNat = s.length - e.length := by omega
    have h0 : (0 : Int) ≤ (s.length : Int) - (e.length : Int) := by omega
    have h1 : (e.length : Int) ≤ (s.length : Int) := by omega
    have h2 : (s.length : Int) - (e.length : Int) ≤ (s.length : Int) := by omega
    go_enter Tryz.func86, Tryz.ntmps86
    go_wp2
    go_ret
    exact ⟨ret_bool (by rw [Hf.out]), rfl⟩
  · have hf := suffix_long (s := s) (e := e) (by omega)
    have Hf := Lib.hid hf
    clear hf
    have hd : decide ((e.length : Int) ≤ (s.length : Int)) = false := by simp; omega
    go_enter Tryz.func86, Tryz.ntmps86
    go_wp2
    go_ret
    exact ⟨ret_bool (by rw [Hf.out]), rfl⟩
set_option maxHeartbeats 400000 in
theorem letters_ok (s : Str) (hs : s.length ≤ maxLen) (w : World) : Calls Tryz.prog 55 #[.string (bs s)] w fun e w' => e = .returned (.bool (Sm.letters s)) ∧ w = w' := by
  unfold maxLen at hs
  go_enter Tryz.func55, Tryz.ntmps55
  go_wp2
  go_loop [3] (fun i => ∃ k : Nat, k ≤ s.length ∧ i = .int .i64 k ∧ Hid (∀ (j : Nat) (hj : j < s.length), j < k → Sm.lc s[j] = true)) (fun i => s.length - (intOf i).toNat)
  case atStart => exact ⟨0, Nat.zero_le _, rfl, Lib.hid fun j _ h => absurd h (by omega)⟩
  case round =>
    obtain ⟨k, hk, rfl, hpre⟩ := hrel
    by_cases hlt : k < s.length
    · have hget : (bs s)[k]'(by simpa using hlt) = s[k] := bs_get s k (by simpa using hlt)
      obtain ⟨x, hx⟩ : ∃ x, s[k] = x := ⟨_, rfl⟩
      rw [hx] at hget
      have hxx := Sm.lc_int x
      have Hx := Lib.hid hx; have Hxx := Lib.hid hxx
      clear hx hxx
      by_cases h1 : (97 : Int) ≤ (x.toNat : Int)
      all_goals by_cases h2 : (x.toNat : Int) ≤ 122
      · have hd1 : decide ((x.toNat : Int) < 97) = false := by simp; omega
        have hd2 : decide ((122 : Int) < (x.toNat : Int)) = false := by simp; omega
        go_wp2
        go_round
        case rel => exact ⟨k + 1, by omega, by go_num, Lib.hid fun j hj h => by
          by_cases e : j = k
          · subst e; rw [Hx.out, Hxx.out]; simp [h1, h2]
          · exact hpre.out j hj (by omega)⟩
        case measure => simp [intOf]; omega
      all_goals
        have hf : Sm.letters s = false := by
          rw [Sm.letters_lc]
          exact all_false s _ k hlt (by rw [Hx.out, Hxx.out]; simp [h1, h2])
        have Hf := Lib.hid hf
        clear hf
        first
          | (have hd1 : decide ((x.toNat : Int) < 97) = true := by simp; omega)
          | (have hd1 : decide ((x.toNat : Int) < 97) = false := by simp; omega)
        first
          | (have hd2 : decide ((122 : Int) < (x.toNat : Int)) = true := by simp; omega)
          | (have hd2 : decide ((122 : Int) < (x.toNat : Int)) = false := by simp; omega)
        go_wp2
        all_goals go_ret
        all_goals exact ⟨ret_bool (by rw [Hf.out]), rfl⟩
    · go_wp2
      go_ret
      exact ⟨ret_bool (by rw [Sm.letters_lc, all_true s _ fun i hi => hpre.out i hi (by omega)]), rfl⟩
end Go.Proofs.YtngdfjlodblagaaGreatDoor
/-
  The reference's step (printed by gen/smref.py).
-/
namespace Go.Proofs.YtngdfjlodblagaaGreatDoor
open Go.RowKit
set_option linter.unusedVariables false
theorem ref_cells {w : World} {a b : Nat} (kA : Blk w a 9 #[.string ⟨#[105, 101, 115]⟩, .string ⟨#[115, 115, 101, 115]⟩, .string ⟨#[110, 101, 115, 115]⟩, .string ⟨#[109, 101, 110, 116]⟩, .string ⟨#[105, 110, 103]⟩, .string ⟨#[101, 100, 108, 121]⟩, .string ⟨#[101, 100]⟩, .string ⟨#[108, 121]⟩, .string ⟨#[115]⟩, .string ⟨#[121]⟩]) (kB : Blk w b 9 #[.string ⟨#[105]⟩, .string ⟨#[115, 115]⟩, .string ⟨#[]⟩, .string ⟨#[]⟩, .string ⟨#[]⟩, .string ⟨#[]⟩, .string ⟨#[]⟩, .string ⟨#[]⟩, .string ⟨#[]⟩, .string ⟨#[105]⟩]) (k : Nat) (hk : k < 10) : ∃ (r : Sm.Rule), Sm.rules.drop k = r :: Sm.rules.drop (k + 1) ∧
    w.cell? ⟨a, k, none⟩ = some (.string (bs r.ending)) ∧ w.cell? ⟨b, k, none⟩ = some (.string (bs r.to)) ∧
    (k ≠ 8 ∧ r.bars = [] ∨ k = 8 ∧ r.bars = [[115, 115], [117, 115], [105, 115]]) ∧ r.to.length ≤ r.ending.length ∧ r.ending.length ≤ 10 ∧ 1 ≤ r.ending.length := by
  match k, hk with
  | 0, _ => exact ⟨_, rfl, kA.cell 0, kB.cell 0, .inl ⟨by decide, rfl⟩, by decide, by decide, by decide⟩
  | 1, _ => exact ⟨_, rfl, kA.cell 1, kB.cell 1, .inl ⟨by decide, rfl⟩, by decide, by decide, by decide⟩
  | 2, _ => exact ⟨_, rfl, kA.cell 2, kB.cell 2, .inl ⟨by decide, rfl⟩, by decide, by decide, by decide⟩
  | 3, _ => exact ⟨_, rfl, kA.cell 3, kB.cell 3, .inl ⟨by decide, rfl⟩, by decide, by decide, by decide⟩
  | 4, _ => exact ⟨_, rfl, kA.cell 4, kB.cell 4, .inl ⟨by decide, rfl⟩, by decide, by decide, by decide⟩
  | 5, _ => exact ⟨_, rfl, kA.cell 5, kB.cell 5, .inl ⟨by decide, rfl⟩, by decide, by decide, by decide⟩
  | 6, _ => exact ⟨_, rfl, kA.cell 6, kB.cell 6, .inl ⟨by decide, rfl⟩, by decide, by decide, by decide⟩
  | 7, _ => exact ⟨_, rfl, kA.cell 7, kB.cell 7, .inl ⟨by decide, rfl⟩, by decide, by decide, by decide⟩
  | 8, _ => exact ⟨_, rfl, kA.cell 8, kB.cell 8, .inr ⟨rfl, rfl⟩, by decide, by decide, by decide⟩
  | 9, _ => exact ⟨_, rfl, kA.cell 9, kB.cell 9, .inl ⟨by decide, rfl⟩, by decide, by decide, by decide⟩
theorem three_bars (s : Str) : ([[115, 115], [117, 115], [105, 115]] : List Str).any (Lib.hasSuffix s) = (Lib.hasSuffix s [115, 115] || Lib.hasSuffix s [117, 115] || Lib.hasSuffix s [105, 115]) := by
  simp [Bool.or_assoc]
set_option maxRecDepth 100000 in
set_option maxHeartbeats 8000000 in
theorem rstep_ok (s : Str) (w : World) (hs : s.length ≤ maxLen) :
    Calls Tryz.prog 56 #[.string (bs s)] w fun e w' => e = .returned (.string (bs (Sm.step s))) ∧ Below w.heap.size w w' := by
  unfold maxLen at hs
  obtain ⟨res, hres⟩ : ∃ r, Sm.step s = r := ⟨_, rfl⟩
  rw [hres]
  have Hres := Lib.hid hres
  clear hres
  have hbw := ((Below.refl w.heap.size w).alloc (Nat.le_refl _) (.cells #[.string ⟨#[105, 101, 115]⟩, .string ⟨#[115, 115, 101, 115]⟩, .string ⟨#[110, 101, 115, 115]⟩, .string ⟨#[109, 101, 110, 116]⟩, .string ⟨#[105, 110, 103]⟩, .string ⟨#[101, 100, 108, 121]⟩, .string ⟨#[101, 100]⟩, .string ⟨#[108, 121]⟩, .string ⟨#[115]⟩, .string ⟨#[121]⟩] 9)).alloc (by simp) (.cells #[.string ⟨#[105]⟩, .string ⟨#[115, 115]⟩, .string ⟨#[]⟩, .string ⟨#[]⟩, .string ⟨#[]⟩, .string ⟨#[]⟩, .string ⟨#[]⟩, .string ⟨#[]⟩, .string ⟨#[]⟩, .string ⟨#[105]⟩] 9)
  have kA := (Blk.new w 9 #[.string ⟨#[105, 101, 115]⟩, .string ⟨#[115, 115, 101, 115]⟩, .string ⟨#[110, 101, 115, 115]⟩, .string ⟨#[109, 101, 110, 116]⟩, .string ⟨#[105, 110, 103]⟩, .string ⟨#[101, 100, 108, 121]⟩, .string ⟨#[101, 100]⟩, .string ⟨#[108, 121]⟩, .string ⟨#[115]⟩, .string ⟨#[121]⟩]).alloc (.cells #[.string ⟨#[105]⟩, .string ⟨#[115, 115]⟩, .string ⟨#[]⟩, .string ⟨#[]⟩, .string ⟨#[]⟩, .string ⟨#[]⟩, .string ⟨#[]⟩, .string ⟨#[]⟩, .string ⟨#[]⟩, .string ⟨#[105]⟩] 9)
  have kB := Blk.new (w.alloc (.cells #[.string ⟨#[105, 101, 115]⟩, .string ⟨#[115, 115, 101, 115]⟩, .string ⟨#[110, 101, 115, 115]⟩, .string ⟨#[109, 101, 110, 116]⟩, .string ⟨#[105, 110, 103]⟩, .string ⟨#[101, 100, 108, 121]⟩, .string ⟨#[101, 100]⟩, .string ⟨#[108, 121]⟩, .string ⟨#[115]⟩, .string ⟨#[121]⟩] 9)) 9 #[.string ⟨#[105]⟩, .string ⟨#[115, 115]⟩, .string ⟨#[]⟩, .string ⟨#[]⟩, .string ⟨#[]⟩, .string ⟨#[]⟩, .string ⟨#[]⟩, .string ⟨#[]⟩, .string ⟨#[]⟩, .string ⟨#[105]⟩]
  rw [show ∀ o, (w.alloc o).heap.size = w.heap.size + 1 from fun o => by simp] at kB
  go_enter Tryz.func56, Tryz.ntmps56
  go_wp2_with fail
  generalize hw1 : (w.alloc _).alloc _ = w1 at hbw kA kB ⊢
  have Hw1 := Lib.hid hw1; clear hw1
  go_loopw [5] (fun i wr => ∃ k : Nat, k ≤ 10 ∧ i = .int .i64 k ∧ Hid (Sm.stepOf (Sm.rules.drop k) s = res) ∧ Below w1.heap.size w1 wr) (fun i _ => 10 - (intOf i).toNat)
  case atStart => exact ⟨0, Nat.zero_le _, rfl, Lib.hid Hres.out, Below.refl _ _⟩
  case round =>
    obtain ⟨k, hk, rfl, hst, hb⟩ := hrel
    by_cases hlt : k < 10
    · obtain ⟨r, hdr, c0, c1, hbars, hto, hen, hen1⟩ := ref_cells (kA.ext hb) (kB.ext hb) k hlt
      have hall := hbw.trans (hb.mono hbw.size)
      have hres : res = if Sm.fits r s then Sm.cut r s else Sm.stepOf (Sm.rules.drop (k + 1)) s := by rw [← hst.out, hdr, Sm.stepOf]
      have Hr := Lib.hid hres; have Hst := hst
      clear hres hdr kA kB
      have hi : IntKind.i64.wrap ((s.length : Int) - (r.ending.length : Int)) = (s.length : Int) - (r.ending.length : Int) := IntWalk.i64_in _ (by omega)
      have hk0 : (0 : Int) ≤ (k : Int) := by omega
      have hk1 : (k : Int) < 10 := by omega
      have hen2 : (r.ending.length : Int) ≤ 10 := by omega
      have ends := fun (x : Str) (W : World) => ends_ok s x (by unfold maxLen; omega) W
      have Ends := Lib.hid ends
      clear ends
      by_cases h3 : r.ending.length + 3 ≤ s.length
      · have hd3 : decide ((s.length : Int) - (r.ending.length : Int) < 3) = false := by simp; omega
        have hc := Ends.out r.ending wr
        cases hsu : Lib.hasSuffix s r.ending with
        | false =>
          rw [hsu] at hc
          have Hc := Lib.hid hc
          have hf : Sm.fits r s = false := by simp [Sm.fits, hsu]
          rw [hf] at Hr
          clear hc hf hsu
          go_wp2_with fail
          refine Hc.out.mono ?_
          rintro e w2 ⟨rfl, rfl⟩
          go_wp2
          go_roundw
          case rel => exact ⟨k + 1, by omega, by go_num, Lib.hid (by rw [Hr.out]; rfl), hb⟩
          case measure => simp [intOf]; omega
        | true =>
          rw [hsu] at hc
          have Hc := Lib.hid hc
          have hf : Sm.fits r s = !r.bars.any (Lib.hasSuffix s) := by simp [Sm.fits, hsu, h3]
          rw [hf] at Hr
          clear hc hf
          rcases hbars with ⟨hk8, hb0⟩ | ⟨hk8, hb0⟩
          · have he8 : ((k : Int) == 8) = false := by simp; omega
            have hr2 : res = s.take (s.length - r.ending.length) ++ r.to := by rw [Hr.out, hb0]; rfl
            have Hr2 := Lib.hid hr2; have Hsu := Lib.hid hsu
            clear hr2 Hr hb0 hsu
            have hn : ((s.length : Int) - (r.ending.length : Int)).toNat = s.length - r.ending.length := by omega
            have hn0 : (0 : Int) ≤ (s.length : Int) - (r.ending.length : Int) := by omega
            have hn2 : (r.ending.length : Int) ≤ (s.length : Int) := by omega
            have hn1 : (s.length : Int) - (r.ending.length : Int) ≤ (s.length : Int) := by omega
            have hcat : ((s.take (s.length - r.ending.length)).length + r.to.length ≤ 9223372036854775807) = True := by simp; omega
            have hcat2 : (min (s.length - r.ending.length) s.length + r.to.length ≤ 9223372036854775807) = True := by simp; omega
            go_wp2_with fail
            refine Hc.out.mono ?_
            rintro e w2 ⟨rfl, rfl⟩
            go_wp2
            go_quiet (fail)
            go_wp2
            go_ret
            exact ⟨ret_str (by rw [Hr2.out]), hall.trans (below_drewN' _ _ _)⟩
          · subst hk8
            rw [hb0, three_bars] at Hr
            clear hb0
            have Hsu := Lib.hid hsu
            clear hsu
            have c1 := Ends.out [115, 115] wr
            have c2 := Ends.out [117, 115] wr
            have c3 := Ends.out [105, 115] wr
            have hn : ((s.length : Int) - (r.ending.length : Int)).toNat = s.length - r.ending.length := by omega
            have hn0 : (0 : Int) ≤ (s.length : Int) - (r.ending.length : Int) := by omega
            have hn2 : (r.ending.length : Int) ≤ (s.length : Int) := by omega
            have hn1 : (s.length : Int) - (r.ending.length : Int) ≤ (s.length : Int) := by omega
            have hcat2 : (min (s.length - r.ending.length) s.length + r.to.length ≤ 9223372036854775807) = True := by simp; omega
            have hcat : (s.length - r.ending.length + r.to.length ≤ 9223372036854775807) = True := by simp; omega
            cases b1 : Lib.hasSuffix s [115, 115]
            all_goals cases b2 : Lib.hasSuffix s [117, 115]
            all_goals cases b3 : Lib.hasSuffix s [105, 115]
            all_goals
              rw [b1] at c1 Hr
              rw [b2] at c2 Hr
              rw [b3] at c3 Hr
              have C1 := Lib.hid c1; have C2 := Lib.hid c2; have C3 := Lib.hid c3
              clear c1 c2 c3 b1 b2 b3
              go_wp2_with fail
              refine Hc.out.mono ?_
              rintro e w2 ⟨rfl, rfl⟩
              go_wp2_with fail
              refine C1.out.mono ?_
              rintro e w2 ⟨rfl, rfl⟩
              try (go_wp2_with fail; refine C2.out.mono ?_; rintro e w2 ⟨rfl, rfl⟩)
              try (go_wp2_with fail; refine C3.out.mono ?_; rintro e w2 ⟨rfl, rfl⟩)
              go_wp2
            all_goals first
              | (go_roundw
                 case rel => exact ⟨8 + 1, by omega, by go_num, Lib.hid (by rw [Hr.out]; rfl), hb⟩
                 case measure => decide)
              | (go_quiet (fail)
                 go_wp2
                 go_ret
                 exact ⟨ret_str (by rw [Hr.out]; rfl), hall.trans (below_drewN' _ _ _)⟩)
      · have hf : Sm.fits r s = false := by simp [Sm.fits, h3]
        rw [hf] at Hr
        clear hf
        have hd3 : decide ((s.length : Int) - (r.ending.length : Int) < 3) = true := decide_eq_true (by omega)
        go_wp2
        go_roundw
        case rel => exact ⟨k + 1, by omega, by go_num, Lib.hid (by rw [Hr.out]; rfl), hb⟩
        case measure => simp [intOf]; omega
    · obtain rfl : k = 10 := by omega
      have htl : res = Sm.tail s := hst.out.symm
      have Htl := Lib.hid htl
      have hall := hbw.trans (hb.mono hbw.size)
      clear htl hst kA kB hbw hb
      have hi0 : IntKind.i64.wrap ((s.length : Int) - 1) = (s.length : Int) - 1 := IntWalk.i64_in _ (by omega)
      by_cases h4 : 4 ≤ s.length
      · have hd4 : decide (3 ≤ (s.length : Int) - 1) = true := by simp; omega
        have hi2 : IntKind.i64.wrap ((s.length : Int) - 1 - 1) = (s.length : Int) - 2 := (IntWalk.i64_in _ (by omega)).trans (by omega)
        have hk1 : (1 : Int) ≤ (s.length : Int) := by omega
        have hk2 : (2 : Int) ≤ (s.length : Int) := by omega
        have hk3 : 1 ≤ s.length := by omega
        have hk4 : 2 ≤ s.length := by omega
        have hj3 : (s.length : Int) - 1 < (s.length : Int) := by omega
        have hj4 : (s.length : Int) - 2 < (s.length : Int) := by omega
        have hj5 : (s.length : Int) - 1 ≤ (s.length : Int) := by omega
        have hk0 : (0 : Int) ≤ (s.length : Int) - 1 := by omega
        have hk6 : (0 : Int) ≤ (s.length : Int) - 2 := by omega
        obtain ⟨x, hx⟩ : ∃ x, s[s.length - 1] = x := ⟨_, rfl⟩
        obtain ⟨y, hy⟩ : ∃ y, s[s.length - 2] = y := ⟨_, rfl⟩
        have htw := Sm.twice_of (s := s) h4 hx hy
        cases ht : ((x.toNat : Int) == (y.toNat : Int)) with
        | false =>
          have hxy : (x == y) = false := by
            rw [beq_eq_false_iff_ne] at ht ⊢
            exact fun e => ht (by rw [e])
          have hq : Sm.tail s = s := by rw [Sm.tail, htw, hxy]; rfl
          have Hq := Lib.hid hq
          clear hq htw hxy
          go_wp2
          go_quiet (fail)
          go_wp2
          go_ret
          exact ⟨ret_str (by rw [Htl.out, Hq.out]), hall.trans (below_drewN' _ _ _)⟩
        | true =>
          have hxy : (x == y) = true := by
            rw [beq_iff_eq] at ht ⊢
            exact UInt8.toNat_inj.1 (by omega)
          rw [hxy] at htw
          cases hv : (Sm.vowels.any (· == x)) with
          | true =>
            have hq : Sm.tail s = s := by rw [Sm.tail, htw, hv]; rfl
            have Hq := Lib.hid hq
            clear hq htw hxy
            simp only [Sm.vowels, List.any_cons, List.any_nil, Bool.or_eq_true, beq_iff_eq, Bool.or_false] at hv
            rcases hv with h | h | h | h | h | h | h | h
            all_goals
              subst h
              first
                | (have ht2 : ((97 : Int) == (y.toNat : Int)) = true := ht)
                | (have ht2 : ((101 : Int) == (y.toNat : Int)) = true := ht)
                | (have ht2 : ((105 : Int) == (y.toNat : Int)) = true := ht)
                | (have ht2 : ((111 : Int) == (y.toNat : Int)) = true := ht)
                | (have ht2 : ((117 : Int) == (y.toNat : Int)) = true := ht)
                | (have ht2 : ((108 : Int) == (y.toNat : Int)) = true := ht)
                | (have ht2 : ((115 : Int) == (y.toNat : Int)) = true := ht)
                | (have ht2 : ((122 : Int) == (y.toNat : Int)) = true := ht)
              clear ht
              go_wp2
              go_quiet (fail)
              go_wp2
              go_ret
              exact ⟨ret_str (by rw [Htl.out, Hq.out]), hall.trans (below_drewN' _ _ _)⟩
          | false =>
            have hq : Sm.tail s = s.take (s.length - 1) := by rw [Sm.tail, htw, hv]; rfl
            have Hq := Lib.hid hq
            clear hq htw hxy
            simp only [Sm.vowels, List.any_cons, List.any_nil, Bool.or_eq_false_iff, beq_eq_false_iff_ne, Bool.or_false] at hv
            have vne : ∀ n : Nat, n < 256 → UInt8.ofNat n ≠ x → ((x.toNat : Int) != (n : Int)) = true := by
              intro n hn h
              rw [bne_iff_ne]
              intro e
              exact h (UInt8.toNat_inj.1 (by simp; omega))
            have v1 : ((x.toNat : Int) != 97) = true := vne 97 (by omega) hv.1
            have v2 : ((x.toNat : Int) != 101) = true := vne 101 (by omega) hv.2.1
            have v3 : ((x.toNat : Int) != 105) = true := vne 105 (by omega) hv.2.2.1
            have v4 : ((x.toNat : Int) != 111) = true := vne 111 (by omega) hv.2.2.2.1
            have v5 : ((x.toNat : Int) != 117) = true := vne 117 (by omega) hv.2.2.2.2.1
            have v6 : ((x.toNat : Int) != 108) = true := vne 108 (by omega) hv.2.2.2.2.2.1
            have v7 : ((x.toNat : Int) != 115) = true := vne 115 (by omega) hv.2.2.2.2.2.2.1
            have v8 : ((x.toNat : Int) != 122) = true := vne 122 (by omega) hv.2.2.2.2.2.2.2
            clear vne hv
            go_wp2
            go_quiet (fail)
            go_wp2
            go_ret
            exact ⟨ret_str (by rw [Htl.out, Hq.out]), hall.trans (below_drewN' _ _ _)⟩
      · have hd4 : decide (3 ≤ (s.length : Int) - 1) = false := by simp; omega
        have hq : Sm.tail s = s := by simp [Sm.tail, Sm.twice, h4]
        have Hq := Lib.hid hq
        clear hq
        go_wp2
        go_quiet (fail)
        go_wp2
        go_ret
        exact ⟨ret_str (by rw [Htl.out, Hq.out]), hall.trans (below_drewN' _ _ _)⟩
end Go.Proofs.YtngdfjlodblagaaGreatDoor
/-
  The reference's Stem.
-/
namespace Go.Proofs.YtngdfjlodblagaaGreatDoor
open Go.RowKit
set_option linter.unusedVariables false
set_option maxHeartbeats 1000000 in
theorem stem_ok : ∀ (n : Nat) (s : Str) (hm : Sm.mu s ≤ n) (hs : s.length ≤ maxLen) (w : World), Calls Tryz.prog 20 #[.string (bs s)] w fun e w' => e = .returned (.string (bs (Sm.stem s))) ∧ Below w.heap.size w w' := by
  intro n
  induction n with
  | zero =>
    intro s hm hs w
    have h0 : s = [] := by
      unfold Sm.mu at hm
      exact List.eq_nil_of_length_eq_zero (by omega)
    subst h0
    have hl := letters_ok [] hs w
    have hc := rstep_ok [] w hs
    have e1 : Sm.letters [] = true := rfl
    have e2 : Sm.step [] = [] := rfl
    have e3 : Sm.stem [] = [] := rfl
    rw [e1] at hl
    rw [e2] at hc
    rw [e3]
    have Hl := Lib.hid hl; have Hc := Lib.hid hc
    clear hl hc e1 e2 e3
    go_enter Tryz.func20, Tryz.ntmps20
    go_wp2_with fail
    refine Hl.out.mono ?_
    rintro e w1 ⟨rfl, rfl⟩
    go_wp2_with fail
    refine Hc.out.mono ?_
    rintro e w1 ⟨rfl, hb⟩
    go_wp2
    go_ret
    exact ⟨rfl, hb⟩
  | succ n ih =>
    intro s hm hs w
    have hl := letters_ok s hs w
    unfold maxLen at hs
    cases hlt : Sm.letters s with
    | false =>
      rw [hlt] at hl
      have hq : Sm.stem s = s := by unfold Sm.stem; rw [if_neg]; rw [hlt]; simp
      have Hl := Lib.hid hl; have Hq := Lib.hid hq
      clear hl hq hlt ih
      go_enter Tryz.func20, Tryz.ntmps20
      go_wp2_with fail
      refine Hl.out.mono ?_
      rintro e w1 ⟨rfl, rfl⟩
      go_wp2
      go_ret
      exact ⟨ret_str (by rw [Hq.out]), Below.refl _ _⟩
    | true =>
      rw [hlt] at hl
      by_cases h6 : s.length ≤ 60
      · have hd : decide (60 < (s.length : Int)) = false := by simp; omega
        have hst := Sm.stem_step hlt h6
        have hc := rstep_ok s w (by unfold maxLen; omega)
        have hsl := Sm.step_len s
        obtain ⟨t, ht⟩ : ∃ t, Sm.step s = t := ⟨_, rfl⟩
        rw [ht] at hc hst hsl
        cases hq : (t == s) with
        | true =>
          have hfix : Sm.stem s = s := Sm.stem_fix (by rw [ht]; exact eq_of_beq hq)
          have Hl := Lib.hid hl; have Hc := Lib.hid hc; have Ht := Lib.hid ht; have Hst := Lib.hid hst; have Hf := Lib.hid hfix
          clear hl hc ht hst hlt ih hfix
          go_enter Tryz.func20, Tryz.ntmps20
          go_wp2_with fail
          refine Hl.out.mono ?_
          rintro e w1 ⟨rfl, rfl⟩
          go_wp2_with fail
          refine Hc.out.mono ?_
          rintro e w1 ⟨rfl, hb⟩
          go_wp2
          go_ret
          exact ⟨ret_str (by rw [Hf.out]), hb⟩
        | false =>
          have hne : Sm.step s ≠ s := by rw [ht]; intro e; rw [e] at hq; simp at hq
          have hmu : Sm.mu t < Sm.mu s := by rw [← ht]; exact Sm.step_mu hne
          have hrec := fun W => ih t (by omega) (by unfold maxLen; omega) W
          rw [hst] at hrec
          have Hl := Lib.hid hl; have Hc := Lib.hid hc; have Hrec := Lib.hid hrec
          clear hl hc ht hst hlt ih hne hrec
          go_enter Tryz.func20, Tryz.ntmps20
          go_wp2_with fail
          refine Hl.out.mono ?_
          rintro e w1 ⟨rfl, rfl⟩
          go_wp2_with fail
          refine Hc.out.mono ?_
          rintro e w1 ⟨rfl, hb⟩
          go_wp2_with fail
          refine (Hrec.out _).mono ?_
          rintro e w2 ⟨rfl, hb2⟩
          go_wp2
          go_ret
          exact ⟨rfl, below2 hb hb2⟩
      · have hd : decide (60 < (s.length : Int)) = true := by simp; omega
        have hq : Sm.stem s = s := by unfold Sm.stem; rw [if_neg]; omega
        have Hl := Lib.hid hl; have Hq := Lib.hid hq
        clear hl hq hlt ih
        go_enter Tryz.func20, Tryz.ntmps20
        go_wp2_with fail
        refine Hl.out.mono ?_
        rintro e w1 ⟨rfl, rfl⟩
        go_wp2
        go_ret
        exact ⟨ret_str (by rw [Hq.out]), Below.refl _ _⟩
end Go.Proofs.YtngdfjlodblagaaGreatDoor
/-
  The reference's Words and Stems.
-/
namespace Go.Proofs.YtngdfjlodblagaaGreatDoor
open Go.RowKit
set_option linter.unusedVariables false
theorem mem_le_sum : ∀ {l : List Nat} {x : Nat}, x ∈ l → x ≤ l.sum
  | _ :: _, _, .head _ => by simp
  | _ :: _, _, .tail _ h => by have := mem_le_sum h; simp only [List.sum_cons]; omega
theorem Sm.wordsFrom_len {n : Nat} {cur l : Str} {x : Str} (h : x ∈ Sm.wordsFrom cur l) (hn : cur.length + l.length ≤ n) : x.length ≤ n := by
  have h1 := (Sm.words_sum l.length cur l (Nat.le_refl _)).1
  have h2 : x.length ≤ ((Sm.wordsFrom cur l).map List.length).sum := mem_le_sum (List.mem_map_of_mem h)
  omega
set_option maxHeartbeats 4000000 in
theorem refWords_ok (s : Str) (hs : s.length ≤ 4000000) (w : World) (hT : TabsU w) : Calls Tryz.prog 32 #[.string (bs s)] w fun e w' => ∃ (A : Option Addr) (c : Nat) (L : List Str), e = .returned (.slice A L.length c) ∧ Hid (L = Sm.words s) ∧ Own strC M0 w' w.heap.size 9 (.slice A L.length c) L ∧ Below w.heap.size w w' := by
  have HT := Lib.hid hT
  clear hT
  obtain ⟨res, hres⟩ : ∃ r, Sm.words s = r := ⟨_, rfl⟩
  rw [hres]
  have Hres := Lib.hid hres
  clear hres
  go_enter Tryz.func32, Tryz.ntmps32
  go_wp2
  go_loopw [0, 3, 4] (fun t o c wr => ∃ (l cur : Str) (A : Option Addr) (cp : Nat) (L : List Str), t = .string (bs l) ∧ c = .string (bs cur) ∧ o = .slice A L.length cp ∧ cur.length + l.length ≤ s.length ∧ L.length + cur.length + l.length ≤ s.length ∧
      Hid (L ++ (Sm.wordsFrom cur l).map Sm.lower = res) ∧ Own strC M0 wr w.heap.size 9 (.slice A L.length cp) L ∧ Below w.heap.size w wr) (fun t _ _ _ => (strOf t).length)
  case atStart => exact ⟨s, [], none, 0, [], rfl, rfl, rfl, by simp, by simp, Lib.hid (by rw [← Hres.out]; rfl), Own.nil _ _ _ _ _, Below.refl _ _⟩
  case round =>
    obtain ⟨l, cur, A, cp, L, rfl, rfl, rfl, hl, hLl, hL, hown, hb⟩ := hrel
    by_cases hne : l = []
    · subst hne
      have hst := Sm.wordsFrom_nil cur
      have Hst := Lib.hid hst
      clear hst
      by_cases hc : cur = []
      · subst hc
        have hr : res = L := by rw [← hL.out, Hst.out]; simp
        have Hr := Lib.hid hr
        clear hr
        go_wp2
        go_ret
        exact ⟨A, cp, L, rfl, Lib.hid Hr.out.symm, hown, hb⟩
      · simp only [List.length_nil, Nat.add_zero] at hl hLl
        have hce : cur.isEmpty = false := by simpa using hc
        have hce2 : (cur == []) = false := by simpa using hc
        have hcl : 1 ≤ cur.length := List.length_pos_iff.2 hc
        have hll := Sm.lower_len cur.length cur (Nat.le_refl _)
        have hlw := refLower_ok cur (by omega) wr (HT.out.ext hb)
        obtain ⟨lw, hlw2⟩ : ∃ x, Sm.lower cur = x := ⟨_, rfl⟩
        rw [hlw2] at hlw hll
        have Hlw := Lib.hid hlw; have Hlw2 := Lib.hid hlw2; have Hc := Lib.hid hc
        clear hlw hlw2 hc
        go_wp2_with fail
        refine Hlw.out.mono ?_
        rintro e w3 ⟨rfl, hb3⟩
        have hown3 := hown.ext hb3
        have hbw3 := below2 hb hb3
        have hsz := hbw3.size
        clear Hlw hown hb3
        go_wp2_with (at_builtin; refine wpList_push_Own strC (M := M0) (B := w.heap.size) TStrs rfl (.tmp 34) (.tmp 37) rfl rfl hown3 rfl (cs := [.string (bs lw)]) (y := lw) ⟨rfl, by unfold maxLen; omega⟩ (fun _ h => h.elim) ?pb1 ?pb2 hsz ?_)
        case pb1 => simp only [maxLen]; omega
        case pb2 => omega
        intro A4 c4 L4 w4 hL4 hown4 hb4 _ _
        have hbw4 := hbw3.trans hb4
        have hlen4 : L4.length = L.length + 1 := by rw [hL4.out, List.length_append]; rfl
        clear hown3 hb4
        go_wp2
        go_ret
        exact ⟨A4, c4, L4, rfl, Lib.hid (by rw [← hL.out, Hst.out, if_neg Hc.out, hL4.out, ← Hlw2.out]; rfl), hown4, hbw4⟩
    · have hpos := List.length_pos_iff.2 hne
      have hst := Sm.wordsFrom_step (cur := cur) hne
      have hw1 := Lib.decodeL_width l
      have hw2 := Sm.width_le hne
      have hr := Lib.decodeL_rune l
      have hdec := Tryz.utf8_DecodeRuneInString (bs l) wr (HT.out.ext hb).u8
      have hdg : Lib.decodeGo (bs l) = Lib.decodeL l := by
        unfold Lib.decodeGo
        rw [if_neg (by rw [bs_size]; omega)]
        rfl
      rw [hdg] at hdec
      obtain ⟨r, hrr⟩ : ∃ r, (Lib.decodeL l).1 = r := ⟨_, rfl⟩
      obtain ⟨n, hnn⟩ : ∃ n, (Lib.decodeL l).2 = n := ⟨_, rfl⟩
      rw [hrr] at hst hr hdec
      rw [hnn] at hst hw1 hw2 hdec
      have hin := fun W hbb => inWord_ok r hr W ((HT.out.ext hb).ext hbb)
      obtain ⟨t, ht⟩ : ∃ t, Sm.isL r = t := ⟨_, rfl⟩
      rw [ht] at hin hst
      have Hdec := Lib.hid hdec; have Hin := Lib.hid hin; have Hst := Lib.hid hst
      clear hdec hin hst hdg hrr hnn ht
      have hd0 : decide ((0 : Int) < (l.length : Int)) = true := by simp; omega
      have hd1 : 0 < l.length := hpos
      have hn0 : (0 : Int) ≤ (n : Int) := by omega
      have hn1 : (n : Int) ≤ (l.length : Int) := by omega
      go_wp2_with fail
      refine Hdec.out.mono ?_
      rintro e w1 ⟨rfl, hb1⟩
      go_wp2_with fail
      refine (Hin.out w1 hb1).mono ?_
      rintro e w2 ⟨rfl, hb2⟩
      have hb12 := below2 hb1 hb2
      have hown2 := hown.ext hb12
      have hbw2 := below2 hb hb12
      clear hown hb1 hb2 hb12 hb
      cases t with
      | true =>
        have hcat : (cur.length + n ≤ 9223372036854775807) = True := by simp; omega
        have hmin : min n l.length = n := by omega
        go_wp2
        go_roundw
        case rel => exact ⟨l.drop n, cur ++ l.take n, A, cp, L, by rw [List.take_of_length_le (by rw [List.length_drop]; exact Nat.le_refl _)], rfl, rfl, by rw [List.length_append, List.length_take, List.length_drop]; omega, by rw [List.length_append, List.length_take, List.length_drop]; omega,
          Lib.hid (by rw [← hL.out, Hst.out]; rfl), hown2, hbw2⟩
        case measure => simp [strOf, bs]; omega
      | false =>
        by_cases hc : cur = []
        · subst hc
          go_wp2
          go_roundw
          case rel => exact ⟨l.drop n, [], A, cp, L, by rw [List.take_of_length_le (by rw [List.length_drop]; exact Nat.le_refl _)], rfl, rfl, by rw [List.length_drop]; simp at hl ⊢; omega, by rw [List.length_drop]; simp at hLl ⊢; omega,
            Lib.hid (by rw [← hL.out, Hst.out]; rfl), hown2, hbw2⟩
          case measure => simp [strOf, bs]; omega
        · have hce : cur.isEmpty = false := by simpa using hc
          have hce2 : (cur == []) = false := by simpa using hc
          have hcl : 1 ≤ cur.length := List.length_pos_iff.2 hc
          have hll := Sm.lower_len cur.length cur (Nat.le_refl _)
          have hlw := refLower_ok cur (by omega) w2 (HT.out.ext hbw2)
          obtain ⟨lw, hlw2⟩ : ∃ x, Sm.lower cur = x := ⟨_, rfl⟩
          rw [hlw2] at hlw hll
          have Hlw := Lib.hid hlw; have Hlw2 := Lib.hid hlw2; have Hc := Lib.hid hc
          clear hlw hlw2 hc
          go_wp2_with fail
          refine Hlw.out.mono ?_
          rintro e w3 ⟨rfl, hb3⟩
          have hown3 := hown2.ext hb3
          have hbw3 := below2 hbw2 hb3
          have hsz := hbw3.size
          clear Hlw hown2 hb3
          go_wp2_with (at_builtin; refine wpList_push_Own strC (M := M0) (B := w.heap.size) TStrs rfl (.tmp 24) (.tmp 27) rfl rfl hown3 rfl (cs := [.string (bs lw)]) (y := lw) ⟨rfl, by unfold maxLen; omega⟩ (fun _ h => h.elim) ?pa1 ?pa2 hsz ?_)
          case pa1 => simp only [maxLen]; omega
          case pa2 => omega
          intro A4 c4 L4 w4 hL4 hown4 hb4 _ _
          have hbw4 := hbw3.trans hb4
          have hlen4 : L4.length = L.length + 1 := by rw [hL4.out, List.length_append]; rfl
          clear hown3 hb4
          go_wp2
          go_roundw
          case rel => exact ⟨l.drop n, [], A4, c4, L4, by rw [List.take_of_length_le (by rw [List.length_drop]; exact Nat.le_refl _)], rfl, rfl, by rw [List.length_drop]; simp; omega, by rw [List.length_drop, hlen4]; simp; omega,
            Lib.hid (by rw [← hL.out, Hst.out, if_neg (by simp), if_neg Hc.out, hL4.out, ← Hlw2.out]; simp), hown4, hbw4⟩
          case measure => simp [strOf, bs]; omega
def mapTo {α : Type} (f : α → α) (l : List α) (k : Nat) : List α := (l.take k).map f ++ l.drop k
theorem mapTo_len {α : Type} (f : α → α) (l : List α) (k : Nat) : (mapTo f l k).length = l.length := by simp [mapTo]; omega
theorem mapTo_zero {α : Type} (f : α → α) (l : List α) : mapTo f l 0 = l := by simp [mapTo]
theorem mapTo_all {α : Type} (f : α → α) (l : List α) : mapTo f l l.length = l.map f := by simp [mapTo]
theorem mapTo_get {α : Type} (f : α → α) (l : List α) (k : Nat) (hk : k < l.length) : (mapTo f l k)[k]'(by rw [mapTo_len]; exact hk) = l[k] := by
  unfold mapTo
  rw [List.getElem_append_right (by simp; omega)]
  simp [Nat.min_eq_left (Nat.le_of_lt hk)]
theorem mapTo_succ {α : Type} (f : α → α) (l : List α) (k : Nat) (hk : k < l.length) : mapTo f l (k + 1) = (mapTo f l k).set k (f l[k]) := by
  unfold mapTo
  have hl : ((l.take k).map f).length = k := by rw [List.length_map, List.length_take]; omega
  rw [List.drop_eq_getElem_cons hk, List.take_succ_eq_append_getElem hk, List.set_append, hl, if_neg (Nat.lt_irrefl k), Nat.sub_self, List.set_cons_zero, List.map_append, List.append_assoc]
  rfl
set_option maxHeartbeats 2000000 in
theorem refStems_ok (s : Str) (hs : s.length ≤ 4000000) (w : World) (hT : TabsU w) : Calls Tryz.prog 52 #[.string (bs s)] w fun e w' => ∃ (A : Option Addr) (c : Nat) (L : List Str), e = .returned (.slice A L.length c) ∧ Hid (L = Sm.stems s) ∧ Own strC M0 w' w.heap.size 9 (.slice A L.length c) L ∧ Below w.heap.size w w' := by
  have hw := refWords_ok s hs w hT
  have Hw := Lib.hid hw
  clear hw hT
  go_enter Tryz.func52, Tryz.ntmps52
  go_wp2_with fail
  refine Hw.out.mono ?_
  rintro e w1 ⟨A, c, L, rfl, hL, hown1, hb1⟩
  clear Hw
  go_wp2
  go_loopw [4] (fun i wr => ∃ (k : Nat) (Lk : List Str), i = .int .i64 k ∧ k ≤ L.length ∧ Hid (Lk = mapTo Sm.stem L k) ∧ Hid (Lk.length = L.length) ∧ Own strC M0 wr w.heap.size 9 (.slice A L.length c) Lk ∧ Below w.heap.size w wr) (fun i _ => L.length - (intOf i).toNat)
  case atStart => exact ⟨0, L, rfl, Nat.zero_le _, Lib.hid (mapTo_zero _ _).symm, Lib.hid rfl, hown1, hb1⟩
  case round =>
    obtain ⟨k, Lk, rfl, hk, hLk, hlen, hown, hb⟩ := hrel
    by_cases hlt : k < L.length
    · have hkl : k < Lk.length := by rw [hlen.out]; exact hlt
      obtain ⟨g, c', cur, hv, hlc, hcm, hBg, hblk, hcs⟩ := hown.blk (by omega)
      injection hv with hv1 hv2 hv3
      subst hv1 hv3
      obtain ⟨b, off, he, _, _, hcell, hel⟩ := hown.read0.strAt hkl
      injection he with he
      injection he with he1 he2
      subst he1 he2
      rw [Nat.zero_add] at hcell
      obtain ⟨x, hx⟩ : ∃ x, Lk[k] = x := ⟨_, rfl⟩
      rw [hx] at hcell hel
      have hxl : L[k] = x := by
        rw [← hx, ← mapTo_get Sm.stem L k hlt]
        congr 1
        exact hLk.out.symm
      have hc := fun W => stem_ok (Sm.mu x) x (Nat.le_refl _) hel W
      obtain ⟨y, hy⟩ : ∃ y, Sm.stem x = y := ⟨_, rfl⟩
      rw [hy] at hc
      have hyl : y.length ≤ x.length := by rw [← hy]; exact Sm.stem_len x
      have hset : mapTo Sm.stem L (k + 1) = Lk.set k y := by rw [mapTo_succ Sm.stem L k hlt, hxl, hy, hLk.out]
      have Hc := Lib.hid hc; have Hset := Lib.hid hset
      have hfz := hblk.frozen k
      have hbk := Lib.hid hblk
      unfold maxLen at hcm hel
      have hcn : L.length ≤ c := by rw [hv2]; exact hlc
      clear hc hset hx hxl hy hlc hcs hblk hv2
      go_wp2_with fail
      refine (Hc.out _).mono ?_
      rintro e w2 ⟨rfl, hb2⟩
      clear Hc
      have hfz2 := (hbk.out.ext hb2).frozen k
      have hlt2 := (hbk.out.ext hb2).lt
      have hown2 := hown.ext hb2
      have hc2 : w2.cell? ⟨g, k, none⟩ = some (.string (bs x)) := (hb2.cell (p := ⟨g, k, none⟩) (by exact hbk.out.lt)).trans hcell
      have hbw2 := below2 hb hb2
      have hput := hown2.put1 rfl hkl (u := .string (bs y)) (a := y) ⟨rfl, by unfold maxLen; omega⟩
      clear hcell hfz hown hb hb2 hown2
      go_wp2
      go_roundw
      case rel => exact ⟨k + 1, Lk.set k y, by go_num, by omega, Lib.hid Hset.out.symm, Lib.hid (by rw [List.length_set, hlen.out]), hput, hbw2.setCell (p := ⟨g, k, none⟩) hBg _⟩
      case measure => simp [intOf]; omega
    · have he : k = L.length := by omega
      have hres : Lk = Sm.stems s := by rw [hLk.out, he, mapTo_all, hL.out]; rfl
      have hlk := hlen.out
      rw [← hlk] at hown
      have Hres := Lib.hid hres
      clear hres he
      go_wp2
      go_ret
      refine ⟨A, c, Lk, ?_, Hres, hown, hb⟩
      rw [hlk]; rfl
end Go.Proofs.YtngdfjlodblagaaGreatDoor
/-
  stem.Words.
-/
namespace Go.Proofs.YtngdfjlodblagaaGreatDoor
open Go.RowKit
set_option linter.unusedVariables false
theorem Own.weak {α : Type} {C : Codec α} {M M' : Nat → Prop} {w : World} {B B' : Nat} {e : TypeId} {v : Value} {l : List α} (h : Own C M w B e v l) (hB : B' ≤ B) (hM : ∀ b, M' b → M b) : Own C M' w B' e v l := by
  obtain ⟨xs, ho, he⟩ := h
  refine ⟨xs, ⟨ho.1, ?_⟩, he.sub fun b _ hb => hb.imp (hM b) id⟩
  rcases ho.2 with hn | ⟨g, cap, cur, rfl, hb, rest⟩
  · exact .inl hn
  · exact .inr ⟨g, cap, cur, rfl, Nat.le_trans hB hb, rest⟩
theorem len_le_sum : ∀ {l : List Nat}, (∀ x ∈ l, 0 < x) → l.length ≤ l.sum
  | [], _ => Nat.le_refl _
  | x :: l, h => by
    have h1 := len_le_sum (l := l) fun y hy => h y (.tail _ hy)
    have h2 := h x (.head _)
    simp only [List.length_cons, List.sum_cons]
    omega
theorem words0_ok (s : Str) (w : World) : Calls Tryz.prog 103 #[.string (bs s)] w fun e w' =>
    e = .returned (.func (.func 159) #[] #[.pointer (some ⟨w.heap.size, 0, none⟩), .pointer (some ⟨w.heap.size + 1, 0, none⟩)]) ∧ (w.alloc (.cells #[.string (bs s)] 9)).alloc (.cells #[.func (.func 132) #[] #[]] 105) = w' := by
  have hc : ∀ W, Calls Tryz.prog 131 #[.string (bs s), .func (.func 132) #[] #[]] W fun e w' =>
      e = .returned (.func (.func 159) #[] #[.pointer (some ⟨W.heap.size, 0, none⟩), .pointer (some ⟨W.heap.size + 1, 0, none⟩)]) ∧ (W.alloc (.cells #[.string (bs s)] 9)).alloc (.cells #[.func (.func 132) #[] #[]] 105) = w' := by
    intro W
    go_enter Tryz.func131, Tryz.ntmps131
    go_wp2
    go_ret
    simp
  have Hc := Lib.hid hc
  clear hc
  go_enter Tryz.func103, Tryz.ntmps103
  go_wp2_with fail
  refine (Hc.out w).mono ?_
  rintro e w1 ⟨rfl, rfl⟩
  go_wp2
  go_ret
  simp
theorem stemWords_long (s : Str) (hs : 4000 < s.length) (w : World) : Calls Tryz.prog 68 #[.string (bs s)] w fun e w' => e = .returned (.tuple #[.slice none 0 0, .agg #[.int .i64 1, .int .i64 (-1)]]) ∧ Below w.heap.size w w' := by
  have hd : decide ((4000 : Int) < (s.length : Int)) = true := by simp; omega
  have hfc := fun W => fault_ok 1 (-1) W
  have Hfc := Lib.hid hfc
  clear hfc
  refine calls_of_wp_marks Tryz.func68 rfl ?_
  simp only [Tryz.ntmps68, List.size_toArray, List.length_cons, List.length_nil, Nat.reduceAdd, Nat.reduceSub, Array.replicate_succ, Array.replicate_zero, List.push_toArray, List.append_toArray, List.nil_append, List.cons_append]
  go_wp2_with fail
  refine (Hfc.out _).mono ?_
  rintro e w1 ⟨rfl, hb⟩
  have k1 := (Blk.new w 27 #[.int .i64 0, .int .i64 0]).ext hb
  have hbw := below_alloc hb
  obtain ⟨c0, c1, z0, z1, hlt⟩ := k1.two
  go_wp2
  obtain ⟨e0, e1⟩ := k1.put2 (.int .i64 1) (.int .i64 (-1))
  refine bodyPostM_none (v := .tuple #[.slice none 0 0, .agg #[.int .i64 1, .int .i64 (-1)]]) (by simp [results, Tryz.results68, go_sem, e0, e1]) ⟨rfl, below_set2 hbw (Nat.le_refl _) _ _⟩
set_option maxHeartbeats 4000000 in
theorem stemWords_ok (s : Str) (hs : s.length ≤ 4000) (w : World) (hT : TabsU w) : Calls Tryz.prog 68 #[.string (bs s)] w fun e w' => ∃ (A : Option Addr) (c : Nat) (L : List Str), e = .returned (.tuple #[.slice A L.length c, .agg #[.int .i64 0, .int .i64 0]]) ∧
    Hid (L = Sm.words s) ∧ Own strC M0 w' w.heap.size 9 (.slice A L.length c) L ∧ Below w.heap.size w w' := by
  have hd : decide ((4000 : Int) < (s.length : Int)) = false := by simp; omega
  have hwc := fun W => words0_ok s W
  have Hwc := Lib.hid hwc
  clear hwc
  refine calls_of_wp_marks Tryz.func68 rfl ?_
  simp only [Tryz.ntmps68, List.size_toArray, List.length_cons, List.length_nil, Nat.reduceAdd, Nat.reduceSub, Array.replicate_succ, Array.replicate_zero, List.push_toArray, List.append_toArray, List.nil_append, List.cons_append]
  go_wp2_with fail
  refine (Hwc.out _).mono ?_
  rintro e w1 ⟨rfl, hw1⟩
  have hbw1 : Below w.heap.size w w1 := by
    rw [← hw1]
    exact ((((Below.refl _ w).alloc (Nat.le_refl _) _).alloc (by simp) _).alloc (by simp; omega) _).alloc (by simp; omega) _
  have hs1 : w1.heap.size = w.heap.size + 4 := by rw [← hw1]; simp
  have k0 : Blk w1 w.heap.size 27 #[.int .i64 0, .int .i64 0] := hw1 ▸ (((Blk.new w _ _).alloc _).alloc _).alloc _
  have k1 : Blk w1 (w.heap.size + 1) 48 #[.slice none 0 0] := hw1 ▸ (by have := ((Blk.new (w.alloc (.cells #[.int .i64 0, .int .i64 0] 27)) 48 #[.slice none 0 0]).alloc (.cells #[.string (bs s)] 9)).alloc (.cells #[.func (.func 132) #[] #[]] 105); simpa using this)
  have k2 : Blk w1 (w.heap.size + 2) 9 #[.string (bs s)] := hw1 ▸ (by have := (Blk.new ((w.alloc (.cells #[.int .i64 0, .int .i64 0] 27)).alloc (.cells #[.slice none 0 0] 48)) 9 #[.string (bs s)]).alloc (.cells #[.func (.func 132) #[] #[]] 105); simpa using this)
  have k3 : Blk w1 (w.heap.size + 3) 105 #[.func (.func 132) #[] #[]] := hw1 ▸ (by have := Blk.new (((w.alloc (.cells #[.int .i64 0, .int .i64 0] 27)).alloc (.cells #[.slice none 0 0] 48)).alloc (.cells #[.string (bs s)] 9)) 105 #[.func (.func 132) #[] #[]]; simpa using this)
  clear hw1 Hwc
  have hlen : ∀ (k : Nat) (hk : k < (Sm.rawWords s).length), (Sm.rawWords s)[k].length ≤ 4000 := fun k hk => Sm.wordsFrom_len (n := 4000) (List.getElem_mem hk) (by simpa using hs)
  have hcnt : (Sm.rawWords s).length ≤ 4000 := by
    have h1 := Sm.words_sum s.length [] s (Nat.le_refl _)
    have h2 := len_le_sum (l := (Sm.rawWords s).map List.length) (fun x hx => by
      obtain ⟨y, hy, rfl⟩ := List.mem_map.1 hx
      exact List.length_pos_iff.2 (h1.2 y hy))
    rw [List.length_map] at h2
    have h3 := h1.1
    simp only [List.length_nil, Nat.zero_add] at h3
    unfold Sm.rawWords at h2 ⊢
    unfold Sm.wordsFrom at h3
    omega
  have HT := Lib.hid hT
  have Hlen := Lib.hid hlen
  clear hT hlen
  obtain ⟨g, hg⟩ : ∃ g, g = w.heap.size + 1 := ⟨_, rfl⟩
  have hs1' : w1.heap.size = g + 3 := by omega
  rw [← hg] at k1
  rw [show w.heap.size + 2 = g + 1 by omega] at k2
  rw [show w.heap.size + 3 = g + 2 by omega] at k3
  go_wp2
  rw [← hg]
  have hg1 : g ≤ w.heap.size + 1 := Nat.le_of_eq hg
  have hg2 : w.heap.size + 1 ≤ g := Nat.le_of_eq hg.symm
  clear hg
  have Hs1 := Lib.hid hs1
  have hs1a : w1.heap.size ≤ g + 3 := Nat.le_of_eq hs1'
  have hs1b : g + 3 ≤ w1.heap.size := Nat.le_of_eq hs1'.symm
  clear hs1 hs1'
  refine wp_rangeFunc_iter (ff_iter (g + 1) (g + 1 + 1) s (by omega)) rfl (enters_of Tryz.func159 (by kernel_rfl) rfl) (fun _ => rfl)
    (fun k S W => S g ∧ (∀ b, S b → b = g ∨ g + 3 ≤ b) ∧ Below w.heap.size w W ∧ Blk W w.heap.size 27 #[.int .i64 0, .int .i64 0] ∧ ∃ A' c' L, Hid (L = ((Sm.rawWords s).take k).map Sm.lower) ∧ Blk W g 48 #[.slice A' L.length c'] ∧ Own strC M0 W (g + 3) 9 (.slice A' L.length c') L ∧
      (∀ b, (Value.slice A' L.length c').ownBlock = some b → S b)) (fun _ _ _ _ => False) (fun b => b = g) ?_ ?_ ?_ (fun _ _ _ _ _ h _ => h)
    ⟨rfl, fun b hb => .inl hb, hbw1, k0, none, 0, [], Lib.hid (by simp), k1, Own.nil _ _ _ _ _, fun b hb => by simp [Value.ownBlock] at hb⟩
    (fun x => { tmps := #[.string (bs s), undef, .slice none 0 0, .pointer (some ⟨w.heap.size, 0, none⟩), .pointer (some ⟨g, 0, none⟩), .string (bs x), .string (bs s), .int .i64 s.length, .bool false, undef, .string (bs s),
      .func (.func 159) #[] #[.pointer (some ⟨g + 1, 0, none⟩), .pointer (some ⟨g + 1 + 1, 0, none⟩)], .string (bs x), undef, undef, undef, undef, undef, undef, undef], defers := [] }) ?_ ?_ ?_ ?_
  · rintro b rfl; omega
  · intro S' W hS' hbW
    refine ⟨k2.ext hbW, fun hb => by rcases hS' _ hb with h | h <;> omega, k3.ext hbW, fun hb => by rcases hS' _ hb with h | h <;> omega, w, HT.out, hbw1.trans (hbW.mono hbw1.size), fun b hb => by rcases hS' _ hb with h | h <;> omega⟩
  · rintro k S W W' ⟨h1, h2, h3, h0, A', c', L, hL, h4, h5, h6⟩ hkept
    refine ⟨h1, h2, hkept.below (by omega) h3 h3.size, h0.keep (hkept.same _ h0.lt (.inl (by omega))), A', c', L, hL, h4.keep (hkept.same _ h4.lt (.inr h1)), h5.flat (fun b hb => hkept.same b (h5.lt b hb) (.inr (h6 b hb))), h6⟩
  · intro l' x W K hK
    simp only [encW]
    gi_wp2_with (rw [Oper.semAt_eq _ _ _ (fun c h => by cases h)]; go_simp)
    exact hK
  · rintro l' k hk S W ⟨h1, h2, h3, h0, A', c', L, hL, h4, h5, h6⟩ hlt hsz
    obtain ⟨hc, hz, hb⟩ := h4.one
    have hrl := Hlen.out k hk
    obtain ⟨r, hr⟩ : ∃ r, r = (Sm.rawWords s)[k] := ⟨_, rfl⟩
    rw [← hr] at hrl ⊢
    have Hr := Lib.hid hr
    clear hr
    gi_wp2_with (rw [Oper.semAt_eq _ _ _ (fun c h => by cases h)]; go_simp)
    refine wpIn_region_D_round (fun W' => W'.cell? ⟨g, 0, none⟩ = some (.slice A' L.length c')) (fun j => j == 5) (by kernel_rfl) (by kernel_rfl) (fun hh => by obtain ⟨_, _, hh⟩ := hh; exact hh) ?_
    refine anyD_light (i := 0) (v := .slice A' L.length c') rfl (by kernel_rfl) (by kernel_rfl) (by kernel_rfl) (by kernel_rfl) (by kernel_rfl) (fun _ _ _ h => h) (.inl ⟨rfl, fun W' hW' => by simp [go_sem, hW', execOp]⟩) hc ?_
    refine anyD_light (i := 1) (v := .string (bs r)) rfl (by kernel_rfl) (by kernel_rfl) (by kernel_rfl) (by kernel_rfl) (by kernel_rfl) (fun _ _ _ h => h) (.inl ⟨rfl, fun W' hW' => by simp [go_sem, execOp]⟩) hc ?_
    refine anyD_one (i := 2) (by kernel_rfl) rfl rfl (fun K hK => ?_)
    have HK := Lib.hid hK
    clear hK
    unfold Oper.wp
    go_simp
    refine (stemLower_ok r (by omega) _ ((HT.out.ext h3).ext (below_drewN' _ _ 1))).mono ?_
    rintro e W1 ⟨rfl, hb1'⟩
    have h4' := (h4.drewN 1).ext hb1'
    refine HK.out _ _ (fun _ => h4'.one.1) ?_
    clear HK
    refine anyD_one (i := 3) (by kernel_rfl) rfl rfl (fun K hK => ?_)
    have HK := Lib.hid hK
    clear hK
    unfold Oper.wp
    go_simp
    refine HK.out _ _ (fun _ => (h4'.alloc _).one.1) ?_
    clear HK
    refine anyD_one (i := 4) (by kernel_rfl) rfl rfl (fun K hK => ?_)
    have HK := Lib.hid hK
    clear hK
    have hLk : L.length ≤ 4000 := by rw [hL.out, List.length_map, List.length_take]; omega
    have hll := Sm.lower_len r.length r (Nat.le_refl _)
    have hszW : W.heap.size ≤ W1.heap.size := hb1'.size
    have hown2 : Own strC M0 W1 (g + 3) 9 (.slice A' L.length c') L := (h5.ext (below_drewN' _ _ 1)).ext hb1'
    refine wp_push_Own strC (w := W1) (M := M0) (B := g + 3) (v := .slice A' L.length c') (l := L) (cs := [.string (bs (Sm.lower r))]) (y := Sm.lower r) TStrs (.tmp 13) (.tmp 16) rfl rfl hown2 rfl ⟨rfl, by unfold maxLen; omega⟩ (fun b hb => hb.elim) (by simp [maxLen]; omega) (by omega) (by omega) ?_
    intro A3 c3 L3 W3 hL3 hown3 hbl3 hgr3 hor3
    have hne : some g ≠ (Value.slice A' L.length c').ownBlock := fun e => by have := h5.base _ e.symm; omega
    have h43 := h4'.grown hgr3 hne
    obtain ⟨q0, q1, q2⟩ := h43.one
    refine HK.out _ _ (fun _ => q0) ?_
    clear HK
    refine anyD_one (i := 5) (by kernel_rfl) rfl rfl (fun K hK => ?_)
    have HK := Lib.hid hK
    clear hK
    unfold Oper.wp
    go_simp
    refine HK.out _ _ (fun h => by cases h) ?_
    clear HK
    refine anyD_done (by kernel_rfl) ?_ _
    have hs1 : W.heap.size ≤ W3.heap.size := Nat.le_trans hszW hbl3.size
    have hwsz := h3.size
    have hown4 : ∀ b, (Value.slice A3 L3.length c3).ownBlock = some b → (S b ∨ (W.heap.size ≤ b ∧ b < W3.heap.size)) ∧ b ≠ g := fun b ho => by
      refine ⟨?_, by have := hown3.base b ho; omega⟩
      rcases hor3 with e | e
      · exact .inl (h6 b (e ▸ ho))
      · have h7 := hown3.lt b ho
        rw [e] at ho; injection ho with ho
        exact .inr ⟨by omega, h7⟩
    refine ⟨fun b => S b ∨ (W.heap.size ≤ b ∧ b < W3.heap.size), ⟨hbl3.os.trans hb1'.os, hbl3.tape.trans hb1'.tape, hbl3.output.trans hb1'.output, by simpa using hs1, fun b hb1 hnS => ?_, fun b hb1 => ?_⟩, .inl h1, fun b hb1 => ?_, ?_, ?_, A3, c3, L3, ?_, ?_, ?_, fun b ho => (hown4 b ho).1⟩
    · refine (Below.heap_setCell _ _ _ _ fun e => hnS (by rw [e]; exact h1)).trans ((hgr3.block b (by omega) fun e => hnS (h6 b e.symm)).trans (hb1'.block b hb1))
    · rcases hb1 with h7 | h7
      · exact ⟨by have := hlt b h7; simp; omega, .inl h7⟩
      · exact ⟨by simp; omega, .inr h7.1⟩
    · rcases hb1 with h7 | h7
      · exact h2 b h7
      · exact .inr (by omega)
    · exact Below.setCell (p := ⟨g, 0, none⟩) (h3.trans (((below_drewN' _ W 1).trans (hb1'.mono (by show w.heap.size ≤ W.heap.size; omega)) : Below w.heap.size W W1).trans (hbl3.mono (by omega)))) (by show w.heap.size ≤ g; omega) _
    · refine ((h0.drewN 1).ext hb1').keep ((Below.heap_setCell _ _ _ _ (by show w.heap.size ≠ g; omega)).trans (hgr3.block _ (by have := h0.lt; omega) fun e => by have := h5.base _ e.symm; omega))
    · exact Lib.hid (by rw [hL3.out, hL.out, List.take_succ_eq_append_getElem hk, List.map_append, ← Hr.out]; rfl)
    · have := h43.set_ 0 (Value.slice A3 L3.length c3); simpa using this
    · exact hown3.flat fun b hb => Below.heap_setCell _ _ _ _ (hown4 b hb).2
  · rintro D S W hD hSD ⟨h1, h2, h3, h0, A', c', L, hL, h4, h5, h6⟩ hWD
    obtain ⟨hc, hz, hb⟩ := h4.one
    have hk9 := (h4.drewN 1)
    have k9 := (h0.drewN 1)
    have hne : ¬ w.heap.size = g := by omega
    have hne' : ¬ g = w.heap.size := by omega
    go_wp2
    go_region_held3 (fun W' => W'.cell? ⟨g, 0, none⟩ = some (.slice A' L.length c')) (first | exact hk9.one.1 | exact hk11.one.1 | exact hk12.one.1) (first
      | (go_at_call 40; refine (none_ok _).mono ?_; rintro e w6 ⟨rfl, hb6⟩; have hk11 := hk9.ext hb6; have k10 := k9.ext hb6; obtain ⟨c0, c1, z0, z1, s1⟩ := k10.two; have hk12 := (hk11.far (p := ⟨w.heap.size, 0, none⟩) hne' (.int .i64 0)).far (p := ⟨w.heap.size, 1, none⟩) hne' (.int .i64 0)))
    go_wp2
    have hLe : L = Sm.words s := by rw [hL.out, List.take_length]; rfl
    have hDlt : D < W.heap.size := (Array.getElem?_eq_some_iff.1 hWD).1
    have hb56 : Below W.heap.size W w6 := (below_drewN' _ W 1).trans hb6
    have hDw : D ≠ w.heap.size := by omega
    obtain ⟨W8, hW8⟩ : ∃ W8, W8 = (w6.setCell ⟨w.heap.size, 0, none⟩ (.int .i64 0)).setCell ⟨w.heap.size, 1, none⟩ (.int .i64 0) := ⟨_, rfl⟩
    have hfar : ∀ b, b ≠ w.heap.size → W8.heap[b]? = w6.heap[b]? := fun b hb1 => by
      rw [hW8]
      exact (Below.heap_setCell _ _ _ _ hb1).trans (Below.heap_setCell _ _ _ _ hb1)
    have k11 : Blk W8 w.heap.size 27 #[.int .i64 0, .int .i64 0] := by
      rw [hW8]
      simpa using (k10.set_ 0 (.int .i64 0)).set_ 1 (.int .i64 0)
    have hbW8 : Below w.heap.size w W8 := by
      rw [hW8]
      exact below_set2 (h3.trans (hb56.mono h3.size)) (Nat.le_refl _) _ _
    have hs8 : W8.heap.size = w6.heap.size := by rw [hW8]; simp
    rw [← hW8]
    clear hW8
    have k12 : Blk (W8.putObj D (.deferred none)) w.heap.size 27 #[.int .i64 0, .int .i64 0] := k11.keep (World.putObj_heap_other (fun e => hDw e.symm))
    obtain ⟨e0, e1, _⟩ := k12.two
    have hWD8 : W8.heap[D]? = some (.deferred (some [])) := (hfar D hDw).trans ((hb56.block D hDlt).trans hWD)
    have h10 : Own strC M0 (W8.putObj D (.deferred none)) w.heap.size 9 (.slice A' L.length c') L := by
      have h11 : Own strC M0 (W8.putObj D (.deferred none)) (g + 3) 9 (.slice A' L.length c') L := h5.flat fun b ho => by
        have hx := h5.base b ho
        have hxD : b ≠ D := fun e => hSD (e ▸ h6 b ho)
        exact (World.putObj_heap_other hxD).trans ((hfar b (by omega)).trans (hb56.block b (h5.lt b ho)))
      exact h11.weak (by omega) (fun _ h => h)
    exact bodyPostM_one hWD8 (v := .tuple #[.slice A' L.length c', .agg #[.int .i64 0, .int .i64 0]]) (by simp [results, Tryz.results68, go_sem, e0, e1]) ⟨A', c', L, rfl, Lib.hid hLe, h10,
      ⟨hbW8.os, hbW8.tape, hbW8.output, by rw [World.putObj_size]; exact hbW8.size, fun k hk => (World.putObj_heap_other (by omega)).trans (hbW8.block k hk)⟩⟩
  · rintro D c' k S W _ _ h
    exact h.elim
end Go.Proofs.YtngdfjlodblagaaGreatDoor
/-
  stem.Stems.
-/
namespace Go.Proofs.YtngdfjlodblagaaGreatDoor
open Go.RowKit
set_option linter.unusedVariables false
set_option maxHeartbeats 4000000 in
theorem stems_any (s : Str) (L0 : List Str) (a b : Int) (w : World)
    (hw : ∀ W : World, Below w.heap.size w W → Calls Tryz.prog 68 #[.string (bs s)] W fun e w' => ∃ (A : Option Addr) (c : Nat) (L : List Str), e = .returned (.tuple #[.slice A L.length c, .agg #[.int .i64 a, .int .i64 b]]) ∧
      Hid (L = L0) ∧ Own strC M0 w' W.heap.size 9 (.slice A L.length c) L ∧ Below W.heap.size W w') :
    Calls Tryz.prog 34 #[.string (bs s)] w fun e w' => ∃ (A : Option Addr) (c : Nat) (L : List Str), e = .returned (.tuple #[.slice A L.length c, .agg #[.int .i64 a, .int .i64 b]]) ∧
      Hid (L = L0.map Sm.stem) ∧ Own strC M0 w' w.heap.size 9 (.slice A L.length c) L ∧ Below w.heap.size w w' := by
  have Hw := Lib.hid hw
  clear hw
  go_enter Tryz.func34, Tryz.ntmps34
  go_wp2_with fail
  refine (Hw.out _ ((Below.refl _ _).alloc (Nat.le_refl _) _)).mono ?_
  rintro e w1 ⟨A, c, L, rfl, hL, hown1, hb1⟩
  have hbw1 := below_alloc hb1
  have k0 := (Blk.new w 27 #[.int .i64 0, .int .i64 0]).ext hb1
  rw [World.size_alloc] at hown1
  have hs1 : w.heap.size + 1 ≤ w1.heap.size := by have := hb1.size; rw [World.size_alloc] at this; exact this
  clear hb1
  have k1 := Blk.new w1 27 #[.int .i64 a, .int .i64 b]
  have k0' := k0.alloc (.cells #[.int .i64 a, .int .i64 b] 27)
  have hown1' := hown1.ext ((Below.refl w1.heap.size w1).alloc (Nat.le_refl _) (.cells #[.int .i64 a, .int .i64 b] 27))
  have hbw1' := hbw1.alloc hbw1.size (.cells #[.int .i64 a, .int .i64 b] 27)
  have hlt1 := hown1.lt
  obtain ⟨F, hF⟩ : ∃ F, F = w1.heap.size := ⟨_, rfl⟩
  rw [← hF] at k1 hlt1 hs1
  clear hown1
  go_wp2
  rw [← hF]
  generalize w1.alloc (.cells #[.int .i64 a, .int .i64 b] 27) = w1a at k1 k0' hown1' hbw1' ⊢
  have HF := Lib.hid hF
  have Hlt1 := Lib.hid hlt1
  clear hF hbw1 k0 hlt1
  go_loopw [15] (fun i wr => ∃ (k : Nat) (Lk : List Str), i = .int .i64 k ∧ k ≤ L.length ∧ Hid (Lk = mapTo Sm.stem L k) ∧ Hid (Lk.length = L.length) ∧ Own strC M0 wr (w.heap.size + 1) 9 (.slice A L.length c) Lk ∧ Blk wr w.heap.size 27 #[.int .i64 0, .int .i64 0] ∧ Blk wr F 27 #[.int .i64 a, .int .i64 b] ∧ Below w.heap.size w wr) (fun i _ => L.length - (intOf i).toNat)
  case atStart => exact ⟨0, L, rfl, Nat.zero_le _, Lib.hid (mapTo_zero _ _).symm, Lib.hid rfl, hown1', k0', k1, hbw1'⟩
  case round =>
    obtain ⟨k, Lk, rfl, hk, hLk, hlen, hown, q0, q1, hb⟩ := hrel
    clear k0' k1 hown1' hbw1'
    by_cases hlt : k < L.length
    · have hkl : k < Lk.length := by rw [hlen.out]; exact hlt
      obtain ⟨g, c', cur, hv, hlc, hcm, hBg, hblk, hcs⟩ := hown.blk (by omega)
      injection hv with hv1 hv2 hv3
      subst hv1 hv3
      obtain ⟨b', off, he, _, _, hcell, hel⟩ := hown.read0.strAt hkl
      injection he with he
      injection he with he1 he2
      subst he1 he2
      rw [Nat.zero_add] at hcell
      obtain ⟨x, hx⟩ : ∃ x, Lk[k] = x := ⟨_, rfl⟩
      rw [hx] at hcell hel
      have hxl : L[k] = x := by
        rw [← hx, ← mapTo_get Sm.stem L k hlt]
        congr 1
        exact hLk.out.symm
      have hc := fun W => of_ok x hel W
      obtain ⟨y, hy⟩ : ∃ y, Sm.stem x = y := ⟨_, rfl⟩
      rw [hy] at hc
      have hyl : y.length ≤ x.length := by rw [← hy]; exact Sm.stem_len x
      have hset : mapTo Sm.stem L (k + 1) = Lk.set k y := by rw [mapTo_succ Sm.stem L k hlt, hxl, hy, hLk.out]
      have Hc := Lib.hid hc; have Hset := Lib.hid hset
      have hbk := Lib.hid hblk
      unfold maxLen at hcm hel
      have hcn : L.length ≤ c := by rw [hv2]; exact hlc
      have hgF : g < F := Hlt1.out g rfl
      clear hc hset hx hxl hy hlc hcs hblk hv2
      go_wp2_with fail
      refine (Hc.out _).mono ?_
      rintro e w2 ⟨rfl, hb2⟩
      clear Hc
      have hfz2 := (hbk.out.ext hb2).frozen k
      have hlt2 := (hbk.out.ext hb2).lt
      have hown2 := hown.ext hb2
      have hc2 : w2.cell? ⟨g, k, none⟩ = some (.string (bs x)) := (hb2.cell (p := ⟨g, k, none⟩) (by exact hbk.out.lt)).trans hcell
      have hbw2 := below2 hb hb2
      have hput := hown2.put1 rfl hkl (u := .string (bs y)) (a := y) ⟨rfl, by unfold maxLen; omega⟩
      have q0' := (q0.ext hb2).far (p := ⟨g, k, none⟩) (by show w.heap.size ≠ g; omega) (.string (bs y))
      have q1' := (q1.ext hb2).far (p := ⟨g, k, none⟩) (by show F ≠ g; omega) (.string (bs y))
      clear hcell hown hb hb2 hown2 q0 q1
      go_wp2
      go_roundw
      case rel => exact ⟨k + 1, Lk.set k y, by go_num, by omega, Lib.hid Hset.out.symm, Lib.hid (by rw [List.length_set, hlen.out]), hput, q0', q1', hbw2.setCell (p := ⟨g, k, none⟩) (by show w.heap.size ≤ g; omega) _⟩
      case measure => simp [intOf]; omega
    · have he : k = L.length := by omega
      have hres : Lk = L0.map Sm.stem := by rw [hLk.out, he, mapTo_all, hL.out]
      have hlk := hlen.out
      have Hres := Lib.hid hres
      have Hlk := Lib.hid hlk
      clear hres he hlk
      obtain ⟨c0, c1, z0, z1, s1⟩ := q0.two
      obtain ⟨d0, d1, y0, y1, s2⟩ := q1.two
      go_wp2
      go_region
      all_goals go_wp2
      obtain ⟨e0, e1⟩ := q0.put2 (.int .i64 a) (.int .i64 b)
      have hown8 : Own strC M0 ((wr.setCell ⟨w.heap.size, 0, none⟩ (.int .i64 a)).setCell ⟨w.heap.size, 1, none⟩ (.int .i64 b)).drew (w.heap.size + 1) 9 (.slice A L.length c) Lk := hown.flat fun b' hb' => by
        have := hown.base b' hb'
        exact (Below.heap_setCell _ _ _ _ (by show b' ≠ w.heap.size; omega)).trans (Below.heap_setCell _ _ _ _ (by show b' ≠ w.heap.size; omega))
      have hown9 := hown8.weak (B' := w.heap.size) (by omega) (M' := M0) (fun _ h => h)
      rw [← Hlk.out] at hown9
      refine bodyPost_ret (v := .tuple #[.slice A L.length c, .agg #[.int .i64 a, .int .i64 b]]) (by simp [results, Tryz.results34, go_sem, e0, e1]) rfl ⟨A, c, Lk, by rw [Hlk.out], Hres, hown9, below_drew (below_set2 hb (Nat.le_refl _) _ _)⟩
theorem stemStems_ok (s : Str) (hs : s.length ≤ 4000) (w : World) (hT : TabsU w) : Calls Tryz.prog 34 #[.string (bs s)] w fun e w' => ∃ (A : Option Addr) (c : Nat) (L : List Str), e = .returned (.tuple #[.slice A L.length c, .agg #[.int .i64 0, .int .i64 0]]) ∧
      Hid (L = Sm.stems s) ∧ Own strC M0 w' w.heap.size 9 (.slice A L.length c) L ∧ Below w.heap.size w w' :=
  stems_any s (Sm.words s) 0 0 w fun W hW => stemWords_ok s hs W (hT.ext hW)
theorem stemStems_long (s : Str) (hs : 4000 < s.length) (w : World) : Calls Tryz.prog 34 #[.string (bs s)] w fun e w' => ∃ (A : Option Addr) (c : Nat) (L : List Str), e = .returned (.tuple #[.slice A L.length c, .agg #[.int .i64 1, .int .i64 (-1)]]) ∧
      Hid (L = []) ∧ Own strC M0 w' w.heap.size 9 (.slice A L.length c) L ∧ Below w.heap.size w w' :=
  stems_any s [] 1 (-1) w fun W hW => (stemWords_long s hs W).mono fun e w' h => ⟨none, 0, [], h.1, Lib.hid rfl, Own.nil _ _ _ _ _, h.2⟩
end Go.Proofs.YtngdfjlodblagaaGreatDoor
