/-
  Contracts and plain facts, one after another: The reference's step (printed by gen/smref.py); The reference's Stem; The reference's Words and Stems; stem.Words.
-/
import Derived.Test.YtiohhajkegpebaaGreatDoorR4
import Derived.Test.YtiohhajkegpebaaGreatDoorR2
import Derived.Test.YtiohhajkegpebaaGreatDoorR3
namespace Go.Proofs.YtiohhajkegpebaaGreatDoor
open Go.RowKit
set_option linter.unusedVariables false
theorem ref_cells {w : World} {a b : Nat} (kA : Blk w a 9 #[.string ⟨#[105, 101, 115]⟩, .string ⟨#[115, 115, 101, 115]⟩, .string ⟨#[110, 101, 115, 115]⟩, .string ⟨#[109, 101, 110, 116]⟩, .string ⟨#[105, 110, 103]⟩, .string ⟨#[101, 100, 108, 121]⟩, .string ⟨#[101, 100]⟩, .string ⟨#[108, 121]⟩, .string ⟨#[115]⟩, .string ⟨#[121]⟩]) (kB : Blk w b 9 #[.string ⟨#[105]⟩, .string ⟨#[115, 115]⟩, .string ⟨#[]⟩, .string ⟨#[]⟩, .string ⟨#[]⟩, .string ⟨#[]⟩, .string ⟨#[]⟩, .string ⟨#[]⟩, .string ⟨#[]⟩, .string ⟨#[105]⟩]) (k : Nat) (hk : k < 10) : ∃ (r : Sm.Rule), Sm.rules.drop k = r :: Sm.rules.drop (k + 1) ∧
    w.cell? ⟨a, k, none⟩ = some (.string (bs r.ending)) ∧ w.cell? ⟨b, k, none⟩ = some (.string (bs r.to)) ∧
    (k ≠ 8 ∧ r.bars = [] ∨ k = 8 ∧ r.bars = [[115, 115], [117, 115], [105, 115]]) ∧ r.to.length ≤ r.ending.length ∧ r.ending.length ≤ 10 ∧ 1 ≤ r.ending.length := by
  match k, hk with
  | 0, _ => exact ⟨_, rfl, kA.cell 0, kB.cell 0, .inl ⟨by decide, rfl⟩, by decide, by decide, by decide⟩
  | 1, _ => exact ⟨_, rfl, kA.cell 1, kB.cell 1, .inl ⟨by decide, rfl⟩, by decide, by decide, by decide⟩
  | 2, _ => exact ⟨_, rfl, kA.cell 2, kB.cell 2, .inl ⟨by decide, rfl⟩, by decide, by decide, by decide⟩
  | 3, _ => exact ⟨_, rfl, kA.cell 3, kB.cell 3, .inl ⟨by decide, rfl⟩, by decide, by decide, by decide⟩
  | 4, _ => exact ⟨_, rfl, kA.cell 4, kB.cell 4, .inl ⟨by decide, rfl⟩, by decide, by decide, by decide⟩
  | 5, _ => exact ⟨_, rfl, kA.cell 5, kB.cell 5, .inl ⟨by decide, rfl⟩, by decide, by decide, by decide⟩
  | 6, _ => exact ⟨_, rfl, kA.cell 6, kB.cell 6, .inl ⟨by decide, rfl⟩, by decide, by decide, by decide⟩
  | 7, _ => exact ⟨_, rfl, kA.cell 7, kB.cell 7, .inl ⟨by decide, rfl⟩, by decide, by decide, by decide⟩
  | 8, _ => exact ⟨_, rfl, kA.cell 8, kB.cell 8, .inr ⟨rfl, rfl⟩, by decide, by decide, by decide⟩
  | 9, _ => exact ⟨_, rfl, kA.cell 9, kB.cell 9, .inl ⟨by decide, rfl⟩, by decide, by decide, by decide⟩
theorem three_bars (s : Str) : ([[115, 115], [117, 115], [105, 115]] : List Str).any (Lib.hasSuffix s) = (Lib.hasSuffix s [115, 115] || Lib.hasSuffix s [117, 115] || Lib.hasSuffix s [105, 115]) := by
  simp [Bool.or_assoc]
set_option maxRecDepth 100000 in
set_option maxHeartbeats 8000000 in
theorem rstep_ok (s : Str) (w : World) (hs : s.length ≤ maxLen) :
    Calls Tryz.prog 44 #[.string (bs s)] w fun e w' => e = .returned (.string (bs (Sm.step s))) ∧ Below w.heap.size w w' := by
  unfold maxLen at hs
  obtain ⟨res, hres⟩ : ∃ r, Sm.step s = r := ⟨_, rfl⟩
  rw [hres]
  have Hres := Lib.hid hres
  clear hres
  have hbw := ((Below.refl w.heap.size w).alloc (Nat.le_refl _) (.cells #[.string ⟨#[105, 101, 115]⟩, .string ⟨#[115, 115, 101, 115]⟩, .string ⟨#[110, 101, 115, 115]⟩, .string ⟨#[109, 101, 110, 116]⟩, .string ⟨#[105, 110, 103]⟩, .string ⟨#[101, 100, 108, 121]⟩, .string ⟨#[101, 100]⟩, .string ⟨#[108, 121]⟩, .string ⟨#[115]⟩, .string ⟨#[121]⟩] 9)).alloc (by simp) (.cells #[.string ⟨#[105]⟩, .string ⟨#[115, 115]⟩, .string ⟨#[]⟩, .string ⟨#[]⟩, .string ⟨#[]⟩, .string ⟨#[]⟩, .string ⟨#[]⟩, .string ⟨#[]⟩, .string ⟨#[]⟩, .string ⟨#[105]⟩] 9)
  have kA := (Blk.new w 9 #[.string ⟨#[105, 101, 115]⟩, .string ⟨#[115, 115, 101, 115]⟩, .string ⟨#[110, 101, 115, 115]⟩, .string ⟨#[109, 101, 110, 116]⟩, .string ⟨#[105, 110, 103]⟩, .string ⟨#[101, 100, 108, 121]⟩, .string ⟨#[101, 100]⟩, .string ⟨#[108, 121]⟩, .string ⟨#[115]⟩, .string ⟨#[121]⟩]).alloc (.cells #[.string ⟨#[105]⟩, .string ⟨#[115, 115]⟩, .string ⟨#[]⟩, .string ⟨#[]⟩, .string ⟨#[]⟩, .string ⟨#[]⟩, .string ⟨#[]⟩, .string ⟨#[]⟩, .string ⟨#[]⟩, .string ⟨#[105]⟩] 9)
  have kB := Blk.new (w.alloc (.cells #[.string ⟨#[105, 101, 115]⟩, .string ⟨#[115, 115, 101, 115]⟩, .string ⟨#[110, 101, 115, 115]⟩, .string ⟨#[109, 101, 110, 116]⟩, .string ⟨#[105, 110, 103]⟩, .string ⟨#[101, 100, 108, 121]⟩, .string ⟨#[101, 100]⟩, .string ⟨#[108, 121]⟩, .string ⟨#[115]⟩, .string ⟨#[121]⟩] 9)) 9 #[.string ⟨#[105]⟩, .string ⟨#[115, 115]⟩, .string ⟨#[]⟩, .string ⟨#[]⟩, .string ⟨#[]⟩, .string ⟨#[]⟩, .string ⟨#[]⟩, .string ⟨#[]⟩, .string ⟨#[]⟩, .string ⟨#[105]⟩]
  rw [show ∀ o, (w.alloc o).heap.size = w.heap.size + 1 from fun o => by simp] at kB
  go_enter Tryz.func44, Tryz.ntmps44
  go_wp2_with fail
  generalize hw1 : (w.alloc _).alloc _ = w1 at hbw kA kB ⊢
  have Hw1 := Lib.hid hw1; clear hw1
  go_loopw [5] (fun i wr => ∃ k : Nat, k ≤ 10 ∧ i = .int .i64 k ∧ Hid (Sm.stepOf (Sm.rules.drop k) s = res) ∧ Below w1.heap.size w1 wr) (fun i _ => 10 - (intOf i).toNat)
  case atStart => exact ⟨0, Nat.zero_le _, rfl, Lib.hid Hres.out, Below.refl _ _⟩
  case round =>
    obtain ⟨k, hk, rfl, hst, hb⟩ := hrel
    by_cases hlt : k < 10
    · obtain ⟨r, hdr, c0, c1, hbars, hto, hen, hen1⟩ := ref_cells (kA.ext hb) (kB.ext hb) k hlt
      have hall := hbw.trans (hb.mono hbw.size)
      have hres : res = if Sm.fits r s then Sm.cut r s else Sm.stepOf (Sm.rules.drop (k + 1)) s := by rw [← hst.out, hdr, Sm.stepOf]
      have Hr := Lib.hid hres; have Hst := hst
      clear hres hdr kA kB
      have hi : IntKind.i64.wrap ((s.length : Int) - (r.ending.length : Int)) = (s.length : Int) - (r.ending.length : Int) := IntWalk.i64_in _ (by omega)
      have hk0 : (0 : Int) ≤ (k : Int) := by omega
      have hk1 : (k : Int) < 10 := by omega
      have hen2 : (r.ending.length : Int) ≤ 10 := by omega
      have ends := fun (x : Str) (W : World) => ends_ok s x (by unfold maxLen; omega) W
      have Ends := Lib.hid ends
      clear ends
      by_cases h3 : r.ending.length + 3 ≤ s.length
      · have hd3 : decide ((s.length : Int) - (r.ending.length : Int) < 3) = false := by simp; omega
        have hc := Ends.out r.ending wr
        cases hsu : Lib.hasSuffix s r.ending with
        | false =>
          rw [hsu] at hc
          have Hc := Lib.hid hc
          have hf : Sm.fits r s = false := by simp [Sm.fits, hsu]
          rw [hf] at Hr
          clear hc hf hsu
          go_wp2_with fail
          refine Hc.out.mono ?_
          rintro e w2 ⟨rfl, rfl⟩
          go_wp2
          go_roundw
          case rel => exact ⟨k + 1, by omega, by go_num, Lib.hid (by rw [Hr.out]; rfl), hb⟩
          case measure => simp [intOf]; omega
        | true =>
          rw [hsu] at hc
          have Hc := Lib.hid hc
          have hf : Sm.fits r s = !r.bars.any (Lib.hasSuffix s) := by simp [Sm.fits, hsu, h3]
          rw [hf] at Hr
          clear hc hf
          rcases hbars with ⟨hk8, hb0⟩ | ⟨hk8, hb0⟩
          · have he8 : ((k : Int) == 8) = false := by simp; omega
            have hr2 : res = s.take (s.length - r.ending.length) ++ r.to := by rw [Hr.out, hb0]; rfl
            have Hr2 := Lib.hid hr2; have Hsu := Lib.hid hsu
            clear hr2 Hr hb0 hsu
            have hn : ((s.length : Int) - (r.ending.length : Int)).toNat = s.length - r.ending.length := by omega
            have hn0 : (0 : Int) ≤ (s.length : Int) - (r.ending.length : Int) := by omega
            have hn2 : (r.ending.length : Int) ≤ (s.length : Int) := by omega
            have hn1 : (s.length : Int) - (r.ending.length : Int) ≤ (s.length : Int) := by omega
            have hcat : ((s.take (s.length - r.ending.length)).length + r.to.length ≤ 9223372036854775807) = True := by simp; omega
            have hcat2 : (min (s.length - r.ending.length) s.length + r.to.length ≤ 9223372036854775807) = True := by simp; omega
            go_wp2_with fail
            refine Hc.out.mono ?_
            rintro e w2 ⟨rfl, rfl⟩
            go_wp2
            go_quiet (fail)
            go_wp2
            go_ret
            exact ⟨ret_str (by rw [Hr2.out]), hall.trans (below_drewN' _ _ _)⟩
          · subst hk8
            rw [hb0, three_bars] at Hr
            clear hb0
            have Hsu := Lib.hid hsu
            clear hsu
            have c1 := Ends.out [115, 115] wr
            have c2 := Ends.out [117, 115] wr
            have c3 := Ends.out [105, 115] wr
            have hn : ((s.length : Int) - (r.ending.length : Int)).toNat = s.length - r.ending.length := by omega
            have hn0 : (0 : Int) ≤ (s.length : Int) - (r.ending.length : Int) := by omega
            have hn2 : (r.ending.length : Int) ≤ (s.length : Int) := by omega
            have hn1 : (s.length : Int) - (r.ending.length : Int) ≤ (s.length : Int) := by omega
            have hcat2 : (min (s.length - r.ending.length) s.length + r.to.length ≤ 9223372036854775807) = True := by simp; omega
            have hcat : (s.length - r.ending.length + r.to.length ≤ 9223372036854775807) = True := by simp; omega
            cases b1 : Lib.hasSuffix s [115, 115]
            all_goals cases b2 : Lib.hasSuffix s [117, 115]
            all_goals cases b3 : Lib.hasSuffix s [105, 115]
            all_goals
              rw [b1] at c1 Hr
              rw [b2] at c2 Hr
              rw [b3] at c3 Hr
              have C1 := Lib.hid c1; have C2 := Lib.hid c2; have C3 := Lib.hid c3
              clear c1 c2 c3 b1 b2 b3
              go_wp2_with fail
              refine Hc.out.mono ?_
              rintro e w2 ⟨rfl, rfl⟩
              go_wp2_with fail
              refine C1.out.mono ?_
              rintro e w2 ⟨rfl, rfl⟩
              try (go_wp2_with fail; refine C2.out.mono ?_; rintro e w2 ⟨rfl, rfl⟩)
              try (go_wp2_with fail; refine C3.out.mono ?_; rintro e w2 ⟨rfl, rfl⟩)
              go_wp2
            all_goals first
              | (go_roundw
                 case rel => exact ⟨8 + 1, by omega, by go_num, Lib.hid (by rw [Hr.out]; rfl), hb⟩
                 case measure => decide)
              | (go_quiet (fail)
                 go_wp2
                 go_ret
                 exact ⟨ret_str (by rw [Hr.out]; rfl), hall.trans (below_drewN' _ _ _)⟩)
      · have hf : Sm.fits r s = false := by simp [Sm.fits, h3]
        rw [hf] at Hr
        clear hf
        have hd3 : decide ((s.length : Int) - (r.ending.length : Int) < 3) = true := decide_eq_true (by omega)
        go_wp2
        go_roundw
        case rel => exact ⟨k + 1, by omega, by go_num, Lib.hid (by rw [Hr.out]; rfl), hb⟩
        case measure => simp [intOf]; omega
    · obtain rfl : k = 10 := by omega
      have htl : res = Sm.tail s := hst.out.symm
      have Htl := Lib.hid htl
      have hall := hbw.trans (hb.mono hbw.size)
      clear htl hst kA kB hbw hb
      have hi0 : IntKind.i64.wrap ((s.length : Int) - 1) = (s.length : Int) - 1 := IntWalk.i64_in _ (by omega)
      by_cases h4 : 4 ≤ s.length
      · have hd4 : decide (3 ≤ (s.length : Int) - 1) = true := by simp; omega
        have hi2 : IntKind.i64.wrap ((s.length : Int) - 1 - 1) = (s.length : Int) - 2 := (IntWalk.i64_in _ (by omega)).trans (by omega)
        have hk1 : (1 : Int) ≤ (s.length : Int) := by omega
        have hk2 : (2 : Int) ≤ (s.length : Int) := by omega
        have hk3 : 1 ≤ s.length := by omega
        have hk4 : 2 ≤ s.length := by omega
        have hj3 : (s.length : Int) - 1 < (s.length : Int) := by omega
        have hj4 : (s.length : Int) - 2 < (s.length : Int) := by omega
        have hj5 : (s.length : Int) - 1 ≤ (s.length : Int) := by omega
        have hk0 : (0 : Int) ≤ (s.length : Int) - 1 := by omega
        have hk6 : (0 : Int) ≤ (s.length : Int) - 2 := by omega
        obtain ⟨x, hx⟩ : ∃ x, s[s.length - 1] = x := ⟨_, rfl⟩
        obtain ⟨y, hy⟩ : ∃ y, s[s.length - 2] = y := ⟨_, rfl⟩
        have htw := Sm.twice_of (s := s) h4 hx hy
        cases ht : ((x.toNat : Int) == (y.toNat : Int)) with
        | false =>
          have hxy : (x == y) = false := by
            rw [beq_eq_false_iff_ne] at ht ⊢
            exact fun e => ht (by rw [e])
          have hq : Sm.tail s = s := by rw [Sm.tail, htw, hxy]; rfl
          have Hq := Lib.hid hq
          clear hq htw hxy
          go_wp2
          go_quiet (fail)
          go_wp2
          go_ret
          exact ⟨ret_str (by rw [Htl.out, Hq.out]), hall.trans (below_drewN' _ _ _)⟩
        | true =>
          have hxy : (x == y) = true := by
            rw [beq_iff_eq] at ht ⊢
            exact UInt8.toNat_inj.1 (by omega)
          rw [hxy] at htw
          cases hv : (Sm.vowels.any (· == x)) with
          | true =>
            have hq : Sm.tail s = s := by rw [Sm.tail, htw, hv]; rfl
            have Hq := Lib.hid hq
            clear hq htw hxy
            simp only [Sm.vowels, List.any_cons, List.any_nil, Bool.or_eq_true, beq_iff_eq, Bool.or_false] at hv
            rcases hv with h | h | h | h | h | h | h | h
            all_goals
              subst h
              first
                | (have ht2 : ((97 : Int) == (y.toNat : Int)) = true := ht)
                | (have ht2 : ((101 : Int) == (y.toNat : Int)) = true := ht)
                | (have ht2 : ((105 : Int) == (y.toNat : Int)) = true := ht)
                | (have ht2 : ((111 : Int) == (y.toNat : Int)) = true := ht)
                | (have ht2 : ((117 : Int) == (y.toNat : Int)) = true := ht)
                | (have ht2 : ((108 : Int) == (y.toNat : Int)) = true := ht)
                | (have ht2 : ((115 : Int) == (y.toNat : Int)) = true := ht)
                | (have ht2 : ((122 : Int) == (y.toNat : Int)) = true := ht)
              clear ht
              go_wp2
              go_quiet (fail)
              go_wp2
              go_ret
              exact ⟨ret_str (by rw [Htl.out, Hq.out]), hall.trans (below_drewN' _ _ _)⟩
          | false =>
            have hq : Sm.tail s = s.take (s.length - 1) := by rw [Sm.tail, htw, hv]; rfl
            have Hq := Lib.hid hq
            clear hq htw hxy
            simp only [Sm.vowels, List.any_cons, List.any_nil, Bool.or_eq_false_iff, beq_eq_false_iff_ne, Bool.or_false] at hv
            have vne : ∀ n : Nat, n < 256 → UInt8.ofNat n ≠ x → ((x.toNat : Int) != (n : Int)) = true := by
              intro n hn h
              rw [bne_iff_ne]
              intro e
              exact h (UInt8.toNat_inj.1 (by simp; omega))
            have v1 : ((x.toNat : Int) != 97) = true := vne 97 (by omega) hv.1
            have v2 : ((x.toNat : Int) != 101) = true := vne 101 (by omega) hv.2.1
            have v3 : ((x.toNat : Int) != 105) = true := vne 105 (by omega) hv.2.2.1
            have v4 : ((x.toNat : Int) != 111) = true := vne 111 (by omega) hv.2.2.2.1
            have v5 : ((x.toNat : Int) != 117) = true := vne 117 (by omega) hv.2.2.2.2.1
            have v6 : ((x.toNat : Int) != 108) = true := vne 108 (by omega) hv.2.2.2.2.2.1
            have v7 : ((x.toNat : Int) != 115) = true := vne 115 (by omega) hv.2.2.2.2.2.2.1
            have v8 : ((x.toNat : Int) != 122) = true := vne 122 (by omega) hv.2.2.2.2.2.2.2
            clear vne hv
            go_wp2
            go_quiet (fail)
            go_wp2
            go_ret
            exact ⟨ret_str (by rw [Htl.out, Hq.out]), hall.trans (below_drewN' _ _ _)⟩
      · have hd4 : decide (3 ≤ (s.length : Int) - 1) = false := by simp; omega
        have hq : Sm.tail s = s := by simp [Sm.tail, Sm.twice, h4]
        have Hq := Lib.hid hq
        clear hq
        go_wp2
        go_quiet (fail)
        go_wp2
        go_ret
        exact ⟨ret_str (by rw [Htl.out, Hq.out]), hall.trans (below_drewN' _ _ _)⟩
end Go.Proofs.YtiohhajkegpebaaGreatDoor
namespace Go.Proofs.YtiohhajkegpebaaGreatDoor
open Go.RowKit
set_option linter.unusedVariables false
set_option maxHeartbeats 1000000 in
theorem stem_ok : ∀ (n : Nat) (s : Str) (hm : Sm.mu s ≤ n) (hs : s.length ≤ maxLen) (w : World), Calls Tryz.prog 29 #[.string (bs s)] w fun e w' => e = .returned (.string (bs (Sm.stem s))) ∧ Below w.heap.size w w' := by
  intro n
  induction n with
  | zero =>
    intro s hm hs w
    have h0 : s = [] := by
      unfold Sm.mu at hm
      exact List.eq_nil_of_length_eq_zero (by omega)
    subst h0
    have hl := letters_ok [] hs w
    have hc := rstep_ok [] w hs
    have e1 : Sm.letters [] = true := rfl
    have e2 : Sm.step [] = [] := rfl
    have e3 : Sm.stem [] = [] := rfl
    rw [e1] at hl
    rw [e2] at hc
    rw [e3]
    have Hl := Lib.hid hl; have Hc := Lib.hid hc
    clear hl hc e1 e2 e3
    go_enter Tryz.func29, Tryz.ntmps29
    go_wp2_with fail
    refine Hl.out.mono ?_
    rintro e w1 ⟨rfl, rfl⟩
    go_wp2_with fail
    refine Hc.out.mono ?_
    rintro e w1 ⟨rfl, hb⟩
    go_wp2
    go_ret
    exact ⟨rfl, hb⟩
  | succ n ih =>
    intro s hm hs w
    have hl := letters_ok s hs w
    unfold maxLen at hs
    cases hlt : Sm.letters s with
    | false =>
      rw [hlt] at hl
      have hq : Sm.stem s = s := by unfold Sm.stem; rw [if_neg]; rw [hlt]; simp
      have Hl := Lib.hid hl; have Hq := Lib.hid hq
      clear hl hq hlt ih
      go_enter Tryz.func29, Tryz.ntmps29
      go_wp2_with fail
      refine Hl.out.mono ?_
      rintro e w1 ⟨rfl, rfl⟩
      go_wp2
      go_ret
      exact ⟨ret_str (by rw [Hq.out]), Below.refl _ _⟩
    | true =>
      rw [hlt] at hl
      by_cases h6 : s.length ≤ 60
      · have hd : decide (60 < (s.length : Int)) = false := by simp; omega
        have hst := Sm.stem_step hlt h6
        have hc := rstep_ok s w (by unfold maxLen; omega)
        have hsl := Sm.step_len s
        obtain ⟨t, ht⟩ : ∃ t, Sm.step s = t := ⟨_, rfl⟩
        rw [ht] at hc hst hsl
        cases hq : (t == s) with
        | true =>
          have hfix : Sm.stem s = s := Sm.stem_fix (by rw [ht]; exact eq_of_beq hq)
          have Hl := Lib.hid hl; have Hc := Lib.hid hc; have Ht := Lib.hid ht; have Hst := Lib.hid hst; have Hf := Lib.hid hfix
          clear hl hc ht hst hlt ih hfix
          go_enter Tryz.func29, Tryz.ntmps29
          go_wp2_with fail
          refine Hl.out.mono ?_
          rintro e w1 ⟨rfl, rfl⟩
          go_wp2_with fail
          refine Hc.out.mono ?_
          rintro e w1 ⟨rfl, hb⟩
          go_wp2
          go_ret
          exact ⟨ret_str (by rw [Hf.out]), hb⟩
        | false =>
          have hne : Sm.step s ≠ s := by rw [ht]; intro e; rw [e] at hq; simp at hq
          have hmu : Sm.mu t < Sm.mu s := by rw [← ht]; exact Sm.step_mu hne
          have hrec := fun W => ih t (by omega) (by unfold maxLen; omega) W
          rw [hst] at hrec
          have Hl := Lib.hid hl; have Hc := Lib.hid hc; have Hrec := Lib.hid hrec
          clear hl hc ht hst hlt ih hne hrec
          go_enter Tryz.func29, Tryz.ntmps29
          go_wp2_with fail
          refine Hl.out.mono ?_
          rintro e w1 ⟨rfl, rfl⟩
          go_wp2_with fail
          refine Hc.out.mono ?_
          rintro e w1 ⟨rfl, hb⟩
          go_wp2_with fail
          refine (Hrec.out _).mono ?_
          rintro e w2 ⟨rfl, hb2⟩
          go_wp2
          go_ret
          exact ⟨rfl, below2 hb hb2⟩
      · have hd : decide (60 < (s.length : Int)) = true := by simp; omega
        have hq : Sm.stem s = s := by unfold Sm.stem; rw [if_neg]; omega
        have Hl := Lib.hid hl; have Hq := Lib.hid hq
        clear hl hq hlt ih
        go_enter Tryz.func29, Tryz.ntmps29
        go_wp2_with fail
        refine Hl.out.mono ?_
        rintro e w1 ⟨rfl, rfl⟩
        go_wp2
        go_ret
        exact ⟨ret_str (by rw [Hq.out]), Below.refl _ _⟩
end Go.Proofs.YtiohhajkegpebaaGreatDoor
namespace Go.Proofs.YtiohhajkegpebaaGreatDoor
open Go.RowKit
set_option linter.unusedVariables false
theorem mem_le_sum : ∀ {l : List Nat} {x : Nat}, x ∈ l → x ≤ l.sum
  | _ :: _, _, .head _ => by simp
  | _ :: _, _, .tail _ h => by have := mem_le_sum h; simp only [List.sum_cons]; omega
theorem Sm.wordsFrom_len {n : Nat} {cur l : Str} {x : Str} (h : x ∈ Sm.wordsFrom cur l) (hn : cur.length + l.length ≤ n) : x.length ≤ n := by
  have h1 := (Sm.words_sum l.length cur l (Nat.le_refl _)).1
  have h2 : x.length ≤ ((Sm.wordsFrom cur l).map List.length).sum := mem_le_sum (List.mem_map_of_mem h)
  omega
set_option maxHeartbeats 4000000 in
theorem refWords_ok (s : Str) (hs : s.length ≤ 4000000) (w : World) (hT : TabsU w) : Calls Tryz.prog 28 #[.string (bs s)] w fun e w' => ∃ (A : Option Addr) (c : Nat) (L : List Str), e = .returned (.slice A L.length c) ∧ Hid (L = Sm.words s) ∧ Own strC M0 w' w.heap.size 9 (.slice A L.length c) L ∧ Below w.heap.size w w' := by
  have HT := Lib.hid hT
  clear hT
  obtain ⟨res, hres⟩ : ∃ r, Sm.words s = r := ⟨_, rfl⟩
  rw [hres]
  have Hres := Lib.hid hres
  clear hres
  go_enter Tryz.func28, Tryz.ntmps28
  go_wp2
  go_loopw [0, 3, 4] (fun t o c wr => ∃ (l cur : Str) (A : Option Addr) (cp : Nat) (L : List Str), t = .string (bs l) ∧ c = .string (bs cur) ∧ o = .slice A L.length cp ∧ cur.length + l.length ≤ s.length ∧ L.length + cur.length + l.length ≤ s.length ∧
      Hid (L ++ (Sm.wordsFrom cur l).map Sm.lower = res) ∧ Own strC M0 wr w.heap.size 9 (.slice A L.length cp) L ∧ Below w.heap.size w wr) (fun t _ _ _ => (strOf t).length)
  case atStart => exact ⟨s, [], none, 0, [], rfl, rfl, rfl, by simp, by simp, Lib.hid (by rw [← Hres.out]; rfl), Own.nil _ _ _ _ _, Below.refl _ _⟩
  case round =>
    obtain ⟨l, cur, A, cp, L, rfl, rfl, rfl, hl, hLl, hL, hown, hb⟩ := hrel
    by_cases hne : l = []
    · subst hne
      have hst := Sm.wordsFrom_nil cur
      have Hst := Lib.hid hst
      clear hst
      by_cases hc : cur = []
      · subst hc
        have hr : res = L := by rw [← hL.out, Hst.out]; simp
        have Hr := Lib.hid hr
        clear hr
        go_wp2
        go_ret
        exact ⟨A, cp, L, rfl, Lib.hid Hr.out.symm, hown, hb⟩
      · simp only [List.length_nil, Nat.add_zero] at hl hLl
        have hce : cur.isEmpty = false := by simpa using hc
        have hce2 : (cur == []) = false := by simpa using hc
        have hcl : 1 ≤ cur.length := List.length_pos_iff.2 hc
        have hll := Sm.lower_len cur.length cur (Nat.le_refl _)
        have hlw := refLower_ok cur (by omega) wr (HT.out.ext hb)
        obtain ⟨lw, hlw2⟩ : ∃ x, Sm.lower cur = x := ⟨_, rfl⟩
        rw [hlw2] at hlw hll
        have Hlw := Lib.hid hlw; have Hlw2 := Lib.hid hlw2; have Hc := Lib.hid hc
        clear hlw hlw2 hc
        go_wp2_with fail
        refine Hlw.out.mono ?_
        rintro e w3 ⟨rfl, hb3⟩
        have hown3 := hown.ext hb3
        have hbw3 := below2 hb hb3
        have hsz := hbw3.size
        clear Hlw hown hb3
        go_wp2_with (at_builtin; refine wpList_push_Own strC (M := M0) (B := w.heap.size) TStrs rfl (.tmp 34) (.tmp 37) rfl rfl hown3 rfl (cs := [.string (bs lw)]) (y := lw) ⟨rfl, by unfold maxLen; omega⟩ (fun _ h => h.elim) ?pb1 ?pb2 hsz ?_)
        case pb1 => simp only [maxLen]; omega
        case pb2 => omega
        intro A4 c4 L4 w4 hL4 hown4 hb4 _ _
        have hbw4 := hbw3.trans hb4
        have hlen4 : L4.length = L.length + 1 := by rw [hL4.out, List.length_append]; rfl
        clear hown3 hb4
        go_wp2
        go_ret
        exact ⟨A4, c4, L4, rfl, Lib.hid (by rw [← hL.out, Hst.out, if_neg Hc.out, hL4.out, ← Hlw2.out]; rfl), hown4, hbw4⟩
    · have hpos := List.length_pos_iff.2 hne
      have hst := Sm.wordsFrom_step (cur := cur) hne
      have hw1 := Lib.decodeL_width l
      have hw2 := Sm.width_le hne
      have hr := Lib.decodeL_rune l
      have hdec := Tryz.utf8_DecodeRuneInString (bs l) wr (HT.out.ext hb).u8
      have hdg : Lib.decodeGo (bs l) = Lib.decodeL l := by
        unfold Lib.decodeGo
        rw [if_neg (by rw [bs_size]; omega)]
        rfl
      rw [hdg] at hdec
      obtain ⟨r, hrr⟩ : ∃ r, (Lib.decodeL l).1 = r := ⟨_, rfl⟩
      obtain ⟨n, hnn⟩ : ∃ n, (Lib.decodeL l).2 = n := ⟨_, rfl⟩
      rw [hrr] at hst hr hdec
      rw [hnn] at hst hw1 hw2 hdec
      have hin := fun W hbb => inWord_ok r hr W ((HT.out.ext hb).ext hbb)
      obtain ⟨t, ht⟩ : ∃ t, Sm.isL r = t := ⟨_, rfl⟩
      rw [ht] at hin hst
      have Hdec := Lib.hid hdec; have Hin := Lib.hid hin; have Hst := Lib.hid hst
      clear hdec hin hst hdg hrr hnn ht
      have hd0 : decide ((0 : Int) < (l.length : Int)) = true := by simp; omega
      have hd1 : 0 < l.length := hpos
      have hn0 : (0 : Int) ≤ (n : Int) := by omega
      have hn1 : (n : Int) ≤ (l.length : Int) := by omega
      go_wp2_with fail
      refine Hdec.out.mono ?_
      rintro e w1 ⟨rfl, hb1⟩
      go_wp2_with fail
      refine (Hin.out w1 hb1).mono ?_
      rintro e w2 ⟨rfl, hb2⟩
      have hb12 := below2 hb1 hb2
      have hown2 := hown.ext hb12
      have hbw2 := below2 hb hb12
      clear hown hb1 hb2 hb12 hb
      cases t with
      | true =>
        have hcat : (cur.length + n ≤ 9223372036854775807) = True := by simp; omega
        have hmin : min n l.length = n := by omega
        go_wp2
        go_roundw
        case rel => exact ⟨l.drop n, cur ++ l.take n, A, cp, L, by rw [List.take_of_length_le (by rw [List.length_drop]; exact Nat.le_refl _)], rfl, rfl, by rw [List.length_append, List.length_take, List.length_drop]; omega, by rw [List.length_append, List.length_take, List.length_drop]; omega,
          Lib.hid (by rw [← hL.out, Hst.out]; rfl), hown2, hbw2⟩
        case measure => simp [strOf, bs]; omega
      | false =>
        by_cases hc : cur = []
        · subst hc
          go_wp2
          go_roundw
          case rel => exact ⟨l.drop n, [], A, cp, L, by rw [List.take_of_length_le (by rw [List.length_drop]; exact Nat.le_refl _)], rfl, rfl, by rw [List.length_drop]; simp at hl ⊢; omega, by rw [List.length_drop]; simp at hLl ⊢; omega,
            Lib.hid (by rw [← hL.out, Hst.out]; rfl), hown2, hbw2⟩
          case measure => simp [strOf, bs]; omega
        · have hce : cur.isEmpty = false := by simpa using hc
          have hce2 : (cur == []) = false := by simpa using hc
          have hcl : 1 ≤ cur.length := List.length_pos_iff.2 hc
          have hll := Sm.lower_len cur.length cur (Nat.le_refl _)
          have hlw := refLower_ok cur (by omega) w2 (HT.out.ext hbw2)
          obtain ⟨lw, hlw2⟩ : ∃ x, Sm.lower cur = x := ⟨_, rfl⟩
          rw [hlw2] at hlw hll
          have Hlw := Lib.hid hlw; have Hlw2 := Lib.hid hlw2; have Hc := Lib.hid hc
          clear hlw hlw2 hc
          go_wp2_with fail
          refine Hlw.out.mono ?_
          rintro e w3 ⟨rfl, hb3⟩
          have hown3 := hown2.ext hb3
          have hbw3 := below2 hbw2 hb3
          have hsz := hbw3.size
          clear Hlw hown2 hb3
          go_wp2_with (at_builtin; refine wpList_push_Own strC (M := M0) (B := w.heap.size) TStrs rfl (.tmp 24) (.tmp 27) rfl rfl hown3 rfl (cs := [.string (bs lw)]) (y := lw) ⟨rfl, by unfold maxLen; omega⟩ (fun _ h => h.elim) ?pa1 ?pa2 hsz ?_)
          case pa1 => simp only [maxLen]; omega
          case pa2 => omega
          intro A4 c4 L4 w4 hL4 hown4 hb4 _ _
          have hbw4 := hbw3.trans hb4
          have hlen4 : L4.length = L.length + 1 := by rw [hL4.out, List.length_append]; rfl
          clear hown3 hb4
          go_wp2
          go_roundw
          case rel => exact ⟨l.drop n, [], A4, c4, L4, by rw [List.take_of_length_le (by rw [List.length_drop]; exact Nat.le_refl _)], rfl, rfl, by rw [List.length_drop]; simp; omega, by rw [List.length_drop, hlen4]; simp; omega,
            Lib.hid (by rw [← hL.out, Hst.out, if_neg (by simp), if_neg Hc.out, hL4.out, ← Hlw2.out]; simp), hown4, hbw4⟩
          case measure => simp [strOf, bs]; omega
def mapTo {α : Type} (f : α → α) (l : List α) (k : Nat) : List α := (l.take k).map f ++ l.drop k
theorem mapTo_len {α : Type} (f : α → α) (l : List α) (k : Nat) : (mapTo f l k).length = l.length := by simp [mapTo]; omega
theorem mapTo_zero {α : Type} (f : α → α) (l : List α) : mapTo f l 0 = l := by simp [mapTo]
theorem mapTo_all {α : Type} (f : α → α) (l : List α) : mapTo f l l.length = l.map f := by simp [mapTo]
theorem mapTo_get {α : Type} (f : α → α) (l : List α) (k : Nat) (hk : k < l.length) : (mapTo f l k)[k]'(by rw [mapTo_len]; exact hk) = l[k] := by
  unfold mapTo
  rw [List.getElem_append_right (by simp; omega)]
  simp [Nat.min_eq_left (Nat.le_of_lt hk)]
theorem mapTo_succ {α : Type} (f : α → α) (l : List α) (k : Nat) (hk : k < l.length) : mapTo f l (k + 1) = (mapTo f l k).set k (f l[k]) := by
  unfold mapTo
  have hl : ((l.take k).map f).length = k := by rw [List.length_map, List.length_take]; omega
  rw [List.drop_eq_getElem_cons hk, List.take_succ_eq_append_getElem hk, List.set_append, hl, if_neg (Nat.lt_irrefl k), Nat.sub_self, List.set_cons_zero, List.map_append, List.append_assoc]
  rfl
set_option maxHeartbeats 2000000 in
theorem refStems_ok (s : Str) (hs : s.length ≤ 4000000) (w : World) (hT : TabsU w) : Calls Tryz.prog 16 #[.string (bs s)] w fun e w' => ∃ (A : Option Addr) (c : Nat) (L : List Str), e = .returned (.slice A L.length c) ∧ Hid (L = Sm.stems s) ∧ Own strC M0 w' w.heap.size 9 (.slice A L.length c) L ∧ Below w.heap.size w w' := by
  have hw := refWords_ok s hs w hT
  have Hw := Lib.hid hw
  clear hw hT
  go_enter Tryz.func16, Tryz.ntmps16
  go_wp2_with fail
  refine Hw.out.mono ?_
  rintro e w1 ⟨A, c, L, rfl, hL, hown1, hb1⟩
  clear Hw
  go_wp2
  go_loopw [4] (fun i wr => ∃ (k : Nat) (Lk : List Str), i = .int .i64 k ∧ k ≤ L.length ∧ Hid (Lk = mapTo Sm.stem L k) ∧ Hid (Lk.length = L.length) ∧ Own strC M0 wr w.heap.size 9 (.slice A L.length c) Lk ∧ Below w.heap.size w wr) (fun i _ => L.length - (intOf i).toNat)
  case atStart => exact ⟨0, L, rfl, Nat.zero_le _, Lib.hid (mapTo_zero _ _).symm, Lib.hid rfl, hown1, hb1⟩
  case round =>
    obtain ⟨k, Lk, rfl, hk, hLk, hlen, hown, hb⟩ := hrel
    by_cases hlt : k < L.length
    · have hkl : k < Lk.length := by rw [hlen.out]; exact hlt
      obtain ⟨g, c', cur, hv, hlc, hcm, hBg, hblk, hcs⟩ := hown.blk (by omega)
      injection hv with hv1 hv2 hv3
      subst hv1 hv3
      obtain ⟨b, off, he, _, _, hcell, hel⟩ := hown.read0.strAt hkl
      injection he with he
      injection he with he1 he2
      subst he1 he2
      rw [Nat.zero_add] at hcell
      obtain ⟨x, hx⟩ : ∃ x, Lk[k] = x := ⟨_, rfl⟩
      rw [hx] at hcell hel
      have hxl : L[k] = x := by
        rw [← hx, ← mapTo_get Sm.stem L k hlt]
        congr 1
        exact hLk.out.symm
      have hc := fun W => stem_ok (Sm.mu x) x (Nat.le_refl _) hel W
      obtain ⟨y, hy⟩ : ∃ y, Sm.stem x = y := ⟨_, rfl⟩
      rw [hy] at hc
      have hyl : y.length ≤ x.length := by rw [← hy]; exact Sm.stem_len x
      have hset : mapTo Sm.stem L (k + 1) = Lk.set k y := by rw [mapTo_succ Sm.stem L k hlt, hxl, hy, hLk.out]
      have Hc := Lib.hid hc; have Hset := Lib.hid hset
      have hfz := hblk.frozen k
      have hbk := Lib.hid hblk
      unfold maxLen at hcm hel
      have hcn : L.length ≤ c := by rw [hv2]; exact hlc
      clear hc hset hx hxl hy hlc hcs hblk hv2
      go_wp2_with fail
      refine (Hc.out _).mono ?_
      rintro e w2 ⟨rfl, hb2⟩
      clear Hc
      have hfz2 := (hbk.out.ext hb2).frozen k
      have hlt2 := (hbk.out.ext hb2).lt
      have hown2 := hown.ext hb2
      have hc2 : w2.cell? ⟨g, k, none⟩ = some (.string (bs x)) := (hb2.cell (p := ⟨g, k, none⟩) (by exact hbk.out.lt)).trans hcell
      have hbw2 := below2 hb hb2
      have hput := hown2.put1 rfl hkl (u := .string (bs y)) (a := y) ⟨rfl, by unfold maxLen; omega⟩
      clear hcell hfz hown hb hb2 hown2
      go_wp2
      go_roundw
      case rel => exact ⟨k + 1, Lk.set k y, by go_num, by omega, Lib.hid Hset.out.symm, Lib.hid (by rw [List.length_set, hlen.out]), hput, hbw2.setCell (p := ⟨g, k, none⟩) hBg _⟩
      case measure => simp [intOf]; omega
    · have he : k = L.length := by omega
      have hres : Lk = Sm.stems s := by rw [hLk.out, he, mapTo_all, hL.out]; rfl
      have hlk := hlen.out
      rw [← hlk] at hown
      have Hres := Lib.hid hres
      clear hres he
      go_wp2
      go_ret
      refine ⟨A, c, Lk, ?_, Hres, hown, hb⟩
      rw [hlk]; rfl
end Go.Proofs.YtiohhajkegpebaaGreatDoor
namespace Go.Proofs.YtiohhajkegpebaaGreatDoor
open Go.RowKit
set_option linter.unusedVariables false
theorem Own.weak {α : Type} {C : Codec α} {M M' : Nat → Prop} {w : World} {B B' : Nat} {e : TypeId} {v : Value} {l : List α} (h : Own C M w B e v l) (hB : B' ≤ B) (hM : ∀ b, M' b → M b) : Own C M' w B' e v l := by
  obtain ⟨xs, ho, he⟩ := h
  refine ⟨xs, ⟨ho.1, ?_⟩, he.sub fun b _ hb => hb.imp (hM b) id⟩
  rcases ho.2 with hn | ⟨g, cap, cur, rfl, hb, rest⟩
  · exact .inl hn
  · exact .inr ⟨g, cap, cur, rfl, Nat.le_trans hB hb, rest⟩
theorem len_le_sum : ∀ {l : List Nat}, (∀ x ∈ l, 0 < x) → l.length ≤ l.sum
  | [], _ => Nat.le_refl _
  | x :: l, h => by
    have h1 := len_le_sum (l := l) fun y hy => h y (.tail _ hy)
    have h2 := h x (.head _)
    simp only [List.length_cons, List.sum_cons]
    omega
end Go.Proofs.YtiohhajkegpebaaGreatDoor
