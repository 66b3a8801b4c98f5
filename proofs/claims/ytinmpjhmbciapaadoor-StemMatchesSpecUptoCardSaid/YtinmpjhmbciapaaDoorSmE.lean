/-
  The reference's step (printed by gen/smref.py).
-/
import Derived.Test.YtinmpjhmbciapaaDoorSmD
namespace Go.Proofs.YtinmpjhmbciapaaDoor
open Go.RowKit
set_option linter.unusedVariables false
theorem ref_cells {w : World} {a b : Nat} (kA : Blk w a 9 #[.string ⟨#[105, 101, 115]⟩, .string ⟨#[115, 115, 101, 115]⟩, .string ⟨#[110, 101, 115, 115]⟩, .string ⟨#[109, 101, 110, 116]⟩, .string ⟨#[105, 110, 103]⟩, .string ⟨#[101, 100, 108, 121]⟩, .string ⟨#[101, 100]⟩, .string ⟨#[108, 121]⟩, .string ⟨#[115]⟩, .string ⟨#[121]⟩]) (kB : Blk w b 9 #[.string ⟨#[105]⟩, .string ⟨#[115, 115]⟩, .string ⟨#[]⟩, .string ⟨#[]⟩, .string ⟨#[]⟩, .string ⟨#[]⟩, .string ⟨#[]⟩, .string ⟨#[]⟩, .string ⟨#[]⟩, .string ⟨#[105]⟩]) (k : Nat) (hk : k < 10) : ∃ (r : Sm.Rule), Sm.rules.drop k = r :: Sm.rules.drop (k + 1) ∧
    w.cell? ⟨a, k, none⟩ = some (.string (bs r.ending)) ∧ w.cell? ⟨b, k, none⟩ = some (.string (bs r.to)) ∧
    (k ≠ 8 ∧ r.bars = [] ∨ k = 8 ∧ r.bars = [[115, 115], [117, 115], [105, 115]]) ∧ r.to.length ≤ r.ending.length ∧ r.ending.length ≤ 10 ∧ 1 ≤ r.ending.length := by
  match k, hk with
  | 0, _ => exact ⟨_, rfl, kA.cell 0, kB.cell 0, .inl ⟨by decide, rfl⟩, by decide, by decide, by decide⟩
  | 1, _ => exact ⟨_, rfl, kA.cell 1, kB.cell 1, .inl ⟨by decide, rfl⟩, by decide, by decide, by decide⟩
  | 2, _ => exact ⟨_, rfl, kA.cell 2, kB.cell 2, .inl ⟨by decide, rfl⟩, by decide, by decide, by decide⟩
  | 3, _ => exact ⟨_, rfl, kA.cell 3, kB.cell 3, .inl ⟨by decide, rfl⟩, by decide, by decide, by decide⟩
  | 4, _ => exact ⟨_, rfl, kA.cell 4, kB.cell 4, .inl ⟨by decide, rfl⟩, by decide, by decide, by decide⟩
  | 5, _ => exact ⟨_, rfl, kA.cell 5, kB.cell 5, .inl ⟨by decide, rfl⟩, by decide, by decide, by decide⟩
  | 6, _ => exact ⟨_, rfl, kA.cell 6, kB.cell 6, .inl ⟨by decide, rfl⟩, by decide, by decide, by decide⟩
  | 7, _ => exact ⟨_, rfl, kA.cell 7, kB.cell 7, .inl ⟨by decide, rfl⟩, by decide, by decide, by decide⟩
  | 8, _ => exact ⟨_, rfl, kA.cell 8, kB.cell 8, .inr ⟨rfl, rfl⟩, by decide, by decide, by decide⟩
  | 9, _ => exact ⟨_, rfl, kA.cell 9, kB.cell 9, .inl ⟨by decide, rfl⟩, by decide, by decide, by decide⟩
theorem three_bars (s : Str) : ([[115, 115], [117, 115], [105, 115]] : List Str).any (Lib.hasSuffix s) = (Lib.hasSuffix s [115, 115] || Lib.hasSuffix s [117, 115] || Lib.hasSuffix s [105, 115]) := by
  simp [Bool.or_assoc]
set_option maxRecDepth 100000 in
set_option maxHeartbeats 8000000 in
theorem rstep_ok (s : Str) (w : World) (hs : s.length ≤ maxLen) :
    Calls Tryd.prog 39 #[.string (bs s)] w fun e w' => e = .returned (.string (bs (Sm.step s))) ∧ Below w.heap.size w w' := by
  unfold maxLen at hs
  obtain ⟨res, hres⟩ : ∃ r, Sm.step s = r := ⟨_, rfl⟩
  rw [hres]
  have Hres := Lib.hid hres
  clear hres
  have hbw := ((Below.refl w.heap.size w).alloc (Nat.le_refl _) (.cells #[.string ⟨#[105, 101, 115]⟩, .string ⟨#[115, 115, 101, 115]⟩, .string ⟨#[110, 101, 115, 115]⟩, .string ⟨#[109, 101, 110, 116]⟩, .string ⟨#[105, 110, 103]⟩, .string ⟨#[101, 100, 108, 121]⟩, .string ⟨#[101, 100]⟩, .string ⟨#[108, 121]⟩, .string ⟨#[115]⟩, .string ⟨#[121]⟩] 9)).alloc (by simp) (.cells #[.string ⟨#[105]⟩, .string ⟨#[115, 115]⟩, .string ⟨#[]⟩, .string ⟨#[]⟩, .string ⟨#[]⟩, .string ⟨#[]⟩, .string ⟨#[]⟩, .string ⟨#[]⟩, .string ⟨#[]⟩, .string ⟨#[105]⟩] 9)
  have kA := (Blk.new w 9 #[.string ⟨#[105, 101, 115]⟩, .string ⟨#[115, 115, 101, 115]⟩, .string ⟨#[110, 101, 115, 115]⟩, .string ⟨#[109, 101, 110, 116]⟩, .string ⟨#[105, 110, 103]⟩, .string ⟨#[101, 100, 108, 121]⟩, .string ⟨#[101, 100]⟩, .string ⟨#[108, 121]⟩, .string ⟨#[115]⟩, .string ⟨#[121]⟩]).alloc (.cells #[.string ⟨#[105]⟩, .string ⟨#[115, 115]⟩, .string ⟨#[]⟩, .string ⟨#[]⟩, .string ⟨#[]⟩, .string ⟨#[]⟩, .string ⟨#[]⟩, .string ⟨#[]⟩, .string ⟨#[]⟩, .string ⟨#[105]⟩] 9)
  have kB := Blk.new (w.alloc (.cells #[.string ⟨#[105, 101, 115]⟩, .string ⟨#[115, 115, 101, 115]⟩, .string ⟨#[110, 101, 115, 115]⟩, .string ⟨#[109, 101, 110, 116]⟩, .string ⟨#[105, 110, 103]⟩, .string ⟨#[101, 100, 108, 121]⟩, .string ⟨#[101, 100]⟩, .string ⟨#[108, 121]⟩, .string ⟨#[115]⟩, .string ⟨#[121]⟩] 9)) 9 #[.string ⟨#[105]⟩, .string ⟨#[115, 115]⟩, .string ⟨#[]⟩, .string ⟨#[]⟩, .string ⟨#[]⟩, .string ⟨#[]⟩, .string ⟨#[]⟩, .string ⟨#[]⟩, .string ⟨#[]⟩, .string ⟨#[105]⟩]
  rw [show ∀ o, (w.alloc o).heap.size = w.heap.size + 1 from fun o => by simp] at kB
  go_enter Tryd.func39, Tryd.ntmps39
  go_wp2_with fail
  generalize hw1 : (w.alloc _).alloc _ = w1 at hbw kA kB ⊢
  have Hw1 := Lib.hid hw1; clear hw1
  go_loopw [5] (fun i wr => ∃ k : Nat, k ≤ 10 ∧ i = .int .i64 k ∧ Hid (Sm.stepOf (Sm.rules.drop k) s = res) ∧ Below w1.heap.size w1 wr) (fun i _ => 10 - (intOf i).toNat)
  case atStart => exact ⟨0, Nat.zero_le _, rfl, Lib.hid Hres.out, Below.refl _ _⟩
  case round =>
    obtain ⟨k, hk, rfl, hst, hb⟩ := hrel
    by_cases hlt : k < 10
    · obtain ⟨r, hdr, c0, c1, hbars, hto, hen, hen1⟩ := ref_cells (kA.ext hb) (kB.ext hb) k hlt
      have hall := hbw.trans (hb.mono hbw.size)
      have hres : res = if Sm.fits r s then Sm.cut r s else Sm.stepOf (Sm.rules.drop (k + 1)) s := by rw [← hst.out, hdr, Sm.stepOf]
      have Hr := Lib.hid hres; have Hst := hst
      clear hres hdr kA kB
      have hi : IntKind.i64.wrap ((s.length : Int) - (r.ending.length : Int)) = (s.length : Int) - (r.ending.length : Int) := IntWalk.i64_in _ (by omega)
      have hk0 : (0 : Int) ≤ (k : Int) := by omega
      have hk1 : (k : Int) < 10 := by omega
      have hen2 : (r.ending.length : Int) ≤ 10 := by omega
      have ends := fun (x : Str) (W : World) => ends_ok s x (by unfold maxLen; omega) W
      have Ends := Lib.hid ends
      clear ends
      by_cases h3 : r.ending.length + 3 ≤ s.length
      · have hd3 : decide ((s.length : Int) - (r.ending.length : Int) < 3) = false := by simp; omega
        have hc := Ends.out r.ending wr
        cases hsu : Lib.hasSuffix s r.ending with
        | false =>
          rw [hsu] at hc
          have Hc := Lib.hid hc
          have hf : Sm.fits r s = false := by simp [Sm.fits, hsu]
          rw [hf] at Hr
          clear hc hf hsu
          go_wp2_with fail
          refine Hc.out.mono ?_
          rintro e w2 ⟨rfl, rfl⟩
          go_wp2
          go_roundw
          case rel => exact ⟨k + 1, by omega, by go_num, Lib.hid (by rw [Hr.out]; rfl), hb⟩
          case measure => simp [intOf]; omega
        | true =>
          rw [hsu] at hc
          have Hc := Lib.hid hc
          have hf : Sm.fits r s = !r.bars.any (Lib.hasSuffix s) := by simp [Sm.fits, hsu, h3]
          rw [hf] at Hr
          clear hc hf
          rcases hbars with ⟨hk8, hb0⟩ | ⟨hk8, hb0⟩
          · have he8 : ((k : Int) == 8) = false := by simp; omega
            have hr2 : res = s.take (s.length - r.ending.length) ++ r.to := by rw [Hr.out, hb0]; rfl
            have Hr2 := Lib.hid hr2; have Hsu := Lib.hid hsu
            clear hr2 Hr hb0 hsu
            have hn : ((s.length : Int) - (r.ending.length : Int)).toNat = s.length - r.ending.length := by omega
            have hn0 : (0 : Int) ≤ (s.length : Int) - (r.ending.length : Int) := by omega
            have hn2 : (r.ending.length : Int) ≤ (s.length : Int) := by omega
            have hn1 : (s.length : Int) - (r.ending.length : Int) ≤ (s.length : Int) := by omega
            have hcat : ((s.take (s.length - r.ending.length)).length + r.to.length ≤ 9223372036854775807) = True := by simp; omega
            have hcat2 : (min (s.length - r.ending.length) s.length + r.to.length ≤ 9223372036854775807) = True := by simp; omega
            go_wp2_with fail
            refine Hc.out.mono ?_
            rintro e w2 ⟨rfl, rfl⟩
            go_wp2
            go_quiet (fail)
            go_wp2
            go_ret
            exact ⟨ret_str (by rw [Hr2.out]), hall.trans (below_drewN' _ _ _)⟩
          · subst hk8
            rw [hb0, three_bars] at Hr
            clear hb0
            have Hsu := Lib.hid hsu
            clear hsu
            have c1 := Ends.out [115, 115] wr
            have c2 := Ends.out [117, 115] wr
            have c3 := Ends.out [105, 115] wr
            have hn : ((s.length : Int) - (r.ending.length : Int)).toNat = s.length - r.ending.length := by omega
            have hn0 : (0 : Int) ≤ (s.length : Int) - (r.ending.length : Int) := by omega
            have hn2 : (r.ending.length : Int) ≤ (s.length : Int) := by omega
            have hn1 : (s.length : Int) - (r.ending.length : Int) ≤ (s.length : Int) := by omega
            have hcat2 : (min (s.length - r.ending.length) s.length + r.to.length ≤ 9223372036854775807) = True := by simp; omega
            have hcat : (s.length - r.ending.length + r.to.length ≤ 9223372036854775807) = True := by simp; omega
            cases b1 : Lib.hasSuffix s [115, 115]
            all_goals cases b2 : Lib.hasSuffix s [117, 115]
            all_goals cases b3 : Lib.hasSuffix s [105, 115]
            all_goals
              rw [b1] at c1 Hr
              rw [b2] at c2 Hr
              rw [b3] at c3 Hr
              have C1 := Lib.hid c1; have C2 := Lib.hid c2; have C3 := Lib.hid c3
              clear c1 c2 c3 b1 b2 b3
              go_wp2_with fail
              refine Hc.out.mono ?_
              rintro e w2 ⟨rfl, rfl⟩
              go_wp2_with fail
              refine C1.out.mono ?_
              rintro e w2 ⟨rfl, rfl⟩
              try (go_wp2_with fail; refine C2.out.mono ?_; rintro e w2 ⟨rfl, rfl⟩)
              try (go_wp2_with fail; refine C3.out.mono ?_; rintro e w2 ⟨rfl, rfl⟩)
              go_wp2
            all_goals first
              | (go_roundw
                 case rel => exact ⟨8 + 1, by omega, by go_num, Lib.hid (by rw [Hr.out]; rfl), hb⟩
                 case measure => decide)
              | (go_quiet (fail)
                 go_wp2
                 go_ret
                 exact ⟨ret_str (by rw [Hr.out]; rfl), hall.trans (below_drewN' _ _ _)⟩)
      · have hf : Sm.fits r s = false := by simp [Sm.fits, h3]
        rw [hf] at Hr
        clear hf
        have hd3 : decide ((s.length : Int) - (r.ending.length : Int) < 3) = true := decide_eq_true (by omega)
        go_wp2
        go_roundw
        case rel => exact ⟨k + 1, by omega, by go_num, Lib.hid (by rw [Hr.out]; rfl), hb⟩
        case measure => simp [intOf]; omega
    · obtain rfl : k = 10 := by omega
      have htl : res = Sm.tail s := hst.out.symm
      have Htl := Lib.hid htl
      have hall := hbw.trans (hb.mono hbw.size)
      clear htl hst kA kB hbw hb
      have hi0 : IntKind.i64.wrap ((s.length : Int) - 1) = (s.length : Int) - 1 := IntWalk.i64_in _ (by omega)
      by_cases h4 : 4 ≤ s.length
      · have hd4 : decide (3 ≤ (s.length : Int) - 1) = true := by simp; omega
        have hi2 : IntKind.i64.wrap ((s.length : Int) - 1 - 1) = (s.length : Int) - 2 := (IntWalk.i64_in _ (by omega)).trans (by omega)
        have hk1 : (1 : Int) ≤ (s.length : Int) := by omega
        have hk2 : (2 : Int) ≤ (s.length : Int) := by omega
        have hk3 : 1 ≤ s.length := by omega
        have hk4 : 2 ≤ s.length := by omega
        have hj3 : (s.length : Int) - 1 < (s.length : Int) := by omega
        have hj4 : (s.length : Int) - 2 < (s.length : Int) := by omega
        have hj5 : (s.length : Int) - 1 ≤ (s.length : Int) := by omega
        have hk0 : (0 : Int) ≤ (s.length : Int) - 1 := by omega
        have hk6 : (0 : Int) ≤ (s.length : Int) - 2 := by omega
        obtain ⟨x, hx⟩ : ∃ x, s[s.length - 1] = x := ⟨_, rfl⟩
        obtain ⟨y, hy⟩ : ∃ y, s[s.length - 2] = y := ⟨_, rfl⟩
        have htw := Sm.twice_of (s := s) h4 hx hy
        cases ht : ((x.toNat : Int) == (y.toNat : Int)) with
        | false =>
          have hxy : (x == y) = false := by
            rw [beq_eq_false_iff_ne] at ht ⊢
            exact fun e => ht (by rw [e])
          have hq : Sm.tail s = s := by rw [Sm.tail, htw, hxy]; rfl
          have Hq := Lib.hid hq
          clear hq htw hxy
          go_wp2
          go_quiet (fail)
          go_wp2
          go_ret
          exact ⟨ret_str (by rw [Htl.out, Hq.out]), hall.trans (below_drewN' _ _ _)⟩
        | true =>
          have hxy : (x == y) = true := by
            rw [beq_iff_eq] at ht ⊢
            exact UInt8.toNat_inj.1 (by omega)
          rw [hxy] at htw
          cases hv : (Sm.vowels.any (· == x)) with
          | true =>
            have hq : Sm.tail s = s := by rw [Sm.tail, htw, hv]; rfl
            have Hq := Lib.hid hq
            clear hq htw hxy
            simp only [Sm.vowels, List.any_cons, List.any_nil, Bool.or_eq_true, beq_iff_eq, Bool.or_false] at hv
            rcases hv with h | h | h | h | h | h | h | h
            all_goals
              subst h
              first
                | (have ht2 : ((97 : Int) == (y.toNat : Int)) = true := ht)
                | (have ht2 : ((101 : Int) == (y.toNat : Int)) = true := ht)
                | (have ht2 : ((105 : Int) == (y.toNat : Int)) = true := ht)
                | (have ht2 : ((111 : Int) == (y.toNat : Int)) = true := ht)
                | (have ht2 : ((117 : Int) == (y.toNat : Int)) = true := ht)
                | (have ht2 : ((108 : Int) == (y.toNat : Int)) = true := ht)
                | (have ht2 : ((115 : Int) == (y.toNat : Int)) = true := ht)
                | (have ht2 : ((122 : Int) == (y.toNat : Int)) = true := ht)
              clear ht
              go_wp2
              go_quiet (fail)
              go_wp2
              go_ret
              exact ⟨ret_str (by rw [Htl.out, Hq.out]), hall.trans (below_drewN' _ _ _)⟩
          | false =>
            have hq : Sm.tail s = s.take (s.length - 1) := by rw [Sm.tail, htw, hv]; rfl
            have Hq := Lib.hid hq
            clear hq htw hxy
            simp only [Sm.vowels, List.any_cons, List.any_nil, Bool.or_eq_false_iff, beq_eq_false_iff_ne, Bool.or_false] at hv
            have vne : ∀ n : Nat, n < 256 → UInt8.ofNat n ≠ x → ((x.toNat : Int) != (n : Int)) = true := by
              intro n hn h
              rw [bne_iff_ne]
              intro e
              exact h (UInt8.toNat_inj.1 (by simp; omega))
            have v1 : ((x.toNat : Int) != 97) = true := vne 97 (by omega) hv.1
            have v2 : ((x.toNat : Int) != 101) = true := vne 101 (by omega) hv.2.1
            have v3 : ((x.toNat : Int) != 105) = true := vne 105 (by omega) hv.2.2.1
            have v4 : ((x.toNat : Int) != 111) = true := vne 111 (by omega) hv.2.2.2.1
            have v5 : ((x.toNat : Int) != 117) = true := vne 117 (by omega) hv.2.2.2.2.1
            have v6 : ((x.toNat : Int) != 108) = true := vne 108 (by omega) hv.2.2.2.2.2.1
            have v7 : ((x.toNat : Int) != 115) = true := vne 115 (by omega) hv.2.2.2.2.2.2.1
            have v8 : ((x.toNat : Int) != 122) = true := vne 122 (by omega) hv.2.2.2.2.2.2.2
            clear vne hv
            go_wp2
            go_quiet (fail)
            go_wp2
            go_ret
            exact ⟨ret_str (by rw [Htl.out, Hq.out]), hall.trans (below_drewN' _ _ _)⟩
      · have hd4 : decide (3 ≤ (s.length : Int) - 1) = false := by simp; omega
        have hq : Sm.tail s = s := by simp [Sm.tail, Sm.twice, h4]
        have Hq := Lib.hid hq
        clear hq
        go_wp2
        go_quiet (fail)
        go_wp2
        go_ret
        exact ⟨ret_str (by rw [Htl.out, Hq.out]), hall.trans (below_drewN' _ _ _)⟩
end Go.Proofs.YtinmpjhmbciapaaDoor
