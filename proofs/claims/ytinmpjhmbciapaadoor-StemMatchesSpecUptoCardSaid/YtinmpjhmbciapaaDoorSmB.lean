/-
  stem: a step (printed by gen/smstep.py).
-/
import Derived.Test.YtinmpjhmbciapaaDoorSmA
namespace Go.Proofs.YtinmpjhmbciapaaDoor
open Go.RowKit
set_option linter.unusedVariables false
theorem lit_els (M : Nat → Prop) (w : World) : ∀ l : List Str, (∀ s ∈ l, s.length ≤ maxLen) → Els strC M w (l.map fun s => .string (bs s)) l
  | [], _ => Els.nil _ _ _
  | s :: l, h => (Els.single (C := strC) (cs := [.string (bs s)]) ⟨rfl, h s (by simp)⟩).append (lit_els M w l fun x hx => h x (by simp [hx]))
theorem lit_row (w : World) (l : List Str) (h : ∀ s ∈ l, s.length ≤ 1000) (hn : l.length ≤ 1000) : SlR strC M0 (w.alloc (.cells (l.map fun s => Value.string (bs s)).toArray 9)) (.slice (some ⟨w.heap.size, 0, none⟩) l.length l.length) l :=
  (Own.built (M := M0) (B := w.heap.size) 9 (lit_els _ w l fun s hs => by have := h s hs; unfold maxLen; omega) (Nat.le_refl _) (by unfold maxLen; omega)).read0
theorem rule_cells {w : World} {b B0 : Nat} (kB : Blk w b 63 #[.string ⟨#[105, 101, 115]⟩, .string ⟨#[105]⟩, .slice none 0 0, .string ⟨#[115, 115, 101, 115]⟩, .string ⟨#[115, 115]⟩, .slice none 0 0, .string ⟨#[110, 101, 115, 115]⟩, .string ⟨#[]⟩, .slice none 0 0, .string ⟨#[109, 101, 110, 116]⟩, .string ⟨#[]⟩, .slice none 0 0, .string ⟨#[105, 110, 103]⟩, .string ⟨#[]⟩, .slice none 0 0, .string ⟨#[101, 100, 108, 121]⟩, .string ⟨#[]⟩, .slice none 0 0, .string ⟨#[101, 100]⟩, .string ⟨#[]⟩, .slice none 0 0, .string ⟨#[108, 121]⟩, .string ⟨#[]⟩, .slice none 0 0, .string ⟨#[115]⟩, .string ⟨#[]⟩, .slice (some ⟨B0, 0, none⟩) 3 3, .string ⟨#[121]⟩, .string ⟨#[105]⟩, .slice none 0 0]) (k : Nat) (hk : k < 10) : ∃ (r : Sm.Rule) (v : Value), Sm.rules.drop k = r :: Sm.rules.drop (k + 1) ∧
    w.cell? ⟨b, k * 3, none⟩ = some (.string (bs r.ending)) ∧ w.cell? ⟨b, k * 3 + 1, none⟩ = some (.string (bs r.to)) ∧ w.cell? ⟨b, k * 3 + 2, none⟩ = some v ∧
    (v = .slice none 0 0 ∧ r.bars = [] ∨ v = .slice (some ⟨B0, 0, none⟩) 3 3 ∧ r.bars = [[115, 115], [117, 115], [105, 115]]) ∧ r.to.length ≤ 10 := by
  match k, hk with
  | 0, _ => exact ⟨_, _, rfl, kB.cell 0, kB.cell 1, kB.cell 2, .inl ⟨rfl, rfl⟩, by decide⟩
  | 1, _ => exact ⟨_, _, rfl, kB.cell 3, kB.cell 4, kB.cell 5, .inl ⟨rfl, rfl⟩, by decide⟩
  | 2, _ => exact ⟨_, _, rfl, kB.cell 6, kB.cell 7, kB.cell 8, .inl ⟨rfl, rfl⟩, by decide⟩
  | 3, _ => exact ⟨_, _, rfl, kB.cell 9, kB.cell 10, kB.cell 11, .inl ⟨rfl, rfl⟩, by decide⟩
  | 4, _ => exact ⟨_, _, rfl, kB.cell 12, kB.cell 13, kB.cell 14, .inl ⟨rfl, rfl⟩, by decide⟩
  | 5, _ => exact ⟨_, _, rfl, kB.cell 15, kB.cell 16, kB.cell 17, .inl ⟨rfl, rfl⟩, by decide⟩
  | 6, _ => exact ⟨_, _, rfl, kB.cell 18, kB.cell 19, kB.cell 20, .inl ⟨rfl, rfl⟩, by decide⟩
  | 7, _ => exact ⟨_, _, rfl, kB.cell 21, kB.cell 22, kB.cell 23, .inl ⟨rfl, rfl⟩, by decide⟩
  | 8, _ => exact ⟨_, _, rfl, kB.cell 24, kB.cell 25, kB.cell 26, .inr ⟨rfl, rfl⟩, by decide⟩
  | 9, _ => exact ⟨_, _, rfl, kB.cell 27, kB.cell 28, kB.cell 29, .inl ⟨rfl, rfl⟩, by decide⟩
theorem Sm.twice_of {s : List UInt8} {x y : UInt8} (h4 : 4 ≤ s.length) (hx : s[s.length - 1] = x) (hy : s[s.length - 2] = y) : Sm.twice s = ((x == y) && !(Sm.vowels.any (· == x))) := by
  have e1 : s[s.length - 1]? = some x := by rw [List.getElem?_eq_getElem (by omega), hx]
  have e2 : s[s.length - 2]? = some y := by rw [List.getElem?_eq_getElem (by omega), hy]
  simp [Sm.twice, e1, e2, h4, BEq.comm]
theorem Sm.index_hit {x : UInt8} (h : Sm.vowels.any (· == x) = true) : decide (Lib.indexByte [97, 101, 105, 111, 117, 108, 115, 122] x < 0) = false := by
  simp only [Sm.vowels, List.any_cons, List.any_nil, Bool.or_eq_true, beq_iff_eq, Bool.or_false] at h
  rcases h with h | h | h | h | h | h | h | h <;> (subst h; rfl)
theorem Sm.index_miss {x : UInt8} (h : Sm.vowels.any (· == x) = false) : decide (Lib.indexByte [97, 101, 105, 111, 117, 108, 115, 122] x < 0) = true := by
  simp only [Sm.vowels, List.any_cons, List.any_nil, Bool.or_eq_false_iff, beq_eq_false_iff_ne, Bool.or_false] at h
  simp [Lib.indexByte, h, Ne.symm]
set_option maxRecDepth 100000 in
set_option maxHeartbeats 8000000 in
theorem step_ok (s : Str) (w : World) (hs : s.length ≤ 4000000) :
    Calls Tryd.prog 37 #[.string (bs s)] w fun e w' => e = .returned (.string (bs (Sm.step s))) ∧ Below w.heap.size w w' := by
  have hbar : SlR strC M0 (w.alloc (.cells #[.string ⟨#[115, 115]⟩, .string ⟨#[117, 115]⟩, .string ⟨#[105, 115]⟩] 9)) (.slice (some ⟨w.heap.size, 0, none⟩) 3 3) [[115, 115], [117, 115], [105, 115]] := lit_row w [[115, 115], [117, 115], [105, 115]] (by decide) (by decide)
  obtain ⟨res, hres⟩ : ∃ r, Sm.step s = r := ⟨_, rfl⟩
  rw [hres]
  have Hres := Lib.hid hres
  clear hres
  have hbw := ((Below.refl w.heap.size w).alloc (Nat.le_refl _) (.cells #[.string ⟨#[115, 115]⟩, .string ⟨#[117, 115]⟩, .string ⟨#[105, 115]⟩] 9)).alloc (by simp) (.cells #[.string ⟨#[105, 101, 115]⟩, .string ⟨#[105]⟩, .slice none 0 0, .string ⟨#[115, 115, 101, 115]⟩, .string ⟨#[115, 115]⟩, .slice none 0 0, .string ⟨#[110, 101, 115, 115]⟩, .string ⟨#[]⟩, .slice none 0 0, .string ⟨#[109, 101, 110, 116]⟩, .string ⟨#[]⟩, .slice none 0 0, .string ⟨#[105, 110, 103]⟩, .string ⟨#[]⟩, .slice none 0 0, .string ⟨#[101, 100, 108, 121]⟩, .string ⟨#[]⟩, .slice none 0 0, .string ⟨#[101, 100]⟩, .string ⟨#[]⟩, .slice none 0 0, .string ⟨#[108, 121]⟩, .string ⟨#[]⟩, .slice none 0 0, .string ⟨#[115]⟩, .string ⟨#[]⟩, .slice (some ⟨w.heap.size, 0, none⟩) 3 3, .string ⟨#[121]⟩, .string ⟨#[105]⟩, .slice none 0 0] 63)
  have kB := Blk.new (w.alloc (.cells #[.string ⟨#[115, 115]⟩, .string ⟨#[117, 115]⟩, .string ⟨#[105, 115]⟩] 9)) 63 #[.string ⟨#[105, 101, 115]⟩, .string ⟨#[105]⟩, .slice none 0 0, .string ⟨#[115, 115, 101, 115]⟩, .string ⟨#[115, 115]⟩, .slice none 0 0, .string ⟨#[110, 101, 115, 115]⟩, .string ⟨#[]⟩, .slice none 0 0, .string ⟨#[109, 101, 110, 116]⟩, .string ⟨#[]⟩, .slice none 0 0, .string ⟨#[105, 110, 103]⟩, .string ⟨#[]⟩, .slice none 0 0, .string ⟨#[101, 100, 108, 121]⟩, .string ⟨#[]⟩, .slice none 0 0, .string ⟨#[101, 100]⟩, .string ⟨#[]⟩, .slice none 0 0, .string ⟨#[108, 121]⟩, .string ⟨#[]⟩, .slice none 0 0, .string ⟨#[115]⟩, .string ⟨#[]⟩, .slice (some ⟨w.heap.size, 0, none⟩) 3 3, .string ⟨#[121]⟩, .string ⟨#[105]⟩, .slice none 0 0]
  rw [show ∀ o, (w.alloc o).heap.size = w.heap.size + 1 from fun o => by simp] at kB
  replace hbar := hbar.ext (w' := _) ((Below.refl _ _).alloc (Nat.le_refl _) (.cells #[.string ⟨#[105, 101, 115]⟩, .string ⟨#[105]⟩, .slice none 0 0, .string ⟨#[115, 115, 101, 115]⟩, .string ⟨#[115, 115]⟩, .slice none 0 0, .string ⟨#[110, 101, 115, 115]⟩, .string ⟨#[]⟩, .slice none 0 0, .string ⟨#[109, 101, 110, 116]⟩, .string ⟨#[]⟩, .slice none 0 0, .string ⟨#[105, 110, 103]⟩, .string ⟨#[]⟩, .slice none 0 0, .string ⟨#[101, 100, 108, 121]⟩, .string ⟨#[]⟩, .slice none 0 0, .string ⟨#[101, 100]⟩, .string ⟨#[]⟩, .slice none 0 0, .string ⟨#[108, 121]⟩, .string ⟨#[]⟩, .slice none 0 0, .string ⟨#[115]⟩, .string ⟨#[]⟩, .slice (some ⟨w.heap.size, 0, none⟩) 3 3, .string ⟨#[121]⟩, .string ⟨#[105]⟩, .slice none 0 0] 63))
  go_enter Tryd.func37, Tryd.ntmps37
  go_wp2_with fail
  generalize hw1 : (w.alloc _).alloc _ = w1 at hbw kB hbar ⊢
  have Hw1 := Lib.hid hw1; clear hw1
  go_loopw [21] (fun i wr => ∃ k : Nat, k ≤ 10 ∧ i = .int .i64 k ∧ Hid (Sm.stepOf (Sm.rules.drop k) s = res) ∧ Below w1.heap.size w1 wr) (fun i _ => 10 - (intOf i).toNat)
  case atStart => exact ⟨0, Nat.zero_le _, rfl, Lib.hid Hres.out, Below.refl _ _⟩
  case round =>
    obtain ⟨k, hk, rfl, hst, hb⟩ := hrel
    by_cases hlt : k < 10
    · obtain ⟨r, v, hdr, c0, c1, c2, hvv, hto⟩ := rule_cells (kB.ext hb) k hlt
      have hbar1 := hbar.ext (hb.mono (Nat.le_refl _))
      have Hk := Lib.hid kB
      clear kB hbar
      have hsl : SlR strC M0 wr v r.bars := by
        rcases hvv with ⟨rfl, e⟩ | ⟨rfl, e⟩
        · rw [e]; exact SlR.nil _ _ _
        · rw [e]; exact hbar1
      clear hbar1
      have hsz := hb.size
      obtain ⟨A, n, c, rfl⟩ : ∃ A n c, v = .slice A n c := by
        rcases hvv with ⟨rfl, e⟩ | ⟨rfl, e⟩
        · exact ⟨_, _, _, rfl⟩
        · exact ⟨_, _, _, rfl⟩
      clear hvv
      have hba := (Below.refl w1.heap.size wr).alloc hsz (.cells #[.string (bs r.ending), .string (bs r.to), .slice A n c] 63)
      have hcall := apply_ok M0 r (.slice A n c) s _ (hsl.ext ((Below.refl wr.heap.size wr).alloc (Nat.le_refl _) (.cells #[.string (bs r.ending), .string (bs r.to), .slice A n c] 63))) hs hto
      clear hsl
      go_wp2_with fail
      refine hcall.mono ?_
      rintro e w2 ⟨rfl, hq⟩
      clear hcall
      have hb2 := hb.trans (hba.trans (hq.mono (Nat.le_trans hsz hba.size)))
      have hall := hbw.trans (hb2.mono hbw.size)
      clear hq hba c0 c1 c2
      obtain ⟨t, ht⟩ : ∃ t, Sm.fits r s = t := ⟨_, rfl⟩
      obtain ⟨ap, hap⟩ : ∃ a, Sm.applied r s = a := ⟨_, rfl⟩
      rw [ht, hap]
      have hres : res = if t then ap else Sm.stepOf (Sm.rules.drop (k + 1)) s := by
        rw [← hst.out, hdr, Sm.stepOf, ht, ← hap]
        cases t with
        | true => rw [if_pos rfl, if_pos rfl, Sm.applied_fits ht]
        | false => rw [if_neg (by simp), if_neg (by simp)]
      have Hap := Lib.hid hap; have Ht := Lib.hid ht; have Hdr := Lib.hid hdr; have Hr := Lib.hid hres
      clear hap ht hdr hres
      cases t with
      | true =>
        go_wp2
        go_ret
        exact ⟨by rw [Hr.out]; rfl, hall⟩
      | false =>
        go_wp2
        go_round
        case rel => exact ⟨k + 1, by omega, by go_num, Lib.hid (by rw [Hr.out]; rfl), hb2⟩
        case measure => simp [intOf]; omega
    · obtain rfl : k = 10 := by omega
      have htl : res = Sm.tail s := hst.out.symm
      have Htl := Lib.hid htl
      have hall := hbw.trans (hb.mono hbw.size)
      clear htl hst kB hbar hbw hb
      have hib := fun (c : UInt8) (W : World) => Tryd.strings_IndexByte (bs [97, 101, 105, 111, 117, 108, 115, 122]) (c.toNat : Int) W
      by_cases h4 : 4 ≤ s.length
      · have hd4 : decide (4 ≤ (s.length : Int)) = true := by simp; omega
        have hi1 : IntKind.i64.wrap ((s.length : Int) - 1) = (s.length : Int) - 1 := IntWalk.i64_in _ (by omega)
        have hi2 : IntKind.i64.wrap ((s.length : Int) - 2) = (s.length : Int) - 2 := IntWalk.i64_in _ (by omega)
        have hj1 : (0 : Int) ≤ (s.length : Int) - 1 := by omega
        have hj2 : (0 : Int) ≤ (s.length : Int) - 2 := by omega
        have hk1 : (1 : Int) ≤ (s.length : Int) := by omega
        have hk2 : (2 : Int) ≤ (s.length : Int) := by omega
        have hk3 : 1 ≤ s.length := by omega
        have hk4 : 2 ≤ s.length := by omega
        have hj3 : (s.length : Int) - 1 < (s.length : Int) := by omega
        have hj4 : (s.length : Int) - 2 < (s.length : Int) := by omega
        obtain ⟨x, hx⟩ : ∃ x, s[s.length - 1] = x := ⟨_, rfl⟩
        obtain ⟨y, hy⟩ : ∃ y, s[s.length - 2] = y := ⟨_, rfl⟩
        have hib := fun (n : Nat) => hib x (wr.drewN n)
        rw [bs_toList, show ((x.toNat : Int)).toNat.toUInt8 = x from by simp] at hib
        have htw := Sm.twice_of (s := s) h4 hx hy
        cases ht : ((x.toNat : Int) == (y.toNat : Int)) with
        | false =>
          have hxy : (x == y) = false := by
            rw [beq_eq_false_iff_ne] at ht ⊢
            exact fun e => ht (by rw [e])
          have hq : Sm.tail s = s := by rw [Sm.tail, htw, hxy]; rfl
          have Hq := Lib.hid hq
          clear hq hib htw hxy
          go_wp2
          go_quiet (fail)
          go_wp2
          go_ret
          exact ⟨ret_str (by rw [Htl.out, Hq.out]), hall.trans (below_drewN' _ _ _)⟩
        | true =>
          have hxy : (x == y) = true := by
            rw [beq_iff_eq] at ht ⊢
            exact UInt8.toNat_inj.1 (by omega)
          rw [hxy] at htw
          cases hv : (Sm.vowels.any (· == x)) with
          | true =>
            have hlt : decide (Lib.indexByte [97, 101, 105, 111, 117, 108, 115, 122] x < 0) = false := Sm.index_hit hv
            have hq : Sm.tail s = s := by rw [Sm.tail, htw, hv]; rfl
            obtain ⟨n, hn⟩ : ∃ n, Lib.indexByte [97, 101, 105, 111, 117, 108, 115, 122] x = n := ⟨_, rfl⟩
            rw [hn] at hlt hib
            have Hq := Lib.hid hq; have Hib := Lib.hid hib
            clear hq htw hxy hn hv hib
            go_wp2
            go_quiet ((go_at_call 63; exact Calls.quiet_of_same (Hib.out _)))
            go_wp2
            go_ret
            exact ⟨ret_str (by rw [Htl.out, Hq.out]), hall.trans (below_drewN' _ _ _)⟩
          | false =>
            have hlt : decide (Lib.indexByte [97, 101, 105, 111, 117, 108, 115, 122] x < 0) = true := Sm.index_miss hv
            have hq : Sm.tail s = s.take (s.length - 1) := by rw [Sm.tail, htw, hv]; rfl
            obtain ⟨n, hn⟩ : ∃ n, Lib.indexByte [97, 101, 105, 111, 117, 108, 115, 122] x = n := ⟨_, rfl⟩
            rw [hn] at hlt hib
            have Hq := Lib.hid hq; have Hib := Lib.hid hib
            clear hq htw hxy hn hv hib
            go_wp2
            go_quiet ((go_at_call 63; exact Calls.quiet_of_same (Hib.out _)))
            go_wp2
            go_ret
            exact ⟨ret_str (by rw [Htl.out, Hq.out]), hall.trans (below_drewN' _ _ _)⟩
      · have hd4 : decide (4 ≤ (s.length : Int)) = false := by simp; omega
        have hq : Sm.tail s = s := by simp [Sm.tail, Sm.twice, h4]
        have Hq := Lib.hid hq
        clear hq hib
        go_wp2
        go_quiet (fail)
        go_wp2
        go_ret
        exact ⟨ret_str (by rw [Htl.out, Hq.out]), hall.trans (below_drewN' _ _ _)⟩
end Go.Proofs.YtinmpjhmbciapaaDoor
