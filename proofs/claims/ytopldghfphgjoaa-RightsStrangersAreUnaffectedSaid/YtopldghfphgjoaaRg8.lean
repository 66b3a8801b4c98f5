/-
  The rights of a user.
-/
import Derived.Test.YtopldghfphgjoaaRg7
import Derived.RegionTactic
import Derived.ChangeAlike
import Derived.Outline
namespace Go.Proofs.Ytopldghfphgjoaa
open Go.RowKit

theorem or_i64 (a b : Nat) (ha : a < 64) (hb : b < 64) : bits .or .i64 (a : Int) (b : Int) = ((a ||| b : Nat) : Int) := by
  have hab : a ||| b < 64 := Nat.or_lt_two_pow (n := 6) ha hb
  unfold bits
  have h2 : (BitVec.ofInt 64 (a : Int) ||| BitVec.ofInt 64 (b : Int)).toNat = a ||| b := by
    rw [BitVec.ofInt_natCast, BitVec.ofInt_natCast, BitVec.toNat_or, BitVec.toNat_ofNat, BitVec.toNat_ofNat, Nat.mod_eq_of_lt (by omega), Nat.mod_eq_of_lt (by omega)]
  have h3 : IntKind.i64.wrap (((a ||| b : Nat) : Int)) = ((a ||| b : Nat) : Int) := IntWalk.i64_in _ (by omega)
  exact (congrArg (fun z : Nat => IntKind.i64.wrap (z : Int)) h2).trans h3
theorem andNot_i64 (a b : Nat) (ha : a < 64) : bits .andNot .i64 (a : Int) (b : Int) = ((andNot a b : Nat) : Int) := by
  have hab : andNot a b < 64 := Nat.xor_lt_two_pow (n := 6) ha (Nat.lt_of_le_of_lt Nat.and_le_left ha)
  unfold bits
  have h2 : (BitVec.ofInt 64 (a : Int) &&& ~~~BitVec.ofInt 64 (b : Int)).toNat = andNot a b := by
    apply Nat.eq_of_testBit_eq
    intro i
    rw [testBit_andNot, BitVec.ofInt_natCast, BitVec.ofInt_natCast, ← BitVec.getLsbD]
    simp only [BitVec.getLsbD_and, BitVec.getLsbD_not, BitVec.getLsbD_ofNat]
    by_cases hi : i < 64
    · simp [hi]
    · have : a.testBit i = false := Nat.testBit_lt_two_pow (Nat.lt_of_lt_of_le ha (by
        have := Nat.pow_le_pow_right (n := 2) (by omega) (show 6 ≤ i by omega); omega))
      simp [hi, this]
  have h3 : IntKind.i64.wrap (((andNot a b : Nat) : Int)) = ((andNot a b : Nat) : Int) := IntWalk.i64_in _ (by omega)
  exact (congrArg (fun z : Nat => IntKind.i64.wrap (z : Int)) h2).trans h3

/-- What Of answers. -/
def ofR (gs : List Group) (l : List Grant) (user : Str) : Int × Int × Int :=
  if (groupsF gs).1 ≠ 0 then (0, groupsF gs) else if (grantsF l).1 ≠ 0 then (0, grantsF l) else if userF user = false then (0, 10, -3) else (((ofF gs l user : Nat) : Int), 0, 0)
theorem grants_small {l : List Grant} (h : (grantsF l).1 = 0) : l.length ≤ 60 ∧ (∀ g ∈ l, 1 ≤ g.2.2 ∧ g.2.2 ≤ 63 ∧ whoF g.1 = true) := by
  unfold grantsF at h
  split at h
  · cases h
  · refine ⟨by omega, fun g hg => ?_⟩
    have hc : ∀ i c, grantErr l i = some c → c ≠ 0 := fun i c hc => by
      unfold grantErr at hc
      split at hc
      · cases hc
      · split at hc
        · cases hc; decide
        · split at hc
          · cases hc; decide
          · split at hc
            · cases hc
            · split at hc
              · cases hc
              · split at hc
                · cases hc; decide
                · cases hc
    obtain ⟨i, hi, rfl⟩ := List.mem_iff_getElem.1 hg
    have h1 := scan_code hc h i hi
    unfold grantErr at h1
    rw [List.getElem?_eq_getElem hi] at h1
    dsimp only at h1
    split at h1
    · cases h1
    · rename_i hw
      split at h1
      · cases h1
      · exact ⟨by omega, by omega, by simpa using hw⟩
theorem small64_of {l : List Grant} (h : (grantsF l).1 = 0) : Small64 l := fun g hg => by have := (grants_small h).2 g hg; omega
theorem given_snoc (gs : List Group) (user : Str) (l : List Grant) (k : Nat) (hk : k < l.length) : givenF gs user (l.take (k + 1)) = if appliesF gs l[k].1 user && !l[k].2.1 then givenF gs user (l.take k) ||| l[k].2.2.toNat else givenF gs user (l.take k) := by
  rw [List.take_succ_eq_append_getElem hk, givenF, List.foldl_append]; rfl
theorem denied_snoc (gs : List Group) (user : Str) (l : List Grant) (k : Nat) (hk : k < l.length) : deniedF gs user (l.take (k + 1)) = if appliesF gs l[k].1 user && l[k].2.1 then deniedF gs user (l.take k) ||| l[k].2.2.toNat else deniedF gs user (l.take k) := by
  rw [List.take_succ_eq_append_getElem hk, deniedF, List.foldl_append]; rfl

set_option maxRecDepth 20000 in
set_option maxHeartbeats 4000000 in
theorem of_ok (v0 v1 : Value) (gs : List Group) (l : List Grant) (user : Str) (w : World) (h0 : SlR groupC M0 w v0 gs) (h1 : SlR grantC M0 w v1 l) (hu : user.length ≤ maxLen) : Calls Try.prog 24 #[v0, v1, .string (bs user)] w fun e w' =>
    e = .returned (.tuple #[.int .i64 (ofR gs l user).1, .agg #[.int .i64 (ofR gs l user).2.1, .int .i64 (ofR gs l user).2.2]]) ∧ Below w.heap.size w w' := by
  obtain ⟨A0, c0, rfl, _, _⟩ := h0.form
  obtain ⟨A1, c1, rfl, _, _⟩ := h1.form
  obtain ⟨hlc0, hcm0⟩ := h0.lenM
  obtain ⟨hlc1, hcm1⟩ := h1.lenM
  obtain ⟨⟨f1, f2⟩, hf⟩ : ∃ f, groupsF gs = f := ⟨_, rfl⟩
  obtain ⟨⟨g1, g2⟩, hg⟩ : ∃ f, grantsF l = f := ⟨_, rfl⟩
  have hr : ofR gs l user = if f1 ≠ 0 then ((0 : Int), f1, f2) else if g1 ≠ 0 then (0, g1, g2) else if userF user = false then (0, 10, -3) else (((ofF gs l user : Nat) : Int), 0, 0) := by rw [ofR, hf, hg]
  have hG := fun w' (hb : Below w.heap.size w w') => groups_ok _ gs w' (h0.ext hb)
  have hL := fun w' (hb : Below w.heap.size w w') => grants_ok _ l w' (h1.ext hb)
  rw [hf] at hG
  rw [hg] at hL
  have HG := Lib.hid hG; have HL := Lib.hid hL; have Hr := Lib.hid hr; have Hg := Lib.hid hg
  clear hG hL hr hf hg
  have k0 := Blk.new w 24 #[.int .i64 0, .int .i64 0]
  have b0 := (Below.refl w.heap.size w).alloc (Nat.le_refl _) (.cells #[.int .i64 0, .int .i64 0] 24)
  by_cases hf0 : f1 = 0
  · subst hf0
    by_cases hg0 : g1 = 0
    · subst hg0
      have hs64 := small64_of (l := l) (by rw [Hg.out])
      have hln := (grants_small (l := l) (by rw [Hg.out])).1
      have HS := Lib.hid hs64
      obtain ⟨t, ht⟩ : ∃ t, userF user = t := ⟨_, rfl⟩
      have hsm := fun w => small_ok user hu w
      rw [ht] at hsm Hr
      have Hsm := Lib.hid hsm
      clear hsm ht hs64
      go_enter Try.func24, Try.ntmps24
      go_wp2_with fail
      refine (HG.out _ b0).mono ?_
      rintro e w1 ⟨rfl, hb1⟩
      have k1 := k0.ext hb1
      have b1 := b0.trans (hb1.mono b0.size)
      go_wp2_with fail
      refine (failed_ok _ _ _).mono ?_
      rintro e w2 ⟨rfl, hb2⟩
      have k2 := (k1.alloc _).ext hb2
      have b2 := (b1.alloc b1.size _).trans (hb2.mono (b1.alloc b1.size _).size)
      clear k0 k1 b0 b1
      go_wp2_with fail
      refine (HL.out _ b2).mono ?_
      rintro e w3 ⟨rfl, hb3⟩
      have k3 := k2.ext hb3
      have b3 := b2.trans (hb3.mono b2.size)
      go_wp2_with fail
      refine (failed_ok _ _ _).mono ?_
      rintro e w4 ⟨rfl, hb4⟩
      have k4 := (k3.alloc _).ext hb4
      have b4 := (b3.alloc b3.size _).trans (hb4.mono (b3.alloc b3.size _).size)
      clear k2 k3 b2 b3
      go_wp2_with fail
      refine (Hsm.out _).mono ?_
      rintro e w5 ⟨rfl, hb5⟩
      have k5 := k4.ext hb5
      have b5 := b4.trans (hb5.mono b4.size)
      clear k4 b4 Hsm HG HL
      cases t with
      | false =>
        have hr2 : ofR gs l user = (0, 10, -3) := by rw [Hr.out]; rfl
        have Hr2 := Lib.hid hr2
        clear hr2
        go_wp2_with fail
        refine (fault_ok _ _ _).mono ?_
        rintro e w6 ⟨rfl, hb6⟩
        have k6 := k5.ext hb6
        obtain ⟨c0, c1, z0, z1, s1⟩ := k6.two
        obtain ⟨e0, e1⟩ := k6.put2 (.int .i64 10) (.int .i64 (-3))
        have b6 := b5.trans (hb6.mono b5.size)
        go_wp2
        exact bodyPost_ret (v := .tuple #[.int .i64 0, .agg #[.int .i64 10, .int .i64 (-3)]]) (by simp [results, Try.results24, go_sem, e0, e1]) rfl ⟨by rw [Hr2.out], below_set2 b6 (Nat.le_refl _) _ _⟩
      | true =>
        have hr2 : ofR gs l user = (((ofF gs l user : Nat) : Int), 0, 0) := by rw [Hr.out]; rfl
        have Hr2 := Lib.hid hr2
        have h05 := h0.ext b5
        have h15 := h1.ext b5
        clear hr2 Hr
        go_wp2
        go_loopw [10, 11, 30] (fun g d i wr => ∃ (k gk dk : Nat), k ≤ l.length ∧ i = .int .i64 k ∧ g = .int .i64 gk ∧ d = .int .i64 dk ∧ Hid (gk = givenF gs user (l.take k)) ∧ Hid (dk = deniedF gs user (l.take k)) ∧ gk < 64 ∧ dk < 64 ∧ Blk wr w.heap.size 24 #[.int .i64 0, .int .i64 0] ∧ Below w5.heap.size w5 wr) (fun _ _ i _ => l.length - (intOf i).toNat)
        case atStart => exact ⟨0, 0, 0, Nat.zero_le _, rfl, rfl, rfl, Lib.hid rfl, Lib.hid rfl, by omega, by omega, k5, Below.refl _ _⟩
        case round =>
          obtain ⟨k, gk, dk, hk, rfl, rfl, rfl, hgk, hdk, hg64, hd64, kb, hb⟩ := hrel
          by_cases hlt : k < l.length
          · obtain ⟨b, off, rfl, hbl, q0, q1, q2, hl1, _, _⟩ := (h15.ext hb).grantAt hlt
            have hsk := HS.out _ (List.getElem_mem hlt)
            have hg1 := given_snoc gs user l k hlt
            have hd1 := denied_snoc gs user l k hlt
            obtain ⟨⟨who, neg, r⟩, hx⟩ : ∃ x, x = l[k] := ⟨_, rfl⟩
            rw [← hx] at q0 q1 q2 hl1 hsk hg1 hd1
            dsimp only at q0 q1 q2 hl1 hsk hg1 hd1
            obtain ⟨rn, rfl⟩ := Int.eq_ofNat_of_zero_le hsk.1
            obtain ⟨t, ht⟩ : ∃ t, appliesF gs who user = t := ⟨_, rfl⟩
            rw [ht, ← hgk.out, Int.toNat_natCast] at hg1
            rw [ht, ← hdk.out, Int.toNat_natCast] at hd1
            have hor1 := or_i64 gk rn hg64 (by omega)
            have hor2 := or_i64 dk rn hd64 (by omega)
            have hg2 : gk ||| rn < 64 := Nat.or_lt_two_pow (n := 6) hg64 (by omega)
            have hd2 : dk ||| rn < 64 := Nat.or_lt_two_pow (n := 6) hd64 (by omega)
            have hwb := (Below.refl wr.heap.size wr).alloc (Nat.le_refl _) (.cells #[.string (bs who), .bool neg, .int .i64 (rn : Int)] 47)
            have hap := applies_ok _ gs (who, neg, (rn : Int)) user _ ((h05.ext hb).ext hwb) hl1
            unfold gv at hap
            dsimp only at hap
            rw [ht] at hap
            have Hap := Lib.hid hap; have Hg1 := Lib.hid hg1; have Hd1 := Lib.hid hd1
            have kx := Blk.new wr 47 #[.string (bs who), .bool neg, .int .i64 (rn : Int)]
            have Ho1 := Lib.hid hor1; have Ho2 := Lib.hid hor2
            clear hap hg1 hd1 hx ht hsk hor1 hor2
            go_wp2_with fail
            refine Hap.out.mono ?_
            rintro e w6 ⟨rfl, hb6⟩
            have hb66 := below2 hwb hb6
            have kb6 := kb.ext hb66
            have b6 := hb.trans (hb66.mono hb.size)
            have kx6 := kx.ext hb6
            obtain ⟨x0, x1, x2, _, _, _, xb⟩ := kx6.three
            clear kx kb hwb
            cases t with
            | false =>
              go_wp2
              go_roundw
              case rel => exact ⟨k + 1, gk, dk, by omega, by go_num, rfl, rfl, Lib.hid (by rw [Hg1.out]; rfl), Lib.hid (by rw [Hd1.out]; rfl), hg64, hd64, kb6, b6⟩
              case measure => simp [intOf]; omega
            | true =>
              cases neg with
              | false =>
                have hor1 := Ho1.out
                go_wp2
                go_roundw
                case rel => exact ⟨k + 1, gk ||| rn, dk, by omega, by go_num, by simp, rfl, Lib.hid (by rw [Hg1.out]; rfl), Lib.hid (by rw [Hd1.out]; rfl), hg2, hd64, kb6, b6⟩
                case measure => simp [intOf]; omega
              | true =>
                have hor2 := Ho2.out
                go_wp2
                go_roundw
                case rel => exact ⟨k + 1, gk, dk ||| rn, by omega, by go_num, rfl, by simp, Lib.hid (by rw [Hg1.out]; rfl), Lib.hid (by rw [Hd1.out]; rfl), hg64, hd2, kb6, b6⟩
                case measure => simp [intOf]; omega
          · have he : k = l.length := by omega
            subst he
            have hfin : andNot gk dk = ofF gs l user := by rw [ofF, hgk.out, hdk.out, List.take_length]
            have hand := andNot_i64 gk dk hg64
            rw [hfin] at hand
            have Hfin := Lib.hid hfin
            clear hfin
            go_wp2_with fail
            refine (none_ok _).mono ?_
            rintro e w6 ⟨rfl, hb6⟩
            have k6 := kb.ext hb6
            obtain ⟨c0, c1, z0, z1, s1⟩ := k6.two
            obtain ⟨e0, e1⟩ := k6.put2 (.int .i64 0) (.int .i64 0)
            have b6 := (b5.trans (hb.mono b5.size)).trans (hb6.mono (b5.trans (hb.mono b5.size)).size)
            go_wp2
            exact bodyPost_ret (v := .tuple #[.int .i64 ((ofF gs l user : Nat) : Int), .agg #[.int .i64 0, .int .i64 0]]) (by simp [results, Try.results24, go_sem, e0, e1]) rfl ⟨by rw [Hr2.out], below_set2 b6 (Nat.le_refl _) _ _⟩
    · have hr2 : ofR gs l user = (0, g1, g2) := by rw [Hr.out, if_neg (by simp), if_pos hg0]
      rw [hr2]
      have hfb : (g1 != 0) = true := by simpa using hg0
      clear hr2
      go_enter Try.func24, Try.ntmps24
      go_wp2_with fail
      refine (HG.out _ b0).mono ?_
      rintro e w1 ⟨rfl, hb1⟩
      have k1 := k0.ext hb1
      have b1 := b0.trans (hb1.mono b0.size)
      go_wp2_with fail
      refine (failed_ok _ _ _).mono ?_
      rintro e w2 ⟨rfl, hb2⟩
      have k2 := (k1.alloc _).ext hb2
      have b2 := (b1.alloc b1.size _).trans (hb2.mono (b1.alloc b1.size _).size)
      clear k0 k1 b0 b1
      go_wp2_with fail
      refine (HL.out _ b2).mono ?_
      rintro e w3 ⟨rfl, hb3⟩
      have k3 := k2.ext hb3
      have b3 := b2.trans (hb3.mono b2.size)
      go_wp2_with fail
      refine (failed_ok _ _ _).mono ?_
      rintro e w4 ⟨rfl, hb4⟩
      have k4 := (k3.alloc _).ext hb4
      have k5 := (Blk.new w3 24 #[.int .i64 g1, .int .i64 g2]).ext hb4
      have b4 := (b3.alloc b3.size _).trans (hb4.mono (b3.alloc b3.size _).size)
      clear k2 k3 b2 b3
      obtain ⟨c0, c1, z0, z1, s1⟩ := k4.two
      obtain ⟨d0, d1, y0, y1, s2⟩ := k5.two
      go_wp2
      go_region
      all_goals go_wp2
      all_goals
        obtain ⟨e0, e1⟩ := k4.put2 (.int .i64 g1) (.int .i64 g2)
        refine bodyPost_ret (v := .tuple #[.int .i64 0, .agg #[.int .i64 g1, .int .i64 g2]]) (by simp [results, Try.results24, go_sem, e0, e1]) rfl ⟨rfl, ?_⟩
        exact below_drew (below_set2 b4 (Nat.le_refl _) _ _)
  · have hr2 : ofR gs l user = (0, f1, f2) := by rw [Hr.out, if_pos hf0]
    rw [hr2]
    have hfb : (f1 != 0) = true := by simpa using hf0
    clear hr2
    go_enter Try.func24, Try.ntmps24
    go_wp2_with fail
    refine (HG.out _ b0).mono ?_
    rintro e w1 ⟨rfl, hb1⟩
    have k1 := k0.ext hb1
    have b1 := b0.trans (hb1.mono b0.size)
    go_wp2_with fail
    refine (failed_ok _ _ _).mono ?_
    rintro e w2 ⟨rfl, hb2⟩
    have k2 := (k1.alloc _).ext hb2
    have k3 := (Blk.new w1 24 #[.int .i64 f1, .int .i64 f2]).ext hb2
    have b2 := (b1.alloc b1.size _).trans (hb2.mono (b1.alloc b1.size _).size)
    obtain ⟨c0, c1, z0, z1, s1⟩ := k2.two
    obtain ⟨d0, d1, y0, y1, s2⟩ := k3.two
    go_wp2
    go_region
    all_goals go_wp2
    all_goals
      obtain ⟨e0, e1⟩ := k2.put2 (.int .i64 f1) (.int .i64 f2)
      refine bodyPost_ret (v := .tuple #[.int .i64 0, .agg #[.int .i64 f1, .int .i64 f2]]) (by simp [results, Try.results24, go_sem, e0, e1]) rfl ⟨rfl, ?_⟩
      exact below_drew (below_set2 b2 (Nat.le_refl _) _ _)
end Go.Proofs.Ytopldghfphgjoaa
