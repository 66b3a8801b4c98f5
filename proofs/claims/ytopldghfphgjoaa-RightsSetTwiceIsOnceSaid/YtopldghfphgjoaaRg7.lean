/-
  Whom a grant concerns.
-/
import Derived.Test.YtopldghfphgjoaaRg6
import Derived.Outline
namespace Go.Proofs.Ytopldghfphgjoaa
open Go.RowKit

theorem applies1_ok (g : Group) (A : Option Addr) (c : Nat) (B1 B2 : Nat) (nm user : Str) (w : World) (hc1 : w.cell? ⟨B1, 0, none⟩ = some (.string (bs nm))) (hc2 : w.cell? ⟨B2, 0, none⟩ = some (.string (bs user))) (hB1 : B1 < w.heap.size) (hB2 : B2 < w.heap.size)
    (hs : SlR strC M0 w (.slice A g.2.length c) g.2) : Calls Try.prog 68 #[grv A c g, .pointer (some ⟨B1, 0, none⟩), .pointer (some ⟨B2, 0, none⟩)] w fun e w' => e = .returned (.bool (g.1 == nm && g.2.any (· == user))) ∧ Below w.heap.size w w' := by
  obtain ⟨gn, gm⟩ := g
  unfold grv
  dsimp only at hs ⊢
  have hcs := containsS_ok M0 _ gm user _ (hs.ext ((Below.refl w.heap.size w).alloc (Nat.le_refl _) (.cells #[.string (bs gn), .slice A gm.length c] 80)))
  have Hcs := Lib.hid hcs
  clear hcs hs
  cases h : (gn == nm) with
  | false =>
    go_enter Try.func68, Try.ntmps68
    go_wp2
    go_ret
    exact ⟨rfl, (Below.refl _ _).alloc (Nat.le_refl _) _⟩
  | true =>
    go_enter Try.func68, Try.ntmps68
    go_wp2_with fail
    refine Hcs.out.mono ?_
    rintro e w1 ⟨rfl, rfl⟩
    go_wp2
    go_ret
    exact ⟨rfl, (Below.refl _ _).alloc (Nat.le_refl _) _⟩

set_option maxHeartbeats 1000000 in
theorem applies_ok (v : Value) (gs : List Group) (g : Grant) (user : Str) (w : World) (h : SlR groupC M0 w v gs) (hl : g.1.length ≤ maxLen) : Calls Try.prog 47 #[v, gv g, .string (bs user)] w fun e w' => e = .returned (.bool (appliesF gs g.1 user)) ∧ Below w.heap.size w w' := by
  obtain ⟨A, c, rfl, _, _⟩ := h.form
  obtain ⟨who, gn, gr⟩ := g
  dsimp only at hl ⊢
  have hcut := fun w => cutPrefix_ok who hl w
  have hap : appliesF gs who user = if isHash who then memberF gs (trimH who) user else (trimH who == anyoneF || trimH who == user) := rfl
  obtain ⟨t, ht⟩ : ∃ t, isHash who = t := ⟨_, rfl⟩
  obtain ⟨nm, hnm⟩ : ∃ t, trimH who = t := ⟨_, rfl⟩
  rw [ht, hnm] at hap
  have hcut2 : ∀ w, Calls Try.prog 67 #[.string (bs who), .string ⟨#[35]⟩] w fun e w' => e = .returned (.tuple #[.string (bs nm), .bool t]) ∧ w = w' := fun w => by
    have := hcut w
    rw [ht, hnm] at this
    exact this
  have Hcut := Lib.hid hcut2; have Hap := Lib.hid hap
  clear hcut hcut2 hap ht hnm
  unfold gv
  have hb3 : Below w.heap.size w (((w.alloc (.cells #[.string (bs who), .bool gn, .int .i64 gr] 47)).alloc (.cells #[.string (bs user)] 9)).alloc (.cells #[.string (bs nm)] 9)) := (((Below.refl _ _).alloc (Nat.le_refl _) _).alloc (by simp) _).alloc (by simp; omega) _
  cases t with
  | false =>
    go_enter Try.func47, Try.ntmps47
    go_wp2_with fail
    refine (Hcut.out _).mono ?_
    rintro e w1 ⟨rfl, rfl⟩
    go_wp2
    all_goals go_ret
    all_goals refine ⟨ret_bool ?_, (((Below.refl _ _).alloc (Nat.le_refl _) _).alloc (by simp) _).alloc (by simp; omega) _⟩
    all_goals (have hh := Hap.out; simp_all [anyoneF])
  | true =>
    obtain ⟨W, hW⟩ : ∃ W, W = ((w.alloc (.cells #[.string (bs who), .bool gn, .int .i64 gr] 47)).alloc (.cells #[.string (bs user)] 9)).alloc (.cells #[.string (bs nm)] 9) := ⟨_, rfl⟩
    have k1 : Blk W (w.heap.size + 1) 9 #[.string (bs user)] := hW ▸ (by have := (Blk.new (w.alloc (.cells #[.string (bs who), .bool gn, .int .i64 gr] 47)) 9 #[.string (bs user)]).alloc (.cells #[.string (bs nm)] 9); simpa using this)
    have k2 : Blk W (w.heap.size + 1 + 1) 9 #[.string (bs nm)] := hW ▸ (by have := Blk.new ((w.alloc (.cells #[.string (bs who), .bool gn, .int .i64 gr] 47)).alloc (.cells #[.string (bs user)] 9)) 9 #[.string (bs nm)]; simpa using this)
    rw [← hW] at hb3
    have hcf := containsFuncG_ok M0 68 #[.pointer (some ⟨w.heap.size + 1 + 1, 0, none⟩), .pointer (some ⟨w.heap.size + 1, 0, none⟩)] (fun x => x.1 == nm && x.2.any (· == user)) gs _ W (h.ext hb3) (enters_of Try.func68 (by kernel_rfl) rfl)
      (fun g A c w2 hb2 _ hs => applies1_ok g A c _ _ nm user w2 ((k2.ext hb2).one.1) ((k1.ext hb2).one.1) ((k2.ext hb2).lt) ((k1.ext hb2).lt) hs)
    have Hcf := Lib.hid hcf; have HW := Lib.hid hW
    clear hcf hW k1 k2
    go_enter Try.func47, Try.ntmps47
    go_wp2_with fail
    refine (Hcut.out _).mono ?_
    rintro e w1 ⟨rfl, rfl⟩
    go_wp2_with fail
    rw [← HW.out]
    refine Hcf.out.mono ?_
    rintro e w1 ⟨rfl, hb4⟩
    go_wp2
    go_ret
    exact ⟨ret_bool (by rw [Hap.out]; rfl), below2 hb3 hb4⟩

set_option maxHeartbeats 1000000 in
theorem concerns_ok (v : Value) (gs : List Group) (who user : Str) (w : World) (h : SlR groupC M0 w v gs) (hg : ∀ g ∈ gs, g.1.length ≤ 1000) : Calls Try.prog 36 #[v, .string (bs who), .string (bs user)] w fun e w' => e = .returned (.bool (concernsF gs who user)) ∧ w = w' := by
  obtain ⟨A, c, rfl, _, _⟩ := h.form
  obtain ⟨hlc, hcm⟩ := h.lenM
  have Hgg := Lib.hid hg
  clear hg
  go_enter Try.func36, Try.ntmps36
  go_wp2
  go_loop [7] (fun i => ∃ k : Nat, k ≤ gs.length ∧ i = .int .i64 k ∧ Hid (∀ (j : Nat) (hj : j < gs.length), j < k → ((35 :: gs[j].1 == who) && gs[j].2.any (· == user)) = false)) (fun i => gs.length - (intOf i).toNat)
  case atStart => exact ⟨0, Nat.zero_le _, rfl, Lib.hid fun j _ h => absurd h (by omega)⟩
  case round =>
    obtain ⟨k, hk, rfl, hpre⟩ := hrel
    by_cases hlt : k < gs.length
    · obtain ⟨b, off, A2, c2, rfl, hbl, q0, q1, hl1, hs⟩ := h.groupAt hlt
      obtain ⟨⟨gn, gm⟩, hx⟩ : ∃ x, x = gs[k] := ⟨_, rfl⟩
      rw [← hx] at q0 q1 hl1 hs
      dsimp only at q0 q1 hl1 hs
      have hgl : List.length gn ≤ 1000 := by have := Hgg.out _ (List.getElem_mem hlt); rw [← hx] at this; exact this
      have hgm := hs.lenM
      have hht := hasText_ok M0 _ gm user w hs
      obtain ⟨t2, ht2⟩ : ∃ t, gm.any (· == user) = t := ⟨_, rfl⟩
      rw [ht2] at hht
      have hpk : ((35 :: gs[k].1 == who) && gs[k].2.any (· == user)) = ((35 :: gn == who) && t2) := by rw [← hx, ht2]
      have hnext : ((35 :: gn == who) && t2) = false → Hid (∀ (j : Nat) (hj : j < gs.length), j < k + 1 → ((35 :: gs[j].1 == who) && gs[j].2.any (· == user)) = false) := fun h0 => Lib.hid fun j hj hjk => by
        by_cases e : j = k
        · subst e; rw [hpk]; exact h0
        · exact hpre.out j hj (by omega)
      have hyes : ((35 :: gn == who) && t2) = true → concernsF gs who user = true := fun h0 => by
        rw [concernsF, anyL_true gs (fun x => (35 :: x.1 == who) && x.2.any (· == user)) k hlt (by rw [← h0, ← hpk])]; rfl
      have Hht := Lib.hid hht; have Hnext := Lib.hid hnext; have Hyes := Lib.hid hyes
      clear hht hnext hyes hpk hx ht2
      cases h1 : (35 :: gn == who) with
      | false =>
        rw [h1] at Hnext
        go_wp2
        go_round
        case rel => exact ⟨k + 1, by omega, by go_num, Hnext.out rfl⟩
        case measure => simp [intOf]; omega
      | true =>
        rw [h1] at Hnext Hyes
        go_wp2_with fail
        refine Hht.out.mono ?_
        rintro e w1 ⟨rfl, rfl⟩
        cases t2 with
        | true =>
          go_wp2
          go_ret
          exact ⟨ret_bool (by rw [Hyes.out rfl]), rfl⟩
        | false =>
          go_wp2
          go_round
          case rel => exact ⟨k + 1, by omega, by go_num, Hnext.out rfl⟩
          case measure => simp [intOf]; omega
    · have hc : concernsF gs who user = (who == user || who == anyoneF) := by
        rw [concernsF, any_false gs _ fun i hi => hpre.out i hi (by omega)]; rfl
      have Hc := Lib.hid hc
      clear hc
      go_wp2
      all_goals go_ret
      all_goals refine ⟨ret_bool ?_, rfl⟩
      all_goals (have hh := Hc.out; simp_all [anyoneF])
end Go.Proofs.Ytopldghfphgjoaa
