/-
  The reader of queries: begins.
-/
import Derived.Test.YtihhgmpanfboaaaGreatDoorK10
namespace Go.Proofs.YtihhgmpanfboaaaGreatDoor
open Go.RowKit
set_option linter.unusedVariables false
theorem index_marks (x : UInt8) : decide ((0 : Int) ≤ Lib.indexByte [45, 40, 34, 42] x) = (x == 45 || (x == 40 || (x == 34 || x == 42))) := by
  unfold Lib.indexByte
  rcases x with ⟨⟨x, hx⟩⟩
  revert hx x
  decide +kernel
set_option maxRecDepth 100000 in
set_option maxHeartbeats 8000000 in
theorem begins_ok (w0 : World) (hT : TabsU w0) (g : Nat) (hg : w0.heap.size ≤ g) (s r : Str) (w : World) (hr : Rd w g s r) (hs : s.length ≤ 4000) (hb0 : Below w0.heap.size w0 w) : Calls Tryz.prog 59 #[.pointer (some ⟨g, 0, none⟩)] w fun e w' =>
    e = .returned (.bool (Q.begins r)) ∧ Rd w' g s r ∧ But g w w' := by
  obtain ⟨res, hres⟩ : ∃ x, Q.begins r = x := ⟨_, rfl⟩
  rw [hres]
  have hrl := hr.2.length_le
  have hdr := suf_drop hr.2
  obtain ⟨i, hi⟩ : ∃ i, s.length - r.length = i := ⟨_, rfl⟩
  rw [hi] at hdr
  have hi0 : (0 : Int) ≤ (i : Int) := by omega
  have hil : (i : Int) ≤ (s.length : Int) := by omega
  have hdi2 : r.take (s.length - i) = r := List.take_of_length_le (by omega)
  have hdec := fun V (hb : Below w.heap.size w V) => Tryz.utf8_DecodeRuneInString (bs r) V ((hT.ext (hb0.trans (hb.mono hb0.size))).u8)
  obtain ⟨c, hc⟩ : ∃ c, (Lib.decodeGo (bs r)).1 = c := ⟨_, rfl⟩
  obtain ⟨n, hn⟩ : ∃ n, (Lib.decodeGo (bs r)).2 = n := ⟨_, rfl⟩
  simp only [hc, hn] at hdec
  have hck : r ≠ [] → (Lib.decodeL r).1 = c ∧ c ≤ 1114111 := fun hne => by
    have hdg : Lib.decodeGo (bs r) = Lib.decodeL r := by
      unfold Lib.decodeGo
      rw [if_neg (by rw [bs_size]; have := List.length_pos_iff.2 hne; omega)]
      rfl
    rw [hdg] at hc
    exact ⟨hc, by rw [← hc]; exact Lib.decodeL_rune r⟩
  have HS : Hid (∀ W, Below w.heap.size w W → W.cell? ⟨g, 0, none⟩ = some (.string (bs s)) ∧ W.cell? ⟨g, 1, none⟩ = some (.int .i64 (i : Int))) := Lib.hid fun W hb => by
    obtain ⟨z0, z1, _⟩ := (hr.1.ext hb).two
    rw [hi] at z1
    exact ⟨z0, z1⟩
  have Hres := Lib.hid hres; have Hr := Lib.hid hr; have Hi := Lib.hid hi; have HT := Lib.hid hT; have Hb0 := Lib.hid hb0; have Hdec := Lib.hid hdec; have Hck := Lib.hid hck
  clear hres hr hi hT hb0 hdec hc hn hck
  go_enter Tryz.func59, Tryz.ntmps59
  go_wp2_with fail
  have hS := HS.out (w.drewN 1) (below_drewN' _ _ _)
  refine wp_region_D (fun W => W.cell? ⟨g, 0, none⟩ = some (.string (bs s)) ∧ W.cell? ⟨g, 1, none⟩ = some (.int .i64 (i : Int))) (fun _ => false) (by kernel_rfl) ?_
  change anyD _ _ _ _ _ _ _ _ _ (w.drewN 1)
  have hbV := below_drewN' w.heap.size w 1
  generalize w.drewN 1 = V0 at hS hbV ⊢
  (refine anyD_light (i := 0) (v := ?_) rfl (by kernel_rfl) (by kernel_rfl) (by kernel_rfl) (by kernel_rfl) (by kernel_rfl) (fun _ _ _ h => h) (.inl ⟨by kernel_rfl, fun W9 hW9 => ?_⟩) hS ?_; rotate_left; · (obtain ⟨hw0, hw1⟩ := hW9; go_simp; rfl))
  (refine anyD_light (i := 1) (v := ?_) rfl (by kernel_rfl) (by kernel_rfl) (by kernel_rfl) (by kernel_rfl) (by kernel_rfl) (fun _ _ _ h => h) (.inl ⟨by kernel_rfl, fun W9 hW9 => ?_⟩) hS ?_; rotate_left; · (obtain ⟨hw0, hw1⟩ := hW9; go_simp; rfl))
  (refine anyD_light (i := 2) (v := ?_) rfl (by kernel_rfl) (by kernel_rfl) (by kernel_rfl) (by kernel_rfl) (by kernel_rfl) (fun _ _ _ h => h) (.inl ⟨by kernel_rfl, fun W9 hW9 => ?_⟩) hS ?_; rotate_left; · (obtain ⟨hw0, hw1⟩ := hW9; go_simp; rfl))
  (refine anyD_light (i := 3) (v := ?_) rfl (by kernel_rfl) (by kernel_rfl) (by kernel_rfl) (by kernel_rfl) (by kernel_rfl) (fun _ _ _ h => h) (.inl ⟨by kernel_rfl, fun W9 hW9 => ?_⟩) hS ?_; rotate_left; · (obtain ⟨hw0, hw1⟩ := hW9; go_simp; rfl))
  (refine anyD_light (i := 4) (v := ?_) rfl (by kernel_rfl) (by kernel_rfl) (by kernel_rfl) (by kernel_rfl) (by kernel_rfl) (fun _ _ _ h => h) (.inl ⟨by kernel_rfl, fun W9 hW9 => ?_⟩) hS ?_; rotate_left; · (obtain ⟨hw0, hw1⟩ := hW9; go_simp; rfl))
  (refine anyD_light (i := 5) (v := ?_) rfl (by kernel_rfl) (by kernel_rfl) (by kernel_rfl) (by kernel_rfl) (by kernel_rfl) (fun _ _ _ h => h) (.inl ⟨by kernel_rfl, fun W9 hW9 => ?_⟩) hS ?_; rotate_left; · (obtain ⟨hw0, hw1⟩ := hW9; go_simp; rfl))
  go_simp
  (refine anyD_light (i := 6) (v := ?_) rfl (by kernel_rfl) (by kernel_rfl) (by kernel_rfl) (by kernel_rfl) (by kernel_rfl) (fun _ _ _ h => h) (.inl ⟨by kernel_rfl, fun W9 hW9 => ?_⟩) hS ?_; rotate_left; · (obtain ⟨hw0, hw1⟩ := hW9; go_simp; rfl))
  (refine anyD_light (i := 7) (v := ?_) rfl (by kernel_rfl) (by kernel_rfl) (by kernel_rfl) (by kernel_rfl) (by kernel_rfl) (fun _ _ _ h => h) (.inl ⟨by kernel_rfl, fun W9 hW9 => ?_⟩) hS ?_; rotate_left; · (obtain ⟨hw0, hw1⟩ := hW9; go_simp; rfl))
  (refine anyD_light (i := 8) (v := ?_) rfl (by kernel_rfl) (by kernel_rfl) (by kernel_rfl) (by kernel_rfl) (by kernel_rfl) (fun _ _ _ h => h) (.inl ⟨by kernel_rfl, fun W9 hW9 => ?_⟩) hS ?_; rotate_left; · (obtain ⟨hw0, hw1⟩ := hW9; go_simp; rfl))
  go_simp
  refine anyD_one (i := 9) (by kernel_rfl) rfl rfl (fun K hK => ?_)
  have HK := Lib.hid hK
  clear hK
  have hdc := Hdec.out V0 hbV
  have Hdc := Lib.hid hdc
  clear hdc
  unfold Oper.wp
  go_simp
  refine (Hdc.out).mono ?_
  rintro e w1 ⟨rfl, hb1⟩
  replace hbV := hbV.trans (hb1.mono hbV.size)
  clear hb1 hS Hdc
  have hS := HS.out _ hbV
  refine HK.out _ _ (fun _ => hS) ?_
  clear HK
  (refine anyD_light (i := 10) (v := ?_) rfl (by kernel_rfl) (by kernel_rfl) (by kernel_rfl) (by kernel_rfl) (by kernel_rfl) (fun _ _ _ h => h) (.inl ⟨by kernel_rfl, fun W9 hW9 => ?_⟩) hS ?_; rotate_left; · (obtain ⟨hw0, hw1⟩ := hW9; go_simp; rfl))
  (refine anyD_light (i := 11) (v := ?_) rfl (by kernel_rfl) (by kernel_rfl) (by kernel_rfl) (by kernel_rfl) (by kernel_rfl) (fun _ _ _ h => h) (.inl ⟨by kernel_rfl, fun W9 hW9 => ?_⟩) hS ?_; rotate_left; · (obtain ⟨hw0, hw1⟩ := hW9; go_simp; rfl))
  (refine anyD_light (i := 12) (v := ?_) rfl (by kernel_rfl) (by kernel_rfl) (by kernel_rfl) (by kernel_rfl) (by kernel_rfl) (fun _ _ _ h => h) (.inl ⟨by kernel_rfl, fun W9 hW9 => ?_⟩) hS ?_; rotate_left; · (obtain ⟨hw0, hw1⟩ := hW9; go_simp; rfl))
  (refine anyD_light (i := 13) (v := ?_) rfl (by kernel_rfl) (by kernel_rfl) (by kernel_rfl) (by kernel_rfl) (by kernel_rfl) (fun _ _ _ h => h) (.inl ⟨by kernel_rfl, fun W9 hW9 => ?_⟩) hS ?_; rotate_left; · (obtain ⟨hw0, hw1⟩ := hW9; go_simp; rfl))
  (refine anyD_light (i := 14) (v := ?_) rfl (by kernel_rfl) (by kernel_rfl) (by kernel_rfl) (by kernel_rfl) (by kernel_rfl) (fun _ _ _ h => h) (.inl ⟨by kernel_rfl, fun W9 hW9 => ?_⟩) hS ?_; rotate_left; · (obtain ⟨hw0, hw1⟩ := hW9; go_simp; rfl))
  go_simp
  refine anyD_done (by kernel_rfl) ?_ _
  go_wp2_with fail
  obtain ⟨w2, rfl⟩ : ∃ W, W = w1 := ⟨_, rfl⟩
  have Hr2 := Lib.hid (Hr.out.ext hbV); have Hbt := Lib.hid (But.of_below g hbV); have Hbw := Lib.hid (Hb0.out.trans (hbV.mono Hb0.out.size))
  have HS2 : Hid (∀ W, Below w2.heap.size w2 W → W.cell? ⟨g, 0, none⟩ = some (.string (bs s)) ∧ W.cell? ⟨g, 1, none⟩ = some (.int .i64 (i : Int))) := Lib.hid fun W hb => HS.out W (hbV.trans (hb.mono hbV.size))
  have hS2 := HS2.out (w2.drewN 1) (below_drewN' _ _ _)
  have Hdr := Lib.hid hdr
  clear hS hbV HS Hdec hdr hdi2
  have hS := hS2
  clear hS2
  by_cases hne : r = []
  · have hii : ¬ (i : Int) < (s.length : Int) := by
      have := Hi.out
      have h2 : r.length = 0 := by rw [hne]; rfl
      omega
    obtain rfl : res = false := by rw [← Hres.out, hne]; rfl
    clear hne
    refine wp_region_D (fun W => W.cell? ⟨g, 0, none⟩ = some (.string (bs s)) ∧ W.cell? ⟨g, 1, none⟩ = some (.int .i64 (i : Int))) (fun _ => false) (by kernel_rfl) ?_
    change anyD _ _ _ _ _ _ _ _ _ (w2.drewN 1)
    have hbV := below_drewN' w2.heap.size w2 1
    generalize w2.drewN 1 = V0 at hS hbV ⊢
    (refine anyD_light (i := 0) (v := ?_) rfl (by kernel_rfl) (by kernel_rfl) (by kernel_rfl) (by kernel_rfl) (by kernel_rfl) (fun _ _ _ h => h) (.inl ⟨by kernel_rfl, fun W9 hW9 => ?_⟩) hS ?_; rotate_left; · (obtain ⟨hw0, hw1⟩ := hW9; go_simp; rfl))
    (refine anyD_light (i := 1) (v := ?_) rfl (by kernel_rfl) (by kernel_rfl) (by kernel_rfl) (by kernel_rfl) (by kernel_rfl) (fun _ _ _ h => h) (.inl ⟨by kernel_rfl, fun W9 hW9 => ?_⟩) hS ?_; rotate_left; · (obtain ⟨hw0, hw1⟩ := hW9; go_simp; rfl))
    (refine anyD_light (i := 2) (v := ?_) rfl (by kernel_rfl) (by kernel_rfl) (by kernel_rfl) (by kernel_rfl) (by kernel_rfl) (fun _ _ _ h => h) (.inl ⟨by kernel_rfl, fun W9 hW9 => ?_⟩) hS ?_; rotate_left; · (obtain ⟨hw0, hw1⟩ := hW9; go_simp; rfl))
    (refine anyD_light (i := 3) (v := ?_) rfl (by kernel_rfl) (by kernel_rfl) (by kernel_rfl) (by kernel_rfl) (by kernel_rfl) (fun _ _ _ h => h) (.inl ⟨by kernel_rfl, fun W9 hW9 => ?_⟩) hS ?_; rotate_left; · (obtain ⟨hw0, hw1⟩ := hW9; go_simp; rfl))
    (refine anyD_light (i := 4) (v := ?_) rfl (by kernel_rfl) (by kernel_rfl) (by kernel_rfl) (by kernel_rfl) (by kernel_rfl) (fun _ _ _ h => h) (.inl ⟨by kernel_rfl, fun W9 hW9 => ?_⟩) hS ?_; rotate_left; · (obtain ⟨hw0, hw1⟩ := hW9; go_simp; rfl))
    (refine anyD_light (i := 5) (v := ?_) rfl (by kernel_rfl) (by kernel_rfl) (by kernel_rfl) (by kernel_rfl) (by kernel_rfl) (fun _ _ _ h => h) (.inl ⟨by kernel_rfl, fun W9 hW9 => ?_⟩) hS ?_; rotate_left; · (obtain ⟨hw0, hw1⟩ := hW9; go_simp; rfl))
    go_simp
    (refine anyD_light (i := 6) (v := ?_) rfl (by kernel_rfl) (by kernel_rfl) (by kernel_rfl) (by kernel_rfl) (by kernel_rfl) (fun _ _ _ h => h) (.inl ⟨by kernel_rfl, fun W9 hW9 => ?_⟩) hS ?_; rotate_left; · (obtain ⟨hw0, hw1⟩ := hW9; go_simp; rfl))
    (refine anyD_light (i := 7) (v := ?_) rfl (by kernel_rfl) (by kernel_rfl) (by kernel_rfl) (by kernel_rfl) (by kernel_rfl) (fun _ _ _ h => h) (.inl ⟨by kernel_rfl, fun W9 hW9 => ?_⟩) hS ?_; rotate_left; · (obtain ⟨hw0, hw1⟩ := hW9; go_simp; rfl))
    (refine anyD_light (i := 8) (v := ?_) rfl (by kernel_rfl) (by kernel_rfl) (by kernel_rfl) (by kernel_rfl) (by kernel_rfl) (fun _ _ _ h => h) (.inl ⟨by kernel_rfl, fun W9 hW9 => ?_⟩) hS ?_; rotate_left; · (obtain ⟨hw0, hw1⟩ := hW9; go_simp; rfl))
    (refine anyD_light (i := 9) (v := ?_) rfl (by kernel_rfl) (by kernel_rfl) (by kernel_rfl) (by kernel_rfl) (by kernel_rfl) (fun _ _ _ h => h) (.inl ⟨by kernel_rfl, fun W9 hW9 => ?_⟩) hS ?_; rotate_left; · (obtain ⟨hw0, hw1⟩ := hW9; go_simp; rfl))
    (refine anyD_light (i := 10) (v := ?_) rfl (by kernel_rfl) (by kernel_rfl) (by kernel_rfl) (by kernel_rfl) (by kernel_rfl) (fun _ _ _ h => h) (.inl ⟨by kernel_rfl, fun W9 hW9 => ?_⟩) hS ?_; rotate_left; · (obtain ⟨hw0, hw1⟩ := hW9; go_simp; rfl))
    (refine anyD_light (i := 11) (v := undef) rfl (by kernel_rfl) (by kernel_rfl) (by kernel_rfl) (by kernel_rfl) (by kernel_rfl) (fun _ _ _ h => h) (.inr ⟨by kernel_rfl, rfl⟩) hS ?_)
    go_simp
    (refine anyD_light (i := 12) (v := undef) rfl (by kernel_rfl) (by kernel_rfl) (by kernel_rfl) (by kernel_rfl) (by kernel_rfl) (fun _ _ _ h => h) (.inr ⟨by kernel_rfl, rfl⟩) hS ?_)
    (refine anyD_light (i := 13) (v := undef) rfl (by kernel_rfl) (by kernel_rfl) (by kernel_rfl) (by kernel_rfl) (by kernel_rfl) (fun _ _ _ h => h) (.inr ⟨by kernel_rfl, rfl⟩) hS ?_)
    (refine anyD_light (i := 14) (v := undef) rfl (by kernel_rfl) (by kernel_rfl) (by kernel_rfl) (by kernel_rfl) (by kernel_rfl) (fun _ _ _ h => h) (.inr ⟨by kernel_rfl, rfl⟩) hS ?_)
    (refine anyD_light (i := 15) (v := undef) rfl (by kernel_rfl) (by kernel_rfl) (by kernel_rfl) (by kernel_rfl) (by kernel_rfl) (fun _ _ _ h => h) (.inr ⟨by kernel_rfl, rfl⟩) hS ?_)
    (refine anyD_light (i := 16) (v := undef) rfl (by kernel_rfl) (by kernel_rfl) (by kernel_rfl) (by kernel_rfl) (by kernel_rfl) (fun _ _ _ h => h) (.inr ⟨by kernel_rfl, rfl⟩) hS ?_)
    (refine anyD_light (i := 17) (v := undef) rfl (by kernel_rfl) (by kernel_rfl) (by kernel_rfl) (by kernel_rfl) (by kernel_rfl) (fun _ _ _ h => h) (.inr ⟨by kernel_rfl, rfl⟩) hS ?_)
    go_simp
    (refine anyD_light (i := 18) (v := undef) rfl (by kernel_rfl) (by kernel_rfl) (by kernel_rfl) (by kernel_rfl) (by kernel_rfl) (fun _ _ _ h => h) (.inr ⟨by kernel_rfl, rfl⟩) hS ?_)
    (refine anyD_light (i := 19) (v := undef) rfl (by kernel_rfl) (by kernel_rfl) (by kernel_rfl) (by kernel_rfl) (by kernel_rfl) (fun _ _ _ h => h) (.inr ⟨by kernel_rfl, rfl⟩) hS ?_)
    (refine anyD_light (i := 20) (v := undef) rfl (by kernel_rfl) (by kernel_rfl) (by kernel_rfl) (by kernel_rfl) (by kernel_rfl) (fun _ _ _ h => h) (.inr ⟨by kernel_rfl, rfl⟩) hS ?_)
    (refine anyD_light (i := 21) (v := undef) rfl (by kernel_rfl) (by kernel_rfl) (by kernel_rfl) (by kernel_rfl) (by kernel_rfl) (fun _ _ _ h => h) (.inr ⟨by kernel_rfl, rfl⟩) hS ?_)
    (refine anyD_light (i := 22) (v := undef) rfl (by kernel_rfl) (by kernel_rfl) (by kernel_rfl) (by kernel_rfl) (by kernel_rfl) (fun _ _ _ h => h) (.inr ⟨by kernel_rfl, rfl⟩) hS ?_)
    (refine anyD_light (i := 23) (v := undef) rfl (by kernel_rfl) (by kernel_rfl) (by kernel_rfl) (by kernel_rfl) (by kernel_rfl) (fun _ _ _ h => h) (.inr ⟨by kernel_rfl, rfl⟩) hS ?_)
    go_simp
    (refine anyD_light (i := 24) (v := undef) rfl (by kernel_rfl) (by kernel_rfl) (by kernel_rfl) (by kernel_rfl) (by kernel_rfl) (fun _ _ _ h => h) (.inr ⟨by kernel_rfl, rfl⟩) hS ?_)
    (refine anyD_light (i := 25) (v := undef) rfl (by kernel_rfl) (by kernel_rfl) (by kernel_rfl) (by kernel_rfl) (by kernel_rfl) (fun _ _ _ h => h) (.inr ⟨by kernel_rfl, rfl⟩) hS ?_)
    (refine anyD_light (i := 26) (v := ?_) rfl (by kernel_rfl) (by kernel_rfl) (by kernel_rfl) (by kernel_rfl) (by kernel_rfl) (fun _ _ _ h => h) (.inl ⟨by kernel_rfl, fun W9 hW9 => ?_⟩) hS ?_; rotate_left; · (obtain ⟨hw0, hw1⟩ := hW9; go_simp; rfl))
    (refine anyD_light (i := 27) (v := ?_) rfl (by kernel_rfl) (by kernel_rfl) (by kernel_rfl) (by kernel_rfl) (by kernel_rfl) (fun _ _ _ h => h) (.inl ⟨by kernel_rfl, fun W9 hW9 => ?_⟩) hS ?_; rotate_left; · (obtain ⟨hw0, hw1⟩ := hW9; go_simp; rfl))
    go_simp
    refine anyD_done (by kernel_rfl) ?_ _
    go_wp2_with fail
    go_ret
    exact ⟨rfl, Hr2.out.ext hbV, (Hbt.out).trans (But.of_below g hbV)⟩
  · obtain ⟨hd, hcr⟩ := Hck.out hne
    have hii : (i : Int) < (s.length : Int) := by
      have := Hi.out
      have := List.length_pos_iff.2 hne
      omega
    have Hlt := Lib.hid fun V (hb : Below w2.heap.size w2 V) => chLetter_ok c hcr V (HT.out.ext (Hbw.out.trans (hb.mono Hbw.out.size)))
    obtain ⟨x, t, rfl⟩ : ∃ x t, r = x :: t := by
      cases r with
      | nil => exact absurd rfl hne
      | cons x t => exact ⟨x, t, rfl⟩
    have hbr : res = (Sm.isL c || (x == 45 || (x == 40 || (x == 34 || x == 42)))) := by
      rw [← Hres.out]
      unfold Q.begins
      rw [hd, show ((x :: t : Str) == []) = false from rfl, Bool.not_false, Bool.true_and, List.headD_cons]
    have hgx : i < s.length := by omega
    have hget : (bs s)[i]'(by simpa using hgx) = x := by
      rw [bs_get s i (by simpa using hgx)]
      have h1 := Hdr.out
      rw [List.drop_eq_getElem_cons hgx] at h1
      injection h1
    cases ht : Sm.isL c with
    | true =>
      obtain rfl : res = true := by rw [hbr, ht]; rfl
      simp only [ht] at Hlt
      clear hbr ht hd hne hget
      refine wp_region_D (fun W => W.cell? ⟨g, 0, none⟩ = some (.string (bs s)) ∧ W.cell? ⟨g, 1, none⟩ = some (.int .i64 (i : Int))) (fun _ => false) (by kernel_rfl) ?_
      change anyD _ _ _ _ _ _ _ _ _ (w2.drewN 1)
      have hbV := below_drewN' w2.heap.size w2 1
      generalize w2.drewN 1 = V0 at hS hbV ⊢
      (refine anyD_light (i := 0) (v := ?_) rfl (by kernel_rfl) (by kernel_rfl) (by kernel_rfl) (by kernel_rfl) (by kernel_rfl) (fun _ _ _ h => h) (.inl ⟨by kernel_rfl, fun W9 hW9 => ?_⟩) hS ?_; rotate_left; · (obtain ⟨hw0, hw1⟩ := hW9; go_simp; rfl))
      (refine anyD_light (i := 1) (v := ?_) rfl (by kernel_rfl) (by kernel_rfl) (by kernel_rfl) (by kernel_rfl) (by kernel_rfl) (fun _ _ _ h => h) (.inl ⟨by kernel_rfl, fun W9 hW9 => ?_⟩) hS ?_; rotate_left; · (obtain ⟨hw0, hw1⟩ := hW9; go_simp; rfl))
      (refine anyD_light (i := 2) (v := ?_) rfl (by kernel_rfl) (by kernel_rfl) (by kernel_rfl) (by kernel_rfl) (by kernel_rfl) (fun _ _ _ h => h) (.inl ⟨by kernel_rfl, fun W9 hW9 => ?_⟩) hS ?_; rotate_left; · (obtain ⟨hw0, hw1⟩ := hW9; go_simp; rfl))
      (refine anyD_light (i := 3) (v := ?_) rfl (by kernel_rfl) (by kernel_rfl) (by kernel_rfl) (by kernel_rfl) (by kernel_rfl) (fun _ _ _ h => h) (.inl ⟨by kernel_rfl, fun W9 hW9 => ?_⟩) hS ?_; rotate_left; · (obtain ⟨hw0, hw1⟩ := hW9; go_simp; rfl))
      (refine anyD_light (i := 4) (v := ?_) rfl (by kernel_rfl) (by kernel_rfl) (by kernel_rfl) (by kernel_rfl) (by kernel_rfl) (fun _ _ _ h => h) (.inl ⟨by kernel_rfl, fun W9 hW9 => ?_⟩) hS ?_; rotate_left; · (obtain ⟨hw0, hw1⟩ := hW9; go_simp; rfl))
      (refine anyD_light (i := 5) (v := ?_) rfl (by kernel_rfl) (by kernel_rfl) (by kernel_rfl) (by kernel_rfl) (by kernel_rfl) (fun _ _ _ h => h) (.inl ⟨by kernel_rfl, fun W9 hW9 => ?_⟩) hS ?_; rotate_left; · (obtain ⟨hw0, hw1⟩ := hW9; go_simp; rfl))
      go_simp
      (refine anyD_light (i := 6) (v := ?_) rfl (by kernel_rfl) (by kernel_rfl) (by kernel_rfl) (by kernel_rfl) (by kernel_rfl) (fun _ _ _ h => h) (.inl ⟨by kernel_rfl, fun W9 hW9 => ?_⟩) hS ?_; rotate_left; · (obtain ⟨hw0, hw1⟩ := hW9; go_simp; rfl))
      (refine anyD_light (i := 7) (v := ?_) rfl (by kernel_rfl) (by kernel_rfl) (by kernel_rfl) (by kernel_rfl) (by kernel_rfl) (fun _ _ _ h => h) (.inl ⟨by kernel_rfl, fun W9 hW9 => ?_⟩) hS ?_; rotate_left; · (obtain ⟨hw0, hw1⟩ := hW9; go_simp; rfl))
      (refine anyD_light (i := 8) (v := ?_) rfl (by kernel_rfl) (by kernel_rfl) (by kernel_rfl) (by kernel_rfl) (by kernel_rfl) (fun _ _ _ h => h) (.inl ⟨by kernel_rfl, fun W9 hW9 => ?_⟩) hS ?_; rotate_left; · (obtain ⟨hw0, hw1⟩ := hW9; go_simp; rfl))
      (refine anyD_light (i := 9) (v := ?_) rfl (by kernel_rfl) (by kernel_rfl) (by kernel_rfl) (by kernel_rfl) (by kernel_rfl) (fun _ _ _ h => h) (.inl ⟨by kernel_rfl, fun W9 hW9 => ?_⟩) hS ?_; rotate_left; · (obtain ⟨hw0, hw1⟩ := hW9; go_simp; rfl))
      (refine anyD_light (i := 10) (v := ?_) rfl (by kernel_rfl) (by kernel_rfl) (by kernel_rfl) (by kernel_rfl) (by kernel_rfl) (fun _ _ _ h => h) (.inl ⟨by kernel_rfl, fun W9 hW9 => ?_⟩) hS ?_; rotate_left; · (obtain ⟨hw0, hw1⟩ := hW9; go_simp; rfl))
      (refine anyD_light (i := 11) (v := ?_) rfl (by kernel_rfl) (by kernel_rfl) (by kernel_rfl) (by kernel_rfl) (by kernel_rfl) (fun _ _ _ h => h) (.inl ⟨by kernel_rfl, fun W9 hW9 => ?_⟩) hS ?_; rotate_left; · (obtain ⟨hw0, hw1⟩ := hW9; go_simp; rfl))
      go_simp
      go_simp
      refine anyD_oneG (i := 12) (by kernel_rfl) rfl rfl (fun K hK => ?_)
      have HK := Lib.hid hK
      clear hK
      have hlc := Hlt.out V0 hbV
      have Hlc := Lib.hid hlc
      clear hlc
      unfold Oper.wp
      go_simp
      refine (Hlc.out).mono ?_
      rintro e w3 ⟨rfl, hb3⟩
      replace hbV := hbV.trans (hb3.mono hbV.size)
      clear hb3 hS Hlc
      have hS := HS2.out _ hbV
      refine HK.out _ _ (fun _ => hS) ?_
      clear HK
      (refine anyD_light (i := 13) (v := ?_) rfl (by kernel_rfl) (by kernel_rfl) (by kernel_rfl) (by kernel_rfl) (by kernel_rfl) (fun _ _ _ h => h) (.inl ⟨by kernel_rfl, fun W9 hW9 => ?_⟩) hS ?_; rotate_left; · (obtain ⟨hw0, hw1⟩ := hW9; go_simp; rfl))
      (refine anyD_light (i := 14) (v := undef) rfl (by kernel_rfl) (by kernel_rfl) (by kernel_rfl) (by kernel_rfl) (by kernel_rfl) (fun _ _ _ h => h) (.inr ⟨by kernel_rfl, rfl⟩) hS ?_)
      (refine anyD_light (i := 15) (v := undef) rfl (by kernel_rfl) (by kernel_rfl) (by kernel_rfl) (by kernel_rfl) (by kernel_rfl) (fun _ _ _ h => h) (.inr ⟨by kernel_rfl, rfl⟩) hS ?_)
      (refine anyD_light (i := 16) (v := undef) rfl (by kernel_rfl) (by kernel_rfl) (by kernel_rfl) (by kernel_rfl) (by kernel_rfl) (fun _ _ _ h => h) (.inr ⟨by kernel_rfl, rfl⟩) hS ?_)
      (refine anyD_light (i := 17) (v := undef) rfl (by kernel_rfl) (by kernel_rfl) (by kernel_rfl) (by kernel_rfl) (by kernel_rfl) (fun _ _ _ h => h) (.inr ⟨by kernel_rfl, rfl⟩) hS ?_)
      (refine anyD_light (i := 18) (v := undef) rfl (by kernel_rfl) (by kernel_rfl) (by kernel_rfl) (by kernel_rfl) (by kernel_rfl) (fun _ _ _ h => h) (.inr ⟨by kernel_rfl, rfl⟩) hS ?_)
      go_simp
      (refine anyD_light (i := 19) (v := undef) rfl (by kernel_rfl) (by kernel_rfl) (by kernel_rfl) (by kernel_rfl) (by kernel_rfl) (fun _ _ _ h => h) (.inr ⟨by kernel_rfl, rfl⟩) hS ?_)
      (refine anyD_light (i := 20) (v := undef) rfl (by kernel_rfl) (by kernel_rfl) (by kernel_rfl) (by kernel_rfl) (by kernel_rfl) (fun _ _ _ h => h) (.inr ⟨by kernel_rfl, rfl⟩) hS ?_)
      (refine anyD_light (i := 21) (v := undef) rfl (by kernel_rfl) (by kernel_rfl) (by kernel_rfl) (by kernel_rfl) (by kernel_rfl) (fun _ _ _ h => h) (.inr ⟨by kernel_rfl, rfl⟩) hS ?_)
      (refine anyD_light (i := 22) (v := undef) rfl (by kernel_rfl) (by kernel_rfl) (by kernel_rfl) (by kernel_rfl) (by kernel_rfl) (fun _ _ _ h => h) (.inr ⟨by kernel_rfl, rfl⟩) hS ?_)
      (refine anyD_light (i := 23) (v := undef) rfl (by kernel_rfl) (by kernel_rfl) (by kernel_rfl) (by kernel_rfl) (by kernel_rfl) (fun _ _ _ h => h) (.inr ⟨by kernel_rfl, rfl⟩) hS ?_)
      (refine anyD_light (i := 24) (v := undef) rfl (by kernel_rfl) (by kernel_rfl) (by kernel_rfl) (by kernel_rfl) (by kernel_rfl) (fun _ _ _ h => h) (.inr ⟨by kernel_rfl, rfl⟩) hS ?_)
      go_simp
      (refine anyD_light (i := 25) (v := ?_) rfl (by kernel_rfl) (by kernel_rfl) (by kernel_rfl) (by kernel_rfl) (by kernel_rfl) (fun _ _ _ h => h) (.inl ⟨by kernel_rfl, fun W9 hW9 => ?_⟩) hS ?_; rotate_left; · (obtain ⟨hw0, hw1⟩ := hW9; go_simp; rfl))
      (refine anyD_light (i := 26) (v := ?_) rfl (by kernel_rfl) (by kernel_rfl) (by kernel_rfl) (by kernel_rfl) (by kernel_rfl) (fun _ _ _ h => h) (.inl ⟨by kernel_rfl, fun W9 hW9 => ?_⟩) hS ?_; rotate_left; · (obtain ⟨hw0, hw1⟩ := hW9; go_simp; rfl))
      (refine anyD_light (i := 27) (v := ?_) rfl (by kernel_rfl) (by kernel_rfl) (by kernel_rfl) (by kernel_rfl) (by kernel_rfl) (fun _ _ _ h => h) (.inl ⟨by kernel_rfl, fun W9 hW9 => ?_⟩) hS ?_; rotate_left; · (obtain ⟨hw0, hw1⟩ := hW9; go_simp; rfl))
      go_simp
      refine anyD_done (by kernel_rfl) ?_ _
      go_wp2_with fail
      go_ret
      exact ⟨rfl, Hr2.out.ext hbV, (Hbt.out).trans (But.of_below g hbV)⟩
    | false =>
      have hmk := index_marks x
      rw [ht, Bool.false_or, ← hmk] at hbr
      have Hib := Lib.hid fun W => Tryz.strings_IndexByte (bs [45, 40, 34, 42]) (x.toNat : Int) W
      simp only [ht] at Hlt
      have Hbr := Lib.hid hbr
      clear hbr hmk ht hd hne
      refine wp_region_D (fun W => W.cell? ⟨g, 0, none⟩ = some (.string (bs s)) ∧ W.cell? ⟨g, 1, none⟩ = some (.int .i64 (i : Int))) (fun _ => false) (by kernel_rfl) ?_
      change anyD _ _ _ _ _ _ _ _ _ (w2.drewN 1)
      have hbV := below_drewN' w2.heap.size w2 1
      generalize w2.drewN 1 = V0 at hS hbV ⊢
      (refine anyD_light (i := 0) (v := ?_) rfl (by kernel_rfl) (by kernel_rfl) (by kernel_rfl) (by kernel_rfl) (by kernel_rfl) (fun _ _ _ h => h) (.inl ⟨by kernel_rfl, fun W9 hW9 => ?_⟩) hS ?_; rotate_left; · (obtain ⟨hw0, hw1⟩ := hW9; go_simp; rfl))
      (refine anyD_light (i := 1) (v := ?_) rfl (by kernel_rfl) (by kernel_rfl) (by kernel_rfl) (by kernel_rfl) (by kernel_rfl) (fun _ _ _ h => h) (.inl ⟨by kernel_rfl, fun W9 hW9 => ?_⟩) hS ?_; rotate_left; · (obtain ⟨hw0, hw1⟩ := hW9; go_simp; rfl))
      (refine anyD_light (i := 2) (v := ?_) rfl (by kernel_rfl) (by kernel_rfl) (by kernel_rfl) (by kernel_rfl) (by kernel_rfl) (fun _ _ _ h => h) (.inl ⟨by kernel_rfl, fun W9 hW9 => ?_⟩) hS ?_; rotate_left; · (obtain ⟨hw0, hw1⟩ := hW9; go_simp; rfl))
      (refine anyD_light (i := 3) (v := ?_) rfl (by kernel_rfl) (by kernel_rfl) (by kernel_rfl) (by kernel_rfl) (by kernel_rfl) (fun _ _ _ h => h) (.inl ⟨by kernel_rfl, fun W9 hW9 => ?_⟩) hS ?_; rotate_left; · (obtain ⟨hw0, hw1⟩ := hW9; go_simp; rfl))
      (refine anyD_light (i := 4) (v := ?_) rfl (by kernel_rfl) (by kernel_rfl) (by kernel_rfl) (by kernel_rfl) (by kernel_rfl) (fun _ _ _ h => h) (.inl ⟨by kernel_rfl, fun W9 hW9 => ?_⟩) hS ?_; rotate_left; · (obtain ⟨hw0, hw1⟩ := hW9; go_simp; rfl))
      (refine anyD_light (i := 5) (v := ?_) rfl (by kernel_rfl) (by kernel_rfl) (by kernel_rfl) (by kernel_rfl) (by kernel_rfl) (fun _ _ _ h => h) (.inl ⟨by kernel_rfl, fun W9 hW9 => ?_⟩) hS ?_; rotate_left; · (obtain ⟨hw0, hw1⟩ := hW9; go_simp; rfl))
      go_simp
      (refine anyD_light (i := 6) (v := ?_) rfl (by kernel_rfl) (by kernel_rfl) (by kernel_rfl) (by kernel_rfl) (by kernel_rfl) (fun _ _ _ h => h) (.inl ⟨by kernel_rfl, fun W9 hW9 => ?_⟩) hS ?_; rotate_left; · (obtain ⟨hw0, hw1⟩ := hW9; go_simp; rfl))
      (refine anyD_light (i := 7) (v := ?_) rfl (by kernel_rfl) (by kernel_rfl) (by kernel_rfl) (by kernel_rfl) (by kernel_rfl) (fun _ _ _ h => h) (.inl ⟨by kernel_rfl, fun W9 hW9 => ?_⟩) hS ?_; rotate_left; · (obtain ⟨hw0, hw1⟩ := hW9; go_simp; rfl))
      (refine anyD_light (i := 8) (v := ?_) rfl (by kernel_rfl) (by kernel_rfl) (by kernel_rfl) (by kernel_rfl) (by kernel_rfl) (fun _ _ _ h => h) (.inl ⟨by kernel_rfl, fun W9 hW9 => ?_⟩) hS ?_; rotate_left; · (obtain ⟨hw0, hw1⟩ := hW9; go_simp; rfl))
      (refine anyD_light (i := 9) (v := ?_) rfl (by kernel_rfl) (by kernel_rfl) (by kernel_rfl) (by kernel_rfl) (by kernel_rfl) (fun _ _ _ h => h) (.inl ⟨by kernel_rfl, fun W9 hW9 => ?_⟩) hS ?_; rotate_left; · (obtain ⟨hw0, hw1⟩ := hW9; go_simp; rfl))
      (refine anyD_light (i := 10) (v := ?_) rfl (by kernel_rfl) (by kernel_rfl) (by kernel_rfl) (by kernel_rfl) (by kernel_rfl) (fun _ _ _ h => h) (.inl ⟨by kernel_rfl, fun W9 hW9 => ?_⟩) hS ?_; rotate_left; · (obtain ⟨hw0, hw1⟩ := hW9; go_simp; rfl))
      (refine anyD_light (i := 11) (v := ?_) rfl (by kernel_rfl) (by kernel_rfl) (by kernel_rfl) (by kernel_rfl) (by kernel_rfl) (fun _ _ _ h => h) (.inl ⟨by kernel_rfl, fun W9 hW9 => ?_⟩) hS ?_; rotate_left; · (obtain ⟨hw0, hw1⟩ := hW9; go_simp; rfl))
      go_simp
      go_simp
      refine anyD_oneG (i := 12) (by kernel_rfl) rfl rfl (fun K hK => ?_)
      have HK := Lib.hid hK
      clear hK
      have hlc := Hlt.out V0 hbV
      have Hlc := Lib.hid hlc
      clear hlc
      unfold Oper.wp
      go_simp
      refine (Hlc.out).mono ?_
      rintro e w3 ⟨rfl, hb3⟩
      replace hbV := hbV.trans (hb3.mono hbV.size)
      clear hb3 hS Hlc
      have hS := HS2.out _ hbV
      refine HK.out _ _ (fun _ => hS) ?_
      clear HK
      (refine anyD_light (i := 13) (v := ?_) rfl (by kernel_rfl) (by kernel_rfl) (by kernel_rfl) (by kernel_rfl) (by kernel_rfl) (fun _ _ _ h => h) (.inl ⟨by kernel_rfl, fun W9 hW9 => ?_⟩) hS ?_; rotate_left; · (obtain ⟨hw0, hw1⟩ := hW9; go_simp; rfl))
      (refine anyD_light (i := 14) (v := ?_) rfl (by kernel_rfl) (by kernel_rfl) (by kernel_rfl) (by kernel_rfl) (by kernel_rfl) (fun _ _ _ h => h) (.inl ⟨by kernel_rfl, fun W9 hW9 => ?_⟩) hS ?_; rotate_left; · (obtain ⟨hw0, hw1⟩ := hW9; go_simp; rfl))
      (refine anyD_light (i := 15) (v := ?_) rfl (by kernel_rfl) (by kernel_rfl) (by kernel_rfl) (by kernel_rfl) (by kernel_rfl) (fun _ _ _ h => h) (.inl ⟨by kernel_rfl, fun W9 hW9 => ?_⟩) hS ?_; rotate_left; · (obtain ⟨hw0, hw1⟩ := hW9; go_simp; rfl))
      (refine anyD_light (i := 16) (v := ?_) rfl (by kernel_rfl) (by kernel_rfl) (by kernel_rfl) (by kernel_rfl) (by kernel_rfl) (fun _ _ _ h => h) (.inl ⟨by kernel_rfl, fun W9 hW9 => ?_⟩) hS ?_; rotate_left; · (obtain ⟨hw0, hw1⟩ := hW9; go_simp; rfl))
      (refine anyD_light (i := 17) (v := ?_) rfl (by kernel_rfl) (by kernel_rfl) (by kernel_rfl) (by kernel_rfl) (by kernel_rfl) (fun _ _ _ h => h) (.inl ⟨by kernel_rfl, fun W9 hW9 => ?_⟩) hS ?_; rotate_left; · (obtain ⟨hw0, hw1⟩ := hW9; go_simp; rfl))
      (refine anyD_light (i := 18) (v := ?_) rfl (by kernel_rfl) (by kernel_rfl) (by kernel_rfl) (by kernel_rfl) (by kernel_rfl) (fun _ _ _ h => h) (.inl ⟨by kernel_rfl, fun W9 hW9 => ?_⟩) hS ?_; rotate_left; · (obtain ⟨hw0, hw1⟩ := hW9; go_simp; rfl))
      go_simp
      (refine anyD_light (i := 19) (v := ?_) rfl (by kernel_rfl) (by kernel_rfl) (by kernel_rfl) (by kernel_rfl) (by kernel_rfl) (fun _ _ _ h => h) (.inl ⟨by kernel_rfl, fun W9 hW9 => ?_⟩) hS ?_; rotate_left; · (obtain ⟨hw0, hw1⟩ := hW9; go_simp; rfl))
      (refine anyD_light (i := 20) (v := ?_) rfl (by kernel_rfl) (by kernel_rfl) (by kernel_rfl) (by kernel_rfl) (by kernel_rfl) (fun _ _ _ h => h) (.inl ⟨by kernel_rfl, fun W9 hW9 => ?_⟩) hS ?_; rotate_left; · (obtain ⟨hw0, hw1⟩ := hW9; go_simp; rfl))
      (refine anyD_light (i := 21) (v := ?_) rfl (by kernel_rfl) (by kernel_rfl) (by kernel_rfl) (by kernel_rfl) (by kernel_rfl) (fun _ _ _ h => h) (.inl ⟨by kernel_rfl, fun W9 hW9 => ?_⟩) hS ?_; rotate_left; · (obtain ⟨hw0, hw1⟩ := hW9; go_simp; rfl))
      (refine anyD_light (i := 22) (v := ?_) rfl (by kernel_rfl) (by kernel_rfl) (by kernel_rfl) (by kernel_rfl) (by kernel_rfl) (fun _ _ _ h => h) (.inl ⟨by kernel_rfl, fun W9 hW9 => ?_⟩) hS ?_; rotate_left; · (obtain ⟨hw0, hw1⟩ := hW9; go_simp; rfl))
      go_simp
      refine anyD_oneG (i := 23) (by kernel_rfl) rfl rfl (fun K hK => ?_)
      have HK := Lib.hid hK
      clear hK
      have hib := Hib.out w3
      have Hic := Lib.hid hib
      clear hib
      unfold Oper.wp
      go_simp
      refine (Hic.out).mono ?_
      rintro e w4 ⟨rfl, rfl⟩
      clear hS Hic
      have hS := HS2.out _ hbV
      refine HK.out _ _ (fun _ => hS) ?_
      clear HK
      (refine anyD_light (i := 24) (v := ?_) rfl (by kernel_rfl) (by kernel_rfl) (by kernel_rfl) (by kernel_rfl) (by kernel_rfl) (fun _ _ _ h => h) (.inl ⟨by kernel_rfl, fun W9 hW9 => ?_⟩) hS ?_; rotate_left; · (obtain ⟨hw0, hw1⟩ := hW9; go_simp; rfl))
      (refine anyD_light (i := 25) (v := ?_) rfl (by kernel_rfl) (by kernel_rfl) (by kernel_rfl) (by kernel_rfl) (by kernel_rfl) (fun _ _ _ h => h) (.inl ⟨by kernel_rfl, fun W9 hW9 => ?_⟩) hS ?_; rotate_left; · (obtain ⟨hw0, hw1⟩ := hW9; go_simp; rfl))
      (refine anyD_light (i := 26) (v := ?_) rfl (by kernel_rfl) (by kernel_rfl) (by kernel_rfl) (by kernel_rfl) (by kernel_rfl) (fun _ _ _ h => h) (.inl ⟨by kernel_rfl, fun W9 hW9 => ?_⟩) hS ?_; rotate_left; · (obtain ⟨hw0, hw1⟩ := hW9; go_simp; rfl))
      (refine anyD_light (i := 27) (v := ?_) rfl (by kernel_rfl) (by kernel_rfl) (by kernel_rfl) (by kernel_rfl) (by kernel_rfl) (fun _ _ _ h => h) (.inl ⟨by kernel_rfl, fun W9 hW9 => ?_⟩) hS ?_; rotate_left; · (obtain ⟨hw0, hw1⟩ := hW9; go_simp; rfl))
      go_simp
      refine anyD_done (by kernel_rfl) ?_ _
      go_wp2_with fail
      go_ret
      exact ⟨ret_bool Hbr.out.symm, Hr2.out.ext hbV, (Hbt.out).trans (But.of_below g hbV)⟩
end Go.Proofs.YtihhgmpanfboaaaGreatDoor
