/-
  The reference of the reader: term at a word; term whole.
-/
import Derived.Test.YtihhgmpanfboaaaGreatDoorRf7
import Derived.Test.YtihhgmpanfboaaaGreatDoorK6
namespace Go.Proofs.YtihhgmpanfboaaaGreatDoor
open Go.RowKit
set_option linter.unusedVariables false
theorem num_low {l : Str} (h : ∀ c ∈ l, Q.digit c = true) : ∀ (acc : Int), 0 ≤ acc → 0 ≤ l.foldl (fun (n : Int) c => 10 * n + ((c.toNat : Int) - 48)) acc ∧ l.foldl (fun (n : Int) c => 10 * n + ((c.toNat : Int) - 48)) acc + 1 ≤ (acc + 1) * 10 ^ l.length := by
  induction l with
  | nil => intro acc h0; simp; omega
  | cons c l ih =>
    intro acc h0
    obtain ⟨_, h2⟩ := digit_val (h c (.head _))
    have h3 : c.toNat ≤ 57 := by
      have := h c (.head _)
      unfold Q.digit at this
      rw [Bool.and_eq_true, decide_eq_true_eq, decide_eq_true_eq, UInt8.le_iff_toNat_le, UInt8.le_iff_toNat_le] at this
      exact this.2
    have h4 := ih (fun x hx => h x (.tail _ hx)) (10 * acc + ((c.toNat : Int) - 48)) (by omega)
    rw [List.foldl_cons]
    refine ⟨h4.1, Int.le_trans h4.2 ?_⟩
    rw [List.length_cons, Int.pow_succ]
    have h5 : (0 : Int) ≤ 10 ^ l.length := Int.le_of_lt (Int.pow_pos (by omega))
    have h6 : (10 * acc + ((c.toNat : Int) - 48) + 1) ≤ (acc + 1) * 10 := by omega
    have h7 := Int.mul_le_mul_of_nonneg_right h6 h5
    have h8 : (acc + 1) * (10 ^ l.length * 10) = (acc + 1) * 10 * 10 ^ l.length := by
      rw [Int.mul_comm (10 ^ l.length) 10, Int.mul_assoc]
    rw [h8]
    omega
theorem num_snoc (a : Str) (c : UInt8) : Q.numOf (a ++ [c]) = 10 * Q.numOf a + ((c.toNat : Int) - 48) := by
  unfold Q.numOf
  rw [List.foldl_append]
  rfl
/-- three digits and one more -/
theorem num_four {a : Str} (h : ∀ c ∈ a, Q.digit c = true) (hl : a.length ≤ 3) : 0 ≤ Q.numOf a ∧ Q.numOf a ≤ 999 := by
  have h1 := num_low h 0 (Int.le_refl _)
  unfold Q.numOf
  refine ⟨h1.1, ?_⟩
  have h2 : (10 : Int) ^ a.length ≤ 1000 := by
    rcases (by omega : a.length = 0 ∨ a.length = 1 ∨ a.length = 2 ∨ a.length = 3) with e | e | e | e <;> rw [e] <;> decide
  omega
theorem dig_in (c : UInt8) : (decide ((48 : Int) ≤ (c.toNat : Int)) && decide ((c.toNat : Int) ≤ 57)) = Q.digit c := by
  unfold Q.digit
  have h1 : ((48 : Int) ≤ (c.toNat : Int)) ↔ (48 : UInt8) ≤ c := by
    rw [UInt8.le_iff_toNat_le]
    show _ ↔ 48 ≤ c.toNat
    omega
  have h2 : ((c.toNat : Int) ≤ 57) ↔ c ≤ (57 : UInt8) := by
    rw [UInt8.le_iff_toNat_le]
    show _ ↔ c.toNat ≤ 57
    omega
  rw [decide_eq_decide.2 h1, decide_eq_decide.2 h2]
theorem tw_all : ∀ {a r : Str}, (∀ c ∈ a, Q.digit c = true) → Q.digit (r.headD 0) = false → (a ++ r).takeWhile Q.digit = a ∧ (a ++ r).dropWhile Q.digit = r
  | [], r, _, h => tw_stop h
  | c :: a, r, ha, h => by
    obtain ⟨h1, h2⟩ := tw_step (t := a ++ r) (ha c (.head _))
    obtain ⟨h3, h4⟩ := tw_all (a := a) (fun x hx => ha x (.tail _ hx)) h
    rw [List.cons_append, h1, h2, h3, h4]
    exact ⟨rfl, rfl⟩
set_option maxRecDepth 100000 in
set_option maxHeartbeats 16000000 in
theorem fterm_word (w0 : World) (hT : TabsU w0) (s : Str) (hs : s.length ≤ 4000) (r : Str) (h45 : r.headD 0 ≠ 45) (h40 : r.headD 0 ≠ 40) (h34 : r.headD 0 ≠ 34) (h42 : r.headD 0 ≠ 42) (w : World) (hr : r <:+ s) (hb0 : Below w0.heap.size w0 w) :
    Calls Tryz.prog 61 #[.string (bs s), .int .i64 ((s.length - r.length : Nat) : Int)] w (FRes s w (Q.wordTerm r)) := by
  rw [Q.wordTerm_eq]
  have hfw := fun V => fword_ok s r hr hs V
  have hwl := wordS_lens r
  have hws := wordS_split r.length r (Nat.le_refl _)
  have hwsf := (wordS_suf r).trans hr
  obtain ⟨⟨xa, xb⟩, hx⟩ : ∃ x, Q.wordS r = x := ⟨_, rfl⟩
  rw [hx] at hfw hwl hws hwsf ⊢
  dsimp only at hfw hwl hws hwsf ⊢
  obtain ⟨R, hR⟩ : ∃ R, Q.wordT r xa xb = R := ⟨_, rfl⟩
  rw [hR]
  have hrl := hr.length_le
  obtain ⟨i, hi⟩ : ∃ i, s.length - r.length = i := ⟨_, rfl⟩
  obtain ⟨j, hj⟩ : ∃ j, s.length - xb.length = j := ⟨_, rfl⟩
  rw [hi] at hfw ⊢
  rw [hj] at hfw
  obtain ⟨W, gR, hW, hgR, hsR, kr, hal⟩ := boxA w #[.int .i64 0, .string ⟨#[]⟩, .int .i64 0, .slice none 0 0] 24
  have hWs : w.heap.size ≤ W.heap.size := hal.size
  have hgw : w.heap.size ≤ gR := by omega
  have hgB : gR < W.heap.size := by omega
  have HW := Lib.hid hW; have HgR := Lib.hid hgR; have Hk := Lib.hid kr; have HR := Lib.hid hR; have Hal := Lib.hid hal; have Hr := Lib.hid hr; have Hi := Lib.hid hi; have Hj := Lib.hid hj; have HT := Lib.hid hT; have Hfw := Lib.hid hfw; have Hws := Lib.hid hws; have Hwsf := Lib.hid hwsf
  have H45 := Lib.hid h45; have H40 := Lib.hid h40; have H34 := Lib.hid h34; have H42 := Lib.hid h42
  have Hb0 := Lib.hid (hb0.trans (hal.mono hb0.size))
  clear hW hgR hsR kr hal hr hb0 hT hR hx hws hfw hwsf h45 h40 h34 h42 hi hj
  go_enter Tryz.func61, Tryz.ntmps61
  go_wp2_with fail
  rw [HW.out]
  try rw [HgR.out]
  have his := fis_ok s r Hr.out hs 45 (by decide) W
  rw [Hi.out, show (r.headD 0 == 45) = false from by simpa using H45.out] at his
  refine his.mono ?_
  clear his
  rintro e w_1 ⟨rfl, hbx⟩
  have Hb_1 := Lib.hid (hbx)
  clear hbx
  go_wp2_with fail
  have his := fis_ok s r Hr.out hs 40 (by decide) w_1
  rw [Hi.out, show (r.headD 0 == 40) = false from by simpa using H40.out] at his
  refine his.mono ?_
  clear his
  rintro e w_2 ⟨rfl, hbx⟩
  have Hb_2 := Lib.hid (Hb_1.out.trans (hbx.mono Hb_1.out.size))
  clear hbx
  go_wp2_with fail
  have his := fis_ok s r Hr.out hs 34 (by decide) w_2
  rw [Hi.out, show (r.headD 0 == 34) = false from by simpa using H34.out] at his
  refine his.mono ?_
  clear his
  rintro e w_3 ⟨rfl, hbx⟩
  have Hb_3 := Lib.hid (Hb_2.out.trans (hbx.mono Hb_2.out.size))
  clear hbx
  go_wp2_with fail
  have his := fis_ok s r Hr.out hs 42 (by decide) w_3
  rw [Hi.out, show (r.headD 0 == 42) = false from by simpa using H42.out] at his
  refine his.mono ?_
  clear his
  rintro e w_4 ⟨rfl, hbx⟩
  have Hb_4 := Lib.hid (Hb_3.out.trans (hbx.mono Hb_3.out.size))
  clear hbx
  go_wp2_with fail
  refine (Hfw.out w_4 (HT.out.ext (Hb0.out.trans (Hb_4.out.mono Hb0.out.size)))).mono ?_
  clear Hfw
  rintro e w_5 ⟨rfl, hbx⟩
  have Hb_5 := Lib.hid (Hb_4.out.trans (hbx.mono Hb_4.out.size))
  clear hbx
  by_cases hxe : xa = []
  · subst hxe
    have hxb : xb = r := by simpa using Hws.out.symm
    subst hxb
    have hji : j = i := Hj.out.symm.trans Hi.out
    subst hji
    have hR : R = okRes false (.node 0 [] 0 []) xb := by rw [← HR.out]; unfold Q.wordT; rw [if_pos rfl]; rfl
    have HRx := Lib.hid hR
    have hbW := Hb_5.out
    have kR := Hk.out.ext hbW
    clear hR HR
    obtain ⟨z0, z1, z2, z3, _⟩ := kR.four
    have z4 := kR.frozen 0; have z5 := kR.frozen 1; have z6 := kR.frozen 2; have z7 := kR.frozen 3
    obtain ⟨W9, hW9, y0, y1, y2, y3, hfin⟩ := ffin (w := w) (ok := false) (.int .i64 0) (.string ⟨#[]⟩) (.int .i64 0) (.slice none 0 0) kR hgw (Hal.out.trans (hbW.mono hWs)) (QAt.nil4 _ _) hgB hWs Hwsf.out HRx.out j Hj.out
    have HW9 := Lib.hid hW9; have Hfin := Lib.hid hfin; have Hy := Lib.hid (And.intro y0 (And.intro y1 (And.intro y2 y3)))
    clear hW9 hfin kR hbW y0 y1 y2 y3 
    go_wp2_with fail
    rw [HW9.out]
    obtain ⟨y0, y1, y2, y3⟩ := Hy.out
    exact bodyPost_ret (v := .tuple #[.agg #[.int .i64 0, .string ⟨#[]⟩, .int .i64 0, .slice none 0 0], .int .i64 (j : Int), .bool false]) (by simp [results, Tryz.results61, go_sem, y0, y1, y2, y3]) rfl Hfin.out
  · have hpx := List.length_pos_iff.2 hxe
    have hjj := Hj.out; have hii := Hi.out
    have hnei : ((j : Int) == (i : Int)) = false := by rw [beq_eq_false_iff_ne]; omega
    have hll := Sm.lower_len xa.length xa (Nat.le_refl _)
    have hdi := suf_drop Hr.out
    rw [Hi.out] at hdi
    have hd1 := hdi
    have hd2 : r.take (j - i) = xa := by rw [Hws.out, show j - i = xa.length by omega, List.take_left]
    have hd3 : (i : Int) ≤ (j : Int) := by omega
    have hd4 : (j : Int) ≤ (s.length : Int) := by omega
    have hd5 : (0 : Int) ≤ (i : Int) := by omega
    have hd6 : ((j : Int) - (i : Int)).toNat = j - i := by omega
    have hlw := refLower_ok xa (by omega) w_5 (HT.out.ext (Hb0.out.trans (Hb_5.out.mono Hb0.out.size)))
    have hR := HR.out
    unfold Q.wordT at hR
    rw [if_neg hxe] at hR
    obtain ⟨lx, hlx⟩ : ∃ l, Sm.lower xa = l := ⟨_, rfl⟩
    rw [hlx] at hlw hll hR
    have HR1 := Lib.hid hR; have Hlw := Lib.hid hlw
    clear hR hlw hlx hdi hii HR hxe
    have hwj : IntKind.i64.wrap ((j : Int) + 1) = ((j + 1 : Nat) : Int) := by rw [show (j : Int) + 1 = ((j + 1 : Nat) : Int) by omega]; exact IntWalk.i64_in _ (by omega)
    clear hjj
    go_wp2_with fail
    refine Hlw.out.mono ?_
    clear Hlw
    rintro e w_6 ⟨rfl, hbx⟩
    have Hb_6 := Lib.hid (Hb_5.out.trans (hbx.mono Hb_5.out.size))
    clear hbx hd1 hd2 hd3 hd4 hd6
    have his := fis_ok s xb Hwsf.out hs 42 (by decide) w_6
    rw [Hj.out] at his
    by_cases c42 : xb.headD 0 = 42
    · obtain ⟨v, rfl⟩ := headD_cons_of c42 (by decide)
      have hR := HR1.out
      rw [if_pos c42, List.tail_cons] at hR
      rw [c42] at his
      obtain ⟨hv1, hv2⟩ := suf_tail Hwsf.out
      rw [Hj.out] at hv2
      have HRx := Lib.hid (show R = okRes true (.node 3 lx 0 []) v from hR.symm)
      have His := Lib.hid his; have Hv1 := Lib.hid hv1; have Hv2 := Lib.hid hv2
      clear hR his hv1 hv2 c42
      go_wp2_with fail
      refine His.out.mono ?_
      clear His
      rintro e w_7 ⟨rfl, hbx⟩
      have hbW := Hb_6.out.trans (hbx.mono Hb_6.out.size)
      have kR := Hk.out.ext hbW
      clear hbx
      obtain ⟨z0, z1, z2, z3, _⟩ := kR.four
      have z4 := kR.frozen 0; have z5 := kR.frozen 1; have z6 := kR.frozen 2; have z7 := kR.frozen 3
      obtain ⟨W9, hW9, y0, y1, y2, y3, hfin⟩ := ffin (w := w) (ok := true) (.int .i64 3) (.string (bs lx)) (.int .i64 0) (.slice none 0 0) kR hgw (Hal.out.trans (hbW.mono hWs)) (QAt.leaf4 _ _ 3 0 lx (by omega) (by omega) (by omega)) hgB hWs Hv1.out HRx.out (j + 1) Hv2.out
      have HW9 := Lib.hid hW9; have Hfin := Lib.hid hfin; have Hy := Lib.hid (And.intro y0 (And.intro y1 (And.intro y2 y3)))
      clear hW9 hfin kR hbW y0 y1 y2 y3 
      go_wp2_with fail
      rw [HW9.out]
      obtain ⟨y0, y1, y2, y3⟩ := Hy.out
      exact bodyPost_ret (v := .tuple #[.agg #[.int .i64 3, .string (bs lx), .int .i64 0, .slice none 0 0], .int .i64 ((j + 1 : Nat) : Int), .bool true]) (by simp [results, Tryz.results61, go_sem, y0, y1, y2, y3]) rfl Hfin.out
    · have hR := HR1.out
      rw [if_neg c42] at hR
      rw [show (xb.headD 0 == 42) = false from by simpa using c42] at his
      have HR2 := Lib.hid hR; have His := Lib.hid his
      clear hR his c42 HR1
      go_wp2_with fail
      refine His.out.mono ?_
      clear His
      rintro e w_7 ⟨rfl, hbx⟩
      have Hb_7 := Lib.hid (Hb_6.out.trans (hbx.mono Hb_6.out.size))
      clear hbx
      have his := fis_ok s xb Hwsf.out hs 126 (by decide) w_7
      rw [Hj.out] at his
      by_cases c126 : xb.headD 0 = 126
      rotate_left
      · have hR := HR2.out
        rw [if_neg c126] at hR
        rw [show (xb.headD 0 == 126) = false from by simpa using c126] at his
        have HRx := Lib.hid (show R = okRes true (.node 2 lx 0 []) xb from hR.symm)
        have His := Lib.hid his
        clear hR his c126
        go_wp2_with fail
        refine His.out.mono ?_
        clear His
        rintro e w_8 ⟨rfl, hbx⟩
        have hbW := Hb_7.out.trans (hbx.mono Hb_7.out.size)
        have kR := Hk.out.ext hbW
        clear hbx
        obtain ⟨z0, z1, z2, z3, _⟩ := kR.four
        have z4 := kR.frozen 0; have z5 := kR.frozen 1; have z6 := kR.frozen 2; have z7 := kR.frozen 3
        obtain ⟨W9, hW9, y0, y1, y2, y3, hfin⟩ := ffin (w := w) (ok := true) (.int .i64 2) (.string (bs lx)) (.int .i64 0) (.slice none 0 0) kR hgw (Hal.out.trans (hbW.mono hWs)) (QAt.leaf4 _ _ 2 0 lx (by omega) (by omega) (by omega)) hgB hWs Hwsf.out HRx.out j Hj.out
        have HW9 := Lib.hid hW9; have Hfin := Lib.hid hfin; have Hy := Lib.hid (And.intro y0 (And.intro y1 (And.intro y2 y3)))
        clear hW9 hfin kR hbW y0 y1 y2 y3 
        go_wp2_with fail
        rw [HW9.out]
        obtain ⟨y0, y1, y2, y3⟩ := Hy.out
        exact bodyPost_ret (v := .tuple #[.agg #[.int .i64 2, .string (bs lx), .int .i64 0, .slice none 0 0], .int .i64 (j : Int), .bool true]) (by simp [results, Tryz.results61, go_sem, y0, y1, y2, y3]) rfl Hfin.out
      · obtain ⟨v, rfl⟩ := headD_cons_of c126 (by decide)
        have hR := HR2.out
        rw [if_pos c126, List.tail_cons, nearS_eq] at hR
        rw [c126] at his
        obtain ⟨hv1, hv2⟩ := suf_tail Hwsf.out
        rw [Hj.out] at hv2
        have hvl := hv1.length_le
        have HR3 := Lib.hid hR
        have His := Lib.hid his; have Hv1 := Lib.hid hv1; have Hv2 := Lib.hid hv2
        clear hR his hv1 hv2 c126 HR2
        go_wp2_with fail
        refine His.out.mono ?_
        clear His
        rintro e w_8 ⟨rfl, hbx⟩
        have Hb_8 := Lib.hid (Hb_7.out.trans (hbx.mono Hb_7.out.size))
        clear hbx
        go_wp2_with fail
        go_loopw [15, 16] (fun nv kv wr => ∃ (a r' : Str) (k : Nat) (m : Int), nv = .int .i64 m ∧ kv = .int .i64 (k : Int) ∧ Hid (s.length - r'.length = k) ∧ Hid (v = a ++ r' ∧ ∀ c ∈ a, Q.digit c = true) ∧ 0 ≤ m ∧ m ≤ 100000 ∧ Hid (a.length ≤ 4 → m = Q.numOf a) ∧ Hid (Below W.heap.size W wr)) (fun _ kv _ => s.length - (intOf kv).toNat)
        case atStart => exact ⟨[], v, j + 1, 0, rfl, rfl, Hv2, Lib.hid ⟨rfl, fun _ h => by cases h⟩, by omega, by omega, Lib.hid fun _ => rfl, Hb_8⟩
        case round =>
          obtain ⟨a, r', k, m, rfl, rfl, hk, hva, hm0, hm1, hnum, hb⟩ := hrel
          obtain ⟨wo, rfl⟩ : ∃ W, W = wr := ⟨_, rfl⟩
          have hrs : r' <:+ v := ⟨a, hva.out.1.symm⟩
          have hrsf := hrs.trans Hv1.out
          have hrl' := hrsf.length_le
          have hk0 : (0 : Int) ≤ (k : Int) := by omega
          have hbt := suf_byte hrsf
          rw [hk.out] at hbt
          have hkk := hk.out
          have hal : a.length + r'.length = v.length := by rw [hva.out.1, List.length_append]
          have Hrsf := Lib.hid hrsf
          clear hrs hrsf
          have hka : k = j + 1 + a.length := by have := Hv2.out; omega
          have Hka := Lib.hid hka
          clear hka
          have hwk : IntKind.i64.wrap ((k : Int) + 1) = ((k + 1 : Nat) : Int) := by rw [show (k : Int) + 1 = ((k + 1 : Nat) : Int) by omega]; exact IntWalk.i64_in _ (by omega)
          have hwsub : IntKind.i64.wrap ((k : Int) - ((j : Int) + 1)) = (a.length : Int) := by rw [show (k : Int) - ((j : Int) + 1) = ((a.length : Nat) : Int) by have := Hka.out; omega]; exact IntWalk.i64_in _ (by omega)
          cases r' with
          | nil =>
            have hge : ¬ (k : Int) < (s.length : Int) := by rw [List.length_nil] at hkk; omega
            have hdg : Q.digit (([] : Str).headD 0) = false := by decide
            clear hbt hkk
            have hv := hva.out.1
            have htw := tw_all hva.out.2 hdg
            rw [← hv] at htw
            have hR := HR3.out
            rw [htw.1, htw.2] at hR
            unfold nearT at hR
            have HR4 := Lib.hid hR
            have Hb := Lib.hid hb.out
            clear hR htw hv hdg hb
            by_cases hae : a = []
            · have hak : k = j + 1 := by have := Hka.out; rw [hae, List.length_nil] at this; omega
              have hR := HR4.out
              rw [if_pos (.inl hae)] at hR
              have hq : ((k : Int) == (j : Int) + 1) = true := by rw [beq_iff_eq]; omega
              have HRx := Lib.hid (show R = okRes false (.node 0 [] 0 []) v from hR.symm)
              have hbW := Hb.out
              have kR := Hk.out.ext hbW
              clear hR hwsub
              obtain ⟨z0, z1, z2, z3, _⟩ := kR.four
              have z4 := kR.frozen 0; have z5 := kR.frozen 1; have z6 := kR.frozen 2; have z7 := kR.frozen 3
              obtain ⟨W9, hW9, y0, y1, y2, y3, hfin⟩ := ffin (w := w) (ok := false) (.int .i64 0) (.string ⟨#[]⟩) (.int .i64 0) (.slice none 0 0) kR hgw (Hal.out.trans (hbW.mono hWs)) (QAt.nil4 _ _) hgB hWs Hv1.out HRx.out (j + 1) Hv2.out
              have HW9 := Lib.hid hW9; have Hfin := Lib.hid hfin; have Hy := Lib.hid (And.intro y0 (And.intro y1 (And.intro y2 y3)))
              clear hW9 hfin kR hbW y0 y1 y2 y3 
              go_wp2_with fail
              rw [HW9.out]
              obtain ⟨y0, y1, y2, y3⟩ := Hy.out
              exact bodyPost_ret (v := .tuple #[.agg #[.int .i64 0, .string ⟨#[]⟩, .int .i64 0, .slice none 0 0], .int .i64 ((j + 1 : Nat) : Int), .bool false]) (by simp [results, Tryz.results61, go_sem, y0, y1, y2, y3]) rfl Hfin.out
            · have hap := List.length_pos_iff.2 hae
              have hq : ((k : Int) == (j : Int) + 1) = false := by rw [beq_eq_false_iff_ne]; have := Hka.out; omega
              by_cases h4 : 4 < a.length
              · have hR := HR4.out
                rw [if_pos (.inr h4)] at hR
                have h4i : (4 : Int) < (a.length : Int) := by omega
                have HRx := Lib.hid (show R = okRes false (.node 0 [] 0 []) v from hR.symm)
                have hbW := Hb.out
                have kR := Hk.out.ext hbW
                clear hR
                obtain ⟨z0, z1, z2, z3, _⟩ := kR.four
                have z4 := kR.frozen 0; have z5 := kR.frozen 1; have z6 := kR.frozen 2; have z7 := kR.frozen 3
                obtain ⟨W9, hW9, y0, y1, y2, y3, hfin⟩ := ffin (w := w) (ok := false) (.int .i64 0) (.string ⟨#[]⟩) (.int .i64 0) (.slice none 0 0) kR hgw (Hal.out.trans (hbW.mono hWs)) (QAt.nil4 _ _) hgB hWs Hv1.out HRx.out (j + 1) Hv2.out
                have HW9 := Lib.hid hW9; have Hfin := Lib.hid hfin; have Hy := Lib.hid (And.intro y0 (And.intro y1 (And.intro y2 y3)))
                clear hW9 hfin kR hbW y0 y1 y2 y3 
                go_wp2_with fail
                rw [HW9.out]
                obtain ⟨y0, y1, y2, y3⟩ := Hy.out
                exact bodyPost_ret (v := .tuple #[.agg #[.int .i64 0, .string ⟨#[]⟩, .int .i64 0, .slice none 0 0], .int .i64 ((j + 1 : Nat) : Int), .bool false]) (by simp [results, Tryz.results61, go_sem, y0, y1, y2, y3]) rfl Hfin.out
              · have hR := HR4.out
                rw [if_neg (by rintro (e | e); exact hae e; exact h4 e)] at hR
                have h4i : ¬ (4 : Int) < (a.length : Int) := by omega
                have hmn := hnum.out (by omega)
                have HR5 := Lib.hid hR; have Hmn := Lib.hid hmn
                clear hR HR4 hmn hae
                have his := fis_ok s [] Hrsf.out hs 58 (by decide) wo
                rw [hk.out] at his
                by_cases c58 : ([] : Str).headD 0 = 58
                rotate_left
                · have hR := HR5.out
                  rw [if_neg c58] at hR
                  rw [show (([] : Str).headD 0 == 58) = false from by rw [beq_eq_false_iff_ne]; exact c58] at his
                  have HRx := Lib.hid (show R = okRes false (.node 0 [] 0 []) ([]) from hR.symm)
                  have His := Lib.hid his
                  clear hR his c58
                  go_wp2_with fail
                  refine His.out.mono ?_
                  clear His
                  rintro e w_10 ⟨rfl, hbx⟩
                  have hbW := Hb.out.trans (hbx.mono Hb.out.size)
                  have kR := Hk.out.ext hbW
                  clear hbx
                  obtain ⟨z0, z1, z2, z3, _⟩ := kR.four
                  have z4 := kR.frozen 0; have z5 := kR.frozen 1; have z6 := kR.frozen 2; have z7 := kR.frozen 3
                  obtain ⟨W9, hW9, y0, y1, y2, y3, hfin⟩ := ffin (w := w) (ok := false) (.int .i64 0) (.string ⟨#[]⟩) (.int .i64 0) (.slice none 0 0) kR hgw (Hal.out.trans (hbW.mono hWs)) (QAt.nil4 _ _) hgB hWs Hrsf.out HRx.out k hk.out
                  have HW9 := Lib.hid hW9; have Hfin := Lib.hid hfin; have Hy := Lib.hid (And.intro y0 (And.intro y1 (And.intro y2 y3)))
                  clear hW9 hfin kR hbW y0 y1 y2 y3 
                  go_wp2_with fail
                  rw [HW9.out]
                  obtain ⟨y0, y1, y2, y3⟩ := Hy.out
                  exact bodyPost_ret (v := .tuple #[.agg #[.int .i64 0, .string ⟨#[]⟩, .int .i64 0, .slice none 0 0], .int .i64 (k : Int), .bool false]) (by simp [results, Tryz.results61, go_sem, y0, y1, y2, y3]) rfl Hfin.out
                · exact absurd c58 (by decide)
          | cons c t =>
            rw [List.length_cons] at hkk hrl'
            have hlt : k < s.length := by omega
            have hxe : byteAt s k = s[k] := by simp [byteAt, List.getD, hlt]
            rw [hxe, List.headD_cons] at hbt
            have hget : (bs s)[k]'(by simpa using hlt) = c := (bs_get s k (by simpa using hlt)).trans hbt
            have hi1 : (k : Int) < (s.length : Int) := by omega
            have hin := fun V => in_ok (c.toNat : Int) 48 57 V
            rw [dig_in] at hin
            have hwc : IntKind.i64.wrap (c.toNat : Int) = (c.toNat : Int) := IntWalk.i64_in _ (by have := c.toNat_lt; omega)
            have Hin := Lib.hid hin
            clear hin hbt hxe
            cases hdc : Q.digit c with
            | false =>
              rw [hdc] at Hin
              have hdg : Q.digit ((c :: t : Str).headD 0) = false := hdc
              clear hkk hdc
              go_wp2_with fail
              refine (Hin.out wo).mono ?_
              clear Hin
              rintro e w_9 ⟨rfl, rfl⟩
              have hv := hva.out.1
              have htw := tw_all hva.out.2 hdg
              rw [← hv] at htw
              have hR := HR3.out
              rw [htw.1, htw.2] at hR
              unfold nearT at hR
              have HR4 := Lib.hid hR
              have Hb := Lib.hid hb.out
              clear hR htw hv hdg hb
              by_cases hae : a = []
              · have hak : k = j + 1 := by have := Hka.out; rw [hae, List.length_nil] at this; omega
                have hR := HR4.out
                rw [if_pos (.inl hae)] at hR
                have hq : ((k : Int) == (j : Int) + 1) = true := by rw [beq_iff_eq]; omega
                have HRx := Lib.hid (show R = okRes false (.node 0 [] 0 []) v from hR.symm)
                have hbW := Hb.out
                have kR := Hk.out.ext hbW
                clear hR hwsub
                obtain ⟨z0, z1, z2, z3, _⟩ := kR.four
                have z4 := kR.frozen 0; have z5 := kR.frozen 1; have z6 := kR.frozen 2; have z7 := kR.frozen 3
                obtain ⟨W9, hW9, y0, y1, y2, y3, hfin⟩ := ffin (w := w) (ok := false) (.int .i64 0) (.string ⟨#[]⟩) (.int .i64 0) (.slice none 0 0) kR hgw (Hal.out.trans (hbW.mono hWs)) (QAt.nil4 _ _) hgB hWs Hv1.out HRx.out (j + 1) Hv2.out
                have HW9 := Lib.hid hW9; have Hfin := Lib.hid hfin; have Hy := Lib.hid (And.intro y0 (And.intro y1 (And.intro y2 y3)))
                clear hW9 hfin kR hbW y0 y1 y2 y3 
                go_wp2_with fail
                rw [HW9.out]
                obtain ⟨y0, y1, y2, y3⟩ := Hy.out
                exact bodyPost_ret (v := .tuple #[.agg #[.int .i64 0, .string ⟨#[]⟩, .int .i64 0, .slice none 0 0], .int .i64 ((j + 1 : Nat) : Int), .bool false]) (by simp [results, Tryz.results61, go_sem, y0, y1, y2, y3]) rfl Hfin.out
              · have hap := List.length_pos_iff.2 hae
                have hq : ((k : Int) == (j : Int) + 1) = false := by rw [beq_eq_false_iff_ne]; have := Hka.out; omega
                by_cases h4 : 4 < a.length
                · have hR := HR4.out
                  rw [if_pos (.inr h4)] at hR
                  have h4i : (4 : Int) < (a.length : Int) := by omega
                  have HRx := Lib.hid (show R = okRes false (.node 0 [] 0 []) v from hR.symm)
                  have hbW := Hb.out
                  have kR := Hk.out.ext hbW
                  clear hR
                  obtain ⟨z0, z1, z2, z3, _⟩ := kR.four
                  have z4 := kR.frozen 0; have z5 := kR.frozen 1; have z6 := kR.frozen 2; have z7 := kR.frozen 3
                  obtain ⟨W9, hW9, y0, y1, y2, y3, hfin⟩ := ffin (w := w) (ok := false) (.int .i64 0) (.string ⟨#[]⟩) (.int .i64 0) (.slice none 0 0) kR hgw (Hal.out.trans (hbW.mono hWs)) (QAt.nil4 _ _) hgB hWs Hv1.out HRx.out (j + 1) Hv2.out
                  have HW9 := Lib.hid hW9; have Hfin := Lib.hid hfin; have Hy := Lib.hid (And.intro y0 (And.intro y1 (And.intro y2 y3)))
                  clear hW9 hfin kR hbW y0 y1 y2 y3 
                  go_wp2_with fail
                  rw [HW9.out]
                  obtain ⟨y0, y1, y2, y3⟩ := Hy.out
                  exact bodyPost_ret (v := .tuple #[.agg #[.int .i64 0, .string ⟨#[]⟩, .int .i64 0, .slice none 0 0], .int .i64 ((j + 1 : Nat) : Int), .bool false]) (by simp [results, Tryz.results61, go_sem, y0, y1, y2, y3]) rfl Hfin.out
                · have hR := HR4.out
                  rw [if_neg (by rintro (e | e); exact hae e; exact h4 e)] at hR
                  have h4i : ¬ (4 : Int) < (a.length : Int) := by omega
                  have hmn := hnum.out (by omega)
                  have HR5 := Lib.hid hR; have Hmn := Lib.hid hmn
                  clear hR HR4 hmn hae
                  have his := fis_ok s (c :: t) Hrsf.out hs 58 (by decide) wo
                  rw [hk.out] at his
                  by_cases c58 : (c :: t : Str).headD 0 = 58
                  rotate_left
                  · have hR := HR5.out
                    rw [if_neg c58] at hR
                    rw [show ((c :: t : Str).headD 0 == 58) = false from by rw [beq_eq_false_iff_ne]; exact c58] at his
                    have HRx := Lib.hid (show R = okRes false (.node 0 [] 0 []) (c :: t) from hR.symm)
                    have His := Lib.hid his
                    clear hR his c58
                    go_wp2_with fail
                    refine His.out.mono ?_
                    clear His
                    rintro e w_10 ⟨rfl, hbx⟩
                    have hbW := Hb.out.trans (hbx.mono Hb.out.size)
                    have kR := Hk.out.ext hbW
                    clear hbx
                    obtain ⟨z0, z1, z2, z3, _⟩ := kR.four
                    have z4 := kR.frozen 0; have z5 := kR.frozen 1; have z6 := kR.frozen 2; have z7 := kR.frozen 3
                    obtain ⟨W9, hW9, y0, y1, y2, y3, hfin⟩ := ffin (w := w) (ok := false) (.int .i64 0) (.string ⟨#[]⟩) (.int .i64 0) (.slice none 0 0) kR hgw (Hal.out.trans (hbW.mono hWs)) (QAt.nil4 _ _) hgB hWs Hrsf.out HRx.out k hk.out
                    have HW9 := Lib.hid hW9; have Hfin := Lib.hid hfin; have Hy := Lib.hid (And.intro y0 (And.intro y1 (And.intro y2 y3)))
                    clear hW9 hfin kR hbW y0 y1 y2 y3 
                    go_wp2_with fail
                    rw [HW9.out]
                    obtain ⟨y0, y1, y2, y3⟩ := Hy.out
                    exact bodyPost_ret (v := .tuple #[.agg #[.int .i64 0, .string ⟨#[]⟩, .int .i64 0, .slice none 0 0], .int .i64 (k : Int), .bool false]) (by simp [results, Tryz.results61, go_sem, y0, y1, y2, y3]) rfl Hfin.out
                  · obtain ⟨u, hu⟩ := headD_cons_of c58 (by decide)
                    injection hu with hu1 hu2
                    subst hu1 hu2
                    have hR := HR5.out
                    rw [if_pos c58, List.tail_cons] at hR
                    rw [c58] at his
                    obtain ⟨hu1, hu2⟩ := suf_tail Hrsf.out
                    rw [hk.out] at hu2
                    have hfy := fun V => fword_ok s t hu1 hs V
                    have hyl := wordS_lens t
                    have hys := wordS_split t.length t (Nat.le_refl _)
                    have hysf := (wordS_suf t).trans hu1
                    have htl := hu1.length_le
                    obtain ⟨⟨ya, yb⟩, hy⟩ : ∃ x, Q.wordS t = x := ⟨_, rfl⟩
                    rw [hy] at hfy hyl hys hysf hR
                    dsimp only at hfy hyl hys hysf hR
                    obtain ⟨z, hz⟩ : ∃ z, s.length - yb.length = z := ⟨_, rfl⟩
                    rw [hu2, hz] at hfy
                    have HR6 := Lib.hid hR; have His := Lib.hid his; have Hu1 := Lib.hid hu1; have Hu2 := Lib.hid hu2; have Hfy := Lib.hid hfy; have Hys := Lib.hid hys; have Hysf := Lib.hid hysf; have Hz := Lib.hid hz
                    clear hR his hu1 hu2 hfy hys hysf hz hy c58 HR5
                    go_wp2_with fail
                    refine His.out.mono ?_
                    clear His
                    rintro e w_10 ⟨rfl, hbx⟩
                    have Hb_10 := Lib.hid (Hb.out.trans (hbx.mono Hb.out.size))
                    clear hbx
                    go_wp2_with fail
                    refine (Hfy.out w_10 (HT.out.ext (Hb0.out.trans (Hb_10.out.mono Hb0.out.size)))).mono ?_
                    clear Hfy
                    rintro e w_11 ⟨rfl, hbx⟩
                    have Hb_11 := Lib.hid (Hb_10.out.trans (hbx.mono Hb_10.out.size))
                    clear hbx
                    by_cases hye : ya = []
                    · subst hye
                      have hyb : yb = t := by simpa using Hys.out.symm
                      subst hyb
                      have hzk : z = k + 1 := Hz.out.symm.trans Hu2.out
                      have hR := HR6.out
                      rw [if_pos rfl] at hR
                      have hq2 : ((z : Int) == (k : Int) + 1) = true := by rw [beq_iff_eq]; omega
                      have HRx := Lib.hid (show R = okRes false (.node 0 [] 0 []) yb from hR.symm)
                      have hbW := Hb_11.out
                      have kR := Hk.out.ext hbW
                      clear hR HR6 hzk
                      obtain ⟨z0, z1, z2, z3, _⟩ := kR.four
                      have z4 := kR.frozen 0; have z5 := kR.frozen 1; have z6 := kR.frozen 2; have z7 := kR.frozen 3
                      obtain ⟨W9, hW9, y0, y1, y2, y3, hfin⟩ := ffin (w := w) (ok := false) (.int .i64 0) (.string ⟨#[]⟩) (.int .i64 0) (.slice none 0 0) kR hgw (Hal.out.trans (hbW.mono hWs)) (QAt.nil4 _ _) hgB hWs Hysf.out HRx.out z Hz.out
                      have HW9 := Lib.hid hW9; have Hfin := Lib.hid hfin; have Hy := Lib.hid (And.intro y0 (And.intro y1 (And.intro y2 y3)))
                      clear hW9 hfin kR hbW y0 y1 y2 y3 
                      go_wp2_with fail
                      rw [HW9.out]
                      obtain ⟨y0, y1, y2, y3⟩ := Hy.out
                      exact bodyPost_ret (v := .tuple #[.agg #[.int .i64 0, .string ⟨#[]⟩, .int .i64 0, .slice none 0 0], .int .i64 (z : Int), .bool false]) (by simp [results, Tryz.results61, go_sem, y0, y1, y2, y3]) rfl Hfin.out
                    · have hpy := List.length_pos_iff.2 hye
                      have hR := HR6.out
                      rw [if_neg hye] at hR
                      have hzz := Hz.out; have hkk := Hu2.out
                      have hq2 : ((z : Int) == (k : Int) + 1) = false := by rw [beq_eq_false_iff_ne]; omega
                      have hly := Sm.lower_len ya.length ya (Nat.le_refl _)
                      have hdi := suf_drop Hu1.out
                      rw [Hu2.out] at hdi
                      have hd1 := hdi
                      have hd2 : t.take (z - (k + 1)) = ya := by rw [Hys.out, show z - (k + 1) = ya.length by omega, List.take_left]
                      have hd3 : (k : Int) + 1 ≤ (z : Int) := by omega
                      have hd4 : (z : Int) ≤ (s.length : Int) := by omega
                      have hd5' : (0 : Int) ≤ (k : Int) + 1 := by omega
                      have hd6 : ((z : Int) - ((k : Int) + 1)).toNat = z - (k + 1) := by omega
                      have hd7 : ((k : Int) + 1).toNat = k + 1 := by omega
                      have hlw := refLower_ok ya (by omega) w_11 (HT.out.ext (Hb0.out.trans (Hb_11.out.mono Hb0.out.size)))
                      obtain ⟨ly, hlyq⟩ : ∃ l, Sm.lower ya = l := ⟨_, rfl⟩
                      rw [hlyq] at hlw hly hR
                      obtain ⟨tx, htx⟩ : ∃ x, lx ++ 32 :: ly = x := ⟨_, rfl⟩
                      have hcat : bs lx ++ (⟨#[32]⟩ : ByteArray) ++ bs ly = bs tx := by rw [bs_lit, bs_append, bs_append, ← htx]; simp
                      have htl2 : tx.length ≤ 100000 := by rw [← htx, List.length_append, List.length_cons]; omega
                      rw [htx, ← Hmn.out] at hR
                      have HRx := Lib.hid (show R = okRes true (.node 5 tx m []) yb from hR.symm); have Hlw := Lib.hid hlw
                      clear hR hlw hlyq htx hdi hzz hkk HR6 hye
                      go_wp2_with fail
                      refine Hlw.out.mono ?_
                      clear Hlw
                      rintro e w_12 ⟨rfl, hbx⟩
                      have hbW := Hb_11.out.trans (hbx.mono Hb_11.out.size)
                      have kR := Hk.out.ext hbW
                      clear hbx
                      obtain ⟨z0, z1, z2, z3, _⟩ := kR.four
                      have z4 := kR.frozen 0; have z5 := kR.frozen 1; have z6 := kR.frozen 2; have z7 := kR.frozen 3
                      obtain ⟨W9, hW9, y0, y1, y2, y3, hfin⟩ := ffin (w := w) (ok := true) (.int .i64 5) (.string (bs tx)) (.int .i64 m) (.slice none 0 0) kR hgw (Hal.out.trans (hbW.mono hWs)) (QAt.leaf4 _ _ 5 m tx (by omega) ⟨hm0, hm1⟩ htl2) hgB hWs Hysf.out HRx.out z Hz.out
                      have HW9 := Lib.hid hW9; have Hfin := Lib.hid hfin; have Hy := Lib.hid (And.intro y0 (And.intro y1 (And.intro y2 y3)))
                      clear hW9 hfin kR hbW y0 y1 y2 y3 
                      go_wp2_with fail
                      rw [HW9.out]
                      obtain ⟨y0, y1, y2, y3⟩ := Hy.out
                      exact bodyPost_ret (v := .tuple #[.agg #[.int .i64 5, .string (bs tx), .int .i64 m, .slice none 0 0], .int .i64 (z : Int), .bool true]) (by simp [results, Tryz.results61, go_sem, y0, y1, y2, y3]) rfl Hfin.out
            | true =>
              rw [hdc] at Hin
              have hc9 := (digit_val hdc).2
              have hc57 : c.toNat ≤ 57 := by
                have h9 := hdc
                unfold Q.digit at h9
                rw [Bool.and_eq_true, decide_eq_true_eq, decide_eq_true_eq, UInt8.le_iff_toNat_le, UInt8.le_iff_toNat_le] at h9
                exact h9.2
              have hm2 : IntKind.i64.wrap (10 * m) = 10 * m := IntWalk.i64_in _ (by omega)
              have hm3 : IntKind.i64.wrap (10 * m + (c.toNat : Int)) = 10 * m + (c.toNat : Int) := IntWalk.i64_in _ (by omega)
              have hm4 : IntKind.i64.wrap (10 * m + (c.toNat : Int) - 48) = 10 * m + (c.toNat : Int) - 48 := IntWalk.i64_in _ (by omega)
              obtain ⟨m9, hm9⟩ : ∃ m9, min (10 * m + (c.toNat : Int) - 48) 100000 = m9 := ⟨_, rfl⟩
              have hb9 : 0 ≤ m9 ∧ m9 ≤ 100000 := by omega
              have hnext : (a ++ [c]).length ≤ 4 → m9 = Q.numOf (a ++ [c]) := fun h => by
                rw [List.length_append, List.length_singleton] at h
                have h1 := hnum.out (by omega)
                have h2 := num_four hva.out.2 (by omega)
                rw [num_snoc, ← hm9, h1]
                omega
              have hall : ∀ x ∈ a ++ [c], Q.digit x = true := fun x hx => by
                rcases List.mem_append.1 hx with h | h
                · exact hva.out.2 x h
                · rw [List.mem_singleton] at h; rw [h]; exact hdc
              have Hnext := Lib.hid hnext; have Hall := Lib.hid hall; have Hkk := Lib.hid hkk
              clear hnext hall hdc hkk hwsub
              go_wp2_with fail
              refine (Hin.out wo).mono ?_
              clear Hin
              rintro e w_9 ⟨rfl, rfl⟩
              go_wp2_with fail
              go_roundw
              case rel => exact ⟨a ++ [c], t, k + 1, m9, rfl, rfl, Lib.hid (by have := Hkk.out; omega), Lib.hid ⟨by rw [hva.out.1]; simp, Hall.out⟩, hb9.1, hb9.2, Hnext, hb⟩
              case measure => simp only [intOf]; omega
theorem fterm_any (w0 : World) (hT : TabsU w0) (s : Str) (hs : s.length ≤ 4000) (f n : Nat) (hTc : ∀ t : Str, t.length < n → TermR w0 s t.length (Q.termS f)) (r : Str) (hrn : r.length ≤ n) (w : World) (hr : r <:+ s) (hb0 : Below w0.heap.size w0 w) :
    Calls Tryz.prog 61 #[.string (bs s), .int .i64 ((s.length - r.length : Nat) : Int)] w (FRes s w (Q.termS (f + 1) r)) := by
  have hSh := Q.termS_short f
  have hId := Q.idle_term f
  by_cases h45 : r.headD 0 = 45
  · obtain ⟨t, rfl⟩ := headD_cons_of h45 (by decide)
    rw [List.length_cons] at hrn
    exact fterm_minus w0 hT s hs t.length _ (hTc t (by omega)) t w hr (Nat.le_refl _) hb0 _ (Q.termS_minus f t).symm
  by_cases h40 : r.headD 0 = 40
  · obtain ⟨t, rfl⟩ := headD_cons_of h40 (by decide)
    rw [List.length_cons] at hrn
    exact fterm_paren w0 hT s hs t.length _ hSh hId (hTc t (by omega)) t w hr (Nat.le_refl _) hb0 _ (Q.termS_paren f t).symm
  by_cases h34 : r.headD 0 = 34
  · obtain ⟨t, rfl⟩ := headD_cons_of h34 (by decide)
    exact fterm_quote w0 hT s hs t w hr hb0 _ rfl
  by_cases h42 : r.headD 0 = 42
  · obtain ⟨t, rfl⟩ := headD_cons_of h42 (by decide)
    exact fterm_star w0 hT s hs t w hr hb0 _ rfl
  rw [Q.termS_wd f h45 h40 h34 h42]
  exact fterm_word w0 hT s hs r h45 h40 h34 h42 w hr hb0
theorem fterm_ok (w0 : World) (hT : TabsU w0) (s : Str) (hs : s.length ≤ 4000) : ∀ (f n : Nat), n < f → TermR w0 s n (Q.termS f)
  | 0, n, h => absurd h (Nat.not_lt_zero _)
  | f + 1, n, h => fun r w hr hn hb => fterm_any w0 hT s hs f n (fun t ht => fterm_ok w0 hT s hs f t.length (by omega)) r hn w hr hb
end Go.Proofs.YtihhgmpanfboaaaGreatDoor
