/-
  Contracts and plain facts, one after another: The reader of queries: near; The parser of queries: what is read is shorter; enough fuel; plain.
-/
import Derived.Test.YtihhgmpanfboaaaGreatDoorK14
import Derived.Lib.AtoiErrMem
namespace Go.Proofs.YtihhgmpanfboaaaGreatDoor
open Go.RowKit
set_option linter.unusedVariables false
theorem digit_val {c : UInt8} (h : Q.digit c = true) : Lib.digitVal c = some (c.toNat - 48) ∧ 48 ≤ c.toNat := by
  unfold Q.digit at h
  rw [Bool.and_eq_true, decide_eq_true_eq, decide_eq_true_eq, UInt8.le_iff_toNat_le, UInt8.le_iff_toNat_le] at h
  have h1 : (48 : UInt8).toNat = 48 := rfl
  have h2 : (57 : UInt8).toNat = 57 := rfl
  unfold Lib.digitVal
  rw [if_pos (by omega)]
  exact ⟨rfl, by omega⟩
theorem dec_num : ∀ (l : Str) (acc : Nat), (∀ c ∈ l, Q.digit c = true) → ∃ m, Lib.decFrom acc l = some m ∧ (m : Int) = l.foldl (fun (n : Int) c => 10 * n + ((c.toNat : Int) - 48)) (acc : Int)
  | [], acc, _ => ⟨acc, rfl, rfl⟩
  | c :: l, acc, h => by
    obtain ⟨h1, h2⟩ := digit_val (h c (.head _))
    obtain ⟨m, e1, e2⟩ := dec_num l (acc * 10 + (c.toNat - 48)) fun x hx => h x (.tail _ hx)
    refine ⟨m, by rw [Lib.decFrom, h1]; exact e1, ?_⟩
    rw [e2, List.foldl_cons]
    congr 1
    omega
theorem atoi_num {l : Str} (hne : l ≠ []) (h : ∀ c ∈ l, Q.digit c = true) : Lib.atoi l = some (Q.numOf l) := by
  obtain ⟨m, e1, e2⟩ := dec_num l 0 h
  match l, hne with
  | c :: t, _ =>
    obtain ⟨_, h2⟩ := digit_val (h c (.head _))
    have n45 : (c == 45) = false := by
      rw [beq_eq_false_iff_ne]; rintro rfl; exact absurd h2 (by decide)
    have n43 : (c == 43) = false := by
      rw [beq_eq_false_iff_ne]; rintro rfl; exact absurd h2 (by decide)
    show (if (c == 45) = true then _ else if (c == 43) = true then _ else (Lib.decNat (c :: t)).map fun (m : Nat) => (m : Int)) = _
    rw [n45, n43]
    simp only [Bool.false_eq_true, if_false]
    unfold Lib.decNat
    rw [show (c :: t : Str).isEmpty = false from rfl]
    simp only [Bool.false_eq_true, if_false, e1, Option.map_some]
    rw [e2]; rfl
theorem num_range {l : Str} (h : ∀ c ∈ l, Q.digit c = true) : ∀ (acc : Int), 0 ≤ acc → 0 ≤ l.foldl (fun (n : Int) c => 10 * n + ((c.toNat : Int) - 48)) acc ∧ l.foldl (fun (n : Int) c => 10 * n + ((c.toNat : Int) - 48)) acc ≤ (acc + 1) * 10 ^ l.length * 30 := by
  induction l with
  | nil => intro acc h0; simp; omega
  | cons c l ih =>
    intro acc h0
    obtain ⟨_, h2⟩ := digit_val (h c (.head _))
    have h3 : c.toNat ≤ 57 := by
      have := h c (.head _)
      unfold Q.digit at this
      rw [Bool.and_eq_true, decide_eq_true_eq, decide_eq_true_eq, UInt8.le_iff_toNat_le, UInt8.le_iff_toNat_le] at this
      exact this.2
    have h4 := ih (fun x hx => h x (.tail _ hx)) (10 * acc + ((c.toNat : Int) - 48)) (by omega)
    rw [List.foldl_cons]
    refine ⟨h4.1, Int.le_trans h4.2 ?_⟩
    rw [List.length_cons, Int.pow_succ]
    have h5 : (0 : Int) ≤ 10 ^ l.length := Int.le_of_lt (Int.pow_pos (by omega))
    have h6 : (10 * acc + ((c.toNat : Int) - 48) + 1) ≤ (acc + 1) * 10 := by omega
    have h7 := Int.mul_le_mul_of_nonneg_right h6 h5
    have h8 : (acc + 1) * (10 ^ l.length * 10) = (acc + 1) * 10 * 10 ^ l.length := by
      rw [Int.mul_comm (10 ^ l.length) 10, Int.mul_assoc]
    rw [h8]
    omega
theorem tw_step {c : UInt8} {t : Str} (h : Q.digit c = true) : (c :: t).takeWhile Q.digit = c :: t.takeWhile Q.digit ∧ (c :: t).dropWhile Q.digit = t.dropWhile Q.digit := ⟨by rw [List.takeWhile_cons, if_pos h], by rw [List.dropWhile_cons, if_pos h]⟩
theorem tw_stop {r : Str} (h : Q.digit (r.headD 0) = false) : r.takeWhile Q.digit = [] ∧ r.dropWhile Q.digit = r := by
  cases r with
  | nil => exact ⟨rfl, rfl⟩
  | cons c t =>
    rw [List.headD_cons] at h
    exact ⟨by rw [List.takeWhile_cons, h]; rfl, by rw [List.dropWhile_cons, h]; rfl⟩
def nearT (x v ta tb : Str) : Q.Res :=
  if ta = [] ∨ 4 < ta.length then .err v
  else if tb.headD 0 = 58 then (if (Q.wordS tb.tail).1 = [] then .err (Q.wordS tb.tail).2 else .ok (.node 5 (x ++ 32 :: Sm.lower (Q.wordS tb.tail).1) (Q.numOf ta) []) (Q.wordS tb.tail).2)
  else .err tb
theorem nearS_eq (x v : Str) : Q.nearS x v = nearT x v (v.takeWhile Q.digit) (v.dropWhile Q.digit) := by
  unfold Q.nearS nearT
  split
  · rfl
  · cases h : v.dropWhile Q.digit with
    | nil => rfl
    | cons c t =>
      by_cases hc : c = 58
      · subst hc; rfl
      · rw [if_neg (by rw [List.headD_cons]; exact hc)]
        split
        · rename_i e; injection e with e1 e2; exact absurd e1 hc
        · rfl
set_option maxRecDepth 100000 in
set_option maxHeartbeats 8000000 in
theorem rnear_ok (w0 : World) (hT : TabsU w0) (g : Nat) (hg : w0.heap.size ≤ g) (s x v : Str) (hx : x.length ≤ 16000) (w : World) (hr : Rd w g s v) (hs : s.length ≤ 4000) (hb0 : Below w0.heap.size w0 w) : Calls Tryz.prog 83 #[.pointer (some ⟨g, 0, none⟩), .string (bs x)] w (ResAt g s w (Q.nearS x v)) := by
  rw [nearS_eq]
  obtain ⟨ta, hta⟩ : ∃ a, v.takeWhile Q.digit = a := ⟨_, rfl⟩
  obtain ⟨tb, htb⟩ : ∃ a, v.dropWhile Q.digit = a := ⟨_, rfl⟩
  rw [hta, htb]
  obtain ⟨R, hR⟩ : ∃ R, nearT x v ta tb = R := ⟨_, rfl⟩
  rw [hR]
  have hvl := hr.2.length_le
  obtain ⟨fr, hfr⟩ : ∃ i, s.length - v.length = i := ⟨_, rfl⟩
  have hdr := suf_drop hr.2
  rw [hfr] at hdr
  obtain ⟨W, gR, hW, hgR, hsR, kr, hal⟩ := boxA w #[.int .i64 0, .string ⟨#[]⟩, .int .i64 0, .slice none 0 0] 24
  have hgw : g < w.heap.size := hr.1.two.2.2.2.2
  obtain ⟨r0, r1, _, _, _⟩ := (hr.1.ext hal).two
  rw [hfr] at r1
  rw [← hW] at r0 r1
  have HW := Lib.hid hW; have HgR := Lib.hid hgR; have Hk := Lib.hid kr
  have Hr := Lib.hid (hr.ext hal); have Hb0 := Lib.hid (hb0.trans (hal.mono hb0.size)); have Hal := Lib.hid hal; have HT := Lib.hid hT
  have hgB : g < W.heap.size := by omega
  have hgn : gR ≠ g := by omega
  have HR := Lib.hid hR; have Hta := Lib.hid hta; have Htb := Lib.hid htb; have Hfr := Lib.hid hfr; have Hdr := Lib.hid hdr
  clear hW hgR hsR kr hal hr hb0 hT hR hta htb hfr hdr
  go_enter Tryz.func83, Tryz.ntmps83
  go_wp2_with fail
  rw [HW.out]
  try rw [HgR.out]
  clear r0 r1
  go_loopw [] (fun wr => ∃ a r' : Str, Hid (v = a ++ r' ∧ ta = a ++ r'.takeWhile Q.digit ∧ tb = r'.dropWhile Q.digit ∧ ∀ c ∈ a, Q.digit c = true) ∧ Rd wr g s r' ∧ But g W wr) (fun wr => s.length - (intOf ((wr.cell? ⟨g, 1, none⟩).getD undef)).toNat)
  case atStart => exact ⟨[], v, Lib.hid ⟨rfl, by rw [Hta.out]; rfl, by rw [Htb.out], fun _ h => (by cases h)⟩, Hr.out, But.refl _ _⟩
  case round =>
    obtain ⟨a, r', hk, hr', hbt⟩ := hrel
    obtain ⟨wo, rfl⟩ : ∃ W, W = wr := ⟨_, rfl⟩
    have hr'l := hr'.2.length_le
    obtain ⟨y, hy⟩ : ∃ y, r'.headD 0 = y := ⟨_, rfl⟩
    have hpk := fun V (h : Rd V g s r') => peek_ok g s _ V h.1 (by omega) hs
    rw [suf_byte hr'.2, hy] at hpk
    have Hpk := Lib.hid hpk; have Hr' := Lib.hid hr'; have Hbt := Lib.hid hbt; have Hy := Lib.hid hy
    have hc0 := hr'.1.two.2.1
    have Hc0 := Lib.hid hc0
    clear hpk hr' hbt hy hc0
    by_cases hd : Q.digit y = true
    · have hd2 := hd
      unfold Q.digit at hd2
      rw [Bool.and_eq_true, decide_eq_true_eq, decide_eq_true_eq, UInt8.le_iff_toNat_le, UInt8.le_iff_toNat_le] at hd2
      have hge : (48 : Int) ≤ (y.toNat : Int) := by have := hd2.1; have h1 : (48 : UInt8).toNat = 48 := rfl; omega
      have hle : (y.toNat : Int) ≤ 57 := by have := hd2.2; have h1 : (57 : UInt8).toNat = 57 := rfl; omega
      obtain ⟨t, rfl⟩ : ∃ t, r' = y :: t := by
        have h1 := Hy.out
        cases r' with
        | nil => rw [← h1] at hd; exact absurd hd (by decide)
        | cons c t => rw [List.headD_cons] at h1; rw [h1]; exact ⟨t, rfl⟩
      have Hd := Lib.hid hd
      clear hd hd2
      go_wp2_with fail
      refine (Hpk.out wo Hr'.out).mono ?_
      rintro e w1 ⟨rfl, hb1⟩
      have hr1 := Hr'.out.ext hb1
      have Hr1 := Lib.hid hr1; have Hb1 := Lib.hid hb1
      clear hr1 hb1
      go_wp2_with fail
      refine (Hpk.out w1 Hr1.out).mono ?_
      rintro e w2 ⟨rfl, hb2⟩
      have hr2 := Hr1.out.ext hb2
      have hbt2 := Hbt.out.trans (But.of_below g (Hb1.out.trans (hb2.mono Hb1.out.size)))
      obtain ⟨r0, r1, r2, r3, _⟩ := hr2.1.two
      obtain ⟨h3, h4⟩ := suf_tail hr2.2
      obtain ⟨i, hi⟩ : ∃ i, s.length - (y :: t).length = i := ⟨_, rfl⟩
      rw [hi] at r1 h4
      have hi4 : i < 4000 := by simp only [List.length_cons] at hi hr'l; omega
      have hw3 : IntKind.i64.wrap ((i : Int) + 1) = ((i + 1 : Nat) : Int) := by rw [show (i : Int) + 1 = ((i + 1 : Nat) : Int) by omega]; exact IntWalk.i64_in _ (by omega)
      have Hr2 := Lib.hid hr2; have Hi := Lib.hid hi; have H4 := Lib.hid (And.intro h3 h4)
      clear hr2 hb2 hi h3 h4
      go_wp2_with fail
      go_roundw
      case rel =>
        obtain ⟨h5, h6⟩ := tw_step (t := t) Hd.out
        exact ⟨a ++ [y], t, Lib.hid ⟨by rw [hk.out.1]; simp, by rw [hk.out.2.1, h5]; simp, by rw [hk.out.2.2.1, h6], fun c hc => by
          rcases List.mem_append.1 hc with h | h
          · exact hk.out.2.2.2 c h
          · rw [List.mem_singleton.1 h]; exact Hd.out⟩, ⟨by rw [H4.out.2]; exact Hr2.out.1.move (i + 1), H4.out.1⟩, hbt2.set 1 _⟩
      case measure =>
        have hz := World.cell?_setCell_same w2 ⟨g, 1, none⟩ (.int .i64 ((i : Int) + 1)) r1
        rw [Hc0.out, Hi.out]
        have hi9 := Hi.out
        simp only [List.length_cons] at hi9 hr'l
        simp only [hz, Option.getD_some, intOf]
        omega
    · have hdf : Q.digit y = false := by simpa using hd
      obtain ⟨h5, h6⟩ := tw_stop (r := r') (by rw [Hy.out]; exact hdf)
      have hta2 : ta = a := by rw [hk.out.2.1, h5, List.append_nil]
      have htb2 : tb = r' := by rw [hk.out.2.2.1, h6]
      subst hta2 htb2
      have hdig := hk.out.2.2.2
      have hval := hk.out.1
      have Hdig := Lib.hid hdig; have Hval := Lib.hid hval
      clear h5 h6 hd hdig hval
      obtain ⟨i, hi⟩ : ∃ i, s.length - tb.length = i := ⟨_, rfl⟩
      have hfi : fr + ta.length = i := by
        have h1 := congrArg List.length Hval.out
        have h2 := Hfr.out
        rw [List.length_append] at h1
        omega
      have Hi := Lib.hid hi; have Hfi := Lib.hid hfi
      clear hi hfi
      by_cases hge : (48 : Int) ≤ (y.toNat : Int)
      · have hle : ¬ (y.toNat : Int) ≤ 57 := fun h => by
          unfold Q.digit at hdf
          rw [Bool.and_eq_false_iff, decide_eq_false_iff_not, decide_eq_false_iff_not, UInt8.le_iff_toNat_le, UInt8.le_iff_toNat_le] at hdf
          have h1 : (48 : UInt8).toNat = 48 := rfl
          have h2 : (57 : UInt8).toNat = 57 := rfl
          omega
        clear hdf
        go_wp2_with fail
        refine (Hpk.out wo Hr'.out).mono ?_
        rintro e w1 ⟨rfl, hb1⟩
        have hr1 := Hr'.out.ext hb1
        have Hr1 := Lib.hid hr1; have Hb1 := Lib.hid hb1
        clear hr1 hb1
        go_wp2_with fail
        refine (Hpk.out w1 Hr1.out).mono ?_
        rintro e wd ⟨rfl, hb2⟩
        have hrd := Hr1.out.ext hb2
        have hbd := Hbt.out.trans (But.of_below g (Hb1.out.trans (hb2.mono Hb1.out.size)))
        clear hb2 Hr1 Hb1
        have hdw := hbd.below Hb0.out hg
        obtain ⟨r0, r1, r2, r3, _⟩ := hrd.1.two
        rw [Hi.out] at r1
        have hallw : But g w wd := (But.of_below g Hal.out).trans hbd
        have Hrd := Lib.hid hrd; have Hbd := Lib.hid hbd; have Hdw := Lib.hid hdw; have Hallw := Lib.hid hallw
        clear hrd hbd hdw hallw Hpk Hc0
        have hf4 : IntKind.i64.wrap ((fr : Int) + 4) = (fr : Int) + 4 := IntWalk.i64_in _ (by have := Hfr.out; omega)
        by_cases h0 : ta.length = 0
        · have hfe : fr = i := by have := Hfi.out; omega
          subst hfe
          have hR : Q.Res.err v = R := by rw [← HR.out]; unfold nearT; rw [if_pos (.inl (List.length_eq_zero_iff.1 h0))]
          have HR2 := Lib.hid hR
          clear hR
          go_wp2_with fail
          refine (fail_ok _ wd).mono ?_
          rintro e w4 ⟨rfl, rfl⟩
          go_wp2_with fail
          refine ⟨rfl, ?_⟩
          rw [← HR2.out]
          exact ⟨by rw [Hfr.out], Hallw.out, Hr.out.2⟩
        by_cases h5 : 4 < ta.length
        · have hie : ((i : Int) == (fr : Int)) = false := beq_eq_false_iff_ne.2 (by have := Hfi.out; omega)
          have hig : (fr : Int) + 4 < (i : Int) := by have := Hfi.out; omega
          have hR : Q.Res.err v = R := by rw [← HR.out]; unfold nearT; rw [if_pos (.inr h5)]
          have HR2 := Lib.hid hR
          clear hR
          go_wp2_with fail
          refine (fail_ok _ wd).mono ?_
          rintro e w4 ⟨rfl, rfl⟩
          go_wp2_with fail
          refine ⟨rfl, ?_⟩
          rw [← HR2.out]
          exact ⟨by rw [Hfr.out], Hallw.out, Hr.out.2⟩
        have hie : ((i : Int) == (fr : Int)) = false := beq_eq_false_iff_ne.2 (by have := Hfi.out; omega)
        have hig : ¬ (fr : Int) + 4 < (i : Int) := by have := Hfi.out; omega
        have hne : ta ≠ [] := fun e => h0 (by rw [e]; rfl)
        have hR : (if tb.headD 0 = 58 then (if (Q.wordS tb.tail).1 = [] then Q.Res.err (Q.wordS tb.tail).2 else .ok (.node 5 (x ++ 32 :: Sm.lower (Q.wordS tb.tail).1) (Q.numOf ta) []) (Q.wordS tb.tail).2) else Q.Res.err tb) = R := by
          rw [← HR.out]; unfold nearT; rw [if_neg (show ¬ (ta = [] ∨ 4 < ta.length) from fun h => h.elim hne (by omega))]
        have hnum := num_range Hdig.out 0 (by omega)
        have hn30 : Q.numOf ta ≤ 300000 := by
          have h9 : (10 : Int) ^ ta.length ≤ 10 ^ 4 := by
            have : 10 ^ ta.length ≤ 10 ^ 4 := Nat.pow_le_pow_right (by omega) (by omega : ta.length ≤ 4)
            exact_mod_cast this
          have h8 : Q.numOf ta ≤ (0 + 1) * 10 ^ ta.length * 30 := hnum.2
          omega
        have hn0 : 0 ≤ Q.numOf ta := hnum.1
        have hat := fun V => Tryz.strconv_Atoi (bs ta) (Q.numOf ta) (by rw [bs_size]; omega) (by rw [bs_toList]; exact atoi_num hne Hdig.out) V
        have hat2 : ∀ V, Calls Tryz.prog 107 #[.string (bs ta)] V fun e w' => e = .returned (.tuple #[.int .i64 (Q.numOf ta), .nilIface]) ∧ Below V.heap.size V w' := fun V => by
          refine (hat V).mono ?_
          rintro e w' ⟨rfl, u, rfl⟩
          exact ⟨rfl, Lib.bytesWorld_below _ _ _⟩
        obtain ⟨num, hnm⟩ : ∃ n, Q.numOf ta = n := ⟨_, rfl⟩
        rw [hnm] at hR hn30 hn0
        simp only [hnm] at hat2
        have HR2 := Lib.hid hR; have Hat := Lib.hid hat2
        have hd1 := Hdr.out
        have hd2 : v.take (i - fr) = ta := by rw [Hval.out, ← Hfi.out, Nat.add_sub_cancel_left, List.take_left]
        have hd3 : (fr : Int) ≤ (i : Int) := by have := Hfi.out; omega
        have hd4 : (i : Int) ≤ (s.length : Int) := by have := Hi.out; omega
        have hd5 : (0 : Int) ≤ (fr : Int) := by omega
        have hd6 : ((i : Int) - (fr : Int)).toNat = i - fr := by omega
        clear hR hnum hat hat2 hnm hne h0 h5
        go_wp2_with fail
        have HSd : Hid (∀ W, Below wd.heap.size wd W → W.cell? ⟨g, 0, none⟩ = some (.string (bs s)) ∧ W.cell? ⟨g, 1, none⟩ = some (.int .i64 (i : Int))) := Lib.hid fun W hb => by
          obtain ⟨z0, z1, _⟩ := (Hrd.out.1.ext hb).two
          rw [Hi.out] at z1
          exact ⟨z0, z1⟩
        have hS := HSd.out (wd.drewN 1) (below_drewN' _ _ _)
        clear r0 r1 r2 r3
        refine wp_region_D (fun W => W.cell? ⟨g, 0, none⟩ = some (.string (bs s)) ∧ W.cell? ⟨g, 1, none⟩ = some (.int .i64 (i : Int))) (fun _ => false) (by kernel_rfl) ?_
        change anyD _ _ _ _ _ _ _ _ _ (wd.drewN 1)
        have hbV := below_drewN' wd.heap.size wd 1
        generalize wd.drewN 1 = V0 at hS hbV ⊢
        (refine anyD_light (i := 0) (v := ?_) rfl (by kernel_rfl) (by kernel_rfl) (by kernel_rfl) (by kernel_rfl) (by kernel_rfl) (fun _ _ _ h => h) (.inl ⟨by kernel_rfl, fun W9 hW9 => ?_⟩) hS ?_; rotate_left; · (obtain ⟨hw0, hw1⟩ := hW9; go_simp; rfl))
        (refine anyD_light (i := 1) (v := ?_) rfl (by kernel_rfl) (by kernel_rfl) (by kernel_rfl) (by kernel_rfl) (by kernel_rfl) (fun _ _ _ h => h) (.inl ⟨by kernel_rfl, fun W9 hW9 => ?_⟩) hS ?_; rotate_left; · (obtain ⟨hw0, hw1⟩ := hW9; go_simp; rfl))
        (refine anyD_light (i := 2) (v := ?_) rfl (by kernel_rfl) (by kernel_rfl) (by kernel_rfl) (by kernel_rfl) (by kernel_rfl) (fun _ _ _ h => h) (.inl ⟨by kernel_rfl, fun W9 hW9 => ?_⟩) hS ?_; rotate_left; · (obtain ⟨hw0, hw1⟩ := hW9; go_simp; rfl))
        (refine anyD_light (i := 3) (v := ?_) rfl (by kernel_rfl) (by kernel_rfl) (by kernel_rfl) (by kernel_rfl) (by kernel_rfl) (fun _ _ _ h => h) (.inl ⟨by kernel_rfl, fun W9 hW9 => ?_⟩) hS ?_; rotate_left; · (obtain ⟨hw0, hw1⟩ := hW9; go_simp; rfl))
        (refine anyD_light (i := 4) (v := ?_) rfl (by kernel_rfl) (by kernel_rfl) (by kernel_rfl) (by kernel_rfl) (by kernel_rfl) (fun _ _ _ h => h) (.inl ⟨by kernel_rfl, fun W9 hW9 => ?_⟩) hS ?_; rotate_left; · (obtain ⟨hw0, hw1⟩ := hW9; go_simp; rfl))
        (refine anyD_light (i := 5) (v := ?_) rfl (by kernel_rfl) (by kernel_rfl) (by kernel_rfl) (by kernel_rfl) (by kernel_rfl) (fun _ _ _ h => h) (.inl ⟨by kernel_rfl, fun W9 hW9 => ?_⟩) hS ?_; rotate_left; · (obtain ⟨hw0, hw1⟩ := hW9; go_simp; rfl))
        go_simp
        (refine anyD_light (i := 6) (v := ?_) rfl (by kernel_rfl) (by kernel_rfl) (by kernel_rfl) (by kernel_rfl) (by kernel_rfl) (fun _ _ _ h => h) (.inl ⟨by kernel_rfl, fun W9 hW9 => ?_⟩) hS ?_; rotate_left; · (obtain ⟨hw0, hw1⟩ := hW9; go_simp; rfl))
        (refine anyD_light (i := 7) (v := ?_) rfl (by kernel_rfl) (by kernel_rfl) (by kernel_rfl) (by kernel_rfl) (by kernel_rfl) (fun _ _ _ h => h) (.inl ⟨by kernel_rfl, fun W9 hW9 => ?_⟩) hS ?_; rotate_left; · (obtain ⟨hw0, hw1⟩ := hW9; go_simp; rfl))
        (refine anyD_light (i := 8) (v := ?_) rfl (by kernel_rfl) (by kernel_rfl) (by kernel_rfl) (by kernel_rfl) (by kernel_rfl) (fun _ _ _ h => h) (.inl ⟨by kernel_rfl, fun W9 hW9 => ?_⟩) hS ?_; rotate_left; · (obtain ⟨hw0, hw1⟩ := hW9; go_simp; rfl))
        (refine anyD_light (i := 9) (v := ?_) rfl (by kernel_rfl) (by kernel_rfl) (by kernel_rfl) (by kernel_rfl) (by kernel_rfl) (fun _ _ _ h => h) (.inl ⟨by kernel_rfl, fun W9 hW9 => ?_⟩) hS ?_; rotate_left; · (obtain ⟨hw0, hw1⟩ := hW9; go_simp; rfl))
        go_simp
        refine anyD_one (i := 10) (by kernel_rfl) rfl rfl (fun K hK => ?_)
        have HK := Lib.hid hK
        clear hK
        have hat := Hat.out V0
        have Hac := Lib.hid hat
        clear hat
        unfold Oper.wp
        go_simp
        refine (Hac.out).mono ?_
        rintro e w1 ⟨rfl, hb1⟩
        replace hbV := hbV.trans (hb1.mono hbV.size)
        clear hb1 hS Hac
        have hS := HSd.out _ hbV
        refine HK.out _ _ (fun _ => hS) ?_
        clear HK
        (refine anyD_light (i := 11) (v := ?_) rfl (by kernel_rfl) (by kernel_rfl) (by kernel_rfl) (by kernel_rfl) (by kernel_rfl) (fun _ _ _ h => h) (.inl ⟨by kernel_rfl, fun W9 hW9 => ?_⟩) hS ?_; rotate_left; · (obtain ⟨hw0, hw1⟩ := hW9; go_simp; rfl))
        (refine anyD_light (i := 12) (v := ?_) rfl (by kernel_rfl) (by kernel_rfl) (by kernel_rfl) (by kernel_rfl) (by kernel_rfl) (fun _ _ _ h => h) (.inl ⟨by kernel_rfl, fun W9 hW9 => ?_⟩) hS ?_; rotate_left; · (obtain ⟨hw0, hw1⟩ := hW9; go_simp; rfl))
        (refine anyD_light (i := 13) (v := ?_) rfl (by kernel_rfl) (by kernel_rfl) (by kernel_rfl) (by kernel_rfl) (by kernel_rfl) (fun _ _ _ h => h) (.inl ⟨by kernel_rfl, fun W9 hW9 => ?_⟩) hS ?_; rotate_left; · (obtain ⟨hw0, hw1⟩ := hW9; go_simp; rfl))
        (refine anyD_light (i := 14) (v := ?_) rfl (by kernel_rfl) (by kernel_rfl) (by kernel_rfl) (by kernel_rfl) (by kernel_rfl) (fun _ _ _ h => h) (.inl ⟨by kernel_rfl, fun W9 hW9 => ?_⟩) hS ?_; rotate_left; · (obtain ⟨hw0, hw1⟩ := hW9; go_simp; rfl))
        (refine anyD_light (i := 15) (v := ?_) rfl (by kernel_rfl) (by kernel_rfl) (by kernel_rfl) (by kernel_rfl) (by kernel_rfl) (fun _ _ _ h => h) (.inl ⟨by kernel_rfl, fun W9 hW9 => ?_⟩) hS ?_; rotate_left; · (obtain ⟨hw0, hw1⟩ := hW9; go_simp; rfl))
        go_simp
        refine anyD_done (by kernel_rfl) ?_ _
        have hr1 := Hrd.out.ext hbV
        have hbt1 := Hbd.out.trans (But.of_below g hbV)
        have Hr1 := Lib.hid hr1; have Hbt1 := Lib.hid hbt1
        clear hS hbV hr1 hbt1 HSd hd1 hd2 hd3 hd4 hd5 hd6
        by_cases h58 : tb.headD 0 = 58
        · obtain ⟨u, rfl⟩ : ∃ u, tb = 58 :: u := by
            cases tb with
            | nil => cases h58
            | cons c t => rw [List.headD_cons] at h58; rw [h58]; exact ⟨t, rfl⟩
          have hR := HR2.out
          rw [if_pos h58] at hR
          have hnd := need_yes g s 58 u w1 Hr1.out hs (by decide)
          have Hnd := Lib.hid hnd; have HR3 := Lib.hid hR
          clear hnd hR h58
          go_wp2_with fail
          refine Hnd.out.mono ?_
          rintro e w2 ⟨rfl, hr2, hbt2⟩
          have hbt02 := Hbt1.out.trans hbt2
          have hwd := rword_ok w0 HT.out g hg s u w2 hr2 hs (hbt02.below Hb0.out hg)
          have hwl := wordS_lens u
          have hul := hr2.2.length_le
          have hR := HR3.out
          rw [List.tail_cons] at hR
          obtain ⟨⟨xa, xb⟩, hxx⟩ : ∃ x, Q.wordS u = x := ⟨_, rfl⟩
          rw [hxx] at hwd hwl hR
          dsimp only at hwd hwl hR
          have hll := Sm.lower_len xa.length xa (Nat.le_refl _)
          have Hwd := Lib.hid hwd; have HR4 := Lib.hid hR; have Hbt02 := Lib.hid hbt02
          clear hwd hR hxx hbt02 hbt2 hr2 Hnd
          go_wp2_with fail
          refine Hwd.out.mono ?_
          rintro e w3 ⟨rfl, hr3, hbt3⟩
          have hb3 := Hbt02.out.trans hbt3
          have hall3 : But g w w3 := (But.of_below g Hal.out).trans hb3
          obtain ⟨r0, r1, _, _, _⟩ := hr3.1.two
          have Hr3 := Lib.hid hr3; have Hb3 := Lib.hid hb3; have Hall3 := Lib.hid hall3
          clear hr3 hb3 hbt3 hall3 Hwd
          by_cases hxe : xa = []
          · subst hxe
            have hw0 : (Sm.lower ([] : Str) == []) = true := rfl
            have hR : Q.Res.err xb = R := by rw [← HR4.out, if_pos rfl]
            have HR5 := Lib.hid hR
            clear hR
            go_wp2_with fail
            refine (fail_ok _ w3).mono ?_
            rintro e w4 ⟨rfl, rfl⟩
            go_wp2_with fail
            refine ⟨rfl, ?_⟩
            rw [← HR5.out]
            exact ⟨rfl, Hall3.out, Hr3.out.2⟩
          · have hlx : (Sm.lower xa == []) = false := by
              rw [beq_eq_false_iff_ne]; exact fun e => hxe (lower_none e)
            have hR : Q.Res.ok (.node 5 (x ++ 32 :: Sm.lower xa) num []) xb = R := by rw [← HR4.out, if_neg hxe]
            obtain ⟨lx, hlx2⟩ : ∃ l, Sm.lower xa = l := ⟨_, rfl⟩
            rw [hlx2] at hR hlx hll ⊢
            have hc1 : (x.length + ([32] : Str).length ≤ 9223372036854775807) = True := by simp; omega
            have hc2 : ((x ++ [32]).length + lx.length ≤ 9223372036854775807) = True := by simp; omega
            have hjs : bs x ++ (⟨#[32]⟩ : ByteArray) ++ bs lx = bs (x ++ 32 :: lx) := by
              apply ByteArray.ext
              show (bs x ++ (⟨#[32]⟩ : ByteArray) ++ bs lx).data = (x ++ 32 :: lx).toArray
              rw [ByteArray.data_append, ByteArray.data_append]
              simp [bs]
            have k3 := Hb3.out.blk Hk.out hgn
            obtain ⟨z0, z1, z2, z3, hz⟩ := k3.four
            have f0 := k3.frozen 0; have f1 := k3.frozen 1; have f2 := k3.frozen 2; have f3 := k3.frozen 3
            have Hk3 := Lib.hid k3; have HR5 := Lib.hid hR; have Hjs := Lib.hid hjs
            clear k3 hR hlx2 hjs r0 r1
            go_wp2_with fail
            rw [Hjs.out]
            obtain ⟨W9, hW9⟩ : ∃ W9, (((w3.setCell ⟨gR, 0, none⟩ (.int .i64 5)).setCell ⟨gR, 1, none⟩ (.string (bs (x ++ 32 :: lx)))).setCell ⟨gR, 2, none⟩ (.int .i64 num)).setCell ⟨gR, 3, none⟩ (.slice none 0 0) = W9 := ⟨_, rfl⟩
            have k9 := put4 Hk3.out (.int .i64 5) (.string (bs (x ++ 32 :: lx))) (.int .i64 num) (.slice none 0 0)
            rw [hW9] at k9 ⊢
            obtain ⟨y0, y1, y2, y3, _⟩ := k9.four
            refine bodyPost_ret (v := .agg #[.int .i64 5, .string (bs (x ++ 32 :: lx)), .int .i64 num, .slice none 0 0]) (by simp [results, Tryz.results83, go_sem, y0, y1, y2, y3]) rfl ?_
            rw [← HR5.out]
            have hgw5 : w.heap.size ≤ gR := by rw [HgR.out]; exact Nat.le_refl _
            have hb9 : But g w W9 := by rw [← hW9]; exact (Hall3.out).put4 hgw5 _ _ _ _
            have hr9 : Rd W9 g s xb := ⟨by show W9.heap[g]? = _; rw [← hW9, keep4 _ _ _ _ hgn.symm]; exact Hr3.out.1, Hr3.out.2⟩
            exact ⟨0, _, rfl, ⟨none, 0, rfl, by simp, by simp only [Q.text_node, maxLen, List.length_append, List.length_cons]; omega, by simp only [Q.num_node]; omega, SlR.nil _ _ _⟩, hr9, hb9⟩
        · have hR := HR2.out
          rw [if_neg h58] at hR
          have hnd := need_no g s 58 tb w1 Hr1.out hs (by decide) h58
          have Hnd := Lib.hid hnd; have HR3 := Lib.hid hR; have Hall1 := Lib.hid ((But.of_below g Hal.out).trans Hbt1.out)
          clear hnd hR h58
          go_wp2_with fail
          refine Hnd.out.mono ?_
          rintro e w2 ⟨rfl, hr2, hbt2⟩
          go_wp2_with fail
          refine ⟨rfl, ?_⟩
          rw [← HR3.out]
          exact ⟨rfl, Hall1.out.trans hbt2, hr2.2⟩
      · clear hdf
        go_wp2_with fail
        refine (Hpk.out wo Hr'.out).mono ?_
        rintro e wd ⟨rfl, hb2⟩
        have hrd := Hr'.out.ext hb2
        have hbd := Hbt.out.trans (But.of_below g hb2)
        clear hb2
        have hdw := hbd.below Hb0.out hg
        obtain ⟨r0, r1, r2, r3, _⟩ := hrd.1.two
        rw [Hi.out] at r1
        have hallw : But g w wd := (But.of_below g Hal.out).trans hbd
        have Hrd := Lib.hid hrd; have Hbd := Lib.hid hbd; have Hdw := Lib.hid hdw; have Hallw := Lib.hid hallw
        clear hrd hbd hdw hallw Hpk Hc0
        have hf4 : IntKind.i64.wrap ((fr : Int) + 4) = (fr : Int) + 4 := IntWalk.i64_in _ (by have := Hfr.out; omega)
        by_cases h0 : ta.length = 0
        · have hfe : fr = i := by have := Hfi.out; omega
          subst hfe
          have hR : Q.Res.err v = R := by rw [← HR.out]; unfold nearT; rw [if_pos (.inl (List.length_eq_zero_iff.1 h0))]
          have HR2 := Lib.hid hR
          clear hR
          go_wp2_with fail
          refine (fail_ok _ wd).mono ?_
          rintro e w4 ⟨rfl, rfl⟩
          go_wp2_with fail
          refine ⟨rfl, ?_⟩
          rw [← HR2.out]
          exact ⟨by rw [Hfr.out], Hallw.out, Hr.out.2⟩
        by_cases h5 : 4 < ta.length
        · have hie : ((i : Int) == (fr : Int)) = false := beq_eq_false_iff_ne.2 (by have := Hfi.out; omega)
          have hig : (fr : Int) + 4 < (i : Int) := by have := Hfi.out; omega
          have hR : Q.Res.err v = R := by rw [← HR.out]; unfold nearT; rw [if_pos (.inr h5)]
          have HR2 := Lib.hid hR
          clear hR
          go_wp2_with fail
          refine (fail_ok _ wd).mono ?_
          rintro e w4 ⟨rfl, rfl⟩
          go_wp2_with fail
          refine ⟨rfl, ?_⟩
          rw [← HR2.out]
          exact ⟨by rw [Hfr.out], Hallw.out, Hr.out.2⟩
        have hie : ((i : Int) == (fr : Int)) = false := beq_eq_false_iff_ne.2 (by have := Hfi.out; omega)
        have hig : ¬ (fr : Int) + 4 < (i : Int) := by have := Hfi.out; omega
        have hne : ta ≠ [] := fun e => h0 (by rw [e]; rfl)
        have hR : (if tb.headD 0 = 58 then (if (Q.wordS tb.tail).1 = [] then Q.Res.err (Q.wordS tb.tail).2 else .ok (.node 5 (x ++ 32 :: Sm.lower (Q.wordS tb.tail).1) (Q.numOf ta) []) (Q.wordS tb.tail).2) else Q.Res.err tb) = R := by
          rw [← HR.out]; unfold nearT; rw [if_neg (show ¬ (ta = [] ∨ 4 < ta.length) from fun h => h.elim hne (by omega))]
        have hnum := num_range Hdig.out 0 (by omega)
        have hn30 : Q.numOf ta ≤ 300000 := by
          have h9 : (10 : Int) ^ ta.length ≤ 10 ^ 4 := by
            have : 10 ^ ta.length ≤ 10 ^ 4 := Nat.pow_le_pow_right (by omega) (by omega : ta.length ≤ 4)
            exact_mod_cast this
          have h8 : Q.numOf ta ≤ (0 + 1) * 10 ^ ta.length * 30 := hnum.2
          omega
        have hn0 : 0 ≤ Q.numOf ta := hnum.1
        have hat := fun V => Tryz.strconv_Atoi (bs ta) (Q.numOf ta) (by rw [bs_size]; omega) (by rw [bs_toList]; exact atoi_num hne Hdig.out) V
        have hat2 : ∀ V, Calls Tryz.prog 107 #[.string (bs ta)] V fun e w' => e = .returned (.tuple #[.int .i64 (Q.numOf ta), .nilIface]) ∧ Below V.heap.size V w' := fun V => by
          refine (hat V).mono ?_
          rintro e w' ⟨rfl, u, rfl⟩
          exact ⟨rfl, Lib.bytesWorld_below _ _ _⟩
        obtain ⟨num, hnm⟩ : ∃ n, Q.numOf ta = n := ⟨_, rfl⟩
        rw [hnm] at hR hn30 hn0
        simp only [hnm] at hat2
        have HR2 := Lib.hid hR; have Hat := Lib.hid hat2
        have hd1 := Hdr.out
        have hd2 : v.take (i - fr) = ta := by rw [Hval.out, ← Hfi.out, Nat.add_sub_cancel_left, List.take_left]
        have hd3 : (fr : Int) ≤ (i : Int) := by have := Hfi.out; omega
        have hd4 : (i : Int) ≤ (s.length : Int) := by have := Hi.out; omega
        have hd5 : (0 : Int) ≤ (fr : Int) := by omega
        have hd6 : ((i : Int) - (fr : Int)).toNat = i - fr := by omega
        clear hR hnum hat hat2 hnm hne h0 h5
        go_wp2_with fail
        have HSd : Hid (∀ W, Below wd.heap.size wd W → W.cell? ⟨g, 0, none⟩ = some (.string (bs s)) ∧ W.cell? ⟨g, 1, none⟩ = some (.int .i64 (i : Int))) := Lib.hid fun W hb => by
          obtain ⟨z0, z1, _⟩ := (Hrd.out.1.ext hb).two
          rw [Hi.out] at z1
          exact ⟨z0, z1⟩
        have hS := HSd.out (wd.drewN 1) (below_drewN' _ _ _)
        clear r0 r1 r2 r3
        refine wp_region_D (fun W => W.cell? ⟨g, 0, none⟩ = some (.string (bs s)) ∧ W.cell? ⟨g, 1, none⟩ = some (.int .i64 (i : Int))) (fun _ => false) (by kernel_rfl) ?_
        change anyD _ _ _ _ _ _ _ _ _ (wd.drewN 1)
        have hbV := below_drewN' wd.heap.size wd 1
        generalize wd.drewN 1 = V0 at hS hbV ⊢
        (refine anyD_light (i := 0) (v := ?_) rfl (by kernel_rfl) (by kernel_rfl) (by kernel_rfl) (by kernel_rfl) (by kernel_rfl) (fun _ _ _ h => h) (.inl ⟨by kernel_rfl, fun W9 hW9 => ?_⟩) hS ?_; rotate_left; · (obtain ⟨hw0, hw1⟩ := hW9; go_simp; rfl))
        (refine anyD_light (i := 1) (v := ?_) rfl (by kernel_rfl) (by kernel_rfl) (by kernel_rfl) (by kernel_rfl) (by kernel_rfl) (fun _ _ _ h => h) (.inl ⟨by kernel_rfl, fun W9 hW9 => ?_⟩) hS ?_; rotate_left; · (obtain ⟨hw0, hw1⟩ := hW9; go_simp; rfl))
        (refine anyD_light (i := 2) (v := ?_) rfl (by kernel_rfl) (by kernel_rfl) (by kernel_rfl) (by kernel_rfl) (by kernel_rfl) (fun _ _ _ h => h) (.inl ⟨by kernel_rfl, fun W9 hW9 => ?_⟩) hS ?_; rotate_left; · (obtain ⟨hw0, hw1⟩ := hW9; go_simp; rfl))
        (refine anyD_light (i := 3) (v := ?_) rfl (by kernel_rfl) (by kernel_rfl) (by kernel_rfl) (by kernel_rfl) (by kernel_rfl) (fun _ _ _ h => h) (.inl ⟨by kernel_rfl, fun W9 hW9 => ?_⟩) hS ?_; rotate_left; · (obtain ⟨hw0, hw1⟩ := hW9; go_simp; rfl))
        (refine anyD_light (i := 4) (v := ?_) rfl (by kernel_rfl) (by kernel_rfl) (by kernel_rfl) (by kernel_rfl) (by kernel_rfl) (fun _ _ _ h => h) (.inl ⟨by kernel_rfl, fun W9 hW9 => ?_⟩) hS ?_; rotate_left; · (obtain ⟨hw0, hw1⟩ := hW9; go_simp; rfl))
        (refine anyD_light (i := 5) (v := ?_) rfl (by kernel_rfl) (by kernel_rfl) (by kernel_rfl) (by kernel_rfl) (by kernel_rfl) (fun _ _ _ h => h) (.inl ⟨by kernel_rfl, fun W9 hW9 => ?_⟩) hS ?_; rotate_left; · (obtain ⟨hw0, hw1⟩ := hW9; go_simp; rfl))
        go_simp
        (refine anyD_light (i := 6) (v := ?_) rfl (by kernel_rfl) (by kernel_rfl) (by kernel_rfl) (by kernel_rfl) (by kernel_rfl) (fun _ _ _ h => h) (.inl ⟨by kernel_rfl, fun W9 hW9 => ?_⟩) hS ?_; rotate_left; · (obtain ⟨hw0, hw1⟩ := hW9; go_simp; rfl))
        (refine anyD_light (i := 7) (v := ?_) rfl (by kernel_rfl) (by kernel_rfl) (by kernel_rfl) (by kernel_rfl) (by kernel_rfl) (fun _ _ _ h => h) (.inl ⟨by kernel_rfl, fun W9 hW9 => ?_⟩) hS ?_; rotate_left; · (obtain ⟨hw0, hw1⟩ := hW9; go_simp; rfl))
        (refine anyD_light (i := 8) (v := ?_) rfl (by kernel_rfl) (by kernel_rfl) (by kernel_rfl) (by kernel_rfl) (by kernel_rfl) (fun _ _ _ h => h) (.inl ⟨by kernel_rfl, fun W9 hW9 => ?_⟩) hS ?_; rotate_left; · (obtain ⟨hw0, hw1⟩ := hW9; go_simp; rfl))
        (refine anyD_light (i := 9) (v := ?_) rfl (by kernel_rfl) (by kernel_rfl) (by kernel_rfl) (by kernel_rfl) (by kernel_rfl) (fun _ _ _ h => h) (.inl ⟨by kernel_rfl, fun W9 hW9 => ?_⟩) hS ?_; rotate_left; · (obtain ⟨hw0, hw1⟩ := hW9; go_simp; rfl))
        go_simp
        refine anyD_one (i := 10) (by kernel_rfl) rfl rfl (fun K hK => ?_)
        have HK := Lib.hid hK
        clear hK
        have hat := Hat.out V0
        have Hac := Lib.hid hat
        clear hat
        unfold Oper.wp
        go_simp
        refine (Hac.out).mono ?_
        rintro e w1 ⟨rfl, hb1⟩
        replace hbV := hbV.trans (hb1.mono hbV.size)
        clear hb1 hS Hac
        have hS := HSd.out _ hbV
        refine HK.out _ _ (fun _ => hS) ?_
        clear HK
        (refine anyD_light (i := 11) (v := ?_) rfl (by kernel_rfl) (by kernel_rfl) (by kernel_rfl) (by kernel_rfl) (by kernel_rfl) (fun _ _ _ h => h) (.inl ⟨by kernel_rfl, fun W9 hW9 => ?_⟩) hS ?_; rotate_left; · (obtain ⟨hw0, hw1⟩ := hW9; go_simp; rfl))
        (refine anyD_light (i := 12) (v := ?_) rfl (by kernel_rfl) (by kernel_rfl) (by kernel_rfl) (by kernel_rfl) (by kernel_rfl) (fun _ _ _ h => h) (.inl ⟨by kernel_rfl, fun W9 hW9 => ?_⟩) hS ?_; rotate_left; · (obtain ⟨hw0, hw1⟩ := hW9; go_simp; rfl))
        (refine anyD_light (i := 13) (v := ?_) rfl (by kernel_rfl) (by kernel_rfl) (by kernel_rfl) (by kernel_rfl) (by kernel_rfl) (fun _ _ _ h => h) (.inl ⟨by kernel_rfl, fun W9 hW9 => ?_⟩) hS ?_; rotate_left; · (obtain ⟨hw0, hw1⟩ := hW9; go_simp; rfl))
        (refine anyD_light (i := 14) (v := ?_) rfl (by kernel_rfl) (by kernel_rfl) (by kernel_rfl) (by kernel_rfl) (by kernel_rfl) (fun _ _ _ h => h) (.inl ⟨by kernel_rfl, fun W9 hW9 => ?_⟩) hS ?_; rotate_left; · (obtain ⟨hw0, hw1⟩ := hW9; go_simp; rfl))
        (refine anyD_light (i := 15) (v := ?_) rfl (by kernel_rfl) (by kernel_rfl) (by kernel_rfl) (by kernel_rfl) (by kernel_rfl) (fun _ _ _ h => h) (.inl ⟨by kernel_rfl, fun W9 hW9 => ?_⟩) hS ?_; rotate_left; · (obtain ⟨hw0, hw1⟩ := hW9; go_simp; rfl))
        go_simp
        refine anyD_done (by kernel_rfl) ?_ _
        have hr1 := Hrd.out.ext hbV
        have hbt1 := Hbd.out.trans (But.of_below g hbV)
        have Hr1 := Lib.hid hr1; have Hbt1 := Lib.hid hbt1
        clear hS hbV hr1 hbt1 HSd hd1 hd2 hd3 hd4 hd5 hd6
        by_cases h58 : tb.headD 0 = 58
        · obtain ⟨u, rfl⟩ : ∃ u, tb = 58 :: u := by
            cases tb with
            | nil => cases h58
            | cons c t => rw [List.headD_cons] at h58; rw [h58]; exact ⟨t, rfl⟩
          have hR := HR2.out
          rw [if_pos h58] at hR
          have hnd := need_yes g s 58 u w1 Hr1.out hs (by decide)
          have Hnd := Lib.hid hnd; have HR3 := Lib.hid hR
          clear hnd hR h58
          go_wp2_with fail
          refine Hnd.out.mono ?_
          rintro e w2 ⟨rfl, hr2, hbt2⟩
          have hbt02 := Hbt1.out.trans hbt2
          have hwd := rword_ok w0 HT.out g hg s u w2 hr2 hs (hbt02.below Hb0.out hg)
          have hwl := wordS_lens u
          have hul := hr2.2.length_le
          have hR := HR3.out
          rw [List.tail_cons] at hR
          obtain ⟨⟨xa, xb⟩, hxx⟩ : ∃ x, Q.wordS u = x := ⟨_, rfl⟩
          rw [hxx] at hwd hwl hR
          dsimp only at hwd hwl hR
          have hll := Sm.lower_len xa.length xa (Nat.le_refl _)
          have Hwd := Lib.hid hwd; have HR4 := Lib.hid hR; have Hbt02 := Lib.hid hbt02
          clear hwd hR hxx hbt02 hbt2 hr2 Hnd
          go_wp2_with fail
          refine Hwd.out.mono ?_
          rintro e w3 ⟨rfl, hr3, hbt3⟩
          have hb3 := Hbt02.out.trans hbt3
          have hall3 : But g w w3 := (But.of_below g Hal.out).trans hb3
          obtain ⟨r0, r1, _, _, _⟩ := hr3.1.two
          have Hr3 := Lib.hid hr3; have Hb3 := Lib.hid hb3; have Hall3 := Lib.hid hall3
          clear hr3 hb3 hbt3 hall3 Hwd
          by_cases hxe : xa = []
          · subst hxe
            have hw0 : (Sm.lower ([] : Str) == []) = true := rfl
            have hR : Q.Res.err xb = R := by rw [← HR4.out, if_pos rfl]
            have HR5 := Lib.hid hR
            clear hR
            go_wp2_with fail
            refine (fail_ok _ w3).mono ?_
            rintro e w4 ⟨rfl, rfl⟩
            go_wp2_with fail
            refine ⟨rfl, ?_⟩
            rw [← HR5.out]
            exact ⟨rfl, Hall3.out, Hr3.out.2⟩
          · have hlx : (Sm.lower xa == []) = false := by
              rw [beq_eq_false_iff_ne]; exact fun e => hxe (lower_none e)
            have hR : Q.Res.ok (.node 5 (x ++ 32 :: Sm.lower xa) num []) xb = R := by rw [← HR4.out, if_neg hxe]
            obtain ⟨lx, hlx2⟩ : ∃ l, Sm.lower xa = l := ⟨_, rfl⟩
            rw [hlx2] at hR hlx hll ⊢
            have hc1 : (x.length + ([32] : Str).length ≤ 9223372036854775807) = True := by simp; omega
            have hc2 : ((x ++ [32]).length + lx.length ≤ 9223372036854775807) = True := by simp; omega
            have hjs : bs x ++ (⟨#[32]⟩ : ByteArray) ++ bs lx = bs (x ++ 32 :: lx) := by
              apply ByteArray.ext
              show (bs x ++ (⟨#[32]⟩ : ByteArray) ++ bs lx).data = (x ++ 32 :: lx).toArray
              rw [ByteArray.data_append, ByteArray.data_append]
              simp [bs]
            have k3 := Hb3.out.blk Hk.out hgn
            obtain ⟨z0, z1, z2, z3, hz⟩ := k3.four
            have f0 := k3.frozen 0; have f1 := k3.frozen 1; have f2 := k3.frozen 2; have f3 := k3.frozen 3
            have Hk3 := Lib.hid k3; have HR5 := Lib.hid hR; have Hjs := Lib.hid hjs
            clear k3 hR hlx2 hjs r0 r1
            go_wp2_with fail
            rw [Hjs.out]
            obtain ⟨W9, hW9⟩ : ∃ W9, (((w3.setCell ⟨gR, 0, none⟩ (.int .i64 5)).setCell ⟨gR, 1, none⟩ (.string (bs (x ++ 32 :: lx)))).setCell ⟨gR, 2, none⟩ (.int .i64 num)).setCell ⟨gR, 3, none⟩ (.slice none 0 0) = W9 := ⟨_, rfl⟩
            have k9 := put4 Hk3.out (.int .i64 5) (.string (bs (x ++ 32 :: lx))) (.int .i64 num) (.slice none 0 0)
            rw [hW9] at k9 ⊢
            obtain ⟨y0, y1, y2, y3, _⟩ := k9.four
            refine bodyPost_ret (v := .agg #[.int .i64 5, .string (bs (x ++ 32 :: lx)), .int .i64 num, .slice none 0 0]) (by simp [results, Tryz.results83, go_sem, y0, y1, y2, y3]) rfl ?_
            rw [← HR5.out]
            have hgw5 : w.heap.size ≤ gR := by rw [HgR.out]; exact Nat.le_refl _
            have hb9 : But g w W9 := by rw [← hW9]; exact (Hall3.out).put4 hgw5 _ _ _ _
            have hr9 : Rd W9 g s xb := ⟨by show W9.heap[g]? = _; rw [← hW9, keep4 _ _ _ _ hgn.symm]; exact Hr3.out.1, Hr3.out.2⟩
            exact ⟨0, _, rfl, ⟨none, 0, rfl, by simp, by simp only [Q.text_node, maxLen, List.length_append, List.length_cons]; omega, by simp only [Q.num_node]; omega, SlR.nil _ _ _⟩, hr9, hb9⟩
        · have hR := HR2.out
          rw [if_neg h58] at hR
          have hnd := need_no g s 58 tb w1 Hr1.out hs (by decide) h58
          have Hnd := Lib.hid hnd; have HR3 := Lib.hid hR; have Hall1 := Lib.hid ((But.of_below g Hal.out).trans Hbt1.out)
          clear hnd hR h58
          go_wp2_with fail
          refine Hnd.out.mono ?_
          rintro e w2 ⟨rfl, hr2, hbt2⟩
          go_wp2_with fail
          refine ⟨rfl, ?_⟩
          rw [← HR3.out]
          exact ⟨rfl, Hall1.out.trans hbt2, hr2.2⟩
end Go.Proofs.YtihhgmpanfboaaaGreatDoor
namespace Go.Proofs.YtihhgmpanfboaaaGreatDoor
set_option linter.unusedVariables false
namespace Q
def Short (T : Str → Res) : Prop := ∀ r q u, T r = .ok q u → u.length < r.length
theorem bothGo_short {T : Str → Res} (hT : Short T) : ∀ (n : Nat) (l : List Q) (r : Str) (q : Q) (u : Str), bothGo T n l r = .ok q u → u.length ≤ r.length
  | 0, l, r, q, u, h => by
    rw [bothGo] at h; injection h with h1 h2; rw [h2]; exact Nat.le_refl _
  | n + 1, l, r, q, u, h => by
    rw [bothGo] at h
    split at h
    · cases ht : T r with
      | ok q2 u2 =>
        rw [ht] at h
        have h1 := bothGo_short hT n _ _ _ _ h
        have h2 := hT _ _ _ ht
        have h3 := skipS_le u2
        omega
      | err u2 => rw [ht] at h; cases h
    · injection h with h1 h2; rw [h2]; exact Nat.le_refl _
theorem bothGo_more {T : Str → Res} (hT : Short T) : ∀ (n : Nat) (l : List Q) (r : Str), r.length < n → bothGo T n l r = bothGo T (r.length + 1) l r
  | 0, l, r, h => absurd h (Nat.not_lt_zero _)
  | n + 1, l, r, h => by
    rw [bothGo, bothGo]
    split
    · cases ht : T r with
      | ok q2 u2 =>
        have h2 := hT _ _ _ ht
        have h3 := skipS_le u2
        dsimp only
        rw [bothGo_more hT n _ _ (by omega)]
        have : ∀ m, (skipS u2).length < m → m ≤ n → bothGo T m (l ++ [q2]) (skipS u2) = bothGo T ((skipS u2).length + 1) (l ++ [q2]) (skipS u2) := fun m hm hmn => bothGo_more hT m _ _ hm
        rw [this r.length (by omega) (by omega)]
      | err u2 => rfl
    · rfl
termination_by n _ _ => n
/-- the rest of a conjunction -/
def both1 (T : Str → Res) (l : List Q) (r : Str) : Res := bothGo T (r.length + 1) l r
theorem both1_end {T : Str → Res} {l : List Q} {r : Str} (h : begins r = false) : both1 T l r = .ok (several 6 l) r := by
  unfold both1; rw [bothGo, if_neg (by rw [h]; decide)]
theorem both1_err {T : Str → Res} {l : List Q} {r u : Str} (h : begins r = true) (ht : T r = .err u) : both1 T l r = .err u := by
  unfold both1; rw [bothGo, if_pos h, ht]
theorem both1_ok {T : Str → Res} (hT : Short T) {l : List Q} {r u : Str} {q : Q} (h : begins r = true) (ht : T r = .ok q u) : both1 T l r = both1 T (l ++ [q]) (skipS u) := by
  have h2 := hT _ _ _ ht
  have h3 := skipS_le u
  unfold both1
  rw [bothGo, if_pos h, ht]
  exact bothGo_more hT _ _ _ (by omega)
theorem bothOf_eq {T : Str → Res} (hT : Short T) (r : Str) : bothOf T r = match T (skipS r) with | .ok q u => both1 T [q] (skipS u) | .err u => .err u := by
  unfold bothOf
  cases ht : T (skipS r) with
  | ok q u => exact bothGo_more hT _ _ _ (by have := skipS_le u; omega)
  | err u => rfl
theorem bothOf_short {T : Str → Res} (hT : Short T) : Short (bothOf T) := fun r q u h => by
  rw [bothOf_eq hT] at h
  cases ht : T (skipS r) with
  | ok q2 u2 =>
    rw [ht] at h
    have h1 := bothGo_short hT _ _ _ _ _ h
    have h2 := hT _ _ _ ht
    have h3 := skipS_le r
    have h4 := skipS_le u2
    omega
  | err u2 => rw [ht] at h; cases h
theorem eitherGo_stop (T : Str → Res) (n : Nat) (l : List Q) {r : Str} (h : ∀ t, r = 124 :: t → False) : eitherGo T (n + 1) l r = .ok (several 7 l) r := by
  unfold eitherGo
  split
  · rename_i t; exact absurd rfl (fun e => h t e)
  · rfl
theorem eitherGo_short {T : Str → Res} (hT : Short T) : ∀ (n : Nat) (l : List Q) (r : Str) (q : Q) (u : Str), eitherGo T n l r = .ok q u → u.length ≤ r.length
  | 0, l, r, q, u, h => by
    rw [eitherGo] at h; injection h with h1 h2; rw [h2]; exact Nat.le_refl _
  | n + 1, l, r, q, u, h => by
    unfold eitherGo at h
    split at h
    · rename_i t
      cases ht : bothOf T t with
      | ok q2 u2 =>
        rw [ht] at h
        have h1 := eitherGo_short hT n _ _ _ _ h
        have h2 := bothOf_short hT _ _ _ ht
        rw [List.length_cons]; omega
      | err u2 => rw [ht] at h; cases h
    · injection h with h1 h2; rw [h2]; exact Nat.le_refl _
theorem eitherGo_more {T : Str → Res} (hT : Short T) : ∀ (n : Nat) (l : List Q) (r : Str), r.length < n → eitherGo T n l r = eitherGo T (r.length + 1) l r
  | 0, l, r, h => absurd h (Nat.not_lt_zero _)
  | n + 1, l, r, h => by
    by_cases hr : ∃ t, r = 124 :: t
    · obtain ⟨t, rfl⟩ := hr
      rw [eitherGo, eitherGo]
      cases ht : bothOf T t with
      | ok q2 u2 =>
        have h2 := bothOf_short hT _ _ _ ht
        rw [List.length_cons] at h ⊢
        dsimp only
        rw [eitherGo_more hT n _ _ (by omega)]
        have : ∀ m, u2.length < m → m ≤ n → eitherGo T m (l ++ [q2]) u2 = eitherGo T (u2.length + 1) (l ++ [q2]) u2 := fun m hm hmn => eitherGo_more hT m _ _ hm
        rw [this (t.length + 1) (by omega) (by omega)]
      | err u2 => rfl
    · have hn : ∀ t, r = 124 :: t → False := fun t e => hr ⟨t, e⟩
      rw [eitherGo_stop T n l hn, eitherGo_stop T r.length l hn]
termination_by n _ _ => n
def either1 (T : Str → Res) (l : List Q) (r : Str) : Res := eitherGo T (r.length + 1) l r
theorem either1_end {T : Str → Res} {l : List Q} {r : Str} (h : r.headD 0 ≠ 124) : either1 T l r = .ok (several 7 l) r := by
  exact eitherGo_stop T _ l fun t e => h (by rw [e]; rfl)
theorem either1_err {T : Str → Res} {l : List Q} {t u : Str} (ht : bothOf T t = .err u) : either1 T l (124 :: t) = .err u := by
  unfold either1; rw [eitherGo, ht]
theorem either1_ok {T : Str → Res} (hT : Short T) {l : List Q} {t u : Str} {q : Q} (ht : bothOf T t = .ok q u) : either1 T l (124 :: t) = either1 T (l ++ [q]) u := by
  have h2 := bothOf_short hT _ _ _ ht
  unfold either1
  rw [eitherGo, ht]
  exact eitherGo_more hT _ _ _ (by rw [List.length_cons]; omega)
theorem eitherOf_eq {T : Str → Res} (hT : Short T) (r : Str) : eitherOf T r = match bothOf T r with | .ok q u => either1 T [q] u | .err u => .err u := rfl
theorem eitherOf_short {T : Str → Res} (hT : Short T) : Short (eitherOf T) := fun r q u h => by
  rw [eitherOf_eq hT] at h
  cases ht : bothOf T r with
  | ok q2 u2 =>
    rw [ht] at h
    have h1 := eitherGo_short hT _ _ _ _ _ h
    have h2 := bothOf_short hT _ _ _ ht
    omega
  | err u2 => rw [ht] at h; cases h
theorem phraseS_len : ∀ (n : Nat) (r : Str), (phraseS n r).2.length ≤ r.length
  | 0, r => Nat.le_refl _
  | n + 1, r => by
    have h1 := skipS_le r
    rw [phraseS]
    split
    · exact h1
    · have h2 := phraseS_len n (wordS (skipS r)).2
      have h3 := wordS_lens (skipS r)
      dsimp only
      omega
theorem quotedS_short {t : Str} {q : Q} {u : Str} (h : quotedS t = .ok q u) : u.length ≤ t.length := by
  unfold quotedS at h
  split at h
  · injection h with h1 h2
    have := phraseS_len (t.length + 1) t
    rw [← h2, List.length_tail]; omega
  · cases h
theorem nearS_short {x v : Str} {q : Q} {u : Str} (h : nearS x v = .ok q u) : u.length ≤ v.length := by
  rw [nearS_eq] at h
  unfold nearT at h
  split at h
  · cases h
  · split at h
    · split at h
      · cases h
      · injection h with h1 h2
        have h3 := wordS_lens (v.dropWhile digit).tail
        have h4 := (List.dropWhile_suffix (p := digit) (l := v)).length_le
        rw [← h2]
        rw [List.length_tail] at h3
        omega
    · cases h
theorem wordTerm_short : Short wordTerm := fun r q u h => by
  unfold wordTerm at h
  split at h
  · cases h
  · rename_i hne
    have h1 := wordS_lens r
    have h2 := List.length_pos_iff.2 hne
    split at h
    · rename_i v e
      injection h with h3 h4
      have h5 := congrArg List.length e
      rw [List.length_cons] at h5
      rw [← h4]; omega
    · rename_i v e
      have h5 := congrArg List.length e
      rw [List.length_cons] at h5
      have h6 := nearS_short h
      omega
    · injection h with h3 h4
      rw [← h4]; omega
theorem termS_short : ∀ f : Nat, Short (termS f)
  | 0 => fun r q u h => by cases h
  | f + 1 => fun r q u h => by
    have ih := termS_short f
    unfold termS at h
    split at h
    · rename_i t
      cases ht : termS f t with
      | ok q2 u2 =>
        rw [ht] at h; injection h with h1 h2
        have := ih _ _ _ ht
        rw [← h2, List.length_cons]; omega
      | err u2 => rw [ht] at h; cases h
    · rename_i t
      cases ht : eitherOf (termS f) t with
      | ok q2 u2 =>
        have h3 := eitherOf_short ih _ _ _ ht
        rw [ht] at h
        split at h
        · rename_i e; injection e with e1 e2; injection h with h1 h2; subst e2; rw [← h2]; rw [List.length_cons] at h3 ⊢; omega
        · cases h
        · cases h
      | err u2 => rw [ht] at h; cases h
    · rename_i t
      have := quotedS_short h
      rw [List.length_cons]; omega
    · rename_i t
      injection h with h1 h2
      rw [← h2, List.length_cons]; omega
    · exact wordTerm_short _ _ _ h
end Q
end Go.Proofs.YtihhgmpanfboaaaGreatDoor
