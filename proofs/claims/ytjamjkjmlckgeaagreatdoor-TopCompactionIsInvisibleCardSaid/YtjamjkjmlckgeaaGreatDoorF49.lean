/-
  views.Update, of a view in order.
-/
import Derived.Test.YtjamjkjmlckgeaaGreatDoorF25
import Derived.Test.YtjamjkjmlckgeaaGreatDoorF48
namespace Go.Proofs.YtjamjkjmlckgeaaGreatDoor
open Go.RowKit
set_option linter.unusedVariables false

theorem grown_low {B : Nat} {w w' : World} {row : Option Nat} (h : w.grownBy w' row) (hB : B ≤ w.heap.size) (hr : ∀ b, row = some b → B ≤ b) : Below B w w' := ⟨h.os, h.tape, h.output, h.size, fun b hb => h.block b (by omega) fun e => by have := hr b e.symm; omega⟩
theorem putS_hit {l : List Mb.Seen} {s : Mb.Seen} (h : hitS l s.1 (Mb.below l s.1) = true) : Mb.putS l s = l.set (Mb.below l s.1) s := by
  unfold hitS at h
  by_cases hk : Mb.below l s.1 < l.length
  · rw [List.getElem?_eq_getElem hk] at h
    simp only [beq_iff_eq] at h
    unfold Mb.putS
    rw [if_pos ⟨by rw [List.getD_eq_getElem?_getD, List.getElem?_eq_getElem hk]; simp only [Option.getD_some]; omega, hk⟩]
  · rw [List.getElem?_eq_none (by omega)] at h
    cases h
theorem putS_miss {l : List Mb.Seen} {s : Mb.Seen} (h : hitS l s.1 (Mb.below l s.1) = false) : Mb.putS l s = l.take (Mb.below l s.1) ++ s :: l.drop (Mb.below l s.1) := by
  unfold hitS at h
  unfold Mb.putS
  rw [if_neg fun hh => by
    rw [List.getElem?_eq_getElem hh.2] at h
    have h1 := hh.1
    rw [List.getD_eq_getElem?_getD, List.getElem?_eq_getElem hh.2, Option.getD_some] at h1
    simp only [beq_eq_false_iff_ne, ne_eq] at h
    omega]
theorem hitS_lt {l : List Mb.Seen} {u : Int} {k : Nat} (h : hitS l u k = true) : k < l.length := by
  unfold hitS at h
  by_cases hk : k < l.length
  · exact hk
  · rw [List.getElem?_eq_none (by omega)] at h
    cases h
theorem putS_mem {l : List Mb.Seen} {s x : Mb.Seen} (h : x ∈ Mb.putS l s) : x ∈ l ∨ x = s := by
  unfold Mb.putS at h
  split at h
  · exact List.mem_or_eq_of_mem_set h
  · rcases List.mem_append.1 h with h | h
    · exact .inl (List.mem_of_mem_take h)
    · rcases List.mem_cons.1 h with h | h
      · exact .inr h
      · exact .inl (List.mem_of_mem_drop h)
theorem puts_kn : ∀ (ch l : List Mb.Seen), KnB l → KnB ch → KnB (ch.foldl Mb.putS l)
  | [], l, h, _ => h
  | c :: ch, l, h, hc => puts_kn ch (Mb.putS l c) (fun x hx => (putS_mem hx).elim (h x) fun e => by rw [e]; exact hc c (.head _)) fun x hx => hc x (.tail _ hx)
theorem puts_take {l ch : List Mb.Seen} {k : Nat} (hk : k < ch.length) : (ch.take (k + 1)).foldl Mb.putS l = Mb.putS ((ch.take k).foldl Mb.putS l) ch[k] := by
  rw [List.take_succ_eq_append_getElem hk, List.foldl_append]
  rfl
set_option maxRecDepth 100000 in
set_option maxHeartbeats 16000000 in
theorem vupdate_ok (M : Nat → Prop) (q : Int) (l ch : List Mb.Seen) (vl : List Int) (sq : Int) (s cv va : Value) (w : World) (hM : ∀ x, M x → x < w.heap.size) (hs : SlR gnC M0 w s l) (hch : SlR gnC M0 w cv ch) (hva : SlR intC M0 w va vl) (hv : Mb.VGood (q, l)) (hkn : ∀ x ∈ ch, (1 ≤ x.1 ∧ x.1 ≤ 1000000) ∧ (0 ≤ x.2 ∧ x.2 ≤ 63)) (hcl : ch.length ≤ 1000) (hsq : 0 ≤ sq ∧ sq ≤ 1000000) (hu : Mb.VGood (Mb.updF (q, l) ch vl sq)) :
    Calls Tryz.prog 34 #[.agg #[.int .i64 q, s], cv, va, .int .i64 sq] w fun e w' => ∃ v, e = .returned (.tuple #[.agg #[.int .i64 sq, v], .agg #[.int .i64 0, .int .i64 0]]) ∧ SlR gnC M w' v (Mb.updF (q, l) ch vl sq).2 ∧ Below w.heap.size w w' := by
  have hval := fun W h1 => vvalidate_ok q l s W h1 hv
  have hll := hv.len
  have hup : Mb.Rising l := hv.up
  have hkl : KnB l := fun x hx => ⟨by have := (hv.kn x hx).1.1; omega, (hv.kn x hx).1.2⟩
  have hkc : KnB ch := fun x hx => ⟨by have := (hkn x hx).1.1; omega, (hkn x hx).1.2⟩
  dsimp only at hll
  obtain ⟨As, cs, rfl, hsc, hsm⟩ := hs.form
  obtain ⟨Ac, cc, rfl, hcc, hcm⟩ := hch.form
  obtain ⟨Av, cw, rfl, hvc, hvm⟩ := hva.form
  obtain ⟨z, hz9⟩ : ∃ z : Int, z = 0 := ⟨_, rfl⟩
  rw [← hz9] at hval
  have hzz : (z != 0) = false := by rw [hz9]; rfl
  have Hz9 := Lib.hid hz9
  obtain ⟨wa, g, gb, hwa, hga, hgb, hsza, ka, kb, hba⟩ := box2 w #[.int .i64 q, .slice As l.length cs] 40 #[.slice Av vl.length cw] 54
  obtain ⟨w0, g2, g3, hw0, hg2, hg3, hsz0, k2, k3, hbb⟩ := box2 wa #[.int .i64 0, .slice none 0 0] 40 #[.int .i64 0, .int .i64 0] 31
  have hb0 := below2 hba hbb
  have hgl2 : w.heap.size ≤ g2 := by omega
  have hgl3 : w.heap.size ≤ g3 := by omega
  have hgu2 : g2 < w0.heap.size := by omega
  have hgu3 : g3 < w0.heap.size := by omega
  have hgub : gb < w0.heap.size := by omega
  have hne : g2 ≠ g3 := by omega
  have hz0 := hb0.size
  have ka0 := ka.ext hbb; have kb0 := kb.ext hbb
  have hs0 := hs.ext hb0; have hch0 := hch.ext hb0; have hva0 := hva.ext hb0
  have Hval := Lib.hid (hval w0 hs0)
  have HM := Lib.hid hM; have Hkn := Lib.hid hkn; have Hkc := Lib.hid hkc; have Hkl := Lib.hid hkl; have Hup := Lib.hid hup; have Hu := Lib.hid hu
  have c0 := ka0.cell 0; have c1 := ka0.cell 1; have cb := kb0.cell 0
  have hsq0 : decide (sq < 0) = false := decide_eq_false (by omega)
  have hsq1 : ¬ 1000000 < sq := by omega
  clear hval hs hch hva hsza hsz0 hM hkn hkc hkl hup hu hz9 hv ka kb hba hbb
  go_enter Tryz.func34, Tryz.ntmps34
  go_wp2_with fail
  refine Hval.out.mono ?_
  rintro e w1 ⟨rfl, hb1⟩
  refine Hid.out ?_
  refine Lib.hid ?_
  obtain ⟨w2, g4, hw2, hg4, hsz2, k4, hb2⟩ := box1 w1 #[.int .i64 z, .int .i64 z] 31
  have hb02 := below2 hb1 hb2
  obtain ⟨p0, p1, _, _, _⟩ := k4.two
  clear k4 hsz2 c0 c1 Hval
  go_wp2_with fail
  refine (failed_ok z z w2).mono ?_
  rintro e w3 ⟨rfl, hb3⟩
  have hb03 := below2 hb02 hb3
  have hz3 := hb03.size
  have hch3 := hch0.ext hb03
  have ka3 := ka0.ext hb03
  clear p0 p1 hw2 hwa hw0 cb
  refine Hid.out ?_
  refine Lib.hid ?_
  go_wp2_with fail
  go_loopw [27] (fun i wr => ∃ k : Nat, k ≤ ch.length ∧ i = .int .i64 (k : Int) ∧ Below w3.heap.size w3 wr) (fun i _ => ch.length - (intOf i).toNat)
  case atStart => exact ⟨0, Nat.zero_le _, rfl, Below.refl _ _⟩
  case round =>
    obtain ⟨k, hk, rfl, hbr⟩ := hrel
    have hzr := hbr.size
    by_cases hlt : k < ch.length
    · obtain ⟨be, off, rfl, _, hbe, q0, q1⟩ := (hch3.ext hbr).gnAt hlt
      have hkb := known_ok ch[k]
      rw [(Mb.knownB_iff _).2 (Hkn.out _ (List.getElem_mem hlt))] at hkb
      obtain ⟨⟨x1, x2⟩, hx⟩ : ∃ x, x = ch[k] := ⟨_, rfl⟩
      rw [← hx] at q0 q1 hkb
      dsimp only at q0 q1 hkb
      obtain ⟨wx, gx, hwx, hgx, hszx, kx, hbx⟩ := box1 wr #[.int .i64 x1, .int .i64 x2] 84
      have Hkb := Lib.hid hkb
      have a0 := kx.cell 0; have a1 := kx.cell 1
      clear hkb hx hszx
      go_wp2_with fail
      refine (Hkb.out _).mono ?_
      rintro e wk ⟨rfl, hbk⟩
      clear a0 a1 q0 q1
      go_wp2_with fail
      go_roundw
      case rel => exact ⟨k + 1, by omega, by go_num, hbr.trans ((below2 hbx hbk).mono hzr)⟩
      case measure => simp [intOf]; omega
    · obtain rfl : k = ch.length := by omega
      clear hlt hk
      have hb0r := below2 hb03 hbr
      have c1 := (ka3.ext hbr).cell 1
      have Hcl := Lib.hid (cloneSn_ok M0 _ l wr (hs0.ext hb0r) (by omega))
      go_wp2_with fail
      refine Hcl.out.mono ?_
      rintro e w4 ⟨v4, rfl, own4, hb4⟩
      obtain ⟨A4, c4, rfl, _, _⟩ := own4.shape
      refine Hid.out ?_
      refine Lib.hid ?_
      obtain ⟨w5, gk, hw5, hgk, hsz5, kk, hb5⟩ := box1 w4 #[.int .i64 sq, .slice A4 l.length c4] 40
      have own5 := own4.ext hb5
      obtain ⟨B, hB⟩ : ∃ B, B = wr.heap.size := ⟨_, rfl⟩
      rw [← hB] at own5
      have hb45 : Below B wr w5 := by rw [hB]; exact below2 hb4 hb5
      have hBw5 : B ≤ w5.heap.size := by have := hb45.size; omega
      have hBk : B ≤ gk := by have := hb4.size; omega
      have hgbB : gb < B := by omega
      have hz5 := hb45.size
      have hB0 : w0.heap.size ≤ B := by omega
      have hchB : SlR gnC (fun x => B ≤ x) w5 (.slice Ac ch.length cc) ch := by
        have h1 := (hch3.ext hbr).fromB
        rw [← hB] at h1
        exact h1.belowB hb45
      have hvaB : SlR intC (fun x => B ≤ x) w5 (.slice Av vl.length cw) vl := by
        have h1 := (hva0.ext hb0r).fromB
        rw [← hB] at h1
        exact h1.belowB hb45
      have kb5 := ((kb0.ext hb0r).ext hb4).ext hb5
      have HL0 := Lib.hid (show l = (ch.take 0).foldl Mb.putS l from rfl)
      have Hb0r := Lib.hid hb0r
      have Hw5 := Lib.hid hw5
      clear own4 hb4 hb5 hsz5 hB c1 Hcl hbr
      go_wp2_with fail
      go_loopw [55] (fun i wr => ∃ (k : Nat) (A : Option Addr) (c : Nat) (L : List Mb.Seen), k ≤ ch.length ∧ i = .int .i64 (k : Int) ∧ Hid (L = (ch.take k).foldl Mb.putS l) ∧ Blk wr gk 40 #[.int .i64 sq, .slice A L.length c] ∧ Own gnC M0 wr B 84 (.slice A L.length c) L ∧ Below B w5 wr) (fun i _ => ch.length - (intOf i).toNat)
      case atStart => exact ⟨0, A4, c4, l, Nat.zero_le _, rfl, HL0, kk, own5, Below.refl _ _⟩
      case round =>
        obtain ⟨k, A, c, L, hk, rfl, hL, kL, own, hbt⟩ := hrel
        clear hw5 hgk
        have hzt := hbt.size
        have n1 := kL.cell 1
        have hriseL : Mb.Rising L := by rw [hL.out]; exact Mb.puts_rising _ _ Hup.out
        have hknL : KnB L := by rw [hL.out]; exact puts_kn _ _ Hkl.out fun x hx => Hkc.out x (List.mem_of_mem_take hx)
        have hlenL : L.length ≤ 1600 := by rw [hL.out]; have h1 := Mb.puts_len (ch.take k) l; have h2 := List.length_take_le k ch; have h3 : (ch.take k).length ≤ ch.length := by rw [List.length_take]; omega
                                           omega
        by_cases hlt : k < ch.length
        · obtain ⟨be, off, rfl, _, hbe, q0, q1⟩ := (hchB.belowB hbt).gnAt hlt
          have hxb := Hkn.out _ (List.getElem_mem hlt)
          have htk := puts_take (l := l) hlt
          obtain ⟨⟨x1, x2⟩, hx⟩ : ∃ x, x = ch[k] := ⟨_, rfl⟩
          rw [← hx] at q0 q1 hxb htk
          rw [← hL.out] at htk
          dsimp only at q0 q1 hxb
          obtain ⟨wx, gx, hwx, hgx, hszx, kx, hbx⟩ := box1 wr #[.int .i64 x1, .int .i64 x2] 84
          have a0 := kx.cell 0; have a1 := kx.cell 1
          have ownx := own.ext hbx
          have kLx := kL.ext hbx
          have n1x := kLx.cell 1
          have Hbs := Lib.hid (bsearchSn_ok M0 L x1 x2 _ wx ownx.read0 (by omega) hknL ⟨by omega, hxb.1.2⟩)
          have Hri := Lib.hid hriseL; have Htk := Lib.hid htk; have Hxb := Lib.hid hxb
          have hgxk : gx ≠ gk := by have := kL.lt; omega
          have hgxo : ∀ b, (Value.slice A L.length c).ownBlock = some b → b ≠ gx := fun b hb e => by have := own.lt b hb; omega
          have Hgxo := Lib.hid hgxo
          clear hriseL hknL htk hx hszx kL own n1 hL hgxo hxb
          go_wp2_with fail
          refine Hbs.out.mono ?_
          rintro e w6 ⟨kk', rfl, hkk, hc1, hc2, hb6⟩
          have hat : kk' = Mb.below L x1 := below_cut Hri.out hkk hc1 hc2
          have own6 := ownx.ext hb6
          have kL6 := kLx.ext hb6
          have kx6 := kx.ext hb6
          have a0 := kx6.cell 0; have a1 := kx6.cell 1
          have n1 := kL6.cell 1
          have hbt6 : Below B w5 w6 := hbt.trans ((below2 hbx hb6).mono (by omega))
          have hz6 := hbt6.size
          have hxl6 := kx6.lt
          obtain ⟨th, hth⟩ : ∃ t, hitS L x1 kk' = t := ⟨_, rfl⟩
          rw [hth]
          have Hhit := Lib.hid hth
          have Hat := Lib.hid hat
          have hneb := own_ne_blk own6 kL6 (by decide)
          have Hneb := Lib.hid hneb
          clear hc1 hc2 hat hth hneb ownx kLx kx hb6 hbx hwx q0 q1 n1x Hbs
          cases th with
          | true =>
            have hkl' := hitS_lt Hhit.out
            have Hput := Lib.hid (show Mb.putS L (x1, x2) = L.set kk' (x1, x2) by rw [Hat.out]; exact putS_hit (s := (x1, x2)) (by have := Hhit.out; rw [Hat.out] at this; exact this))
            obtain ⟨g', c', hv, _, _, hBg, hgl', y0, y1, _, _, hfz⟩ := own6.snAt hkl'
            injection hv with hv1 hv2 hv3
            subst hv1 hv3
            have f0 := hfz (kk' * 2)
            have f1 := hfz (kk' * 2 + 1)
            have hii0 : (0 : Int) ≤ (kk' : Int) := by omega
            have hii1 : (kk' : Int) < (L.length : Int) := by omega
            have hq2 : IntKind.i64.wrap (kk' : Int) = (kk' : Int) := IntWalk.i64_in _ (by omega)
            have hgg : g' ≠ gk := Hneb.out g' rfl
            have hggx : gx ≠ g' := fun e => Hgxo.out g' rfl e.symm
            clear hfz hv2
            go_wp2_with fail
            go_roundw
            case rel => exact ⟨k + 1, some ⟨g', 0, none⟩, c, L.set kk' (x1, x2), by omega, by go_num, Lib.hid (by rw [Htk.out]; exact Hput.out.symm), by rw [List.length_set]; exact kL6.turned (((Turned.refl g' _).set _ _).set _ _) (Ne.symm hgg), by rw [List.length_set]; exact own6.putS2 hkl' ⟨by have := Hxb.out.1; omega, by have := Hxb.out.1; omega⟩ ⟨by have := Hxb.out.2; omega, by have := Hxb.out.2; omega⟩, Below.setCell (Below.setCell hbt6 hBg _) hBg _⟩
            case measure => simp [intOf]; omega
          | false =>
            have Hput := Lib.hid (show Mb.putS L (x1, x2) = L.take kk' ++ (x1, x2) :: L.drop kk' by rw [Hat.out]; exact putS_miss (s := (x1, x2)) (by have := Hhit.out; rw [Hat.out] at this; exact this))
            obtain ⟨w7, gv, hw7, hgv, hsz7, kv, hb7⟩ := box1 w6 #[.int .i64 x1, .int .i64 x2] 84
            have own7 := own6.ext hb7
            have kL7 := kL6.ext hb7
            have hgk7 := kL6.lt
            have Hins := Lib.hid (insertSn_ok M0 _ L (x1, x2) kk' B gv #[.int .i64 x1, .int .i64 x2] w7 own7 hkk (by omega) kv (fun M' => ⟨_, _, rfl, ⟨rfl, by have := Hxb.out.1; omega, by have := Hxb.out.1; omega⟩, ⟨rfl, by have := Hxb.out.2; omega, by have := Hxb.out.2; omega⟩⟩) (fun e => by have := own6.lt gv e; omega) (fun h => h.elim) (by have := hb7.size; omega) (fun x h => h.elim))
            clear hsz7 kv
            go_wp2_with fail
            refine Hins.out.mono ?_
            rintro e w8 ⟨v8, rfl, own8, hg8, hor8⟩
            obtain ⟨A8, c8, rfl, _, _⟩ := own8.shape
            have hne7 : some gk ≠ (Value.slice A L.length c).ownBlock := fun e => Hneb.out gk e.symm rfl
            have kL8 := kL7.grown hg8 hne7
            have hb8 : Below B w7 w8 := grown_low hg8 (by have := hb7.size; omega) (fun b hb => by obtain ⟨xs, ho, _⟩ := own7; exact (ho.lt b hb).1)
            have hbt8 : Below B w5 w8 := (hbt6.trans (hb7.mono (by omega))).trans hb8
            have m0 := kL8.cell 1; have m1 := kL8.frozen 1; have ml := kL8.lt
            obtain ⟨L8, hL8⟩ : ∃ x, x = L.take kk' ++ (x1, x2) :: L.drop kk' := ⟨_, rfl⟩
            rw [← hL8] at own8 ⊢
            rw [← hL8] at Hput
            have hne8 := own_ne_blk own8 kL8 (by decide)
            clear Hins hg8 hor8 own7 own6 hL8 hw7
            go_wp2_with fail
            go_roundw
            case rel => exact ⟨k + 1, A8, c8, L8, by omega, by go_num, Lib.hid (by rw [Htk.out]; exact Hput.out.symm), by simpa using kL8.set_ 1 (.slice A8 L8.length c8), (((own_freeM (M' := One gk) free_gn own8).turned ((Turned.refl gk _).set 1 _) rfl hne8)).weak (Nat.le_refl _) (fun x hx => hx.elim), Below.setCell hbt8 hBk _⟩
            case measure => simp [intOf]; omega
        · obtain rfl : k = ch.length := by omega
          clear hlt hk
          have hLF : L = ch.foldl Mb.putS l := by rw [hL.out, List.take_length]
          have HLF := Lib.hid hLF
          have kbr : Blk wr gb 54 #[.slice Av vl.length cw] := (hbt.block gb hgbB).trans kb5
          have cb := kbr.cell 0
          have hbase : ∀ b, (Value.slice A L.length c).ownBlock = some b → B ≤ b := fun b hb => by obtain ⟨xs, ho, _⟩ := own; exact (ho.lt b hb).1
          have Hdel := Lib.hid (deleteFuncSn_ok (.slice Av vl.length cw) vl gb (.slice A L.length c) L B wr own (by omega) ((hvaB.belowB hbt).sub fun x _ hx => hbase x hx) cb (fun e => by have := hbase gb e; omega))
          have hne6 : some gk ≠ (Value.slice A L.length c).ownBlock := fun e => own_ne_blk own kL (by decide) gk e.symm rfl
          clear hL hLF hriseL hknL
          go_wp2_with fail
          refine Hdel.out.mono ?_
          rintro e w6 ⟨v6, rfl, own6, hg6, hob6⟩
          obtain ⟨A6, c6, rfl, _, _⟩ := own6.shape
          have kL6 := kL.grown hg6 hne6
          have hb6 : Below B wr w6 := grown_low hg6 (by omega) hbase
          have m0 := kL6.cell 1; have m1 := kL6.frozen 1; have ml := kL6.lt
          obtain ⟨L6, hL6⟩ : ∃ x, x = L.filter fun r => !vl.contains r.1 := ⟨_, rfl⟩
          rw [← hL6] at own6
          have hup6 : Mb.updF (q, l) ch vl sq = (sq, L6) := by unfold Mb.updF; rw [hL6, HLF.out]
          have Hup6 := Lib.hid hup6
          have Hl6 := Lib.hid hL6
          rw [← hL6]
          obtain ⟨w7, hw7⟩ : ∃ W, w6.setCell ⟨gk, 1, none⟩ (.slice A6 L6.length c6) = W := ⟨_, rfl⟩
          have k7 : Blk w7 gk 40 #[.int .i64 sq, .slice A6 L6.length c6] := by rw [← hw7]; simpa using kL6.set_ 1 (.slice A6 L6.length c6)
          have own7 : Own gnC M0 w7 B 84 (.slice A6 L6.length c6) L6 := by
            rw [← hw7]
            exact (((own_freeM (M' := One gk) free_gn own6).turned ((Turned.refl gk _).set 1 _) rfl (own_ne_blk own6 kL6 (by decide)))).weak (Nat.le_refl _) (fun x hx => hx.elim)
          have hb57 : Below B w5 w7 := (hbt.trans hb6).trans (by rw [← hw7]; exact Below.setCell (Below.refl _ _) hBk _)
          have hval2 := vvalidate_ok sq L6 _ w7 own7.read0 (by rw [← hup6]; exact Hu.out)
          rw [← Hz9.out] at hval2
          have Hval2 := Lib.hid hval2
          have d0 := k7.cell 0; have d1 := k7.cell 1
          clear hval2 own6 hg6 hob6 hup6 kL own kL6 Hdel hne6 hbase cb hL6
          go_wp2_with fail
          refine Hval2.out.mono ?_
          rintro e w8 ⟨rfl, hb8⟩
          obtain ⟨w9, g9, hw9, hg9, hsz9, k9, hb9⟩ := box1 w8 #[.int .i64 z, .int .i64 z] 31
          have hb79 := below2 hb8 hb9
          obtain ⟨p0, p1, _, _, _⟩ := k9.two
          clear k9 hsz9 d0 d1 Hval2 m0 m1 ml n1 hw7
          go_wp2_with fail
          refine (failed_ok z z w9).mono ?_
          rintro e w10 ⟨rfl, hb10⟩
          have hb710 := below2 hb79 hb10
          have k10 := k7.ext hb710
          have own10 := own7.ext hb710
          have hb510 : Below B w5 w10 := hb57.trans (hb710.mono (by have := hb57.size; omega))
          have HS := Lib.hid (show ∀ W, Below w10.heap.size w10 W → W.cell? ⟨gk, 0, none⟩ = some (.int .i64 sq) ∧ W.cell? ⟨gk, 1, none⟩ = some (.slice A6 L6.length c6) from fun W hW => ⟨(k10.ext hW).cell 0, (k10.ext hW).cell 1⟩)
          clear p0 p1 hw9 hb8 hb9 hb79 hb10 k7 own7 k10
          go_wp2_with fail

          refine wp_region_D (fun W => W.cell? ⟨gk, 0, none⟩ = some (.int .i64 sq) ∧ W.cell? ⟨gk, 1, none⟩ = some (.slice A6 L6.length c6)) (fun j => j == 2 || j == 3) (by kernel_rfl) ?_
          change anyD _ _ _ _ _ _ _ _ _ (w10.drewN 1)
          have hbV := below_drewN' w10.heap.size w10 1
          generalize w10.drewN 1 = V0 at hbV ⊢
          have hS := HS.out V0 hbV
          (refine anyD_light (i := 0) (v := ?_) rfl (by kernel_rfl) (by kernel_rfl) (by kernel_rfl) (by kernel_rfl) (by kernel_rfl) (fun _ _ _ h => h) (.inl ⟨by kernel_rfl, fun W9 hW9 => ?_⟩) hS ?_; rotate_left; · (obtain ⟨hw0, hw1⟩ := hW9; go_simp; rfl))
          go_simp
          refine anyD_one (i := 1) (by kernel_rfl) rfl rfl (fun K hK => ?_)
          have HK := Lib.hid hK
          clear hK
          clear hS
          unfold Oper.wp
          go_simp
          refine (none_ok V0).mono ?_
          rintro e V2 ⟨rfl, hb2'⟩
          have hb2x := below2 hbV hb2'
          have hS := HS.out V2 hb2x
          refine HK.out _ _ (fun _ => hS) ?_
          clear HK
          go_simp
          refine anyD_one (i := 2) (by kernel_rfl) rfl rfl (fun K hK => ?_)
          have HK := Lib.hid hK
          clear hK
          have hbR : Below w0.heap.size w0 V2 := ((Hb0r.out.trans (hb45.mono hB0)).trans (hb510.mono hB0)).trans (hb2x.mono (by have := hb510.size; omega))
          have own2 := Lib.hid (own10.ext hb2x)
          obtain ⟨Wv, Wz, hWv, hWz, ⟨m0, m1⟩, ⟨x0, x1, xl⟩, ⟨n0, n1, u0, u1, ul⟩, k4z, k5z, hbz, hT1, hT2⟩ := land22 (k2.ext hbR) (k3.ext hbR) hne (.int .i64 sq) (.slice A6 L6.length c6) (.int .i64 0) (.int .i64 0)
          have z0 := k4z.cell 0; have z1 := k4z.cell 1; have y0 := k5z.cell 0; have y1 := k5z.cell 1
          have Hfin := Lib.hid (And.intro hbz (And.intro hT1 hT2))
          clear k4z k5z hbz hT1 hT2 hS own10
          unfold Oper.wp
          go_simp
          refine HK.out _ _ (fun h => by cases h) ?_
          clear HK
          go_simp
          refine anyD_one (i := 3) (by kernel_rfl) rfl rfl (fun K hK => ?_)
          have HK := Lib.hid hK
          clear hK
          unfold Oper.wp
          go_simp
          refine HK.out _ _ (fun h => by cases h) ?_
          clear HK
          go_simp
          refine anyD_done (by kernel_rfl) ?_ _
          go_wp2_with fail
          obtain ⟨hbz, hT1, hT2⟩ := Hfin.out
          refine bodyPost_ret (v := .tuple #[.agg #[.int .i64 sq, .slice A6 L6.length c6], .agg #[.int .i64 0, .int .i64 0]]) (by simp [results, Tryz.results34, go_sem, z0, z1, y0, y1]) rfl ⟨_, rfl, ?_, ?_⟩
          · have h1 : SlR gnC (fun x => M x ∨ x = g2 ∨ x = g3) V2 (.slice A6 L6.length c6) L6 := own_freeR free_gn own2.out fun x hx => by
              rcases hx with hx | hx | hx
              · have := HM.out x hx; omega
              · omega
              · omega
            rw [Hup6.out]
            exact ((h1.turned hT1 (.inr (.inl rfl))).turned hT2 (.inr (.inr rfl))).sub fun x _ hx => .inl hx
          · exact (below2 hb0 hbR).trans (hbz _ (by omega) (by omega))
end Go.Proofs.YtjamjkjmlckgeaaGreatDoor
