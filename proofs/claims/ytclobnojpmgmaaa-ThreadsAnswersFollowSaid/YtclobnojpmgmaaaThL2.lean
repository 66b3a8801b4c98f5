/-
  ThreadsArrivalDoesNotMatter: the law's walk.
-/
import Derived.Test.YtclobnojpmgmaaaThL1
import Derived.Test.YtclobnojpmgmaaaThQ2
import Derived.Test.YtclobnojpmgmaaaIn
namespace Go.Proofs.Ytclobnojpmgmaaa
open Go.RowKit
set_option linter.unusedVariables false
theorem TLetters : SlT Try.prog letterC.n 22 39 48 := SlT.mk' Try.underlying22 (by kernel_rfl : (Try.prog.info? 39).map (fun i => (i.zero, i.size, i.bytes)) = some (some (.agg #[.string ⟨#[]⟩, .slice none 0 0, .int .i64 0]), 3, 48)) rfl
theorem letter_rd {M : Nat → Prop} {w : World} {x : Letter} {A2 : Option Addr} {c2 : Nat} (h1 : x.1.length ≤ maxLen) (h2 : SlR strC M w (.slice A2 x.2.1.length c2) x.2.1) (h3 : -9223372036854775808 ≤ x.2.2) (h4 : x.2.2 ≤ 9223372036854775807) :
    letterC.rd M w [.string (bs x.1), .slice A2 x.2.1.length c2, .int .i64 x.2.2] x :=
  ⟨[.string (bs x.1)], [.slice A2 x.2.1.length c2, .int .i64 x.2.2], rfl, ⟨rfl, h1⟩, [.slice A2 x.2.1.length c2], [.int .i64 x.2.2], rfl, ⟨_, rfl, h2⟩, rfl, h3, h4⟩
theorem rev_take {l : List Letter} {j k : Nat} (hj : j < l.length) (h : j + 1 + k = l.length) : l.reverse.take (k + 1) = l.reverse.take k ++ [l[j]] := by
  have hk : k < l.reverse.length := by rw [List.length_reverse]; omega
  rw [List.take_succ_eq_append_getElem hk, List.getElem_reverse]
  congr 3
  omega
/-- what both orders answer -/
theorem both_ways (l : List Letter) : (∃ g1 g2 f1 f2, g1 ≠ 0 ∧ f1 ≠ 0 ∧ ordQ l = ([], [], g1, g2) ∧ ordQ l.reverse = ([], [], f1, f2)) ∨
    (∃ O1 O2 D, ordQ l = (O1, D, 0, 0) ∧ ordQ l.reverse = (O2, D, 0, 0) ∧ O1.length = l.length ∧ O2.length = l.length ∧ l.length ≤ 300 ∧ ∀ (k : Nat) (h1 : k < O1.length) (h2 : k < O2.length), 0 ≤ O1[k] ∧ O1[k] < l.length ∧ O2[k] = (l.length : Int) - 1 - O1[k]) := by
  by_cases h : (Th.lettersF l).1 = 0
  · right
    have hr := (lettersF_rev l).2 h
    have hd := distinct_of h
    have hs := shownA_rev hd
    have hl := shown_len hd
    have hlt := fun x hx => shown_lt (l := l) (l.length + 2) (-1) 0 x hx
    have e2 : ordQ l.reverse = ((Th.shownA l (-1) 0).map (fun x => ((rvN l x.1 : Nat) : Int)), (Th.shownA l (-1) 0).map (fun x => x.2), 0, 0) := by
      rw [ordQ, if_neg (by simpa using hr), hs, List.map_map, List.map_map]
      rfl
    refine ⟨(Th.shownA l (-1) 0).map (fun x => (x.1 : Int)), (Th.shownA l (-1) 0).map (fun x => ((rvN l x.1 : Nat) : Int)), (Th.shownA l (-1) 0).map (fun x => x.2), by rw [ordQ, if_neg (by simpa using h)], e2, by rw [List.length_map, hl], by rw [List.length_map, hl], short_of h, fun k h1 h2 => ?_⟩
    have hk : k < (Th.shownA l (-1) 0).length := by simpa using h1
    have := (hlt _ (List.getElem_mem hk)).1
    simp only [List.getElem_map, rvN]
    omega
  · left
    have hr : (Th.lettersF l.reverse).1 ≠ 0 := fun e => h ((lettersF_rev l).1 e)
    exact ⟨_, _, _, _, h, hr, by rw [ordQ, if_pos h], by rw [ordQ, if_pos hr]⟩
set_option maxRecDepth 100000 in
set_option maxHeartbeats 8000000 in
theorem tarrive_walk (v : Value) (l : List Letter) (w : World) (h : SlR letterC M0 w v l) (hsz : l.length * 48 ≤ 140737488355328) :
    Calls Try.prog 4 #[v] w fun e w' => e = .returned (.bool true) ∧ Below w.heap.size w w' := by
  obtain ⟨A, c, rfl, _, _⟩ := h.form
  obtain ⟨hl1, hl2⟩ := h.lenM
  have hn1 : IntKind.i64.wrap ((l.length : Int) - 1) = (l.length : Int) - 1 := IntWalk.i64_in _ (by omega)
  go_enter Try.func4, Try.ntmps4
  go_wp2_with fail
  refine (texample_ok _).mono ?_
  rintro e w1 ⟨rfl, hb1⟩
  have h := h.ext hb1
  have hB := h.toMB
  have hbw := hb1
  have hsz1 := hb1.size
  have hr1 := Below.refl w1.heap.size w1
  clear hb1
  go_wp2_with fail
  go_loopw [3, 4] (fun mv iv wr => ∃ (k : Nat) (x : Int) (A3 : Option Addr) (c3 : Nat) (L : List Letter), x + 1 + k = l.length ∧ -1 ≤ x ∧ iv = .int .i64 x ∧ mv = .slice A3 L.length c3 ∧ Hid (L = l.reverse.take k) ∧ Own letterC M0 wr w1.heap.size 39 (.slice A3 L.length c3) L ∧ Below w1.heap.size w1 wr) (fun _ iv _ => (intOf iv + 1).toNat)
  case atStart => exact ⟨0, (l.length : Int) - 1, none, 0, [], by omega, by omega, rfl, rfl, Lib.hid (by simp), Own.nil _ _ _ _ _, hr1⟩
  case round =>
    obtain ⟨k, x, A3, c3, L, hx, hx0, rfl, rfl, hL, own, hbr⟩ := hrel
    have hLl : L.length = k := by rw [hL.out, List.length_take, List.length_reverse]; omega
    by_cases hlt : 0 ≤ x
    · obtain ⟨j, rfl⟩ := Int.eq_ofNat_of_zero_le hlt
      have hj : j < l.length := by omega
      have hBr := hB.ext hbr
      obtain ⟨b, off, A2, c2, rfl, _, _, p0, p1, p2, hl3, hrf, hl4, hl5⟩ := hBr.letterAt hj
      have hrd : letterC.rd (fun b => M0 b ∨ (Value.slice A3 L.length c3).ownBlock = some b) wr [.string (bs l[j].1), .slice A2 l[j].2.1.length c2, .int .i64 l[j].2.2] l[j] :=
        letter_rd hl3 (hrf.sub fun b _ hor => hor.elim (fun h => h.elim) fun h => .inr (own.base b h)) hl4 hl5
      have hLs : Hid (L ++ [l[j]] = l.reverse.take (k + 1)) := Lib.hid (by rw [hL.out, rev_take hj (by omega)])
      obtain ⟨y, hy⟩ : ∃ y, l[j] = y := ⟨_, rfl⟩
      rw [hy] at p0 p1 p2 hrd hLs
      obtain ⟨yi, yr, yt⟩ := y
      dsimp only at p0 p1 p2 hrd
      have hil : (j : Int) < (l.length : Int) := by omega
      have hiw : IntKind.i64.wrap (j : Int) = (j : Int) := IntWalk.i64_in _ (by omega)
      have hjw : IntKind.i64.wrap ((j : Int) - 1) = (j : Int) - 1 := IntWalk.i64_in _ (by omega)
      have hbs := hbr.size
      clear hl3 hrf hl4 hl5 hy hBr
      go_wp2_with (at_builtin; refine wpList_push_Own letterC (M := M0) (B := w1.heap.size) TLetters rfl (.tmp 21) (.tmp 26) rfl rfl own rfl (cs := [.string (bs yi), .slice A2 yr.length c2, .int .i64 yt]) (y := (yi, yr, yt)) hrd (fun _ h => h.elim) ?a1 ?b1 hbs ?_)
      all_goals first | (simp only [maxLen]; omega) | omega | skip
      intro A4 c4 L4 w4 hL4 own4 hb4 _ _
      have hb14 := hbr.trans hb4
      clear p0 p1 p2 hrd own hbr hb4 hbs
      go_wp2
      go_roundw
      case rel => exact ⟨k + 1, (j : Int) - 1, A4, c4, L4, by omega, by omega, by go_num, rfl, Lib.hid (by rw [hL4.out, hLs.out]), own4, hb14⟩
      case measure => simp [intOf]
    · obtain rfl : x = -1 := by omega
      have hLr : L = l.reverse := by rw [hL.out, List.take_of_length_le (by rw [List.length_reverse]; omega)]
      have h := h.ext hbr
      have hbw := hbw.trans (hbr.mono hsz1)
      obtain ⟨g1, g2, f1, f2, O1, O2, D, D2, hO1, hO2, hQ⟩ : ∃ g1 g2 f1 f2 O1 O2 D D2, ordQ l = (O1, D, g1, g2) ∧ ordQ L = (O2, D2, f1, f2) ∧ ((g1 ≠ 0 ∧ f1 ≠ 0) ∨ (g1 = 0 ∧ f1 = 0 ∧ D2 = D ∧ O1.length = l.length ∧ O2.length = l.length ∧ l.length ≤ 300 ∧ ∀ (k : Nat) (h1 : k < O1.length) (h2 : k < O2.length), 0 ≤ O1[k] ∧ O1[k] < l.length ∧ O2[k] = (l.length : Int) - 1 - O1[k])) := by
        rw [hLr]
        rcases both_ways l with ⟨g1, g2, f1, f2, h1, h2, h3, h4⟩ | ⟨O1, O2, D, h1, h2, h3⟩
        · exact ⟨g1, g2, f1, f2, _, _, _, _, h3, h4, .inl ⟨h1, h2⟩⟩
        · exact ⟨0, 0, 0, 0, O1, O2, D, D, h1, h2, .inr ⟨rfl, rfl, rfl, h3⟩⟩
      have own := own.read0
      have ho1 := fun W (hb : Below wr.heap.size wr W) => torder_ok _ l W (h.ext hb)
      have ho2 := fun W (hb : Below wr.heap.size wr W) => torder_ok _ L W (own.ext hb)
      rw [hO1] at ho1
      rw [hO2] at ho2
      have HO1 := Lib.hid ho1; have HO2 := Lib.hid ho2; have HQ := Lib.hid hQ
      have hbr := Below.refl wr.heap.size wr
      clear ho1 ho2 hQ hO1 hO2 hLr hL hLl hx hx0 hlt hB own hr1 h
      go_wp2_with fail
      refine (HO1.out _ hbr).mono ?_
      rintro e w2 ⟨vo, vd, rfl, ho, hd, hq1⟩
      dsimp only at ho hd ⊢
      obtain ⟨Ao, co, rfl, _, _⟩ := ho.form
      obtain ⟨Ad, cd, rfl, _, _⟩ := hd.form
      have ha1 := (Below.refl w2.heap.size w2).alloc (Nat.le_refl _) (.cells #[.int .i64 g1, .int .i64 g2] 25)
      have hc1 := below2 hq1 ha1
      replace hbr := hbr.trans (hc1.mono hbr.size)
      have k2 := Blk.new w2 25 #[.int .i64 g1, .int .i64 g2]
      clear hq1 hc1
      replace ho := ho.ext ha1
      replace hd := hd.ext ha1
      go_wp2_with fail
      refine (HO2.out _ hbr).mono ?_
      rintro e w3 ⟨vo, vd, rfl, hu, hf, hq2⟩
      dsimp only at hu hf ⊢
      obtain ⟨Au, cu, rfl, _, _⟩ := hu.form
      obtain ⟨Af, cf, rfl, _, _⟩ := hf.form
      have ha2 := (Below.refl w3.heap.size w3).alloc (Nat.le_refl _) (.cells #[.int .i64 f1, .int .i64 f2] 25)
      have hc2 := below2 hq2 ha2
      replace k2 := k2.ext hc2
      replace ho := ho.ext hc2
      replace hd := hd.ext hc2
      replace hbr := hbr.trans (hc2.mono hbr.size)
      have k3 := Blk.new w3 25 #[.int .i64 f1, .int .i64 f2]
      clear hq2 hc2
      replace hu := hu.ext ha2
      replace hf := hf.ext ha2
      replace hbw := hbw.trans (hbr.mono hbw.size)
      clear hbr HO1 HO2 ha1 ha2
      obtain ⟨p0, p1, _, _, _⟩ := k2.two
      obtain ⟨q0, q1, _, _, _⟩ := k3.two
      rcases HQ.out with ⟨h1, h2⟩ | ⟨h1, h2, h3, hl1, hl2, hl3, hk⟩
      · have e1 : (g1 != 0) = true := by simpa using h1
        have e2 : (f1 != 0) = true := by simpa using h2
        have e3 : (g1 == 0) = false := by simpa using h1
        have e4 : (f1 == 0) = false := by simpa using h2
        clear h1 h2 HQ
        go_wp2
        go_ret
        exact ⟨rfl, hbw⟩
      · subst h1 h2 h3
        obtain ⟨W, hW⟩ : ∃ W, W = w3.alloc (.cells #[.int .i64 0, .int .i64 f2] 25) := ⟨_, rfl⟩
        rw [← hW] at ho hd hu hf hbw p0 p1 q0 q1
        have hi := ints_ok _ _ D2 D2 W hd hf
        rw [beq_self_eq_true] at hi
        rw [hl1] at ho ⊢
        rw [hl2] at hu ⊢
        have Hi := Lib.hid hi; have Hk := Lib.hid hk
        rw [hW] at p0 p1 q0 q1
        have HW := Lib.hid hW
        clear hi hk HQ k2 k3 hd hf hW
        go_wp2_with fail
        rw [← HW.out]
        refine Hi.out.mono ?_
        rintro e w8 ⟨rfl, hb8⟩
        have ho := ho.ext hb8
        have hu := hu.ext hb8
        have hbw := hbw.trans (hb8.mono hbw.size)
        clear p0 p1 q0 q1 Hi hb8 HW
        go_wp2_with fail
        go_loopw [11] (fun iv wr => ∃ k : Nat, k ≤ l.length ∧ iv = .int .i64 (k : Int) ∧ Below w8.heap.size w8 wr) (fun iv _ => l.length - (intOf iv).toNat)
        case atStart => exact ⟨0, Nat.zero_le _, rfl, Below.refl _ _⟩
        case round =>
          obtain ⟨k, hk, rfl, hbr⟩ := hrel
          have ho := ho.ext hbr
          have hu := hu.ext hbr
          by_cases hlt : k < l.length
          · obtain ⟨b, off, rfl, _, _, p0, _, _⟩ := ho.intAt (k := k) (by omega)
            obtain ⟨b2, off2, rfl, _, _, q0, _, _⟩ := hu.intAt (k := k) (by omega)
            obtain ⟨h1, h2, h3⟩ := Hk.out k (by omega) (by omega)
            rw [h3] at q0
            obtain ⟨z, hz⟩ : ∃ z, O1[k] = z := ⟨_, rfl⟩
            rw [hz] at p0 q0 h1 h2
            have hil : (k : Int) < (l.length : Int) := by omega
            have hi0 : (0 : Int) ≤ (k : Int) := by omega
            have hiw : IntKind.i64.wrap (k : Int) = (k : Int) := IntWalk.i64_in _ (by omega)
            have hzw : IntKind.i64.wrap ((l.length : Int) - 1 - z) = (l.length : Int) - 1 - z := IntWalk.i64_in _ (by omega)
            have hin := fun W => in_ok z 0 ((l.length : Int) - 1) W
            rw [show (decide (0 ≤ z) && decide (z ≤ (l.length : Int) - 1)) = true by rw [decide_eq_true h1, decide_eq_true (by omega)]; rfl] at hin
            have hSS : ∀ W, Below wr.heap.size wr W → W.cell? ⟨b, off + k, none⟩ = some (.int .i64 z) ∧ W.cell? ⟨b2, off2 + k, none⟩ = some (.int .i64 ((l.length : Int) - 1 - z)) := fun W hW => ⟨cell_ext hW p0, cell_ext hW q0⟩
            have hS0 := hSS _ (below_drewN' wr.heap.size wr 1)
            have Hin := Lib.hid hin
            clear hSS hin p0 q0 h1 h2 h3 hz
            go_wp2_with fail
            go_region_held3 (fun W => W.cell? ⟨b, off + k, none⟩ = some (.int .i64 z) ∧ W.cell? ⟨b2, off2 + k, none⟩ = some (.int .i64 ((l.length : Int) - 1 - z))) (first | exact hS0) ((go_at_call 15; refine (Hin.out _).mono ?_; rintro e w9 ⟨rfl, rfl⟩))
            clear hS0 Hin
            have hbr9 := below_drew hbr
            clear hbr ho hu
            go_wp2
            go_roundw
            case rel => exact ⟨k + 1, by omega, by go_num, hbr9⟩
            case measure => simp [intOf]; omega
          · obtain rfl : k = l.length := by omega
            have hbw := hbw.trans (hbr.mono hbw.size)
            clear ho hu hbr hlt
            go_wp2
            go_ret
            exact ⟨rfl, hbw⟩
end Go.Proofs.Ytclobnojpmgmaaa
