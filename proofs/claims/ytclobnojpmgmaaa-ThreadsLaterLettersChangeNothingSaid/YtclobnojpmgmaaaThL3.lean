/-
  ThreadsAnswersFollow: the law's walk.
-/
import Derived.Test.YtclobnojpmgmaaaThL1
import Derived.Test.YtclobnojpmgmaaaThQ3
import Derived.Test.YtclobnojpmgmaaaIn
namespace Go.Proofs.Ytclobnojpmgmaaa
open Go.RowKit
set_option linter.unusedVariables false
theorem own_int {w : World} {B g n c : Nat} {e : TypeId} {L : List Int} (h : Own intC M0 w B e (.slice (some ⟨g, 0, none⟩) n c) L) {k : Nat} (hk : k < L.length) : w.cell? ⟨g, k, none⟩ = some (.int .i64 L[k]) ∧ w.frozen? ⟨g, k, none⟩ = false ∧ B ≤ g := by
  obtain ⟨g', c', cur, hv, _, _, hBg, hblk, _⟩ := h.blk (by omega)
  injection hv with hv1 hv2 hv3
  injection hv1 with hv1
  injection hv1 with hv1 hv4
  subst hv1
  obtain ⟨_, _, he, _, _, hc, _⟩ := h.read0.intAt hk
  injection he with he
  injection he with he1 he2
  subst he1 he2
  rw [Nat.zero_add] at hc
  exact ⟨hc, hblk.frozen k, hBg⟩
set_option maxRecDepth 100000 in
set_option maxHeartbeats 8000000 in
theorem tfollow_walk (v : Value) (l : List Letter) (w : World) (h : SlR letterC M0 w v l) :
    Calls Try.prog 5 #[v] w fun e w' => e = .returned (.bool true) ∧ Below w.heap.size w w' := by
  obtain ⟨A, c, rfl, _, _⟩ := h.form
  obtain ⟨P, O, D, g1, g2, hP, hO, hQ⟩ : ∃ P O D g1 g2, parQ l = (P, g1, g2) ∧ ordQ l = (O, D, g1, g2) ∧ ((g1 ≠ 0) ∨ (g1 = 0 ∧ (Th.lettersF l).1 = 0 ∧ P = Th.parentsF l ∧ O = (Th.shownA l (-1) 0).map (fun x => (x.1 : Int)) ∧ D = (Th.shownA l (-1) 0).map (fun x => x.2))) := by
    rcases answers l with ⟨g1, g2, h1, h2, h3, h4⟩ | ⟨h2, h3, h4⟩
    · exact ⟨_, _, _, g1, g2, h3, h4, .inl h1⟩
    · exact ⟨_, _, _, 0, 0, h3, h4, .inr ⟨rfl, by rw [h2], rfl, rfl, rfl⟩⟩
  have hpar := fun W (hb : Below w.heap.size w W) => tparents_ok _ l W (h.ext hb)
  have hord := fun W (hb : Below w.heap.size w W) => torder_ok _ l W (h.ext hb)
  rw [hP] at hpar
  rw [hO] at hord
  have Hpar := Lib.hid hpar; have Hord := Lib.hid hord; have HQ := Lib.hid hQ
  clear hpar hord hP hO hQ
  have hbw := Below.refl w.heap.size w
  go_enter Try.func5, Try.ntmps5
  go_wp2_with fail
  refine (texample_ok _).mono ?_
  rintro e w0 ⟨rfl, hq1⟩
  replace hbw := hbw.trans (hq1.mono hbw.size)
  clear hq1
  go_wp2_with fail
  refine (Hpar.out _ hbw).mono ?_
  rintro e w1 ⟨vp, rfl, hp, hq2⟩
  dsimp only
  obtain ⟨Ap, cp, rfl, _, _⟩ := hp.form
  have ha2 := (Below.refl w1.heap.size w1).alloc (Nat.le_refl _) (.cells #[.int .i64 g1, .int .i64 g2] 25)
  have hc2 := below2 hq2 ha2
  replace hbw := hbw.trans (hc2.mono hbw.size)
  have k1 := Blk.new w1 25 #[.int .i64 g1, .int .i64 g2]
  clear hq2 hc2
  replace hp := hp.ext ha2
  go_wp2_with fail
  refine (Hord.out _ hbw).mono ?_
  rintro e w2 ⟨vo, vd, rfl, ho, hd, hq3⟩
  dsimp only
  obtain ⟨Ao, co, rfl, _, _⟩ := ho.form
  obtain ⟨Ad, cd, rfl, _, _⟩ := hd.form
  have ha3 := (Below.refl w2.heap.size w2).alloc (Nat.le_refl _) (.cells #[.int .i64 g1, .int .i64 g2] 25)
  have hc3 := below2 hq3 ha3
  replace k1 := k1.ext hc3
  replace hp := hp.ext hc3
  replace hbw := hbw.trans (hc3.mono hbw.size)
  have k2 := Blk.new w2 25 #[.int .i64 g1, .int .i64 g2]
  clear hq3 hc3
  replace ho := ho.ext ha3
  replace hd := hd.ext ha3
  clear ha2 ha3 Hpar Hord
  obtain ⟨p0, p1, _, _, _⟩ := k1.two
  obtain ⟨q0, q1, _, _, _⟩ := k2.two
  rcases HQ.out with hg | ⟨hg, hLc, hP, hO, hD⟩
  · have hgb : (g1 != 0) = true := by simpa using hg
    clear hg HQ
    go_wp2
    go_ret
    exact ⟨rfl, hbw⟩
  · subst hg
    have hn := short_of hLc
    have hd9 := distinct_of hLc
    have hPl : P.length = l.length := by rw [hP]; simp [Th.parentsF]
    have hOl : O.length = l.length := by rw [hO, List.length_map, shown_len hd9]
    have hDl : D.length = l.length := by rw [hD, List.length_map, shown_len hd9]
    have hpk : ∀ k (hk : k < P.length) (hk' : k < l.length), P[k] = Th.parentOf l l[k] := fun k hk hk' => by subst hP; simp [Th.parentsF]
    obtain ⟨xs, hxs⟩ : ∃ xs, xs = Th.shownA l (-1) 0 := ⟨_, rfl⟩
    have hxl : xs.length = l.length := by rw [hxs, shown_len hd9]
    rw [← hxs] at hO hD
    have hok : ∀ k (hk : k < O.length) (hk' : k < xs.length), O[k] = (xs[k].1 : Int) := fun k hk hk' => by subst hO; simp
    have hdk : ∀ k (hk : k < D.length) (hk' : k < xs.length), D[k] = xs[k].2 := fun k hk hk' => by subst hD; simp
    have hr := fun i hi L hL => answers_round hd9 hxs (i := i) hi (L := L) hL
    have hat0 := atL_start l xs
    have hat1 := fun i L (h : AtL l xs i L) hi => atL_succ (i := i) h hi
    have Hpk := Lib.hid hpk; have Hok := Lib.hid hok; have Hdk := Lib.hid hdk; have Hr := Lib.hid hr; have Hat0 := Lib.hid hat0; have Hat1 := Lib.hid hat1; have Hxl := Lib.hid hxl
    have Hl := Lib.hid (And.intro hPl (And.intro hOl hDl))
    rw [hPl] at hp ⊢
    rw [hOl] at ho ⊢
    rw [hDl] at hd ⊢
    clear hpk hok hdk hr hat0 hat1 hxl hO hD hP hxs hd9 hPl hOl hDl HQ hLc h
    obtain ⟨W, hW⟩ : ∃ W, W = w2.alloc (.cells #[.int .i64 0, .int .i64 g2] 25) := ⟨_, rfl⟩
    rw [← hW] at hp ho hd hbw p0 p1 q0 q1
    obtain ⟨wm, hmk, hown, hbm, _⟩ := make_ints W.heap.size l.length W (by omega) (Nat.le_refl _)
    obtain ⟨g, hg⟩ : ∃ g, g = W.heap.size := ⟨_, rfl⟩
    rw [← hg] at hmk
    rw [show (Value.slice (some ⟨W.heap.size, 0, none⟩) l.length l.length) = .slice (some ⟨g, 0, none⟩) l.length l.length by rw [hg]] at hown
    have hwW := hbw.size
    have hgW : W.heap.size ≤ g := by omega
    rw [hW] at p0 p1 q0 q1 hmk
    clear k1 k2 hg hW
    go_wp2
    clear hmk p0 p1 q0 q1
    go_loopw [9] (fun iv wr => ∃ (k : Nat) (L : List Int), k ≤ l.length ∧ iv = .int .i64 (k : Int) ∧ Hid (L.length = l.length ∧ ∀ (j : Nat) (hj : j < L.length), j < k → L[j] = -1) ∧ Own intC M0 wr W.heap.size 3 (.slice (some ⟨g, 0, none⟩) l.length l.length) L ∧ Below W.heap.size W wr) (fun iv _ => l.length - (intOf iv).toNat)
    case atStart => exact ⟨0, _, Nat.zero_le _, rfl, Lib.hid ⟨by simp, fun j _ h => absurd h (by omega)⟩, hown, hbm⟩
    case round =>
      obtain ⟨k, L, hk, rfl, hL, own, hbr⟩ := hrel
      clear hown hbm
      by_cases hlt : k < l.length
      · obtain ⟨c9, z9, _⟩ := own_int own (k := k) (by rw [hL.out.1]; exact hlt)
        have hput := own.put1 rfl (k := k) (by rw [hL.out.1]; exact hlt) (u := .int .i64 (-1)) (a := -1) ⟨rfl, by omega, by omega⟩
        have hset := hbr.setCell (p := ⟨g, k, none⟩) hgW (.int .i64 (-1))
        have hL2 : Hid ((L.set k (-1)).length = l.length ∧ ∀ (j : Nat) (hj : j < (L.set k (-1)).length), j < k + 1 → (L.set k (-1))[j] = -1) := Lib.hid ⟨by rw [List.length_set]; exact hL.out.1, fun j hj hjk => by
          rw [List.length_set] at hj
          rw [List.getElem_set]
          split
          · rfl
          · exact hL.out.2 j hj (by omega)⟩
        have hil : (k : Int) < (l.length : Int) := by omega
        have hi0 : (0 : Int) ≤ (k : Int) := by omega
        have hiw : IntKind.i64.wrap (k : Int) = (k : Int) := IntWalk.i64_in _ (by omega)
        clear own hbr
        go_wp2
        go_roundw
        case rel => exact ⟨k + 1, _, by omega, by go_num, hL2, hput, hset⟩
        case measure => simp [intOf]; omega
      · obtain rfl : k = l.length := by omega
        have hLr : L = List.replicate l.length (-1) := List.ext_getElem (by simp [hL.out.1]) fun j h1 h2 => by rw [hL.out.2 j h1 (by rw [← hL.out.1]; exact h1), List.getElem_replicate]
        have hat : Hid (AtL l xs 0 L) := Lib.hid (by rw [hLr]; exact Hat0.out)
        clear hL hLr hlt
        go_wp2
        go_loopw [10] (fun iv wr => ∃ (k : Nat) (L : List Int), k ≤ l.length ∧ iv = .int .i64 (k : Int) ∧ Hid (AtL l xs k L) ∧ Own intC M0 wr W.heap.size 3 (.slice (some ⟨g, 0, none⟩) l.length l.length) L ∧ Below W.heap.size W wr) (fun iv _ => l.length - (intOf iv).toNat)
        case atStart => exact ⟨0, _, Nat.zero_le _, rfl, hat, own, hbr⟩
        case round =>
          clear own hbr hat
          obtain ⟨k, L, hk, rfl, hat, own, hbr⟩ := hrel
          by_cases hlt : k < l.length
          · have hkx : k < xs.length := by rw [Hxl.out]; exact hlt
            obtain ⟨ho9, hoL, hLm, hcase⟩ := Hr.out k hkx L hat.out
            have hat2 := Lib.hid (Hat1.out k L hat.out hkx)
            have o1 := Hok.out k (by rw [Hl.out.2.1]; exact hlt) hkx
            have d1 := Hdk.out k (by rw [Hl.out.2.2]; exact hlt) hkx
            have p1 := Hpk.out xs[k].1 (by rw [Hl.out.1]; exact ho9) ho9
            have hd9 := fun m hm => Hdk.out m (by rw [Hl.out.2.2, ← Hxl.out]; exact hm) hm
            obtain ⟨ao, oo, rfl, _, _, co1, _, _⟩ := (ho.ext hbr).intAt (k := k) (by rw [Hl.out.2.1]; exact hlt)
            have hcd := fun m hm => (hd.ext hbr).intAt (k := m) hm
            obtain ⟨ad, od, rfl, _, _, cd1, dl1, dl2⟩ := hcd k (by rw [Hl.out.2.2]; exact hlt)
            obtain ⟨ap, op, rfl, _, _, cp1, _, _⟩ := (hp.ext hbr).intAt (k := xs[k].1) (by rw [Hl.out.1]; exact ho9)
            obtain ⟨ca1, za1, _⟩ := own_int own hoL
            have hown := own
            rw [o1] at co1
            rw [d1] at cd1 dl1 dl2
            rw [p1] at cp1
            rw [hLm] at ca1
            obtain ⟨xo, hxo⟩ : ∃ x, xs[k].1 = x := ⟨_, rfl⟩
            obtain ⟨dk, hdk⟩ : ∃ x, xs[k].2 = x := ⟨_, rfl⟩
            obtain ⟨q, hq⟩ : ∃ q, Th.parentOf l (l[xs[k].1]'ho9) = q := ⟨_, rfl⟩
            rw [hq] at hcase cp1
            rw [hdk] at cd1 dl1 dl2 hcase
            rw [hxo] at co1 cp1 ca1 za1 hoL hat2 ho9
            have hil : (k : Int) < (l.length : Int) := by omega
            have hi0 : (0 : Int) ≤ (k : Int) := by omega
            have hiw : IntKind.i64.wrap (k : Int) = (k : Int) := IntWalk.i64_in _ (by omega)
            have hol : (xo : Int) < (l.length : Int) := by omega
            have ho0 : (0 : Int) ≤ (xo : Int) := by omega
            have how : IntKind.i64.wrap (xo : Int) = (xo : Int) := IntWalk.i64_in _ (by omega)
            have hnw : IntKind.i64.wrap ((l.length : Int) - 1) = (l.length : Int) - 1 := IntWalk.i64_in _ (by omega)
            have hin := fun W => in_ok (xo : Int) 0 ((l.length : Int) - 1) W
            rw [show (decide (0 ≤ (xo : Int)) && decide ((xo : Int) ≤ (l.length : Int) - 1)) = true by rw [decide_eq_true ho0, decide_eq_true (by omega)]; rfl] at hin
            have Hin := Lib.hid hin
            have Hown := Lib.hid hown; have HoL := Lib.hid hoL
            clear hin o1 d1 p1 hLm hoL hown hq hdk hxo
            rcases hcase with ⟨rfl, rfl⟩ | ⟨kk, m, hkl, hkL, hmx, rfl, hLk, rfl⟩
            · clear hcd hd9 own
              go_wp2_with fail
              refine (Hin.out _).mono ?_
              rintro e w9 ⟨rfl, rfl⟩
              go_wp2_with fail
              go_quiet (fail)
              have hb9 := below_drewN' wr.heap.size wr nq
              generalize wr.drewN nq = w9 at hb9 ⊢
              have own := Hown.out.ext hb9
              have hbr := hbr.trans (hb9.mono hbr.size)
              have co1 := cell_ext hb9 co1
              obtain ⟨ca1, za1, _⟩ := own_int own HoL.out
              have hput := own.put1 rfl (k := xo) HoL.out (u := .int .i64 (k : Int)) (a := (k : Int)) ⟨rfl, by omega, by omega⟩
              have hset := hbr.setCell (p := ⟨g, xo, none⟩) hgW (.int .i64 (k : Int))
              clear hb9 own cp1 cd1 hbr Hown
              go_wp2
              go_roundw
              case rel => exact ⟨k + 1, _, by omega, by go_num, hat2, hput, hset⟩
              case measure => simp [intOf]; omega
            · obtain ⟨ca2, _, _⟩ := own_int own hkL
              rw [hLk] at ca2
              have hmn : m < l.length := by rw [← Hxl.out]; exact hmx
              obtain ⟨ad2, od2, hA, _, _, cd2, _, _⟩ := hcd m (by rw [Hl.out.2.2]; exact hmn)
              injection hA with hA
              injection hA with hA1 hA2
              subst hA1 hA2
              rw [hd9 m hmx] at cd2
              obtain ⟨dm, hdm⟩ : ∃ x, xs[m].2 = x := ⟨_, rfl⟩
              rw [hdm] at cd1 cd2 dl1 dl2
              have hkl' : (kk : Int) < (l.length : Int) := by omega
              have hk0 : (0 : Int) ≤ (kk : Int) := by omega
              have hkw : IntKind.i64.wrap (kk : Int) = (kk : Int) := IntWalk.i64_in _ (by omega)
              have hml' : (m : Int) < (l.length : Int) := by omega
              have hm0 : (0 : Int) ≤ (m : Int) := by omega
              have hmw : IntKind.i64.wrap (m : Int) = (m : Int) := IntWalk.i64_in _ (by omega)
              have hkge : ((l.length : Int) ≤ (kk : Int)) = False := by simp; omega
              have hkn : ((kk : Int) < 0) = False := by simp
              have hmn' : ((m : Int) < 0) = False := by simp
              have hdw : IntKind.i64.wrap (dm + 1) = dm + 1 := IntWalk.i64_in _ (by omega)
              clear hcd hd9 hdm hLk hkL hmx own
              go_wp2_with fail
              refine (Hin.out _).mono ?_
              rintro e w9 ⟨rfl, rfl⟩
              go_wp2_with fail
              go_quiet (fail)
              have hb9 := below_drewN' wr.heap.size wr nq
              generalize wr.drewN nq = w9 at hb9 ⊢
              have own := Hown.out.ext hb9
              have hbr := hbr.trans (hb9.mono hbr.size)
              have co1 := cell_ext hb9 co1
              obtain ⟨ca1, za1, _⟩ := own_int own HoL.out
              have hput := own.put1 rfl (k := xo) HoL.out (u := .int .i64 (k : Int)) (a := (k : Int)) ⟨rfl, by omega, by omega⟩
              have hset := hbr.setCell (p := ⟨g, xo, none⟩) hgW (.int .i64 (k : Int))
              clear hb9 own cp1 cd1 cd2 ca2 hbr Hown
              go_wp2
              go_roundw
              case rel => exact ⟨k + 1, _, by omega, by go_num, hat2, hput, hset⟩
              case measure => simp [intOf]; omega
          · obtain rfl : k = l.length := by omega
            have hbw := hbw.trans (hbr.mono hwW)
            clear hat own hbr hlt ho hd hp
            go_wp2
            go_ret
            exact ⟨rfl, hbw⟩
end Go.Proofs.Ytclobnojpmgmaaa
