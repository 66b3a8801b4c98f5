/-
  The law's added, where it answers true.
-/
import Derived.Test.YtfjpedgddgbelaaGreatDoorIxFt
import Derived.Test.YtfjpedgddgbelaaGreatDoorG22
import Derived.Test.YtfjpedgddgbelaaGreatDoorG10
namespace Go.Proofs.YtfjpedgddgbelaaGreatDoor
open Go.RowKit
set_option linter.unusedVariables false
theorem othersF_take (id : Int) (ps : List Ix.Post) {k : Nat} (hk : k < ps.length) : Ix.othersF id (ps.take (k + 1)) = Ix.othersF id (ps.take k) ++ if ps[k].1 = id then [] else [ps[k]] := by
  unfold Ix.othersF
  rw [List.take_succ_eq_append_getElem hk, List.filter_append]
  congr 1
  by_cases h : ps[k].1 = id
  · simp [h]
  · simp [h]
theorem mineF_take (id : Int) (ps : List Ix.Post) {k : Nat} (hk : k < ps.length) : Ix.mineF id (ps.take (k + 1)) = if ps[k].1 = id then ps[k].2 else Ix.mineF id (ps.take k) := by
  unfold Ix.mineF
  rw [List.take_succ_eq_append_getElem hk, List.foldl_append]
  rfl
theorem othersF_len (id : Int) (ps : List Ix.Post) (k : Nat) : (Ix.othersF id (ps.take k)).length ≤ k := by
  unfold Ix.othersF
  refine Nat.le_trans (List.length_filter_le _ _) ?_
  rw [List.length_take]
  omega
set_option maxRecDepth 100000 in
set_option maxHeartbeats 4000000 in
theorem added_ok (u v u' v' : Value) (x a : Ix.Idx) (id : Int) (text : Str) (w : World) (h0 : SlR intC M0 w u x.1) (h1 : SlR termC M0 w v x.2) (k0 : SlR intC M0 w u' a.1) (k1 : SlR termC M0 w v' a.2) (hpo : ∀ t ∈ a.2, t.2.length ≤ 1000000) (htx : text.length ≤ 4000) (hT : TabsU w)
    (hgood : Ix.addedF x a id (Sm.stems text) = true) :
    Calls Tryz.prog 29 #[.agg #[u, v], .agg #[u', v'], .int .i64 id, .string (bs text)] w fun e w' => e = .returned (.bool true) ∧ Below w.heap.size w w' := by
  obtain ⟨A0, c0, rfl, _, _⟩ := h0.form
  obtain ⟨A1, c1, rfl, _, _⟩ := h1.form
  obtain ⟨B0, d0, rfl, _, _⟩ := k0.form
  obtain ⟨B1, d1, rfl, _, _⟩ := k1.form
  obtain ⟨hx1, hx2⟩ := h1.lenM
  obtain ⟨hx3, hx4⟩ := h0.lenM
  obtain ⟨ha1, ha2⟩ := k1.lenM
  obtain ⟨ha3, ha4⟩ := k0.lenM
  obtain ⟨S0, hS0⟩ : ∃ S, S = Sm.stems text := ⟨_, rfl⟩
  rw [← hS0] at hgood
  unfold Ix.addedF at hgood
  simp only [Bool.and_eq_true, decide_eq_true_eq, List.all_eq_true, beq_iff_eq, Bool.not_eq_true', beq_eq_false_iff_ne] at hgood
  obtain ⟨⟨⟨⟨⟨g1, g2⟩, g3⟩, g4⟩, g5⟩, g6⟩ := hgood
  have G := Lib.hid (And.intro g4 (And.intro g5 g6))
  have HSz := Lib.hid hS0
  obtain ⟨w1, gx, ga, hW, hgx, hga, hs1, kx, ka, hal⟩ := box2 w #[.slice A0 x.1.length c0, .slice A1 x.2.length c1] 25 #[.slice B0 a.1.length d0, .slice B1 a.2.length d1] 25
  have HH := Lib.hid (And.intro h0 (And.intro h1 (And.intro k0 (And.intro k1 hT)))); have HW := Lib.hid (And.intro hW (And.intro hgx (And.intro hga hs1)))
  have Hkx := Lib.hid kx; have Hka := Lib.hid ka; have Hal := Lib.hid hal
  have hst := refStems_ok text (by omega) w1 (hT.ext hal)
  have Hst := Lib.hid hst
  have hln : ((a.1.length : Int) != (x.1.length : Int) + 1) = false := by rw [bne, beq_iff_eq.2 (show (a.1.length : Int) = (x.1.length : Int) + 1 by omega)]; rfl
  have hlw : IntKind.i64.wrap ((x.1.length : Int) + 1) = (x.1.length : Int) + 1 := IntWalk.i64_in _ (by omega)
  have hsz : SzIx a.2 := fun t ht => by have := hpo t ht; omega
  have hrc := run_code
  have Hg2 := Lib.hid (And.intro g2 (And.intro (Ix.indexF_zero2 g3) hsz))
  clear h0 h1 k0 k1 hW hgx hga hs1 kx ka hal hT hst g1 g2 g3 g4 g5 g6 hS0 hsz
  go_enter Tryz.func29, Tryz.ntmps29
  go_wp2_with fail
  rw [HW.out.1, HW.out.2.1, HW.out.2.2.1]
  refine Hst.out.mono ?_
  rintro e w2 ⟨As, cs, S, rfl, hS9, ownS, hb2⟩
  have hSS : S = S0 := by rw [hS9.out, HSz.out]
  subst hSS
  have hSl : S.length ≤ 4000 := by rw [hS9.out]; exact Nat.le_trans (stems_count text) htx
  have kx := Hkx.out.ext hb2; have ka := Hka.out.ext hb2; have hbw := Hal.out.trans (hb2.mono Hal.out.size)
  have rS := ownS.read0
  clear Hst Hkx Hka Hal hb2 ownS
  obtain ⟨x0, x1, _, _, _⟩ := kx.two
  obtain ⟨y0, y1, _, _, _⟩ := ka.two
  have hha := refHas_ok M0 (.slice B0 a.1.length d0) a.1 id w2 (HH.out.2.2.1.ext hbw)
  rw [Hg2.out.1] at hha
  have hft := indexFault_ok (.slice B0 a.1.length d0) (.slice B1 a.2.length d1) a.1 a.2 w2 (HH.out.2.2.1.ext hbw) (HH.out.2.2.2.1.ext hbw) Hg2.out.2.2
  rw [show Ix.indexF (a.1, a.2) = (0, 0) from Hg2.out.2.1] at hft
  have Hha := Lib.hid hha; have Hft := Lib.hid hft
  clear hha hft
  go_wp2_with fail
  refine Hha.out.mono ?_
  rintro e w3 ⟨rfl, rfl⟩
  go_wp2_with fail
  refine Hft.out.mono ?_
  rintro e w3 ⟨rfl, hb3⟩
  have Hs := Lib.hid (And.intro (kx.ext hb3) (And.intro (ka.ext hb3) (And.intro (hbw.trans (hb3.mono hbw.size)) (rS.ext hb3))))
  clear kx ka hbw rS hb3 x0 x1 y0 y1 Hha Hft
  obtain ⟨y0, y1, _, _, _⟩ := Hs.out.2.1.two
  go_wp2
  clear y0 y1 hrc hln hlw
  go_loopw [10] (fun iv wr => ∃ i : Nat, i ≤ a.2.length ∧ iv = .int .i64 (i : Int) ∧ Hid (Below w3.heap.size w3 wr)) (fun iv _ => a.2.length - (intOf iv).toNat)
  case atStart => exact ⟨0, Nat.zero_le _, rfl, Lib.hid (Below.refl _ _)⟩
  case round =>
    obtain ⟨wo, rfl⟩ : ∃ W0, W0 = wr := ⟨_, rfl⟩
    obtain ⟨i, hi, rfl, hb⟩ := hrel
    have ka := Hs.out.2.1.ext hb.out
    have hbw := Hs.out.2.2.1.trans (hb.out.mono Hs.out.2.2.1.size)
    obtain ⟨y0, y1, _, _, _⟩ := ka.two
    by_cases hlt : i < a.2.length
    · skip
      obtain ⟨bt, offt, A2, c2, hA, _, _, p0, p1, hwl, hps⟩ := (HH.out.2.2.2.1.ext hbw).termAt hlt
      have hpB := hpo _ (List.getElem_mem hlt)
      subst hA
      have hg := G.out.1 _ (List.getElem_mem hlt)
      obtain ⟨⟨wd, ps⟩, ht⟩ : ∃ t, a.2[i] = t := ⟨_, rfl⟩
      rw [ht] at p0 p1 hwl hps hg hpB
      dsimp only at p0 p1 hwl hps hg hpB
      obtain ⟨hp1, hp2⟩ := hps.lenM
      have hil : (i : Int) < (a.2.length : Int) := by omega
      have hi0 : (0 : Int) ≤ (i : Int) := by omega
      have hiw : IntKind.i64.wrap (i : Int) = (i : Int) := IntWalk.i64_in _ (by omega)
      obtain ⟨W2, gt, hW2, hgt, hs2, kt, hal2⟩ := box1 wo #[.string (bs wd), .slice A2 ps.length c2] 43
      have HW2 := Lib.hid (And.intro hW2 (And.intro hgt hs2))
      have Hb2 := Lib.hid (hb.out.trans (hal2.mono hb.out.size))
      have Hkt := Lib.hid kt; have Hps := Lib.hid (hps.ext hal2); have Hg := Lib.hid hg
      clear hW2 hgt hs2 kt hal2 hps hg ht ka hbw
      go_wp2
      rw [HW2.out.1, HW2.out.2.1]
      clear y0 y1 p0 p1
      go_loopw [12, 13] (fun lv kv wr => ∃ (k : Nat) (AL : Option Addr) (cL : Nat) (L : List Int), k ≤ S.length ∧ kv = .int .i64 (k : Int) ∧ lv = .slice AL L.length cL ∧ Hid (L = Ix.occ wd (S.take k) 0) ∧ Hid (L.length ≤ k) ∧ Hid (Own intC M0 wr W2.heap.size 3 lv L) ∧ Hid (Below W2.heap.size W2 wr)) (fun _ kv _ => S.length - (intOf kv).toNat)
      case atStart => exact ⟨0, none, 0, [], Nat.zero_le _, rfl, rfl, Lib.hid rfl, Lib.hid (Nat.le_refl _), Lib.hid (Own.nil _ _ _ _ _), Lib.hid (Below.refl _ _)⟩
      case round =>
        obtain ⟨w6, rfl⟩ : ∃ W0, W0 = wr := ⟨_, rfl⟩
        obtain ⟨k, AL, cL, L, hk, rfl, rfl, hL, hLl, ownL, hb6⟩ := hrel
        have hb36 : Below w3.heap.size w3 w6 := Hb2.out.trans (hb6.out.mono Hb2.out.size)
        by_cases hkt : k < S.length
        · skip
          obtain ⟨bS, offS, hAS, _, _, s0, hsl⟩ := (Hs.out.2.2.2.ext hb36).strAt hkt
          subst hAS
          obtain ⟨y, hy⟩ : ∃ y, y = S[k] := ⟨_, rfl⟩
          rw [← hy] at s0 hsl
          have Hy := Lib.hid hy
          clear hy
          obtain ⟨t0, t1, _, _, _⟩ := (Hkt.out.ext hb6.out).two
          have hkk : (k : Int) < (S.length : Int) := by omega
          have hk0 : (0 : Int) ≤ (k : Int) := by omega
          have hkw : IntKind.i64.wrap (k : Int) = (k : Int) := IntWalk.i64_in _ (by omega)
          clear hb36
          by_cases e : y = wd
          · have hee : (y == wd) = true := by rw [e]; exact beq_self_eq_true wd
            have He := Lib.hid e
            clear e
            go_wp2
            go_quiet (fail)
            have hb67 := below_drewN' w6.heap.size w6 nq
            have own7 := ownL.out.ext hb67
            generalize w6.drewN nq = w7 at hb67 own7 ⊢
            have hb57 : Below W2.heap.size W2 w7 := hb6.out.trans (hb67.mono hb6.out.size)
            have hs57 := hb57.size
            have Hb57 := Lib.hid hb57
            clear hb57 s0 t0 t1
            go_wp2_with (at_builtin; refine wpList_push_Own intC (M := M0) (B := W2.heap.size) TInts rfl (.tmp 67) (.tmp 69) rfl rfl own7 rfl (cs := [.int .i64 (k : Int)]) (y := (k : Int)) ⟨rfl, by omega, by omega⟩ (fun _ h => h.elim) ?a1 ?b1 hs57 ?_)
            case a1 => have := hLl.out; unfold maxLen; omega
            case b1 => have := hLl.out; omega
            intro A8 c8 L8 w8 hL8 own8 hb8 _ _
            have Hfin := Lib.hid (And.intro own8 (Hb57.out.trans hb8))
            clear own8 hb8 own7
            go_wp2
            go_roundw
            case rel => exact ⟨k + 1, A8, c8, L8, by omega, by go_num, rfl, Lib.hid (by rw [hL8.out, hL.out, Ix.occ_take wd S hkt, ← Hy.out, if_pos He.out]), Lib.hid (by rw [hL8.out, List.length_append, List.length_singleton]; have := hLl.out; omega), Lib.hid Hfin.out.1, Lib.hid Hfin.out.2⟩
            case measure => simp [intOf]; omega
          · have hee : (y == wd) = false := by rw [beq_eq_false_iff_ne]; exact e
            have He := Lib.hid e
            clear e
            go_wp2
            go_quiet (fail)
            have hb67 := below_drewN' w6.heap.size w6 nq
            have own7 := ownL.out.ext hb67
            generalize w6.drewN nq = w7 at hb67 own7 ⊢
            have Hfin := Lib.hid (And.intro own7 (hb6.out.trans (hb67.mono hb6.out.size)))
            clear own7 hb67 s0 t0 t1
            go_wp2
            go_roundw
            case rel => exact ⟨k + 1, AL, cL, L, by omega, by go_num, rfl, Lib.hid (by rw [hL.out, Ix.occ_take wd S hkt, ← Hy.out, if_neg He.out, List.append_nil]), Lib.hid (by have := hLl.out; omega), Lib.hid Hfin.out.1, Lib.hid Hfin.out.2⟩
            case measure => simp [intOf]; omega
        · obtain rfl : k = S.length := by omega
          have hLo : L = Ix.occ wd S 0 := by rw [hL.out, List.take_length]
          have Hc := Lib.hid (And.intro (Hkt.out.ext hb6.out) (And.intro (Hps.out.ext hb6.out) (And.intro hb36 (And.intro ownL.out.read0 hLo))))
          have HpsB := Lib.hid (Hps.out.ext hb6.out).toMB
          clear hb36 hL hLo ownL hLl Hkt Hps
          obtain ⟨t0, t1, _, _, _⟩ := Hc.out.1.two
          go_wp2
          clear t0 t1
          go_loopw [14, 15, 16] (fun ov mv kv wr => ∃ (k : Nat) (AO : Option Addr) (cO : Nat) (O : List Ix.Post) (AM : Option Addr) (cM : Nat) (Mn : List Int), k ≤ ps.length ∧ kv = .int .i64 (k : Int) ∧ ov = .slice AO O.length cO ∧ mv = .slice AM Mn.length cM ∧ Hid (O = Ix.othersF id (ps.take k)) ∧ Hid (Mn = Ix.mineF id (ps.take k)) ∧ Hid (Own postC M0 wr w6.heap.size 96 ov O) ∧ Hid (SlR intC (MB M0 w6.heap.size) wr mv Mn) ∧ Hid (Below w6.heap.size w6 wr)) (fun _ _ kv _ => ps.length - (intOf kv).toNat)
          case atStart => exact ⟨0, none, 0, [], none, 0, [], Nat.zero_le _, rfl, rfl, rfl, Lib.hid rfl, Lib.hid rfl, Lib.hid (Own.nil _ _ _ _ _), Lib.hid (SlR.nil _ _ _), Lib.hid (Below.refl _ _)⟩
          case round =>
            obtain ⟨w7, rfl⟩ : ∃ W0, W0 = wr := ⟨_, rfl⟩
            obtain ⟨k, AO, cO, O, AM, cM, Mn, hk, rfl, rfl, rfl, hO, hMn, ownO, rM, hb7⟩ := hrel
            obtain ⟨t0, t1, _, _, _⟩ := (Hc.out.1.ext hb7.out).two
            by_cases hkt : k < ps.length
            · skip
              obtain ⟨bp, offp, A4, c4, hA4, _, _, y0, y1, xl1, xl2, hpl⟩ := (HpsB.out.ext hb7.out).postAt hkt
              subst hA4
              have hot := othersF_take id ps hkt
              have hmt := mineF_take id ps hkt
              rw [← hO.out] at hot
              rw [← hMn.out] at hmt
              have hOl : O.length ≤ k := by rw [hO.out]; exact othersF_len id ps k
              obtain ⟨⟨pid, pl⟩, hp⟩ : ∃ p, ps[k] = p := ⟨_, rfl⟩
              rw [hp] at y0 y1 xl1 xl2 hpl hot hmt
              dsimp only at y0 y1 xl1 xl2 hpl hot hmt
              have hki : (k : Int) < (ps.length : Int) := by omega
              have hk0 : (0 : Int) ≤ (k : Int) := by omega
              have hkw : IntKind.i64.wrap (k : Int) = (k : Int) := IntWalk.i64_in _ (by omega)
              by_cases e : pid = id
              · subst e
                rw [if_pos rfl, List.append_nil] at hot
                rw [if_pos rfl] at hmt
                have Hfin := Lib.hid (And.intro hot.symm (And.intro hmt.symm hpl))
                clear hot hmt hpl hp
                go_wp2
                go_roundw
                case rel => exact ⟨k + 1, AO, cO, O, A4, c4, pl, by omega, by go_num, rfl, rfl, Lib.hid Hfin.out.1, Lib.hid Hfin.out.2.1, ownO, Lib.hid Hfin.out.2.2, hb7⟩
                case measure => simp [intOf]; omega
              · have hee : (pid == id) = false := by simpa using e
                rw [if_neg e] at hot hmt
                have hrd : postC.rd (fun b => M0 b ∨ (Value.slice AO O.length cO).ownBlock = some b) w7 [.int .i64 pid, .slice A4 pl.length c4] (pid, pl) := ⟨[.int .i64 pid], [.slice A4 pl.length c4], rfl, ⟨rfl, xl1, xl2⟩, _, rfl, hpl.sub fun b _ hor => hor.elim (fun h => h.elim) fun h => .inr (ownO.out.base b h)⟩
                have own7 := ownO.out
                have hs7 := hb7.out.size
                have Hot := Lib.hid (And.intro hot hmt); have Hrd := Lib.hid hrd
                clear hot hmt hpl hp hrd
                go_wp2_with (at_builtin; refine wpList_push_Own postC (M := M0) (B := w6.heap.size) TPosts rfl (.tmp 92) (.tmp 98) rfl rfl own7 rfl (cs := [.int .i64 pid, .slice A4 pl.length c4]) (y := (pid, pl)) Hrd.out (fun _ h => h.elim) ?a1 ?b1 hs7 ?_)
                case a1 => unfold maxLen; omega
                case b1 => omega
                intro A8 c8 L8 w8 hL8 own8 hb8 hgr8 _
                have Hfin := Lib.hid (And.intro own8 (hb7.out.trans hb8))
                have hrM := rM.out.keep (fun b _ hM => hb8.block b (Nat.lt_of_not_le fun h => hM (.inr h))) hb8.size
                have HrM := Lib.hid hrM
                clear own8 hb8 own7 hgr8 hrM
                go_wp2
                go_roundw
                case rel => exact ⟨k + 1, A8, c8, L8, AM, cM, Mn, by omega, by go_num, rfl, rfl, Lib.hid (by rw [hL8.out, Hot.out.1]), Lib.hid Hot.out.2.symm, Lib.hid Hfin.out.1, HrM, Lib.hid Hfin.out.2⟩
                case measure => simp [intOf]; omega
            · obtain rfl : k = ps.length := by omega
              have hO2 : O = Ix.othersF id ps := by rw [hO.out, List.take_length]
              have hM2 : Mn = Ix.mineF id ps := by rw [hMn.out, List.take_length]
              have hb37 : Below w3.heap.size w3 w7 := Hc.out.2.2.1.trans (hb7.out.mono Hc.out.2.2.1.size)
              have hin := fun W' (hb' : Below w7.heap.size w7 W') => ints_ok (.slice AM Mn.length cM) (.slice AL L.length cL) Mn L W' (rM.out.ofMB.ext hb') ((Hc.out.2.2.2.1.ext hb7.out).ext hb')
              have hin' := hin w7 (Below.refl _ _)
              rw [show (Mn == L) = true by rw [hM2, Hc.out.2.2.2.2, Hg.out.1]; exact beq_self_eq_true _] at hin'
              have hbx := Hs.out.2.2.1.trans (hb37.mono Hs.out.2.2.1.size)
              have hpp := fun W' (hb' : Below w7.heap.size w7 W') => lawPostings_ok M0 (.slice A0 x.1.length c0) (.slice A1 x.2.length c1) x.1 x.2 wd W' (HH.out.2.1.ext (hbx.trans (hb'.mono hbx.size)))
              obtain ⟨Q, hQ⟩ : ∃ Q, Ix.postingsF (x.1, x.2) wd = Q := ⟨_, rfl⟩
              rw [hQ] at hpp
              have hsp := fun W' vq (hb' : Below w7.heap.size w7 W') (hr : SlR postC M0 W' vq Q) => samePost_ok (.slice AO O.length cO) vq O Q W' ((ownO.out.ext hb').read0) hr
              have hOQ : (O == Q) = true := by rw [hO2, Hg.out.2, ← hQ]; exact beq_self_eq_true _
              have Hin := Lib.hid hin'; have Hpp := Lib.hid hpp; have Hsp := Lib.hid (fun W' vq hb' hr => by have := hsp W' vq hb' hr; rw [hOQ] at this; exact this)
              have Hb37 := Lib.hid hb37
              have kx := Hs.out.1.ext hb37
              obtain ⟨x0, x1, _, _, _⟩ := kx.two
              clear hin hin' hpp hsp hb37 hbx hQ hOQ hO2 hM2
              go_wp2_with fail
              refine Hin.out.mono ?_
              rintro e w8 ⟨rfl, hb8⟩
              have H8 := Lib.hid hb8
              have kx8 := kx.ext hb8
              have kt8 := (Hc.out.1.ext hb7.out).ext hb8
              clear x0 x1 t0 t1 kx hb8
              obtain ⟨x0, x1, _, _, _⟩ := kx8.two
              obtain ⟨t0, t1, _, _, _⟩ := kt8.two
              go_wp2_with fail
              refine (Hpp.out w8 H8.out).mono ?_
              rintro e w9 ⟨vq, rfl, hrq, hb9⟩
              obtain ⟨AQ, cQ, rfl, _, _⟩ := hrq.form
              have H9 := Lib.hid (H8.out.trans (hb9.mono H8.out.size)); have Hrq := Lib.hid hrq
              clear x0 x1 t0 t1 kx8 kt8 hb9 hrq
              go_wp2_with fail
              refine (Hsp.out w9 _ H9.out Hrq.out).mono ?_
              rintro e w10 ⟨rfl, hb10⟩
              go_wp2
              go_roundw
              case rel => exact ⟨i + 1, by omega, by go_num, Lib.hid (Hb37.out.trans ((H9.out.trans (hb10.mono H9.out.size)).mono Hb37.out.size))⟩
              case measure => simp [intOf]; omega
    · obtain rfl : i = a.2.length := by omega
      clear ka hbw
      go_wp2
      clear y0 y1
      go_loopw [17] (fun iv wr => ∃ i : Nat, i ≤ S.length ∧ iv = .int .i64 (i : Int) ∧ Hid (Below w3.heap.size w3 wr)) (fun iv _ => S.length - (intOf iv).toNat)
      case atStart => exact ⟨0, Nat.zero_le _, rfl, hb⟩
      case round =>
        obtain ⟨w5, rfl⟩ : ∃ W0, W0 = wr := ⟨_, rfl⟩
        obtain ⟨i, hi, rfl, hb5⟩ := hrel
        have ka := Hs.out.2.1.ext hb5.out
        have hbw := Hs.out.2.2.1.trans (hb5.out.mono Hs.out.2.2.1.size)
        obtain ⟨y0, y1, _, _, _⟩ := ka.two
        by_cases hlt : i < S.length
        · skip
          obtain ⟨bS, offS, hAS, _, _, s0, hsl⟩ := (Hs.out.2.2.2.ext hb5.out).strAt hlt
          subst hAS
          obtain ⟨q, hq⟩ : ∃ y, y = S[i] := ⟨_, rfl⟩
          have hg := G.out.2.1 q (by rw [hq]; exact List.getElem_mem hlt)
          rw [← hq] at s0 hsl
          have hlp := fun W' (hb' : Below w5.heap.size w5 W') => lawPostings_ok M0 (.slice B0 a.1.length d0) (.slice B1 a.2.length d1) a.1 a.2 q W' (HH.out.2.2.2.1.ext (hbw.trans (hb'.mono hbw.size)))
          obtain ⟨pl, hpl⟩ : ∃ l, Ix.postingsF (a.1, a.2) q = l := ⟨_, rfl⟩
          rw [show Ix.postingsF a q = pl from hpl] at hg
          rw [hpl] at hlp
          have hlb : ((pl.length : Int) == 0) = false := by
            have h9 : ¬ (pl.length : Int) = 0 := by omega
            simpa using h9
          have hSS : ∀ W', Below w5.heap.size w5 W' → W'.cell? ⟨ga, 0, none⟩ = some (.slice B0 a.1.length d0) ∧ W'.cell? ⟨ga, 1, none⟩ = some (.slice B1 a.2.length d1) ∧ W'.cell? ⟨bS, offS + i, none⟩ = some (.string (bs q)) := fun W' hb => ⟨cell_ext hb y0, cell_ext hb y1, cell_ext hb s0⟩
          have HS := Lib.hid hSS; have Hlp := Lib.hid hlp
          have hS := HS.out _ (below_drewN' w5.heap.size w5 1)
          have hii : (i : Int) < (S.length : Int) := by omega
          have hi0 : (0 : Int) ≤ (i : Int) := by omega
          have hiw : IntKind.i64.wrap (i : Int) = (i : Int) := IntWalk.i64_in _ (by omega)
          clear hSS hlp hpl hq y0 y1 s0 ka hbw hg
          go_wp2_with fail
          refine wp_region_D (fun W => W.cell? ⟨ga, 0, none⟩ = some (.slice B0 a.1.length d0) ∧ W.cell? ⟨ga, 1, none⟩ = some (.slice B1 a.2.length d1) ∧ W.cell? ⟨bS, offS + i, none⟩ = some (.string (bs q))) (fun _ => false) (by kernel_rfl) ?_
          change anyD _ _ _ _ _ _ _ _ _ (w5.drewN 1)
          have hbV := below_drewN' w5.heap.size w5 1
          generalize w5.drewN 1 = V0 at hS hbV ⊢
          (refine anyD_light (i := 0) (v := ?_) rfl (by kernel_rfl) (by kernel_rfl) (by kernel_rfl) (by kernel_rfl) (by kernel_rfl) (fun _ _ _ h => h) (.inl ⟨by kernel_rfl, fun W9 hW9 => ?_⟩) hS ?_; rotate_left; · (obtain ⟨hw0, hw1, hw2⟩ := hW9; go_simp; rfl))
          (refine anyD_light (i := 1) (v := ?_) rfl (by kernel_rfl) (by kernel_rfl) (by kernel_rfl) (by kernel_rfl) (by kernel_rfl) (fun _ _ _ h => h) (.inl ⟨by kernel_rfl, fun W9 hW9 => ?_⟩) hS ?_; rotate_left; · (obtain ⟨hw0, hw1, hw2⟩ := hW9; go_simp; rfl))
          (refine anyD_light (i := 2) (v := ?_) rfl (by kernel_rfl) (by kernel_rfl) (by kernel_rfl) (by kernel_rfl) (by kernel_rfl) (fun _ _ _ h => h) (.inl ⟨by kernel_rfl, fun W9 hW9 => ?_⟩) hS ?_; rotate_left; · (obtain ⟨hw0, hw1, hw2⟩ := hW9; go_simp; rfl))
          (refine anyD_light (i := 3) (v := ?_) rfl (by kernel_rfl) (by kernel_rfl) (by kernel_rfl) (by kernel_rfl) (by kernel_rfl) (fun _ _ _ h => h) (.inl ⟨by kernel_rfl, fun W9 hW9 => ?_⟩) hS ?_; rotate_left; · (obtain ⟨hw0, hw1, hw2⟩ := hW9; go_simp; rfl))
          (refine anyD_light (i := 4) (v := ?_) rfl (by kernel_rfl) (by kernel_rfl) (by kernel_rfl) (by kernel_rfl) (by kernel_rfl) (fun _ _ _ h => h) (.inl ⟨by kernel_rfl, fun W9 hW9 => ?_⟩) hS ?_; rotate_left; · (obtain ⟨hw0, hw1, hw2⟩ := hW9; go_simp; rfl))
          go_simp
          refine anyD_one (i := 5) (by kernel_rfl) rfl rfl (fun K hK => ?_)
          have HK := Lib.hid hK
          clear hK
          unfold Oper.wp
          go_simp
          refine ((Hlp.out V0 hbV)).mono ?_
          rintro e w4 ⟨v4, rfl, hrd4, hb4⟩
          obtain ⟨A4, c4, rfl, _, _⟩ := hrd4.form
          have hb14 := hbV.trans (hb4.mono hbV.size)
          clear hS hb4 hrd4
          have hS := HS.out _ hb14
          refine HK.out _ _ (fun _ => hS) ?_
          clear HK
          (refine anyD_light (i := 6) (v := ?_) rfl (by kernel_rfl) (by kernel_rfl) (by kernel_rfl) (by kernel_rfl) (by kernel_rfl) (fun _ _ _ h => h) (.inl ⟨by kernel_rfl, fun W9 hW9 => ?_⟩) hS ?_; rotate_left; · (obtain ⟨hw0, hw1, hw2⟩ := hW9; go_simp; rfl))
          (refine anyD_light (i := 7) (v := ?_) rfl (by kernel_rfl) (by kernel_rfl) (by kernel_rfl) (by kernel_rfl) (by kernel_rfl) (fun _ _ _ h => h) (.inl ⟨by kernel_rfl, fun W9 hW9 => ?_⟩) hS ?_; rotate_left; · (obtain ⟨hw0, hw1, hw2⟩ := hW9; go_simp; rfl))
          go_simp
          refine anyD_done (by kernel_rfl) ?_ _
          have Hfin := Lib.hid (hb5.out.trans (hb14.mono hb5.out.size))
          clear hb14 hS
          go_wp2
          go_roundw
          case rel => exact ⟨i + 1, by omega, by go_num, Hfin⟩
          case measure => simp [intOf]; omega
        · obtain rfl : i = S.length := by omega
          clear ka hbw y0 y1
          obtain ⟨x0, x1, _, _, _⟩ := (Hs.out.1.ext hb5.out).two
          have Hb0 := hb5
          clear hb5
          go_wp2
          clear x0 x1
          go_loopw [18] (fun iv wr => ∃ i : Nat, i ≤ x.2.length ∧ iv = .int .i64 (i : Int) ∧ Hid (Below w3.heap.size w3 wr)) (fun iv _ => x.2.length - (intOf iv).toNat)
          case atStart => exact ⟨0, Nat.zero_le _, rfl, Hb0⟩
          case round =>
            obtain ⟨w5, rfl⟩ : ∃ W0, W0 = wr := ⟨_, rfl⟩
            obtain ⟨i, hi, rfl, hb5⟩ := hrel
            have ka := Hs.out.2.1.ext hb5.out
            have kx := Hs.out.1.ext hb5.out
            have hbw := Hs.out.2.2.1.trans (hb5.out.mono Hs.out.2.2.1.size)
            obtain ⟨y0, y1, _, _, _⟩ := ka.two
            obtain ⟨x0, x1, _, _, _⟩ := kx.two
            by_cases hlt : i < x.2.length
            · skip
              obtain ⟨bt, offt, A2, c2, hA, _, _, s0, _, _, _⟩ := (HH.out.2.1.ext hbw).termAt hlt
              subst hA
              have hg := G.out.2.2 _ (List.getElem_mem hlt)
              obtain ⟨q, hq⟩ : ∃ y, y = x.2[i].1 := ⟨_, rfl⟩
              rw [← hq] at s0 hg
              have hlp := fun W' (hb' : Below w5.heap.size w5 W') => lawPostings_ok M0 (.slice B0 a.1.length d0) (.slice B1 a.2.length d1) a.1 a.2 q W' (HH.out.2.2.2.1.ext (hbw.trans (hb'.mono hbw.size)))
              obtain ⟨pl, hpl⟩ : ∃ l, Ix.postingsF (a.1, a.2) q = l := ⟨_, rfl⟩
              rw [show Ix.postingsF a q = pl from hpl] at hg
              rw [hpl] at hlp
              have hlb : ((pl.length : Int) == 0) = false := by
                have h9 : ¬ (pl.length : Int) = 0 := by omega
                simpa using h9
              have hSS : ∀ W', Below w5.heap.size w5 W' → W'.cell? ⟨ga, 0, none⟩ = some (.slice B0 a.1.length d0) ∧ W'.cell? ⟨ga, 1, none⟩ = some (.slice B1 a.2.length d1) ∧ W'.cell? ⟨gx, 1, none⟩ = some (.slice (some ⟨bt, offt, none⟩) x.2.length c1) ∧ W'.cell? ⟨bt, offt + i * 2, none⟩ = some (.string (bs q)) := fun W' hb => ⟨cell_ext hb y0, cell_ext hb y1, cell_ext hb x1, cell_ext hb s0⟩
              have HS := Lib.hid hSS; have Hlp := Lib.hid hlp
              have hS := HS.out _ (below_drewN' w5.heap.size w5 1)
              have hii : (i : Int) < (x.2.length : Int) := by omega
              have hi0 : (0 : Int) ≤ (i : Int) := by omega
              have hiw : IntKind.i64.wrap (i : Int) = (i : Int) := IntWalk.i64_in _ (by omega)
              clear hSS hlp hpl hq y0 y1 x0 s0 ka kx hbw hg
              go_wp2_with fail
              clear x1
              refine wp_region_D (fun W => W.cell? ⟨ga, 0, none⟩ = some (.slice B0 a.1.length d0) ∧ W.cell? ⟨ga, 1, none⟩ = some (.slice B1 a.2.length d1) ∧ W.cell? ⟨gx, 1, none⟩ = some (.slice (some ⟨bt, offt, none⟩) x.2.length c1) ∧ W.cell? ⟨bt, offt + i * 2, none⟩ = some (.string (bs q))) (fun _ => false) (by kernel_rfl) ?_
              change anyD _ _ _ _ _ _ _ _ _ (w5.drewN 1)
              have hbV := below_drewN' w5.heap.size w5 1
              generalize w5.drewN 1 = V0 at hS hbV ⊢
              (refine anyD_light (i := 0) (v := ?_) rfl (by kernel_rfl) (by kernel_rfl) (by kernel_rfl) (by kernel_rfl) (by kernel_rfl) (fun _ _ _ h => h) (.inl ⟨by kernel_rfl, fun W9 hW9 => ?_⟩) hS ?_; rotate_left; · (obtain ⟨hw0, hw1, hw2, hw3⟩ := hW9; go_simp; rfl))
              (refine anyD_light (i := 1) (v := ?_) rfl (by kernel_rfl) (by kernel_rfl) (by kernel_rfl) (by kernel_rfl) (by kernel_rfl) (fun _ _ _ h => h) (.inl ⟨by kernel_rfl, fun W9 hW9 => ?_⟩) hS ?_; rotate_left; · (obtain ⟨hw0, hw1, hw2, hw3⟩ := hW9; go_simp; rfl))
              (refine anyD_light (i := 2) (v := ?_) rfl (by kernel_rfl) (by kernel_rfl) (by kernel_rfl) (by kernel_rfl) (by kernel_rfl) (fun _ _ _ h => h) (.inl ⟨by kernel_rfl, fun W9 hW9 => ?_⟩) hS ?_; rotate_left; · (obtain ⟨hw0, hw1, hw2, hw3⟩ := hW9; go_simp; rfl))
              (refine anyD_light (i := 3) (v := ?_) rfl (by kernel_rfl) (by kernel_rfl) (by kernel_rfl) (by kernel_rfl) (by kernel_rfl) (fun _ _ _ h => h) (.inl ⟨by kernel_rfl, fun W9 hW9 => ?_⟩) hS ?_; rotate_left; · (obtain ⟨hw0, hw1, hw2, hw3⟩ := hW9; go_simp; rfl))
              (refine anyD_light (i := 4) (v := ?_) rfl (by kernel_rfl) (by kernel_rfl) (by kernel_rfl) (by kernel_rfl) (by kernel_rfl) (fun _ _ _ h => h) (.inl ⟨by kernel_rfl, fun W9 hW9 => ?_⟩) hS ?_; rotate_left; · (obtain ⟨hw0, hw1, hw2, hw3⟩ := hW9; go_simp; rfl))
              (refine anyD_light (i := 5) (v := ?_) rfl (by kernel_rfl) (by kernel_rfl) (by kernel_rfl) (by kernel_rfl) (by kernel_rfl) (fun _ _ _ h => h) (.inl ⟨by kernel_rfl, fun W9 hW9 => ?_⟩) hS ?_; rotate_left; · (obtain ⟨hw0, hw1, hw2, hw3⟩ := hW9; go_simp; rfl))
              go_simp
              (refine anyD_light (i := 6) (v := ?_) rfl (by kernel_rfl) (by kernel_rfl) (by kernel_rfl) (by kernel_rfl) (by kernel_rfl) (fun _ _ _ h => h) (.inl ⟨by kernel_rfl, fun W9 hW9 => ?_⟩) hS ?_; rotate_left; · (obtain ⟨hw0, hw1, hw2, hw3⟩ := hW9; go_simp; rfl))
              go_simp
              refine anyD_one (i := 7) (by kernel_rfl) rfl rfl (fun K hK => ?_)
              have HK := Lib.hid hK
              clear hK
              unfold Oper.wp
              go_simp
              refine ((Hlp.out V0 hbV)).mono ?_
              rintro e w4 ⟨v4, rfl, hrd4, hb4⟩
              obtain ⟨A4, c4, rfl, _, _⟩ := hrd4.form
              have hb14 := hbV.trans (hb4.mono hbV.size)
              clear hS hb4 hrd4
              have hS := HS.out _ hb14
              refine HK.out _ _ (fun _ => hS) ?_
              clear HK
              (refine anyD_light (i := 8) (v := ?_) rfl (by kernel_rfl) (by kernel_rfl) (by kernel_rfl) (by kernel_rfl) (by kernel_rfl) (fun _ _ _ h => h) (.inl ⟨by kernel_rfl, fun W9 hW9 => ?_⟩) hS ?_; rotate_left; · (obtain ⟨hw0, hw1, hw2, hw3⟩ := hW9; go_simp; rfl))
              (refine anyD_light (i := 9) (v := ?_) rfl (by kernel_rfl) (by kernel_rfl) (by kernel_rfl) (by kernel_rfl) (by kernel_rfl) (fun _ _ _ h => h) (.inl ⟨by kernel_rfl, fun W9 hW9 => ?_⟩) hS ?_; rotate_left; · (obtain ⟨hw0, hw1, hw2, hw3⟩ := hW9; go_simp; rfl))
              go_simp
              refine anyD_done (by kernel_rfl) ?_ _
              have Hfin := Lib.hid (hb5.out.trans (hb14.mono hb5.out.size))
              clear hb14 hS
              go_wp2
              go_roundw
              case rel => exact ⟨i + 1, by omega, by go_num, Hfin⟩
              case measure => simp [intOf]; omega
            · obtain rfl : i = x.2.length := by omega
              have Hb := Lib.hid hbw
              clear hbw ka kx
              go_wp2
              go_ret
              exact ⟨rfl, Hb.out⟩
end Go.Proofs.YtfjpedgddgbelaaGreatDoor
