/-
  Contracts and plain facts, one after another: index.term; index.Validate; What the indexes' rows take; Queries: their levels, their nodes in order, the fault; plain.
-/
import Derived.Test.YtfjpedgddgbelaaGreatDoorMSo5
import Derived.Test.YtfjpedgddgbelaaGreatDoorMSo4
import Derived.Test.YtfjpedgddgbelaaGreatDoorMSo3
import Derived.Test.YtfjpedgddgbelaaGreatDoorMSo1
import Derived.Deep.CutBlock
import Derived.Deep.DeepCutAuto
import Derived.Deep.RegionHeld3
/-
  index.term.
-/
namespace Go.Proofs.YtfjpedgddgbelaaGreatDoor
open Go.RowKit
set_option linter.unusedVariables false
theorem cell_ext {w w' : World} {b i : Nat} {u : Value} (hb : Below w.heap.size w w') (h : w.cell? ⟨b, i, none⟩ = some u) : w'.cell? ⟨b, i, none⟩ = some u := by
  by_cases hlt : b < w.heap.size
  · exact (hb.cell (p := ⟨b, i, none⟩) hlt).trans h
  · exfalso
    have : w.heap[b]? = none := Array.getElem?_eq_none (by omega)
    simp [World.cell?, this] at h
theorem SlR.postAt {M : Nat → Prop} {w : World} {A : Option Addr} {n c : Nat} {l : List Ix.Post} (h : SlR postC M w (.slice A n c) l) {k : Nat} (hk : k < l.length) :
    ∃ b off A2 c2, A = some ⟨b, off, none⟩ ∧ ¬ M b ∧ b < w.heap.size ∧ w.cell? ⟨b, off + k * 2, none⟩ = some (.int .i64 l[k].1) ∧ w.cell? ⟨b, off + k * 2 + 1, none⟩ = some (.slice A2 l[k].2.length c2) ∧
      -9223372036854775808 ≤ l[k].1 ∧ l[k].1 ≤ 9223372036854775807 ∧ SlR intC M w (.slice A2 l[k].2.length c2) l[k].2 := by
  obtain ⟨b, off, cs, rfl, hM, hb, ⟨c1, d1, rfl, ⟨rfl, h1⟩, ⟨v, rfl, hv⟩⟩, hc⟩ := h.at_ hk
  obtain ⟨A2, c2, rfl, _⟩ := hv.form
  exact ⟨b, off, A2, c2, rfl, hM, hb, hc 0 _ rfl, hc 1 _ rfl, h1.1, h1.2, hv⟩
theorem SlR.termAt {M : Nat → Prop} {w : World} {A : Option Addr} {n c : Nat} {l : List Ix.Term} (h : SlR termC M w (.slice A n c) l) {k : Nat} (hk : k < l.length) :
    ∃ b off A2 c2, A = some ⟨b, off, none⟩ ∧ ¬ M b ∧ b < w.heap.size ∧ w.cell? ⟨b, off + k * 2, none⟩ = some (.string (bs l[k].1)) ∧ w.cell? ⟨b, off + k * 2 + 1, none⟩ = some (.slice A2 l[k].2.length c2) ∧
      l[k].1.length ≤ maxLen ∧ SlR postC M w (.slice A2 l[k].2.length c2) l[k].2 := by
  obtain ⟨b, off, cs, rfl, hM, hb, ⟨c1, d1, rfl, ⟨rfl, h1⟩, ⟨v, rfl, hv⟩⟩, hc⟩ := h.at_ hk
  obtain ⟨A2, c2, rfl, _⟩ := hv.form
  exact ⟨b, off, A2, c2, rfl, hM, hb, hc 0 _ rfl, hc 1 _ rfl, h1, hv⟩
theorem has_ok (a b : Value) (ids : List Int) (x : Int) (w : World) (h : SlR intC M0 w a ids) (hs : ids.Pairwise (· < ·)) (hln : ids.length ≤ 1000000) : Calls Tryz.prog 54 #[.agg #[a, b], .int .i64 x] w fun e w' =>
    e = .returned (.tuple #[.int .i64 (ids.countP (· < x) : Nat), .bool (ids.contains x)]) ∧ Below w.heap.size w w' := by
  have hal := (Below.refl w.heap.size w).alloc (Nat.le_refl _) (.cells #[a, b] 25)
  have hc := bsearchI_ok M0 a ids x _ (h.ext hal) hs hln
  have Hc := Lib.hid hc
  obtain ⟨p0, p1, _, _, _⟩ := (Blk.new w 25 #[a, b]).two
  clear hc
  go_enter Tryz.func54, Tryz.ntmps54
  go_wp2_with fail
  refine Hc.out.mono ?_
  rintro e w1 ⟨rfl, hb1⟩
  go_wp2
  refine bodyPost_ret (v := .tuple #[.int .i64 (ids.countP (· < x) : Nat), .bool (ids.contains x)]) (by simp [results, Tryz.results54, go_sem]) rfl ⟨rfl, below2 hal hb1⟩
theorem make_none (B n : Nat) (w : World) (hn : n ≤ 4398046511104) (hB : B ≤ w.heap.size) : ∃ w1, (Instr.makeSlice 22 (.int .i64 0) (.int .i64 (n : Int))).run Tryz.prog w = .ok (.slice (some ⟨w.heap.size, 0, none⟩) 0 n) w1 ∧
    Own intC M0 w1 B 3 (.slice (some ⟨w.heap.size, 0, none⟩) 0 n) [] ∧ Below w.heap.size w w1 ∧ w.heap.size < w1.heap.size := by
  obtain ⟨i, hi, hz, h1, h2⟩ := info_parts (by kernel_rfl : (Tryz.prog.info? 3).map (fun i => (i.zero, i.size, i.bytes)) = some (some (.int .i64 0), 1, 8))
  obtain ⟨w1, hmk, hown, hgr⟩ := run_make_own (P := Tryz.prog) w B 22 3 i (.int .i64 0) 1 Tryz.underlying22 hi hz h1 .i64 .i64 n (by rw [h2]; omega) (by unfold maxLen; omega) hB
  have how : Own intC M0 w1 B 3 (.slice (some ⟨w.heap.size, 0, none⟩) 0 n) [] := ⟨[], hown, Els.nil _ _ _⟩
  exact ⟨w1, hmk, how, (Below.refl _ _).grown hgr (Nat.le_refl _) (fun b h => by cases h), how.lt _ rfl⟩
theorem SlR.lenM {α : Type} {C : Codec α} {M : Nat → Prop} {w : World} {A : Option Addr} {n c : Nat} {l : List α} (h : SlR C M w (.slice A n c) l) : l.length ≤ c ∧ c ≤ 9223372036854775807 := by
  obtain ⟨A2, c2, e, h1, h2⟩ := h.form
  injection e with _ _ e
  subst e
  exact ⟨h1, h2⟩
theorem postErr_drop (ids : List Int) (ps : List Ix.Post) (k : Nat) (hk : k < ps.length) : Ix.postErr ids (ps.drop k) = if ps[k].2.length = 0 ∨ Ix.rising ps[k].2 0 = false then 19 else if ids.contains ps[k].1 = false then 6 else Ix.postErr ids (ps.drop (k + 1)) := by
  rw [List.drop_eq_getElem_cons hk, Ix.postErr]
theorem ret_int {a b : Int} (h : a = b) : Ending.returned (.int .i64 a) = .returned (.int .i64 b) := by rw [h]
theorem below_drewN {B : Nat} {w w' : World} (h : Below B w w') (n : Nat) : Below B w (w'.drewN n) := ⟨h.os, h.tape, h.output, h.size, h.block⟩
theorem le_total_S (a b : Str) : (Op.bytesLess a b || a == b) = !ltS b a := by
  unfold ltS
  rcases ltS_total a b with h | h | h
  · have h2 := ltS_asymm h
    unfold ltS at h h2
    rw [h, h2]; rfl
  · subst h
    have := ltS_irrefl a
    unfold ltS at this
    rw [this]; simp
  · have h2 := ltS_asymm h
    have h3 := ltS_ne h
    unfold ltS at h h2
    have h4 : (a == b) = false := by simpa using fun e => h3 e.symm
    rw [h, h2, h4]; rfl
set_option maxRecDepth 20000 in
set_option maxHeartbeats 4000000 in
theorem term_ok (a b : Value) (ids : List Int) (ts : List Ix.Term) (i : Nat) (w : World) (h0 : SlR intC M0 w a ids) (h1 : SlR termC M0 w b ts) (hi : i < ts.length) (hs : ids.Pairwise (· < ·)) (hln : ids.length ≤ 1000000) (hsz : ts[i].2.length ≤ 4398046511104) :
    Calls Tryz.prog 70 #[.agg #[a, b], .int .i64 (i : Int)] w fun e w' => e = .returned (.int .i64 (Ix.termErr ids ts i)) ∧ Below w.heap.size w w' := by
  obtain ⟨A, c, rfl, _, _⟩ := h1.form
  obtain ⟨hl1, hl2⟩ := h1.lenM
  obtain ⟨bt, offt, A2, c2, rfl, _, hbt, p0, p1, hwl, hps⟩ := h1.termAt hi
  have hE : Ix.termErr ids ts i = if Ix.postErr ids ts[i].2 ≠ 0 then Ix.postErr ids ts[i].2 else if ts[i].1.length = 0 ∨ 8000 < ts[i].1.length then 10 else if ts[i].2.length = 0 ∨ Ix.rising (ts[i].2.map fun p => p.1) 1 = false ∨ Ix.wordBad ts i = true then 19 else 0 := by
    unfold Ix.termErr
    rw [Ix.getD_get hi]
  have hwb : Ix.wordBad ts i = (decide (0 < i) && !ltS (ts.getD (i - 1) ([], [])).1 ts[i].1) := by unfold Ix.wordBad; rw [Ix.getD_get hi]
  obtain ⟨⟨wd, ps⟩, ht⟩ : ∃ t, ts[i] = t := ⟨_, rfl⟩
  rw [ht] at p0 p1 hwl hps hE hsz hwb
  dsimp only at p0 p1 hwl hps hE hsz hwb
  have HE := Lib.hid hE; have Hwb := Lib.hid hwb
  clear hE hwb ht
  obtain ⟨hp1, hp2⟩ := hps.lenM
  have hil : (i : Int) < (ts.length : Int) := by omega
  have hi0 : (0 : Int) ≤ (i : Int) := by omega
  have hiw : IntKind.i64.wrap (i : Int) = (i : Int) := IntWalk.i64_in _ (by omega)
  obtain ⟨W1, hW1⟩ : ∃ W1, (w.alloc (.cells #[a, .slice (some ⟨bt, offt, none⟩) ts.length c] 25)).alloc (.cells #[.string (bs wd), .slice A2 ps.length c2] 43) = W1 := ⟨_, rfl⟩
  have hal : Below w.heap.size w W1 := by rw [← hW1]; exact ((Below.refl _ _).alloc (Nat.le_refl _) _).alloc (by simp) _
  have hs1 : W1.heap.size = w.heap.size + 2 := by rw [← hW1]; simp
  have kb : Blk W1 w.heap.size 25 #[a, .slice (some ⟨bt, offt, none⟩) ts.length c] := hW1 ▸ (Blk.new w _ _).alloc _
  have kt : Blk W1 (w.heap.size + 1) 43 #[.string (bs wd), .slice A2 ps.length c2] := hW1 ▸ (by have := Blk.new (w.alloc (.cells #[a, .slice (some ⟨bt, offt, none⟩) ts.length c] 25)) 43 #[.string (bs wd), .slice A2 ps.length c2]; simpa using this)
  obtain ⟨W2, hmk, hown, hbm, _⟩ := make_none W1.heap.size ps.length W1 hsz (Nat.le_refl _)
  obtain ⟨g, hg⟩ : ∃ g, W1.heap.size = g := ⟨_, rfl⟩
  rw [hg] at hmk hown
  have Hg := Lib.hid (And.intro hg hs1)
  obtain ⟨q0, q1, _, _, _⟩ := kb.two
  obtain ⟨r0, r1, _, _, _⟩ := kt.two
  have kb2 := kb.ext hbm
  have kt2 := kt.ext hbm
  have hb2 := hal.trans (hbm.mono hal.size)
  rw [← hW1] at hmk q0 q1 r0 r1
  obtain ⟨_, s1, _, _, _⟩ := kt2.two
  clear hbm hal hW1
  go_enter Tryz.func70, Tryz.ntmps70
  go_wp2
  clear hmk q0 q1 r0 r1 kb kt hg s1
  obtain ⟨g1, hg1⟩ : ∃ g1, w.heap.size + 1 = g1 := ⟨_, rfl⟩
  rw [hg1] at kt2 ⊢
  have Hg1 : Hid (g = w.heap.size + 2 ∧ g1 = w.heap.size + 1) := Lib.hid (by have := Hg.out; omega)
  clear hg1 hs1
  go_loopw [6, 23] (fun sv jv wr => ∃ (k : Nat) (A3 : Option Addr) (c3 : Nat) (L : List Int), k ≤ ps.length ∧ jv = .int .i64 (k : Int) ∧ sv = .slice A3 L.length c3 ∧ Hid (L = (ps.take k).map fun p => p.1) ∧ Hid (Ix.postErr ids ps = Ix.postErr ids (ps.drop k)) ∧ Own intC M0 wr g 3 sv L ∧
    Below w.heap.size w wr ∧ Blk wr w.heap.size 25 #[a, .slice (some ⟨bt, offt, none⟩) ts.length c] ∧ Blk wr g1 43 #[.string (bs wd), .slice A2 ps.length c2]) (fun _ jv _ => ps.length - (intOf jv).toNat)
  case atStart => exact ⟨0, some ⟨g, 0, none⟩, ps.length, [], Nat.zero_le _, rfl, rfl, Lib.hid rfl, Lib.hid rfl, hown, hb2, kb2, kt2⟩
  case round =>
    obtain ⟨k, A3, c3, L, hk, rfl, rfl, hL, hP, own, hbr, kb, kt⟩ := hrel
    clear hown hb2 kb2 kt2
    have hLl : Hid (L.length = k) := Lib.hid (by rw [hL.out, List.length_map, List.length_take]; omega)
    by_cases hlt : k < ps.length
    · obtain ⟨bp, offp, A4, c4, rfl, _, _, x0, x1, xl1, xl2, hpl⟩ := (hps.ext hbr).postAt hlt
      have hst := postErr_drop ids ps k hlt
      rw [← hP.out] at hst
      have hLs : Hid (L ++ [ps[k].1] = (ps.take (k + 1)).map fun p => p.1) := Lib.hid (by rw [hL.out, List.take_succ_eq_append_getElem hlt, List.map_append]; rfl)
      obtain ⟨⟨pid, pl⟩, hp⟩ : ∃ p, ps[k] = p := ⟨_, rfl⟩
      rw [hp] at x0 x1 xl1 xl2 hpl hst hLs
      dsimp only at x0 x1 xl1 xl2 hpl hst hLs
      have hal := (Below.refl wr.heap.size wr).alloc (Nat.le_refl _) (.cells #[.int .i64 pid, .slice A4 pl.length c4] 96)
      have kp := Blk.new wr 96 #[.int .i64 pid, .slice A4 pl.length c4]
      obtain ⟨W, hW⟩ : ∃ W, wr.alloc (.cells #[.int .i64 pid, .slice A4 pl.length c4] 96) = W := ⟨_, rfl⟩
      rw [hW] at hal kp
      have hris := rising_ok M0 (.slice A4 pl.length c4) pl 0 W (hpl.ext hal)
      obtain ⟨r, hr⟩ : ∃ r, Ix.rising pl 0 = r := ⟨_, rfl⟩
      rw [hr] at hris hst
      have hbr := hbr.trans (hal.mono hbr.size)
      have own := own.ext hal
      have kb := kb.ext hal
      have kt := kt.ext hal
      obtain ⟨y0, y1, _, _, _⟩ := kp.two
      have Hris := Lib.hid hris; have Hst := Lib.hid hst; have HW := Lib.hid hW; have Hkp := Lib.hid kp
      have hkil : (k : Int) < (ps.length : Int) := by omega
      have hki0 : (0 : Int) ≤ (k : Int) := by omega
      have hkiw : IntKind.i64.wrap (k : Int) = (k : Int) := IntWalk.i64_in _ (by omega)
      obtain ⟨hpl1, hpl2⟩ := hpl.lenM
      clear hris hst hp hr hP hpl hal kp
      rw [← hW] at y0 y1
      clear hW
      by_cases hl0 : pl.length = 0
      · have hpe : Ix.postErr ids ps = 19 := by rw [Hst.out, if_pos (.inl hl0)]
        have Hpe := Lib.hid hpe
        have hlb : ((pl.length : Int) == 0) = true := by simp [hl0]
        clear hpe Hst Hris
        go_wp2
        go_ret
        exact ⟨by rw [HE.out, Hpe.out]; rfl, by have h9 := hbr; rw [← HW.out, hl0] at h9; exact h9⟩
      · have hlb : ((pl.length : Int) == 0) = false := by
          have h9 : ¬ (pl.length : Int) = 0 := by omega
          simpa using h9
        go_wp2_with fail
        rw [HW.out]
        refine Hris.out.mono ?_
        rintro e w2 ⟨rfl, rfl⟩
        cases r with
        | false =>
          have hpe : Ix.postErr ids ps = 19 := by rw [Hst.out, if_pos (.inr rfl)]
          have Hpe := Lib.hid hpe
          clear hpe Hst Hris y0 y1
          go_wp2
          go_ret
          exact ⟨by rw [HE.out, Hpe.out]; rfl, hbr⟩
        | true =>
          have hst := Hst.out
          rw [if_neg (fun h => h.elim hl0 (fun h => by cases h))] at hst
          have hhas := has_ok a (.slice (some ⟨bt, offt, none⟩) ts.length c) ids pid W (h0.ext hbr) hs hln
          obtain ⟨t, ht⟩ : ∃ t, ids.contains pid = t := ⟨_, rfl⟩
          rw [ht] at hst hhas
          have Hhas := Lib.hid hhas; have Hst := Lib.hid hst
          clear y0 y1
          obtain ⟨y0, y1, _, _, _⟩ := Hkp.out.two
          obtain ⟨z0, z1, _, _, _⟩ := kb.two
          clear hst hhas ht Hris HW
          go_wp2_with fail
          refine Hhas.out.mono ?_
          rintro e w2 ⟨rfl, hb2⟩
          have hbr := hbr.trans (hb2.mono hbr.size)
          have own := own.ext hb2
          have kb := kb.ext hb2
          have kt := kt.ext hb2
          have kp := Hkp.out.ext hb2
          clear y0 y1 z0 z1 hb2
          obtain ⟨y0, y1, _, _, _⟩ := kp.two
          cases t with
          | false =>
            have hpe : Ix.postErr ids ps = 6 := by rw [Hst.out, if_pos rfl]
            have Hpe := Lib.hid hpe
            clear hpe Hst Hhas
            go_wp2
            go_ret
            exact ⟨by rw [HE.out, Hpe.out]; rfl, hbr⟩
          | true =>
            have hst := Hst.out
            rw [if_neg (by simp)] at hst
            have hP : Hid (Ix.postErr ids ps = Ix.postErr ids (ps.drop (k + 1))) := Lib.hid hst
            have hbs : g ≤ w2.heap.size := by have := Hg1.out; have := kt.lt; omega
            clear Hst Hhas hst
            go_wp2_with (at_builtin; refine wpList_push_Own intC (M := M0) (B := g) TInts rfl (.tmp 46) (.tmp 49) rfl rfl own rfl (cs := [.int .i64 pid]) (y := pid) ⟨rfl, xl1, xl2⟩ (fun _ h => h.elim) ?a1 ?b1 hbs ?_)
            case a1 => have := hLl.out; simp only [maxLen]; omega
            case b1 => have := hLl.out; omega
            intro A5 c5 L5 w5 hL5 own5 hb5 _ _
            have hbr5 := hbr.trans (hb5.mono (by have := Hg1.out; omega))
            have kb5 := kb.keep (hb5.block _ (by have := Hg1.out; omega))
            have kt5 := kt.keep (hb5.block _ (by have := Hg1.out; omega))
            clear own y0 y1 hbr kb kt kp Hkp
            go_wp2
            go_roundw
            case rel => exact ⟨k + 1, A5, c5, L5, by omega, by go_num, rfl, Lib.hid (by rw [hL5.out, hLs.out]), hP, own5, hbr5, kb5, kt5⟩
            case measure => simp [intOf]; omega
    · obtain rfl : k = ps.length := by omega
      have hpz : Ix.postErr ids ps = 0 := by rw [hP.out, List.drop_length]; rfl
      have hLa : Hid (L = ps.map fun p => p.1) := Lib.hid (by rw [hL.out, List.take_length])
      have hE2 := HE.out
      rw [hpz, if_neg (by simp)] at hE2
      have HE2 := Lib.hid hE2
      have hrs := rising_ok M0 (.slice A3 L.length c3) L 1
      obtain ⟨_, _⟩ := own.read0.lenM
      clear hE2 hP hL hpz hk hlt HE
      obtain ⟨z0, z1, _, _, _⟩ := kb.two
      obtain ⟨y0, y1, _, _, _⟩ := kt.two
      have hLl2 : Hid (L.length = ps.length) := hLl
      clear hLl
      by_cases hw0 : wd.length = 0
      · obtain rfl : wd = [] := List.eq_nil_of_length_eq_zero hw0
        go_wp2
        go_ret
        exact ⟨ret_int (by rw [HE2.out, if_pos (.inl rfl)]), hbr⟩
      have hwe : (wd == []) = false := by
        have : wd ≠ [] := fun e => hw0 (by rw [e]; rfl)
        simpa using this
      by_cases hw8 : 8000 < wd.length
      · go_wp2
        go_ret
        exact ⟨ret_int (by rw [HE2.out, if_pos (.inr hw8)]), hbr⟩
      have hE3 := HE2.out
      rw [if_neg (fun h => h.elim hw0 hw8)] at hE3
      have HE3 := Lib.hid hE3
      clear hE3 HE2
      by_cases hL0 : L.length = 0
      · have hlb : ((L.length : Int) == 0) = true := by simp [hL0]
        obtain rfl : L = [] := List.eq_nil_of_length_eq_zero hL0
        have hps0 : ps.length = 0 := by rw [← hLl2.out]; rfl
        have hres : Ix.termErr ids ts i = 19 := by rw [HE3.out, if_pos (.inl hps0)]
        have Hres := Lib.hid hres
        clear hres hps0 HE3 hrs
        go_wp2
        go_quiet (fail)
        go_wp2
        go_ret
        exact ⟨ret_int Hres.out.symm, below_drewN hbr _⟩
      have hlb : ((L.length : Int) == 0) = false := by
        have h9 : ¬ (L.length : Int) = 0 := by omega
        simpa using h9
      have hps0 : ¬ ps.length = 0 := by rw [← hLl2.out]; exact hL0
      have hE4 := HE3.out
      rw [← hLa.out] at hE4
      have hrs2 := fun W (hb : Below wr.heap.size wr W) => hrs W ((own.ext hb).read0)
      obtain ⟨r, hr⟩ : ∃ r, Ix.rising L 1 = r := ⟨_, rfl⟩
      rw [hr] at hrs2 hE4
      have HE4 := Lib.hid hE4; have Hrs := Lib.hid hrs2
      clear hE4 hrs2 hrs hr HE3
      cases r with
      | false =>
        have hres : Ix.termErr ids ts i = 19 := by rw [HE4.out, if_pos (.inr (.inl rfl))]
        have Hres := Lib.hid hres
        clear hres HE4
        go_wp2
        have hS : True := trivial
        refine wp_region_D (fun W => True) (fun _ => false) (by kernel_rfl) ?_
        (refine anyD_light (i := 0) (v := ?_) rfl (by kernel_rfl) (by kernel_rfl) (by kernel_rfl) (by kernel_rfl) (by kernel_rfl) (fun _ _ _ h => h) (.inl ⟨by kernel_rfl, fun W9 hW9 => ?_⟩) hS ?_; rotate_left; · (go_simp; rfl))
        (refine anyD_light (i := 1) (v := ?_) rfl (by kernel_rfl) (by kernel_rfl) (by kernel_rfl) (by kernel_rfl) (by kernel_rfl) (fun _ _ _ h => h) (.inl ⟨by kernel_rfl, fun W9 hW9 => ?_⟩) hS ?_; rotate_left; · (go_simp; rfl))
        (refine anyD_light (i := 2) (v := ?_) rfl (by kernel_rfl) (by kernel_rfl) (by kernel_rfl) (by kernel_rfl) (by kernel_rfl) (fun _ _ _ h => h) (.inl ⟨by kernel_rfl, fun W9 hW9 => ?_⟩) hS ?_; rotate_left; · (go_simp; rfl))
        (refine anyD_light (i := 3) (v := ?_) rfl (by kernel_rfl) (by kernel_rfl) (by kernel_rfl) (by kernel_rfl) (by kernel_rfl) (fun _ _ _ h => h) (.inl ⟨by kernel_rfl, fun W9 hW9 => ?_⟩) hS ?_; rotate_left; · (go_simp; rfl))
        first | (refine anyD_light (i := 4) (v := ?_) rfl (by kernel_rfl) (by kernel_rfl) (by kernel_rfl) (by kernel_rfl) (by kernel_rfl) (fun _ _ _ h => h) (.inl ⟨by kernel_rfl, fun W9 hW9 => ?_⟩) hS ?_; rotate_left; · (go_simp; rfl)) | (refine anyD_light (i := 4) (v := undef) rfl (by kernel_rfl) (by kernel_rfl) (by kernel_rfl) (by kernel_rfl) (by kernel_rfl) (fun _ _ _ h => h) (.inr ⟨by kernel_rfl, rfl⟩) hS ?_)
        go_simp
        refine anyD_oneG (i := 5) (by kernel_rfl) rfl rfl (fun K hK => ?_)
        have HK := Lib.hid hK
        clear hK
        unfold Oper.wp
        go_simp
        refine (Hrs.out _ (below_drewN' wr.heap.size wr 1)).mono ?_
        rintro e w9 ⟨rfl, rfl⟩
        have hS := trivial
        refine HK.out _ _ (fun _ => hS) ?_
        clear HK
        first | (refine anyD_light (i := 6) (v := ?_) rfl (by kernel_rfl) (by kernel_rfl) (by kernel_rfl) (by kernel_rfl) (by kernel_rfl) (fun _ _ _ h => h) (.inl ⟨by kernel_rfl, fun W9 hW9 => ?_⟩) hS ?_; rotate_left; · (go_simp; rfl)) | (refine anyD_light (i := 6) (v := undef) rfl (by kernel_rfl) (by kernel_rfl) (by kernel_rfl) (by kernel_rfl) (by kernel_rfl) (fun _ _ _ h => h) (.inr ⟨by kernel_rfl, rfl⟩) hS ?_)
        (refine anyD_light (i := 7) (v := ?_) rfl (by kernel_rfl) (by kernel_rfl) (by kernel_rfl) (by kernel_rfl) (by kernel_rfl) (fun _ _ _ h => h) (.inl ⟨by kernel_rfl, fun W9 hW9 => ?_⟩) hS ?_; rotate_left; · (go_simp; rfl))
        (refine anyD_light (i := 8) (v := ?_) rfl (by kernel_rfl) (by kernel_rfl) (by kernel_rfl) (by kernel_rfl) (by kernel_rfl) (fun _ _ _ h => h) (.inl ⟨by kernel_rfl, fun W9 hW9 => ?_⟩) hS ?_; rotate_left; · (go_simp; rfl))
        (refine anyD_light (i := 9) (v := undef) rfl (by kernel_rfl) (by kernel_rfl) (by kernel_rfl) (by kernel_rfl) (by kernel_rfl) (fun _ _ _ h => h) (.inr ⟨by kernel_rfl, rfl⟩) hS ?_)
        (refine anyD_light (i := 10) (v := undef) rfl (by kernel_rfl) (by kernel_rfl) (by kernel_rfl) (by kernel_rfl) (by kernel_rfl) (fun _ _ _ h => h) (.inr ⟨by kernel_rfl, rfl⟩) hS ?_)
        (refine anyD_light (i := 11) (v := undef) rfl (by kernel_rfl) (by kernel_rfl) (by kernel_rfl) (by kernel_rfl) (by kernel_rfl) (fun _ _ _ h => h) (.inr ⟨by kernel_rfl, rfl⟩) hS ?_)
        go_simp
        (refine anyD_light (i := 12) (v := undef) rfl (by kernel_rfl) (by kernel_rfl) (by kernel_rfl) (by kernel_rfl) (by kernel_rfl) (fun _ _ _ h => h) (.inr ⟨by kernel_rfl, rfl⟩) hS ?_)
        (refine anyD_light (i := 13) (v := undef) rfl (by kernel_rfl) (by kernel_rfl) (by kernel_rfl) (by kernel_rfl) (by kernel_rfl) (fun _ _ _ h => h) (.inr ⟨by kernel_rfl, rfl⟩) hS ?_)
        (refine anyD_light (i := 14) (v := undef) rfl (by kernel_rfl) (by kernel_rfl) (by kernel_rfl) (by kernel_rfl) (by kernel_rfl) (fun _ _ _ h => h) (.inr ⟨by kernel_rfl, rfl⟩) hS ?_)
        (refine anyD_light (i := 15) (v := undef) rfl (by kernel_rfl) (by kernel_rfl) (by kernel_rfl) (by kernel_rfl) (by kernel_rfl) (fun _ _ _ h => h) (.inr ⟨by kernel_rfl, rfl⟩) hS ?_)
        (refine anyD_light (i := 16) (v := undef) rfl (by kernel_rfl) (by kernel_rfl) (by kernel_rfl) (by kernel_rfl) (by kernel_rfl) (fun _ _ _ h => h) (.inr ⟨by kernel_rfl, rfl⟩) hS ?_)
        (refine anyD_light (i := 17) (v := undef) rfl (by kernel_rfl) (by kernel_rfl) (by kernel_rfl) (by kernel_rfl) (by kernel_rfl) (fun _ _ _ h => h) (.inr ⟨by kernel_rfl, rfl⟩) hS ?_)
        go_simp
        (refine anyD_light (i := 18) (v := undef) rfl (by kernel_rfl) (by kernel_rfl) (by kernel_rfl) (by kernel_rfl) (by kernel_rfl) (fun _ _ _ h => h) (.inr ⟨by kernel_rfl, rfl⟩) hS ?_)
        (refine anyD_light (i := 19) (v := undef) rfl (by kernel_rfl) (by kernel_rfl) (by kernel_rfl) (by kernel_rfl) (by kernel_rfl) (fun _ _ _ h => h) (.inr ⟨by kernel_rfl, rfl⟩) hS ?_)
        (refine anyD_light (i := 20) (v := undef) rfl (by kernel_rfl) (by kernel_rfl) (by kernel_rfl) (by kernel_rfl) (by kernel_rfl) (fun _ _ _ h => h) (.inr ⟨by kernel_rfl, rfl⟩) hS ?_)
        (refine anyD_light (i := 21) (v := undef) rfl (by kernel_rfl) (by kernel_rfl) (by kernel_rfl) (by kernel_rfl) (by kernel_rfl) (fun _ _ _ h => h) (.inr ⟨by kernel_rfl, rfl⟩) hS ?_)
        (refine anyD_light (i := 22) (v := undef) rfl (by kernel_rfl) (by kernel_rfl) (by kernel_rfl) (by kernel_rfl) (by kernel_rfl) (fun _ _ _ h => h) (.inr ⟨by kernel_rfl, rfl⟩) hS ?_)
        (refine anyD_light (i := 23) (v := ?_) rfl (by kernel_rfl) (by kernel_rfl) (by kernel_rfl) (by kernel_rfl) (by kernel_rfl) (fun _ _ _ h => h) (.inl ⟨by kernel_rfl, fun W9 hW9 => ?_⟩) hS ?_; rotate_left; · (go_simp; rfl))
        go_simp
        (refine anyD_light (i := 24) (v := ?_) rfl (by kernel_rfl) (by kernel_rfl) (by kernel_rfl) (by kernel_rfl) (by kernel_rfl) (fun _ _ _ h => h) (.inl ⟨by kernel_rfl, fun W9 hW9 => ?_⟩) hS ?_; rotate_left; · (go_simp; rfl))
        go_simp
        refine anyD_done (by kernel_rfl) ?_ _
        go_wp2
        go_ret
        exact ⟨ret_int Hres.out.symm, below_drew hbr⟩
      | true =>
        by_cases hi9 : i = 0
        · subst hi9
          have hres : Ix.termErr ids ts 0 = 0 := by
            rw [HE4.out, if_neg]
            rintro (h | h | h)
            · exact hps0 h
            · cases h
            · rw [Hwb.out] at h; simp at h
          have Hres := Lib.hid hres
          clear hres HE4
          go_wp2
          have hS : True := trivial
          refine wp_region_D (fun W => True) (fun _ => false) (by kernel_rfl) ?_
          (refine anyD_light (i := 0) (v := ?_) rfl (by kernel_rfl) (by kernel_rfl) (by kernel_rfl) (by kernel_rfl) (by kernel_rfl) (fun _ _ _ h => h) (.inl ⟨by kernel_rfl, fun W9 hW9 => ?_⟩) hS ?_; rotate_left; · (go_simp; rfl))
          (refine anyD_light (i := 1) (v := ?_) rfl (by kernel_rfl) (by kernel_rfl) (by kernel_rfl) (by kernel_rfl) (by kernel_rfl) (fun _ _ _ h => h) (.inl ⟨by kernel_rfl, fun W9 hW9 => ?_⟩) hS ?_; rotate_left; · (go_simp; rfl))
          (refine anyD_light (i := 2) (v := ?_) rfl (by kernel_rfl) (by kernel_rfl) (by kernel_rfl) (by kernel_rfl) (by kernel_rfl) (fun _ _ _ h => h) (.inl ⟨by kernel_rfl, fun W9 hW9 => ?_⟩) hS ?_; rotate_left; · (go_simp; rfl))
          (refine anyD_light (i := 3) (v := ?_) rfl (by kernel_rfl) (by kernel_rfl) (by kernel_rfl) (by kernel_rfl) (by kernel_rfl) (fun _ _ _ h => h) (.inl ⟨by kernel_rfl, fun W9 hW9 => ?_⟩) hS ?_; rotate_left; · (go_simp; rfl))
          first | (refine anyD_light (i := 4) (v := ?_) rfl (by kernel_rfl) (by kernel_rfl) (by kernel_rfl) (by kernel_rfl) (by kernel_rfl) (fun _ _ _ h => h) (.inl ⟨by kernel_rfl, fun W9 hW9 => ?_⟩) hS ?_; rotate_left; · (go_simp; rfl)) | (refine anyD_light (i := 4) (v := undef) rfl (by kernel_rfl) (by kernel_rfl) (by kernel_rfl) (by kernel_rfl) (by kernel_rfl) (fun _ _ _ h => h) (.inr ⟨by kernel_rfl, rfl⟩) hS ?_)
          go_simp
          refine anyD_oneG (i := 5) (by kernel_rfl) rfl rfl (fun K hK => ?_)
          have HK := Lib.hid hK
          clear hK
          unfold Oper.wp
          go_simp
          refine (Hrs.out _ (below_drewN' wr.heap.size wr 1)).mono ?_
          rintro e w9 ⟨rfl, rfl⟩
          have hS := trivial
          refine HK.out _ _ (fun _ => hS) ?_
          clear HK
          first | (refine anyD_light (i := 6) (v := ?_) rfl (by kernel_rfl) (by kernel_rfl) (by kernel_rfl) (by kernel_rfl) (by kernel_rfl) (fun _ _ _ h => h) (.inl ⟨by kernel_rfl, fun W9 hW9 => ?_⟩) hS ?_; rotate_left; · (go_simp; rfl)) | (refine anyD_light (i := 6) (v := undef) rfl (by kernel_rfl) (by kernel_rfl) (by kernel_rfl) (by kernel_rfl) (by kernel_rfl) (fun _ _ _ h => h) (.inr ⟨by kernel_rfl, rfl⟩) hS ?_)
          (refine anyD_light (i := 7) (v := ?_) rfl (by kernel_rfl) (by kernel_rfl) (by kernel_rfl) (by kernel_rfl) (by kernel_rfl) (fun _ _ _ h => h) (.inl ⟨by kernel_rfl, fun W9 hW9 => ?_⟩) hS ?_; rotate_left; · (go_simp; rfl))
          (refine anyD_light (i := 8) (v := ?_) rfl (by kernel_rfl) (by kernel_rfl) (by kernel_rfl) (by kernel_rfl) (by kernel_rfl) (fun _ _ _ h => h) (.inl ⟨by kernel_rfl, fun W9 hW9 => ?_⟩) hS ?_; rotate_left; · (go_simp; rfl))
          first | (refine anyD_light (i := 9) (v := ?_) rfl (by kernel_rfl) (by kernel_rfl) (by kernel_rfl) (by kernel_rfl) (by kernel_rfl) (fun _ _ _ h => h) (.inl ⟨by kernel_rfl, fun W9 hW9 => ?_⟩) hS ?_; rotate_left; · (go_simp; rfl)) | (refine anyD_light (i := 9) (v := undef) rfl (by kernel_rfl) (by kernel_rfl) (by kernel_rfl) (by kernel_rfl) (by kernel_rfl) (fun _ _ _ h => h) (.inr ⟨by kernel_rfl, rfl⟩) hS ?_)
          first | (refine anyD_light (i := 10) (v := ?_) rfl (by kernel_rfl) (by kernel_rfl) (by kernel_rfl) (by kernel_rfl) (by kernel_rfl) (fun _ _ _ h => h) (.inl ⟨by kernel_rfl, fun W9 hW9 => ?_⟩) hS ?_; rotate_left; · (go_simp; rfl)) | (refine anyD_light (i := 10) (v := undef) rfl (by kernel_rfl) (by kernel_rfl) (by kernel_rfl) (by kernel_rfl) (by kernel_rfl) (fun _ _ _ h => h) (.inr ⟨by kernel_rfl, rfl⟩) hS ?_)
          first | (refine anyD_light (i := 11) (v := ?_) rfl (by kernel_rfl) (by kernel_rfl) (by kernel_rfl) (by kernel_rfl) (by kernel_rfl) (fun _ _ _ h => h) (.inl ⟨by kernel_rfl, fun W9 hW9 => ?_⟩) hS ?_; rotate_left; · (go_simp; rfl)) | (refine anyD_light (i := 11) (v := undef) rfl (by kernel_rfl) (by kernel_rfl) (by kernel_rfl) (by kernel_rfl) (by kernel_rfl) (fun _ _ _ h => h) (.inr ⟨by kernel_rfl, rfl⟩) hS ?_)
          go_simp
          (refine anyD_light (i := 12) (v := undef) rfl (by kernel_rfl) (by kernel_rfl) (by kernel_rfl) (by kernel_rfl) (by kernel_rfl) (fun _ _ _ h => h) (.inr ⟨by kernel_rfl, rfl⟩) hS ?_)
          (refine anyD_light (i := 13) (v := undef) rfl (by kernel_rfl) (by kernel_rfl) (by kernel_rfl) (by kernel_rfl) (by kernel_rfl) (fun _ _ _ h => h) (.inr ⟨by kernel_rfl, rfl⟩) hS ?_)
          (refine anyD_light (i := 14) (v := undef) rfl (by kernel_rfl) (by kernel_rfl) (by kernel_rfl) (by kernel_rfl) (by kernel_rfl) (fun _ _ _ h => h) (.inr ⟨by kernel_rfl, rfl⟩) hS ?_)
          (refine anyD_light (i := 15) (v := undef) rfl (by kernel_rfl) (by kernel_rfl) (by kernel_rfl) (by kernel_rfl) (by kernel_rfl) (fun _ _ _ h => h) (.inr ⟨by kernel_rfl, rfl⟩) hS ?_)
          (refine anyD_light (i := 16) (v := undef) rfl (by kernel_rfl) (by kernel_rfl) (by kernel_rfl) (by kernel_rfl) (by kernel_rfl) (fun _ _ _ h => h) (.inr ⟨by kernel_rfl, rfl⟩) hS ?_)
          (refine anyD_light (i := 17) (v := undef) rfl (by kernel_rfl) (by kernel_rfl) (by kernel_rfl) (by kernel_rfl) (by kernel_rfl) (fun _ _ _ h => h) (.inr ⟨by kernel_rfl, rfl⟩) hS ?_)
          go_simp
          (refine anyD_light (i := 18) (v := undef) rfl (by kernel_rfl) (by kernel_rfl) (by kernel_rfl) (by kernel_rfl) (by kernel_rfl) (fun _ _ _ h => h) (.inr ⟨by kernel_rfl, rfl⟩) hS ?_)
          (refine anyD_light (i := 19) (v := undef) rfl (by kernel_rfl) (by kernel_rfl) (by kernel_rfl) (by kernel_rfl) (by kernel_rfl) (fun _ _ _ h => h) (.inr ⟨by kernel_rfl, rfl⟩) hS ?_)
          (refine anyD_light (i := 20) (v := undef) rfl (by kernel_rfl) (by kernel_rfl) (by kernel_rfl) (by kernel_rfl) (by kernel_rfl) (fun _ _ _ h => h) (.inr ⟨by kernel_rfl, rfl⟩) hS ?_)
          (refine anyD_light (i := 21) (v := undef) rfl (by kernel_rfl) (by kernel_rfl) (by kernel_rfl) (by kernel_rfl) (by kernel_rfl) (fun _ _ _ h => h) (.inr ⟨by kernel_rfl, rfl⟩) hS ?_)
          first | (refine anyD_light (i := 22) (v := ?_) rfl (by kernel_rfl) (by kernel_rfl) (by kernel_rfl) (by kernel_rfl) (by kernel_rfl) (fun _ _ _ h => h) (.inl ⟨by kernel_rfl, fun W9 hW9 => ?_⟩) hS ?_; rotate_left; · (go_simp; rfl)) | (refine anyD_light (i := 22) (v := undef) rfl (by kernel_rfl) (by kernel_rfl) (by kernel_rfl) (by kernel_rfl) (by kernel_rfl) (fun _ _ _ h => h) (.inr ⟨by kernel_rfl, rfl⟩) hS ?_)
          (refine anyD_light (i := 23) (v := ?_) rfl (by kernel_rfl) (by kernel_rfl) (by kernel_rfl) (by kernel_rfl) (by kernel_rfl) (fun _ _ _ h => h) (.inl ⟨by kernel_rfl, fun W9 hW9 => ?_⟩) hS ?_; rotate_left; · (go_simp; rfl))
          go_simp
          (refine anyD_light (i := 24) (v := ?_) rfl (by kernel_rfl) (by kernel_rfl) (by kernel_rfl) (by kernel_rfl) (by kernel_rfl) (fun _ _ _ h => h) (.inl ⟨by kernel_rfl, fun W9 hW9 => ?_⟩) hS ?_; rotate_left; · (go_simp; rfl))
          go_simp
          refine anyD_done (by kernel_rfl) ?_ _
          go_wp2
          go_ret
          exact ⟨ret_int Hres.out.symm, below_drew hbr⟩
        · obtain ⟨j, rfl⟩ : ∃ j, i = j + 1 := ⟨i - 1, by omega⟩
          have hj : j < ts.length := by omega
          obtain ⟨bt2, offt2, A5, c5, hA, _, _, x0, _, _, _⟩ := (h1.ext hbr).termAt hj
          injection hA with hA
          injection hA with hA1 hA2
          subst hA1 hA2
          have hwb := Hwb.out
          rw [Nat.add_sub_cancel, Ix.getD_get hj, decide_eq_true (Nat.succ_pos j), Bool.true_and] at hwb
          obtain ⟨pw, hpw⟩ : ∃ pw, ts[j].1 = pw := ⟨_, rfl⟩
          rw [hpw] at x0 hwb
          have hle := le_total_S wd pw
          obtain ⟨bad, hbad⟩ : ∃ t, (!ltS pw wd) = t := ⟨_, rfl⟩
          rw [hbad] at hle hwb
          have hE5 := HE4.out
          rw [hwb] at hE5
          have HE5 := Lib.hid hE5
          have hj1 : ((j + 1 : Nat) : Int) - 1 = (j : Int) := by omega
          have hj2 : (0 : Int) < ((j + 1 : Nat) : Int) := by omega
          have hjw : IntKind.i64.wrap (j : Int) = (j : Int) := IntWalk.i64_in _ (by omega)
          have hjl : (j : Int) < (ts.length : Int) := by omega
          have hj0 : (0 : Int) ≤ (j : Int) := by omega
          have hSS : ∀ W, Below wr.heap.size wr W → W.cell? ⟨g1, 0, none⟩ = some (.string (bs wd)) ∧ W.cell? ⟨w.heap.size, 1, none⟩ = some (.slice (some ⟨bt, offt, none⟩) ts.length c) ∧ W.cell? ⟨bt, offt + j * 2, none⟩ = some (.string (bs pw)) := fun W hW => ⟨cell_ext hW y0, cell_ext hW z1, cell_ext hW x0⟩
          have HS := Lib.hid hSS
          have hS := HS.out _ (below_drewN' wr.heap.size wr 1)
          clear hSS hE5 HE4 hwb Hwb hbad hpw
          go_wp2
          refine wp_region_D (fun W => W.cell? ⟨g1, 0, none⟩ = some (.string (bs wd)) ∧ W.cell? ⟨w.heap.size, 1, none⟩ = some (.slice (some ⟨bt, offt, none⟩) ts.length c) ∧ W.cell? ⟨bt, offt + j * 2, none⟩ = some (.string (bs pw))) (fun _ => false) (by kernel_rfl) ?_
          (refine anyD_light (i := 0) (v := ?_) rfl (by kernel_rfl) (by kernel_rfl) (by kernel_rfl) (by kernel_rfl) (by kernel_rfl) (fun _ _ _ h => h) (.inl ⟨by kernel_rfl, fun W9 hW9 => ?_⟩) hS ?_; rotate_left; · (obtain ⟨hw0, hw1, hw2⟩ := hW9; go_simp; rfl))
          (refine anyD_light (i := 1) (v := ?_) rfl (by kernel_rfl) (by kernel_rfl) (by kernel_rfl) (by kernel_rfl) (by kernel_rfl) (fun _ _ _ h => h) (.inl ⟨by kernel_rfl, fun W9 hW9 => ?_⟩) hS ?_; rotate_left; · (obtain ⟨hw0, hw1, hw2⟩ := hW9; go_simp; rfl))
          (refine anyD_light (i := 2) (v := ?_) rfl (by kernel_rfl) (by kernel_rfl) (by kernel_rfl) (by kernel_rfl) (by kernel_rfl) (fun _ _ _ h => h) (.inl ⟨by kernel_rfl, fun W9 hW9 => ?_⟩) hS ?_; rotate_left; · (obtain ⟨hw0, hw1, hw2⟩ := hW9; go_simp; rfl))
          (refine anyD_light (i := 3) (v := ?_) rfl (by kernel_rfl) (by kernel_rfl) (by kernel_rfl) (by kernel_rfl) (by kernel_rfl) (fun _ _ _ h => h) (.inl ⟨by kernel_rfl, fun W9 hW9 => ?_⟩) hS ?_; rotate_left; · (obtain ⟨hw0, hw1, hw2⟩ := hW9; go_simp; rfl))
          first | (refine anyD_light (i := 4) (v := ?_) rfl (by kernel_rfl) (by kernel_rfl) (by kernel_rfl) (by kernel_rfl) (by kernel_rfl) (fun _ _ _ h => h) (.inl ⟨by kernel_rfl, fun W9 hW9 => ?_⟩) hS ?_; rotate_left; · (obtain ⟨hw0, hw1, hw2⟩ := hW9; go_simp; rfl)) | (refine anyD_light (i := 4) (v := undef) rfl (by kernel_rfl) (by kernel_rfl) (by kernel_rfl) (by kernel_rfl) (by kernel_rfl) (fun _ _ _ h => h) (.inr ⟨by kernel_rfl, rfl⟩) hS ?_)
          go_simp
          refine anyD_oneG (i := 5) (by kernel_rfl) rfl rfl (fun K hK => ?_)
          have HK := Lib.hid hK
          clear hK
          unfold Oper.wp
          go_simp
          refine (Hrs.out _ (below_drewN' wr.heap.size wr 1)).mono ?_
          rintro e w9 ⟨rfl, rfl⟩
          have hS := HS.out _ (below_drewN' wr.heap.size wr 1)
          refine HK.out _ _ (fun _ => hS) ?_
          clear HK
          first | (refine anyD_light (i := 6) (v := ?_) rfl (by kernel_rfl) (by kernel_rfl) (by kernel_rfl) (by kernel_rfl) (by kernel_rfl) (fun _ _ _ h => h) (.inl ⟨by kernel_rfl, fun W9 hW9 => ?_⟩) hS ?_; rotate_left; · (obtain ⟨hw0, hw1, hw2⟩ := hW9; go_simp; rfl)) | (refine anyD_light (i := 6) (v := undef) rfl (by kernel_rfl) (by kernel_rfl) (by kernel_rfl) (by kernel_rfl) (by kernel_rfl) (fun _ _ _ h => h) (.inr ⟨by kernel_rfl, rfl⟩) hS ?_)
          (refine anyD_light (i := 7) (v := ?_) rfl (by kernel_rfl) (by kernel_rfl) (by kernel_rfl) (by kernel_rfl) (by kernel_rfl) (fun _ _ _ h => h) (.inl ⟨by kernel_rfl, fun W9 hW9 => ?_⟩) hS ?_; rotate_left; · (obtain ⟨hw0, hw1, hw2⟩ := hW9; go_simp; rfl))
          (refine anyD_light (i := 8) (v := ?_) rfl (by kernel_rfl) (by kernel_rfl) (by kernel_rfl) (by kernel_rfl) (by kernel_rfl) (fun _ _ _ h => h) (.inl ⟨by kernel_rfl, fun W9 hW9 => ?_⟩) hS ?_; rotate_left; · (obtain ⟨hw0, hw1, hw2⟩ := hW9; go_simp; rfl))
          first | (refine anyD_light (i := 9) (v := ?_) rfl (by kernel_rfl) (by kernel_rfl) (by kernel_rfl) (by kernel_rfl) (by kernel_rfl) (fun _ _ _ h => h) (.inl ⟨by kernel_rfl, fun W9 hW9 => ?_⟩) hS ?_; rotate_left; · (obtain ⟨hw0, hw1, hw2⟩ := hW9; go_simp; rfl)) | (refine anyD_light (i := 9) (v := undef) rfl (by kernel_rfl) (by kernel_rfl) (by kernel_rfl) (by kernel_rfl) (by kernel_rfl) (fun _ _ _ h => h) (.inr ⟨by kernel_rfl, rfl⟩) hS ?_)
          first | (refine anyD_light (i := 10) (v := ?_) rfl (by kernel_rfl) (by kernel_rfl) (by kernel_rfl) (by kernel_rfl) (by kernel_rfl) (fun _ _ _ h => h) (.inl ⟨by kernel_rfl, fun W9 hW9 => ?_⟩) hS ?_; rotate_left; · (obtain ⟨hw0, hw1, hw2⟩ := hW9; go_simp; rfl)) | (refine anyD_light (i := 10) (v := undef) rfl (by kernel_rfl) (by kernel_rfl) (by kernel_rfl) (by kernel_rfl) (by kernel_rfl) (fun _ _ _ h => h) (.inr ⟨by kernel_rfl, rfl⟩) hS ?_)
          first | (refine anyD_light (i := 11) (v := ?_) rfl (by kernel_rfl) (by kernel_rfl) (by kernel_rfl) (by kernel_rfl) (by kernel_rfl) (fun _ _ _ h => h) (.inl ⟨by kernel_rfl, fun W9 hW9 => ?_⟩) hS ?_; rotate_left; · (obtain ⟨hw0, hw1, hw2⟩ := hW9; go_simp; rfl)) | (refine anyD_light (i := 11) (v := undef) rfl (by kernel_rfl) (by kernel_rfl) (by kernel_rfl) (by kernel_rfl) (by kernel_rfl) (fun _ _ _ h => h) (.inr ⟨by kernel_rfl, rfl⟩) hS ?_)
          go_simp
          first | (refine anyD_light (i := 12) (v := ?_) rfl (by kernel_rfl) (by kernel_rfl) (by kernel_rfl) (by kernel_rfl) (by kernel_rfl) (fun _ _ _ h => h) (.inl ⟨by kernel_rfl, fun W9 hW9 => ?_⟩) hS ?_; rotate_left; · (obtain ⟨hw0, hw1, hw2⟩ := hW9; go_simp; rfl)) | (refine anyD_light (i := 12) (v := undef) rfl (by kernel_rfl) (by kernel_rfl) (by kernel_rfl) (by kernel_rfl) (by kernel_rfl) (fun _ _ _ h => h) (.inr ⟨by kernel_rfl, rfl⟩) hS ?_)
          first | (refine anyD_light (i := 13) (v := ?_) rfl (by kernel_rfl) (by kernel_rfl) (by kernel_rfl) (by kernel_rfl) (by kernel_rfl) (fun _ _ _ h => h) (.inl ⟨by kernel_rfl, fun W9 hW9 => ?_⟩) hS ?_; rotate_left; · (obtain ⟨hw0, hw1, hw2⟩ := hW9; go_simp; rfl)) | (refine anyD_light (i := 13) (v := undef) rfl (by kernel_rfl) (by kernel_rfl) (by kernel_rfl) (by kernel_rfl) (by kernel_rfl) (fun _ _ _ h => h) (.inr ⟨by kernel_rfl, rfl⟩) hS ?_)
          first | (refine anyD_light (i := 14) (v := ?_) rfl (by kernel_rfl) (by kernel_rfl) (by kernel_rfl) (by kernel_rfl) (by kernel_rfl) (fun _ _ _ h => h) (.inl ⟨by kernel_rfl, fun W9 hW9 => ?_⟩) hS ?_; rotate_left; · (obtain ⟨hw0, hw1, hw2⟩ := hW9; go_simp; rfl)) | (refine anyD_light (i := 14) (v := undef) rfl (by kernel_rfl) (by kernel_rfl) (by kernel_rfl) (by kernel_rfl) (by kernel_rfl) (fun _ _ _ h => h) (.inr ⟨by kernel_rfl, rfl⟩) hS ?_)
          first | (refine anyD_light (i := 15) (v := ?_) rfl (by kernel_rfl) (by kernel_rfl) (by kernel_rfl) (by kernel_rfl) (by kernel_rfl) (fun _ _ _ h => h) (.inl ⟨by kernel_rfl, fun W9 hW9 => ?_⟩) hS ?_; rotate_left; · (obtain ⟨hw0, hw1, hw2⟩ := hW9; go_simp; rfl)) | (refine anyD_light (i := 15) (v := undef) rfl (by kernel_rfl) (by kernel_rfl) (by kernel_rfl) (by kernel_rfl) (by kernel_rfl) (fun _ _ _ h => h) (.inr ⟨by kernel_rfl, rfl⟩) hS ?_)
          first | (refine anyD_light (i := 16) (v := ?_) rfl (by kernel_rfl) (by kernel_rfl) (by kernel_rfl) (by kernel_rfl) (by kernel_rfl) (fun _ _ _ h => h) (.inl ⟨by kernel_rfl, fun W9 hW9 => ?_⟩) hS ?_; rotate_left; · (obtain ⟨hw0, hw1, hw2⟩ := hW9; go_simp; rfl)) | (refine anyD_light (i := 16) (v := undef) rfl (by kernel_rfl) (by kernel_rfl) (by kernel_rfl) (by kernel_rfl) (by kernel_rfl) (fun _ _ _ h => h) (.inr ⟨by kernel_rfl, rfl⟩) hS ?_)
          first | (refine anyD_light (i := 17) (v := ?_) rfl (by kernel_rfl) (by kernel_rfl) (by kernel_rfl) (by kernel_rfl) (by kernel_rfl) (fun _ _ _ h => h) (.inl ⟨by kernel_rfl, fun W9 hW9 => ?_⟩) hS ?_; rotate_left; · (obtain ⟨hw0, hw1, hw2⟩ := hW9; go_simp; rfl)) | (refine anyD_light (i := 17) (v := undef) rfl (by kernel_rfl) (by kernel_rfl) (by kernel_rfl) (by kernel_rfl) (by kernel_rfl) (fun _ _ _ h => h) (.inr ⟨by kernel_rfl, rfl⟩) hS ?_)
          go_simp
          first | (refine anyD_light (i := 18) (v := ?_) rfl (by kernel_rfl) (by kernel_rfl) (by kernel_rfl) (by kernel_rfl) (by kernel_rfl) (fun _ _ _ h => h) (.inl ⟨by kernel_rfl, fun W9 hW9 => ?_⟩) hS ?_; rotate_left; · (obtain ⟨hw0, hw1, hw2⟩ := hW9; go_simp; rfl)) | (refine anyD_light (i := 18) (v := undef) rfl (by kernel_rfl) (by kernel_rfl) (by kernel_rfl) (by kernel_rfl) (by kernel_rfl) (fun _ _ _ h => h) (.inr ⟨by kernel_rfl, rfl⟩) hS ?_)
          first | (refine anyD_light (i := 19) (v := ?_) rfl (by kernel_rfl) (by kernel_rfl) (by kernel_rfl) (by kernel_rfl) (by kernel_rfl) (fun _ _ _ h => h) (.inl ⟨by kernel_rfl, fun W9 hW9 => ?_⟩) hS ?_; rotate_left; · (obtain ⟨hw0, hw1, hw2⟩ := hW9; go_simp; rfl)) | (refine anyD_light (i := 19) (v := undef) rfl (by kernel_rfl) (by kernel_rfl) (by kernel_rfl) (by kernel_rfl) (by kernel_rfl) (fun _ _ _ h => h) (.inr ⟨by kernel_rfl, rfl⟩) hS ?_)
          first | (refine anyD_light (i := 20) (v := ?_) rfl (by kernel_rfl) (by kernel_rfl) (by kernel_rfl) (by kernel_rfl) (by kernel_rfl) (fun _ _ _ h => h) (.inl ⟨by kernel_rfl, fun W9 hW9 => ?_⟩) hS ?_; rotate_left; · (obtain ⟨hw0, hw1, hw2⟩ := hW9; go_simp; rfl)) | (refine anyD_light (i := 20) (v := undef) rfl (by kernel_rfl) (by kernel_rfl) (by kernel_rfl) (by kernel_rfl) (by kernel_rfl) (fun _ _ _ h => h) (.inr ⟨by kernel_rfl, rfl⟩) hS ?_)
          first | (refine anyD_light (i := 21) (v := ?_) rfl (by kernel_rfl) (by kernel_rfl) (by kernel_rfl) (by kernel_rfl) (by kernel_rfl) (fun _ _ _ h => h) (.inl ⟨by kernel_rfl, fun W9 hW9 => ?_⟩) hS ?_; rotate_left; · (obtain ⟨hw0, hw1, hw2⟩ := hW9; go_simp; rfl)) | (refine anyD_light (i := 21) (v := undef) rfl (by kernel_rfl) (by kernel_rfl) (by kernel_rfl) (by kernel_rfl) (by kernel_rfl) (fun _ _ _ h => h) (.inr ⟨by kernel_rfl, rfl⟩) hS ?_)
          first | (refine anyD_light (i := 22) (v := ?_) rfl (by kernel_rfl) (by kernel_rfl) (by kernel_rfl) (by kernel_rfl) (by kernel_rfl) (fun _ _ _ h => h) (.inl ⟨by kernel_rfl, fun W9 hW9 => ?_⟩) hS ?_; rotate_left; · (obtain ⟨hw0, hw1, hw2⟩ := hW9; go_simp; rfl)) | (refine anyD_light (i := 22) (v := undef) rfl (by kernel_rfl) (by kernel_rfl) (by kernel_rfl) (by kernel_rfl) (by kernel_rfl) (fun _ _ _ h => h) (.inr ⟨by kernel_rfl, rfl⟩) hS ?_)
          (refine anyD_light (i := 23) (v := ?_) rfl (by kernel_rfl) (by kernel_rfl) (by kernel_rfl) (by kernel_rfl) (by kernel_rfl) (fun _ _ _ h => h) (.inl ⟨by kernel_rfl, fun W9 hW9 => ?_⟩) hS ?_; rotate_left; · (obtain ⟨hw0, hw1, hw2⟩ := hW9; go_simp; rfl))
          go_simp
          (refine anyD_light (i := 24) (v := ?_) rfl (by kernel_rfl) (by kernel_rfl) (by kernel_rfl) (by kernel_rfl) (by kernel_rfl) (fun _ _ _ h => h) (.inl ⟨by kernel_rfl, fun W9 hW9 => ?_⟩) hS ?_; rotate_left; · (obtain ⟨hw0, hw1, hw2⟩ := hW9; go_simp; rfl))
          go_simp
          refine anyD_done (by kernel_rfl) ?_ _
          cases bad with
          | true =>
            go_wp2
            go_ret
            exact ⟨ret_int (by rw [HE5.out, if_pos (by simp)]), below_drew hbr⟩
          | false =>
            go_wp2
            go_ret
            exact ⟨ret_int (by rw [HE5.out, if_neg (by simp; exact fun h => hps0 (by rw [h]; rfl))]), below_drew hbr⟩
end Go.Proofs.YtfjpedgddgbelaaGreatDoor
/-
  index.Validate.
-/
namespace Go.Proofs.YtfjpedgddgbelaaGreatDoor
open Go.RowKit
set_option linter.unusedVariables false
/-- the sizes that the walk needs -/
def SzIx (ts : List Ix.Term) : Prop := ∀ t ∈ ts, t.2.length ≤ 4398046511104
theorem faultGo_at (x : Ix.Idx) (k : Nat) (hk : k < x.2.length) : Ix.faultGo x (x.2.length - k) k = if Ix.termErr x.1 x.2 k = 0 then Ix.faultGo x (x.2.length - (k + 1)) (k + 1) else (Ix.termErr x.1 x.2 k, (k : Int)) := by
  obtain ⟨f, hf⟩ : ∃ f, x.2.length - k = f + 1 := ⟨x.2.length - k - 1, by omega⟩
  rw [hf, Ix.faultGo, show x.2.length - (k + 1) = f by omega]
theorem two_new (w : World) (a b : Value) (t : TypeId) (u v : Value) (t' : TypeId) : ∃ W, (w.alloc (.cells #[a, b] t)).alloc (.cells #[u, v] t') = W ∧ W.heap.size = w.heap.size + 2 ∧ Below w.heap.size w W ∧ Blk W w.heap.size t #[a, b] ∧ Blk W (w.heap.size + 1) t' #[u, v] := by
  refine ⟨_, rfl, by simp, ((Below.refl _ _).alloc (Nat.le_refl _) _).alloc (by simp) _, (Blk.new w _ _).alloc _, ?_⟩
  have := Blk.new (w.alloc (.cells #[a, b] t)) t' #[u, v]
  simpa using this
set_option maxRecDepth 20000 in
set_option maxHeartbeats 4000000 in
theorem validate_ok (a b : Value) (ids : List Int) (ts : List Ix.Term) (w : World) (h0 : SlR intC M0 w a ids) (h1 : SlR termC M0 w b ts) (hsz : SzIx ts) :
    Calls Tryz.prog 20 #[.agg #[a, b]] w fun e w' => e = .returned (.agg #[.int .i64 (Ix.indexF (ids, ts)).1, .int .i64 (Ix.indexF (ids, ts)).2]) ∧ Below w.heap.size w w' := by
  obtain ⟨A0, c0, rfl, _, _⟩ := h0.form
  obtain ⟨A1, c1, rfl, _, _⟩ := h1.form
  obtain ⟨hl01, hl02⟩ := h0.lenM
  obtain ⟨hl11, hl12⟩ := h1.lenM
  obtain ⟨W, hW, hs, hal, kb, kf⟩ := two_new w (.slice A0 ids.length c0) (.slice A1 ts.length c1) 25 (.int .i64 0) (.int .i64 0) 27
  have hF : Ix.indexF (ids, ts) = if 300 < ids.length then (2, -1) else if Ix.rising ids 1 = false then (19, -1) else if 1000000 < ts.length then (2, -2) else Ix.faultGo (ids, ts) ts.length 0 := rfl
  have HF := Lib.hid hF
  have hfc := fun a b W => fault_ok a b W
  have hno := fun W => none_ok W
  have Hfc := Lib.hid hfc; have Hno := Lib.hid hno
  obtain ⟨g, hg⟩ : ∃ g, w.heap.size + 1 = g := ⟨_, rfl⟩
  have Hg : Hid (w.heap.size ≤ g) := Lib.hid (by omega)
  have HW := Lib.hid hW; have Hs := Lib.hid (And.intro hs hg)
  have q := kb.two
  obtain ⟨q0, q1, _, _, _⟩ := q
  rw [← hW] at q0 q1
  rw [hg] at kf
  clear hF hfc hno hW hs hg
  -- what a fault leaves
  have fin : ∀ (x y : Int) (W1 : World) (r : Ix.indexF (ids, ts) = (x, y)), Blk W1 g 27 #[.int .i64 0, .int .i64 0] → Below w.heap.size w W1 → True := fun _ _ _ _ _ _ => trivial
  clear fin
  by_cases h300 : 300 < ids.length
  · have hq : Ix.indexF (ids, ts) = (2, -1) := by rw [HF.out, if_pos h300]
    rw [hq]
    have hd : decide ((300 : Int) < (ids.length : Int)) = true := by simp; omega
    clear hq
    go_enter Tryz.func20, Tryz.ntmps20
    go_wp2_with fail
    rw [HW.out, Hs.out.2]
    refine (Hfc.out 2 (-1) _).mono ?_
    rintro e w1 ⟨rfl, hb⟩
    have k1 := kf.ext hb
    have hbw := hal.trans (hb.mono hal.size)
    obtain ⟨c0, c1, z0, z1, hlt⟩ := k1.two
    clear q0 q1
    go_wp2
    obtain ⟨e0, e1⟩ := k1.put2 (.int .i64 2) (.int .i64 (-1))
    exact bodyPost_ret (v := .agg #[.int .i64 2, .int .i64 (-1)]) (by simp [results, Tryz.results20, go_sem, e0, e1]) rfl ⟨rfl, below_set2 hbw Hg.out _ _⟩
  have hd300 : decide ((300 : Int) < (ids.length : Int)) = false := by simp; omega
  have hris := rising_ok M0 _ ids 1 W (h0.ext hal)
  by_cases hr : Ix.rising ids 1 = false
  · have hq : Ix.indexF (ids, ts) = (19, -1) := by rw [HF.out, if_neg h300, if_pos hr]
    rw [hq]
    rw [hr] at hris
    have Hris := Lib.hid hris
    clear hq hris hr
    go_enter Tryz.func20, Tryz.ntmps20
    go_wp2_with fail
    rw [HW.out, Hs.out.2]
    refine Hris.out.mono ?_
    rintro e w1 ⟨rfl, rfl⟩
    clear q0 q1
    go_wp2_with fail
    refine (Hfc.out 19 (-1) _).mono ?_
    rintro e w1 ⟨rfl, hb⟩
    have k1 := kf.ext hb
    have hbw := hal.trans (hb.mono hal.size)
    obtain ⟨c0, c1, z0, z1, hlt⟩ := k1.two
    go_wp2
    obtain ⟨e0, e1⟩ := k1.put2 (.int .i64 19) (.int .i64 (-1))
    exact bodyPost_ret (v := .agg #[.int .i64 19, .int .i64 (-1)]) (by simp [results, Tryz.results20, go_sem, e0, e1]) rfl ⟨rfl, below_set2 hbw Hg.out _ _⟩
  have hr' : Ix.rising ids 1 = true := by simpa using hr
  have hsrt := ((Ix.rising_iff _ _).1 hr').1
  rw [hr'] at hris
  have Hris := Lib.hid hris; have Hsrt := Lib.hid hsrt
  clear hris hsrt
  obtain ⟨t0, t1, _, _, _⟩ := kb.two
  by_cases hm : 1000000 < ts.length
  · have hq : Ix.indexF (ids, ts) = (2, -2) := by rw [HF.out, if_neg h300, if_neg hr, if_pos hm]
    rw [hq]
    have hd : decide ((1000000 : Int) < (ts.length : Int)) = true := by simp; omega
    clear hq hr hr'
    go_enter Tryz.func20, Tryz.ntmps20
    go_wp2_with fail
    rw [HW.out, Hs.out.2]
    refine Hris.out.mono ?_
    rintro e w1 ⟨rfl, rfl⟩
    clear q0 q1
    go_wp2_with fail
    refine (Hfc.out 2 (-2) _).mono ?_
    rintro e w1 ⟨rfl, hb⟩
    have k1 := kf.ext hb
    have hbw := hal.trans (hb.mono hal.size)
    obtain ⟨c0, c1, z0, z1, hlt⟩ := k1.two
    go_wp2
    obtain ⟨e0, e1⟩ := k1.put2 (.int .i64 2) (.int .i64 (-2))
    exact bodyPost_ret (v := .agg #[.int .i64 2, .int .i64 (-2)]) (by simp [results, Tryz.results20, go_sem, e0, e1]) rfl ⟨rfl, below_set2 hbw Hg.out _ _⟩
  have hdm : decide ((1000000 : Int) < (ts.length : Int)) = false := by simp; omega
  obtain ⟨fa, fb, hfab⟩ : ∃ fa fb, Ix.faultGo (ids, ts) ts.length 0 = (fa, fb) := ⟨_, _, rfl⟩
  have hq : Ix.indexF (ids, ts) = (fa, fb) := by rw [HF.out, if_neg h300, if_neg hr, if_neg hm, hfab]
  rw [hq]
  have Hst : Hid (Ix.faultGo (ids, ts) (ts.length - 0) 0 = (fa, fb)) := Lib.hid hfab
  have hbr := Below.refl W.heap.size W
  clear hq hfab hr hr' HF
  go_enter Tryz.func20, Tryz.ntmps20
  go_wp2_with fail
  rw [HW.out, Hs.out.2]
  refine Hris.out.mono ?_
  rintro e w1 ⟨rfl, rfl⟩
  clear q0 q1
  go_wp2
  clear t0 t1
  go_loopw [26] (fun iv wr => ∃ k : Nat, k ≤ ts.length ∧ iv = .int .i64 (k : Int) ∧ Hid (Ix.faultGo (ids, ts) (ts.length - k) k = (fa, fb)) ∧ Below W.heap.size W wr) (fun iv _ => ts.length - (intOf iv).toNat)
  case atStart => exact ⟨0, Nat.zero_le _, rfl, Hst, hbr⟩
  case round =>
    clear hbr
    obtain ⟨k, hk, rfl, hst, hbr⟩ := hrel
    obtain ⟨t0, t1, _, _, _⟩ := (kb.ext hbr).two
    have kf := kf.ext hbr
    have hbw := hal.trans (hbr.mono hal.size)
    by_cases hlt : k < ts.length
    · have hgo := faultGo_at (ids, ts) k hlt
      have htm := term_ok (.slice A0 ids.length c0) (.slice A1 ts.length c1) ids ts k wr ((h0.ext hal).ext hbr) ((h1.ext hal).ext hbr) hlt Hsrt.out (by omega) (hsz _ (List.getElem_mem hlt))
      rw [hst.out] at hgo
      dsimp only at hgo
      obtain ⟨ec, hec⟩ : ∃ ec, Ix.termErr ids ts k = ec := ⟨_, rfl⟩
      rw [hec] at hgo htm
      have Htm := Lib.hid htm; have Hgo := Lib.hid hgo
      clear htm hgo hec hst
      have hkw : IntKind.i64.wrap (k : Int) = (k : Int) := IntWalk.i64_in _ (by omega)
      go_wp2_with fail
      refine Htm.out.mono ?_
      rintro e w2 ⟨rfl, hb2⟩
      have kf := kf.ext hb2
      have hbr := hbr.trans (hb2.mono hbr.size)
      have hbw := hbw.trans (hb2.mono hbw.size)
      clear t0 t1 Htm hb2
      by_cases he : ec = 0
      · have hst2 : Hid (Ix.faultGo (ids, ts) (ts.length - (k + 1)) (k + 1) = (fa, fb)) := Lib.hid (by rw [Hgo.out, if_pos he])
        subst he
        clear Hgo
        go_wp2
        go_roundw
        case rel => exact ⟨k + 1, by omega, by go_num, hst2, hbr⟩
        case measure => simp [intOf]; omega
      · have hfe := Hgo.out
        rw [if_neg he] at hfe
        injection hfe with e1 e2
        subst e1 e2
        have heb : (fa != 0) = true := by simpa using he
        clear Hgo he
        go_wp2_with fail
        refine (Hfc.out fa (k : Int) _).mono ?_
        rintro e w1 ⟨rfl, hb⟩
        have k1 := kf.ext hb
        have hbw := hbw.trans (hb.mono hbw.size)
        obtain ⟨c0, c1, z0, z1, hlt⟩ := k1.two
        go_wp2
        obtain ⟨e0, e1⟩ := k1.put2 (.int .i64 fa) (.int .i64 (k : Int))
        exact bodyPost_ret (v := .agg #[.int .i64 fa, .int .i64 (k : Int)]) (by simp [results, Tryz.results20, go_sem, e0, e1]) rfl ⟨rfl, below_set2 hbw Hg.out _ _⟩
    · obtain rfl : k = ts.length := by omega
      have hst2 := hst.out
      rw [Nat.sub_self, Ix.faultGo] at hst2
      injection hst2 with e1 e2
      subst e1 e2
      clear hst
      go_wp2_with fail
      refine (Hno.out _).mono ?_
      rintro e w1 ⟨rfl, hb⟩
      have k1 := kf.ext hb
      have hbw := hbw.trans (hb.mono hbw.size)
      obtain ⟨c0, c1, z0, z1, hlt⟩ := k1.two
      clear t0 t1
      go_wp2
      obtain ⟨e0, e1⟩ := k1.put2 (.int .i64 0) (.int .i64 0)
      exact bodyPost_ret (v := .agg #[.int .i64 0, .int .i64 0]) (by simp [results, Tryz.results20, go_sem, e0, e1]) rfl ⟨rfl, below_set2 hbw Hg.out _ _⟩
end Go.Proofs.YtfjpedgddgbelaaGreatDoor
/-
  What the indexes' rows take.
-/
namespace Go.Proofs.YtfjpedgddgbelaaGreatDoor
open Go.ChangeShapes Go.WideShapes Go.ChangeAt Go.RowKit
theorem rInt : ReadsS Tryz.prog 3 intC (fun _ => 1) (fun _ => True) := (reads_int Tryz.underlying3 (by kernel_rfl)).sized
def szInts (l : List Int) : Prop := l.length * Tryz.prog.bytesOf 3 ≤ reachBytes ∧ ∀ a ∈ l, True
def bkInts (l : List Int) : Nat := 1 + (l.map fun _ => 1).sum
theorem rInts : ReadsS Tryz.prog 22 (sliceC intC) bkInts szInts := readsS_slice rInt Tryz.underlying22 (by kernel_rfl)
def szPost (p : Ix.Post) : Prop := True ∧ szInts p.2
def bkPost (p : Ix.Post) : Nat := 1 + bkInts p.2
theorem rPost : ReadsS Tryz.prog 96 postC bkPost szPost := by
  refine readsS_struct2 (C := intC) (D := sliceC intC) (φ := fun _ => True) (ψ := szInts) (bc := fun _ => 1) (bd := bkInts) ?_ ?_ Tryz.underlying96 (by kernel_rfl) rfl rfl
  · exact rInt
  · exact rInts
def szPosts (l : List Ix.Post) : Prop := l.length * Tryz.prog.bytesOf 96 ≤ reachBytes ∧ ∀ a ∈ l, szPost a
def bkPosts (l : List Ix.Post) : Nat := 1 + (l.map bkPost).sum
theorem rPosts : ReadsS Tryz.prog 31 (sliceC postC) bkPosts szPosts := readsS_slice rPost Tryz.underlying31 (by kernel_rfl)
def szStr (s : Str) : Prop := s.length ≤ reachBytes
def bkStr (s : Str) : Nat := s.length + 1
theorem rStr : ReadsS Tryz.prog 9 strC bkStr szStr := readsS_string Tryz.underlying9 (by kernel_rfl)
def szTerm (t : Ix.Term) : Prop := szStr t.1 ∧ szPosts t.2
def bkTerm (t : Ix.Term) : Nat := bkStr t.1 + bkPosts t.2
theorem rTerm : ReadsS Tryz.prog 43 termC bkTerm szTerm := by
  refine readsS_struct2 (C := strC) (D := sliceC postC) (φ := szStr) (ψ := szPosts) (bc := bkStr) (bd := bkPosts) ?_ ?_ Tryz.underlying43 (by kernel_rfl) rfl rfl
  · exact rStr
  · exact rPosts
def szTerms (l : List Ix.Term) : Prop := l.length * Tryz.prog.bytesOf 43 ≤ reachBytes ∧ ∀ a ∈ l, szTerm a
def bkTerms (l : List Ix.Term) : Nat := 1 + (l.map bkTerm).sum
theorem rTerms : ReadsS Tryz.prog 23 (sliceC termC) bkTerms szTerms := readsS_slice rTerm Tryz.underlying23 (by kernel_rfl)
def idxC : Codec Ix.Idx := pairC (sliceC intC) (sliceC termC)
def szIdx (x : Ix.Idx) : Prop := szInts x.1 ∧ szTerms x.2
def bkIdx (x : Ix.Idx) : Nat := bkInts x.1 + bkTerms x.2
theorem rIdx : ReadsS Tryz.prog 25 idxC bkIdx szIdx := by
  refine readsS_struct2 (C := sliceC intC) (D := sliceC termC) (φ := szInts) (ψ := szTerms) (bc := bkInts) (bd := bkTerms) ?_ ?_ Tryz.underlying25 (by kernel_rfl) rfl rfl
  · exact rInts
  · exact rTerms
theorem szIdx_sz {x : Ix.Idx} (h : szIdx x) : SzIx x.2 := fun t ht => by
  have h1 := (h.2.2 t ht).2.1
  rw [(by kernel_rfl : Tryz.prog.bytesOf 96 = 32)] at h1
  unfold reachBytes at h1
  omega
theorem idx_of_rd {M : Nat → Prop} {w : World} {a : Array Value} {x : Ix.Idx} (h : idxC.rd M w (Value.agg a).cells.toList x) : ∃ u v, Value.agg a = .agg #[u, v] ∧ SlR intC M w u x.1 ∧ SlR termC M w v x.2 := by
  obtain ⟨c, d, e, ⟨u, rfl, hu⟩, v, rfl, hv⟩ := h
  refine ⟨u, v, ?_, hu, hv⟩
  have h1 : a.toList = [u, v] := e
  rw [← Array.toArray_toList (xs := a), h1]
end Go.Proofs.YtfjpedgddgbelaaGreatDoor
/-
  Queries: their levels, their nodes in order, the fault; plain.
-/
namespace Go.Proofs.YtfjpedgddgbelaaGreatDoor
set_option linter.unusedVariables false
/-- A text cut at the spaces. -/
def splitS : Str → List Str
  | [] => [[]]
  | c :: t => if c = 32 then [] :: splitS t else match splitS t with | [] => [[c]] | h :: r => (c :: h) :: r
theorem splitS_ne : ∀ s : Str, splitS s ≠ []
  | [] => by simp [splitS]
  | c :: t => by
    unfold splitS
    split
    · simp
    · split <;> simp
theorem splitS_no : ∀ s : Str, 32 ∉ s → splitS s = [s]
  | [], _ => rfl
  | c :: t, h => by
    simp only [List.mem_cons, not_or] at h
    rw [splitS, if_neg (fun e => h.1 e.symm), splitS_no t h.2]
theorem splitS_append (a b : Str) : splitS (a ++ 32 :: b) = splitS a ++ splitS b := by
  induction a with
  | nil => simp [splitS]
  | cons c t ih =>
    rw [List.cons_append, splitS, ih, splitS]
    split
    · simp
    · cases h : splitS t with
      | nil => exact absurd h (splitS_ne t)
      | cons x r => simp
theorem splitS_cut (q r : Str) (h : 32 ∉ q) : splitS (q ++ 32 :: r) = q :: splitS r := by rw [splitS_append, splitS_no q h]; rfl
theorem splitS_len (s : Str) : (splitS s).length = s.count 32 + 1 := by
  induction s with
  | nil => rfl
  | cons c t ih =>
    rw [splitS]
    split
    · rename_i h; subst h; rw [List.length_cons, ih, List.count_cons_self]
    · rename_i h
      rw [List.count_cons_of_ne (fun e => h (by simpa using e))]
      cases h2 : splitS t with
      | nil => exact absurd h2 (splitS_ne t)
      | cons a r => rw [h2] at ih; exact ih
theorem splitS_mem : ∀ (s : Str), ∀ x ∈ splitS s, 32 ∉ x ∧ x.length ≤ s.length
  | [], x, h => by simp [splitS] at h; subst h; simp
  | c :: t, x, h => by
    rw [splitS] at h
    split at h
    · rcases List.mem_cons.1 h with rfl | h
      · simp
      · have := splitS_mem t x h
        exact ⟨this.1, by rw [List.length_cons]; omega⟩
    · rename_i hc
      cases h2 : splitS t with
      | nil => exact absurd h2 (splitS_ne t)
      | cons a r =>
        rw [h2] at h
        rcases List.mem_cons.1 h with rfl | h
        · have := splitS_mem t a (by rw [h2]; exact .head _)
          refine ⟨?_, by simp only [List.length_cons]; omega⟩
          simp only [List.mem_cons, not_or]
          exact ⟨fun e => hc e.symm, this.1⟩
        · have := splitS_mem t x (by rw [h2]; exact .tail _ h)
          exact ⟨this.1, by rw [List.length_cons]; omega⟩

inductive Q where
  | node (kind : Int) (text : Str) (num : Int) (parts : List Q)
namespace Q
def kind : Q → Int | .node k _ _ _ => k
def text : Q → Str | .node _ t _ _ => t
def num : Q → Int | .node _ _ n _ => n
def parts : Q → List Q | .node _ _ _ l => l
@[simp] theorem kind_node (k : Int) (t : Str) (n : Int) (l : List Q) : (Q.node k t n l).kind = k := rfl
@[simp] theorem text_node (k : Int) (t : Str) (n : Int) (l : List Q) : (Q.node k t n l).text = t := rfl
@[simp] theorem num_node (k : Int) (t : Str) (n : Int) (l : List Q) : (Q.node k t n l).num = n := rfl
@[simp] theorem parts_node (k : Int) (t : Str) (n : Int) (l : List Q) : (Q.node k t n l).parts = l := rfl
/-- the greatest of some numbers -/
def top : List Nat → Nat
  | [] => 0
  | a :: l => max a (top l)
theorem top_le {l : List Nat} {n : Nat} : top l ≤ n ↔ ∀ a ∈ l, a ≤ n := by
  induction l with
  | nil => simp [top]
  | cons a l ih =>
    rw [top]
    constructor
    · intro h b hb
      rcases List.mem_cons.1 hb with rfl | hb
      · omega
      · exact ih.1 (by omega) b hb
    · intro h
      have h1 := h a (.head _)
      have h2 := ih.2 fun b hb => h b (.tail _ hb)
      omega
/-- the levels, f at most -/
def lev : Nat → Q → Nat
  | 0, _ => 0
  | f + 1, q => top (q.parts.map (lev f)) + 1
/-- the nodes in order, of f levels -/
def pre : Nat → Q → List Q
  | 0, _ => []
  | f + 1, q => q :: q.parts.flatMap (pre f)
/-- f levels are enough -/
def Fits : Nat → Q → Prop
  | 0, _ => False
  | f + 1, q => ∀ p ∈ q.parts, Fits f p
theorem lev_fits : ∀ (f : Nat) (q : Q), lev (f + 1) q ≤ f ↔ Fits f q
  | 0, q => by simp [lev, Fits]
  | f + 1, q => by
    rw [lev, Fits, Nat.add_le_add_iff_right, top_le]
    simp only [List.mem_map, forall_exists_index, and_imp, forall_apply_eq_imp_iff₂]
    exact ⟨fun h p hp => (lev_fits f p).1 (h p hp), fun h p hp => (lev_fits f p).2 (h p hp)⟩
theorem Fits.succ : ∀ {f : Nat} {q : Q}, Fits f q → Fits (f + 1) q
  | 0, q, h => h.elim
  | f + 1, q, h => fun p hp => Fits.succ (h p hp)
theorem flatMap_same {α β : Type} {l : List α} {f g : α → List β} (h : ∀ a ∈ l, f a = g a) : l.flatMap f = l.flatMap g := by
  induction l with
  | nil => rfl
  | cons a l ih => rw [List.flatMap_cons, List.flatMap_cons, h a (.head _), ih fun b hb => h b (.tail _ hb)]
theorem pre_fits : ∀ {f : Nat} {q : Q}, Fits f q → pre (f + 1) q = pre f q
  | 0, q, h => h.elim
  | f + 1, q, h => by
    rw [pre, pre, flatMap_same fun p hp => pre_fits (h p hp)]
theorem pre_mem_fits : ∀ {f : Nat} {q : Q}, Fits f q → ∀ p ∈ pre f q, Fits f p
  | 0, q, h, p, hp => by cases hp
  | f + 1, q, h, p, hp => by
    rw [pre] at hp
    rcases List.mem_cons.1 hp with rfl | hp
    · exact h
    · obtain ⟨r, hr, hp⟩ := List.mem_flatMap.1 hp
      exact (pre_mem_fits (h r hr) p hp).succ
/-- the parts of a node are fewer than the nodes -/
theorem pre_parts : ∀ {f : Nat} {q : Q}, Fits f q → ∀ p ∈ pre f q, p.parts.length < (pre f q).length
  | 0, q, h, p, hp => by cases hp
  | f + 1, q, h, p, hp => by
    have hle : ∀ l : List Q, (∀ r ∈ l, Fits f r) → l.length ≤ (l.flatMap (pre f)).length := by
      intro l
      induction l with
      | nil => intro _; exact Nat.le_refl _
      | cons r l ih =>
        intro hl
        have h1 := ih fun x hx => hl x (.tail _ hx)
        have h2 : 1 ≤ (pre f r).length := by
          match f, hl r (.head _) with
          | f + 1, _ => rw [pre, List.length_cons]; omega
        rw [List.flatMap_cons, List.length_append, List.length_cons]
        omega
    rw [pre] at hp ⊢
    rcases List.mem_cons.1 hp with rfl | hp
    · have := hle _ h
      rw [List.length_cons]; omega
    · obtain ⟨r, hr, hp⟩ := List.mem_flatMap.1 hp
      have h1 := pre_parts (h r hr) p hp
      have h2 : (pre f r).length ≤ (q.parts.flatMap (pre f)).length := by
        obtain ⟨s, t, e⟩ := List.append_of_mem hr
        rw [e, List.flatMap_append, List.flatMap_cons, List.length_append, List.length_append]
        omega
      rw [List.length_cons]; omega
/-- a word in lower case -/
def wordOk (s : Str) : Bool := decide (s.length ≤ 8000) && (Sm.words s == [s])
/-- what a kind permits: the least number of parts, the greatest one, the words -/
def least (k : Int) : Int := if k = 6 ∨ k = 7 then 2 else if k = 8 then 1 else 0
def most (k : Int) : Int := if k = 6 ∨ k = 7 then 60 else if k = 8 then 1 else 0
def wants (k : Int) : Int := if k = 2 ∨ k = 3 then 1 else if k = 4 then -1 else if k = 5 then 2 else 0
/-- the code of the error of a node -/
def errOf (q : Q) : Int :=
  if (decide (q.kind < 1) || decide (8 < q.kind)) = true then 4
  else if (q.parts.length : Int) < least q.kind ∨ most q.kind < (q.parts.length : Int) ∨ (q.kind ≠ 5 ∧ q.num ≠ 0) ∨ (wants q.kind = 0 ∧ q.text ≠ []) then 5
  else if q.kind = 5 ∧ (q.num < 1 ∨ 50 < q.num) then 3
  else if wants q.kind ≠ 0 ∧ ((splitS q.text).all wordOk = false ∨ (0 < wants q.kind ∧ ((splitS q.text).length : Int) ≠ wants q.kind)) then 10
  else 0
/-- the first error of some nodes -/
def errGo : List Q → Int → Int × Int
  | [], _ => (0, 0)
  | q :: l, i => if errOf q = 0 then errGo l (i + 1) else (errOf q, i)
/-- the fault of a query -/
def fault (q : Q) : Int × Int :=
  if 8 < lev 9 q then (2, -3) else if 60 < (pre 9 q).length then (2, -2) else errGo (pre 9 q) 0
theorem errGo_append (a b : List Q) (i : Int) : errGo (a ++ b) i = if (errGo a i).1 = 0 then errGo b (i + a.length) else errGo a i := by
  induction a generalizing i with
  | nil => simp [errGo]
  | cons q a ih =>
    rw [List.cons_append, errGo, errGo]
    by_cases h : errOf q = 0
    · rw [if_pos h, if_pos h, ih, List.length_cons]
      have : i + 1 + (a.length : Int) = i + ((a.length + 1 : Nat) : Int) := by omega
      rw [this]
    · rw [if_neg h, if_neg h, if_neg h]
theorem errGo_zero {l : List Q} {i : Int} : (errGo l i).1 = 0 ↔ ∀ q ∈ l, errOf q = 0 := by
  induction l generalizing i with
  | nil => simp [errGo]
  | cons q l ih =>
    rw [errGo]
    by_cases h : errOf q = 0
    · rw [if_pos h, ih]; simp [h]
    · rw [if_neg h]; simp [h]
theorem errGo_zero2 {l : List Q} {i : Int} (h : (errGo l i).1 = 0) : errGo l i = (0, 0) := by
  induction l generalizing i with
  | nil => rfl
  | cons q l ih =>
    rw [errGo] at h ⊢
    by_cases e : errOf q = 0
    · rw [if_pos e] at h ⊢; exact ih h
    · rw [if_neg e] at h; exact absurd h e
/-- what a valid query is like -/
theorem fault_zero {q : Q} : (fault q).1 = 0 ↔ Fits 8 q ∧ (pre 8 q).length ≤ 60 ∧ ∀ p ∈ pre 8 q, errOf p = 0 := by
  unfold fault
  have h89 : lev 9 q ≤ 8 ↔ Fits 8 q := lev_fits 8 q
  by_cases h : 8 < lev 9 q
  · rw [if_pos h]
    constructor
    · intro e; exact absurd e (by decide)
    · rintro ⟨e, _⟩; have := h89.2 e; omega
  · have hf := (show lev 9 q ≤ 8 ↔ Fits 8 q from lev_fits 8 q).1 (by omega)
    rw [if_neg h, pre_fits hf]
    by_cases h2 : 60 < (pre 8 q).length
    · rw [if_pos h2]
      constructor
      · intro e; exact absurd e (by decide)
      · rintro ⟨_, e, _⟩; omega
    · rw [if_neg h2, errGo_zero]
      exact ⟨fun e => ⟨hf, by omega, e⟩, fun e => e.2.2⟩
theorem fault_zero2 {q : Q} (h : (fault q).1 = 0) : fault q = (0, 0) := by
  unfold fault at h ⊢
  split at h
  · exact absurd h (by decide)
  · split at h
    · exact absurd h (by decide)
    · rename_i h1 h2
      rw [if_neg h1, if_neg h2]
      exact errGo_zero2 h
end Q
end Go.Proofs.YtfjpedgddgbelaaGreatDoor
