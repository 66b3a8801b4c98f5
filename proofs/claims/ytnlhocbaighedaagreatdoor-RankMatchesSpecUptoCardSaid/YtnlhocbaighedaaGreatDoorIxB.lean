/-
  index.term.
-/
import Derived.Test.YtnlhocbaighedaaGreatDoorR5
import Derived.Test.YtnlhocbaighedaaGreatDoorR3
import Derived.Deep.CutBlock
import Derived.Deep.DeepCutAuto
import Derived.Deep.RegionHeld3
namespace Go.Proofs.YtnlhocbaighedaaGreatDoor
open Go.RowKit
set_option linter.unusedVariables false
theorem cell_ext {w w' : World} {b i : Nat} {u : Value} (hb : Below w.heap.size w w') (h : w.cell? ⟨b, i, none⟩ = some u) : w'.cell? ⟨b, i, none⟩ = some u := by
 by_cases hlt : b < w.heap.size
 ·exact (hb.cell (p := ⟨b, i, none⟩) hlt).trans h
 ·exfalso
  have : w.heap[b]? = none := Array.getElem?_eq_none (by omega)
  simp [World.cell?, this] at h
theorem SlR.postAt {M : Nat → Prop} {w : World} {A : Option Addr} {n c : Nat} {l : List Ix.Post} (h : SlR postC M w (.slice A n c) l) {k : Nat} (hk : k < l.length) :
  ∃ b off A2 c2, A = some ⟨b, off, none⟩ ∧ ¬ M b ∧ b < w.heap.size ∧ w.cell? ⟨b, off + k * 2, none⟩ = some (.int .i64 l[k].1) ∧ w.cell? ⟨b, off + k * 2 + 1, none⟩ = some (.slice A2 l[k].2.length c2) ∧
   -9223372036854775808 ≤ l[k].1 ∧ l[k].1 ≤ 9223372036854775807 ∧ SlR intC M w (.slice A2 l[k].2.length c2) l[k].2 := by
 obtain ⟨b, off, cs, rfl, hM, hb, ⟨c1, d1, rfl, ⟨rfl, h1⟩, ⟨v, rfl, hv⟩⟩, hc⟩ := h.at_ hk
 obtain ⟨A2, c2, rfl, _⟩ := hv.form
 exact ⟨b, off, A2, c2, rfl, hM, hb, hc 0 _ rfl, hc 1 _ rfl, h1.1, h1.2, hv⟩
theorem SlR.termAt {M : Nat → Prop} {w : World} {A : Option Addr} {n c : Nat} {l : List Ix.Term} (h : SlR termC M w (.slice A n c) l) {k : Nat} (hk : k < l.length) :
  ∃ b off A2 c2, A = some ⟨b, off, none⟩ ∧ ¬ M b ∧ b < w.heap.size ∧ w.cell? ⟨b, off + k * 2, none⟩ = some (.string (bs l[k].1)) ∧ w.cell? ⟨b, off + k * 2 + 1, none⟩ = some (.slice A2 l[k].2.length c2) ∧
   l[k].1.length ≤ maxLen ∧ SlR postC M w (.slice A2 l[k].2.length c2) l[k].2 := by
 obtain ⟨b, off, cs, rfl, hM, hb, ⟨c1, d1, rfl, ⟨rfl, h1⟩, ⟨v, rfl, hv⟩⟩, hc⟩ := h.at_ hk
 obtain ⟨A2, c2, rfl, _⟩ := hv.form
 exact ⟨b, off, A2, c2, rfl, hM, hb, hc 0 _ rfl, hc 1 _ rfl, h1, hv⟩
theorem has_ok (a b : Value) (ids : List Int) (x : Int) (w : World) (h : SlR intC M0 w a ids) (hs : ids.Pairwise (· < ·)) (hln : ids.length ≤ 1000000) : Calls Tryz.prog 74 #[.agg #[a, b], .int .i64 x] w fun e w' =>
  e = .returned (.tuple #[.int .i64 (ids.countP (· < x) : Nat), .bool (ids.contains x)]) ∧ Below w.heap.size w w' := by
 have hal := (Below.refl w.heap.size w).alloc (Nat.le_refl _) (.cells #[a, b] 25)
 have hc := bsearchI_ok M0 a ids x _ (h.ext hal) hs hln
 have Hc := Lib.hid hc
 obtain ⟨p0, p1, _, _, _⟩ := (Blk.new w 25 #[a, b]).two
 clear hc
 go_enter Tryz.func74, Tryz.ntmps74
 go_wp2_with fail
 refine Hc.out.mono ?_
 rintro e w1 ⟨rfl, hb1⟩
 go_wp2
 refine bodyPost_ret (v := .tuple #[.int .i64 (ids.countP (· < x) : Nat), .bool (ids.contains x)]) (by simp [results, Tryz.results74, go_sem]) rfl ⟨rfl, below2 hal hb1⟩
theorem make_none (B n : Nat) (w : World) (hn : n ≤ 4398046511104) (hB : B ≤ w.heap.size) : ∃ w1, (Instr.makeSlice 22 (.int .i64 0) (.int .i64 (n : Int))).run Tryz.prog w = .ok (.slice (some ⟨w.heap.size, 0, none⟩) 0 n) w1 ∧
  Own intC M0 w1 B 3 (.slice (some ⟨w.heap.size, 0, none⟩) 0 n) [] ∧ Below w.heap.size w w1 ∧ w.heap.size < w1.heap.size := by
 obtain ⟨i, hi, hz, h1, h2⟩ := info_parts (by kernel_rfl : (Tryz.prog.info? 3).map (fun i => (i.zero, i.size, i.bytes)) = some (some (.int .i64 0), 1, 8))
 obtain ⟨w1, hmk, hown, hgr⟩ := run_make_own (P := Tryz.prog) w B 22 3 i (.int .i64 0) 1 Tryz.underlying22 hi hz h1 .i64 .i64 n (by rw [h2]; omega) (by unfold maxLen; omega) hB
 have how : Own intC M0 w1 B 3 (.slice (some ⟨w.heap.size, 0, none⟩) 0 n) [] := ⟨[], hown, Els.nil _ _ _⟩
 exact ⟨w1, hmk, how, (Below.refl _ _).grown hgr (Nat.le_refl _) (fun b h => by cases h), how.lt _ rfl⟩
theorem postErr_drop (ids : List Int) (ps : List Ix.Post) (k : Nat) (hk : k < ps.length) : Ix.postErr ids (ps.drop k) = if ps[k].2.length = 0 ∨ Ix.rising ps[k].2 0 = false then 19 else if ids.contains ps[k].1 = false then 6 else Ix.postErr ids (ps.drop (k + 1)) := by
 rw [List.drop_eq_getElem_cons hk, Ix.postErr]
theorem ret_int {a b : Int} (h : a = b) : Ending.returned (.int .i64 a) = .returned (.int .i64 b) := by rw [h]
theorem below_drewN {B : Nat} {w w' : World} (h : Below B w w') (n : Nat) : Below B w (w'.drewN n) := ⟨h.os, h.tape, h.output, h.size, h.block⟩
theorem le_total_S (a b : Str) : (Op.bytesLess a b || a == b) = !ltS b a := by
 unfold ltS
 rcases ltS_total a b with h | h | h
 ·have h2 := ltS_asymm h
  unfold ltS at h h2
  rw [h, h2]; rfl
 ·subst h
  have := ltS_irrefl a
  unfold ltS at this
  rw [this]; simp
 ·have h2 := ltS_asymm h
  have h3 := ltS_ne h
  unfold ltS at h h2
  have h4 : (a == b) = false := by simpa using fun e => h3 e.symm
  rw [h, h2, h4]; rfl
set_option maxRecDepth 20000 in
set_option maxHeartbeats 4000000 in
theorem term_ok (a b : Value) (ids : List Int) (ts : List Ix.Term) (i : Nat) (w : World) (h0 : SlR intC M0 w a ids) (h1 : SlR termC M0 w b ts) (hi : i < ts.length) (hs : ids.Pairwise (· < ·)) (hln : ids.length ≤ 1000000) (hsz : ts[i].2.length ≤ 4398046511104) :
  Calls Tryz.prog 54 #[.agg #[a, b], .int .i64 (i : Int)] w fun e w' => e = .returned (.int .i64 (Ix.termErr ids ts i)) ∧ Below w.heap.size w w' := by
 obtain ⟨A, c, rfl, _, _⟩ := h1.form
 obtain ⟨hl1, hl2⟩ := h1.lenM
 obtain ⟨bt, offt, A2, c2, rfl, _, hbt, p0, p1, hwl, hps⟩ := h1.termAt hi
 have hE : Ix.termErr ids ts i = if Ix.postErr ids ts[i].2 ≠ 0 then Ix.postErr ids ts[i].2 else if ts[i].1.length = 0 ∨ 8000 < ts[i].1.length then 10 else if ts[i].2.length = 0 ∨ Ix.rising (ts[i].2.map fun p => p.1) 1 = false ∨ Ix.wordBad ts i = true then 19 else 0 := by
  unfold Ix.termErr
  rw [Ix.getD_get hi]
 have hwb : Ix.wordBad ts i = (decide (0 < i) && !ltS (ts.getD (i - 1) ([], [])).1 ts[i].1) := by unfold Ix.wordBad; rw [Ix.getD_get hi]
 obtain ⟨⟨wd, ps⟩, ht⟩ : ∃ t, ts[i] = t := ⟨_, rfl⟩
 rw [ht] at p0 p1 hwl hps hE hsz hwb
 dsimp only at p0 p1 hwl hps hE hsz hwb
 have HE := Lib.hid hE; have Hwb := Lib.hid hwb
 clear hE hwb ht
 obtain ⟨hp1, hp2⟩ := hps.lenM
 have hil : (i : Int) < (ts.length : Int) := by omega
 have hi0 : (0 : Int) ≤ (i : Int) := by omega
 have hiw : IntKind.i64.wrap (i : Int) = (i : Int) := IntWalk.i64_in _ (by omega)
 obtain ⟨W1, hW1⟩ : ∃ W1, (w.alloc (.cells #[a, .slice (some ⟨bt, offt, none⟩) ts.length c] 25)).alloc (.cells #[.string (bs wd), .slice A2 ps.length c2] 62) = W1 := ⟨_, rfl⟩
 have hal : Below w.heap.size w W1 := by rw [← hW1]; exact ((Below.refl _ _).alloc (Nat.le_refl _) _).alloc (by simp) _
 have hs1 : W1.heap.size = w.heap.size + 2 := by rw [← hW1]; simp
 have kb : Blk W1 w.heap.size 25 #[a, .slice (some ⟨bt, offt, none⟩) ts.length c] := hW1 ▸ (Blk.new w _ _).alloc _
 have kt : Blk W1 (w.heap.size + 1) 62 #[.string (bs wd), .slice A2 ps.length c2] := hW1 ▸ (by have := Blk.new (w.alloc (.cells #[a, .slice (some ⟨bt, offt, none⟩) ts.length c] 25)) 62 #[.string (bs wd), .slice A2 ps.length c2]; simpa using this)
 obtain ⟨W2, hmk, hown, hbm, _⟩ := make_none W1.heap.size ps.length W1 hsz (Nat.le_refl _)
 obtain ⟨g, hg⟩ : ∃ g, W1.heap.size = g := ⟨_, rfl⟩
 rw [hg] at hmk hown
 have Hg := Lib.hid (And.intro hg hs1)
 obtain ⟨q0, q1, _, _, _⟩ := kb.two
 obtain ⟨r0, r1, _, _, _⟩ := kt.two
 have kb2 := kb.ext hbm
 have kt2 := kt.ext hbm
 have hb2 := hal.trans (hbm.mono hal.size)
 rw [← hW1] at hmk q0 q1 r0 r1
 obtain ⟨_, s1, _, _, _⟩ := kt2.two
 clear hbm hal hW1
 go_enter Tryz.func54, Tryz.ntmps54
 go_wp2
 clear hmk q0 q1 r0 r1 kb kt hg s1
 obtain ⟨g1, hg1⟩ : ∃ g1, w.heap.size + 1 = g1 := ⟨_, rfl⟩
 rw [hg1] at kt2 ⊢
 have Hg1 : Hid (g = w.heap.size + 2 ∧ g1 = w.heap.size + 1) := Lib.hid (by have := Hg.out; omega)
 clear hg1 hs1
 go_loopw [6, 23] (fun sv jv wr => ∃ (k : Nat) (A3 : Option Addr) (c3 : Nat) (L : List Int), k ≤ ps.length ∧ jv = .int .i64 (k : Int) ∧ sv = .slice A3 L.length c3 ∧ Hid (L = (ps.take k).map fun p => p.1) ∧ Hid (Ix.postErr ids ps = Ix.postErr ids (ps.drop k)) ∧ Own intC M0 wr g 3 sv L ∧
  Below w.heap.size w wr ∧ Blk wr w.heap.size 25 #[a, .slice (some ⟨bt, offt, none⟩) ts.length c] ∧ Blk wr g1 62 #[.string (bs wd), .slice A2 ps.length c2]) (fun _ jv _ => ps.length - (intOf jv).toNat)
 case atStart => exact ⟨0, some ⟨g, 0, none⟩, ps.length, [], Nat.zero_le _, rfl, rfl, Lib.hid rfl, Lib.hid rfl, hown, hb2, kb2, kt2⟩
 case round =>
  obtain ⟨k, A3, c3, L, hk, rfl, rfl, hL, hP, own, hbr, kb, kt⟩ := hrel
  clear hown hb2 kb2 kt2
  have hLl : Hid (L.length = k) := Lib.hid (by rw [hL.out, List.length_map, List.length_take]; omega)
  by_cases hlt : k < ps.length
  ·obtain ⟨bp, offp, A4, c4, rfl, _, _, x0, x1, xl1, xl2, hpl⟩ := (hps.ext hbr).postAt hlt
   have hst := postErr_drop ids ps k hlt
   rw [← hP.out] at hst
   have hLs : Hid (L ++ [ps[k].1] = (ps.take (k + 1)).map fun p => p.1) := Lib.hid (by rw [hL.out, List.take_succ_eq_append_getElem hlt, List.map_append]; rfl)
   obtain ⟨⟨pid, pl⟩, hp⟩ : ∃ p, ps[k] = p := ⟨_, rfl⟩
   rw [hp] at x0 x1 xl1 xl2 hpl hst hLs
   dsimp only at x0 x1 xl1 xl2 hpl hst hLs
   have hal := (Below.refl wr.heap.size wr).alloc (Nat.le_refl _) (.cells #[.int .i64 pid, .slice A4 pl.length c4] 64)
   have kp := Blk.new wr 64 #[.int .i64 pid, .slice A4 pl.length c4]
   obtain ⟨W, hW⟩ : ∃ W, wr.alloc (.cells #[.int .i64 pid, .slice A4 pl.length c4] 64) = W := ⟨_, rfl⟩
   rw [hW] at hal kp
   have hris := rising_ok M0 (.slice A4 pl.length c4) pl 0 W (hpl.ext hal)
   obtain ⟨r, hr⟩ : ∃ r, Ix.rising pl 0 = r := ⟨_, rfl⟩
   rw [hr] at hris hst
   have hbr := hbr.trans (hal.mono hbr.size)
   have own := own.ext hal
   have kb := kb.ext hal
   have kt := kt.ext hal
   obtain ⟨y0, y1, _, _, _⟩ := kp.two
   have Hris := Lib.hid hris; have Hst := Lib.hid hst; have HW := Lib.hid hW; have Hkp := Lib.hid kp
   have hkil : (k : Int) < (ps.length : Int) := by omega
   have hki0 : (0 : Int) ≤ (k : Int) := by omega
   have hkiw : IntKind.i64.wrap (k : Int) = (k : Int) := IntWalk.i64_in _ (by omega)
   obtain ⟨hpl1, hpl2⟩ := hpl.lenM
   clear hris hst hp hr hP hpl hal kp
   rw [← hW] at y0 y1
   clear hW
   by_cases hl0 : pl.length = 0
   ·have hpe : Ix.postErr ids ps = 19 := by rw [Hst.out, if_pos (.inl hl0)]
    have Hpe := Lib.hid hpe
    have hlb : ((pl.length : Int) == 0) = true := by simp [hl0]
    clear hpe Hst Hris
    go_wp2
    go_ret
    exact ⟨by rw [HE.out, Hpe.out]; rfl, by have h9 := hbr; rw [← HW.out, hl0] at h9; exact h9⟩
   ·have hlb : ((pl.length : Int) == 0) = false := by
     have h9 : ¬ (pl.length : Int) = 0 := by omega
     simpa using h9
    go_wp2_with fail
    rw [HW.out]
    refine Hris.out.mono ?_
    rintro e w2 ⟨rfl, rfl⟩
    cases r with
    | false =>
     have hpe : Ix.postErr ids ps = 19 := by rw [Hst.out, if_pos (.inr rfl)]
     have Hpe := Lib.hid hpe
     clear hpe Hst Hris y0 y1
     go_wp2
     go_ret
     exact ⟨by rw [HE.out, Hpe.out]; rfl, hbr⟩
    | true =>
     have hst := Hst.out
     rw [if_neg (fun h => h.elim hl0 (fun h => by cases h))] at hst
     have hhas := has_ok a (.slice (some ⟨bt, offt, none⟩) ts.length c) ids pid W (h0.ext hbr) hs hln
     obtain ⟨t, ht⟩ : ∃ t, ids.contains pid = t := ⟨_, rfl⟩
     rw [ht] at hst hhas
     have Hhas := Lib.hid hhas; have Hst := Lib.hid hst
     clear y0 y1
     obtain ⟨y0, y1, _, _, _⟩ := Hkp.out.two
     obtain ⟨z0, z1, _, _, _⟩ := kb.two
     clear hst hhas ht Hris HW
     go_wp2_with fail
     refine Hhas.out.mono ?_
     rintro e w2 ⟨rfl, hb2⟩
     have hbr := hbr.trans (hb2.mono hbr.size)
     have own := own.ext hb2
     have kb := kb.ext hb2
     have kt := kt.ext hb2
     have kp := Hkp.out.ext hb2
     clear y0 y1 z0 z1 hb2
     obtain ⟨y0, y1, _, _, _⟩ := kp.two
     cases t with
     | false =>
      have hpe : Ix.postErr ids ps = 6 := by rw [Hst.out, if_pos rfl]
      have Hpe := Lib.hid hpe
      clear hpe Hst Hhas
      go_wp2
      go_ret
      exact ⟨by rw [HE.out, Hpe.out]; rfl, hbr⟩
     | true =>
      have hst := Hst.out
      rw [if_neg (by simp)] at hst
      have hP : Hid (Ix.postErr ids ps = Ix.postErr ids (ps.drop (k + 1))) := Lib.hid hst
      have hbs : g ≤ w2.heap.size := by have := Hg1.out; have := kt.lt; omega
      clear Hst Hhas hst
      go_wp2_with (at_builtin; refine wpList_push_Own intC (M := M0) (B := g) TInts rfl (.tmp 46) (.tmp 49) rfl rfl own rfl (cs := [.int .i64 pid]) (y := pid) ⟨rfl, xl1, xl2⟩ (fun _ h => h.elim) ?a1 ?b1 hbs ?_)
      case a1 => have := hLl.out; simp only [maxLen]; omega
      case b1 => have := hLl.out; omega
      intro A5 c5 L5 w5 hL5 own5 hb5 _ _
      have hbr5 := hbr.trans (hb5.mono (by have := Hg1.out; omega))
      have kb5 := kb.keep (hb5.block _ (by have := Hg1.out; omega))
      have kt5 := kt.keep (hb5.block _ (by have := Hg1.out; omega))
      clear own y0 y1 hbr kb kt kp Hkp
      go_wp2
      go_roundw
      case rel => exact ⟨k + 1, A5, c5, L5, by omega, by go_num, rfl, Lib.hid (by rw [hL5.out, hLs.out]), hP, own5, hbr5, kb5, kt5⟩
      case measure => simp [intOf]; omega
  ·obtain rfl : k = ps.length := by omega
   have hpz : Ix.postErr ids ps = 0 := by rw [hP.out, List.drop_length]; rfl
   have hLa : Hid (L = ps.map fun p => p.1) := Lib.hid (by rw [hL.out, List.take_length])
   have hE2 := HE.out
   rw [hpz, if_neg (by simp)] at hE2
   have HE2 := Lib.hid hE2
   have hrs := rising_ok M0 (.slice A3 L.length c3) L 1
   obtain ⟨_, _⟩ := own.read0.lenM
   clear hE2 hP hL hpz hk hlt HE
   obtain ⟨z0, z1, _, _, _⟩ := kb.two
   obtain ⟨y0, y1, _, _, _⟩ := kt.two
   have hLl2 : Hid (L.length = ps.length) := hLl
   clear hLl
   by_cases hw0 : wd.length = 0
   ·obtain rfl : wd = [] := List.eq_nil_of_length_eq_zero hw0
    go_wp2
    go_ret
    exact ⟨ret_int (by rw [HE2.out, if_pos (.inl rfl)]), hbr⟩
   have hwe : (wd == []) = false := by
    have : wd ≠ [] := fun e => hw0 (by rw [e]; rfl)
    simpa using this
   by_cases hw8 : 8000 < wd.length
   ·go_wp2
    go_ret
    exact ⟨ret_int (by rw [HE2.out, if_pos (.inr hw8)]), hbr⟩
   have hE3 := HE2.out
   rw [if_neg (fun h => h.elim hw0 hw8)] at hE3
   have HE3 := Lib.hid hE3
   clear hE3 HE2
   by_cases hL0 : L.length = 0
   ·have hlb : ((L.length : Int) == 0) = true := by simp [hL0]
    obtain rfl : L = [] := List.eq_nil_of_length_eq_zero hL0
    have hps0 : ps.length = 0 := by rw [← hLl2.out]; rfl
    have hres : Ix.termErr ids ts i = 19 := by rw [HE3.out, if_pos (.inl hps0)]
    have Hres := Lib.hid hres
    clear hres hps0 HE3 hrs
    go_wp2
    go_quiet (fail)
    go_wp2
    go_ret
    exact ⟨ret_int Hres.out.symm, below_drewN hbr _⟩
   have hlb : ((L.length : Int) == 0) = false := by
    have h9 : ¬ (L.length : Int) = 0 := by omega
    simpa using h9
   have hps0 : ¬ ps.length = 0 := by rw [← hLl2.out]; exact hL0
   have hE4 := HE3.out
   rw [← hLa.out] at hE4
   have hrs2 := fun W (hb : Below wr.heap.size wr W) => hrs W ((own.ext hb).read0)
   obtain ⟨r, hr⟩ : ∃ r, Ix.rising L 1 = r := ⟨_, rfl⟩
   rw [hr] at hrs2 hE4
   have HE4 := Lib.hid hE4; have Hrs := Lib.hid hrs2
   clear hE4 hrs2 hrs hr HE3
   cases r with
   | false =>
    have hres : Ix.termErr ids ts i = 19 := by rw [HE4.out, if_pos (.inr (.inl rfl))]
    have Hres := Lib.hid hres
    clear hres HE4
    go_wp2
    have hS : True := trivial
    refine wp_region_D (fun W => True) (fun _ => false) (by kernel_rfl) ?_
    (refine anyD_l5 (i := 0) (v := ?_) rfl (by kernel_rfl) (fun _ _ _ h => h) (.inl ⟨by kernel_rfl, fun W9 hW9 => ?_⟩) hS ?_; rotate_left; · (go_simp; rfl))
    (refine anyD_l5 (i := 1) (v := ?_) rfl (by kernel_rfl) (fun _ _ _ h => h) (.inl ⟨by kernel_rfl, fun W9 hW9 => ?_⟩) hS ?_; rotate_left; · (go_simp; rfl))
    (refine anyD_l5 (i := 2) (v := ?_) rfl (by kernel_rfl) (fun _ _ _ h => h) (.inl ⟨by kernel_rfl, fun W9 hW9 => ?_⟩) hS ?_; rotate_left; · (go_simp; rfl))
    (refine anyD_l5 (i := 3) (v := ?_) rfl (by kernel_rfl) (fun _ _ _ h => h) (.inl ⟨by kernel_rfl, fun W9 hW9 => ?_⟩) hS ?_; rotate_left; · (go_simp; rfl))
    first | (refine anyD_l5 (i := 4) (v := ?_) rfl (by kernel_rfl) (fun _ _ _ h => h) (.inl ⟨by kernel_rfl, fun W9 hW9 => ?_⟩) hS ?_; rotate_left; · (go_simp; rfl)) | (refine anyD_l5 (i := 4) (v := undef) rfl (by kernel_rfl) (fun _ _ _ h => h) (.inr ⟨by kernel_rfl, rfl⟩) hS ?_)
    go_simp
    refine anyD_oneG (i := 5) (by kernel_rfl) rfl rfl (fun K hK => ?_)
    have HK := Lib.hid hK
    clear hK
    unfold Oper.wp
    go_simp
    refine (Hrs.out _ (below_drewN' wr.heap.size wr 1)).mono ?_
    rintro e w9 ⟨rfl, rfl⟩
    have hS := trivial
    refine HK.out _ _ (fun _ => hS) ?_
    clear HK
    first | (refine anyD_l5 (i := 6) (v := ?_) rfl (by kernel_rfl) (fun _ _ _ h => h) (.inl ⟨by kernel_rfl, fun W9 hW9 => ?_⟩) hS ?_; rotate_left; · (go_simp; rfl)) | (refine anyD_l5 (i := 6) (v := undef) rfl (by kernel_rfl) (fun _ _ _ h => h) (.inr ⟨by kernel_rfl, rfl⟩) hS ?_)
    (refine anyD_l5 (i := 7) (v := ?_) rfl (by kernel_rfl) (fun _ _ _ h => h) (.inl ⟨by kernel_rfl, fun W9 hW9 => ?_⟩) hS ?_; rotate_left; · (go_simp; rfl))
    (refine anyD_l5 (i := 8) (v := ?_) rfl (by kernel_rfl) (fun _ _ _ h => h) (.inl ⟨by kernel_rfl, fun W9 hW9 => ?_⟩) hS ?_; rotate_left; · (go_simp; rfl))
    (refine anyD_l5 (i := 9) (v := undef) rfl (by kernel_rfl) (fun _ _ _ h => h) (.inr ⟨by kernel_rfl, rfl⟩) hS ?_)
    (refine anyD_l5 (i := 10) (v := undef) rfl (by kernel_rfl) (fun _ _ _ h => h) (.inr ⟨by kernel_rfl, rfl⟩) hS ?_)
    (refine anyD_l5 (i := 11) (v := undef) rfl (by kernel_rfl) (fun _ _ _ h => h) (.inr ⟨by kernel_rfl, rfl⟩) hS ?_)
    go_simp
    (refine anyD_l5 (i := 12) (v := undef) rfl (by kernel_rfl) (fun _ _ _ h => h) (.inr ⟨by kernel_rfl, rfl⟩) hS ?_)
    (refine anyD_l5 (i := 13) (v := undef) rfl (by kernel_rfl) (fun _ _ _ h => h) (.inr ⟨by kernel_rfl, rfl⟩) hS ?_)
    (refine anyD_l5 (i := 14) (v := undef) rfl (by kernel_rfl) (fun _ _ _ h => h) (.inr ⟨by kernel_rfl, rfl⟩) hS ?_)
    (refine anyD_l5 (i := 15) (v := undef) rfl (by kernel_rfl) (fun _ _ _ h => h) (.inr ⟨by kernel_rfl, rfl⟩) hS ?_)
    (refine anyD_l5 (i := 16) (v := undef) rfl (by kernel_rfl) (fun _ _ _ h => h) (.inr ⟨by kernel_rfl, rfl⟩) hS ?_)
    (refine anyD_l5 (i := 17) (v := undef) rfl (by kernel_rfl) (fun _ _ _ h => h) (.inr ⟨by kernel_rfl, rfl⟩) hS ?_)
    go_simp
    (refine anyD_l5 (i := 18) (v := undef) rfl (by kernel_rfl) (fun _ _ _ h => h) (.inr ⟨by kernel_rfl, rfl⟩) hS ?_)
    (refine anyD_l5 (i := 19) (v := undef) rfl (by kernel_rfl) (fun _ _ _ h => h) (.inr ⟨by kernel_rfl, rfl⟩) hS ?_)
    (refine anyD_l5 (i := 20) (v := undef) rfl (by kernel_rfl) (fun _ _ _ h => h) (.inr ⟨by kernel_rfl, rfl⟩) hS ?_)
    (refine anyD_l5 (i := 21) (v := undef) rfl (by kernel_rfl) (fun _ _ _ h => h) (.inr ⟨by kernel_rfl, rfl⟩) hS ?_)
    (refine anyD_l5 (i := 22) (v := undef) rfl (by kernel_rfl) (fun _ _ _ h => h) (.inr ⟨by kernel_rfl, rfl⟩) hS ?_)
    (refine anyD_l5 (i := 23) (v := ?_) rfl (by kernel_rfl) (fun _ _ _ h => h) (.inl ⟨by kernel_rfl, fun W9 hW9 => ?_⟩) hS ?_; rotate_left; · (go_simp; rfl))
    go_simp
    (refine anyD_l5 (i := 24) (v := ?_) rfl (by kernel_rfl) (fun _ _ _ h => h) (.inl ⟨by kernel_rfl, fun W9 hW9 => ?_⟩) hS ?_; rotate_left; · (go_simp; rfl))
    go_simp
    refine anyD_done (by kernel_rfl) ?_ _
    go_wp2
    go_ret
    exact ⟨ret_int Hres.out.symm, below_drew hbr⟩
   | true =>
    by_cases hi9 : i = 0
    ·subst hi9
     have hres : Ix.termErr ids ts 0 = 0 := by
      rw [HE4.out, if_neg]
      rintro (h | h | h)
      ·exact hps0 h
      ·cases h
      ·rw [Hwb.out] at h; simp at h
     have Hres := Lib.hid hres
     clear hres HE4
     go_wp2
     have hS : True := trivial
     refine wp_region_D (fun W => True) (fun _ => false) (by kernel_rfl) ?_
     (refine anyD_l5 (i := 0) (v := ?_) rfl (by kernel_rfl) (fun _ _ _ h => h) (.inl ⟨by kernel_rfl, fun W9 hW9 => ?_⟩) hS ?_; rotate_left; · (go_simp; rfl))
     (refine anyD_l5 (i := 1) (v := ?_) rfl (by kernel_rfl) (fun _ _ _ h => h) (.inl ⟨by kernel_rfl, fun W9 hW9 => ?_⟩) hS ?_; rotate_left; · (go_simp; rfl))
     (refine anyD_l5 (i := 2) (v := ?_) rfl (by kernel_rfl) (fun _ _ _ h => h) (.inl ⟨by kernel_rfl, fun W9 hW9 => ?_⟩) hS ?_; rotate_left; · (go_simp; rfl))
     (refine anyD_l5 (i := 3) (v := ?_) rfl (by kernel_rfl) (fun _ _ _ h => h) (.inl ⟨by kernel_rfl, fun W9 hW9 => ?_⟩) hS ?_; rotate_left; · (go_simp; rfl))
     first | (refine anyD_l5 (i := 4) (v := ?_) rfl (by kernel_rfl) (fun _ _ _ h => h) (.inl ⟨by kernel_rfl, fun W9 hW9 => ?_⟩) hS ?_; rotate_left; · (go_simp; rfl)) | (refine anyD_l5 (i := 4) (v := undef) rfl (by kernel_rfl) (fun _ _ _ h => h) (.inr ⟨by kernel_rfl, rfl⟩) hS ?_)
     go_simp
     refine anyD_oneG (i := 5) (by kernel_rfl) rfl rfl (fun K hK => ?_)
     have HK := Lib.hid hK
     clear hK
     unfold Oper.wp
     go_simp
     refine (Hrs.out _ (below_drewN' wr.heap.size wr 1)).mono ?_
     rintro e w9 ⟨rfl, rfl⟩
     have hS := trivial
     refine HK.out _ _ (fun _ => hS) ?_
     clear HK
     first | (refine anyD_l5 (i := 6) (v := ?_) rfl (by kernel_rfl) (fun _ _ _ h => h) (.inl ⟨by kernel_rfl, fun W9 hW9 => ?_⟩) hS ?_; rotate_left; · (go_simp; rfl)) | (refine anyD_l5 (i := 6) (v := undef) rfl (by kernel_rfl) (fun _ _ _ h => h) (.inr ⟨by kernel_rfl, rfl⟩) hS ?_)
     (refine anyD_l5 (i := 7) (v := ?_) rfl (by kernel_rfl) (fun _ _ _ h => h) (.inl ⟨by kernel_rfl, fun W9 hW9 => ?_⟩) hS ?_; rotate_left; · (go_simp; rfl))
     (refine anyD_l5 (i := 8) (v := ?_) rfl (by kernel_rfl) (fun _ _ _ h => h) (.inl ⟨by kernel_rfl, fun W9 hW9 => ?_⟩) hS ?_; rotate_left; · (go_simp; rfl))
     first | (refine anyD_l5 (i := 9) (v := ?_) rfl (by kernel_rfl) (fun _ _ _ h => h) (.inl ⟨by kernel_rfl, fun W9 hW9 => ?_⟩) hS ?_; rotate_left; · (go_simp; rfl)) | (refine anyD_l5 (i := 9) (v := undef) rfl (by kernel_rfl) (fun _ _ _ h => h) (.inr ⟨by kernel_rfl, rfl⟩) hS ?_)
     first | (refine anyD_l5 (i := 10) (v := ?_) rfl (by kernel_rfl) (fun _ _ _ h => h) (.inl ⟨by kernel_rfl, fun W9 hW9 => ?_⟩) hS ?_; rotate_left; · (go_simp; rfl)) | (refine anyD_l5 (i := 10) (v := undef) rfl (by kernel_rfl) (fun _ _ _ h => h) (.inr ⟨by kernel_rfl, rfl⟩) hS ?_)
     first | (refine anyD_l5 (i := 11) (v := ?_) rfl (by kernel_rfl) (fun _ _ _ h => h) (.inl ⟨by kernel_rfl, fun W9 hW9 => ?_⟩) hS ?_; rotate_left; · (go_simp; rfl)) | (refine anyD_l5 (i := 11) (v := undef) rfl (by kernel_rfl) (fun _ _ _ h => h) (.inr ⟨by kernel_rfl, rfl⟩) hS ?_)
     go_simp
     (refine anyD_l5 (i := 12) (v := undef) rfl (by kernel_rfl) (fun _ _ _ h => h) (.inr ⟨by kernel_rfl, rfl⟩) hS ?_)
     (refine anyD_l5 (i := 13) (v := undef) rfl (by kernel_rfl) (fun _ _ _ h => h) (.inr ⟨by kernel_rfl, rfl⟩) hS ?_)
     (refine anyD_l5 (i := 14) (v := undef) rfl (by kernel_rfl) (fun _ _ _ h => h) (.inr ⟨by kernel_rfl, rfl⟩) hS ?_)
     (refine anyD_l5 (i := 15) (v := undef) rfl (by kernel_rfl) (fun _ _ _ h => h) (.inr ⟨by kernel_rfl, rfl⟩) hS ?_)
     (refine anyD_l5 (i := 16) (v := undef) rfl (by kernel_rfl) (fun _ _ _ h => h) (.inr ⟨by kernel_rfl, rfl⟩) hS ?_)
     (refine anyD_l5 (i := 17) (v := undef) rfl (by kernel_rfl) (fun _ _ _ h => h) (.inr ⟨by kernel_rfl, rfl⟩) hS ?_)
     go_simp
     (refine anyD_l5 (i := 18) (v := undef) rfl (by kernel_rfl) (fun _ _ _ h => h) (.inr ⟨by kernel_rfl, rfl⟩) hS ?_)
     (refine anyD_l5 (i := 19) (v := undef) rfl (by kernel_rfl) (fun _ _ _ h => h) (.inr ⟨by kernel_rfl, rfl⟩) hS ?_)
     (refine anyD_l5 (i := 20) (v := undef) rfl (by kernel_rfl) (fun _ _ _ h => h) (.inr ⟨by kernel_rfl, rfl⟩) hS ?_)
     (refine anyD_l5 (i := 21) (v := undef) rfl (by kernel_rfl) (fun _ _ _ h => h) (.inr ⟨by kernel_rfl, rfl⟩) hS ?_)
     first | (refine anyD_l5 (i := 22) (v := ?_) rfl (by kernel_rfl) (fun _ _ _ h => h) (.inl ⟨by kernel_rfl, fun W9 hW9 => ?_⟩) hS ?_; rotate_left; · (go_simp; rfl)) | (refine anyD_l5 (i := 22) (v := undef) rfl (by kernel_rfl) (fun _ _ _ h => h) (.inr ⟨by kernel_rfl, rfl⟩) hS ?_)
     (refine anyD_l5 (i := 23) (v := ?_) rfl (by kernel_rfl) (fun _ _ _ h => h) (.inl ⟨by kernel_rfl, fun W9 hW9 => ?_⟩) hS ?_; rotate_left; · (go_simp; rfl))
     go_simp
     (refine anyD_l5 (i := 24) (v := ?_) rfl (by kernel_rfl) (fun _ _ _ h => h) (.inl ⟨by kernel_rfl, fun W9 hW9 => ?_⟩) hS ?_; rotate_left; · (go_simp; rfl))
     go_simp
     refine anyD_done (by kernel_rfl) ?_ _
     go_wp2
     go_ret
     exact ⟨ret_int Hres.out.symm, below_drew hbr⟩
    ·obtain ⟨j, rfl⟩ : ∃ j, i = j + 1 := ⟨i - 1, by omega⟩
     have hj : j < ts.length := by omega
     obtain ⟨bt2, offt2, A5, c5, hA, _, _, x0, _, _, _⟩ := (h1.ext hbr).termAt hj
     injection hA with hA
     injection hA with hA1 hA2
     subst hA1 hA2
     have hwb := Hwb.out
     rw [Nat.add_sub_cancel, Ix.getD_get hj, decide_eq_true (Nat.succ_pos j), Bool.true_and] at hwb
     obtain ⟨pw, hpw⟩ : ∃ pw, ts[j].1 = pw := ⟨_, rfl⟩
     rw [hpw] at x0 hwb
     have hle := le_total_S wd pw
     obtain ⟨bad, hbad⟩ : ∃ t, (!ltS pw wd) = t := ⟨_, rfl⟩
     rw [hbad] at hle hwb
     have hE5 := HE4.out
     rw [hwb] at hE5
     have HE5 := Lib.hid hE5
     have hj1 : ((j + 1 : Nat) : Int) - 1 = (j : Int) := by omega
     have hj2 : (0 : Int) < ((j + 1 : Nat) : Int) := by omega
     have hjw : IntKind.i64.wrap (j : Int) = (j : Int) := IntWalk.i64_in _ (by omega)
     have hjl : (j : Int) < (ts.length : Int) := by omega
     have hj0 : (0 : Int) ≤ (j : Int) := by omega
     have hSS : ∀ W, Below wr.heap.size wr W → W.cell? ⟨g1, 0, none⟩ = some (.string (bs wd)) ∧ W.cell? ⟨w.heap.size, 1, none⟩ = some (.slice (some ⟨bt, offt, none⟩) ts.length c) ∧ W.cell? ⟨bt, offt + j * 2, none⟩ = some (.string (bs pw)) := fun W hW => ⟨cell_ext hW y0, cell_ext hW z1, cell_ext hW x0⟩
     have HS := Lib.hid hSS
     have hS := HS.out _ (below_drewN' wr.heap.size wr 1)
     clear hSS hE5 HE4 hwb Hwb hbad hpw
     go_wp2
     refine wp_region_D (fun W => W.cell? ⟨g1, 0, none⟩ = some (.string (bs wd)) ∧ W.cell? ⟨w.heap.size, 1, none⟩ = some (.slice (some ⟨bt, offt, none⟩) ts.length c) ∧ W.cell? ⟨bt, offt + j * 2, none⟩ = some (.string (bs pw))) (fun _ => false) (by kernel_rfl) ?_
     (refine anyD_l5 (i := 0) (v := ?_) rfl (by kernel_rfl) (fun _ _ _ h => h) (.inl ⟨by kernel_rfl, fun W9 hW9 => ?_⟩) hS ?_; rotate_left; · (obtain ⟨hw0, hw1, hw2⟩ := hW9; go_simp; rfl))
     (refine anyD_l5 (i := 1) (v := ?_) rfl (by kernel_rfl) (fun _ _ _ h => h) (.inl ⟨by kernel_rfl, fun W9 hW9 => ?_⟩) hS ?_; rotate_left; · (obtain ⟨hw0, hw1, hw2⟩ := hW9; go_simp; rfl))
     (refine anyD_l5 (i := 2) (v := ?_) rfl (by kernel_rfl) (fun _ _ _ h => h) (.inl ⟨by kernel_rfl, fun W9 hW9 => ?_⟩) hS ?_; rotate_left; · (obtain ⟨hw0, hw1, hw2⟩ := hW9; go_simp; rfl))
     (refine anyD_l5 (i := 3) (v := ?_) rfl (by kernel_rfl) (fun _ _ _ h => h) (.inl ⟨by kernel_rfl, fun W9 hW9 => ?_⟩) hS ?_; rotate_left; · (obtain ⟨hw0, hw1, hw2⟩ := hW9; go_simp; rfl))
     first | (refine anyD_l5 (i := 4) (v := ?_) rfl (by kernel_rfl) (fun _ _ _ h => h) (.inl ⟨by kernel_rfl, fun W9 hW9 => ?_⟩) hS ?_; rotate_left; · (obtain ⟨hw0, hw1, hw2⟩ := hW9; go_simp; rfl)) | (refine anyD_l5 (i := 4) (v := undef) rfl (by kernel_rfl) (fun _ _ _ h => h) (.inr ⟨by kernel_rfl, rfl⟩) hS ?_)
     go_simp
     refine anyD_oneG (i := 5) (by kernel_rfl) rfl rfl (fun K hK => ?_)
     have HK := Lib.hid hK
     clear hK
     unfold Oper.wp
     go_simp
     refine (Hrs.out _ (below_drewN' wr.heap.size wr 1)).mono ?_
     rintro e w9 ⟨rfl, rfl⟩
     have hS := HS.out _ (below_drewN' wr.heap.size wr 1)
     refine HK.out _ _ (fun _ => hS) ?_
     clear HK
     first | (refine anyD_l5 (i := 6) (v := ?_) rfl (by kernel_rfl) (fun _ _ _ h => h) (.inl ⟨by kernel_rfl, fun W9 hW9 => ?_⟩) hS ?_; rotate_left; · (obtain ⟨hw0, hw1, hw2⟩ := hW9; go_simp; rfl)) | (refine anyD_l5 (i := 6) (v := undef) rfl (by kernel_rfl) (fun _ _ _ h => h) (.inr ⟨by kernel_rfl, rfl⟩) hS ?_)
     (refine anyD_l5 (i := 7) (v := ?_) rfl (by kernel_rfl) (fun _ _ _ h => h) (.inl ⟨by kernel_rfl, fun W9 hW9 => ?_⟩) hS ?_; rotate_left; · (obtain ⟨hw0, hw1, hw2⟩ := hW9; go_simp; rfl))
     (refine anyD_l5 (i := 8) (v := ?_) rfl (by kernel_rfl) (fun _ _ _ h => h) (.inl ⟨by kernel_rfl, fun W9 hW9 => ?_⟩) hS ?_; rotate_left; · (obtain ⟨hw0, hw1, hw2⟩ := hW9; go_simp; rfl))
     first | (refine anyD_l5 (i := 9) (v := ?_) rfl (by kernel_rfl) (fun _ _ _ h => h) (.inl ⟨by kernel_rfl, fun W9 hW9 => ?_⟩) hS ?_; rotate_left; · (obtain ⟨hw0, hw1, hw2⟩ := hW9; go_simp; rfl)) | (refine anyD_l5 (i := 9) (v := undef) rfl (by kernel_rfl) (fun _ _ _ h => h) (.inr ⟨by kernel_rfl, rfl⟩) hS ?_)
     first | (refine anyD_l5 (i := 10) (v := ?_) rfl (by kernel_rfl) (fun _ _ _ h => h) (.inl ⟨by kernel_rfl, fun W9 hW9 => ?_⟩) hS ?_; rotate_left; · (obtain ⟨hw0, hw1, hw2⟩ := hW9; go_simp; rfl)) | (refine anyD_l5 (i := 10) (v := undef) rfl (by kernel_rfl) (fun _ _ _ h => h) (.inr ⟨by kernel_rfl, rfl⟩) hS ?_)
     first | (refine anyD_l5 (i := 11) (v := ?_) rfl (by kernel_rfl) (fun _ _ _ h => h) (.inl ⟨by kernel_rfl, fun W9 hW9 => ?_⟩) hS ?_; rotate_left; · (obtain ⟨hw0, hw1, hw2⟩ := hW9; go_simp; rfl)) | (refine anyD_l5 (i := 11) (v := undef) rfl (by kernel_rfl) (fun _ _ _ h => h) (.inr ⟨by kernel_rfl, rfl⟩) hS ?_)
     go_simp
     first | (refine anyD_l5 (i := 12) (v := ?_) rfl (by kernel_rfl) (fun _ _ _ h => h) (.inl ⟨by kernel_rfl, fun W9 hW9 => ?_⟩) hS ?_; rotate_left; · (obtain ⟨hw0, hw1, hw2⟩ := hW9; go_simp; rfl)) | (refine anyD_l5 (i := 12) (v := undef) rfl (by kernel_rfl) (fun _ _ _ h => h) (.inr ⟨by kernel_rfl, rfl⟩) hS ?_)
     first | (refine anyD_l5 (i := 13) (v := ?_) rfl (by kernel_rfl) (fun _ _ _ h => h) (.inl ⟨by kernel_rfl, fun W9 hW9 => ?_⟩) hS ?_; rotate_left; · (obtain ⟨hw0, hw1, hw2⟩ := hW9; go_simp; rfl)) | (refine anyD_l5 (i := 13) (v := undef) rfl (by kernel_rfl) (fun _ _ _ h => h) (.inr ⟨by kernel_rfl, rfl⟩) hS ?_)
     first | (refine anyD_l5 (i := 14) (v := ?_) rfl (by kernel_rfl) (fun _ _ _ h => h) (.inl ⟨by kernel_rfl, fun W9 hW9 => ?_⟩) hS ?_; rotate_left; · (obtain ⟨hw0, hw1, hw2⟩ := hW9; go_simp; rfl)) | (refine anyD_l5 (i := 14) (v := undef) rfl (by kernel_rfl) (fun _ _ _ h => h) (.inr ⟨by kernel_rfl, rfl⟩) hS ?_)
     first | (refine anyD_l5 (i := 15) (v := ?_) rfl (by kernel_rfl) (fun _ _ _ h => h) (.inl ⟨by kernel_rfl, fun W9 hW9 => ?_⟩) hS ?_; rotate_left; · (obtain ⟨hw0, hw1, hw2⟩ := hW9; go_simp; rfl)) | (refine anyD_l5 (i := 15) (v := undef) rfl (by kernel_rfl) (fun _ _ _ h => h) (.inr ⟨by kernel_rfl, rfl⟩) hS ?_)
     first | (refine anyD_l5 (i := 16) (v := ?_) rfl (by kernel_rfl) (fun _ _ _ h => h) (.inl ⟨by kernel_rfl, fun W9 hW9 => ?_⟩) hS ?_; rotate_left; · (obtain ⟨hw0, hw1, hw2⟩ := hW9; go_simp; rfl)) | (refine anyD_l5 (i := 16) (v := undef) rfl (by kernel_rfl) (fun _ _ _ h => h) (.inr ⟨by kernel_rfl, rfl⟩) hS ?_)
     first | (refine anyD_l5 (i := 17) (v := ?_) rfl (by kernel_rfl) (fun _ _ _ h => h) (.inl ⟨by kernel_rfl, fun W9 hW9 => ?_⟩) hS ?_; rotate_left; · (obtain ⟨hw0, hw1, hw2⟩ := hW9; go_simp; rfl)) | (refine anyD_l5 (i := 17) (v := undef) rfl (by kernel_rfl) (fun _ _ _ h => h) (.inr ⟨by kernel_rfl, rfl⟩) hS ?_)
     go_simp
     first | (refine anyD_l5 (i := 18) (v := ?_) rfl (by kernel_rfl) (fun _ _ _ h => h) (.inl ⟨by kernel_rfl, fun W9 hW9 => ?_⟩) hS ?_; rotate_left; · (obtain ⟨hw0, hw1, hw2⟩ := hW9; go_simp; rfl)) | (refine anyD_l5 (i := 18) (v := undef) rfl (by kernel_rfl) (fun _ _ _ h => h) (.inr ⟨by kernel_rfl, rfl⟩) hS ?_)
     first | (refine anyD_l5 (i := 19) (v := ?_) rfl (by kernel_rfl) (fun _ _ _ h => h) (.inl ⟨by kernel_rfl, fun W9 hW9 => ?_⟩) hS ?_; rotate_left; · (obtain ⟨hw0, hw1, hw2⟩ := hW9; go_simp; rfl)) | (refine anyD_l5 (i := 19) (v := undef) rfl (by kernel_rfl) (fun _ _ _ h => h) (.inr ⟨by kernel_rfl, rfl⟩) hS ?_)
     first | (refine anyD_l5 (i := 20) (v := ?_) rfl (by kernel_rfl) (fun _ _ _ h => h) (.inl ⟨by kernel_rfl, fun W9 hW9 => ?_⟩) hS ?_; rotate_left; · (obtain ⟨hw0, hw1, hw2⟩ := hW9; go_simp; rfl)) | (refine anyD_l5 (i := 20) (v := undef) rfl (by kernel_rfl) (fun _ _ _ h => h) (.inr ⟨by kernel_rfl, rfl⟩) hS ?_)
     first | (refine anyD_l5 (i := 21) (v := ?_) rfl (by kernel_rfl) (fun _ _ _ h => h) (.inl ⟨by kernel_rfl, fun W9 hW9 => ?_⟩) hS ?_; rotate_left; · (obtain ⟨hw0, hw1, hw2⟩ := hW9; go_simp; rfl)) | (refine anyD_l5 (i := 21) (v := undef) rfl (by kernel_rfl) (fun _ _ _ h => h) (.inr ⟨by kernel_rfl, rfl⟩) hS ?_)
     first | (refine anyD_l5 (i := 22) (v := ?_) rfl (by kernel_rfl) (fun _ _ _ h => h) (.inl ⟨by kernel_rfl, fun W9 hW9 => ?_⟩) hS ?_; rotate_left; · (obtain ⟨hw0, hw1, hw2⟩ := hW9; go_simp; rfl)) | (refine anyD_l5 (i := 22) (v := undef) rfl (by kernel_rfl) (fun _ _ _ h => h) (.inr ⟨by kernel_rfl, rfl⟩) hS ?_)
     (refine anyD_l5 (i := 23) (v := ?_) rfl (by kernel_rfl) (fun _ _ _ h => h) (.inl ⟨by kernel_rfl, fun W9 hW9 => ?_⟩) hS ?_; rotate_left; · (obtain ⟨hw0, hw1, hw2⟩ := hW9; go_simp; rfl))
     go_simp
     (refine anyD_l5 (i := 24) (v := ?_) rfl (by kernel_rfl) (fun _ _ _ h => h) (.inl ⟨by kernel_rfl, fun W9 hW9 => ?_⟩) hS ?_; rotate_left; · (obtain ⟨hw0, hw1, hw2⟩ := hW9; go_simp; rfl))
     go_simp
     refine anyD_done (by kernel_rfl) ?_ _
     cases bad with
     | true =>
      go_wp2
      go_ret
      exact ⟨ret_int (by rw [HE5.out, if_pos (by simp)]), below_drew hbr⟩
     | false =>
      go_wp2
      go_ret
      exact ⟨ret_int (by rw [HE5.out, if_neg (by simp; exact fun h => hps0 (by rw [h]; rfl))]), below_drew hbr⟩
end Go.Proofs.YtnlhocbaighedaaGreatDoor
