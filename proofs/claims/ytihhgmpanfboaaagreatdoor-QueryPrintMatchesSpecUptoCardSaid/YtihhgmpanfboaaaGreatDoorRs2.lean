/-
  The reference's QueryText.
-/
import Derived.Test.YtihhgmpanfboaaaGreatDoorK20
import Derived.Test.YtihhgmpanfboaaaGreatDoorK22
namespace Go.Proofs.YtihhgmpanfboaaaGreatDoor
open Go.RowKit
set_option linter.unusedVariables false
theorem join_snoc3 (sep : Str) (l : List Str) (x : Str) : Q.join sep (l ++ [x]) = if l = [] then x else Q.join sep l ++ (sep ++ x) := by
  cases l with
  | nil => simp [Q.join]
  | cons a l =>
    rw [if_neg (by simp)]
    simp [Q.join, List.flatMap_append]
/-- what the reference's QueryText does, at a depth -/
def RTextAt (f : Nat) : Prop := ∀ (q : Q) (v : Value) (w : World) (F : Nat), Q.Fine f q → QAt F M0 w v q → q.bulk ≤ 4000000 → Calls Tryz.prog 11 #[v] w fun e w' => e = .returned (.string (bs (Q.textF f q))) ∧ Below w.heap.size w w'
set_option maxRecDepth 100000 in
set_option maxHeartbeats 8000000 in
theorem rtext_all (A : Option Addr) (n c : Nat) (w : World) :
    Calls Tryz.prog 11 #[.agg #[.int .i64 1, .string (bs []), .int .i64 0, .slice A n c]] w fun e w' => e = .returned (.string (bs ([42]))) ∧ Below w.heap.size w w' := by
  obtain ⟨W, g, hW, hg, hs, kq, hal⟩ := boxA w #[.int .i64 1, .string (bs []), .int .i64 0, .slice A n c] 24
  obtain ⟨q0, q1, q2, q3, _⟩ := kq.four
  have Hal := Lib.hid hal; have Hkq := Lib.hid kq
  clear hal kq hs
  go_enter Tryz.func11, Tryz.ntmps11
  go_wp2_with fail
  go_ret
  exact ⟨rfl, Hal.out⟩
set_option maxRecDepth 100000 in
set_option maxHeartbeats 8000000 in
theorem rtext_word (t : Str) (A : Option Addr) (n c : Nat) (w : World) :
    Calls Tryz.prog 11 #[.agg #[.int .i64 2, .string (bs t), .int .i64 0, .slice A n c]] w fun e w' => e = .returned (.string (bs (t))) ∧ Below w.heap.size w w' := by
  obtain ⟨W, g, hW, hg, hs, kq, hal⟩ := boxA w #[.int .i64 2, .string (bs t), .int .i64 0, .slice A n c] 24
  obtain ⟨q0, q1, q2, q3, _⟩ := kq.four
  have Hal := Lib.hid hal; have Hkq := Lib.hid kq
  clear hal kq hs
  go_enter Tryz.func11, Tryz.ntmps11
  go_wp2_with fail
  go_ret
  exact ⟨rfl, Hal.out⟩
set_option maxRecDepth 100000 in
set_option maxHeartbeats 8000000 in
theorem rtext_pre (t : Str) (ht : t.length ≤ 4000000) (A : Option Addr) (n c : Nat) (w : World) :
    Calls Tryz.prog 11 #[.agg #[.int .i64 3, .string (bs t), .int .i64 0, .slice A n c]] w fun e w' => e = .returned (.string (bs (t ++ [42]))) ∧ Below w.heap.size w w' := by
  obtain ⟨W, g, hW, hg, hs, kq, hal⟩ := boxA w #[.int .i64 3, .string (bs t), .int .i64 0, .slice A n c] 24
  obtain ⟨q0, q1, q2, q3, _⟩ := kq.four
  have Hal := Lib.hid hal; have Hkq := Lib.hid kq
  clear hal kq hs
  have hjs : bs t ++ (⟨#[42]⟩ : ByteArray) = bs (t ++ [42]) := by apply ByteArray.ext; simp [bs]
  go_enter Tryz.func11, Tryz.ntmps11
  go_wp2_with fail
  go_ret
  exact ⟨rfl, Hal.out⟩
set_option maxRecDepth 100000 in
set_option maxHeartbeats 8000000 in
theorem rtext_phrase (t : Str) (ht : t.length ≤ 4000000) (A : Option Addr) (n c : Nat) (w : World) :
    Calls Tryz.prog 11 #[.agg #[.int .i64 4, .string (bs t), .int .i64 0, .slice A n c]] w fun e w' => e = .returned (.string (bs (34 :: t ++ [34]))) ∧ Below w.heap.size w w' := by
  obtain ⟨W, g, hW, hg, hs, kq, hal⟩ := boxA w #[.int .i64 4, .string (bs t), .int .i64 0, .slice A n c] 24
  obtain ⟨q0, q1, q2, q3, _⟩ := kq.four
  have Hal := Lib.hid hal; have Hkq := Lib.hid kq
  clear hal kq hs
  have hjs : (⟨#[34]⟩ : ByteArray) ++ bs t ++ (⟨#[34]⟩ : ByteArray) = bs (34 :: t ++ [34]) := by apply ByteArray.ext; simp [bs]
  go_enter Tryz.func11, Tryz.ntmps11
  go_wp2_with fail
  go_ret
  exact ⟨rfl, Hal.out⟩
set_option maxRecDepth 100000 in
set_option maxHeartbeats 8000000 in
theorem rtext_near (a b t : Str) (h : splitS t = [a, b]) (hl : t.length ≤ 4000000) (i : Nat) (hi : i < 100) (di : Str) (hdi : Lib.decDigits i = di) (hd2 : di.length ≤ 1000) (hab0 : a.length + b.length ≤ 4000000) (A : Option Addr) (n c : Nat) (w : World) :
    Calls Tryz.prog 11 #[.agg #[.int .i64 5, .string (bs t), .int .i64 (i : Int), .slice A n c]] w fun e w' => e = .returned (.string (bs (a ++ 126 :: di ++ 58 :: b))) ∧ Below w.heap.size w w' := by
  obtain ⟨W, g, hW, hg, hs, kq, hal⟩ := boxA w #[.int .i64 5, .string (bs t), .int .i64 (i : Int), .slice A n c] 24
  obtain ⟨q0, q1, q2, q3, _⟩ := kq.four
  have hsp := refSplit_ok t (by omega) W
  have hit := fun w => Tryz.strconv_Itoa_small i hi w
  rw [hdi] at hit
  have hjs : bs a ++ (⟨#[126]⟩ : ByteArray) ++ bs di ++ (⟨#[58]⟩ : ByteArray) ++ bs b = bs (a ++ 126 :: di ++ 58 :: b) := by apply ByteArray.ext; simp [bs]
  have Hal := Lib.hid hal; have Hkq := Lib.hid kq; have Hsp := Lib.hid hsp; have Hit := Lib.hid hit; have Hjs := Lib.hid hjs; have Hh := Lib.hid h
  clear hal kq hs hsp hit hdi hjs h
  go_enter Tryz.func11, Tryz.ntmps11
  go_wp2_with fail
  refine Hsp.out.mono ?_
  clear Hsp hW hg q0 q1 q2 q3
  rintro e w2 ⟨A2, c2, L, rfl, hL, own, hb2⟩
  obtain rfl : L = [a, b] := hL.out.trans Hh.out
  obtain ⟨rb, off, rfl, _, _, p0, _⟩ := own.read0.strAt (k := 0) (by simp)
  obtain ⟨rb', off', he, _, _, p1, _⟩ := own.read0.strAt (k := 1) (by simp)
  injection he with he
  injection he with he1 he2
  subst he1 he2
  simp only [List.getElem_cons_zero, List.getElem_cons_succ, Nat.add_zero] at p0 p1
  obtain ⟨q0, q1, q2, q3, _⟩ := (Hkq.out.ext hb2).four
  have Hb2 := Lib.hid (Hal.out.trans (hb2.mono Hal.out.size))
  rw [show (⟨(di : List UInt8).toArray⟩ : ByteArray) = bs di from rfl] at Hit
  have hjs := Hjs.out
  clear hb2 own hL
  have HS : Hid (∀ W, Below w2.heap.size w2 W → W.cell? ⟨rb, off, none⟩ = some (.string (bs a)) ∧ W.cell? ⟨rb, off + 1, none⟩ = some (.string (bs b)) ∧ W.cell? ⟨g, 2, none⟩ = some (.int .i64 (i : Int))) := Lib.hid fun W hb => by
    have hcl : ∀ {p : Addr} {v : Value}, w2.cell? p = some v → W.cell? p = some v := fun h => (hb.cell (World.block_lt_of_cell? _ _ h)).trans h
    exact ⟨hcl p0, hcl p1, hcl q2⟩
  go_upto_region 11 with (fail)
  have hdl : di.length ≤ 1000 := hd2
  have hab : a.length + b.length ≤ 4000000 := hab0
  have c1 : ¬ 9223372036854775807 < a.length + 1 := by omega
  have c2' : ¬ 9223372036854775807 < a.length + 1 + di.length := by omega
  have c3 : ¬ 9223372036854775807 < a.length + 1 + di.length + 1 := by omega
  have c4 : ¬ 9223372036854775807 < a.length + 1 + di.length + 1 + b.length := by omega
  have hS := HS.out (w2.drewN 1) (below_drewN' _ _ _)
  refine wp_region_D (fun W => W.cell? ⟨rb, off, none⟩ = some (.string (bs a)) ∧ W.cell? ⟨rb, off + 1, none⟩ = some (.string (bs b)) ∧ W.cell? ⟨g, 2, none⟩ = some (.int .i64 (i : Int))) (fun _ => false) (by kernel_rfl) ?_
  change anyD _ _ _ _ _ _ _ _ _ (w2.drewN 1)
  have hbV := below_drewN' w2.heap.size w2 1
  generalize w2.drewN 1 = V0 at hS hbV ⊢
  (refine anyD_light (i := 0) (v := ?_) rfl (by kernel_rfl) (by kernel_rfl) (by kernel_rfl) (by kernel_rfl) (by kernel_rfl) (fun _ _ _ h => h) (.inl ⟨by kernel_rfl, fun W9 hW9 => ?_⟩) hS ?_; rotate_left; · (obtain ⟨hw0, hw1, hw2⟩ := hW9; go_simp; rfl))
  (refine anyD_light (i := 1) (v := ?_) rfl (by kernel_rfl) (by kernel_rfl) (by kernel_rfl) (by kernel_rfl) (by kernel_rfl) (fun _ _ _ h => h) (.inl ⟨by kernel_rfl, fun W9 hW9 => ?_⟩) hS ?_; rotate_left; · (obtain ⟨hw0, hw1, hw2⟩ := hW9; go_simp; rfl))
  (refine anyD_light (i := 2) (v := ?_) rfl (by kernel_rfl) (by kernel_rfl) (by kernel_rfl) (by kernel_rfl) (by kernel_rfl) (fun _ _ _ h => h) (.inl ⟨by kernel_rfl, fun W9 hW9 => ?_⟩) hS ?_; rotate_left; · (obtain ⟨hw0, hw1, hw2⟩ := hW9; go_simp; rfl))
  (refine anyD_light (i := 3) (v := ?_) rfl (by kernel_rfl) (by kernel_rfl) (by kernel_rfl) (by kernel_rfl) (by kernel_rfl) (fun _ _ _ h => h) (.inl ⟨by kernel_rfl, fun W9 hW9 => ?_⟩) hS ?_; rotate_left; · (obtain ⟨hw0, hw1, hw2⟩ := hW9; go_simp; rfl))
  (refine anyD_light (i := 4) (v := ?_) rfl (by kernel_rfl) (by kernel_rfl) (by kernel_rfl) (by kernel_rfl) (by kernel_rfl) (fun _ _ _ h => h) (.inl ⟨by kernel_rfl, fun W9 hW9 => ?_⟩) hS ?_; rotate_left; · (obtain ⟨hw0, hw1, hw2⟩ := hW9; go_simp; rfl))
  (refine anyD_light (i := 5) (v := ?_) rfl (by kernel_rfl) (by kernel_rfl) (by kernel_rfl) (by kernel_rfl) (by kernel_rfl) (fun _ _ _ h => h) (.inl ⟨by kernel_rfl, fun W9 hW9 => ?_⟩) hS ?_; rotate_left; · (obtain ⟨hw0, hw1, hw2⟩ := hW9; go_simp; rfl))
  go_simp
  (refine anyD_light (i := 9) (v := ?_) rfl (by kernel_rfl) (by kernel_rfl) (by kernel_rfl) (by kernel_rfl) (by kernel_rfl) (fun _ _ _ h => h) (.inl ⟨by kernel_rfl, fun W9 hW9 => ?_⟩) hS ?_; rotate_left; · (obtain ⟨hw0, hw1, hw2⟩ := hW9; go_simp; rfl))
  (refine anyD_light (i := 10) (v := ?_) rfl (by kernel_rfl) (by kernel_rfl) (by kernel_rfl) (by kernel_rfl) (by kernel_rfl) (fun _ _ _ h => h) (.inl ⟨by kernel_rfl, fun W9 hW9 => ?_⟩) hS ?_; rotate_left; · (obtain ⟨hw0, hw1, hw2⟩ := hW9; go_simp; rfl))
  (refine anyD_light (i := 11) (v := ?_) rfl (by kernel_rfl) (by kernel_rfl) (by kernel_rfl) (by kernel_rfl) (by kernel_rfl) (fun _ _ _ h => h) (.inl ⟨by kernel_rfl, fun W9 hW9 => ?_⟩) hS ?_; rotate_left; · (obtain ⟨hw0, hw1, hw2⟩ := hW9; go_simp; rfl))
  go_simp
  refine anyD_one (i := 6) (by kernel_rfl) rfl rfl (fun K hK => ?_)
  have HK := Lib.hid hK
  clear hK
  unfold Oper.wp
  go_simp
  refine ((Hit.out V0)).mono ?_
  rintro e w9 ⟨rfl, rfl⟩
  have hS := HS.out _ hbV
  refine HK.out _ _ (fun _ => hS) ?_
  clear HK
  (refine anyD_light (i := 7) (v := ?_) rfl (by kernel_rfl) (by kernel_rfl) (by kernel_rfl) (by kernel_rfl) (by kernel_rfl) (fun _ _ _ h => h) (.inl ⟨by kernel_rfl, fun W9 hW9 => ?_⟩) hS ?_; rotate_left; · (obtain ⟨hw0, hw1, hw2⟩ := hW9; go_simp; rfl))
  (refine anyD_light (i := 8) (v := ?_) rfl (by kernel_rfl) (by kernel_rfl) (by kernel_rfl) (by kernel_rfl) (by kernel_rfl) (fun _ _ _ h => h) (.inl ⟨by kernel_rfl, fun W9 hW9 => ?_⟩) hS ?_; rotate_left; · (obtain ⟨hw0, hw1, hw2⟩ := hW9; go_simp; rfl))
  (refine anyD_light (i := 12) (v := ?_) rfl (by kernel_rfl) (by kernel_rfl) (by kernel_rfl) (by kernel_rfl) (by kernel_rfl) (fun _ _ _ h => h) (.inl ⟨by kernel_rfl, fun W9 hW9 => ?_⟩) hS ?_; rotate_left; · (obtain ⟨hw0, hw1, hw2⟩ := hW9; go_simp; rfl))
  (refine anyD_light (i := 13) (v := ?_) rfl (by kernel_rfl) (by kernel_rfl) (by kernel_rfl) (by kernel_rfl) (by kernel_rfl) (fun _ _ _ h => h) (.inl ⟨by kernel_rfl, fun W9 hW9 => ?_⟩) hS ?_; rotate_left; · (obtain ⟨hw0, hw1, hw2⟩ := hW9; go_simp; rfl))
  go_simp
  refine anyD_done (by kernel_rfl) ?_ _
  go_wp2_with fail
  go_ret
  refine ⟨?_, Hb2.out.trans (hbV.mono Hb2.out.size)⟩
  rw [show a ++ 126 :: di ++ 58 :: b = a ++ 126 :: (di ++ 58 :: b) by simp]
  rfl
set_option maxRecDepth 100000 in
set_option maxHeartbeats 16000000 in
theorem rtext_parts6 (f : Nat) (ih : RTextAt f) (ps : List Q) (hf : ∀ p ∈ ps, Q.Fine f p) (F : Nat) (A : Option Addr) (c : Nat) (w : World) (hv : SlR (qF F) M0 w (.slice A ps.length c) ps) (hbk : Q.bulks ps ≤ 4000000) :
    Calls Tryz.prog 11 #[.agg #[.int .i64 6, .string (bs []), .int .i64 0, .slice A ps.length c]] w fun e w' => e = .returned (.string (bs ([] ++ Q.join [32] (ps.map fun p => Q.wrap 6 p (Q.textF f p))))) ∧ Below w.heap.size w w' := by
  have hn := hv.len_le
  unfold maxLen at hn
  obtain ⟨W, g, hW, hg, hs, kq, hal⟩ := boxA w #[.int .i64 6, .string (bs []), .int .i64 0, .slice A ps.length c] 24
  obtain ⟨G, hG⟩ : ∃ G : Q → Str, (fun p => Q.wrap 6 p (Q.textF f p)) = G := ⟨_, rfl⟩
  rw [hG]
  obtain ⟨q0, q1, q2, q3, _⟩ := kq.four
  have Hal := Lib.hid hal; have Hkq := Lib.hid kq; have Hv := Lib.hid (hv.ext hal); have Hih := Lib.hid ih; have Hf := Lib.hid hf; have HG := Lib.hid hG; have HW := Lib.hid hW
  clear hal kq hs hv ih hf hG
  go_enter Tryz.func11, Tryz.ntmps11
  go_wp2_with fail
  clear q0 q1 q2 q3 hW hg
  go_loopw [4, 5] (fun ov iv wr => ∃ (m : Nat) (out : Str), m ≤ ps.length ∧ iv = .int .i64 (m : Int) ∧ ov = .string (bs out) ∧ Hid (out = [] ++ Q.join [32] ((ps.take m).map G)) ∧ Below W.heap.size W wr) (fun _ iv _ => ps.length - (intOf iv).toNat)
  case atStart => exact ⟨0, [], Nat.zero_le _, rfl, rfl, Lib.hid (by simp [Q.join]), Below.refl _ _⟩
  case round =>
    obtain ⟨m, out, hm, rfl, rfl, hout, hb⟩ := hrel
    obtain ⟨wo, rfl⟩ : ∃ W, W = wr := ⟨_, rfl⟩
    obtain ⟨q0, q1, q2, q3, _⟩ := (Hkq.out.ext hb).four
    have hmz : (0 : Int) ≤ (m : Int) := by omega
    by_cases hlt : m < ps.length
    · have hmi : (m : Int) < (ps.length : Int) := by omega
      obtain ⟨b, off, e, A4, c4, rfl, hfe, _, _, s0, s1, s2, s3, hqa⟩ := (Hv.out.ext hb).qAt hlt
      have hbp := bulk_part hlt
      have htl := Q.textF_len f ps[m]
      have hol : out.length ≤ 17000000 := by
        have h1 := Q.join_parts_len f 6 [32] (ps.take m) (by simp)
        have h2 := Q.take_bulk hlt
        have h3 : ([] : Str).length ≤ 1 := by decide
        rw [hout.out, ← HG.out, List.length_append]
        omega
      have hctr := fun V (hv : Below wo.heap.size wo V) => Hih.out ps[m] _ V e (Hf.out _ (List.getElem_mem hlt)) (hqa.ext hv) (by omega)
      have Htake : Hid (ps.take (m + 1) = ps.take m ++ [ps[m]]) := Lib.hid (by first | exact (List.take_append_getElem hlt).symm | exact List.take_succ_eq_append_getElem hlt)
      obtain ⟨TX, hTX⟩ : ∃ T, Q.textF f ps[m] = T := ⟨_, rfl⟩
      rw [hTX] at hctr htl
      have htl2 : TX.length ≤ 17000000 := by omega
      clear htl
      obtain ⟨pk, hpk⟩ : ∃ x, ps[m].kind = x := ⟨_, rfl⟩
      obtain ⟨pt, hpt⟩ : ∃ x, bs ps[m].text = x := ⟨_, rfl⟩
      obtain ⟨pn, hpn⟩ : ∃ x, ps[m].num = x := ⟨_, rfl⟩
      obtain ⟨pl, hpl⟩ : ∃ x, ps[m].parts.length = x := ⟨_, rfl⟩
      rw [hpk, hpt, hpn, hpl] at hctr
      rw [hpk] at s0; rw [hpt] at s1; rw [hpn] at s2; rw [hpl] at s3
      obtain ⟨V, g6, hV, hg6, hs6, k6, hb6⟩ := boxA wo #[.int .i64 pk, .string pt, .int .i64 pn, .slice A4 pl c4] 24
      have hc := hctr V hb6
      obtain ⟨x0, x1, x2, x3, _⟩ := k6.four
      obtain ⟨r0, r1, r2, r3, _⟩ := ((Hkq.out.ext hb).ext hb6).four
      have Hc := Lib.hid hc; have Hb6 := Lib.hid (hb.trans (hb6.mono hb.size)); have HTX := Lib.hid hTX; have Hpk := Lib.hid hpk; have hout2 := hout.out
      have Hout2 := Lib.hid hout2
      clear hctr hc hTX hpk hpt hpn hpl hqa hfe hs6 k6 hb6 hb hbp hout2
      by_cases hm0' : m = 0
      · have hi0 : ¬ (0 : Int) < (m : Int) := by omega
        have hm1 : (ps.take m).map G = [] := by rw [hm0']; simp
        have hout2 := Hout2.out
        have HX := Lib.hid (And.intro hm1 hout2)
        clear hm1 hout2 Hout2 hm0'
        by_cases h7 : pk = 7
        · subst h7
          have HGm : Hid (G ps[m] = 40 :: TX ++ [41]) := Lib.hid (by rw [← HG.out]; show Q.wrap _ _ _ = _; unfold Q.wrap; rw [if_pos (.inl Hpk.out), HTX.out])
          go_wp2_with fail
          refine Hc.out.mono ?_
          clear Hc hV hg6
          rintro e w7 ⟨rfl, hb7⟩
          have hb07 := Hb6.out.trans (hb7.mono Hb6.out.size)
          go_wp2_with fail
          go_roundw
          case rel => exact ⟨m + 1, out ++ [40] ++ TX ++ [41], by omega, rfl, by apply congrArg Value.string; apply ByteArray.ext; simp [bs], Lib.hid (by rw [Htake.out, List.map_append, List.map_cons, List.map_nil, join_snoc3, HGm.out, if_pos HX.out.1, HX.out.2, HX.out.1]; simp [Q.join]), hb07⟩
          case measure => simp [intOf]; omega
        · have h7e : (pk == 7) = false := by simpa using h7
          by_cases h6 : pk = 6
          · subst h6
            have HGm : Hid (G ps[m] = 40 :: TX ++ [41]) := Lib.hid (by rw [← HG.out]; show Q.wrap _ _ _ = _; unfold Q.wrap; rw [if_pos (.inr ⟨Hpk.out, by decide⟩), HTX.out])
            go_wp2_with fail
            refine Hc.out.mono ?_
            clear Hc hV hg6
            rintro e w7 ⟨rfl, hb7⟩
            have hb07 := Hb6.out.trans (hb7.mono Hb6.out.size)
            go_wp2_with fail
            go_roundw
            case rel => exact ⟨m + 1, out ++ [40] ++ TX ++ [41], by omega, rfl, by apply congrArg Value.string; apply ByteArray.ext; simp [bs], Lib.hid (by rw [Htake.out, List.map_append, List.map_cons, List.map_nil, join_snoc3, HGm.out, if_pos HX.out.1, HX.out.2, HX.out.1]; simp [Q.join]), hb07⟩
            case measure => simp [intOf]; omega
          · have h6e : (pk == 6) = false := by simpa using h6
            have HGm : Hid (G ps[m] = TX) := Lib.hid (by rw [← HG.out]; show Q.wrap _ _ _ = _; unfold Q.wrap; rw [if_neg (by rintro (e | ⟨e, _⟩); exact h7 (Hpk.out.symm.trans e); exact h6 (Hpk.out.symm.trans e)), HTX.out])
            go_wp2_with fail
            refine Hc.out.mono ?_
            clear Hc hV hg6
            rintro e w7 ⟨rfl, hb7⟩
            have hb07 := Hb6.out.trans (hb7.mono Hb6.out.size)
            go_wp2_with fail
            go_roundw
            case rel => exact ⟨m + 1, out ++ TX, by omega, rfl, by apply congrArg Value.string; apply ByteArray.ext; simp [bs], Lib.hid (by rw [Htake.out, List.map_append, List.map_cons, List.map_nil, join_snoc3, HGm.out, if_pos HX.out.1, HX.out.2, HX.out.1]; simp [Q.join]), hb07⟩
            case measure => simp [intOf]; omega
      · have hi0 : (0 : Int) < (m : Int) := by omega
        have Hne : Hid ((ps.take m).map G ≠ []) := Lib.hid (by
          intro e
          have := congrArg List.length e
          rw [List.length_map, List.length_take, List.length_nil] at this
          omega)
        clear hm0'
        by_cases h7 : pk = 7
        · subst h7
          have HGm : Hid (G ps[m] = 40 :: TX ++ [41]) := Lib.hid (by rw [← HG.out]; show Q.wrap _ _ _ = _; unfold Q.wrap; rw [if_pos (.inl Hpk.out), HTX.out])
          go_wp2_with fail
          refine Hc.out.mono ?_
          clear Hc hV hg6
          rintro e w7 ⟨rfl, hb7⟩
          have hb07 := Hb6.out.trans (hb7.mono Hb6.out.size)
          go_wp2_with fail
          go_roundw
          case rel => exact ⟨m + 1, out ++ [32] ++ [40] ++ TX ++ [41], by omega, rfl, by apply congrArg Value.string; apply ByteArray.ext; simp [bs], Lib.hid (by rw [Htake.out, List.map_append, List.map_cons, List.map_nil, join_snoc3, HGm.out, if_neg Hne.out, Hout2.out]; simp), hb07⟩
          case measure => simp [intOf]; omega
        · have h7e : (pk == 7) = false := by simpa using h7
          by_cases h6 : pk = 6
          · subst h6
            have HGm : Hid (G ps[m] = 40 :: TX ++ [41]) := Lib.hid (by rw [← HG.out]; show Q.wrap _ _ _ = _; unfold Q.wrap; rw [if_pos (.inr ⟨Hpk.out, by decide⟩), HTX.out])
            go_wp2_with fail
            refine Hc.out.mono ?_
            clear Hc hV hg6
            rintro e w7 ⟨rfl, hb7⟩
            have hb07 := Hb6.out.trans (hb7.mono Hb6.out.size)
            go_wp2_with fail
            go_roundw
            case rel => exact ⟨m + 1, out ++ [32] ++ [40] ++ TX ++ [41], by omega, rfl, by apply congrArg Value.string; apply ByteArray.ext; simp [bs], Lib.hid (by rw [Htake.out, List.map_append, List.map_cons, List.map_nil, join_snoc3, HGm.out, if_neg Hne.out, Hout2.out]; simp), hb07⟩
            case measure => simp [intOf]; omega
          · have h6e : (pk == 6) = false := by simpa using h6
            have HGm : Hid (G ps[m] = TX) := Lib.hid (by rw [← HG.out]; show Q.wrap _ _ _ = _; unfold Q.wrap; rw [if_neg (by rintro (e | ⟨e, _⟩); exact h7 (Hpk.out.symm.trans e); exact h6 (Hpk.out.symm.trans e)), HTX.out])
            go_wp2_with fail
            refine Hc.out.mono ?_
            clear Hc hV hg6
            rintro e w7 ⟨rfl, hb7⟩
            have hb07 := Hb6.out.trans (hb7.mono Hb6.out.size)
            go_wp2_with fail
            go_roundw
            case rel => exact ⟨m + 1, out ++ [32] ++ TX, by omega, rfl, by apply congrArg Value.string; apply ByteArray.ext; simp [bs], Lib.hid (by rw [Htake.out, List.map_append, List.map_cons, List.map_nil, join_snoc3, HGm.out, if_neg Hne.out, Hout2.out]; simp), hb07⟩
            case measure => simp [intOf]; omega
    · have hmi : ¬ (m : Int) < (ps.length : Int) := by omega
      have hme : m = ps.length := by omega
      have hres : out = [] ++ Q.join [32] (ps.map G) := by rw [hout.out, hme, List.take_length]
      have Hres := Lib.hid hres; have Hb := Lib.hid hb
      clear hres hme hout hb
      go_wp2_with fail
      go_ret
      exact ⟨ret_str (by rw [Hres.out]; rfl), Hal.out.trans (Hb.out.mono Hal.out.size)⟩
set_option maxRecDepth 100000 in
set_option maxHeartbeats 16000000 in
theorem rtext_parts7 (f : Nat) (ih : RTextAt f) (ps : List Q) (hf : ∀ p ∈ ps, Q.Fine f p) (F : Nat) (A : Option Addr) (c : Nat) (w : World) (hv : SlR (qF F) M0 w (.slice A ps.length c) ps) (hbk : Q.bulks ps ≤ 4000000) :
    Calls Tryz.prog 11 #[.agg #[.int .i64 7, .string (bs []), .int .i64 0, .slice A ps.length c]] w fun e w' => e = .returned (.string (bs ([] ++ Q.join [32, 124, 32] (ps.map fun p => Q.wrap 7 p (Q.textF f p))))) ∧ Below w.heap.size w w' := by
  have hn := hv.len_le
  unfold maxLen at hn
  obtain ⟨W, g, hW, hg, hs, kq, hal⟩ := boxA w #[.int .i64 7, .string (bs []), .int .i64 0, .slice A ps.length c] 24
  obtain ⟨G, hG⟩ : ∃ G : Q → Str, (fun p => Q.wrap 7 p (Q.textF f p)) = G := ⟨_, rfl⟩
  rw [hG]
  obtain ⟨q0, q1, q2, q3, _⟩ := kq.four
  have Hal := Lib.hid hal; have Hkq := Lib.hid kq; have Hv := Lib.hid (hv.ext hal); have Hih := Lib.hid ih; have Hf := Lib.hid hf; have HG := Lib.hid hG; have HW := Lib.hid hW
  clear hal kq hs hv ih hf hG
  go_enter Tryz.func11, Tryz.ntmps11
  go_wp2_with fail
  clear q0 q1 q2 q3 hW hg
  go_loopw [4, 5] (fun ov iv wr => ∃ (m : Nat) (out : Str), m ≤ ps.length ∧ iv = .int .i64 (m : Int) ∧ ov = .string (bs out) ∧ Hid (out = [] ++ Q.join [32, 124, 32] ((ps.take m).map G)) ∧ Below W.heap.size W wr) (fun _ iv _ => ps.length - (intOf iv).toNat)
  case atStart => exact ⟨0, [], Nat.zero_le _, rfl, rfl, Lib.hid (by simp [Q.join]), Below.refl _ _⟩
  case round =>
    obtain ⟨m, out, hm, rfl, rfl, hout, hb⟩ := hrel
    obtain ⟨wo, rfl⟩ : ∃ W, W = wr := ⟨_, rfl⟩
    obtain ⟨q0, q1, q2, q3, _⟩ := (Hkq.out.ext hb).four
    have hmz : (0 : Int) ≤ (m : Int) := by omega
    by_cases hlt : m < ps.length
    · have hmi : (m : Int) < (ps.length : Int) := by omega
      obtain ⟨b, off, e, A4, c4, rfl, hfe, _, _, s0, s1, s2, s3, hqa⟩ := (Hv.out.ext hb).qAt hlt
      have hbp := bulk_part hlt
      have htl := Q.textF_len f ps[m]
      have hol : out.length ≤ 17000000 := by
        have h1 := Q.join_parts_len f 7 [32, 124, 32] (ps.take m) (by simp)
        have h2 := Q.take_bulk hlt
        have h3 : ([] : Str).length ≤ 1 := by decide
        rw [hout.out, ← HG.out, List.length_append]
        omega
      have hctr := fun V (hv : Below wo.heap.size wo V) => Hih.out ps[m] _ V e (Hf.out _ (List.getElem_mem hlt)) (hqa.ext hv) (by omega)
      have Htake : Hid (ps.take (m + 1) = ps.take m ++ [ps[m]]) := Lib.hid (by first | exact (List.take_append_getElem hlt).symm | exact List.take_succ_eq_append_getElem hlt)
      obtain ⟨TX, hTX⟩ : ∃ T, Q.textF f ps[m] = T := ⟨_, rfl⟩
      rw [hTX] at hctr htl
      have htl2 : TX.length ≤ 17000000 := by omega
      clear htl
      obtain ⟨pk, hpk⟩ : ∃ x, ps[m].kind = x := ⟨_, rfl⟩
      obtain ⟨pt, hpt⟩ : ∃ x, bs ps[m].text = x := ⟨_, rfl⟩
      obtain ⟨pn, hpn⟩ : ∃ x, ps[m].num = x := ⟨_, rfl⟩
      obtain ⟨pl, hpl⟩ : ∃ x, ps[m].parts.length = x := ⟨_, rfl⟩
      rw [hpk, hpt, hpn, hpl] at hctr
      rw [hpk] at s0; rw [hpt] at s1; rw [hpn] at s2; rw [hpl] at s3
      obtain ⟨V, g6, hV, hg6, hs6, k6, hb6⟩ := boxA wo #[.int .i64 pk, .string pt, .int .i64 pn, .slice A4 pl c4] 24
      have hc := hctr V hb6
      obtain ⟨x0, x1, x2, x3, _⟩ := k6.four
      obtain ⟨r0, r1, r2, r3, _⟩ := ((Hkq.out.ext hb).ext hb6).four
      have Hc := Lib.hid hc; have Hb6 := Lib.hid (hb.trans (hb6.mono hb.size)); have HTX := Lib.hid hTX; have Hpk := Lib.hid hpk; have hout2 := hout.out
      have Hout2 := Lib.hid hout2
      clear hctr hc hTX hpk hpt hpn hpl hqa hfe hs6 k6 hb6 hb hbp hout2
      by_cases hm0' : m = 0
      · have hi0 : ¬ (0 : Int) < (m : Int) := by omega
        have hm1 : (ps.take m).map G = [] := by rw [hm0']; simp
        have hout2 := Hout2.out
        have HX := Lib.hid (And.intro hm1 hout2)
        clear hm1 hout2 Hout2 hm0'
        by_cases h7 : pk = 7
        · subst h7
          have HGm : Hid (G ps[m] = 40 :: TX ++ [41]) := Lib.hid (by rw [← HG.out]; show Q.wrap _ _ _ = _; unfold Q.wrap; rw [if_pos (.inl Hpk.out), HTX.out])
          go_wp2_with fail
          refine Hc.out.mono ?_
          clear Hc hV hg6
          rintro e w7 ⟨rfl, hb7⟩
          have hb07 := Hb6.out.trans (hb7.mono Hb6.out.size)
          go_wp2_with fail
          go_roundw
          case rel => exact ⟨m + 1, out ++ [40] ++ TX ++ [41], by omega, rfl, by apply congrArg Value.string; apply ByteArray.ext; simp [bs], Lib.hid (by rw [Htake.out, List.map_append, List.map_cons, List.map_nil, join_snoc3, HGm.out, if_pos HX.out.1, HX.out.2, HX.out.1]; simp [Q.join]), hb07⟩
          case measure => simp [intOf]; omega
        · have h7e : (pk == 7) = false := by simpa using h7
          by_cases h6 : pk = 6
          · subst h6
            have HGm : Hid (G ps[m] = TX) := Lib.hid (by rw [← HG.out]; show Q.wrap _ _ _ = _; unfold Q.wrap; rw [if_neg (by rintro (e | ⟨_, e⟩); exact h7 (Hpk.out.symm.trans e); exact e rfl), HTX.out])
            go_wp2_with fail
            refine Hc.out.mono ?_
            clear Hc hV hg6
            rintro e w7 ⟨rfl, hb7⟩
            have hb07 := Hb6.out.trans (hb7.mono Hb6.out.size)
            go_wp2_with fail
            go_roundw
            case rel => exact ⟨m + 1, out ++ TX, by omega, rfl, by apply congrArg Value.string; apply ByteArray.ext; simp [bs], Lib.hid (by rw [Htake.out, List.map_append, List.map_cons, List.map_nil, join_snoc3, HGm.out, if_pos HX.out.1, HX.out.2, HX.out.1]; simp [Q.join]), hb07⟩
            case measure => simp [intOf]; omega
          · have h6e : (pk == 6) = false := by simpa using h6
            have HGm : Hid (G ps[m] = TX) := Lib.hid (by rw [← HG.out]; show Q.wrap _ _ _ = _; unfold Q.wrap; rw [if_neg (by rintro (e | ⟨e, _⟩); exact h7 (Hpk.out.symm.trans e); exact h6 (Hpk.out.symm.trans e)), HTX.out])
            go_wp2_with fail
            refine Hc.out.mono ?_
            clear Hc hV hg6
            rintro e w7 ⟨rfl, hb7⟩
            have hb07 := Hb6.out.trans (hb7.mono Hb6.out.size)
            go_wp2_with fail
            go_roundw
            case rel => exact ⟨m + 1, out ++ TX, by omega, rfl, by apply congrArg Value.string; apply ByteArray.ext; simp [bs], Lib.hid (by rw [Htake.out, List.map_append, List.map_cons, List.map_nil, join_snoc3, HGm.out, if_pos HX.out.1, HX.out.2, HX.out.1]; simp [Q.join]), hb07⟩
            case measure => simp [intOf]; omega
      · have hi0 : (0 : Int) < (m : Int) := by omega
        have Hne : Hid ((ps.take m).map G ≠ []) := Lib.hid (by
          intro e
          have := congrArg List.length e
          rw [List.length_map, List.length_take, List.length_nil] at this
          omega)
        clear hm0'
        by_cases h7 : pk = 7
        · subst h7
          have HGm : Hid (G ps[m] = 40 :: TX ++ [41]) := Lib.hid (by rw [← HG.out]; show Q.wrap _ _ _ = _; unfold Q.wrap; rw [if_pos (.inl Hpk.out), HTX.out])
          go_wp2_with fail
          refine Hc.out.mono ?_
          clear Hc hV hg6
          rintro e w7 ⟨rfl, hb7⟩
          have hb07 := Hb6.out.trans (hb7.mono Hb6.out.size)
          go_wp2_with fail
          go_roundw
          case rel => exact ⟨m + 1, out ++ [32] ++ [124, 32] ++ [40] ++ TX ++ [41], by omega, rfl, by apply congrArg Value.string; apply ByteArray.ext; simp [bs], Lib.hid (by rw [Htake.out, List.map_append, List.map_cons, List.map_nil, join_snoc3, HGm.out, if_neg Hne.out, Hout2.out]; simp), hb07⟩
          case measure => simp [intOf]; omega
        · have h7e : (pk == 7) = false := by simpa using h7
          by_cases h6 : pk = 6
          · subst h6
            have HGm : Hid (G ps[m] = TX) := Lib.hid (by rw [← HG.out]; show Q.wrap _ _ _ = _; unfold Q.wrap; rw [if_neg (by rintro (e | ⟨_, e⟩); exact h7 (Hpk.out.symm.trans e); exact e rfl), HTX.out])
            go_wp2_with fail
            refine Hc.out.mono ?_
            clear Hc hV hg6
            rintro e w7 ⟨rfl, hb7⟩
            have hb07 := Hb6.out.trans (hb7.mono Hb6.out.size)
            go_wp2_with fail
            go_roundw
            case rel => exact ⟨m + 1, out ++ [32] ++ [124, 32] ++ TX, by omega, rfl, by apply congrArg Value.string; apply ByteArray.ext; simp [bs], Lib.hid (by rw [Htake.out, List.map_append, List.map_cons, List.map_nil, join_snoc3, HGm.out, if_neg Hne.out, Hout2.out]; simp), hb07⟩
            case measure => simp [intOf]; omega
          · have h6e : (pk == 6) = false := by simpa using h6
            have HGm : Hid (G ps[m] = TX) := Lib.hid (by rw [← HG.out]; show Q.wrap _ _ _ = _; unfold Q.wrap; rw [if_neg (by rintro (e | ⟨e, _⟩); exact h7 (Hpk.out.symm.trans e); exact h6 (Hpk.out.symm.trans e)), HTX.out])
            go_wp2_with fail
            refine Hc.out.mono ?_
            clear Hc hV hg6
            rintro e w7 ⟨rfl, hb7⟩
            have hb07 := Hb6.out.trans (hb7.mono Hb6.out.size)
            go_wp2_with fail
            go_roundw
            case rel => exact ⟨m + 1, out ++ [32] ++ [124, 32] ++ TX, by omega, rfl, by apply congrArg Value.string; apply ByteArray.ext; simp [bs], Lib.hid (by rw [Htake.out, List.map_append, List.map_cons, List.map_nil, join_snoc3, HGm.out, if_neg Hne.out, Hout2.out]; simp), hb07⟩
            case measure => simp [intOf]; omega
    · have hmi : ¬ (m : Int) < (ps.length : Int) := by omega
      have hme : m = ps.length := by omega
      have hres : out = [] ++ Q.join [32, 124, 32] (ps.map G) := by rw [hout.out, hme, List.take_length]
      have Hres := Lib.hid hres; have Hb := Lib.hid hb
      clear hres hme hout hb
      go_wp2_with fail
      go_ret
      exact ⟨ret_str (by rw [Hres.out]; rfl), Hal.out.trans (Hb.out.mono Hal.out.size)⟩
set_option maxRecDepth 100000 in
set_option maxHeartbeats 16000000 in
theorem rtext_parts8 (f : Nat) (ih : RTextAt f) (ps : List Q) (hf : ∀ p ∈ ps, Q.Fine f p) (F : Nat) (A : Option Addr) (c : Nat) (w : World) (hv : SlR (qF F) M0 w (.slice A ps.length c) ps) (hbk : Q.bulks ps ≤ 4000000) :
    Calls Tryz.prog 11 #[.agg #[.int .i64 8, .string (bs []), .int .i64 0, .slice A ps.length c]] w fun e w' => e = .returned (.string (bs ([45] ++ Q.join [32] (ps.map fun p => Q.wrap 8 p (Q.textF f p))))) ∧ Below w.heap.size w w' := by
  have hn := hv.len_le
  unfold maxLen at hn
  obtain ⟨W, g, hW, hg, hs, kq, hal⟩ := boxA w #[.int .i64 8, .string (bs []), .int .i64 0, .slice A ps.length c] 24
  obtain ⟨G, hG⟩ : ∃ G : Q → Str, (fun p => Q.wrap 8 p (Q.textF f p)) = G := ⟨_, rfl⟩
  rw [hG]
  obtain ⟨q0, q1, q2, q3, _⟩ := kq.four
  have Hal := Lib.hid hal; have Hkq := Lib.hid kq; have Hv := Lib.hid (hv.ext hal); have Hih := Lib.hid ih; have Hf := Lib.hid hf; have HG := Lib.hid hG; have HW := Lib.hid hW
  clear hal kq hs hv ih hf hG
  go_enter Tryz.func11, Tryz.ntmps11
  go_wp2_with fail
  clear q0 q1 q2 q3 hW hg
  go_loopw [4, 5] (fun ov iv wr => ∃ (m : Nat) (out : Str), m ≤ ps.length ∧ iv = .int .i64 (m : Int) ∧ ov = .string (bs out) ∧ Hid (out = [45] ++ Q.join [32] ((ps.take m).map G)) ∧ Below W.heap.size W wr) (fun _ iv _ => ps.length - (intOf iv).toNat)
  case atStart => exact ⟨0, [45], Nat.zero_le _, rfl, rfl, Lib.hid (by simp [Q.join]), Below.refl _ _⟩
  case round =>
    obtain ⟨m, out, hm, rfl, rfl, hout, hb⟩ := hrel
    obtain ⟨wo, rfl⟩ : ∃ W, W = wr := ⟨_, rfl⟩
    obtain ⟨q0, q1, q2, q3, _⟩ := (Hkq.out.ext hb).four
    have hmz : (0 : Int) ≤ (m : Int) := by omega
    by_cases hlt : m < ps.length
    · have hmi : (m : Int) < (ps.length : Int) := by omega
      obtain ⟨b, off, e, A4, c4, rfl, hfe, _, _, s0, s1, s2, s3, hqa⟩ := (Hv.out.ext hb).qAt hlt
      have hbp := bulk_part hlt
      have htl := Q.textF_len f ps[m]
      have hol : out.length ≤ 17000000 := by
        have h1 := Q.join_parts_len f 8 [32] (ps.take m) (by simp)
        have h2 := Q.take_bulk hlt
        have h3 : ([45] : Str).length ≤ 1 := by decide
        rw [hout.out, ← HG.out, List.length_append]
        omega
      have hctr := fun V (hv : Below wo.heap.size wo V) => Hih.out ps[m] _ V e (Hf.out _ (List.getElem_mem hlt)) (hqa.ext hv) (by omega)
      have Htake : Hid (ps.take (m + 1) = ps.take m ++ [ps[m]]) := Lib.hid (by first | exact (List.take_append_getElem hlt).symm | exact List.take_succ_eq_append_getElem hlt)
      obtain ⟨TX, hTX⟩ : ∃ T, Q.textF f ps[m] = T := ⟨_, rfl⟩
      rw [hTX] at hctr htl
      have htl2 : TX.length ≤ 17000000 := by omega
      clear htl
      obtain ⟨pk, hpk⟩ : ∃ x, ps[m].kind = x := ⟨_, rfl⟩
      obtain ⟨pt, hpt⟩ : ∃ x, bs ps[m].text = x := ⟨_, rfl⟩
      obtain ⟨pn, hpn⟩ : ∃ x, ps[m].num = x := ⟨_, rfl⟩
      obtain ⟨pl, hpl⟩ : ∃ x, ps[m].parts.length = x := ⟨_, rfl⟩
      rw [hpk, hpt, hpn, hpl] at hctr
      rw [hpk] at s0; rw [hpt] at s1; rw [hpn] at s2; rw [hpl] at s3
      obtain ⟨V, g6, hV, hg6, hs6, k6, hb6⟩ := boxA wo #[.int .i64 pk, .string pt, .int .i64 pn, .slice A4 pl c4] 24
      have hc := hctr V hb6
      obtain ⟨x0, x1, x2, x3, _⟩ := k6.four
      obtain ⟨r0, r1, r2, r3, _⟩ := ((Hkq.out.ext hb).ext hb6).four
      have Hc := Lib.hid hc; have Hb6 := Lib.hid (hb.trans (hb6.mono hb.size)); have HTX := Lib.hid hTX; have Hpk := Lib.hid hpk; have hout2 := hout.out
      have Hout2 := Lib.hid hout2
      clear hctr hc hTX hpk hpt hpn hpl hqa hfe hs6 k6 hb6 hb hbp hout2
      by_cases hm0' : m = 0
      · have hi0 : ¬ (0 : Int) < (m : Int) := by omega
        have hm1 : (ps.take m).map G = [] := by rw [hm0']; simp
        have hout2 := Hout2.out
        have HX := Lib.hid (And.intro hm1 hout2)
        clear hm1 hout2 Hout2 hm0'
        by_cases h7 : pk = 7
        · subst h7
          have HGm : Hid (G ps[m] = 40 :: TX ++ [41]) := Lib.hid (by rw [← HG.out]; show Q.wrap _ _ _ = _; unfold Q.wrap; rw [if_pos (.inl Hpk.out), HTX.out])
          go_wp2_with fail
          refine Hc.out.mono ?_
          clear Hc hV hg6
          rintro e w7 ⟨rfl, hb7⟩
          have hb07 := Hb6.out.trans (hb7.mono Hb6.out.size)
          go_wp2_with fail
          go_roundw
          case rel => exact ⟨m + 1, out ++ [40] ++ TX ++ [41], by omega, rfl, by apply congrArg Value.string; apply ByteArray.ext; simp [bs], Lib.hid (by rw [Htake.out, List.map_append, List.map_cons, List.map_nil, join_snoc3, HGm.out, if_pos HX.out.1, HX.out.2, HX.out.1]; simp [Q.join]), hb07⟩
          case measure => simp [intOf]; omega
        · have h7e : (pk == 7) = false := by simpa using h7
          by_cases h6 : pk = 6
          · subst h6
            have HGm : Hid (G ps[m] = 40 :: TX ++ [41]) := Lib.hid (by rw [← HG.out]; show Q.wrap _ _ _ = _; unfold Q.wrap; rw [if_pos (.inr ⟨Hpk.out, by decide⟩), HTX.out])
            go_wp2_with fail
            refine Hc.out.mono ?_
            clear Hc hV hg6
            rintro e w7 ⟨rfl, hb7⟩
            have hb07 := Hb6.out.trans (hb7.mono Hb6.out.size)
            go_wp2_with fail
            go_roundw
            case rel => exact ⟨m + 1, out ++ [40] ++ TX ++ [41], by omega, rfl, by apply congrArg Value.string; apply ByteArray.ext; simp [bs], Lib.hid (by rw [Htake.out, List.map_append, List.map_cons, List.map_nil, join_snoc3, HGm.out, if_pos HX.out.1, HX.out.2, HX.out.1]; simp [Q.join]), hb07⟩
            case measure => simp [intOf]; omega
          · have h6e : (pk == 6) = false := by simpa using h6
            have HGm : Hid (G ps[m] = TX) := Lib.hid (by rw [← HG.out]; show Q.wrap _ _ _ = _; unfold Q.wrap; rw [if_neg (by rintro (e | ⟨e, _⟩); exact h7 (Hpk.out.symm.trans e); exact h6 (Hpk.out.symm.trans e)), HTX.out])
            go_wp2_with fail
            refine Hc.out.mono ?_
            clear Hc hV hg6
            rintro e w7 ⟨rfl, hb7⟩
            have hb07 := Hb6.out.trans (hb7.mono Hb6.out.size)
            go_wp2_with fail
            go_roundw
            case rel => exact ⟨m + 1, out ++ TX, by omega, rfl, by apply congrArg Value.string; apply ByteArray.ext; simp [bs], Lib.hid (by rw [Htake.out, List.map_append, List.map_cons, List.map_nil, join_snoc3, HGm.out, if_pos HX.out.1, HX.out.2, HX.out.1]; simp [Q.join]), hb07⟩
            case measure => simp [intOf]; omega
      · have hi0 : (0 : Int) < (m : Int) := by omega
        have Hne : Hid ((ps.take m).map G ≠ []) := Lib.hid (by
          intro e
          have := congrArg List.length e
          rw [List.length_map, List.length_take, List.length_nil] at this
          omega)
        clear hm0'
        by_cases h7 : pk = 7
        · subst h7
          have HGm : Hid (G ps[m] = 40 :: TX ++ [41]) := Lib.hid (by rw [← HG.out]; show Q.wrap _ _ _ = _; unfold Q.wrap; rw [if_pos (.inl Hpk.out), HTX.out])
          go_wp2_with fail
          refine Hc.out.mono ?_
          clear Hc hV hg6
          rintro e w7 ⟨rfl, hb7⟩
          have hb07 := Hb6.out.trans (hb7.mono Hb6.out.size)
          go_wp2_with fail
          go_roundw
          case rel => exact ⟨m + 1, out ++ [32] ++ [40] ++ TX ++ [41], by omega, rfl, by apply congrArg Value.string; apply ByteArray.ext; simp [bs], Lib.hid (by rw [Htake.out, List.map_append, List.map_cons, List.map_nil, join_snoc3, HGm.out, if_neg Hne.out, Hout2.out]; simp), hb07⟩
          case measure => simp [intOf]; omega
        · have h7e : (pk == 7) = false := by simpa using h7
          by_cases h6 : pk = 6
          · subst h6
            have HGm : Hid (G ps[m] = 40 :: TX ++ [41]) := Lib.hid (by rw [← HG.out]; show Q.wrap _ _ _ = _; unfold Q.wrap; rw [if_pos (.inr ⟨Hpk.out, by decide⟩), HTX.out])
            go_wp2_with fail
            refine Hc.out.mono ?_
            clear Hc hV hg6
            rintro e w7 ⟨rfl, hb7⟩
            have hb07 := Hb6.out.trans (hb7.mono Hb6.out.size)
            go_wp2_with fail
            go_roundw
            case rel => exact ⟨m + 1, out ++ [32] ++ [40] ++ TX ++ [41], by omega, rfl, by apply congrArg Value.string; apply ByteArray.ext; simp [bs], Lib.hid (by rw [Htake.out, List.map_append, List.map_cons, List.map_nil, join_snoc3, HGm.out, if_neg Hne.out, Hout2.out]; simp), hb07⟩
            case measure => simp [intOf]; omega
          · have h6e : (pk == 6) = false := by simpa using h6
            have HGm : Hid (G ps[m] = TX) := Lib.hid (by rw [← HG.out]; show Q.wrap _ _ _ = _; unfold Q.wrap; rw [if_neg (by rintro (e | ⟨e, _⟩); exact h7 (Hpk.out.symm.trans e); exact h6 (Hpk.out.symm.trans e)), HTX.out])
            go_wp2_with fail
            refine Hc.out.mono ?_
            clear Hc hV hg6
            rintro e w7 ⟨rfl, hb7⟩
            have hb07 := Hb6.out.trans (hb7.mono Hb6.out.size)
            go_wp2_with fail
            go_roundw
            case rel => exact ⟨m + 1, out ++ [32] ++ TX, by omega, rfl, by apply congrArg Value.string; apply ByteArray.ext; simp [bs], Lib.hid (by rw [Htake.out, List.map_append, List.map_cons, List.map_nil, join_snoc3, HGm.out, if_neg Hne.out, Hout2.out]; simp), hb07⟩
            case measure => simp [intOf]; omega
    · have hmi : ¬ (m : Int) < (ps.length : Int) := by omega
      have hme : m = ps.length := by omega
      have hres : out = [45] ++ Q.join [32] (ps.map G) := by rw [hout.out, hme, List.take_length]
      have Hres := Lib.hid hres; have Hb := Lib.hid hb
      clear hres hme hout hb
      go_wp2_with fail
      go_ret
      exact ⟨ret_str (by rw [Hres.out]; rfl), Hal.out.trans (Hb.out.mono Hal.out.size)⟩
theorem rtext_step (f : Nat) (ih : RTextAt f) : RTextAt (f + 1) := by
  intro q v w F hq hv hbk
  have hpart := fun p (hp : p ∈ q.parts) => hq.part hp
  obtain ⟨he, _⟩ := hq.self
  have hfm := Q.form_of he
  have hb := Q.bulk_eq q
  obtain ⟨A, c, rfl, _, _, _, hs⟩ := hv
  cases hfm with
  | all => exact rtext_all A 0 c w
  | word t h => exact rtext_word t A 0 c w
  | pre t h => exact rtext_pre t (by simp only [Q.text_node] at hb; omega) A 0 c w
  | phrase t h => exact rtext_phrase t (by simp only [Q.text_node] at hb; omega) A 0 c w
  | near t a b n h ha hb' hn =>
    obtain ⟨i, hi, rfl, hd⟩ := digits_same n hn
    have hx := rtext_near a b t h (by simp only [Q.text_node] at hb; omega) i hi (Q.itoa (i : Int)) hd (by have := Q.itoa_len (i : Int); omega) (by
      have h1 := Q.join_split t
      rw [h] at h1
      have h2 := congrArg List.length h1
      simp only [Q.join, List.length_append, List.flatMap_cons, List.flatMap_nil, List.length_cons, List.length_nil] at h2
      simp only [Q.text_node] at hb
      omega) A 0 c w
    have e : Q.textF (f + 1) (.node 5 t (i : Int) []) = a ++ 126 :: Q.itoa (i : Int) ++ 58 :: b := by
      rw [Q.textF]
      simp only [Q.kind_node, Q.text_node, Q.num_node, h]
      simp
    rw [e]
    exact hx
  | both l h => exact rtext_parts6 f ih l hpart F A c w hs (by simp only [Q.parts_node] at hb; omega)
  | either l h => exact rtext_parts7 f ih l hpart F A c w hs (by simp only [Q.parts_node] at hb; omega)
  | no p =>
    have hx := rtext_parts8 f ih [p] hpart F A c w hs (by simp only [Q.parts_node] at hb; omega)
    exact hx
theorem rtext_ok : ∀ f : Nat, RTextAt f
  | 0 => fun q v w F hq _ _ => by
    obtain ⟨_, g, e⟩ := hq.self
    cases e
  | f + 1 => rtext_step f (rtext_ok f)
end Go.Proofs.YtihhgmpanfboaaaGreatDoor
