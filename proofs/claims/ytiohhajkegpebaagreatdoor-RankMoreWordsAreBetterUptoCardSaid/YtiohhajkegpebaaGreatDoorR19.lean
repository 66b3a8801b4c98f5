/-
  Contracts and plain facts, one after another: search.Find; The reference's Split and isWord; The reference's isWord, stands; The reference's Levels; The reference's Nodes.
-/
import Derived.Test.YtiohhajkegpebaaGreatDoorR18
import Derived.Test.YtiohhajkegpebaaGreatDoorR10
import Derived.Test.YtiohhajkegpebaaGreatDoorR17
import Derived.Test.YtiohhajkegpebaaGreatDoorR5
import Derived.Test.YtiohhajkegpebaaGreatDoorR2
import Derived.Test.YtiohhajkegpebaaGreatDoorR14
import Derived.Test.YtiohhajkegpebaaGreatDoorQyNd
import Derived.Test.YtiohhajkegpebaaGreatDoorR7
namespace Go.Proofs.YtiohhajkegpebaaGreatDoor
open Go.RowKit
set_option linter.unusedVariables false
set_option maxHeartbeats 2000000 in
theorem found_ok (A0 A1 A : Option Addr) (n0 c0 n1 c1 m c : Nat) (k n : Int) (t : Str) (w : World) : Calls Tryz.prog 33 #[.agg #[.slice A0 n0 c0, .slice A1 n1 c1], .agg #[.int .i64 k, .string (bs t), .int .i64 n, .slice A m c]] w fun e w' =>
    ∃ g, e = .returned (.func (.func 51) #[] #[.pointer (some ⟨g, 0, none⟩), .pointer (some ⟨g + 1, 0, none⟩)]) ∧ Blk w' g 70 #[.slice A0 n0 c0, .slice A1 n1 c1] ∧ Blk w' (g + 1) 25 #[.int .i64 k, .string (bs t), .int .i64 n, .slice A m c] ∧ Below w.heap.size w w' := by
  obtain ⟨W, g, hW, hg, hs, kF, kQ, hal⟩ := boxPair w #[.slice A0 n0 c0, .slice A1 n1 c1] 70 #[.int .i64 k, .string (bs t), .int .i64 n, .slice A m c] 25
  have HW := Lib.hid hW
  clear hW
  go_enter Tryz.func33, Tryz.ntmps33
  go_wp2_with fail
  rw [HW.out]
  go_ret
  exact ⟨g, rfl, kF, kQ, hal⟩
/-- what Find answers -/
def SFindAt (x : Ix.Idx) (q : Q) (w : World) (e : Ending) (w' : World) : Prop :=
  ∃ (A : Option Addr) (c : Nat) (L : List Int), e = .returned (.tuple #[.slice A L.length c, .agg #[.int .i64 (Sr.findR x q).2.1, .int .i64 (Sr.findR x q).2.2]]) ∧ Hid (L = (Sr.findR x q).1) ∧ Own intC M0 w' w.heap.size 3 (.slice A L.length c) L ∧ Below w.heap.size w w'
theorem pre8 {q : Q} (h : (Q.fault q).1 = 0) {f : Nat} (hf : 8 ≤ f) : ∀ p ∈ Q.pre f q, Q.errOf p = 0 := by
  have hg := Q.fault_zero.1 h
  rw [(pre_up hg.1 hf).1]
  exact hg.2.2
set_option maxRecDepth 100000 in
set_option maxHeartbeats 8000000 in
theorem sfind_ok (a b qv : Value) (x : Ix.Idx) (q : Q) (f : Nat) (w : World) (h0 : SlR intC M0 w a x.1) (h1 : SlR termC M0 w b x.2) (hq0 : QAt f M0 w qv q) (hsz : SzIx x.2) (hbk : q.bulk ≤ 4000000) (hT : TabsU w) :
    Calls Tryz.prog 19 #[.agg #[a, b], qv] w (SFindAt x q w) := by
  have hq := hq0.mono (g := max f 7) (Nat.le_max_left _ _)
  have hf7 : 8 ≤ max f 7 + 1 := by omega
  generalize max f 7 = f at hq hf7
  have hqv := hq
  obtain ⟨A0, c0, rfl, _, _⟩ := h0.form
  obtain ⟨A1, c1, rfl, _, _⟩ := h1.form
  obtain ⟨A, c, rfl, _, htm, _, hv⟩ := hq
  obtain ⟨W, g, hW, hg, hs, kX, kQ, kR, hal⟩ := box3 w #[.slice A0 x.1.length c0, .slice A1 x.2.length c1] #[.int .i64 q.kind, .string (bs q.text), .int .i64 q.num, .slice A q.parts.length c] #[.int .i64 0, .int .i64 0] 32 25 27
  have hval := validate_ok (.slice A0 x.1.length c0) (.slice A1 x.2.length c1) x.1 x.2 W (h0.ext hal) (h1.ext hal) hsz
  rw [show Ix.indexF (x.1, x.2) = Ix.indexF x from rfl] at hval
  have hres : Sr.findR x q = if (Ix.indexF x).1 ≠ 0 then ([], Ix.indexF x) else if (Q.fault q).1 ≠ 0 then ([], (Q.fault q).1, -5) else (Sr.foundF x q, 0, 0) := rfl
  obtain ⟨⟨fl, ra, rb⟩, hr⟩ : ∃ r, Sr.findR x q = r := ⟨_, rfl⟩
  unfold SFindAt
  rw [hr] at hres ⊢
  dsimp only
  have hcan := Ix.indexF_zero x
  obtain ⟨⟨ia, ib⟩, hia⟩ : ∃ r, Ix.indexF x = r := ⟨_, rfl⟩
  rw [hia] at hval hres hcan
  dsimp only at hval hres hcan
  obtain ⟨n0, hn0⟩ : ∃ n, x.1.length = n := ⟨_, rfl⟩
  obtain ⟨n1, hn1⟩ : ∃ n, x.2.length = n := ⟨_, rfl⟩
  rw [hn0, hn1] at kX hval hW ⊢
  obtain ⟨f0, f1, _, _, _⟩ := kX.two
  have HW := Lib.hid hW; have Hval := Lib.hid hval; have Hres := Lib.hid hres; have Hcan := Lib.hid hcan; have HX := Lib.hid (And.intro h0 (And.intro h1 (And.intro hqv hT)))
  have Hn : Hid (x.1.length = n0 ∧ x.2.length = n1) := Lib.hid ⟨hn0, hn1⟩
  rw [← hW] at f0 f1
  clear hW hval hres hcan h0 h1 hqv hT hn0 hn1 hia hr hq0 hv
  go_enter Tryz.func19, Tryz.ntmps19
  go_wp2_with fail
  rw [HW.out]
  refine Hval.out.mono ?_
  rintro e w2 ⟨rfl, hb2⟩
  obtain ⟨V, g2, hV, hg2, hs2, kV, hbV⟩ := boxA w2 #[.int .i64 ia, .int .i64 ib] 27
  obtain ⟨v0, v1, _, _, _⟩ := kV.two
  have hb02 := hb2.trans (hbV.mono hb2.size)
  have kX2 := kX.ext hb02
  have kQ2 := kQ.ext hb02
  have kR2 := kR.ext hb02
  have hbv := hal.trans (hb02.mono hal.size)
  have HV := Lib.hid hV; have HkX := Lib.hid kX2; have HkQ := Lib.hid kQ2; have HkR := Lib.hid kR2; have Hbv := Lib.hid hbv; have HkV := Lib.hid kV
  rw [← hV] at v0 v1
  clear f0 f1 hV kX kQ kR kX2 kQ2 kR2 hb02 hbv kV hb2 hbV hal
  go_wp2_with fail
  rw [HV.out]
  rw [HV.out] at v0 v1
  refine (failed_ok ia ib _).mono ?_
  rintro e w3 ⟨rfl, hb3⟩
  have hbw3 := Hbv.out.trans (hb3.mono Hbv.out.size)
  have hgw : w.heap.size ≤ g + 1 + 1 := by omega
  by_cases hi : ia = 0
  · have hi0 : (ia != 0) = false := by simpa using hi
    have hres := Hres.out
    rw [if_neg (by simp [hi])] at hres
    have hx3 := HX.out
    have hvq := qvalidate_ok f q _ w3 (hx3.2.2.1.ext hbw3) hbk (hx3.2.2.2.ext hbw3)
    have hfz : (Q.fault q).1 = 0 → ∀ p ∈ Q.pre (f + 1) q, Q.errOf p = 0 := fun h => pre8 h hf7
    have hup : (Q.fault q).1 = 0 → ∀ id, Sr.findsF (f + 1) x q id = Sr.findsF 8 x q id := fun h id => Sr.finds_up h hf7 x id
    have hff : Sr.foundF x q = x.1.filter fun id => Sr.findsF 8 x q id := rfl
    obtain ⟨⟨qa, qb⟩, hqf⟩ : ∃ r, Q.fault q = r := ⟨_, rfl⟩
    rw [hqf] at hvq hres hfz hup
    dsimp only at hvq hres hfz hup
    obtain ⟨q0, q1, q2, q3, _⟩ := (HkQ.out.ext hb3).four
    have kR3 := HkR.out.ext hb3
    have Hvq := Lib.hid hvq; have Hres2 := Lib.hid hres; have Hfz := Lib.hid hfz; have Hup := Lib.hid hup; have Hff := Lib.hid hff; have HkR3 := Lib.hid kR3
    clear hvq hres hfz hup hff kR3 v0 v1 hx3
    go_wp2_with fail
    refine Hvq.out.mono ?_
    rintro e w4 ⟨rfl, hb4⟩
    obtain ⟨U, g4, hU, hg4, hs4, kU, hbU⟩ := boxA w4 #[.int .i64 qa, .int .i64 qb] 27
    have hbw4 := hbw3.trans ((hb4.trans (hbU.mono hb4.size)).mono hbw3.size)
    have hb34 := hb4.trans (hbU.mono hb4.size)
    have kR4 := HkR3.out.ext hb34
    have kQ4 := (HkQ.out.ext hb3).ext hb34
    have kX4 := (HkX.out.ext hb3).ext hb34
    obtain ⟨u0, u1, _, _, _⟩ := kU.two
    have HU := Lib.hid hU; have HkR4 := Lib.hid kR4; have HkQ4 := Lib.hid kQ4; have HkX4 := Lib.hid kX4; have Hb4 := Lib.hid hbw4; have HkU := Lib.hid kU
    rw [← hU] at u0 u1
    clear q0 q1 q2 q3 hU kR4 kQ4 kX4 hbw4 hb34 kU hb4 hbU hbw3
    go_wp2_with fail
    rw [HU.out]
    refine (failed_ok qa qb _).mono ?_
    rintro e w5 ⟨rfl, hb5⟩
    have hbw5 := Hb4.out.trans (hb5.mono Hb4.out.size)
    have kR5 := HkR4.out.ext hb5
    by_cases hq : qa = 0
    · have hqn : (qa != 0) = false := by simpa using hq
      have hres := Hres2.out
      rw [if_neg (by simp [hq])] at hres
      injection hres with r1 r2
      injection r2 with r2 r3
      have hcan := Hcan.out.1 hi
      have hx5 := HX.out
      obtain ⟨q0, q1, q2, q3, _⟩ := (HkQ4.out.ext hb5).four
      obtain ⟨y0, y1, _, _, _⟩ := (HkX4.out.ext hb5).two
      have Hr := Lib.hid (And.intro r1 (And.intro r2 r3)); have HkR5 := Lib.hid kR5; have Hb5 := Lib.hid hbw5
      clear u0 u1 r1 r2 r3 kR5 hbw5
      go_wp2_with fail
      refine (found_ok A0 A1 A n0 c0 n1 c1 q.parts.length c q.kind q.num q.text w5).mono ?_
      rintro e w6 ⟨gg, rfl, kF6, kQ6, hb6⟩
      have hbw6 := Hb5.out.trans (hb6.mono Hb5.out.size)
      have hfd : FdAt gg (gg + 1) f (.slice A0 n0 c0) (.slice A1 n1 c1) (.agg #[.int .i64 q.kind, .string (bs q.text), .int .i64 q.num, .slice A q.parts.length c]) #[.int .i64 q.kind, .string (bs q.text), .int .i64 q.num, .slice A q.parts.length c] x q w6 := by
        have e1 := Hn.out.1; have e2 := Hn.out.2
        exact ⟨kF6, kQ6, by rw [← e1]; exact hx5.1.ext hbw6, by rw [← e2]; exact hx5.2.1.ext hbw6, hx5.2.2.1.ext hbw6⟩
      have hcol := collect_ok 51 #[.pointer (some ⟨gg, 0, none⟩), .pointer (some ⟨gg + 1, 0, none⟩)] _ _ (found_iter gg (gg + 1) f A0 A1 A n0 c0 n1 c1 q.parts.length c q.kind q.num q.text x q hcan hbk (Hfz.out hq)) (fun args w => enters_of Tryz.func51 (by kernel_rfl) rfl args w)
        (fun id hid => by have := hcan.idr id (List.mem_filter.1 hid).1; omega) (by have h1 := List.length_filter_le (fun id => Sr.findsF (f + 1) x q id) x.1; have h2 := hcan.few; omega) w6 (fun S' W' hS' hb' => ⟨w6, hfd, hb', hS'⟩)
      have hl : (x.1.filter fun id => Sr.findsF (f + 1) x q id) = fl := by
        rw [Hr.out.1, Hff.out]
        exact List.filter_congr fun id _ => Hup.out hq id
      rw [hl] at hcol
      have Hcol := Lib.hid hcol; have HkR6 := Lib.hid (HkR5.out.ext hb6); have Hb6 := Lib.hid hbw6
      clear hcol hl hfd kF6 kQ6 hbw6 hcan hx5 hb6 q0 q1 q2 q3 y0 y1
      go_wp2_with fail
      refine Hcol.out.mono ?_
      rintro e w7 ⟨A7, c7, L, rfl, hL, hown, hb7⟩
      have kR7 := HkR6.out.ext hb7
      have hbw7 := Hb6.out.trans (hb7.mono Hb6.out.size)
      go_wp2_with fail
      refine (none_ok _).mono ?_
      rintro e w8 ⟨rfl, hb8⟩
      have kR8 := kR7.ext hb8
      have hbw8 := hbw7.trans (hb8.mono hbw7.size)
      obtain ⟨z0, z1, z2, z3, _⟩ := kR8.two
      have hown8 := hown.ext hb8
      have hlow : w.heap.size ≤ w6.heap.size := Hb6.out.size
      have hgl := HkR6.out.lt
      clear hown
      go_wp2_with fail
      obtain ⟨e0, e1⟩ := kR8.put2 (.int .i64 0) (.int .i64 0)
      have h1 := Hr.out.2.1; have h2 := Hr.out.2.2
      refine bodyPost_ret (v := .tuple #[.slice A7 L.length c7, .agg #[.int .i64 0, .int .i64 0]]) (by simp [results, Tryz.results19, go_sem, e0, e1]) rfl ⟨A7, c7, L, by rw [h1, h2], hL, ?_, below_set2 hbw8 hgw _ _⟩
      exact (hown8.flatC flatC_int (fun b hb => by have hx := hown8.base b hb; exact (Below.heap_setCell _ _ _ _ (by show b ≠ g + 1 + 1; omega)).trans (Below.heap_setCell _ _ _ _ (by show b ≠ g + 1 + 1; omega)))).weak (by omega) (fun _ h => h)
    · have hqn : (qa != 0) = true := by simpa using hq
      have hres := Hres2.out
      rw [if_pos hq] at hres
      injection hres with r1 r2
      injection r2 with r2 r3
      obtain ⟨y0, y1, _, _, _⟩ := (HkU.out.ext hb5).two
      have Hr := Lib.hid (And.intro r1 (And.intro r2 r3)); have HkR5 := Lib.hid kR5; have Hb5 := Lib.hid hbw5
      clear u0 u1 r1 r2 r3 kR5 hbw5
      go_wp2_with fail
      refine (fault_ok qa (-5) _).mono ?_
      rintro e w6 ⟨rfl, hb6⟩
      have kR6 := HkR5.out.ext hb6
      have hbw6 := Hb5.out.trans (hb6.mono Hb5.out.size)
      obtain ⟨z0, z1, z2, z3, _⟩ := kR6.two
      clear y0 y1
      go_wp2_with fail
      obtain ⟨e0, e1⟩ := kR6.put2 (.int .i64 qa) (.int .i64 (-5))
      have h1 := Hr.out.2.1; have h2 := Hr.out.2.2
      exact bodyPost_ret (v := .tuple #[.slice none 0 0, .agg #[.int .i64 qa, .int .i64 (-5)]]) (by simp [results, Tryz.results19, go_sem, e0, e1]) rfl ⟨none, 0, [], by rw [h1, h2]; rfl, Lib.hid Hr.out.1.symm, Own.nil _ _ _ _ _, below_set2 hbw6 hgw _ _⟩
  · have hi0 : (ia != 0) = true := by simpa using hi
    have hres := Hres.out
    rw [if_pos hi] at hres
    injection hres with r1 r2
    injection r2 with r2 r3
    have Hr := Lib.hid (And.intro r1 (And.intro r2 r3))
    have kR3 := HkR.out.ext hb3
    obtain ⟨y0, y1, _, _, _⟩ := (HkV.out.ext hb3).two
    obtain ⟨z0, z1, z2, z3, _⟩ := kR3.two
    clear v0 v1 r1 r2 r3
    go_wp2_with fail
    go_region
    obtain ⟨e0, e1⟩ := kR3.put2 (.int .i64 ia) (.int .i64 ib)
    obtain ⟨W9, hW9⟩ : ∃ W9, (w3.setCell ⟨g + 1 + 1, 0, none⟩ (.int .i64 ia)).setCell ⟨g + 1 + 1, 1, none⟩ (.int .i64 ib) = W9 := ⟨_, rfl⟩
    have hbw9 : Below w.heap.size w W9 := by rw [← hW9]; exact below_set2 hbw3 hgw _ _
    rw [hW9] at e0 e1 ⊢
    go_wp2_with fail
    have h1 := Hr.out.2.1; have h2 := Hr.out.2.2
    have e0' : W9.drew.cell? ⟨g + 1 + 1, 0, none⟩ = some (.int .i64 ia) := e0
    have e1' : W9.drew.cell? ⟨g + 1 + 1, 1, none⟩ = some (.int .i64 ib) := e1
    exact bodyPost_ret (v := .tuple #[.slice none 0 0, .agg #[.int .i64 ia, .int .i64 ib]]) (by simp [results, Tryz.results19, go_sem, e0', e1']) rfl ⟨none, 0, [], by rw [h1, h2]; rfl, Lib.hid Hr.out.1.symm, Own.nil _ _ _ _ _, below_drew hbw9⟩
end Go.Proofs.YtiohhajkegpebaaGreatDoor
namespace Go.Proofs.YtiohhajkegpebaaGreatDoor
open Go.RowKit
set_option linter.unusedVariables false
theorem splitS_size (s : Str) : (splitS s).length ≤ s.length + 1 := by
  rw [splitS_len]
  have : s.count 32 ≤ s.length := List.count_le_length
  omega
theorem splitS_lens {s x : Str} (h : x ∈ splitS s) : x.length ≤ s.length := (splitS_mem s x h).2
set_option maxRecDepth 100000 in
set_option maxHeartbeats 4000000 in
theorem refSplit_ok (s : Str) (hs : s.length ≤ 4398046511104) (w : World) : Calls Tryz.prog 14 #[.string (bs s)] w fun e w' => ∃ (A : Option Addr) (c : Nat) (L : List Str), e = .returned (.slice A L.length c) ∧ Hid (L = splitS s) ∧ Own strC M0 w' w.heap.size 9 (.slice A L.length c) L ∧ Below w.heap.size w w' := by
  go_enter Tryz.func14, Tryz.ntmps14
  go_wp2
  go_loopw [3, 4] (fun o i wr => ∃ (k : Nat) (A : Option Addr) (c : Nat) (L : List Str), k ≤ s.length ∧ i = .int .i64 (k : Int) ∧ o = .slice A L.length c ∧ Hid (L = splitS (s.take k)) ∧ Own strC M0 wr w.heap.size 9 (.slice A L.length c) L ∧ Below w.heap.size w wr) (fun _ i _ => s.length - (intOf i).toNat)
  case atStart => exact ⟨0, _, 1, [[]], Nat.zero_le _, rfl, rfl, Lib.hid rfl, Own.built (M := M0) (B := w.heap.size) (C := strC) 9 (cs := [.string ⟨#[]⟩]) (l := [[]]) (Els.single (C := strC) ⟨rfl, Nat.zero_le _⟩) (Nat.le_refl _) (by simp [maxLen]), (Below.refl _ _).alloc (Nat.le_refl _) _⟩
  case round =>
    obtain ⟨k, A, c, L, hk, rfl, rfl, hL, own, hb⟩ := hrel
    have hLl : L.length ≤ k + 1 := by
      have := splitS_size (s.take k)
      rw [← hL.out, List.length_take] at this
      omega
    have hL1 : 0 < L.length := by rw [hL.out]; exact List.length_pos_iff.2 (splitS_ne _)
    have hk0 : (0 : Int) ≤ (k : Int) := by omega
    by_cases hlt : k < s.length
    · have hget : (bs s)[k]'(by simpa using hlt) = s[k] := bs_get s k (by simpa using hlt)
      have htk : s.take (k + 1) = s.take k ++ [s[k]] := List.take_succ_eq_append_getElem hlt
      obtain ⟨x, hx⟩ : ∃ x, s[k] = x := ⟨_, rfl⟩
      rw [hx] at hget htk
      have Htk := Lib.hid htk
      have hki : (k : Int) < (s.length : Int) := by omega
      clear htk hx
      by_cases hc : x = 32
      · subst hc
        have hst := splitS_space (s.take k)
        have Hst := Lib.hid hst
        clear hst
        have hbs := hb.size
        go_wp2_with (at_builtin; refine wpList_push_Own strC (M := M0) (B := w.heap.size) TStrs rfl (.tmp 16) (.tmp 17) rfl rfl own rfl (cs := [.string ⟨#[]⟩]) (y := []) ⟨rfl, Nat.zero_le _⟩ (fun _ h => h.elim) ?a1 ?b1 hbs ?_)
        case a1 => unfold maxLen; omega
        case b1 => omega
        intro A4 c4 L4 w4 hL4 own4 hb4 _ _
        go_wp2
        go_roundw
        case rel => exact ⟨k + 1, A4, c4, L4, by omega, by go_num, rfl, Lib.hid (by rw [hL4.out, hL.out, Htk.out, Hst.out]), own4, hb.trans hb4⟩
        case measure => simp [intOf]; omega
      · have hst := splitS_other hc (s.take k)
        rw [← hL.out] at hst
        have hc2 : ((x.toNat : Int) == 32) = false := by
          have : x.toNat ≠ 32 := fun e => hc (UInt8.toNat_inj.1 e)
          simp; omega
        obtain ⟨y, hy⟩ : ∃ y, L.getD (L.length - 1) [] = y := ⟨_, rfl⟩
        have hyl : y.length ≤ s.length := by
          rw [← hy, Ix.getD_get (by omega)]
          have := splitS_lens (s := s.take k) (x := L[L.length - 1]) (by rw [← hL.out]; exact List.getElem_mem _)
          rw [List.length_take] at this
          omega
        obtain ⟨b, off, hA, _, _, p0, _⟩ := own.read0.strAt (k := L.length - 1) (by omega)
        rw [← Ix.getD_get (d := []) (by omega), hy] at p0
        obtain ⟨g, c9, cur, hv, hlc, hcm, hBg, hblk, hsz⟩ := own.blk hL1
        injection hv with hv1 hv2 hv3
        subst hv1 hv3
        injection hA with hA
        injection hA with hA1 hA2
        subst hA1 hA2
        rw [Nat.zero_add] at p0
        rw [hy] at hst
        have hf0 := hblk.frozen (L.length - 1)
        have hgl := hblk.lt
        have hw1 : IntKind.i64.wrap ((L.length : Int) - 1) = ((L.length - 1 : Nat) : Int) := by rw [show (L.length : Int) - 1 = ((L.length - 1 : Nat) : Int) by omega]; exact IntWalk.i64_in _ (by omega)
        have hw2 : IntKind.i64.wrap ((k : Int) + 1) = ((k + 1 : Nat) : Int) := by rw [show (k : Int) + 1 = ((k + 1 : Nat) : Int) by omega]; exact IntWalk.i64_in _ (by omega)
        have hset := own.put1 rfl (k := L.length - 1) (by omega) (u := .string (bs (y ++ [x]))) (a := y ++ [x]) ⟨rfl, by unfold maxLen; simp; omega⟩
        have htd : (s.take (k + 1)).drop k = [x] := by rw [Htk.out, List.drop_left' (by rw [List.length_take]; omega)]
        have htd2 : (s.drop k).take (k + 1 - k) = [x] := by rw [← htd, List.drop_take]
        have htd3 : (s.drop k).take 1 = [x] := by rw [← htd2]; congr 1; omega
        have hcat : (y.length + [x].length ≤ 9223372036854775807) = True := by simp; omega
        have Hst := Lib.hid hst; have Hset := Lib.hid hset
        clear hst hset hL own
        go_wp2_with fail
        go_region
        go_wp2
        go_roundw
        case rel => exact ⟨k + 1, some ⟨g, 0, none⟩, c, L.set (L.length - 1) (y ++ [x]), by omega, by go_num, by rw [List.length_set], Lib.hid (by rw [Htk.out, Hst.out]), by rw [List.length_set]; exact Hset.out.ext (Below.refl _ _).drew, (hb.setCell (p := ⟨g, L.length - 1, none⟩) hBg _).drew⟩
        case measure => simp [intOf]; omega
    · obtain rfl : k = s.length := by omega
      go_wp2
      go_ret
      exact ⟨A, c, L, rfl, Lib.hid (by rw [hL.out, List.take_length]), own, hb⟩
end Go.Proofs.YtiohhajkegpebaaGreatDoor
namespace Go.Proofs.YtiohhajkegpebaaGreatDoor
open Go.RowKit
set_option linter.unusedVariables false
theorem beq_lists (a b : List Str) : (a == b) = decide (a = b) := by rw [Bool.eq_iff_iff]; simp
set_option maxRecDepth 100000 in
set_option maxHeartbeats 4000000 in
theorem isWord_ok (s : Str) (hs : s.length ≤ 4000000) (w : World) (hT : TabsU w) : Calls Tryz.prog 15 #[.string (bs s)] w fun e w' => e = .returned (.bool (Q.wordOk s)) ∧ Below w.heap.size w w' := by
  have hw := refWords_ok s hs w hT
  have Hw := Lib.hid hw
  clear hw hT
  go_enter Tryz.func15, Tryz.ntmps15
  go_wp2_with fail
  refine Hw.out.mono ?_
  rintro e w1 ⟨A, c, L, rfl, hL, own, hb⟩
  have hw : Q.wordOk s = (decide (s.length ≤ 8000) && (L == [s])) := by rw [hL.out]; rfl
  clear Hw
  by_cases h1 : s.length ≤ 8000
  · have h1i : (s.length : Int) ≤ 8000 := by omega
    match L, own, hw with
    | [x], own, hw =>
      obtain ⟨b, off, rfl, _, _, p0, _⟩ := own.read0.strAt (k := 0) (by simp)
      have hw2 : Q.wordOk s = (x == s) := by
        rw [hw, decide_eq_true h1, Bool.true_and, Bool.eq_iff_iff]; simp
      have Hw := Lib.hid hw2
      clear hw hw2
      simp only [List.getElem_cons_zero, Nat.add_zero] at p0
      cases ht : (x == s) with
      | true =>
        go_wp2
        go_ret
        exact ⟨ret_bool (by rw [Hw.out, ht]), hb⟩
      | false =>
        go_wp2
        go_ret
        exact ⟨ret_bool (by rw [Hw.out, ht]), hb⟩
    | [], own, hw =>
      have hw2 : Q.wordOk s = false := by rw [hw, Bool.eq_false_iff]; simp
      have Hw := Lib.hid hw2
      clear hw hw2
      go_wp2
      go_ret
      exact ⟨ret_bool (by rw [Hw.out]), hb⟩
    | x :: y :: r, own, hw =>
      have hw2 : Q.wordOk s = false := by rw [hw, Bool.eq_false_iff]; simp
      have hl : (((x :: y :: r).length : Int) == 1) = false := by rw [beq_eq_false_iff_ne]; simp only [List.length_cons]; omega
      have Hw := Lib.hid hw2
      clear hw hw2
      go_wp2
      go_ret
      exact ⟨ret_bool (by rw [Hw.out]), hb⟩
  · have h1i : ¬ (s.length : Int) ≤ 8000 := by omega
    have hw2 : Q.wordOk s = false := by rw [hw, decide_eq_false h1, Bool.false_and]
    have Hw := Lib.hid hw2
    clear hw hw2
    go_wp2
    go_ret
    exact ⟨ret_bool (by rw [Hw.out]), hb⟩
end Go.Proofs.YtiohhajkegpebaaGreatDoor
namespace Go.Proofs.YtiohhajkegpebaaGreatDoor
open Go.RowKit
set_option linter.unusedVariables false
theorem lev_one (q : Q) : Q.lev 1 q = 1 := by
  have : Q.top (q.parts.map (Q.lev 0)) ≤ 0 := Q.top_le.2 fun a ha => by
    obtain ⟨p, _, rfl⟩ := List.mem_map.1 ha
    exact Nat.le_refl _
  show Q.top (q.parts.map (Q.lev 0)) + 1 = 1
  omega
theorem lev_take (n : Nat) (l : List Q) {m : Nat} (h : m < l.length) : Q.top ((l.take (m + 1)).map (Q.lev n)) = max (Q.top ((l.take m).map (Q.lev n))) (Q.lev n l[m]) := by
  rw [List.take_succ_eq_append_getElem h, List.map_append, List.map_cons, List.map_nil, top_snoc]
set_option maxRecDepth 100000 in
set_option maxHeartbeats 4000000 in
theorem levels_ok : ∀ (n f : Nat) (q : Q) (v : Value) (w : World) (hn : n ≤ 60) (hq : QAt f M0 w v q),
    Calls Tryz.prog 10 #[v, .int .i64 ((n + 1 : Nat) : Int)] w fun r w' => r = .returned (.int .i64 (Q.lev (n + 1) q : Nat)) ∧ Below w.heap.size w w' := by
  intro n
  induction n with
  | zero =>
    intro f q v w hn hq
    rw [lev_one]
    obtain ⟨A, c, rfl, _, _, _, hv⟩ := hq
    obtain ⟨ql, hql⟩ : ∃ k, q.parts.length = k := ⟨_, rfl⟩
    rw [hql]
    obtain ⟨W0, g, hW, rfl, hs, kq, hal⟩ := boxA w #[.int .i64 q.kind, .string (bs q.text), .int .i64 q.num, .slice A ql c] 25
    obtain ⟨q0, q1, q2, q3, _⟩ := kq.four
    rw [← hW] at q3
    have HW := Lib.hid hW
    clear hs hW kq q0 q1 q2 hv hql
    go_enter Tryz.func10, Tryz.ntmps10
    go_wp2_with fail
    rw [HW.out] at q3 ⊢
    go_loopw [5, 6] (fun a i wr => a = .int .i64 0 ∧ i = .int .i64 0 ∧ wr = W0) (fun _ _ _ => 0)
    case atStart => exact ⟨rfl, rfl, rfl⟩
    case round =>
      obtain ⟨rfl, rfl, rfl⟩ := hrel
      by_cases h0 : 0 < ql
      · have h0i : (0 : Int) < (ql : Int) := by omega
        go_wp2_with fail

        go_ret
        exact ⟨rfl, hal⟩
      · have h0i : ¬ (0 : Int) < (ql : Int) := by omega
        go_wp2_with fail
        go_ret
        exact ⟨rfl, hal⟩
  | succ n ih =>
    intro f q v w hn hq
    have qq := hq
    obtain ⟨A, c, rfl, _, _, _, hv⟩ := hq
    have hqm := hv.len_le
    obtain ⟨ps, hps⟩ : ∃ l, q.parts = l := ⟨_, rfl⟩
    have hgoal : Q.lev (n + 1 + 1) q = Q.top (ps.map (Q.lev (n + 1))) + 1 := by rw [← hps]; rfl
    have htop := Q.top_lev_le (n + 1) ps
    rw [hps] at hv hqm ⊢
    rw [hgoal]
    obtain ⟨res, hres⟩ : ∃ r, Q.top (ps.map (Q.lev (n + 1))) + 1 = r := ⟨_, rfl⟩
    rw [hres]
    have Hres := Lib.hid hres
    clear hres
    obtain ⟨W0, g, hW, rfl, hs, kq, hal⟩ := boxA w #[.int .i64 q.kind, .string (bs q.text), .int .i64 q.num, .slice A ps.length c] 25
    replace hv := hv.ext hal
    have HW := Lib.hid hW
    have Htop := Lib.hid htop
    have Ih := Lib.hid ih
    clear hs hW hps hgoal qq ih htop
    unfold maxLen at hqm
    have hn1 : (1 : Int) < ((n + 1 + 1 : Nat) : Int) := by omega
    have hnw : IntKind.i64.wrap (((n + 1 + 1 : Nat) : Int) - 1) = ((n + 1 : Nat) : Int) := by rw [show ((n + 1 + 1 : Nat) : Int) - 1 = ((n + 1 : Nat) : Int) by omega]; exact IntWalk.i64_in _ (by omega)
    obtain ⟨lim, hlim⟩ : ∃ lim : Int, ((n + 1 + 1 : Nat) : Int) = lim := ⟨_, rfl⟩
    rw [hlim] at hn1 hnw ⊢
    clear hlim
    go_enter Tryz.func10, Tryz.ntmps10
    go_wp2_with fail
    rw [HW.out]
    go_loopw [5, 6] (fun a i wr => ∃ m : Nat, m ≤ ps.length ∧ i = .int .i64 m ∧ a = .int .i64 (Q.top ((ps.take m).map (Q.lev (n + 1))) : Nat) ∧ Below W0.heap.size W0 wr) (fun _ i _ => ps.length - (intOf i).toNat)
    case atStart => exact ⟨0, Nat.zero_le _, rfl, rfl, Below.refl _ _⟩
    case round =>
      obtain ⟨m, hm, rfl, rfl, hbr⟩ := hrel
      obtain ⟨q0, q1, q2, q3, _⟩ := (kq.ext hbr).four
      by_cases hlt : m < ps.length
      · obtain ⟨b, off, g2, A2, c2, rfl, hfg, _, _, s0, s1, s2, s3, hqa⟩ := (hv.ext hbr).qAt hlt
        have hlev := lev_take (n + 1) ps hlt
        have hle1 := Q.lev_le (n + 1) ps[m]
        have hle2 := Q.top_lev_le (n + 1) (ps.take m)
        have hc := Ih.out g2 ps[m] _ wr (by omega) hqa
        obtain ⟨p, hp⟩ : ∃ p, p = ps[m] := ⟨_, rfl⟩
        rw [← hp] at s0 s1 s2 s3 hc hlev hle1
        obtain ⟨t, ht⟩ : ∃ t, Q.top ((ps.take m).map (Q.lev (n + 1))) = t := ⟨_, rfl⟩
        obtain ⟨r, hr⟩ : ∃ r, Q.lev (n + 1) p = r := ⟨_, rfl⟩
        rw [ht, hr] at hlev
        rw [ht] at hle2 ⊢
        rw [hr] at hle1 hc
        have hmax : max (t : Int) (r : Int) = ((max t r : Nat) : Int) := by omega
        have Hlev := Lib.hid hlev; have Hc := Lib.hid hc; have Hbr := Lib.hid hbr
        have hmi : (m : Int) < (ps.length : Int) := by omega
        have hm0 : (0 : Int) ≤ (m : Int) := by omega
        clear hlev hc hbr hp hqa ht hr
        go_wp2_with fail
        refine Hc.out.mono ?_
        rintro e w9 ⟨rfl, hb9⟩
        clear q0 q1 q2 q3 s0 s1 s2 s3
        go_wp2_with fail
        go_roundw
        case rel => exact ⟨m + 1, by omega, by go_num, by rw [Hlev.out], Hbr.out.trans (hb9.mono Hbr.out.size)⟩
        case measure => simp [intOf]; omega
      · obtain rfl : m = ps.length := by omega
        rw [List.take_length]
        have htop := Htop.out
        obtain ⟨t, ht⟩ : ∃ t, Q.top (ps.map (Q.lev (n + 1))) = t := ⟨_, rfl⟩
        have hres := Hres.out
        rw [ht] at htop hres ⊢
        have HR := Lib.hid hres
        clear hres
        have htw : IntKind.i64.wrap ((t : Int) + 1) = ((t + 1 : Nat) : Int) := by rw [show (t : Int) + 1 = ((t + 1 : Nat) : Int) by omega]; exact IntWalk.i64_in _ (by omega)
        clear ht
        go_wp2_with fail
        go_ret
        exact ⟨by rw [← HR.out]; rfl, hal.trans (hbr.mono hal.size)⟩
end Go.Proofs.YtiohhajkegpebaaGreatDoor
namespace Go.Proofs.YtiohhajkegpebaaGreatDoor
open Go.RowKit
set_option linter.unusedVariables false
theorem TQs : SlT Tryz.prog 4 23 25 56 := SlT.mk' Tryz.underlying23 (by kernel_rfl : (Tryz.prog.info? 25).map (fun i => (i.zero, i.size, i.bytes)) = some (some (.agg #[.int .i64 0, .string ⟨#[]⟩, .int .i64 0, .slice none 0 0]), 4, 56)) rfl
theorem QAt.sub {f : Nat} {M M' : Nat → Prop} {w : World} {v : Value} {q : Q} (h : QAt f M w v q) (hm : ∀ b, b < w.heap.size → M' b → M b) : QAt f M' w v q := by
  obtain ⟨A, c, e, h1, h2, h3, hv⟩ := h
  exact ⟨A, c, e, h1, h2, h3, hv.sub hm⟩
set_option maxRecDepth 100000 in
set_option maxHeartbeats 4000000 in
theorem nodes_ok : ∀ (f : Nat) (q : Q) (v : Value) (n : Nat) (w : World) (M : Nat → Prop), n ≤ 60 → (∀ b, M b → b < w.heap.size) → QAt f M w v q → q.bulk ≤ 4000000 →
    Calls Tryz.prog 12 #[v, .int .i64 (n : Int)] w fun r w' => ∃ (A : Option Addr) (c : Nat) (L : List Q), r = .returned (.slice A L.length c) ∧ Hid (Sr.Cut L (Q.pre (f + 1) q) n) ∧ Own (qF (f + 1)) M w' w.heap.size 25 (.slice A L.length c) L ∧ Below w.heap.size w w' := by
  intro f
  induction f using Nat.strongRecOn with | _ f ih => ?_
  intro q v n w M hn hM hq hbk
  have hqr := hq.rd
  obtain ⟨A, c, rfl, _, _, _, hv⟩ := hq
  obtain ⟨ps, hps⟩ : ∃ l, q.parts = l := ⟨_, rfl⟩
  have hpre : Q.pre (f + 1) q = q :: ps.flatMap (Q.pre f) := by rw [← hps]; rfl
  have hbk2 := Q.bulk_eq q
  rw [hps] at hv hqr hbk2 ⊢
  have hpm : ∀ (m : Nat) (h : m < ps.length), ps[m].bulk ≤ 4000000 := fun m h => by
    have := Q.bulks_mem (List.getElem_mem h)
    omega
  have hqm := hv.len_le
  unfold maxLen at hqm
  rw [hpre]
  have hvB := hv.toMB
  obtain ⟨W0, g, hW, hg, hs, kq, hal⟩ := boxA w #[.int .i64 q.kind, .string (bs q.text), .int .i64 q.num, .slice A ps.length c] 25
  obtain ⟨q0, q1, q2, q3, _⟩ := kq.four
  have own0 : Own (qF (f + 1)) M (W0.alloc (.cells [.int .i64 q.kind, .string (bs q.text), .int .i64 q.num, .slice A ps.length c].toArray 25)) W0.heap.size 25 (.slice (some ⟨W0.heap.size, 0, none⟩) [q].length [q].length) [q] :=
    Own.built (w := W0) (M := M) (C := qF (f + 1)) 25 (Els.single (Codec.ext hqr hal)) (Nat.le_refl _) (by simp [maxLen])
  obtain ⟨W1, g1, hW1, hg1, hs1, _, hal1⟩ := boxA W0 #[.int .i64 q.kind, .string (bs q.text), .int .i64 q.num, .slice A ps.length c] 25
  rw [show (W0.alloc (.cells [.int .i64 q.kind, .string (bs q.text), .int .i64 q.num, .slice A ps.length c].toArray 25)) = W1 from hW1] at own0
  have hsl : (Value.slice (some ⟨W0.heap.size, 0, none⟩) [q].length [q].length) = .slice (some ⟨g + 1, 0, none⟩) [q].length 1 := by rw [hs]; rfl
  rw [hsl] at own0
  rw [← hW, ← hg] at q0 q1 q2 q3
  have hss : w.heap.size ≤ W0.heap.size := hal.size
  have HW := Lib.hid hW; have HW1 := Lib.hid hW1; have Hg := Lib.hid hg; have Hg1 := Lib.hid hg1; have Hq := Lib.hid kq; have Hih := Lib.hid ih; have Hpm := Lib.hid hpm; have Hhal := Lib.hid hal; have HvB := Lib.hid hvB; have HM := Lib.hid hM; have Hown0 := Lib.hid own0
  clear hsl hW hW1 hg hg1 kq ih hpm hal hvB hM hs hs1 hqr hv hps hpre hbk2 own0
  go_enter Tryz.func12, Tryz.ntmps12
  go_wp2_with fail
  rw [HW.out, HW1.out]
  try rw [Hg.out]
  try rw [Hg1.out]
  clear q0 q1 q2 q3
  go_loopw [5, 6] (fun ov iv wr => ∃ (m : Nat) (A2 : Option Addr) (c2 : Nat) (L : List Q), m ≤ ps.length ∧ iv = .int .i64 (m : Int) ∧ ov = .slice A2 L.length c2 ∧ Hid (Sr.Cut L (q :: (ps.take m).flatMap (Q.pre f)) n) ∧ Own (qF (f + 1)) M wr W0.heap.size 25 (.slice A2 L.length c2) L ∧ Below W0.heap.size W0 wr) (fun _ iv _ => ps.length - (intOf iv).toNat)
  case atStart => exact ⟨0, _, 1, [q], Nat.zero_le _, rfl, rfl, Lib.hid ⟨List.prefix_rfl, .inl rfl⟩, Hown0.out, hal1⟩
  case round =>
    obtain ⟨m, A2, c2, L, hm, rfl, rfl, hL, own, hb⟩ := hrel
    obtain ⟨wo, rfl⟩ : ∃ W, W = wr := ⟨_, rfl⟩
    obtain ⟨q0, q1, q2, q3, _⟩ := (Hq.out.ext hb).four
    have hm0 : (0 : Int) ≤ (m : Int) := by omega
    have hLl := own.len_le
    unfold maxLen at hLl
    by_cases hlt : m < ps.length
    · have hmi : (m : Int) < (ps.length : Int) := by omega
      by_cases hle : L.length ≤ n
      · have hli : (L.length : Int) ≤ (n : Int) := by omega
        have hbw : Below w.heap.size w wo := Hhal.out.trans (hb.mono Hhal.out.size)
        obtain ⟨b, off, e, A4, c4, rfl, hfe, _, _, s0, s1, s2, s3, hqa⟩ := (HvB.out.ext hbw).qAt hlt
        have hM2 : ∀ b, (M b ∨ (Value.slice A2 L.length c2).ownBlock = some b) → b < wo.heap.size := fun b h => by
          rcases h with h | h
          · have := HM.out b h; have := hbw.size; omega
          · exact own.lt b h
        have hq2 := hqa.sub (M' := fun b => M b ∨ (Value.slice A2 L.length c2).ownBlock = some b) fun b hb h => by
          rcases h with h | h
          · exact .inl h
          · exact .inr (Nat.le_trans hss (own.base b h))
        have hc := Hih.out e (by omega) ps[m] _ (n - L.length) wo _ (by omega) hM2 hq2 (Hpm.out m hlt)
        have hpb := Q.pre_bulk (e + 1) ps[m]
        have hpm := Hpm.out m hlt
        rw [← hfe] at hc hpb
        have hcs := fun L' h' => Sr.Cut.step (q := q) (f := f) (lim := n) (L := L) (L' := L') hlt hL.out hle h'
        obtain ⟨p, hp⟩ : ∃ p, p = ps[m] := ⟨_, rfl⟩
        rw [← hp] at s0 s1 s2 s3 hc hpb hpm hcs
        have hsub : IntKind.i64.wrap ((n : Int) - (L.length : Int)) = ((n - L.length : Nat) : Int) := by rw [show (n : Int) - (L.length : Int) = ((n - L.length : Nat) : Int) by omega]; exact IntWalk.i64_in _ (by omega)
        have Hc := Lib.hid hc; have Hcs := Lib.hid hcs; have Hb := Lib.hid hb; have HM2 := Lib.hid hM2; have Hfe := Lib.hid hfe
        clear hfe hc hcs hb hM2 hq2 hqa hbw hp q0 q1 q2
        go_wp2_with fail
        refine Hc.out.mono ?_
        rintro r w4 ⟨A3, c3, L3, rfl, hL3, own3, hb4⟩
        have own4 := own.ext hb4
        have hsrc := (own3.readB HM2.out).qMono (g := f + 1) (by have := Hfe.out; omega)
        have hl3 : L3.length ≤ 1000000 := by have := hL3.out.1.length_le; omega
        have hbw4 := Hb.out.trans (hb4.mono Hb.out.size)
        have hbs := hbw4.size
        clear Hc own own3 hb4 q3 s0 s1 s2 s3
        go_wp2_with (at_builtin; refine wpList_append_Own (qF (f + 1)) (M := M) (B := W0.heap.size) (l := L) (l' := L3) TQs rfl (.tmp 22) (.tmp 32) rfl (v := .slice A2 L.length c2) rfl own4 rfl hsrc ?a1 ?b1 hbs ?_)
        case a1 => unfold maxLen; omega
        case b1 => omega
        intro A5 c5 L5 w5 hL5 own5 hb5 _ _
        go_wp2
        go_roundw
        case rel => exact ⟨m + 1, A5, c5, L5, by omega, by go_num, rfl, Lib.hid (by rw [hL5.out]; exact Hcs.out L3 hL3.out), own5, hbw4.trans hb5⟩
        case measure => simp [intOf]; omega
      · have hli : ¬ (L.length : Int) ≤ (n : Int) := by omega
        clear q0 q1 q2
        go_wp2
        go_ret
        exact ⟨A2, c2, L, rfl, Lib.hid (hL.out.all (.inr (by omega))), own.lower hss, Hhal.out.trans (hb.mono Hhal.out.size)⟩
    · have hmi : ¬ (m : Int) < (ps.length : Int) := by omega
      clear q0 q1 q2
      go_wp2
      go_ret
      exact ⟨A2, c2, L, rfl, Lib.hid (hL.out.all (.inl (by omega))), own.lower hss, Hhal.out.trans (hb.mono Hhal.out.size)⟩
end Go.Proofs.YtiohhajkegpebaaGreatDoor
