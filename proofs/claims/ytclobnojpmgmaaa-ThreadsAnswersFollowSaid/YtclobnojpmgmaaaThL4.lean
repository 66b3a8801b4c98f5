/-
  ThreadsLaterLettersChangeNothing: the law's walk.
-/
import Derived.Test.YtclobnojpmgmaaaThL2
import Derived.Test.YtclobnojpmgmaaaThQ4
import Derived.Test.YtclobnojpmgmaaaTx
namespace Go.Proofs.Ytclobnojpmgmaaa
open Go.RowKit
set_option linter.unusedVariables false
def lastId : Str := [108, 97, 115, 116, 32, 108, 101, 116, 116, 101, 114]
theorem parQ_cases (l : List Letter) : ∃ P g1 g2, parQ l = (P, g1, g2) ∧ (g1 ≠ 0 ∨ (g1 = 0 ∧ P = Th.parentsF l ∧ l.length ≤ 300)) := by
  by_cases h : (Th.lettersF l).1 = 0
  · exact ⟨_, 0, 0, by rw [parQ, if_neg (by simpa using h)], .inr ⟨rfl, rfl, short_of h⟩⟩
  · exact ⟨[], (Th.lettersF l).1, (Th.lettersF l).2, by rw [parQ, if_pos h], .inl h⟩
set_option maxRecDepth 100000 in
set_option maxHeartbeats 8000000 in
theorem tlater_walk (v0 v1 : Value) (l : List Letter) (refs : List Str) (w : World) (h : SlR letterC M0 w v0 l) (h1 : SlR strC M0 w v1 refs) (hsz : (l.length + 1) * 48 ≤ 140737488355328) :
    Calls Try.prog 6 #[v0, v1] w fun e w' => e = .returned (.bool true) ∧ Below w.heap.size w w' := by
  obtain ⟨A, c, rfl, _, _⟩ := h.form
  obtain ⟨A1, c1, rfl, _, _⟩ := h1.form
  obtain ⟨P, g1, g2, hP, hPc⟩ := parQ_cases l
  have hpar := fun W (hb : Below w.heap.size w W) => tparents_ok _ l W (h.ext hb)
  rw [hP] at hpar
  have Hpar := Lib.hid hpar; have HPc := Lib.hid hPc
  clear hpar hP hPc
  have hbw := Below.refl w.heap.size w
  go_enter Try.func6, Try.ntmps6
  go_wp2_with fail
  refine (texample_ok _).mono ?_
  rintro e w0 ⟨rfl, hq1⟩
  replace h := h.ext hq1
  replace h1 := h1.ext hq1
  replace hbw := hbw.trans (hq1.mono hbw.size)
  clear hq1
  go_wp2_with fail
  refine (Hpar.out _ hbw).mono ?_
  rintro e w1 ⟨vp, rfl, hp, hq2⟩
  dsimp only
  obtain ⟨Ap, cp, rfl, _, _⟩ := hp.form
  have ha2 := (Below.refl w1.heap.size w1).alloc (Nat.le_refl _) (.cells #[.int .i64 g1, .int .i64 g2] 25)
  have hc2 := below2 hq2 ha2
  replace h := h.ext hc2
  replace h1 := h1.ext hc2
  replace hbw := hbw.trans (hc2.mono hbw.size)
  have k1 := Blk.new w1 25 #[.int .i64 g1, .int .i64 g2]
  clear hq2 hc2
  replace hp := hp.ext ha2
  obtain ⟨W, hW⟩ : ∃ W, w1.alloc (.cells #[.int .i64 g1, .int .i64 g2] 25) = W := ⟨_, rfl⟩
  rw [hW] at h h1 hp k1 hbw
  have hl0 : SlR letterC (fun b => M0 b ∨ (Value.slice none 0 0).ownBlock = some b) W (.slice A l.length c) l := h.sub fun b _ hor => hor.elim (fun h => h) fun h => by simp [Value.ownBlock] at h
  have h1B := h1.toMB
  have hWW := Nat.le_refl W.heap.size
  have HW := Lib.hid hW
  clear hW ha2 Hpar
  go_wp2_with (at_builtin; rw [HW.out]; refine wpList_append_Own letterC (M := M0) (B := W.heap.size) (l := []) (l' := l) TLetters rfl (.const (.slice none 0 0)) (.tmp 18) rfl rfl (Own.nil _ _ _ _ _) rfl hl0 ?a1 ?a2 hWW ?a5)
  case a1 => simp only [maxLen, List.length_nil]; omega
  case a2 => simp only [List.length_nil]; omega
  intro A5 c5 L5 w5 hL5 own5 hb5 hg5 _
  have hL5' : L5 = l := hL5.out
  subst hL5'
  have h1r := h1B.ext hb5
  have hrd : letterC.rd (fun b => M0 b ∨ (Value.slice A5 L5.length c5).ownBlock = some b) w5 [.string ⟨#[108, 97, 115, 116, 32, 108, 101, 116, 116, 101, 114]⟩, .slice A1 refs.length c1, .int .i64 68719476736] (lastId, refs, 68719476736) :=
    letter_rd (x := (lastId, refs, 68719476736)) (by simp [lastId, maxLen]) (h1r.sub fun b _ hor => hor.elim (fun h => h.elim) fun h => .inr (own5.base b h)) (by simp) (by simp)
  have hs5 := hb5.size
  clear hg5 h1B h1r h1 hl0
  go_wp2_with (at_builtin; refine wpList_push_Own letterC (M := M0) (B := W.heap.size) TLetters rfl (.tmp 19) (.tmp 22) rfl rfl own5 rfl (cs := [.string ⟨#[108, 97, 115, 116, 32, 108, 101, 116, 116, 101, 114]⟩, .slice A1 refs.length c1, .int .i64 68719476736]) (y := (lastId, refs, 68719476736)) hrd (fun _ h => h.elim) ?b1 ?b2 hs5 ?b5)
  case b1 => simp only [maxLen]; omega
  intro A6 c6 L6 w6 hL6 own6 hb6 hg6 _
  have hb56 := hb5.trans hb6
  have hb7 := hbw.trans (hb56.mono hbw.size)
  have h := h.ext hb56
  have hp := hp.ext hb56
  have k1 := k1.ext hb56
  have hm := own6.read0
  clear hb5 hb6 hg6 own5 own6 hb56 hrd hbw hs5 hWW
  obtain ⟨Q, f1, f2, hQ, hQc⟩ := parQ_cases L6
  have hpar := tparents_ok _ L6 w6 hm
  rw [hQ] at hpar
  have HL6 := Lib.hid hL6; have HQc := Lib.hid hQc
  clear hQ hQc hL6
  have hbw := hb7
  clear hb7 HW
  go_wp2_with fail
  refine hpar.mono ?_
  rintro e w7 ⟨vq, rfl, hq, hb7⟩
  dsimp only at hq ⊢
  obtain ⟨Aq, cq, rfl, _, _⟩ := hq.form
  have al := (Below.refl w7.heap.size w7).alloc (Nat.le_refl _) (.cells #[.int .i64 f1, .int .i64 f2] 25)
  have hb78 := hb7.trans (al.mono hb7.size)
  have k2 := Blk.new w7 25 #[.int .i64 f1, .int .i64 f2]
  have h := h.ext hb78
  have hp := hp.ext hb78
  have k1 := k1.ext hb78
  have hq := hq.ext al
  have hbw := hbw.trans (hb78.mono hbw.size)
  clear hb7 al hb78 hm hpar
  obtain ⟨hl1, hl2⟩ := h.lenM
  go_wp2_with fail
  generalize w7.alloc (.cells #[.int .i64 f1, .int .i64 f2] 25) = W8 at h hp k1 k2 hq hbw ⊢
  go_loop [10] (fun iv => ∃ k : Nat, k ≤ L5.length ∧ iv = .int .i64 (k : Int) ∧ Hid (∀ (j : Nat) (hj : j < L5.length), j < k → lastId ∉ L5[j].2.1)) (fun iv => L5.length - (intOf iv).toNat)
  case atStart => exact ⟨0, Nat.zero_le _, rfl, Lib.hid fun j _ h => absurd h (by omega)⟩
  case round =>
    obtain ⟨k, hk, rfl, hno⟩ := hrel
    by_cases hlt : k < L5.length
    · obtain ⟨b, off, A2, c2, rfl, _, _, p0, p1, p2, _, hrf, _, _⟩ := h.letterAt hlt
      have ht := hasText_ok M0 (.slice A2 L5[k].2.1.length c2) L5[k].2.1 lastId W8 hrf
      have hno2 : (L5[k].2.1.any fun x => x == lastId) = false → Hid (∀ (j : Nat) (hj : j < L5.length), j < k + 1 → lastId ∉ L5[j].2.1) := fun hf => Lib.hid fun j hj hjk => by
        by_cases e : j = k
        · subst e
          intro hm
          rw [List.any_eq_false] at hf
          exact hf _ hm (by simp)
        · exact hno.out j hj (by omega)
      obtain ⟨y, hy⟩ : ∃ y, L5[k] = y := ⟨_, rfl⟩
      rw [hy] at p0 p1 p2 ht hno2
      obtain ⟨yi, yr, yt⟩ := y
      dsimp only at p0 p1 p2 ht hno2
      obtain ⟨t, htt⟩ : ∃ t, (yr.any fun x => x == lastId) = t := ⟨_, rfl⟩
      rw [htt] at ht hno2
      have Ht := Lib.hid ht; have Hno2 := Lib.hid hno2
      have hil : (k : Int) < (L5.length : Int) := by omega
      have hi0 : (0 : Int) ≤ (k : Int) := by omega
      have hiw : IntKind.i64.wrap (k : Int) = (k : Int) := IntWalk.i64_in _ (by omega)
      clear ht hno2 hy hrf htt
      by_cases hy : yt = 68719476736
      · subst hy
        go_wp2
        go_ret
        exact ⟨rfl, hbw⟩
      · have hyb : (yt == 68719476736) = false := by simpa using hy
        clear hy
        go_wp2_with fail
        refine Ht.out.mono ?_
        rintro e w9 ⟨rfl, rfl⟩
        cases t with
        | true =>
          go_wp2
          go_ret
          exact ⟨rfl, hbw⟩
        | false =>
          have hno3 := Hno2.out rfl
          clear Hno2 hno
          go_wp2
          go_round
          case rel => exact ⟨k + 1, by omega, by go_num, hno3⟩
          case measure => simp [intOf]; omega
    · obtain rfl : k = L5.length := by omega
      obtain ⟨p0, p1, _, _, _⟩ := k1.two
      obtain ⟨q0, q1, _, _, _⟩ := k2.two
      by_cases he1 : g1 = 0
      · subst he1
        by_cases he2 : f1 = 0
        · subst he2
          rcases HPc.out with h9 | ⟨_, hP, _⟩
          · exact absurd rfl h9
          rcases HQc.out with h9 | ⟨_, hQ, hn⟩
          · exact absurd rfl h9
          have hmore := parents_more L5 (lastId, refs, 68719476736) (fun x hx => by
            obtain ⟨j, hj, rfl⟩ := List.mem_iff_getElem.1 hx
            exact hno.out j hj hj)
          have hQl : Q.length = L5.length + 1 := by rw [hQ, HL6.out]; simp [Th.parentsF]
          have htk : Q.take L5.length = P := by rw [hQ, HL6.out, hmore, hP]
          obtain ⟨b, off, hAq⟩ : ∃ b off, Aq = some ⟨b, off, none⟩ := by
            obtain ⟨b, off, h, _⟩ := hq.intAt (k := 0) (by omega)
            exact ⟨b, off, h⟩
          subst hAq
          obtain ⟨hq1, hq2⟩ := hq.lenM
          have hcut := hq.cutS (lo := 0) (hi := L5.length) (Nat.zero_le _) (by omega) (by omega)
          rw [List.drop_zero, htk, Nat.sub_zero, Nat.sub_zero, Nat.zero_mul, Nat.add_zero] at hcut
          have hi := ints_ok _ _ P P W8 hcut hp
          rw [beq_self_eq_true] at hi
          have Hi := Lib.hid hi
          rw [hQl] at hq1 ⊢
          have hqc : L5.length ≤ cq := by omega
          have hw1 : IntKind.i64.wrap ((L5.length : Int) + 1) = (L5.length : Int) + 1 := IntWalk.i64_in _ (by omega)
          clear HPc HQc hP hQ hmore hQl htk hcut hi hq hp h hno hlt
          go_wp2_with fail
          refine Hi.out.mono ?_
          rintro e w9 ⟨rfl, hb9⟩
          have hbw := hbw.trans (hb9.mono hbw.size)
          clear Hi hb9
          go_wp2
          go_ret
          exact ⟨rfl, hbw⟩
        · have e2 : (f1 != 0) = true := by simpa using he2
          clear he2 HPc HQc
          go_wp2
          go_ret
          exact ⟨rfl, hbw⟩
      · have e1 : (g1 != 0) = true := by simpa using he1
        clear he1 HPc HQc
        go_wp2
        go_ret
        exact ⟨rfl, hbw⟩
end Go.Proofs.Ytclobnojpmgmaaa
