/-
  The reference's Words and Stems.
-/
import Derived.Test.YtinmpjhmbciapaaDoorSmM
import Derived.Test.YtinmpjhmbciapaaDoorTxs
import Derived.Test.YtinmpjhmbciapaaDoorSmF
namespace Go.Proofs.YtinmpjhmbciapaaDoor
open Go.RowKit
set_option linter.unusedVariables false
theorem mem_le_sum : ∀ {l : List Nat} {x : Nat}, x ∈ l → x ≤ l.sum
  | _ :: _, _, .head _ => by simp
  | _ :: _, _, .tail _ h => by have := mem_le_sum h; simp only [List.sum_cons]; omega
theorem Sm.wordsFrom_len {n : Nat} {cur l : Str} {x : Str} (h : x ∈ Sm.wordsFrom cur l) (hn : cur.length + l.length ≤ n) : x.length ≤ n := by
  have h1 := (Sm.words_sum l.length cur l (Nat.le_refl _)).1
  have h2 : x.length ≤ ((Sm.wordsFrom cur l).map List.length).sum := mem_le_sum (List.mem_map_of_mem h)
  omega
set_option maxHeartbeats 4000000 in
theorem refWords_ok (s : Str) (hs : s.length ≤ 4000000) (w : World) (hT : TabsU w) : Calls Tryd.prog 19 #[.string (bs s)] w fun e w' => ∃ (A : Option Addr) (c : Nat) (L : List Str), e = .returned (.slice A L.length c) ∧ Hid (L = Sm.words s) ∧ Own strC M0 w' w.heap.size 9 (.slice A L.length c) L ∧ Below w.heap.size w w' := by
  have HT := Lib.hid hT
  clear hT
  obtain ⟨res, hres⟩ : ∃ r, Sm.words s = r := ⟨_, rfl⟩
  rw [hres]
  have Hres := Lib.hid hres
  clear hres
  go_enter Tryd.func19, Tryd.ntmps19
  go_wp2
  go_loopw [0, 3, 4] (fun t o c wr => ∃ (l cur : Str) (A : Option Addr) (cp : Nat) (L : List Str), t = .string (bs l) ∧ c = .string (bs cur) ∧ o = .slice A L.length cp ∧ cur.length + l.length ≤ s.length ∧ L.length + cur.length + l.length ≤ s.length ∧
      Hid (L ++ (Sm.wordsFrom cur l).map Sm.lower = res) ∧ Own strC M0 wr w.heap.size 9 (.slice A L.length cp) L ∧ Below w.heap.size w wr) (fun t _ _ _ => (strOf t).length)
  case atStart => exact ⟨s, [], none, 0, [], rfl, rfl, rfl, by simp, by simp, Lib.hid (by rw [← Hres.out]; rfl), Own.nil _ _ _ _ _, Below.refl _ _⟩
  case round =>
    obtain ⟨l, cur, A, cp, L, rfl, rfl, rfl, hl, hLl, hL, hown, hb⟩ := hrel
    by_cases hne : l = []
    · subst hne
      have hst := Sm.wordsFrom_nil cur
      have Hst := Lib.hid hst
      clear hst
      by_cases hc : cur = []
      · subst hc
        have hr : res = L := by rw [← hL.out, Hst.out]; simp
        have Hr := Lib.hid hr
        clear hr
        go_wp2
        go_ret
        exact ⟨A, cp, L, rfl, Lib.hid Hr.out.symm, hown, hb⟩
      · simp only [List.length_nil, Nat.add_zero] at hl hLl
        have hce : cur.isEmpty = false := by simpa using hc
        have hce2 : (cur == []) = false := by simpa using hc
        have hcl : 1 ≤ cur.length := List.length_pos_iff.2 hc
        have hll := Sm.lower_len cur.length cur (Nat.le_refl _)
        have hlw := refLower_ok cur (by omega) wr (HT.out.ext hb)
        obtain ⟨lw, hlw2⟩ : ∃ x, Sm.lower cur = x := ⟨_, rfl⟩
        rw [hlw2] at hlw hll
        have Hlw := Lib.hid hlw; have Hlw2 := Lib.hid hlw2; have Hc := Lib.hid hc
        clear hlw hlw2 hc
        go_wp2_with fail
        refine Hlw.out.mono ?_
        rintro e w3 ⟨rfl, hb3⟩
        have hown3 := hown.ext hb3
        have hbw3 := below2 hb hb3
        have hsz := hbw3.size
        clear Hlw hown hb3
        go_wp2_with (at_builtin; refine wpList_push_Own strC (M := M0) (B := w.heap.size) TStrs rfl (.tmp 34) (.tmp 37) rfl rfl hown3 rfl (cs := [.string (bs lw)]) (y := lw) ⟨rfl, by unfold maxLen; omega⟩ (fun _ h => h.elim) ?pb1 ?pb2 hsz ?_)
        case pb1 => simp only [maxLen]; omega
        case pb2 => omega
        intro A4 c4 L4 w4 hL4 hown4 hb4 _ _
        have hbw4 := hbw3.trans hb4
        have hlen4 : L4.length = L.length + 1 := by rw [hL4.out, List.length_append]; rfl
        clear hown3 hb4
        go_wp2
        go_ret
        exact ⟨A4, c4, L4, rfl, Lib.hid (by rw [← hL.out, Hst.out, if_neg Hc.out, hL4.out, ← Hlw2.out]; rfl), hown4, hbw4⟩
    · have hpos := List.length_pos_iff.2 hne
      have hst := Sm.wordsFrom_step (cur := cur) hne
      have hw1 := Lib.decodeL_width l
      have hw2 := Sm.width_le hne
      have hr := Lib.decodeL_rune l
      have hdec := Tryd.utf8_DecodeRuneInString (bs l) wr (HT.out.ext hb).u8
      have hdg : Lib.decodeGo (bs l) = Lib.decodeL l := by
        unfold Lib.decodeGo
        rw [if_neg (by rw [bs_size]; omega)]
        rfl
      rw [hdg] at hdec
      obtain ⟨r, hrr⟩ : ∃ r, (Lib.decodeL l).1 = r := ⟨_, rfl⟩
      obtain ⟨n, hnn⟩ : ∃ n, (Lib.decodeL l).2 = n := ⟨_, rfl⟩
      rw [hrr] at hst hr hdec
      rw [hnn] at hst hw1 hw2 hdec
      have hin := fun W hbb => inWord_ok r hr W ((HT.out.ext hb).ext hbb)
      obtain ⟨t, ht⟩ : ∃ t, Sm.isL r = t := ⟨_, rfl⟩
      rw [ht] at hin hst
      have Hdec := Lib.hid hdec; have Hin := Lib.hid hin; have Hst := Lib.hid hst
      clear hdec hin hst hdg hrr hnn ht
      have hd0 : decide ((0 : Int) < (l.length : Int)) = true := by simp; omega
      have hd1 : 0 < l.length := hpos
      have hn0 : (0 : Int) ≤ (n : Int) := by omega
      have hn1 : (n : Int) ≤ (l.length : Int) := by omega
      go_wp2_with fail
      refine Hdec.out.mono ?_
      rintro e w1 ⟨rfl, hb1⟩
      go_wp2_with fail
      refine (Hin.out w1 hb1).mono ?_
      rintro e w2 ⟨rfl, hb2⟩
      have hb12 := below2 hb1 hb2
      have hown2 := hown.ext hb12
      have hbw2 := below2 hb hb12
      clear hown hb1 hb2 hb12 hb
      cases t with
      | true =>
        have hcat : (cur.length + n ≤ 9223372036854775807) = True := by simp; omega
        have hmin : min n l.length = n := by omega
        go_wp2
        go_roundw
        case rel => exact ⟨l.drop n, cur ++ l.take n, A, cp, L, by rw [List.take_of_length_le (by rw [List.length_drop]; exact Nat.le_refl _)], rfl, rfl, by rw [List.length_append, List.length_take, List.length_drop]; omega, by rw [List.length_append, List.length_take, List.length_drop]; omega,
          Lib.hid (by rw [← hL.out, Hst.out]; rfl), hown2, hbw2⟩
        case measure => simp [strOf, bs]; omega
      | false =>
        by_cases hc : cur = []
        · subst hc
          go_wp2
          go_roundw
          case rel => exact ⟨l.drop n, [], A, cp, L, by rw [List.take_of_length_le (by rw [List.length_drop]; exact Nat.le_refl _)], rfl, rfl, by rw [List.length_drop]; simp at hl ⊢; omega, by rw [List.length_drop]; simp at hLl ⊢; omega,
            Lib.hid (by rw [← hL.out, Hst.out]; rfl), hown2, hbw2⟩
          case measure => simp [strOf, bs]; omega
        · have hce : cur.isEmpty = false := by simpa using hc
          have hce2 : (cur == []) = false := by simpa using hc
          have hcl : 1 ≤ cur.length := List.length_pos_iff.2 hc
          have hll := Sm.lower_len cur.length cur (Nat.le_refl _)
          have hlw := refLower_ok cur (by omega) w2 (HT.out.ext hbw2)
          obtain ⟨lw, hlw2⟩ : ∃ x, Sm.lower cur = x := ⟨_, rfl⟩
          rw [hlw2] at hlw hll
          have Hlw := Lib.hid hlw; have Hlw2 := Lib.hid hlw2; have Hc := Lib.hid hc
          clear hlw hlw2 hc
          go_wp2_with fail
          refine Hlw.out.mono ?_
          rintro e w3 ⟨rfl, hb3⟩
          have hown3 := hown2.ext hb3
          have hbw3 := below2 hbw2 hb3
          have hsz := hbw3.size
          clear Hlw hown2 hb3
          go_wp2_with (at_builtin; refine wpList_push_Own strC (M := M0) (B := w.heap.size) TStrs rfl (.tmp 24) (.tmp 27) rfl rfl hown3 rfl (cs := [.string (bs lw)]) (y := lw) ⟨rfl, by unfold maxLen; omega⟩ (fun _ h => h.elim) ?pa1 ?pa2 hsz ?_)
          case pa1 => simp only [maxLen]; omega
          case pa2 => omega
          intro A4 c4 L4 w4 hL4 hown4 hb4 _ _
          have hbw4 := hbw3.trans hb4
          have hlen4 : L4.length = L.length + 1 := by rw [hL4.out, List.length_append]; rfl
          clear hown3 hb4
          go_wp2
          go_roundw
          case rel => exact ⟨l.drop n, [], A4, c4, L4, by rw [List.take_of_length_le (by rw [List.length_drop]; exact Nat.le_refl _)], rfl, rfl, by rw [List.length_drop]; simp; omega, by rw [List.length_drop, hlen4]; simp; omega,
            Lib.hid (by rw [← hL.out, Hst.out, if_neg (by simp), if_neg Hc.out, hL4.out, ← Hlw2.out]; simp), hown4, hbw4⟩
          case measure => simp [strOf, bs]; omega
def mapTo {α : Type} (f : α → α) (l : List α) (k : Nat) : List α := (l.take k).map f ++ l.drop k
theorem mapTo_len {α : Type} (f : α → α) (l : List α) (k : Nat) : (mapTo f l k).length = l.length := by simp [mapTo]; omega
theorem mapTo_zero {α : Type} (f : α → α) (l : List α) : mapTo f l 0 = l := by simp [mapTo]
theorem mapTo_all {α : Type} (f : α → α) (l : List α) : mapTo f l l.length = l.map f := by simp [mapTo]
theorem mapTo_get {α : Type} (f : α → α) (l : List α) (k : Nat) (hk : k < l.length) : (mapTo f l k)[k]'(by rw [mapTo_len]; exact hk) = l[k] := by
  unfold mapTo
  rw [List.getElem_append_right (by simp; omega)]
  simp [Nat.min_eq_left (Nat.le_of_lt hk)]
theorem mapTo_succ {α : Type} (f : α → α) (l : List α) (k : Nat) (hk : k < l.length) : mapTo f l (k + 1) = (mapTo f l k).set k (f l[k]) := by
  unfold mapTo
  have hl : ((l.take k).map f).length = k := by rw [List.length_map, List.length_take]; omega
  rw [List.drop_eq_getElem_cons hk, List.take_succ_eq_append_getElem hk, List.set_append, hl, if_neg (Nat.lt_irrefl k), Nat.sub_self, List.set_cons_zero, List.map_append, List.append_assoc]
  rfl
set_option maxHeartbeats 2000000 in
theorem refStems_ok (s : Str) (hs : s.length ≤ 4000000) (w : World) (hT : TabsU w) : Calls Tryd.prog 20 #[.string (bs s)] w fun e w' => ∃ (A : Option Addr) (c : Nat) (L : List Str), e = .returned (.slice A L.length c) ∧ Hid (L = Sm.stems s) ∧ Own strC M0 w' w.heap.size 9 (.slice A L.length c) L ∧ Below w.heap.size w w' := by
  have hw := refWords_ok s hs w hT
  have Hw := Lib.hid hw
  clear hw hT
  go_enter Tryd.func20, Tryd.ntmps20
  go_wp2_with fail
  refine Hw.out.mono ?_
  rintro e w1 ⟨A, c, L, rfl, hL, hown1, hb1⟩
  clear Hw
  go_wp2
  go_loopw [4] (fun i wr => ∃ (k : Nat) (Lk : List Str), i = .int .i64 k ∧ k ≤ L.length ∧ Hid (Lk = mapTo Sm.stem L k) ∧ Hid (Lk.length = L.length) ∧ Own strC M0 wr w.heap.size 9 (.slice A L.length c) Lk ∧ Below w.heap.size w wr) (fun i _ => L.length - (intOf i).toNat)
  case atStart => exact ⟨0, L, rfl, Nat.zero_le _, Lib.hid (mapTo_zero _ _).symm, Lib.hid rfl, hown1, hb1⟩
  case round =>
    obtain ⟨k, Lk, rfl, hk, hLk, hlen, hown, hb⟩ := hrel
    by_cases hlt : k < L.length
    · have hkl : k < Lk.length := by rw [hlen.out]; exact hlt
      obtain ⟨g, c', cur, hv, hlc, hcm, hBg, hblk, hcs⟩ := hown.blk (by omega)
      injection hv with hv1 hv2 hv3
      subst hv1 hv3
      obtain ⟨b, off, he, _, _, hcell, hel⟩ := hown.read0.strAt hkl
      injection he with he
      injection he with he1 he2
      subst he1 he2
      rw [Nat.zero_add] at hcell
      obtain ⟨x, hx⟩ : ∃ x, Lk[k] = x := ⟨_, rfl⟩
      rw [hx] at hcell hel
      have hxl : L[k] = x := by
        rw [← hx, ← mapTo_get Sm.stem L k hlt]
        congr 1
        exact hLk.out.symm
      have hc := fun W => stem_ok (Sm.mu x) x (Nat.le_refl _) hel W
      obtain ⟨y, hy⟩ : ∃ y, Sm.stem x = y := ⟨_, rfl⟩
      rw [hy] at hc
      have hyl : y.length ≤ x.length := by rw [← hy]; exact Sm.stem_len x
      have hset : mapTo Sm.stem L (k + 1) = Lk.set k y := by rw [mapTo_succ Sm.stem L k hlt, hxl, hy, hLk.out]
      have Hc := Lib.hid hc; have Hset := Lib.hid hset
      have hfz := hblk.frozen k
      have hbk := Lib.hid hblk
      unfold maxLen at hcm hel
      have hcn : L.length ≤ c := by rw [hv2]; exact hlc
      clear hc hset hx hxl hy hlc hcs hblk hv2
      go_wp2_with fail
      refine (Hc.out _).mono ?_
      rintro e w2 ⟨rfl, hb2⟩
      clear Hc
      have hfz2 := (hbk.out.ext hb2).frozen k
      have hlt2 := (hbk.out.ext hb2).lt
      have hown2 := hown.ext hb2
      have hc2 : w2.cell? ⟨g, k, none⟩ = some (.string (bs x)) := (hb2.cell (p := ⟨g, k, none⟩) (by exact hbk.out.lt)).trans hcell
      have hbw2 := below2 hb hb2
      have hput := hown2.put1 rfl hkl (u := .string (bs y)) (a := y) ⟨rfl, by unfold maxLen; omega⟩
      clear hcell hfz hown hb hb2 hown2
      go_wp2
      go_roundw
      case rel => exact ⟨k + 1, Lk.set k y, by go_num, by omega, Lib.hid Hset.out.symm, Lib.hid (by rw [List.length_set, hlen.out]), hput, hbw2.setCell (p := ⟨g, k, none⟩) hBg _⟩
      case measure => simp [intOf]; omega
    · have he : k = L.length := by omega
      have hres : Lk = Sm.stems s := by rw [hLk.out, he, mapTo_all, hL.out]; rfl
      have hlk := hlen.out
      rw [← hlk] at hown
      have Hres := Lib.hid hres
      clear hres he
      go_wp2
      go_ret
      refine ⟨A, c, Lk, ?_, Hres, hown, hb⟩
      rw [hlk]; rfl
end Go.Proofs.YtinmpjhmbciapaaDoor
