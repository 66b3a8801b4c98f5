/-
  Contracts and plain facts, one after another: The reference's Words and Stems; stem.Words; slices.Collect of texts, over an iterator; A text cut at spaces, piece by piece; plain; strings.SplitSeq at a space: the iterator; index.duplicate.
-/
import Derived.Test.YtnlhocbaighedaaGreatDoorR7
import Derived.Test.YtnlhocbaighedaaGreatDoorR2
import Derived.Test.YtnlhocbaighedaaGreatDoorR8
import Derived.Test.YtnlhocbaighedaaGreatDoorR4
import Derived.Test.YtnlhocbaighedaaGreatDoorR5
import Derived.Test.YtnlhocbaighedaaGreatDoorShelf
import Derived.Test.YtnlhocbaighedaaGreatDoorR6
import Derived.Lib.IndexBytes
namespace Go.Proofs.YtnlhocbaighedaaGreatDoor
open Go.RowKit
set_option linter.unusedVariables false
set_option maxHeartbeats 4000000 in
theorem refWords_ok (s : Str) (hs : s.length ≤ 4000000) (w : World) (hT : TabsU w) : Calls Tryz.prog 61 #[.string (bs s)] w fun e w' => ∃ (A : Option Addr) (c : Nat) (L : List Str), e = .returned (.slice A L.length c) ∧ Hid (L = Sm.words s) ∧ Own strC M0 w' w.heap.size 9 (.slice A L.length c) L ∧ Below w.heap.size w w' := by
 have HT := Lib.hid hT
 clear hT
 obtain ⟨res, hres⟩ : ∃ r, Sm.words s = r := ⟨_, rfl⟩
 rw [hres]
 have Hres := Lib.hid hres
 clear hres
 go_enter Tryz.func61, Tryz.ntmps61
 go_wp2
 go_loopw [0, 3, 4] (fun t o c wr => ∃ (l cur : Str) (A : Option Addr) (cp : Nat) (L : List Str), t = .string (bs l) ∧ c = .string (bs cur) ∧ o = .slice A L.length cp ∧ cur.length + l.length ≤ s.length ∧ L.length + cur.length + l.length ≤ s.length ∧
   Hid (L ++ (Sm.wordsFrom cur l).map Sm.lower = res) ∧ Own strC M0 wr w.heap.size 9 (.slice A L.length cp) L ∧ Below w.heap.size w wr) (fun t _ _ _ => (strOf t).length)
 case atStart => exact ⟨s, [], none, 0, [], rfl, rfl, rfl, by simp, by simp, Lib.hid (by rw [← Hres.out]; rfl), Own.nil _ _ _ _ _, Below.refl _ _⟩
 case round =>
  obtain ⟨l, cur, A, cp, L, rfl, rfl, rfl, hl, hLl, hL, hown, hb⟩ := hrel
  by_cases hne : l = []
  ·subst hne
   have hst := Sm.wordsFrom_nil cur
   have Hst := Lib.hid hst
   clear hst
   by_cases hc : cur = []
   ·subst hc
    have hr : res = L := by rw [← hL.out, Hst.out]; simp
    have Hr := Lib.hid hr
    clear hr
    go_wp2
    go_ret
    exact ⟨A, cp, L, rfl, Lib.hid Hr.out.symm, hown, hb⟩
   ·simp only [List.length_nil, Nat.add_zero] at hl hLl
    have hce : cur.isEmpty = false := by simpa using hc
    have hce2 : (cur == []) = false := by simpa using hc
    have hcl : 1 ≤ cur.length := List.length_pos_iff.2 hc
    have hll := Sm.lower_len cur.length cur (Nat.le_refl _)
    have hlw := refLower_ok cur (by omega) wr (HT.out.ext hb)
    obtain ⟨lw, hlw2⟩ : ∃ x, Sm.lower cur = x := ⟨_, rfl⟩
    rw [hlw2] at hlw hll
    have Hlw := Lib.hid hlw; have Hlw2 := Lib.hid hlw2; have Hc := Lib.hid hc
    clear hlw hlw2 hc
    go_wp2_with fail
    refine Hlw.out.mono ?_
    rintro e w3 ⟨rfl, hb3⟩
    have hown3 := hown.ext hb3
    have hbw3 := below2 hb hb3
    have hsz := hbw3.size
    clear Hlw hown hb3
    go_wp2_with (at_builtin; refine wpList_push_Own strC (M := M0) (B := w.heap.size) TStrs rfl (.tmp 34) (.tmp 37) rfl rfl hown3 rfl (cs := [.string (bs lw)]) (y := lw) ⟨rfl, by unfold maxLen; omega⟩ (fun _ h => h.elim) ?pb1 ?pb2 hsz ?_)
    case pb1 => simp only [maxLen]; omega
    case pb2 => omega
    intro A4 c4 L4 w4 hL4 hown4 hb4 _ _
    have hbw4 := hbw3.trans hb4
    have hlen4 : L4.length = L.length + 1 := by rw [hL4.out, List.length_append]; rfl
    clear hown3 hb4
    go_wp2
    go_ret
    exact ⟨A4, c4, L4, rfl, Lib.hid (by rw [← hL.out, Hst.out, if_neg Hc.out, hL4.out, ← Hlw2.out]; rfl), hown4, hbw4⟩
  ·have hpos := List.length_pos_iff.2 hne
   have hst := Sm.wordsFrom_step (cur := cur) hne
   have hw1 := Lib.decodeL_width l
   have hw2 := Sm.width_le hne
   have hr := Lib.decodeL_rune l
   have hdec := Tryz.utf8_DecodeRuneInString (bs l) wr (HT.out.ext hb).u8
   have hdg : Lib.decodeGo (bs l) = Lib.decodeL l := by
    unfold Lib.decodeGo
    rw [if_neg (by rw [bs_size]; omega)]
    rfl
   rw [hdg] at hdec
   obtain ⟨r, hrr⟩ : ∃ r, (Lib.decodeL l).1 = r := ⟨_, rfl⟩
   obtain ⟨n, hnn⟩ : ∃ n, (Lib.decodeL l).2 = n := ⟨_, rfl⟩
   rw [hrr] at hst hr hdec
   rw [hnn] at hst hw1 hw2 hdec
   have hin := fun W hbb => inWord_ok r hr W ((HT.out.ext hb).ext hbb)
   obtain ⟨t, ht⟩ : ∃ t, Sm.isL r = t := ⟨_, rfl⟩
   rw [ht] at hin hst
   have Hdec := Lib.hid hdec; have Hin := Lib.hid hin; have Hst := Lib.hid hst
   clear hdec hin hst hdg hrr hnn ht
   have hd0 : decide ((0 : Int) < (l.length : Int)) = true := by simp; omega
   have hd1 : 0 < l.length := hpos
   have hn0 : (0 : Int) ≤ (n : Int) := by omega
   have hn1 : (n : Int) ≤ (l.length : Int) := by omega
   go_wp2_with fail
   refine Hdec.out.mono ?_
   rintro e w1 ⟨rfl, hb1⟩
   go_wp2_with fail
   refine (Hin.out w1 hb1).mono ?_
   rintro e w2 ⟨rfl, hb2⟩
   have hb12 := below2 hb1 hb2
   have hown2 := hown.ext hb12
   have hbw2 := below2 hb hb12
   clear hown hb1 hb2 hb12 hb
   cases t with
   | true =>
    have hcat : (cur.length + n ≤ 9223372036854775807) = True := by simp; omega
    have hmin : min n l.length = n := by omega
    go_wp2
    go_roundw
    case rel => exact ⟨l.drop n, cur ++ l.take n, A, cp, L, by rw [List.take_of_length_le (by rw [List.length_drop]; exact Nat.le_refl _)], rfl, rfl, by rw [List.length_append, List.length_take, List.length_drop]; omega, by rw [List.length_append, List.length_take, List.length_drop]; omega,
     Lib.hid (by rw [← hL.out, Hst.out]; rfl), hown2, hbw2⟩
    case measure => simp [strOf, bs]; omega
   | false =>
    by_cases hc : cur = []
    ·subst hc
     go_wp2
     go_roundw
     case rel => exact ⟨l.drop n, [], A, cp, L, by rw [List.take_of_length_le (by rw [List.length_drop]; exact Nat.le_refl _)], rfl, rfl, by rw [List.length_drop]; simp at hl ⊢; omega, by rw [List.length_drop]; simp at hLl ⊢; omega,
      Lib.hid (by rw [← hL.out, Hst.out]; rfl), hown2, hbw2⟩
     case measure => simp [strOf, bs]; omega
    ·have hce : cur.isEmpty = false := by simpa using hc
     have hce2 : (cur == []) = false := by simpa using hc
     have hcl : 1 ≤ cur.length := List.length_pos_iff.2 hc
     have hll := Sm.lower_len cur.length cur (Nat.le_refl _)
     have hlw := refLower_ok cur (by omega) w2 (HT.out.ext hbw2)
     obtain ⟨lw, hlw2⟩ : ∃ x, Sm.lower cur = x := ⟨_, rfl⟩
     rw [hlw2] at hlw hll
     have Hlw := Lib.hid hlw; have Hlw2 := Lib.hid hlw2; have Hc := Lib.hid hc
     clear hlw hlw2 hc
     go_wp2_with fail
     refine Hlw.out.mono ?_
     rintro e w3 ⟨rfl, hb3⟩
     have hown3 := hown2.ext hb3
     have hbw3 := below2 hbw2 hb3
     have hsz := hbw3.size
     clear Hlw hown2 hb3
     go_wp2_with (at_builtin; refine wpList_push_Own strC (M := M0) (B := w.heap.size) TStrs rfl (.tmp 24) (.tmp 27) rfl rfl hown3 rfl (cs := [.string (bs lw)]) (y := lw) ⟨rfl, by unfold maxLen; omega⟩ (fun _ h => h.elim) ?pa1 ?pa2 hsz ?_)
     case pa1 => simp only [maxLen]; omega
     case pa2 => omega
     intro A4 c4 L4 w4 hL4 hown4 hb4 _ _
     have hbw4 := hbw3.trans hb4
     have hlen4 : L4.length = L.length + 1 := by rw [hL4.out, List.length_append]; rfl
     clear hown3 hb4
     go_wp2
     go_roundw
     case rel => exact ⟨l.drop n, [], A4, c4, L4, by rw [List.take_of_length_le (by rw [List.length_drop]; exact Nat.le_refl _)], rfl, rfl, by rw [List.length_drop]; simp; omega, by rw [List.length_drop, hlen4]; simp; omega,
      Lib.hid (by rw [← hL.out, Hst.out, if_neg (by simp), if_neg Hc.out, hL4.out, ← Hlw2.out]; simp), hown4, hbw4⟩
     case measure => simp [strOf, bs]; omega
def mapTo {α : Type} (f : α → α) (l : List α) (k : Nat) : List α := (l.take k).map f ++ l.drop k
theorem mapTo_len {α : Type} (f : α → α) (l : List α) (k : Nat) : (mapTo f l k).length = l.length := by simp [mapTo]; omega
theorem mapTo_zero {α : Type} (f : α → α) (l : List α) : mapTo f l 0 = l := by simp [mapTo]
theorem mapTo_all {α : Type} (f : α → α) (l : List α) : mapTo f l l.length = l.map f := by simp [mapTo]
theorem mapTo_get {α : Type} (f : α → α) (l : List α) (k : Nat) (hk : k < l.length) : (mapTo f l k)[k]'(by rw [mapTo_len]; exact hk) = l[k] := by
 unfold mapTo
 rw [List.getElem_append_right (by simp; omega)]
 simp [Nat.min_eq_left (Nat.le_of_lt hk)]
theorem mapTo_succ {α : Type} (f : α → α) (l : List α) (k : Nat) (hk : k < l.length) : mapTo f l (k + 1) = (mapTo f l k).set k (f l[k]) := by
 unfold mapTo
 have hl : ((l.take k).map f).length = k := by rw [List.length_map, List.length_take]; omega
 rw [List.drop_eq_getElem_cons hk, List.take_succ_eq_append_getElem hk, List.set_append, hl, if_neg (Nat.lt_irrefl k), Nat.sub_self, List.set_cons_zero, List.map_append, List.append_assoc]
 rfl
set_option maxHeartbeats 2000000 in
theorem refStems_ok (s : Str) (hs : s.length ≤ 4000000) (w : World) (hT : TabsU w) : Calls Tryz.prog 41 #[.string (bs s)] w fun e w' => ∃ (A : Option Addr) (c : Nat) (L : List Str), e = .returned (.slice A L.length c) ∧ Hid (L = Sm.stems s) ∧ Own strC M0 w' w.heap.size 9 (.slice A L.length c) L ∧ Below w.heap.size w w' := by
 have hw := refWords_ok s hs w hT
 have Hw := Lib.hid hw
 clear hw hT
 go_enter Tryz.func41, Tryz.ntmps41
 go_wp2_with fail
 refine Hw.out.mono ?_
 rintro e w1 ⟨A, c, L, rfl, hL, hown1, hb1⟩
 clear Hw
 go_wp2
 go_loopw [4] (fun i wr => ∃ (k : Nat) (Lk : List Str), i = .int .i64 k ∧ k ≤ L.length ∧ Hid (Lk = mapTo Sm.stem L k) ∧ Hid (Lk.length = L.length) ∧ Own strC M0 wr w.heap.size 9 (.slice A L.length c) Lk ∧ Below w.heap.size w wr) (fun i _ => L.length - (intOf i).toNat)
 case atStart => exact ⟨0, L, rfl, Nat.zero_le _, Lib.hid (mapTo_zero _ _).symm, Lib.hid rfl, hown1, hb1⟩
 case round =>
  obtain ⟨k, Lk, rfl, hk, hLk, hlen, hown, hb⟩ := hrel
  by_cases hlt : k < L.length
  ·have hkl : k < Lk.length := by rw [hlen.out]; exact hlt
   obtain ⟨g, c', cur, hv, hlc, hcm, hBg, hblk, hcs⟩ := hown.blk (by omega)
   injection hv with hv1 hv2 hv3
   subst hv1 hv3
   obtain ⟨b, off, he, _, _, hcell, hel⟩ := hown.read0.strAt hkl
   injection he with he
   injection he with he1 he2
   subst he1 he2
   rw [Nat.zero_add] at hcell
   obtain ⟨x, hx⟩ : ∃ x, Lk[k] = x := ⟨_, rfl⟩
   rw [hx] at hcell hel
   have hxl : L[k] = x := by
    rw [← hx, ← mapTo_get Sm.stem L k hlt]
    congr 1
    exact hLk.out.symm
   have hc := fun W => stem_ok (Sm.mu x) x (Nat.le_refl _) hel W
   obtain ⟨y, hy⟩ : ∃ y, Sm.stem x = y := ⟨_, rfl⟩
   rw [hy] at hc
   have hyl : y.length ≤ x.length := by rw [← hy]; exact Sm.stem_len x
   have hset : mapTo Sm.stem L (k + 1) = Lk.set k y := by rw [mapTo_succ Sm.stem L k hlt, hxl, hy, hLk.out]
   have Hc := Lib.hid hc; have Hset := Lib.hid hset
   have hfz := hblk.frozen k
   have hbk := Lib.hid hblk
   unfold maxLen at hcm hel
   have hcn : L.length ≤ c := by rw [hv2]; exact hlc
   clear hc hset hx hxl hy hlc hcs hblk hv2
   go_wp2_with fail
   refine (Hc.out _).mono ?_
   rintro e w2 ⟨rfl, hb2⟩
   clear Hc
   have hfz2 := (hbk.out.ext hb2).frozen k
   have hlt2 := (hbk.out.ext hb2).lt
   have hown2 := hown.ext hb2
   have hc2 : w2.cell? ⟨g, k, none⟩ = some (.string (bs x)) := (hb2.cell (p := ⟨g, k, none⟩) (by exact hbk.out.lt)).trans hcell
   have hbw2 := below2 hb hb2
   have hput := hown2.put1 rfl hkl (u := .string (bs y)) (a := y) ⟨rfl, by unfold maxLen; omega⟩
   clear hcell hfz hown hb hb2 hown2
   go_wp2
   go_roundw
   case rel => exact ⟨k + 1, Lk.set k y, by go_num, by omega, Lib.hid Hset.out.symm, Lib.hid (by rw [List.length_set, hlen.out]), hput, hbw2.setCell (p := ⟨g, k, none⟩) hBg _⟩
   case measure => simp [intOf]; omega
  ·have he : k = L.length := by omega
   have hres : Lk = Sm.stems s := by rw [hLk.out, he, mapTo_all, hL.out]; rfl
   have hlk := hlen.out
   rw [← hlk] at hown
   have Hres := Lib.hid hres
   clear hres he
   go_wp2
   go_ret
   refine ⟨A, c, Lk, ?_, Hres, hown, hb⟩
   rw [hlk]; rfl
end Go.Proofs.YtnlhocbaighedaaGreatDoor
namespace Go.Proofs.YtnlhocbaighedaaGreatDoor
open Go.RowKit
set_option linter.unusedVariables false
theorem Own.weak {α : Type} {C : Codec α} {M M' : Nat → Prop} {w : World} {B B' : Nat} {e : TypeId} {v : Value} {l : List α} (h : Own C M w B e v l) (hB : B' ≤ B) (hM : ∀ b, M' b → M b) : Own C M' w B' e v l := by
 obtain ⟨xs, ho, he⟩ := h
 refine ⟨xs, ⟨ho.1, ?_⟩, he.sub fun b _ hb => hb.imp (hM b) id⟩
 rcases ho.2 with hn | ⟨g, cap, cur, rfl, hb, rest⟩
 ·exact .inl hn
 ·exact .inr ⟨g, cap, cur, rfl, Nat.le_trans hB hb, rest⟩
end Go.Proofs.YtnlhocbaighedaaGreatDoor
namespace Go.Proofs.YtnlhocbaighedaaGreatDoor
open Go.RowKit
set_option linter.unusedVariables false
theorem wpListIn_append_runS {F : Fence} {nF : Nat} {P : Program} {w : World} {ops : Array Oper} {rest : List Oper} {o : Oper} {a : Act} {Q : Exit → Act → World → Prop} (hgd : o.guard = none) (s x : Operand) (t : TypeId)
  (ho : o.op = .call { callee := .builtin .append, args := #[s, x], argTypes := #[t, t] }) {vs vx v : Value} {w' : World} (hs : a.eval s = vs) (hx : a.eval x = vx) (hrun : (Builtin.append_ #[t, t] o.type #[vs, vx]).run P w = .ok v w')
  (h : wpListIn F nF P ops Q rest (a.put o.dst v) w') : wpListIn F nF P ops Q (o :: rest) a w := by
 refine wpListIn_plain hgd fun K hK => ?_
 unfold Oper.wpIn
 refine ⟨by simp [Oper.about, ho, resolve, Target.leads, Sem.run_pure], ?_⟩
 rw [Oper.semAt_plain F _ _ (by rw [ho]; intro c hc'; cases hc')]
 simp [execOp, ho, resolve, invoke, builtin, hs, hx, hrun, Result.andThen]
 exact hK _ _ h
set_option maxRecDepth 100000 in
set_option maxHeartbeats 4000000 in
theorem appendSeqS_ok (gf : FuncId) (lb : Array Value) (xs : List Str) (FP : (Nat → Prop) → World → Prop) (hit : Iter Tryz.prog gf lb encW xs FP) (eg : ∀ args w, (callFunc gf args).run Tryz.prog w = .ok (.enter gf args) w) (hx : ∀ x ∈ xs, x.length ≤ maxLen) (hn : xs.length ≤ 2000000) (w : World)
  (hFP : ∀ S' W, (∀ b, S' b → w.heap.size ≤ b) → Below w.heap.size w W → FP S' W) :
  Calls Tryz.prog 94 #[.slice none 0 0, .func (.func gf) #[] lb] w fun e w' => ∃ (A : Option Addr) (c : Nat) (L : List Str), e = .returned (.slice A L.length c) ∧ Hid (L = xs) ∧ Own strC M0 w' w.heap.size 9 (.slice A L.length c) L ∧ Below w.heap.size w w' := by
 obtain ⟨W0, hW0⟩ : ∃ W0, w.alloc (.cells #[.slice none 0 0] 53) = W0 := ⟨_, rfl⟩
 have hbw : Below w.heap.size w W0 := by rw [← hW0]; exact (Below.refl _ w).alloc (Nat.le_refl _) _
 have k1 : Blk W0 w.heap.size 53 #[.slice none 0 0] := by rw [← hW0]; exact Blk.new w _ _
 have hs1 : W0.heap.size = w.heap.size + 1 := by rw [← hW0]; simp
 have HW := Lib.hid hW0
 clear hW0
 refine calls_of_wp_marks Tryz.func94 rfl ?_
 simp only [Tryz.ntmps94, List.size_toArray, List.length_cons, List.length_nil, Nat.reduceAdd, Nat.reduceSub, Array.replicate_succ, Array.replicate_zero, List.push_toArray, List.append_toArray, List.nil_append, List.cons_append]
 obtain ⟨g, hg⟩ : ∃ g, w.heap.size = g := ⟨_, rfl⟩
 have Hs1 := Lib.hid hs1
 rw [hg] at k1
 clear hs1
 go_wp2
 rw [HW.out]
 refine wp_rangeFunc_iter hit rfl eg (fun _ => rfl)
  (fun k S W => S g ∧ (∀ b, S b → g ≤ b) ∧ Below w.heap.size w W ∧ ∃ A' c' L, Hid (L = xs.take k) ∧ Blk W g 53 #[.slice A' L.length c'] ∧ Own strC M0 W (g + 1) 9 (.slice A' L.length c') L ∧
   (∀ b, (Value.slice A' L.length c').ownBlock = some b → S b)) (fun _ _ _ _ => False) (fun b => b = g) ?_ ?_ ?_ (fun _ _ _ _ _ h _ => h)
  ⟨rfl, fun b hb => by rw [hb]; exact Nat.le_refl _, hbw, none, 0, [], Lib.hid (by simp), k1, Own.nil _ _ _ _ _, fun b hb => by simp [Value.ownBlock] at hb⟩
  (fun x => { tmps := #[.slice none 0 0, .func (.func gf) #[] lb, .pointer (some ⟨g, 0, none⟩), undef, .slice none 0 0, .string (bs x), .func (.func gf) #[] lb, .string (bs x), undef, undef, undef, undef, undef], defers := [] }) ?_ ?_ ?_ ?_
 ·rintro b rfl; have := Hs1.out; omega
 ·intro S' W hS' hbW
  exact hFP S' W (fun b hb => by rcases hS' b hb with h | h; omega; have := Hs1.out; omega) (hbw.trans (hbW.mono hbw.size))
 ·rintro k S W W' ⟨h1, h2, h3, A', c', L, hL, h4, h5, h6⟩ hkept
  exact ⟨h1, h2, hkept.below (by have := Hs1.out; omega) h3 h3.size, A', c', L, hL, h4.keep (hkept.same _ h4.lt (.inr h1)), h5.flatC flatC_str (fun b hb => hkept.same b (h5.lt b hb) (.inr (h6 b hb))), h6⟩
 ·intro l' x W K hK
  simp only [encW]
  gi_wp2_with (rw [Oper.semAt_eq _ _ _ (fun c h => by cases h)]; go_simp)
  exact hK
 ·rintro l' k hk S W ⟨h1, h2, h3, A', c', L, hL, h4, h5, h6⟩ hlt hsz
  obtain ⟨hc, hz, hb⟩ := h4.one
  obtain ⟨r, hr⟩ : ∃ r, r = xs[k] := ⟨_, rfl⟩
  have hrx := hx _ (List.getElem_mem hk)
  rw [← hr] at hrx ⊢
  have Hr := Lib.hid hr
  clear hr
  obtain ⟨i, hi, hzz, q1, q2⟩ := info_parts (by kernel_rfl : (Tryz.prog.info? 9).map (fun i => (i.zero, i.size, i.bytes)) = some (some (.string ⟨#[]⟩), 1, 16))
  have hal := (Below.refl W.heap.size W).alloc (Nat.le_refl _) (.cells #[.string (bs r)] 9)
  have kn := Blk.new W 9 #[.string (bs r)]
  have hLk : L.length ≤ 2000000 := by rw [hL.out, List.length_take]; omega
  have hgsz : w.heap.size + 1 ≤ W.heap.size := by have := Hs1.out; omega
  obtain ⟨v', W9, hrun, hown', hgr, hor⟩ := run_append_Own (P := Tryz.prog) strC (w := W.alloc (.cells #[.string (bs r)] 9)) (M := M0) 53 53 9 i (.string ⟨#[]⟩) 16 Tryz.underlying53 hi hzz q1 q2 rfl (h5.ext hal) (some ⟨W.heap.size, 0, none⟩) 1 1 [.string (bs r)] (l' := [r]) (Els.single ⟨rfl, hrx⟩) rfl
   (fun _ => ⟨W.heap.size, 0, rfl, fun j u hu => by rw [Nat.zero_add, kn.cell]; simpa using hu⟩) (by simp [maxLen]; omega) (by simp; omega) (by simp; omega)
  obtain ⟨A9, c9, rfl, _, _⟩ := hown'.shape
  have hne : some g ≠ (Value.slice A' L.length c').ownBlock := fun e => by have := h5.base _ e.symm; omega
  have h49 := (h4.ext hal).grown hgr hne
  obtain ⟨x0, x1, _⟩ := h49.one
  have hbg := hgr.size
  rw [World.size_alloc] at hbg
  have Hown := Lib.hid hown'; have Hgr := Lib.hid hgr; have Hor := Lib.hid hor; have H49 := Lib.hid h49
  have Hrun := Lib.hid hrun
  clear hown' hgr hor h49 kn hrun
  gi_wp2_with (first | (gi_at_builtin; refine wpListIn_append_runS rfl (.tmp 8) (.tmp 10) 53 rfl rfl rfl Hrun.out ?_) | (rw [Oper.semAt_eq _ _ _ (fun c h => by cases h)]; go_simp))
  have hown' := Hown.out
  have hgr := Hgr.out
  have hblk : ∀ b, b < W.heap.size → some b ≠ (Value.slice A' L.length c').ownBlock → W9.heap[b]? = W.heap[b]? := fun b hb1 hb2 => (hgr.block b (by rw [World.size_alloc]; omega) hb2).trans (hal.block b hb1)
  have hown4 : ∀ b, (Value.slice A9 (L ++ [r]).length c9).ownBlock = some b → (S b ∨ (W.heap.size ≤ b ∧ b < W9.heap.size)) ∧ b ≠ g := fun b ho => by
   refine ⟨?_, by have := hown'.base b ho; omega⟩
   rcases Hor.out with e | e
   ·exact .inl (h6 b (e ▸ ho))
   ·have h7 := hown'.lt b ho
    rw [e, World.size_alloc] at ho; injection ho with ho
    exact .inr ⟨by omega, h7⟩
  refine ⟨fun b => S b ∨ (W.heap.size ≤ b ∧ b < W9.heap.size), ⟨hgr.os.trans hal.os, hgr.tape.trans hal.tape, hgr.output.trans hal.output, by simp; omega, fun b hb1 hnS => ?_, fun b hb1 => ?_⟩, .inl h1, fun b hb1 => ?_, ?_, A9, c9, L ++ [r], ?_, ?_, ?_, fun b ho => (hown4 b ho).1⟩
  ·exact (Below.heap_setCell _ _ _ _ fun e => hnS (by rw [e]; exact h1)).trans (hblk b hb1 fun e => hnS (h6 b e.symm))
  ·rcases hb1 with h7 | h7
   ·exact ⟨by have := hlt b h7; simp; omega, .inl h7⟩
   ·exact ⟨by simp; omega, .inr h7.1⟩
  ·rcases hb1 with h7 | h7
   ·exact h2 b h7
   ·omega
  ·refine Below.setCell (p := ⟨g, 0, none⟩) (h3.trans ⟨hgr.os.trans hal.os, hgr.tape.trans hal.tape, hgr.output.trans hal.output, by omega, fun b hb1 => hblk b (by omega) fun e => by have := h5.base _ e.symm; omega⟩) (by show w.heap.size ≤ g; omega) _
  ·exact Lib.hid (by rw [hL.out, List.take_succ_eq_append_getElem hk, ← Hr.out])
  ·have := H49.out.set_ 0 (Value.slice A9 (L ++ [r]).length c9); simpa using this
  ·exact hown'.flatC flatC_str fun b hb => Below.heap_setCell _ _ _ _ (hown4 b hb).2
 ·rintro D S W hD hSD ⟨h1, h2, h3, A', c', L, hL, h4, h5, h6⟩ hWD
  obtain ⟨hc, hz, hb⟩ := h4.one
  go_wp2
  have hLe : L = xs := by rw [hL.out, List.take_length]
  have hDg : D ≠ g := fun e => hSD (e ▸ h1)
  have hDw : w.heap.size ≤ D := by have := Hs1.out; omega
  refine bodyPostM_one hWD (v := .slice A' L.length c') (by simp [results, Tryz.results94, go_sem]) ⟨A', c', L, rfl, Lib.hid hLe, ?_, ⟨h3.os, h3.tape, h3.output, by rw [World.putObj_size]; exact h3.size, fun k hk => (World.putObj_heap_other (by omega)).trans (h3.block k hk)⟩⟩
  have h11 : Own strC M0 (W.putObj D (.deferred none)) (g + 1) 9 (.slice A' L.length c') L := h5.flatC flatC_str fun b ho => World.putObj_heap_other (fun e => hSD (e ▸ h6 b ho))
  exact h11.weak (by omega) (fun _ h => h)
 ·rintro D c' k S W _ _ h
  exact h.elim
theorem collectS_ok (gf : FuncId) (lb : Array Value) (xs : List Str) (FP : (Nat → Prop) → World → Prop) (hit : Iter Tryz.prog gf lb encW xs FP) (eg : ∀ args w, (callFunc gf args).run Tryz.prog w = .ok (.enter gf args) w) (hx : ∀ x ∈ xs, x.length ≤ maxLen) (hn : xs.length ≤ 2000000) (w : World)
  (hFP : ∀ S' W, (∀ b, S' b → w.heap.size ≤ b) → Below w.heap.size w W → FP S' W) :
  Calls Tryz.prog 64 #[.func (.func gf) #[] lb] w fun e w' => ∃ (A : Option Addr) (c : Nat) (L : List Str), e = .returned (.slice A L.length c) ∧ Hid (L = xs) ∧ Own strC M0 w' w.heap.size 9 (.slice A L.length c) L ∧ Below w.heap.size w w' := by
 have hc := appendSeqS_ok gf lb xs FP hit eg hx hn w hFP
 have Hc := Lib.hid hc
 clear hc hit hFP
 go_enter Tryz.func64, Tryz.ntmps64
 go_wp2_with fail
 refine Hc.out.mono ?_
 rintro e w1 ⟨A, c, L, rfl, hL, hown, hb⟩
 go_wp2_with fail
 go_ret
 exact ⟨A, c, L, rfl, hL, hown, hb⟩
end Go.Proofs.YtnlhocbaighedaaGreatDoor
namespace Go.Proofs.YtnlhocbaighedaaGreatDoor
set_option linter.unusedVariables false
open Go.Lib
theorem split_piece : ∀ r : Str, ((32 : UInt8) ∉ r ∧ splitS r = [r] ∧ Lib.indexByte r 32 = -1) ∨ ∃ a t, r = a ++ 32 :: t ∧ (32 : UInt8) ∉ a ∧ splitS r = a :: splitS t ∧ Lib.indexByte r 32 = (a.length : Int)
 | [] => .inl ⟨by simp, rfl, rfl⟩
 | c :: r => by
  by_cases hc : c = 32
  ·subst hc
   exact .inr ⟨[], r, rfl, by simp, by rw [splitS, if_pos rfl], by simp [Lib.indexByte]⟩
  ·rcases split_piece r with ⟨h1, h2, h3⟩ | ⟨a, t, h1, h2, h3, h4⟩
   ·refine .inl ⟨?_, ?_, ?_⟩
    ·simp only [List.mem_cons, not_or]; exact ⟨fun e => hc e.symm, h1⟩
    ·rw [splitS, if_neg hc, h2]
    ·simp [Lib.indexByte, hc, h3]
   ·refine .inr ⟨c :: a, t, by rw [h1]; rfl, ?_, ?_, ?_⟩
    ·simp only [List.mem_cons, not_or]; exact ⟨fun e => hc e.symm, h2⟩
    ·rw [splitS, if_neg hc, h3]
    ·rw [Lib.indexByte, h4, if_neg (by simpa using hc), if_neg (by rw [beq_iff_eq]; omega), List.length_cons]
     omega
end Go.Proofs.YtnlhocbaighedaaGreatDoor
namespace Go.Proofs.YtnlhocbaighedaaGreatDoor
open Go.RowKit
set_option linter.unusedVariables false
/-- What the iterator reads: what is left of the text, the space, how much of it is kept. -/
def spFP (g : Nat) (s : Str) (S : Nat → Prop) (w : World) : Prop :=
 Blk w g 9 #[.string (bs s)] ∧ ¬ S g ∧ Blk w (g + 1) 9 #[.string (bs [32])] ∧ ¬ S (g + 1) ∧ Blk w (g + 2) 3 #[.int .i64 0] ∧ ¬ S (g + 2)
theorem spFP.chg {g : Nat} {s : Str} {S S' : Nat → Prop} {w w' : World} (h : spFP g s S w) (hc : Chg S S' w w') : spFP g s S' w' :=
 ⟨(h.1.chg h.2.1 hc).1, (h.1.chg h.2.1 hc).2, (h.2.2.1.chg h.2.2.2.1 hc).1, (h.2.2.1.chg h.2.2.2.1 hc).2, (h.2.2.2.2.1.chg h.2.2.2.2.2 hc).1, (h.2.2.2.2.1.chg h.2.2.2.2.2 hc).2⟩
theorem spFP.move {g : Nat} {s : Str} {S : Nat → Prop} {w : World} (h : spFP g s S w) (t : Str) : spFP g t S (w.setCell ⟨g, 0, none⟩ (.string (bs t))) := by
 refine ⟨?_, h.2.1, h.2.2.1.far (p := ⟨g, 0, none⟩) (by show g + 1 ≠ g; omega) _, h.2.2.2.1, h.2.2.2.2.1.far (p := ⟨g, 0, none⟩) (by show g + 2 ≠ g; omega) _, h.2.2.2.2.2⟩
 have := h.1.set_ 0 (.string (bs t))
 simpa using this
def restLen (g : Nat) (w : World) : Nat := match w.cell? ⟨g, 0, none⟩ with | some (.string b) => b.size | _ => 0
set_option maxRecDepth 100000 in
set_option maxHeartbeats 4000000 in
theorem spseq_iter (g : Nat) (s : Str) (hs : s.length ≤ 4000000) :
  IterX Tryz.prog 133 #[.pointer (some ⟨g + 1, 0, none⟩), .pointer (some ⟨g, 0, none⟩), .pointer (some ⟨g + 2, 0, none⟩)] encW (splitS s) (fun b => b = g) (spFP g s) := by
 intro ll J Jx S W hFP hS hJ hJx hY h0
 refine callsIn_of_wp Tryz.func133 rfl trivial ?_ rfl
 simp only [Tryz.ntmps133, List.size_toArray, List.length_cons, List.length_nil, Nat.reduceAdd, Nat.reduceSub, Array.replicate_succ, Array.replicate_zero, List.push_toArray, List.append_toArray, List.nil_append, List.cons_append]
 have hF1 : Fence.wide.fn 134 := trivial
 have hF3 : Fence.wide.depth = none := rfl
 have hF4 : Fence.wide.round = none := rfl
 have HY := Lib.hid hY; have HJ := Lib.hid hJ; have HJx := Lib.hid hJx; have HS := Lib.hid hS
 obtain ⟨R, hR⟩ : ∃ R, splitS s = R := ⟨_, rfl⟩
 rw [hR] at HY ⊢
 have HR := Lib.hid hR
 obtain ⟨b0, b1, b2⟩ := hFP.2.2.1.one
 have HFP := Lib.hid hFP
 clear hY hJ hJx hS hR hFP
 gi_wp2
 clear b0 b1 b2
 gi_loopw [] (fun wr => ∃ (r : Str) (kk : Nat) (T : Nat → Prop), J kk T wr ∧ spFP g r T wr ∧ Hid (∀ b, T b → b < wr.heap.size) ∧ W.heap.size ≤ wr.heap.size ∧ Hid (R = R.take kk ++ splitS r) ∧ r.length ≤ s.length ∧ kk ≤ R.length) (fun wr => restLen g wr)
 case atStart => exact ⟨s, 0, S, h0, HFP.out, HS, Nat.le_refl _, Lib.hid (by rw [HR.out]; rfl), Nat.le_refl _, by omega⟩
 case round =>
  obtain ⟨r, kk, T, hj, hfp, hT, hsz, hrec, hrl, hkk⟩ := hrel
  obtain ⟨wo, rfl⟩ : ∃ W, W = wr := ⟨_, rfl⟩
  obtain ⟨a0, a1, a2⟩ := hfp.1.one
  obtain ⟨b0, b1, b2⟩ := hfp.2.2.1.one
  obtain ⟨c0, c1, c2⟩ := hfp.2.2.2.2.1.one
  have hm0 : Hid (restLen g wo = r.length) := Lib.hid (by unfold restLen; rw [a0]; simp)
  have hix := Tryz.strings_Index_one (bs r) 32 wo
  rw [bs_toList] at hix
  have hbe : (⟨#[32]⟩ : ByteArray) = bs [32] := rfl
  rw [hbe] at hix
  rcases split_piece r with ⟨h32, hsp, hi⟩ | ⟨a, t, hrt, h32, hsp, hi⟩
  ·rw [hi] at hix
   rw [hsp] at hrec
   obtain ⟨hk', hx, hr'⟩ := list_at hkk hrec.out
   have hy := HY.out kk hk' T wo hj hsz
   rw [hx] at hy
   have hke : kk + 1 = R.length := by
    have h := congrArg List.length hr'
    rw [List.append_nil, List.length_take] at h
    omega
   have Hke := Lib.hid hke; have Hix := Lib.hid hix
   clear hke hx hr' hrec hix hbe hi hsp h32
   obtain ⟨fn, tmps, assign, body, hyy, hRR⟩ := hy
   dsimp only [encW] at hyy
   gi_wp2_with fail
   refine (callsIn_wide.2 Hix.out).mono ?_
   rintro e w2 ⟨rfl, rfl⟩
   gi_wp2_with fail
   refine hRR.mono ?_
   rintro e w4 ⟨T', hchg, hor4⟩
   obtain ⟨tt, rfl⟩ : ∃ tt, e = .returned (.bool tt) := hor4.elim (fun h => ⟨_, h.1⟩) (fun h => ⟨_, h.1⟩)
   have Hor4 := Lib.hid hor4
   clear hor4 hyy hRR a0 a1 a2 b0 b1 b2 c0 c1 c2
   cases tt with
   | true =>
    have hj4 : J (kk + 1) T' w4 := Hor4.out.elim (fun h => h.2) (fun h => by cases h.1)
    gi_wp2
    exact bodyPost_end (results_none rfl _ _ _) rfl ⟨⟨_, rfl⟩, .inl ⟨T', by rw [← Hke.out]; exact hj4⟩⟩
   | false =>
    have hx4 : Jx (kk + 1) T' w4 := Hor4.out.elim (fun h => by cases h.1) (fun h => h.2)
    gi_wp2
    exact bodyPost_end (results_none rfl _ _ _) rfl ⟨⟨_, rfl⟩, .inr ⟨kk + 1, T', hx4⟩⟩
  ·rw [hi] at hix
   rw [hsp] at hrec
   obtain ⟨hk', hx, hr'⟩ := list_at hkk hrec.out
   have hy := HY.out kk hk' T wo hj hsz
   rw [hx] at hy
   have hrll : r.length = a.length + (t.length + 1) := by rw [hrt, List.length_append, List.length_cons]
   have hd1 : r.take a.length = a := by rw [hrt, List.take_left]
   have hd2 : r.drop (a.length + 1) = t := by rw [hrt, ← List.drop_drop, List.drop_left]; rfl
   have ha0 : ¬ (a.length : Int) < 0 := by omega
   have ha1 : (0 : Int) ≤ (a.length : Int) := by omega
   have ha2 : (a.length : Int) ≤ (r.length : Int) := by omega
   have ha3 : (a.length : Int) + 1 ≤ (r.length : Int) := by omega
   have hw0 : IntKind.i64.wrap ((a.length : Int) + 0) = (a.length : Int) := by rw [Int.add_zero]; exact IntWalk.i64_in _ (by omega)
   have hw0' : IntKind.i64.wrap (a.length : Int) = (a.length : Int) := IntWalk.i64_in _ (by omega)
   have hw1 : IntKind.i64.wrap ((a.length : Int) + 1) = ((a.length + 1 : Nat) : Int) := by rw [show (a.length : Int) + 1 = ((a.length + 1 : Nat) : Int) by omega]; exact IntWalk.i64_in _ (by omega)
   have htk : t.take (r.length - (a.length + 1)) = t := List.take_of_length_le (by omega)
   have Hr' := Lib.hid hr'; have Hix := Lib.hid hix; have Hrt := Lib.hid hrt; have Hrll := Lib.hid hrll
   clear hx hr' hrec hix hbe hi hsp h32 hrt hrll
   obtain ⟨fn, tmps, assign, body, hyy, hRR⟩ := hy
   dsimp only [encW] at hyy
   gi_wp2_with fail
   refine (callsIn_wide.2 Hix.out).mono ?_
   rintro e w2 ⟨rfl, rfl⟩
   gi_wp2_with fail
   refine hRR.mono ?_
   rintro e w4 ⟨T', hchg, hor4⟩
   obtain ⟨tt, rfl⟩ : ∃ tt, e = .returned (.bool tt) := hor4.elim (fun h => ⟨_, h.1⟩) (fun h => ⟨_, h.1⟩)
   have Hor4 := Lib.hid hor4
   have hfp4 := hfp.chg hchg
   have hsz4 : W.heap.size ≤ w4.heap.size := Nat.le_trans hsz hchg.size
   clear hor4 hyy hRR a0 a1 a2 b0 b1 b2 c0 c1 c2
   cases tt with
   | true =>
    have hj4 : J (kk + 1) T' w4 := Hor4.out.elim (fun h => h.2) (fun h => by cases h.1)
    obtain ⟨a0, a1, a2⟩ := hfp4.1.one
    obtain ⟨b0, b1, b2⟩ := hfp4.2.2.1.one
    gi_wp2
    have hfp5 := hfp4.move t
    have hj5 := HJ.out _ _ _ _ hj4 (KeptX.setCell (X := fun b => b = g) (n := W.heap.size) (S := T') (w := w4) (p := ⟨g, 0, none⟩) rfl (.string (bs t)))
    obtain ⟨w5, hw5⟩ : ∃ w5, w4.setCell ⟨g, 0, none⟩ (.string (bs t)) = w5 := ⟨_, rfl⟩
    rw [hw5] at hfp5 hj5 ⊢
    have hs5 : w5.heap.size = w4.heap.size := by rw [← hw5]; simp
    go_roundw
    case rel => exact ⟨t, kk + 1, T', hj5, hfp5, Lib.hid (fun b hb => by rw [hs5]; exact (hchg.own b hb).1), by omega, Hr', by have := Hrll.out; omega, hk'⟩
    case measure =>
     obtain ⟨d0, _⟩ := hfp5.1.one
     have h5 : restLen g w5 = t.length := by unfold restLen; rw [d0]; simp
     have := Hrll.out; rw [h5, hm0.out]; omega
   | false =>
    have hx4 : Jx (kk + 1) T' w4 := Hor4.out.elim (fun h => by cases h.1) (fun h => h.2)
    gi_wp2
    exact bodyPost_ret (results_none rfl _ _ _) rfl ⟨⟨_, rfl⟩, .inr ⟨kk + 1, T', hx4⟩⟩
set_option maxRecDepth 100000 in
set_option maxHeartbeats 4000000 in
theorem splitSeq0_ok (s : Str) (w : World) : Calls Tryz.prog 97 #[.string (bs s), .string ⟨#[32]⟩, .int .i64 0] w fun e w' =>
  e = .returned (.func (.func 133) #[] #[.pointer (some ⟨w.heap.size + 1, 0, none⟩), .pointer (some ⟨w.heap.size, 0, none⟩), .pointer (some ⟨w.heap.size + 2, 0, none⟩)]) ∧ ((w.alloc (.cells #[.string (bs s)] 9)).alloc (.cells #[.string ⟨#[32]⟩] 9)).alloc (.cells #[.int .i64 0] 3) = w' := by
 have hmf : ∀ (fn : Fn) (first cap : Array Value) (w : World), (Instr.makeFunc fn first cap).run Tryz.prog w = .ok (.func fn first cap) w := fun _ _ _ _ => rfl
 go_enter Tryz.func97, Tryz.ntmps97
 go_wp2_with fail
 go_ret
 exact ⟨rfl, rfl⟩
/-- what SplitSeq hands back -/
def SplitAt (s : Str) (w : World) (e : Ending) (w' : World) : Prop := ∃ g, e = .returned (.func (.func 133) #[] #[.pointer (some ⟨g + 1, 0, none⟩), .pointer (some ⟨g, 0, none⟩), .pointer (some ⟨g + 2, 0, none⟩)]) ∧ w.heap.size = g ∧
  w'.heap.size = g + 3 ∧ Blk w' g 9 #[.string (bs s)] ∧ Blk w' (g + 1) 9 #[.string (bs [32])] ∧ Blk w' (g + 2) 3 #[.int .i64 0] ∧ Below w.heap.size w w'
theorem splitSeq_ok (s : Str) (w : World) : Calls Tryz.prog 68 #[.string (bs s), .string ⟨#[32]⟩] w (SplitAt s w) := by
 have h0 := splitSeq0_ok s w
 have H0 := Lib.hid h0
 clear h0
 go_enter Tryz.func68, Tryz.ntmps68
 go_wp2_with fail
 refine H0.out.mono ?_
 rintro e w1 ⟨rfl, hw⟩
 have k0 : Blk w1 w.heap.size 9 #[.string (bs s)] := hw ▸ (((Blk.new w _ _).alloc _).alloc _)
 have k1 : Blk w1 (w.heap.size + 1) 9 #[.string (bs [32])] := hw ▸ (by have := (Blk.new (w.alloc (.cells #[.string (bs s)] 9)) 9 #[.string ⟨#[32]⟩]).alloc (.cells #[.int .i64 0] 3); rw [show bs [32] = (⟨#[32]⟩ : ByteArray) from rfl]; simpa using this)
 have k2 : Blk w1 (w.heap.size + 2) 3 #[.int .i64 0] := hw ▸ (by have := Blk.new ((w.alloc (.cells #[.string (bs s)] 9)).alloc (.cells #[.string ⟨#[32]⟩] 9)) 3 #[.int .i64 0]; simpa using this)
 have hb : Below w.heap.size w w1 := by rw [← hw]; exact (((Below.refl _ w).alloc (Nat.le_refl _) _).alloc (by simp) _).alloc (by simp; omega) _
 have hz : w1.heap.size = w.heap.size + 3 := by rw [← hw]; simp
 have Hend := Lib.hid (And.intro hz (And.intro k0 (And.intro k1 (And.intro k2 hb))))
 clear hw k0 k1 k2 hb hz
 go_wp2_with fail
 go_ret
 exact ⟨_, rfl, rfl, Hend.out.1, Hend.out.2.1, Hend.out.2.2.1, Hend.out.2.2.2.1, Hend.out.2.2.2.2⟩
end Go.Proofs.YtnlhocbaighedaaGreatDoor
namespace Go.Proofs.YtnlhocbaighedaaGreatDoor
open Go.RowKit
set_option linter.unusedVariables false
/-- what holds behind some rounds of duplicate -/
structure DupAt (o : Nat → Owner) (B : Nat) (l : List Ix.Term) (raw : List (Str × Value)) (v : Value) (W : World) (k : Nat) (X : List RTerm) : Prop where
 len : X.length = k
 plain : X.map pt = l.take k
 row : Own rtC M0 W B 62 v (X.map rt ++ raw.drop k)
 mine : ∀ b, v.ownBlock = some b → o b = .top
 posts : ∀ t ∈ X, PostsAt ixT o W B t.1 t.2.1 t.2.2
 low : ∀ b, b < B → o b = .no
 fresh : ∀ b, W.heap.size ≤ b → o b = .no
theorem DupAt.start {B : Nat} {l : List Ix.Term} {raw : List (Str × Value)} {v : Value} {W : World} (own : Own rtC M0 W B 62 v raw) : DupAt (own1 (fun _ => .no) v .top) B l raw v W 0 [] :=
 ⟨rfl, rfl, own, fun b hb => own1_self hb, fun t ht => (by cases ht), fun b hb => own1_other fun e => by have := own.base b e; omega, fun b hb => own1_other fun e => by have := own.lt b e; omega⟩
theorem DupAt.ext {o : Nat → Owner} {B : Nat} {l : List Ix.Term} {raw : List (Str × Value)} {v : Value} {W W' : World} {k : Nat} {X : List RTerm} (h : DupAt o B l raw v W k X) (hb : Below W.heap.size W W') : DupAt o B l raw v W' k X :=
 ⟨h.len, h.plain, h.row.ext hb, h.mine, fun t ht => (h.posts t ht).move (fun b hlt _ => hb.block b hlt) fun _ _ => rfl, h.low, fun b hb' => h.fresh b (Nat.le_trans hb.size hb')⟩
/-- a block that is no part of it turns -/
theorem DupAt.other {o : Nat → Owner} {B : Nat} {l : List Ix.Term} {raw : List (Str × Value)} {v : Value} {W : World} {k : Nat} {X : List RTerm} (h : DupAt o B l raw v W k X) {g : Nat} (hg : o g = .no) (i : Nat) (u : Value) : DupAt o B l raw v (W.setCell ⟨g, i, none⟩ u) k X :=
 ⟨h.len, h.plain, h.row.flatC flatC_rt fun b hb => heap_set_ne _ _ _ fun e => (by have := h.mine b hb; rw [e, hg] at this; cases this), h.mine,
  fun t ht => (h.posts t ht).move (fun b hlt ho => heap_set_ne _ _ _ fun e => (by rw [e, hg] at ho; rcases ho with ho | ⟨_, ho⟩ <;> cases ho)) fun _ _ => rfl, h.low, fun b hb' => h.fresh b (by simpa using hb')⟩
theorem DupAt.cell {o : Nat → Owner} {B : Nat} {l : List Ix.Term} {raw : List (Str × Value)} {v : Value} {W : World} {k : Nat} {X : List RTerm} (h : DupAt o B l raw v W k X) (hrl : raw.length = l.length) (hk : k < raw.length) :
  ∃ g c, v = .slice (some ⟨g, 0, none⟩) l.length c ∧ B ≤ g ∧ g < W.heap.size ∧ W.cell? ⟨g, k * 2 + 1, none⟩ = some raw[k].2 ∧ ∀ j, W.frozen? ⟨g, j, none⟩ = false := by
 have hP' : (X.map rt).length = k := by rw [List.length_map]; exact h.len
 have hkl : k < (X.map rt ++ raw.drop k).length := by rw [len_mid _ _ _ hP' (by omega)]; exact hk
 obtain ⟨g, c, hv, _, _, h3, h4, _, h6, _, _, h7⟩ := h.row.rtAt hkl
 rw [get_mid (X.map rt) raw k hP' hk hkl] at h6
 exact ⟨g, c, by rw [hv, len_mid _ _ _ hP' (by omega), hrl], h3, h4, h6, h7⟩
theorem DupAt.step {o o2 : Nat → Owner} {B : Nat} {l : List Ix.Term} {raw : List (Str × Value)} {v u : Value} {W W2 : World} {k g n c : Nat} {X : List RTerm} {ps : List RPost} (h : DupAt o B l raw v W k X) (hk : k < raw.length) (hkl : k < l.length) (hr : raw[k].1 = l[k].1)
  (hv : v = .slice (some ⟨g, 0, none⟩) n c) (hb : Below W.heap.size W W2) (hBW : B ≤ W.heap.size) (hu : PostsAt ixT o2 W2 W.heap.size l[k].1 u ps) (hps : ps.map pp = l[k].2) (ho : ∀ b, b < W.heap.size → o2 b = o b) (hf : ∀ b, W2.heap.size ≤ b → o2 b = .no) :
  DupAt o2 B l raw v (W2.setCell ⟨g, k * 2 + 1, none⟩ u) (k + 1) (X ++ [(raw[k].1, u, ps)]) := by
 have hP' : (X.map rt).length = k := by rw [List.length_map]; exact h.len
 have hkm : k < (X.map rt ++ raw.drop k).length := by rw [len_mid _ _ _ hP' (by omega)]; exact hk
 have hgb := slice_block hv
 have hog := h.mine g hgb
 have hgl := h.row.lt g hgb
 have own2 := h.row.ext hb
 rw [hv] at own2
 have h3 := own2.putT hkm (own_oneCell hu.row)
 rw [get_mid (X.map rt) raw k hP' hk hkm, set_mid (X.map rt) raw k hP' hk] at h3
 have hsz : (W2.setCell ⟨g, k * 2 + 1, none⟩ u).heap.size = W2.heap.size := by simp
 refine ⟨by simp [h.len], ?_, ?_, fun b hb' => ?_, fun t ht => ?_, fun b hb' => ?_, fun b hb' => ?_⟩
 ·rw [List.map_append, h.plain, List.take_succ_eq_append_getElem hkl, List.map_singleton]
  congr 2
  show (raw[k].1, ps.map pp) = l[k]
  rw [hr, hps]
 ·rw [List.map_append, hv]
  exact h3
 ·rw [ho b (h.row.lt b hb')]
  exact h.mine b hb'
 ·rcases List.mem_append.1 ht with ht | ht
  ·refine (h.posts t ht).move (fun b hlt hob => ?_) ho
   rw [heap_set_ne _ _ _ fun e => by rw [e, hog] at hob; rcases hob with hob | ⟨_, hob⟩ <;> cases hob]
   exact hb.block b hlt
  ·obtain rfl := List.mem_singleton.1 ht
   show PostsAt ixT o2 _ B raw[k].1 u ps
   rw [hr]
   have hm := hu.move (o' := o2) (w' := W2.setCell ⟨g, k * 2 + 1, none⟩ u) (fun b hlt hob => heap_set_ne _ _ _ fun e => by
    rw [e, ho g hgl, hog] at hob
    rcases hob with hob | ⟨_, hob⟩ <;> cases hob) fun _ _ => rfl
   exact ⟨hm.row.lower hBW, hm.mine, fun p hp => ⟨(hm.pl p hp).1.lower hBW, (hm.pl p hp).2⟩⟩
 ·rw [ho b (by omega)]
  exact h.low b hb'
 ·rw [hsz] at hb'
  exact hf b hb'
theorem DupAt.done {o : Nat → Owner} {B : Nat} {l : List Ix.Term} {raw : List (Str × Value)} {v : Value} {W : World} {k : Nat} {X : List RTerm} (h : DupAt o B l raw v W k X) (hk : k = l.length) (hrl : raw.length = l.length) : TreeAt ixT o W B v X ∧ X.map pt = l := by
 have h1 := h.row
 rw [List.drop_of_length_le (by omega), List.append_nil] at h1
 exact ⟨⟨h1, h.mine, h.posts, h.fresh⟩, by rw [h.plain, hk, List.take_length]⟩
/-- bounds under which an index is copied -/
structure Small (ids : List Int) (ts : List Ix.Term) : Prop where
 ids : ids.length ≤ 1000000
 terms : ts.length ≤ 1000000
 posts : ∀ t ∈ ts, t.2.length ≤ 1000000 ∧ ∀ p ∈ t.2, p.2.length ≤ 1000001
end Go.Proofs.YtnlhocbaighedaaGreatDoor
