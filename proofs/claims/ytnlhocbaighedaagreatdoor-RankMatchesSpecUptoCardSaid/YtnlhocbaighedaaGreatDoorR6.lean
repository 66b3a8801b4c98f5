/-
  Contracts and plain facts, one after another: index.Validate; The reference insert: a text into a sorted row; slices.BinarySearchFunc on terms and on postings; index.find; index.copied.
-/
import Derived.Test.YtnlhocbaighedaaGreatDoorIxB
import Derived.Test.YtnlhocbaighedaaGreatDoorR2
import Derived.Test.YtnlhocbaighedaaGreatDoorR1
import Derived.Test.YtnlhocbaighedaaGreatDoorR4
import Derived.Deep.QuietTactic
import Derived.BigQuiet
namespace Go.Proofs.YtnlhocbaighedaaGreatDoor
open Go.RowKit
set_option linter.unusedVariables false
/-- the sizes that the walk needs -/
def SzIx (ts : List Ix.Term) : Prop := ∀ t ∈ ts, t.2.length ≤ 4398046511104
theorem faultGo_at (x : Ix.Idx) (k : Nat) (hk : k < x.2.length) : Ix.faultGo x (x.2.length - k) k = if Ix.termErr x.1 x.2 k = 0 then Ix.faultGo x (x.2.length - (k + 1)) (k + 1) else (Ix.termErr x.1 x.2 k, (k : Int)) := by
 obtain ⟨f, hf⟩ : ∃ f, x.2.length - k = f + 1 := ⟨x.2.length - k - 1, by omega⟩
 rw [hf, Ix.faultGo, show x.2.length - (k + 1) = f by omega]
theorem two_new (w : World) (a b : Value) (t : TypeId) (u v : Value) (t' : TypeId) : ∃ W, (w.alloc (.cells #[a, b] t)).alloc (.cells #[u, v] t') = W ∧ W.heap.size = w.heap.size + 2 ∧ Below w.heap.size w W ∧ Blk W w.heap.size t #[a, b] ∧ Blk W (w.heap.size + 1) t' #[u, v] := by
 refine ⟨_, rfl, by simp, ((Below.refl _ _).alloc (Nat.le_refl _) _).alloc (by simp) _, (Blk.new w _ _).alloc _, ?_⟩
 have := Blk.new (w.alloc (.cells #[a, b] t)) t' #[u, v]
 simpa using this
set_option maxRecDepth 20000 in
set_option maxHeartbeats 4000000 in
theorem validate_ok (a b : Value) (ids : List Int) (ts : List Ix.Term) (w : World) (h0 : SlR intC M0 w a ids) (h1 : SlR termC M0 w b ts) (hsz : SzIx ts) :
  Calls Tryz.prog 33 #[.agg #[a, b]] w fun e w' => e = .returned (.agg #[.int .i64 (Ix.indexF (ids, ts)).1, .int .i64 (Ix.indexF (ids, ts)).2]) ∧ Below w.heap.size w w' := by
 obtain ⟨A0, c0, rfl, _, _⟩ := h0.form
 obtain ⟨A1, c1, rfl, _, _⟩ := h1.form
 obtain ⟨hl01, hl02⟩ := h0.lenM
 obtain ⟨hl11, hl12⟩ := h1.lenM
 obtain ⟨W, hW, hs, hal, kb, kf⟩ := two_new w (.slice A0 ids.length c0) (.slice A1 ts.length c1) 25 (.int .i64 0) (.int .i64 0) 30
 have hF : Ix.indexF (ids, ts) = if 300 < ids.length then (2, -1) else if Ix.rising ids 1 = false then (19, -1) else if 1000000 < ts.length then (2, -2) else Ix.faultGo (ids, ts) ts.length 0 := rfl
 have HF := Lib.hid hF
 have hfc := fun a b W => fault_ok a b W
 have hno := fun W => none_ok W
 have Hfc := Lib.hid hfc; have Hno := Lib.hid hno
 obtain ⟨g, hg⟩ : ∃ g, w.heap.size + 1 = g := ⟨_, rfl⟩
 have Hg : Hid (w.heap.size ≤ g) := Lib.hid (by omega)
 have HW := Lib.hid hW; have Hs := Lib.hid (And.intro hs hg)
 have q := kb.two
 obtain ⟨q0, q1, _, _, _⟩ := q
 rw [← hW] at q0 q1
 rw [hg] at kf
 clear hF hfc hno hW hs hg
 -- what a fault leaves
 have fin : ∀ (x y : Int) (W1 : World) (r : Ix.indexF (ids, ts) = (x, y)), Blk W1 g 30 #[.int .i64 0, .int .i64 0] → Below w.heap.size w W1 → True := fun _ _ _ _ _ _ => trivial
 clear fin
 by_cases h300 : 300 < ids.length
 ·have hq : Ix.indexF (ids, ts) = (2, -1) := by rw [HF.out, if_pos h300]
  rw [hq]
  have hd : decide ((300 : Int) < (ids.length : Int)) = true := by simp; omega
  clear hq
  go_enter Tryz.func33, Tryz.ntmps33
  go_wp2_with fail
  rw [HW.out, Hs.out.2]
  refine (Hfc.out 2 (-1) _).mono ?_
  rintro e w1 ⟨rfl, hb⟩
  have k1 := kf.ext hb
  have hbw := hal.trans (hb.mono hal.size)
  obtain ⟨c0, c1, z0, z1, hlt⟩ := k1.two
  clear q0 q1
  go_wp2
  obtain ⟨e0, e1⟩ := k1.put2 (.int .i64 2) (.int .i64 (-1))
  exact bodyPost_ret (v := .agg #[.int .i64 2, .int .i64 (-1)]) (by simp [results, Tryz.results33, go_sem, e0, e1]) rfl ⟨rfl, below_set2 hbw Hg.out _ _⟩
 have hd300 : decide ((300 : Int) < (ids.length : Int)) = false := by simp; omega
 have hris := rising_ok M0 _ ids 1 W (h0.ext hal)
 by_cases hr : Ix.rising ids 1 = false
 ·have hq : Ix.indexF (ids, ts) = (19, -1) := by rw [HF.out, if_neg h300, if_pos hr]
  rw [hq]
  rw [hr] at hris
  have Hris := Lib.hid hris
  clear hq hris hr
  go_enter Tryz.func33, Tryz.ntmps33
  go_wp2_with fail
  rw [HW.out, Hs.out.2]
  refine Hris.out.mono ?_
  rintro e w1 ⟨rfl, rfl⟩
  clear q0 q1
  go_wp2_with fail
  refine (Hfc.out 19 (-1) _).mono ?_
  rintro e w1 ⟨rfl, hb⟩
  have k1 := kf.ext hb
  have hbw := hal.trans (hb.mono hal.size)
  obtain ⟨c0, c1, z0, z1, hlt⟩ := k1.two
  go_wp2
  obtain ⟨e0, e1⟩ := k1.put2 (.int .i64 19) (.int .i64 (-1))
  exact bodyPost_ret (v := .agg #[.int .i64 19, .int .i64 (-1)]) (by simp [results, Tryz.results33, go_sem, e0, e1]) rfl ⟨rfl, below_set2 hbw Hg.out _ _⟩
 have hr' : Ix.rising ids 1 = true := by simpa using hr
 have hsrt := ((Ix.rising_iff _ _).1 hr').1
 rw [hr'] at hris
 have Hris := Lib.hid hris; have Hsrt := Lib.hid hsrt
 clear hris hsrt
 obtain ⟨t0, t1, _, _, _⟩ := kb.two
 by_cases hm : 1000000 < ts.length
 ·have hq : Ix.indexF (ids, ts) = (2, -2) := by rw [HF.out, if_neg h300, if_neg hr, if_pos hm]
  rw [hq]
  have hd : decide ((1000000 : Int) < (ts.length : Int)) = true := by simp; omega
  clear hq hr hr'
  go_enter Tryz.func33, Tryz.ntmps33
  go_wp2_with fail
  rw [HW.out, Hs.out.2]
  refine Hris.out.mono ?_
  rintro e w1 ⟨rfl, rfl⟩
  clear q0 q1
  go_wp2_with fail
  refine (Hfc.out 2 (-2) _).mono ?_
  rintro e w1 ⟨rfl, hb⟩
  have k1 := kf.ext hb
  have hbw := hal.trans (hb.mono hal.size)
  obtain ⟨c0, c1, z0, z1, hlt⟩ := k1.two
  go_wp2
  obtain ⟨e0, e1⟩ := k1.put2 (.int .i64 2) (.int .i64 (-2))
  exact bodyPost_ret (v := .agg #[.int .i64 2, .int .i64 (-2)]) (by simp [results, Tryz.results33, go_sem, e0, e1]) rfl ⟨rfl, below_set2 hbw Hg.out _ _⟩
 have hdm : decide ((1000000 : Int) < (ts.length : Int)) = false := by simp; omega
 obtain ⟨fa, fb, hfab⟩ : ∃ fa fb, Ix.faultGo (ids, ts) ts.length 0 = (fa, fb) := ⟨_, _, rfl⟩
 have hq : Ix.indexF (ids, ts) = (fa, fb) := by rw [HF.out, if_neg h300, if_neg hr, if_neg hm, hfab]
 rw [hq]
 have Hst : Hid (Ix.faultGo (ids, ts) (ts.length - 0) 0 = (fa, fb)) := Lib.hid hfab
 have hbr := Below.refl W.heap.size W
 clear hq hfab hr hr' HF
 go_enter Tryz.func33, Tryz.ntmps33
 go_wp2_with fail
 rw [HW.out, Hs.out.2]
 refine Hris.out.mono ?_
 rintro e w1 ⟨rfl, rfl⟩
 clear q0 q1
 go_wp2
 clear t0 t1
 go_loopw [26] (fun iv wr => ∃ k : Nat, k ≤ ts.length ∧ iv = .int .i64 (k : Int) ∧ Hid (Ix.faultGo (ids, ts) (ts.length - k) k = (fa, fb)) ∧ Below W.heap.size W wr) (fun iv _ => ts.length - (intOf iv).toNat)
 case atStart => exact ⟨0, Nat.zero_le _, rfl, Hst, hbr⟩
 case round =>
  clear hbr
  obtain ⟨k, hk, rfl, hst, hbr⟩ := hrel
  obtain ⟨t0, t1, _, _, _⟩ := (kb.ext hbr).two
  have kf := kf.ext hbr
  have hbw := hal.trans (hbr.mono hal.size)
  by_cases hlt : k < ts.length
  ·have hgo := faultGo_at (ids, ts) k hlt
   have htm := term_ok (.slice A0 ids.length c0) (.slice A1 ts.length c1) ids ts k wr ((h0.ext hal).ext hbr) ((h1.ext hal).ext hbr) hlt Hsrt.out (by omega) (hsz _ (List.getElem_mem hlt))
   rw [hst.out] at hgo
   dsimp only at hgo
   obtain ⟨ec, hec⟩ : ∃ ec, Ix.termErr ids ts k = ec := ⟨_, rfl⟩
   rw [hec] at hgo htm
   have Htm := Lib.hid htm; have Hgo := Lib.hid hgo
   clear htm hgo hec hst
   have hkw : IntKind.i64.wrap (k : Int) = (k : Int) := IntWalk.i64_in _ (by omega)
   go_wp2_with fail
   refine Htm.out.mono ?_
   rintro e w2 ⟨rfl, hb2⟩
   have kf := kf.ext hb2
   have hbr := hbr.trans (hb2.mono hbr.size)
   have hbw := hbw.trans (hb2.mono hbw.size)
   clear t0 t1 Htm hb2
   by_cases he : ec = 0
   ·have hst2 : Hid (Ix.faultGo (ids, ts) (ts.length - (k + 1)) (k + 1) = (fa, fb)) := Lib.hid (by rw [Hgo.out, if_pos he])
    subst he
    clear Hgo
    go_wp2
    go_roundw
    case rel => exact ⟨k + 1, by omega, by go_num, hst2, hbr⟩
    case measure => simp [intOf]; omega
   ·have hfe := Hgo.out
    rw [if_neg he] at hfe
    injection hfe with e1 e2
    subst e1 e2
    have heb : (fa != 0) = true := by simpa using he
    clear Hgo he
    go_wp2_with fail
    refine (Hfc.out fa (k : Int) _).mono ?_
    rintro e w1 ⟨rfl, hb⟩
    have k1 := kf.ext hb
    have hbw := hbw.trans (hb.mono hbw.size)
    obtain ⟨c0, c1, z0, z1, hlt⟩ := k1.two
    go_wp2
    obtain ⟨e0, e1⟩ := k1.put2 (.int .i64 fa) (.int .i64 (k : Int))
    exact bodyPost_ret (v := .agg #[.int .i64 fa, .int .i64 (k : Int)]) (by simp [results, Tryz.results33, go_sem, e0, e1]) rfl ⟨rfl, below_set2 hbw Hg.out _ _⟩
  ·obtain rfl : k = ts.length := by omega
   have hst2 := hst.out
   rw [Nat.sub_self, Ix.faultGo] at hst2
   injection hst2 with e1 e2
   subst e1 e2
   clear hst
   go_wp2_with fail
   refine (Hno.out _).mono ?_
   rintro e w1 ⟨rfl, hb⟩
   have k1 := kf.ext hb
   have hbw := hbw.trans (hb.mono hbw.size)
   obtain ⟨c0, c1, z0, z1, hlt⟩ := k1.two
   clear t0 t1
   go_wp2
   obtain ⟨e0, e1⟩ := k1.put2 (.int .i64 0) (.int .i64 0)
   exact bodyPost_ret (v := .agg #[.int .i64 0, .int .i64 0]) (by simp [results, Tryz.results33, go_sem, e0, e1]) rfl ⟨rfl, below_set2 hbw Hg.out _ _⟩
end Go.Proofs.YtnlhocbaighedaaGreatDoor
namespace Go.Proofs.YtnlhocbaighedaaGreatDoor
open Go.RowKit
set_option linter.unusedVariables false
theorem insW_at {l : List Str} {s : Str} {k : Nat} (hk : k ≤ l.length) (h1 : ∀ (j : Nat) (hj : j < l.length), j < k → ltS l[j] s = true) (h2 : ∀ (h : k < l.length), ltS l[k] s = false) : Ix.insW l s = l.take k ++ [s] ++ l.drop k := by
 have ht : l.takeWhile (fun a => ltS a s) = l.take k ∧ l.dropWhile (fun a => ltS a s) = l.drop k := by
  induction l generalizing k with
  | nil => cases k with
   | zero => exact ⟨rfl, rfl⟩
   | succ k => simp at hk
  | cons a l ih =>
   cases k with
   | zero =>
    have := h2 (by simp)
    rw [List.getElem_cons_zero] at this
    simp [this]
   | succ k =>
    have h0 := h1 0 (by simp) (by omega)
    rw [List.getElem_cons_zero] at h0
    have ih := ih (k := k) (by simpa using hk) (fun j hj hjk => by have := h1 (j + 1) (by simpa using hj) (by omega); simpa using this) (fun h => by have := h2 (by simpa using h); simpa using this)
    simp [h0, ih.1, ih.2]
 unfold Ix.insW
 rw [ht.1, ht.2]
 simp
theorem SlR.zeroA {α : Type} (C : Codec α) (M : Nat → Prop) (w : World) (A : Option Addr) (m : Nat) (hm : m ≤ maxLen) : SlR C M w (.slice A 0 m) [] := ⟨A, 0, m, [], rfl, rfl, Nat.zero_le _, hm, Els.nil C M w, fun h => absurd h (by omega)⟩
set_option maxRecDepth 20000 in
set_option maxHeartbeats 4000000 in
theorem refInsert_ok (v : Value) (l : List Str) (s : Str) (w : World) (h : SlR strC M0 w v l) (hn : l.length ≤ 1000000) (hsl : s.length ≤ maxLen) : Calls Tryz.prog 43 #[v, .string (bs s)] w fun e w' => ∃ (A : Option Addr) (c : Nat) (L : List Str), e = .returned (.slice A L.length c) ∧ Hid (L = Ix.insW l s) ∧ Own strC M0 w' w.heap.size 9 (.slice A L.length c) L ∧ Below w.heap.size w w' := by
 obtain ⟨A, c, rfl, hlc, hcm⟩ := h.form
 have hB := h.toMB
 unfold maxLen at hcm
 go_enter Tryz.func43, Tryz.ntmps43
 go_wp2
 go_loopw [5, 6] (fun ov iv wr => ∃ (k : Nat) (A2 : Option Addr) (c2 : Nat) (L : List Str), k ≤ l.length ∧ iv = .int .i64 (k : Int) ∧ ov = .slice A2 L.length c2 ∧ Hid (L = l.take k) ∧ Hid (∀ (j : Nat) (hj : j < l.length), j < k → ltS l[j] s = true) ∧ Own strC M0 wr w.heap.size 9 ov L ∧ Below w.heap.size w wr) (fun _ iv _ => l.length - (intOf iv).toNat)
 case atStart => exact ⟨0, none, 0, [], Nat.zero_le _, rfl, rfl, Lib.hid rfl, Lib.hid fun j _ h => absurd h (by omega), Own.nil _ _ _ _ _, Below.refl _ _⟩
 case round =>
  obtain ⟨k, A2, c2, L, hk, rfl, rfl, hL, hpre, own, hb⟩ := hrel
  have hLl : L.length = k := by rw [hL.out, List.length_take]; omega
  have hkw : IntKind.i64.wrap (k : Int) = (k : Int) := IntWalk.i64_in _ (by omega)
  have hk0 : (0 : Int) ≤ (k : Int) := by omega
  by_cases hlt : k < l.length
  ·obtain ⟨b, off, rfl, _, _, p0, _⟩ := (h.ext hb).strAt hlt
   have hki : (k : Int) < (l.length : Int) := by omega
   obtain ⟨x, hx⟩ : ∃ x, x = l[k] := ⟨_, rfl⟩
   rw [← hx] at p0
   have Hx := Lib.hid hx
   clear hx
   by_cases hc : ltS x s = true
   ·have hd : Op.bytesLess x s = true := hc
    clear hB
    have hxl : x.length ≤ maxLen := by obtain ⟨_, _, _, _, _, _, hxl⟩ := (h.ext hb).strAt hlt; rw [Hx.out]; exact hxl
    have HLl := Lib.hid hLl
    clear hLl
    have hbs := hb.size
    go_wp2_with (at_builtin; refine wpList_push_Own strC (M := M0) (B := w.heap.size) TStrs rfl (.tmp 19) (.tmp 24) rfl rfl own rfl (cs := [.string (bs x)]) (y := x) ⟨rfl, hxl⟩ (fun _ h => h.elim) ?a1 ?b1 hbs ?_)
    case a1 => have := HLl.out; unfold maxLen; omega
    case b1 => have := HLl.out; omega
    intro A4 c4 L4 w4 hL4 own4 hb4 _ _
    go_wp2
    go_roundw
    case rel => exact ⟨k + 1, A4, c4, L4, by omega, by go_num, rfl, Lib.hid (by rw [hL4.out, hL.out, List.take_succ_eq_append_getElem hlt, ← Hx.out]), Lib.hid (fun j hj hjk => by
     by_cases e : j = k
     ·subst e; rw [← Hx.out]; exact hc
     ·exact hpre.out j hj (by omega)), own4, hb.trans hb4⟩
    case measure => simp [intOf]; omega
   ·replace hc : ltS x s = false := by simpa using hc
    have hd : Op.bytesLess x s = false := hc
    have hins : Ix.insW l s = l.take k ++ [s] ++ l.drop k := insW_at hk hpre.out (fun _ => by rw [← Hx.out]; exact hc)
    have Hins := Lib.hid hins
    have hk1 : (k : Int) ≤ (l.length : Int) := by omega
    have hk2 : (l.length : Int) ≤ (c : Int) := by omega
    have hk3 : (c : Int) ≤ 9223372036854775807 := by omega
    have HLl := Lib.hid hLl; have HB := Lib.hid hB
    clear hins hB hpre hLl
    have hbs := hb.size
    go_wp2_with (at_builtin; refine wpList_push_Own strC (M := M0) (B := w.heap.size) TStrs rfl (.tmp 28) (.tmp 30) rfl rfl own rfl (cs := [.string (bs s)]) (y := s) ⟨rfl, hsl⟩ (fun _ h => h.elim) ?a1 ?b1 hbs ?_)
    case a1 => have := HLl.out; unfold maxLen; omega
    case b1 => have := HLl.out; omega
    intro A4 c4 L4 w4 hL4 own4 hb4 _ _
    have Hb4 := Lib.hid (hb.trans hb4)
    have hL4l : L4.length = k + 1 := by rw [hL4.out, List.length_append, HLl.out]; rfl
    have hcut := (HB.out.ext Hb4.out).cutS (lo := k) (hi := l.length) hk (Nat.le_refl _) (by omega)
    rw [List.take_length, show k * strC.n = k from Nat.mul_one k] at hcut
    have hc4 := hcut.sub (M' := fun b => M0 b ∨ (Value.slice A4 L4.length c4).ownBlock = some b) fun b _ hor => hor.elim (fun h => h.elim) fun h => .inr (own4.base b h)
    have hdl : (l.drop k).length = l.length - k := List.length_drop
    have hs4 := Hb4.out.size
    go_wp2_with (at_builtin; refine wpList_append_Own strC (M := M0) (B := w.heap.size) (l := L4) (l' := l.drop k) TStrs rfl (.tmp 32) (.tmp 35) rfl (v := .slice A4 L4.length c4) rfl own4 rfl hc4 ?c1 ?d1 hs4 ?_)
    case c1 => unfold maxLen; omega
    case d1 => omega
    intro A5 c5 L5 w5 hL5 own5 hb5 _ _
    go_wp2
    go_ret
    exact ⟨A5, c5, L5, rfl, Lib.hid (by rw [hL5.out, hL4.out, hL.out, Hins.out]), own5, Hb4.out.trans hb5⟩
  ·skip
   have hins : Ix.insW l s = l.take k ++ [s] ++ l.drop k := insW_at hk hpre.out (fun h => absurd h hlt)
   have Hins := Lib.hid hins
   have hk1 : (k : Int) ≤ (l.length : Int) := by omega
   have hk2 : (l.length : Int) ≤ (c : Int) := by omega
   have hk3 : (c : Int) ≤ 9223372036854775807 := by omega
   have HLl := Lib.hid hLl; have HB := Lib.hid hB
   clear hins hB hpre hLl
   have hbs := hb.size
   go_wp2_with (at_builtin; refine wpList_push_Own strC (M := M0) (B := w.heap.size) TStrs rfl (.tmp 28) (.tmp 30) rfl rfl own rfl (cs := [.string (bs s)]) (y := s) ⟨rfl, hsl⟩ (fun _ h => h.elim) ?a1 ?b1 hbs ?_)
   case a1 => have := HLl.out; unfold maxLen; omega
   case b1 => have := HLl.out; omega
   intro A4 c4 L4 w4 hL4 own4 hb4 _ _
   have Hb4 := Lib.hid (hb.trans hb4)
   have hL4l : L4.length = k + 1 := by rw [hL4.out, List.length_append, HLl.out]; rfl
   have hc4 : ∀ A m, m ≤ maxLen → SlR strC (fun b => M0 b ∨ (Value.slice A4 L4.length c4).ownBlock = some b) w4 (.slice A 0 m) (l.drop k) := fun A m hm => by rw [List.drop_of_length_le (by omega)]; exact SlR.zeroA _ _ _ _ _ hm
   obtain rfl : k = l.length := by omega
   have hfin : l.take l.length ++ [s] ++ l.drop l.length = l.take l.length ++ [s] := by rw [List.drop_length, List.append_nil]
   have Hfin := Lib.hid hfin
   clear hfin
   by_cases hck : c = l.length
   ·subst hck
    have hdl : (l.drop l.length).length = l.length - l.length := List.length_drop
    have hs4 := Hb4.out.size
    go_wp2_with (at_builtin; refine wpList_append_Own strC (M := M0) (B := w.heap.size) (l := L4) (l' := l.drop l.length) TStrs rfl (.tmp 32) (.tmp 35) rfl (v := .slice A4 L4.length c4) rfl own4 rfl (hc4 _ _ (by unfold maxLen; omega)) ?c1 ?d1 hs4 ?_)
    case c1 => unfold maxLen; omega
    case d1 => omega
    intro A5 c5 L5 w5 hL5 own5 hb5 _ _
    go_wp2
    go_ret
    exact ⟨A5, c5, L5, rfl, Lib.hid (by rw [hL5.out, hL4.out, hL.out, Hins.out, Hfin.out]), own5, Hb4.out.trans hb5⟩
   ·have hdl : (l.drop l.length).length = l.length - l.length := List.length_drop
    have hs4 := Hb4.out.size
    go_wp2_with (at_builtin; refine wpList_append_Own strC (M := M0) (B := w.heap.size) (l := L4) (l' := l.drop l.length) TStrs rfl (.tmp 32) (.tmp 35) rfl (v := .slice A4 L4.length c4) rfl own4 rfl (hc4 _ _ (by unfold maxLen; omega)) ?c1 ?d1 hs4 ?_)
    case c1 => unfold maxLen; omega
    case d1 => omega
    intro A5 c5 L5 w5 hL5 own5 hb5 _ _
    go_wp2
    go_ret
    exact ⟨A5, c5, L5, rfl, Lib.hid (by rw [hL5.out, hL4.out, hL.out, Hins.out, Hfin.out]), own5, Hb4.out.trans hb5⟩
end Go.Proofs.YtnlhocbaighedaaGreatDoor
namespace Go.Proofs.YtnlhocbaighedaaGreatDoor
open Go.RowKit
set_option linter.unusedVariables false
/-- what a search tells: how many keys are ahead of a key, and whether it is there -/
def SearchAt {K V : Type} [DecidableEq K] (lt : K → K → Bool) (raw : List (K × V)) (x : K) (k : Nat) (hit : Bool) : Prop :=
 k ≤ raw.length ∧ (∀ (m : Nat) (h : m < raw.length), m < k → lt raw[m].1 x = true) ∧ (∀ (m : Nat) (h : m < raw.length), k ≤ m → lt raw[m].1 x = false) ∧ hit = (match raw[k]? with | some r => decide (r.1 = x) | none => false)
theorem searchAt_of {K V : Type} [DecidableEq K] {lt : K → K → Bool} (ht : Al.Tot lt) {raw : List (K × V)} (hs : Al.Sorted lt raw) {x : K} {k : Nat} {hit : Bool} (h1 : k ≤ raw.length) (h2 : ∀ (m : Nat) (h : m < raw.length), m + 1 = k → lt raw[m].1 x = true) (h3 : ∀ (h : k < raw.length), lt raw[k].1 x = false)
  (h4 : hit = (match raw[k]? with | some r => decide (r.1 = x) | none => false)) : SearchAt lt raw x k hit := by
 have hp := List.pairwise_iff_getElem.1 hs
 refine ⟨h1, fun m hm hmk => ?_, fun m hm hmk => ?_, h4⟩
 ·have hk : k - 1 < raw.length := by omega
  have h5 := h2 (k - 1) hk (by omega)
  by_cases e : m = k - 1
  ·subst e; exact h5
  ·exact ht.trans _ _ _ (hp m (k - 1) hm hk (by omega)) h5
 ·have hk : k < raw.length := by omega
  have h5 := h3 hk
  by_cases e : m = k
  ·subst e; exact h5
  ·have h6 := hp k m hk hm (by omega)
   cases h7 : lt raw[m].1 x with
   | false => rfl
   | true => have := ht.trans _ _ _ h6 h7; rw [h5] at this; cases this
theorem SlR.rtAt {M : Nat → Prop} {w : World} {A : Option Addr} {n c : Nat} {l : List (Str × Value)} (h : SlR rtC M w (.slice A n c) l) {k : Nat} (hk : k < l.length) :
  ∃ b off, A = some ⟨b, off, none⟩ ∧ b < w.heap.size ∧ w.cell? ⟨b, off + k * 2, none⟩ = some (.string (bs l[k].1)) ∧ w.cell? ⟨b, off + k * 2 + 1, none⟩ = some l[k].2 := by
 obtain ⟨b, off, cs, rfl, hM, hb, ⟨c1, d1, rfl, ⟨rfl, _⟩, ⟨rfl, _⟩⟩, hc⟩ := h.at_ hk
 exact ⟨b, off, rfl, hb, hc 0 _ rfl, hc 1 _ rfl⟩
theorem SlR.rpAt {M : Nat → Prop} {w : World} {A : Option Addr} {n c : Nat} {l : List (Int × Value)} (h : SlR rpC M w (.slice A n c) l) {k : Nat} (hk : k < l.length) :
  ∃ b off, A = some ⟨b, off, none⟩ ∧ b < w.heap.size ∧ w.cell? ⟨b, off + k * 2, none⟩ = some (.int .i64 l[k].1) ∧ w.cell? ⟨b, off + k * 2 + 1, none⟩ = some l[k].2 := by
 obtain ⟨b, off, cs, rfl, hM, hb, ⟨c1, d1, rfl, ⟨rfl, _⟩, ⟨rfl, _⟩⟩, hc⟩ := h.at_ hk
 exact ⟨b, off, rfl, hb, hc 0 _ rfl, hc 1 _ rfl⟩
theorem find1_ok (s x : Str) (v : Value) (w : World) : Calls Tryz.prog 90 #[.agg #[.string (bs s), v], .string (bs x)] w fun e w' => e = .returned (.int .i64 (Lib.compareBytes s x)) ∧ Below w.heap.size w w' := by
 have hal := (Below.refl w.heap.size w).alloc (Nat.le_refl _) (.cells #[.string (bs s), v] 62)
 obtain ⟨p0, p1, _, _, _⟩ := (Blk.new w 62 #[.string (bs s), v]).two
 have hc := fun W => compare_ok s x W
 have Hc := Lib.hid hc
 clear hc
 go_enter Tryz.func90, Tryz.ntmps90
 go_wp2_with fail
 refine (Hc.out _).mono ?_
 rintro e w1 ⟨rfl, rfl⟩
 go_wp2
 go_ret
 exact ⟨rfl, hal⟩
theorem cmp_lt0 (a b : Str) : (Lib.compareBytes a b < 0) ↔ ltS a b = true := by
 rw [cmp_eqS]
 cases h : ltS a b with
 | true => simp
 | false => by_cases e : a = b <;> simp [e]
theorem cmp_eq0 (a b : Str) : (Lib.compareBytes a b == 0) = decide (a = b) := by
 rw [cmp_eqS]
 cases h : ltS a b with
 | true => have := ltS_ne h; simp [this]
 | false => by_cases e : a = b <;> simp [e]
set_option maxHeartbeats 2000000 in
theorem bsearchT_ok (M : Nat → Prop) (v : Value) (l : List (Str × Value)) (x : Str) (w : World) (h : SlR rtC M w v l) (hs : Al.Sorted ltS l) (hln : l.length ≤ 4000000) : Calls Tryz.prog 89 #[v, .string (bs x), .func (.func 90) #[] #[]] w fun e w' =>
  ∃ (k : Nat) (hit : Bool), e = .returned (.tuple #[.int .i64 (k : Int), .bool hit]) ∧ SearchAt ltS l x k hit ∧ Below w.heap.size w w' := by
 obtain ⟨A, c, rfl, hlc, hcm⟩ := h.form
 unfold maxLen at hcm
 have Hh := Lib.hid h; have Hs := Lib.hid hs
 clear h hs
 have hbw := Below.refl w.heap.size w
 go_enter Tryz.func89, Tryz.ntmps89
 go_wp2
 go_loopw [9, 10] (fun i j wr => ∃ a b : Nat, a ≤ b ∧ b ≤ l.length ∧ i = .int .i64 (a : Int) ∧ j = .int .i64 (b : Int) ∧ Hid (∀ (m : Nat) (h : m < l.length), m + 1 = a → ltS l[m].1 x = true) ∧ Hid (∀ (h : b < l.length), ltS l[b].1 x = false) ∧ Below w.heap.size w wr) (fun i j _ => (intOf j - intOf i).toNat)
 case atStart => exact ⟨0, l.length, Nat.zero_le _, Nat.le_refl _, rfl, rfl, Lib.hid fun m _ h => absurd h (by omega), Lib.hid fun h => absurd h (by omega), hbw⟩
 case round =>
  obtain ⟨a, b, hab, hbl, rfl, rfl, ha, hcut2, hbr⟩ := hrel
  clear hbw
  have hx1 := Hh.out.ext hbr
  by_cases hlt : a < b
  ·obtain ⟨m, hm⟩ : ∃ m, m = (a + b) / 2 := ⟨_, rfl⟩
   have hml : m < l.length := by omega
   have hma : a ≤ m := by omega
   have hmb : m < b := by omega
   obtain ⟨bb, off, rfl, _, p0, p1⟩ := hx1.rtAt hml
   have hcl := fun W => find1_ok l[m].1 x l[m].2 W
   obtain ⟨⟨pk, pv⟩, hp⟩ : ∃ p, l[m] = p := ⟨_, rfl⟩
   have hlt2 : Hid (∀ (h : m < l.length), ltS l[m].1 x = ltS pk x) := Lib.hid fun _ => by rw [hp]
   rw [hp] at p0 p1 hcl
   dsimp only at p0 p1 hcl
   obtain ⟨oc, hoc⟩ : ∃ o, Lib.compareBytes pk x = o := ⟨_, rfl⟩
   have hneg : Hid (oc < 0 ↔ ltS pk x = true) := Lib.hid (by rw [← hoc]; exact cmp_lt0 pk x)
   rw [hoc] at hcl
   have Hcl := Lib.hid hcl; have Hm := Lib.hid hm
   have hi0 : (0 : Int) ≤ (m : Int) := by omega
   have hi1 : (m : Int) < (l.length : Int) := by omega
   have hq1 : IntKind.i64.wrap (m : Int) = (m : Int) := IntWalk.i64_in _ (by omega)
   have hme : ((a : Int) + (b : Int)) / 2 = (m : Int) := by omega
   clear hcl hp hoc hx1 hm
   go_wp2_with fail
   refine (Hcl.out _).mono ?_
   rintro e w1 ⟨rfl, hb1⟩
   have hbr1 := hbr.trans (hb1.mono hbr.size)
   clear hbr hb1 p0 p1 Hcl
   by_cases ho : oc < 0
   ·go_wp2
    go_roundw
    case rel => exact ⟨m + 1, b, by omega, hbl, by go_num, rfl, Lib.hid fun m' hm' e => by
     obtain rfl : m' = m := by omega
     rw [hlt2.out]; exact hneg.out.1 ho, hcut2, hbr1⟩
    case measure => simp [intOf]; omega
   ·go_wp2
    go_roundw
    case rel => exact ⟨a, m, by omega, by omega, rfl, rfl, ha, Lib.hid fun h => by
     rw [hlt2.out]
     cases hh : ltS pk x with
     | false => rfl
     | true => exact absurd (hneg.out.2 hh) (by omega), hbr1⟩
    case measure => simp [intOf]; omega
  ·obtain rfl : a = b := by omega
   by_cases hal : a < l.length
   ·obtain ⟨bb, off, rfl, _, p0, p1⟩ := hx1.rtAt hal
    have hcl := fun W => find1_ok l[a].1 x l[a].2 W
    obtain ⟨⟨pk, pv⟩, hp⟩ : ∃ p, l[a] = p := ⟨_, rfl⟩
    have hsa := fun (h4 : _) => searchAt_of tot_str Hs.out (x := x) (k := a) (hit := decide (pk = x)) hbl ha.out hcut2.out h4
    have hsa := hsa (by rw [List.getElem?_eq_getElem hal, hp])
    rw [hp] at p0 p1 hcl
    dsimp only at p0 p1 hcl
    obtain ⟨oc, hoc⟩ : ∃ o, Lib.compareBytes pk x = o := ⟨_, rfl⟩
    have heq : (oc == 0) = decide (pk = x) := by rw [← hoc]; exact cmp_eq0 pk x
    rw [hoc] at hcl
    have Hcl := Lib.hid hcl; have Hsa := Lib.hid hsa
    have hi0 : (0 : Int) ≤ (a : Int) := by omega
    have hi1 : (a : Int) < (l.length : Int) := by omega
    have hq1 : IntKind.i64.wrap (a : Int) = (a : Int) := IntWalk.i64_in _ (by omega)
    clear hcl hp hoc hx1 hsa
    go_wp2_with fail
    refine (Hcl.out _).mono ?_
    rintro e w1 ⟨rfl, hb1⟩
    have hbr1 := hbr.trans (hb1.mono hbr.size)
    clear hbr hb1 p0 p1 Hcl
    go_wp2
    exact bodyPost_ret (v := .tuple #[.int .i64 (a : Int), .bool (decide (pk = x))]) (by simp [results, Tryz.results89, go_sem]) rfl ⟨a, _, rfl, Hsa.out, hbr1⟩
   ·obtain rfl : a = l.length := by omega
    have hsa := searchAt_of tot_str Hs.out (x := x) (k := l.length) (hit := false) hbl ha.out hcut2.out (by simp)
    have Hsa := Lib.hid hsa
    clear hsa hx1
    go_wp2
    exact bodyPost_ret (v := .tuple #[.int .i64 (l.length : Int), .bool false]) (by simp [results, Tryz.results89, go_sem]) rfl ⟨l.length, _, rfl, Hsa.out, hbr⟩

theorem find_ok (a b : Value) (l : List (Str × Value)) (x : Str) (w : World) (h : SlR rtC M0 w b l) (hs : Al.Sorted ltS l) (hln : l.length ≤ 4000000) : Calls Tryz.prog 62 #[.agg #[a, b], .string (bs x)] w fun e w' =>
  ∃ (k : Nat) (hit : Bool), e = .returned (.tuple #[.int .i64 (k : Int), .bool hit]) ∧ SearchAt ltS l x k hit ∧ Below w.heap.size w w' := by
 have hal := (Below.refl w.heap.size w).alloc (Nat.le_refl _) (.cells #[a, b] 25)
 have hc := bsearchT_ok M0 b l x _ (h.ext hal) hs hln
 have Hc := Lib.hid hc
 obtain ⟨p0, p1, _, _, _⟩ := (Blk.new w 25 #[a, b]).two
 clear hc
 go_enter Tryz.func62, Tryz.ntmps62
 go_wp2_with fail
 refine Hc.out.mono ?_
 rintro e w1 ⟨k, hit, rfl, hsa, hb1⟩
 have Hsa := Lib.hid hsa
 clear hsa
 go_wp2
 exact bodyPost_ret (v := .tuple #[.int .i64 (k : Int), .bool hit]) (by simp [results, Tryz.results62, go_sem]) rfl ⟨k, hit, rfl, Hsa.out, below2 hal hb1⟩
end Go.Proofs.YtnlhocbaighedaaGreatDoor
namespace Go.Proofs.YtnlhocbaighedaaGreatDoor
open Go.RowKit
set_option linter.unusedVariables false
theorem Own.rpAt {w : World} {B : Nat} {e : TypeId} {v : Value} {l : List (Int × Value)} (h : Own rpC M0 w B e v l) {k : Nat} (hk : k < l.length) :
  ∃ g c, v = .slice (some ⟨g, 0, none⟩) l.length c ∧ l.length ≤ c ∧ c ≤ maxLen ∧ B ≤ g ∧ g < w.heap.size ∧ w.cell? ⟨g, k * 2, none⟩ = some (.int .i64 l[k].1) ∧ w.cell? ⟨g, k * 2 + 1, none⟩ = some l[k].2 ∧ l[k].2.oneCell' = true ∧ -9223372036854775808 ≤ l[k].1 ∧ l[k].1 ≤ 9223372036854775807 ∧ ∀ j, w.frozen? ⟨g, j, none⟩ = false := by
 obtain ⟨g, c, cs, e, h1, h2, h3, h4, ⟨c1, d1, rfl, ⟨rfl, hb⟩, ⟨rfl, ho⟩⟩, h6, h7⟩ := h.cellsAt hk
 exact ⟨g, c, e, h1, h2, h3, h4, h6 0 _ rfl, h6 1 _ rfl, ho, hb.1, hb.2, h7⟩
theorem Own.rtAt {w : World} {B : Nat} {e : TypeId} {v : Value} {l : List (Str × Value)} (h : Own rtC M0 w B e v l) {k : Nat} (hk : k < l.length) :
  ∃ g c, v = .slice (some ⟨g, 0, none⟩) l.length c ∧ l.length ≤ c ∧ c ≤ maxLen ∧ B ≤ g ∧ g < w.heap.size ∧ w.cell? ⟨g, k * 2, none⟩ = some (.string (bs l[k].1)) ∧ w.cell? ⟨g, k * 2 + 1, none⟩ = some l[k].2 ∧ l[k].2.oneCell' = true ∧ l[k].1.length ≤ maxLen ∧ ∀ j, w.frozen? ⟨g, j, none⟩ = false := by
 obtain ⟨g, c, cs, e, h1, h2, h3, h4, ⟨c1, d1, rfl, ⟨rfl, hb⟩, ⟨rfl, ho⟩⟩, h6, h7⟩ := h.cellsAt hk
 exact ⟨g, c, e, h1, h2, h3, h4, h6 0 _ rfl, h6 1 _ rfl, ho, hb, h7⟩
theorem Own.putP {w : World} {B g n c : Nat} {e : TypeId} {l : List (Int × Value)} (h : Own rpC M0 w B e (.slice (some ⟨g, 0, none⟩) n c) l) {k : Nat} (hk : k < l.length) {u : Value} (hu : u.oneCell' = true) : Own rpC M0 (w.setCell ⟨g, k * 2 + 1, none⟩ u) B e (.slice (some ⟨g, 0, none⟩) n c) (l.set k (l[k].1, u)) :=
 h.putF flatC_rp (k := k) (r := 1) hk (by show 1 < 1 + 1; omega) (fun cs hcs => by
  obtain ⟨c1, d1, e, h4, h5⟩ := hcs
  have hc1 := intC.len h4
  obtain ⟨x, rfl⟩ : ∃ x, c1 = [x] := List.length_eq_one_iff.1 hc1
  obtain ⟨rfl, _⟩ := h5
  subst e
  exact ⟨[x], [u], rfl, h4, rfl, hu⟩)
theorem Own.putT {w : World} {B g n c : Nat} {e : TypeId} {l : List (Str × Value)} (h : Own rtC M0 w B e (.slice (some ⟨g, 0, none⟩) n c) l) {k : Nat} (hk : k < l.length) {u : Value} (hu : u.oneCell' = true) : Own rtC M0 (w.setCell ⟨g, k * 2 + 1, none⟩ u) B e (.slice (some ⟨g, 0, none⟩) n c) (l.set k (l[k].1, u)) :=
 h.putF flatC_rt (k := k) (r := 1) hk (by show 1 < 1 + 1; omega) (fun cs hcs => by
  obtain ⟨c1, d1, e, h4, h5⟩ := hcs
  have hc1 := strC.len h4
  obtain ⟨x, rfl⟩ : ∃ x, c1 = [x] := List.length_eq_one_iff.1 hc1
  obtain ⟨rfl, _⟩ := h5
  subst e
  exact ⟨[x], [u], rfl, h4, rfl, hu⟩)
theorem frozen_ext {w w' : World} {g : Nat} (hb : Below w.heap.size w w') (hg : g < w.heap.size) (j : Nat) : w'.frozen? ⟨g, j, none⟩ = w.frozen? ⟨g, j, none⟩ := by
 simp only [World.frozen?, hb.block g hg]
theorem own_oneCell {α : Type} {C : Codec α} {M : Nat → Prop} {w : World} {B : Nat} {e : TypeId} {v : Value} {l : List α} (h : Own C M w B e v l) : v.oneCell' = true := by
 obtain ⟨A, c, rfl, _⟩ := h.shape
 rfl
theorem set_mid {α : Type} (P R : List α) (k : Nat) (hk : P.length = k) (h : k < R.length) (u : α) : (P ++ R.drop k).set k u = P ++ [u] ++ R.drop (k + 1) := by
 rw [List.set_append_right _ _ (by omega), hk, Nat.sub_self, List.drop_eq_getElem_cons h, List.set_cons_zero, List.append_assoc]
 rfl
theorem get_mid {α : Type} (P R : List α) (k : Nat) (hk : P.length = k) (h : k < R.length) (h2 : k < (P ++ R.drop k).length) : (P ++ R.drop k)[k] = R[k] := by
 rw [List.getElem_append_right (by omega), List.getElem_drop]
 congr 1
 omega
theorem len_mid {α : Type} (P R : List α) (k : Nat) (hk : P.length = k) (h : k ≤ R.length) : (P ++ R.drop k).length = R.length := by
 rw [List.length_append, List.length_drop]; omega
/-- what holds behind k rounds of copied -/
def CopInv (o : Nat → Owner) (wd : Str) (B : Nat) (l : List Ix.Post) (raw : List (Int × Value)) (v : Value) (W : World) (k : Nat) : Prop :=
 ∃ (P : List RPost) (o' : Nat → Owner), P.length = k ∧ P.map pp = l.take k ∧ Own rpC M0 W B 64 v (P.map rp ++ raw.drop k) ∧ (∀ b, v.ownBlock = some b → o' b = .row wd) ∧
  (∀ p ∈ P, Own intC M0 W B 3 p.2.1 p.2.2 ∧ ∀ b, p.2.1.ownBlock = some b → o' b = .pl wd p.1) ∧ (∀ b, b < B → o' b = o b) ∧ (∀ b, W.heap.size ≤ b → o' b = .no)
theorem CopInv.start {o : Nat → Owner} {wd : Str} {B : Nat} {l : List Ix.Post} {raw : List (Int × Value)} {v : Value} {W : World} (own : Own rpC M0 W B 64 v raw) (hB : B ≤ W.heap.size) (hf : ∀ b, B ≤ b → o b = .no) : CopInv o wd B l raw v W 0 := by
 refine ⟨[], own1 o v (.row wd), rfl, rfl, own, fun b hb => own1_self hb, fun p hp => (by cases hp), fun b hb => own1_other fun e => ?_, fun b hb => ?_⟩
 ·have := own.base b e; omega
 ·rw [own1_other fun e => by have := own.lt b e; omega]
  exact hf b (by omega)
theorem CopInv.cell {o : Nat → Owner} {wd : Str} {B : Nat} {l : List Ix.Post} {raw : List (Int × Value)} {v : Value} {W : World} {k : Nat} (h : CopInv o wd B l raw v W k) (hrl : raw.length = l.length) (hk : k < raw.length) :
  ∃ g c, v = .slice (some ⟨g, 0, none⟩) l.length c ∧ B ≤ g ∧ g < W.heap.size ∧ W.cell? ⟨g, k * 2 + 1, none⟩ = some raw[k].2 ∧ ∀ j, W.frozen? ⟨g, j, none⟩ = false := by
 obtain ⟨P, o', hP, hPm, own, _⟩ := h
 have hP' : (P.map rp).length = k := by rw [List.length_map]; exact hP
 have hkl : k < (P.map rp ++ raw.drop k).length := by rw [len_mid _ _ _ hP' (by omega)]; exact hk
 obtain ⟨g, c, hv, _, _, h3, h4, _, h6, _, _, _, h7⟩ := own.rpAt hkl
 rw [get_mid (P.map rp) raw k hP' hk hkl] at h6
 exact ⟨g, c, by rw [hv, len_mid _ _ _ hP' (by omega), hrl], h3, h4, h6, h7⟩
theorem CopInv.step {o : Nat → Owner} {wd : Str} {B : Nat} {l : List Ix.Post} {raw : List (Int × Value)} {v u : Value} {W W2 : World} {k g n c : Nat} (h : CopInv o wd B l raw v W k) (hk : k < raw.length) (hkl : k < l.length) (hr : raw[k].1 = l[k].1)
  (hv : v = .slice (some ⟨g, 0, none⟩) n c) (hb : Below W.heap.size W W2) (hu : Own intC M0 W2 W.heap.size 3 u l[k].2) (hBW : B ≤ W.heap.size) : CopInv o wd B l raw v (W2.setCell ⟨g, k * 2 + 1, none⟩ u) (k + 1) := by
 obtain ⟨P, o', hP, hPm, own, hlab, hpl, hob, hof⟩ := h
 have hP' : (P.map rp).length = k := by rw [List.length_map]; exact hP
 have hkm : k < (P.map rp ++ raw.drop k).length := by rw [len_mid _ _ _ hP' (by omega)]; exact hk
 have hgb := slice_block hv
 have hog := hlab g hgb
 have hgl := own.lt g hgb
 have own2 := own.ext hb
 rw [hv] at own2
 have h3 := own2.putP hkm (own_oneCell hu)
 rw [get_mid (P.map rp) raw k hP' hk hkm, set_mid (P.map rp) raw k hP' hk] at h3
 have hul := hu.lt
 have hub := hu.base
 have hsz : (W2.setCell ⟨g, k * 2 + 1, none⟩ u).heap.size = W2.heap.size := by simp
 refine ⟨P ++ [(raw[k].1, u, l[k].2)], own1 o' u (.pl wd raw[k].1), by simp [hP], ?_, ?_, fun b hb' => ?_, fun p hp => ?_, fun b hb' => ?_, fun b hb' => ?_⟩
 ·rw [List.map_append, hPm, List.take_succ_eq_append_getElem hkl, List.map_singleton]
  congr 2
  show (raw[k].1, l[k].2) = l[k]
  rw [hr]
 ·rw [List.map_append, hv]
  exact h3
 ·rw [own1_other fun e => by have := hub b e; have := own.lt b hb'; omega]
  exact hlab b hb'
 ·rcases List.mem_append.1 hp with hp | hp
  ·obtain ⟨h4, h5⟩ := hpl p hp
   refine ⟨h4.flatC flatC_int fun b hb' => ?_, fun b hb' => ?_⟩
   ·rw [heap_set_ne _ _ _ fun e => by rw [e] at hb'; have := h5 g hb'; rw [hog] at this; cases this]
    exact hb.block b (h4.lt b hb')
   ·rw [own1_other fun e => by have := hub b e; have := h4.lt b hb'; omega]
    exact h5 b hb'
  ·obtain rfl := List.mem_singleton.1 hp
   refine ⟨(hu.flatC flatC_int fun b hb' => heap_set_ne _ _ _ fun e => by have := hub b hb'; omega).lower hBW, fun b hb' => own1_self hb'⟩
 ·rw [own1_other fun e => by have := hub b e; omega]
  exact hob b hb'
 ·rw [hsz] at hb'
  rw [own1_other fun e => by have := hul b e; omega]
  exact hof b (by have := hb.size; omega)
theorem CopInv.done {o : Nat → Owner} {wd : Str} {B : Nat} {l : List Ix.Post} {raw : List (Int × Value)} {v : Value} {W : World} {k : Nat} (h : CopInv o wd B l raw v W k) (hk : k = l.length) (hrl : raw.length = l.length) :
  ∃ (o' : Nat → Owner) (ps : List RPost), PostsAt ixT o' W B wd v ps ∧ ps.map pp = l ∧ (∀ b, b < B → o' b = o b) ∧ (∀ b, W.heap.size ≤ b → o' b = .no) := by
 obtain ⟨P, o', hP, hPm, own, hlab, hpl, hob, hof⟩ := h
 rw [List.drop_of_length_le (by omega), List.append_nil] at own
 rw [hk, List.take_length] at hPm
 exact ⟨o', P, ⟨own, hlab, hpl⟩, hPm, hob, hof⟩
set_option maxRecDepth 20000 in
set_option maxHeartbeats 4000000 in
theorem copied_ok (o : Nat → Owner) (wd : Str) (v : Value) (l : List Ix.Post) (w : World) (h : SlR postC M0 w v l) (hn : l.length ≤ 1000001) (hpl : ∀ p ∈ l, p.2.length ≤ 1000001) (hfr : ∀ b, w.heap.size ≤ b → o b = .no) : Calls Tryz.prog 63 #[v] w fun e w' =>
  ∃ (v' : Value) (o' : Nat → Owner) (ps : List RPost), e = .returned v' ∧ PostsAt ixT o' w' w.heap.size wd v' ps ∧ ps.map pp = l ∧ (∀ b, b < w.heap.size → o' b = o b) ∧ (∀ b, w'.heap.size ≤ b → o' b = .no) ∧ Below w.heap.size w w' := by
 obtain ⟨raw, hrl, hraw, hri⟩ := h.raw
 have hcl := clonePost_ok M0 v raw w hraw (by omega)
 have Hri := Lib.hid hri; have Hpl := Lib.hid hpl; have Hcl := Lib.hid hcl; have Hrl := Lib.hid hrl; have Hfr := Lib.hid hfr
 clear hri hpl hcl h hraw hfr
 go_enter Tryz.func63, Tryz.ntmps63
 go_wp2_with fail
 refine Hcl.out.mono ?_
 rintro e w1 ⟨v', rfl, own, hb1⟩
 have Hinv : Hid (CopInv o wd w.heap.size l raw v' w1 0) := Lib.hid (CopInv.start own hb1.size Hfr.out)
 obtain ⟨A1, c1, hv1, hc1, hc1m⟩ := own.shape
 rw [Hrl.out] at hv1
 subst hv1
 have Hb1 := Lib.hid hb1
 clear own hb1 Hcl
 go_wp2
 go_loopw [9] (fun iv wr => ∃ k : Nat, k ≤ l.length ∧ iv = .int .i64 (k : Int) ∧ Hid (Below w.heap.size w wr) ∧ Hid (CopInv o wd w.heap.size l raw (.slice A1 l.length c1) wr k)) (fun iv _ => l.length - (intOf iv).toNat)
 case atStart => exact ⟨0, Nat.zero_le _, rfl, Hb1, Hinv⟩
 case round =>
  clear Hb1 Hinv
  obtain ⟨k, hk, rfl, hbr, hinv⟩ := hrel
  by_cases hlt : k < l.length
  ·have hkr : k < raw.length := by rw [Hrl.out]; exact hlt
   obtain ⟨g, c, hv, hBg, hgl, x1, hfz⟩ := hinv.out.cell Hrl.out hkr
   injection hv with hv1 hv2 hv3
   subst hv1 hv3
   obtain ⟨hr1, hr2⟩ := Hri.out k hkr hlt
   have hcl := cloneInt_ok M0 raw[k].2 l[k].2 wr (hr2.ext hbr.out) (Hpl.out _ (List.getElem_mem hlt))
   have hstep := fun u W2 hb hu => hinv.out.step (u := u) (W2 := W2) hkr hlt hr1 rfl hb hu hbr.out.size
   obtain ⟨pv, hpv⟩ : ∃ p, raw[k].2 = p := ⟨_, rfl⟩
   rw [hpv] at x1 hcl
   have Hcl := Lib.hid hcl; have Hstep := Lib.hid hstep; have Hg := Lib.hid (And.intro hBg hgl); have Hfz := Lib.hid hfz
   have hkil : (k : Int) < (l.length : Int) := by omega
   have hki0 : (0 : Int) ≤ (k : Int) := by omega
   have hkiw : IntKind.i64.wrap (k : Int) = (k : Int) := IntWalk.i64_in _ (by omega)
   clear hcl hstep hr1 hr2 hpv hinv hv2 hBg hgl hfz
   go_wp2_with fail
   refine Hcl.out.mono ?_
   rintro e w2 ⟨u, rfl, hu, hb2⟩
   obtain ⟨A9, c9, rfl, _, _⟩ := hu.shape
   have hinv2 := Lib.hid (Hstep.out _ w2 hb2 hu)
   have x1 := cell_ext hb2 x1
   have hf2 : w2.frozen? ⟨g, k * 2 + 1, none⟩ = false := by
    have := Hfz.out (k * 2 + 1)
    rw [← this]
    exact frozen_ext hb2 Hg.out.2 _
   have hbr2 := Lib.hid ((hbr.out.trans (hb2.mono hbr.out.size)).setCell (p := ⟨g, k * 2 + 1, none⟩) Hg.out.1 (.slice A9 l[k].2.length c9))
   clear hu hb2 Hcl Hstep Hfz hbr
   go_wp2
   go_roundw
   case rel => exact ⟨k + 1, by omega, by go_num, hbr2, hinv2⟩
   case measure => simp [intOf]; omega
  ·obtain rfl : k = l.length := by omega
   have hd := hinv.out.done rfl Hrl.out
   have Hd := Lib.hid hd
   clear hd hinv
   go_wp2
   go_ret
   obtain ⟨o', ps, h1, h2, h3, h4⟩ := Hd.out
   exact ⟨_, o', ps, rfl, h1, h2, h3, h4, hbr.out⟩
end Go.Proofs.YtnlhocbaighedaaGreatDoor
