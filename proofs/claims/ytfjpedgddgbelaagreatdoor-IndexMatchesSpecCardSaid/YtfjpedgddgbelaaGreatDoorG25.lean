/-
  Contracts and plain facts, one after another: index.Find; slices.IndexFunc and slices.DeleteFunc on postings and on terms; the closures of index.Remove.
-/
import Derived.Test.YtfjpedgddgbelaaGreatDoorG22
import Derived.Test.YtfjpedgddgbelaaGreatDoorIxAd
import Derived.Test.YtfjpedgddgbelaaGreatDoorG7
import Derived.Test.YtfjpedgddgbelaaGreatDoorG9
import Derived.Test.YtfjpedgddgbelaaGreatDoorG13
namespace Go.Proofs.YtfjpedgddgbelaaGreatDoor
open Go.RowKit
set_option linter.unusedVariables false
namespace Ix
def findR (x : Idx) (word : Str) : List Post × Int × Int :=
  if (indexF x).1 ≠ 0 then ([], indexF x) else if 8000 < word.length then ([], 1, -4) else ((Al.look x.2 (Sm.stem (Sm.lower word))).getD [], 0, 0)
end Ix
theorem put2 {w : World} {g7 : Nat} {t' : TypeId} {u v : Value} (h7 : Blk w g7 t' #[u, v]) (c d : Value) {W : World} (hW : (w.setCell ⟨g7, 0, none⟩ c).setCell ⟨g7, 1, none⟩ d = W) : Blk W g7 t' #[c, d] ∧ ∀ b, b ≠ g7 → W.heap[b]? = w.heap[b]? := by
  subst hW
  exact ⟨(h7.set_ 0 c).set_ 1 d, fun b h2 => by rw [heap_set_ne _ _ _ h2, heap_set_ne _ _ _ h2]⟩
theorem below_put2 {w w1 W : World} {g7 : Nat} (hb : Below w.heap.size w w1) (h7 : w.heap.size ≤ g7) (c d : Value) (hW : (w1.setCell ⟨g7, 0, none⟩ c).setCell ⟨g7, 1, none⟩ d = W) : Below w.heap.size w W := by
  subst hW
  exact (hb.setCell (p := ⟨g7, 0, none⟩) h7 _).setCell (p := ⟨g7, 1, none⟩) h7 _
/-- what Find answers -/
def FindAt (x : Ix.Idx) (word : Str) (w : World) (e : Ending) (w' : World) : Prop :=
  ∃ v, e = .returned (.tuple #[v, .agg #[.int .i64 (Ix.findR x word).2.1, .int .i64 (Ix.findR x word).2.2]]) ∧ SlR postC M0 w' v (Ix.findR x word).1 ∧ Below w.heap.size w w'
set_option maxRecDepth 20000 in
set_option maxHeartbeats 8000000 in
theorem indexFind_ok (a b : Value) (ids : List Int) (ts : List Ix.Term) (word : Str) (w : World) (h0 : SlR intC M0 w a ids) (h1 : SlR termC M0 w b ts) (hsz : SzIx ts) (hTb : TabsU w) :
    Calls Tryz.prog 17 #[.agg #[a, b], .string (bs word)] w (FindAt (ids, ts) word w) := by
  obtain ⟨A0, c0, rfl, _, _⟩ := h0.form
  obtain ⟨A1, c1, rfl, _, _⟩ := h1.form
  obtain ⟨W, hW, hs, hal, k3, k7⟩ := two_new w (.slice A0 ids.length c0) (.slice A1 ts.length c1) 25 (.int .i64 0) (.int .i64 0) 27
  obtain ⟨g3, hg3⟩ : ∃ g, w.heap.size = g := ⟨_, rfl⟩
  obtain ⟨g7, hg7⟩ : ∃ g, w.heap.size + 1 = g := ⟨_, rfl⟩
  rw [hg7] at k7
  rw [hg3] at k3 hg7
  have hval := validate_ok (.slice A0 ids.length c0) (.slice A1 ts.length c1) ids ts W (h0.ext hal) (h1.ext hal) hsz
  obtain ⟨fa, fb, hf⟩ : ∃ fa fb, Ix.indexF (ids, ts) = (fa, fb) := ⟨_, _, rfl⟩
  rw [hf] at hval
  have hfl := fun a b W => failed_ok a b W
  have hfc := fun a b W => fault_ok a b W
  obtain ⟨q0, q1, _, _, _⟩ := k3.two
  rw [← hW, ← hg3] at q0 q1
  have HW := Lib.hid hW; have Hg := Lib.hid (And.intro hg3 (And.intro hg7 hs)); have Hval := Lib.hid hval; have Hfl := Lib.hid hfl; have Hfc := Lib.hid hfc
  have H01 := Lib.hid (And.intro h0 (And.intro h1 hTb))
  clear hW hg3 hg7 hs hval hfl hfc h0 h1 hsz hTb
  by_cases hfa : fa ≠ 0
  · have hR : Ix.findR (ids, ts) word = ([], fa, fb) := by unfold Ix.findR; rw [if_pos (by rw [hf]; exact hfa), hf]
    unfold FindAt
    rw [hR]
    have hfb : (fa != 0) = true := by simpa using hfa
    clear hf hR hfa
    go_enter Tryz.func17, Tryz.ntmps17
    go_wp2_with fail
    rw [HW.out, Hg.out.1, Hg.out.2.1]
    refine Hval.out.mono ?_
    rintro e w1 ⟨rfl, hb1⟩
    clear q0 q1 Hval HW
    replace k3 := k3.ext hb1
    replace k7 := k7.ext hb1
    replace hal := hal.trans (hb1.mono hal.size)
    clear hb1
    obtain ⟨g8, V1, hg8, hV1, kf, hb11⟩ := one_new w1 (.int .i64 fa) (.int .i64 fb) 27
    have H8 : Hid (g7 < g8) := Lib.hid (by have := k7.lt; omega)
    replace k3 := k3.ext hb11
    replace k7 := k7.ext hb11
    replace hal := hal.trans (hb11.mono hal.size)
    clear hb11
    obtain ⟨f0, f1, _, _, _⟩ := kf.two
    go_wp2_with fail
    clear hV1 hg8 f0 f1
    refine (Hfl.out fa fb V1).mono ?_
    rintro e w2 ⟨rfl, hb2⟩
    replace k3 := k3.ext hb2
    replace k7 := k7.ext hb2
    replace kf := kf.ext hb2
    replace hal := hal.trans (hb2.mono hal.size)
    clear hb2
    have hn87 : ¬ g8 = g7 := by have := Hg.out; have := H8.out; omega
    obtain ⟨f0, f1, _, _, _⟩ := kf.two
    obtain ⟨v0, v1, v2, v3, _⟩ := k7.two
    have Hbe := Lib.hid hal; have Hk7 := Lib.hid k7
    clear hal k3 kf k7
    go_wp2_with fail
    go_region
    go_wp2
    obtain ⟨W9, hW9⟩ : ∃ W9, (w2.setCell ⟨g7, 0, none⟩ (.int .i64 fa)).setCell ⟨g7, 1, none⟩ (.int .i64 fb) = W9 := ⟨_, rfl⟩
    have hbe := below_put2 (w := w) Hbe.out (by have := Hg.out; omega) _ _ hW9
    obtain ⟨p7, hp7⟩ := put2 Hk7.out _ _ hW9
    rw [hW9]
    obtain ⟨e2, e3, _⟩ := (show Blk W9.drew g7 _ _ from p7).two
    refine bodyPost_ret (v := .tuple #[.slice none 0 0, .agg #[.int .i64 fa, .int .i64 fb]]) (by simp [results, Tryz.results17, go_sem, e2, e3]) rfl ?_
    exact ⟨_, rfl, SlR.nil _ _ _, below_drew hbe⟩
  have hf0 : fa = 0 := by simpa using hfa
  have hfb : (fa != 0) = false := by simpa using hfa
  have hcan := (Ix.indexF_zero (ids, ts)).1 (by rw [hf]; exact hf0)
  have hz : ¬ (Ix.indexF (ids, ts)).1 ≠ 0 := by rw [hf]; exact hfa
  obtain ⟨za, zb, hza, hzb, hzf⟩ : ∃ za zb : Int, za = 0 ∧ zb = 0 ∧ (za != 0) = false := ⟨0, 0, rfl, rfl, rfl⟩
  clear hfa hf hf0
  by_cases h4 : 8000 < word.length
  · have hR : Ix.findR (ids, ts) word = ([], 1, -4) := by unfold Ix.findR; rw [if_neg hz, if_pos h4]
    unfold FindAt
    rw [hR]
    have hd1 : decide (8000 < (word.length : Int)) = true := by simp; omega
    clear hz hR h4 hcan
    go_enter Tryz.func17, Tryz.ntmps17
    go_wp2_with fail
    rw [HW.out, Hg.out.1, Hg.out.2.1]
    refine Hval.out.mono ?_
    rintro e w1 ⟨rfl, hb1⟩
    clear q0 q1 Hval HW
    replace k3 := k3.ext hb1
    replace k7 := k7.ext hb1
    replace hal := hal.trans (hb1.mono hal.size)
    clear hb1
    obtain ⟨g8, V1, hg8, hV1, kf, hb11⟩ := one_new w1 (.int .i64 fa) (.int .i64 fb) 27
    have H8 : Hid (g7 < g8) := Lib.hid (by have := k7.lt; omega)
    replace k3 := k3.ext hb11
    replace k7 := k7.ext hb11
    replace hal := hal.trans (hb11.mono hal.size)
    clear hb11
    obtain ⟨f0, f1, _, _, _⟩ := kf.two
    go_wp2_with fail
    clear hV1 hg8 f0 f1
    refine (Hfl.out fa fb V1).mono ?_
    rintro e w2 ⟨rfl, hb2⟩
    replace k3 := k3.ext hb2
    replace k7 := k7.ext hb2
    replace kf := kf.ext hb2
    replace hal := hal.trans (hb2.mono hal.size)
    clear hb2
    clear kf
    go_wp2_with fail
    refine (Hfc.out 1 (-4) _).mono ?_
    rintro e w9 ⟨rfl, hb9⟩
    replace k3 := k3.ext hb9
    replace k7 := k7.ext hb9
    replace hal := hal.trans (hb9.mono hal.size)
    clear hb9
    obtain ⟨v0, v1, v2, v3, _⟩ := k7.two
    have Hbe := Lib.hid hal; have Hk7 := Lib.hid k7
    clear hal k3 k7
    go_wp2
    obtain ⟨W9, hW9⟩ : ∃ W9, (w9.setCell ⟨g7, 0, none⟩ (.int .i64 1)).setCell ⟨g7, 1, none⟩ (.int .i64 (-4)) = W9 := ⟨_, rfl⟩
    have hbe := below_put2 (w := w) Hbe.out (by have := Hg.out; omega) _ _ hW9
    obtain ⟨p7, hp7⟩ := put2 Hk7.out _ _ hW9
    rw [hW9]
    obtain ⟨e2, e3, _⟩ := (show Blk W9 g7 _ _ from p7).two
    refine bodyPost_ret (v := .tuple #[.slice none 0 0, .agg #[.int .i64 1, .int .i64 (-4)]]) (by simp [results, Tryz.results17, go_sem, e2, e3]) rfl ?_
    exact ⟨_, rfl, SlR.nil _ _ _, hbe⟩
  have hd1 : decide (8000 < (word.length : Int)) = false := by simp; omega
  obtain ⟨s, hs⟩ : ∃ s, Sm.lower word = s := ⟨_, rfl⟩
  have hsl : s.length ≤ 4000000 := by
    have := Sm.lower_len word.length word (Nat.le_refl _)
    rw [hs] at this
    omega
  have hR : Ix.findR (ids, ts) word = ((Al.look ts (Sm.stem s)).getD [], 0, 0) := by unfold Ix.findR; rw [if_neg hz, if_neg h4, hs]
  unfold FindAt
  rw [hR]
  have hlw := fun W' (hb : Below w.heap.size w W') => stemLower_ok word (by omega) W' (H01.out.2.2.ext hb)
  rw [hs] at hlw
  have hsf := fun W' => of_ok s (by unfold maxLen; omega) W'
  have hio := fun W' (hb : Below w.heap.size w W') => indexOf_ok (.slice A0 ids.length c0) (.slice A1 ts.length c1) ts (Sm.stem s) W' (H01.out.2.1.ext hb) hcan.srt hcan.many hcan.small.posts
  have hno := fun W' => none_ok W'
  have Hlw := Lib.hid hlw; have Hsf := Lib.hid hsf; have Hio := Lib.hid hio; have Hno := Lib.hid hno
  clear hlw hsf hio hno hz hR h4 hcan hs hsl
  go_enter Tryz.func17, Tryz.ntmps17
  go_wp2_with fail
  rw [HW.out, Hg.out.1, Hg.out.2.1]
  refine Hval.out.mono ?_
  rintro e w1 ⟨rfl, hb1⟩
  clear q0 q1 Hval HW
  replace k3 := k3.ext hb1
  replace k7 := k7.ext hb1
  replace hal := hal.trans (hb1.mono hal.size)
  clear hb1
  obtain ⟨g8, V1, hg8, hV1, kf, hb11⟩ := one_new w1 (.int .i64 fa) (.int .i64 fb) 27
  have H8 : Hid (g7 < g8) := Lib.hid (by have := k7.lt; omega)
  replace k3 := k3.ext hb11
  replace k7 := k7.ext hb11
  replace hal := hal.trans (hb11.mono hal.size)
  clear hb11
  obtain ⟨f0, f1, _, _, _⟩ := kf.two
  go_wp2_with fail
  clear hV1 hg8 f0 f1
  refine (Hfl.out fa fb V1).mono ?_
  rintro e w2 ⟨rfl, hb2⟩
  replace k3 := k3.ext hb2
  replace k7 := k7.ext hb2
  replace kf := kf.ext hb2
  replace hal := hal.trans (hb2.mono hal.size)
  clear hb2
  clear kf
  have hSS : ∀ W', Below w2.heap.size w2 W' → W'.cell? ⟨g3, 0, none⟩ = some (.slice A0 ids.length c0) ∧ W'.cell? ⟨g3, 1, none⟩ = some (.slice A1 ts.length c1) := fun W' hb => ⟨(k3.ext hb).two.1, (k3.ext hb).two.2.1⟩
  have HS := Lib.hid hSS
  have hS := HS.out _ (below_drewN' w2.heap.size w2 1)
  have Hbe := Lib.hid hal; have Hk7 := Lib.hid k7
  clear hal k3 k7 hSS
  go_wp2_with fail
  refine wp_region_D (fun W => W.cell? ⟨g3, 0, none⟩ = some (.slice A0 ids.length c0) ∧ W.cell? ⟨g3, 1, none⟩ = some (.slice A1 ts.length c1)) (fun j => j == 7) (by kernel_rfl) ?_
  change anyD _ _ _ _ _ _ _ _ _ (w2.drewN 1)
  have hbV := below_drewN' w2.heap.size w2 1
  generalize w2.drewN 1 = V0 at hS hbV ⊢
  (refine anyD_light (i := 0) (v := ?_) rfl (by kernel_rfl) (by kernel_rfl) (by kernel_rfl) (by kernel_rfl) (by kernel_rfl) (fun _ _ _ h => h) (.inl ⟨by kernel_rfl, fun W9 hW9 => ?_⟩) hS ?_; rotate_left; · (obtain ⟨hw0, hw1⟩ := hW9; go_simp; rfl))
  (refine anyD_light (i := 1) (v := ?_) rfl (by kernel_rfl) (by kernel_rfl) (by kernel_rfl) (by kernel_rfl) (by kernel_rfl) (fun _ _ _ h => h) (.inl ⟨by kernel_rfl, fun W9 hW9 => ?_⟩) hS ?_; rotate_left; · (obtain ⟨hw0, hw1⟩ := hW9; go_simp; rfl))
  go_simp
  refine anyD_one (i := 2) (by kernel_rfl) rfl rfl (fun K hK => ?_)
  have HK := Lib.hid hK
  clear hK
  unfold Oper.wp
  go_simp
  refine ((Hlw.out V0 (Hbe.out.trans (hbV.mono Hbe.out.size)))).mono ?_
  rintro e w3 ⟨rfl, hb3⟩
  replace hb3 := hbV.trans (hb3.mono hbV.size)
  clear hS hbV
  have hS := HS.out _ hb3
  refine HK.out _ _ (fun _ => hS) ?_
  clear HK
  go_simp
  refine anyD_one (i := 3) (by kernel_rfl) rfl rfl (fun K hK => ?_)
  have HK := Lib.hid hK
  clear hK
  unfold Oper.wp
  go_simp
  refine ((Hsf.out w3)).mono ?_
  rintro e w4 ⟨rfl, hb4⟩
  replace hb4 := hb3.trans (hb4.mono hb3.size)
  clear hS hb3
  have hS := HS.out _ hb4
  refine HK.out _ _ (fun _ => hS) ?_
  clear HK
  go_simp
  refine anyD_one (i := 4) (by kernel_rfl) rfl rfl (fun K hK => ?_)
  have HK := Lib.hid hK
  clear hK
  unfold Oper.wp
  go_simp
  refine ((Hio.out w4 (Hbe.out.trans (hb4.mono Hbe.out.size)))).mono ?_
  rintro e w5 ⟨v, rfl, hrd, hb5⟩
  have hrd5 := hrd
  have H45 : Hid (w.heap.size + 2 ≤ w4.heap.size) := Lib.hid (by have := Hk7.out.lt; have := Hg.out; have := hb4.size; omega)
  replace hb5 := hb4.trans (hb5.mono hb4.size)
  clear hS hb4
  obtain ⟨A5, c5, rfl, _, _⟩ := hrd.form
  have hS := HS.out _ hb5
  refine HK.out _ _ (fun _ => hS) ?_
  clear HK
  go_simp
  refine anyD_one (i := 5) (by kernel_rfl) rfl rfl (fun K hK => ?_)
  have HK := Lib.hid hK
  clear hK
  unfold Oper.wp
  go_simp
  refine ((Hno.out w5)).mono ?_
  rintro e w6 ⟨rfl, hb6⟩
  have hrd6 := hrd5.ext hb6
  replace hb6 := hb5.trans (hb6.mono hb5.size)
  clear hS hb5
  have hS := HS.out _ hb6
  refine HK.out _ _ (fun _ => hS) ?_
  clear HK
  (refine anyD_light (i := 6) (v := ?_) rfl (by kernel_rfl) (by kernel_rfl) (by kernel_rfl) (by kernel_rfl) (by kernel_rfl) (fun _ _ _ h => h) (.inl ⟨by kernel_rfl, fun W9 hW9 => ?_⟩) hS ?_; rotate_left; · (obtain ⟨hw0, hw1⟩ := hW9; go_simp; rfl))
  go_simp
  refine anyD_one (i := 7) (by kernel_rfl) rfl rfl (fun K hK => ?_)
  have HK := Lib.hid hK
  clear hK
  obtain ⟨v0, v1, v2, v3, _⟩ := (Hk7.out.ext hb6).two
  unfold Oper.wp
  go_simp
  refine HK.out _ _ (fun h => by cases h) ?_
  clear HK
  go_simp
  refine anyD_done (by kernel_rfl) ?_ _
  have Hbe6 := Lib.hid (Hbe.out.trans (hb6.mono Hbe.out.size)); have Hk76 := Lib.hid (Hk7.out.ext hb6)
  have hr6 := hrd6
  clear hS
  go_wp2
  obtain ⟨W9, hW9⟩ : ∃ W9, (w6.setCell ⟨g7, 0, none⟩ (.int .i64 0)).setCell ⟨g7, 1, none⟩ (.int .i64 0) = W9 := ⟨_, rfl⟩
  have hbe := below_put2 (w := w) Hbe6.out (by have := Hg.out; omega) _ _ hW9
  obtain ⟨p7, hp7⟩ := put2 Hk76.out _ _ hW9
  rw [hW9]
  obtain ⟨e2, e3, _⟩ := (show Blk W9 g7 _ _ from p7).two
  refine bodyPost_ret (v := .tuple #[.slice A5 ((Al.look ts (Sm.stem s)).getD []).length c5, .agg #[.int .i64 0, .int .i64 0]]) (by simp [results, Tryz.results17, go_sem, e2, e3]) rfl ?_
  exact ⟨_, rfl, (hr6.keep (fun b _ hb => hp7 b fun e => hb (by have := Hg.out; have := H45.out; subst e; show b < _; omega)) (by rw [← hW9]; simp)).weak, hbe⟩
end Go.Proofs.YtfjpedgddgbelaaGreatDoor
namespace Go.Proofs.YtfjpedgddgbelaaGreatDoor
open Go.RowKit
set_option linter.unusedVariables false
theorem rem1_ok (i id : Int) (v : Value) (bc : Nat) (w : World) (hc : w.cell? ⟨bc, 0, none⟩ = some (.int .i64 id)) : Calls Tryz.prog 62 #[.agg #[.int .i64 i, v], .pointer (some ⟨bc, 0, none⟩)] w fun e w' => e = .returned (.bool (i == id)) ∧ Below w.heap.size w w' := by
  have hal := (Below.refl w.heap.size w).alloc (Nat.le_refl _) (.cells #[.int .i64 i, v] 96)
  obtain ⟨p0, p1, _, _, _⟩ := (Blk.new w 96 #[.int .i64 i, v]).two
  have hc2 := cell_ext hal hc
  go_enter Tryz.func62, Tryz.ntmps62
  go_wp2
  go_ret
  exact ⟨rfl, hal⟩
theorem rem2_ok (s : Str) (A : Option Addr) (n c : Nat) (w : World) : Calls Tryz.prog 64 #[.agg #[.string (bs s), .slice A n c]] w fun e w' => e = .returned (.bool ((n : Int) == 0)) ∧ Below w.heap.size w w' := by
  have hal := (Below.refl w.heap.size w).alloc (Nat.le_refl _) (.cells #[.string (bs s), .slice A n c] 43)
  obtain ⟨p0, p1, _, _, _⟩ := (Blk.new w 43 #[.string (bs s), .slice A n c]).two
  go_enter Tryz.func64, Tryz.ntmps64
  go_wp2
  go_ret
  exact ⟨rfl, hal⟩
/-- the number of postings that a value holds -/
def valLen : Value → Int
  | .slice _ n _ => n
  | _ => 0
theorem new1 (w : World) (a b : Value) (t : TypeId) : ∃ g V, w.heap.size = g ∧ w.alloc (.cells #[a, b] t) = V ∧ Blk V g t #[a, b] ∧ Below w.heap.size w V := ⟨_, _, rfl, rfl, Blk.new w t _, (Below.refl _ _).alloc (Nat.le_refl _) _⟩
theorem below_grown {w w' : World} (h : Below w.heap.size w w') (row : Option Nat) : w.grownBy w' row := ⟨h.os, h.tape, h.output, h.size, fun b hb _ => h.block b hb⟩
theorem gr_trans {w w1 w2 : World} {row : Option Nat} (h1 : w.grownBy w1 row) (h2 : w1.grownBy w2 row) : w.grownBy w2 row := ⟨h2.os.trans h1.os, h2.tape.trans h1.tape, h2.output.trans h1.output, Nat.le_trans h1.size h2.size, fun b hb hn => (h2.block b (Nat.lt_of_lt_of_le hb h1.size) hn).trans (h1.block b hb hn)⟩
theorem gr_set (w : World) (g i : Nat) (u : Value) : w.grownBy (w.setCell ⟨g, i, none⟩ u) (some g) := ⟨rfl, rfl, rfl, by simp, fun b _ hn => heap_set_ne _ _ _ fun e => hn (by rw [e])⟩
/-- an element's two cells are turned -/
theorem Own.putP2 {w : World} {B g n c : Nat} {e : TypeId} {l : List (Int × Value)} (h : Own rpC M0 w B e (.slice (some ⟨g, 0, none⟩) n c) l) {k : Nat} (hk : k < l.length) {x : Int} {u : Value} (hx : -9223372036854775808 ≤ x ∧ x ≤ 9223372036854775807) (hu : u.oneCell' = true) : Own rpC M0 ((w.setCell ⟨g, k * 2, none⟩ (.int .i64 x)).setCell ⟨g, k * 2 + 1, none⟩ u) B e (.slice (some ⟨g, 0, none⟩) n c) (l.set k (x, u)) := by
  have h1 : Own rpC M0 (w.setCell ⟨g, k * 2, none⟩ (.int .i64 x)) B e (.slice (some ⟨g, 0, none⟩) n c) (l.set k (x, l[k].2)) := h.putF flatC_rp (k := k) (r := 0) hk (by show 0 < 1 + 1; omega) (fun cs hcs => by
    obtain ⟨c1, d1, e, h4, h5⟩ := hcs
    have hc1 := intC.len h4
    obtain ⟨y, rfl⟩ : ∃ y, c1 = [y] := List.length_eq_one_iff.1 hc1
    subst e
    exact ⟨[.int .i64 x], d1, rfl, ⟨rfl, hx⟩, h5⟩)
  have h2 := h1.putP (k := k) (by rw [List.length_set]; exact hk) hu
  rw [List.set_set, List.getElem_set_self] at h2
  exact h2
theorem Own.putT2 {w : World} {B g n c : Nat} {e : TypeId} {l : List (Str × Value)} (h : Own rtC M0 w B e (.slice (some ⟨g, 0, none⟩) n c) l) {k : Nat} (hk : k < l.length) {x : Str} {u : Value} (hx : x.length ≤ maxLen) (hu : u.oneCell' = true) : Own rtC M0 ((w.setCell ⟨g, k * 2, none⟩ (.string (bs x))).setCell ⟨g, k * 2 + 1, none⟩ u) B e (.slice (some ⟨g, 0, none⟩) n c) (l.set k (x, u)) := by
  have h1 : Own rtC M0 (w.setCell ⟨g, k * 2, none⟩ (.string (bs x))) B e (.slice (some ⟨g, 0, none⟩) n c) (l.set k (x, l[k].2)) := h.putF flatC_rt (k := k) (r := 0) hk (by show 0 < 1 + 1; omega) (fun cs hcs => by
    obtain ⟨c1, d1, e, h4, h5⟩ := hcs
    have hc1 := strC.len h4
    obtain ⟨y, rfl⟩ : ∃ y, c1 = [y] := List.length_eq_one_iff.1 hc1
    subst e
    exact ⟨[.string (bs x)], d1, rfl, ⟨rfl, hx⟩, h5⟩)
  have h2 := h1.putT (k := k) (by rw [List.length_set]; exact hk) hu
  rw [List.set_set, List.getElem_set_self] at h2
  exact h2
theorem Own.cutClear {P : Program} {k bytes : Nat} {t e : TypeId} (T : SlT P k t e bytes) (hone : ∀ i z, P.info? e = some i → i.zero = some z → ∀ u ∈ z.cells.toList, u.oneCell' = true) {α : Type} {C : Codec α} (hk : C.n = k) {M : Nat → Prop} {w : World} {B g n c : Nat} {R : List α} (own : Own C M w B e (.slice (some ⟨g, 0, none⟩) n c) R) {i : Nat} (hi : i < R.length) :
    ∃ w', (∀ ty, (Builtin.clear_ #[t] ty #[.slice (some ⟨g, i * k, none⟩) (R.length - i) (c - i)]).run P w = .ok (.tuple #[]) w') ∧ Own C M w' B e (.slice (some ⟨g, 0, none⟩) i c) (R.take i) ∧ w.grownBy w' (some g) := by
  subst hk
  obtain ⟨g', c', cur, hv, hlc, hcm, hB, hblk, hsz⟩ := own.blk (by omega)
  injection hv with hv1 hv2 hv3
  injection hv1 with hv1
  injection hv1 with hv1
  subst hv1 hv3
  have hels := (own.cells hblk).2
  have hpos := C.pos
  have h1 : i * C.n + (R.length - i) * C.n ≤ cur.size := by
    rw [← Nat.add_mul, hsz]
    exact Nat.mul_le_mul_right _ (by omega)
  obtain ⟨zs, hzl, hclr⟩ := run_clear_in (P := P) T hblk (o := i * C.n) (R.length - i) (c - i) (by omega) hpos hone h1
  have hgr : w.grownBy (w.setRow g (splice cur.toList (i * C.n) zs).toArray) (some g) := ⟨rfl, rfl, rfl, by simp [World.setRow], fun k _ hne => setRow_other _ _ _ _ (fun e => hne (by rw [e]))⟩
  refine ⟨_, hclr, ?_, hgr⟩
  have hel := hels.take i
  have h2 : i * C.n ≤ R.length * C.n := Nat.mul_le_mul_right _ (by omega)
  rw [List.take_take, Nat.min_eq_left h2] at hel
  refine Own.mk_row hblk.setRow hB ?_ (by rw [List.length_take]; omega) (by omega) hcm (hel.keep (fun b hb hn => hgr.block b hb fun e => hn (.inr (by injection e))) hgr.size) ?_
  · rw [List.size_toArray, length_splice _ _ _ (by rw [hzl, Array.length_toList]; exact h1), Array.length_toList]; exact hsz
  · rw [List.toList_toArray, splice, List.take_append_of_le_length (by rw [List.length_take, Array.length_toList]; omega), List.take_take, Nat.min_self]
/-- how a row stands behind some rounds -/
structure Kpt {α : Type} (q : α → Bool) (l R : List α) (i j : Nat) : Prop where
  len : R.length = l.length
  ij : i < j
  jl : j ≤ l.length
  tk : R.take i = (l.take j).filter q
  dr : ∀ m (h : m < l.length) (h' : m < R.length), j ≤ m → R[m] = l[m]
theorem Kpt.start {α : Type} {q : α → Bool} {l : List α} {k : Nat} (hk : k < l.length) (h1 : ∀ m (h : m < l.length), m < k → q l[m] = true) (h2 : q l[k] = false) : Kpt q l l k (k + 1) := by
  refine ⟨rfl, by omega, hk, ?_, fun _ _ _ _ => rfl⟩
  rw [List.take_succ_eq_append_getElem hk, List.filter_append, List.filter_cons_of_neg (by simpa using h2), List.filter_nil, List.append_nil]
  refine (List.filter_eq_self.2 fun a ha => ?_).symm
  obtain ⟨m, hm, rfl⟩ := List.mem_iff_getElem.1 ha
  rw [List.length_take] at hm
  rw [List.getElem_take]
  exact h1 m (by omega) (by omega)
theorem Kpt.drop {α : Type} {q : α → Bool} {l R : List α} {i j : Nat} (h : Kpt q l R i j) (hj : j < l.length) (hq : q l[j] = false) : Kpt q l R i (j + 1) := by
  refine ⟨h.len, by have := h.ij; omega, hj, ?_, fun m hm hm' hle => h.dr m hm hm' (by omega)⟩
  rw [List.take_succ_eq_append_getElem hj, List.filter_append, List.filter_cons_of_neg (by simpa using hq), List.filter_nil, List.append_nil]
  exact h.tk
theorem Kpt.keep {α : Type} {q : α → Bool} {l R : List α} {i j : Nat} (h : Kpt q l R i j) (hj : j < l.length) (hq : q l[j] = true) : Kpt q l (R.set i l[j]) (i + 1) (j + 1) := by
  have hij := h.ij
  have hl := h.len
  refine ⟨by rw [List.length_set]; exact hl, by omega, hj, ?_, fun m hm hm' hle => ?_⟩
  · rw [List.take_succ_eq_append_getElem hj, List.filter_append, List.filter_cons_of_pos (by simpa using hq), List.filter_nil, ← h.tk, List.take_succ_eq_append_getElem (by rw [List.length_set]; omega), List.getElem_set_self, List.take_set_of_le (Nat.le_refl _)]
  · rw [List.getElem_set_ne (by omega)]
    exact h.dr m hm (by rw [List.length_set] at hm'; exact hm') (by omega)
theorem Kpt.end_ {α : Type} {q : α → Bool} {l R : List α} {i : Nat} (h : Kpt q l R i l.length) : R.take i = l.filter q := by rw [h.tk, List.take_length]

set_option maxHeartbeats 2000000 in
theorem indexFuncPost_ok (id : Int) (bc : Nat) (v : Value) (l : List (Int × Value)) (w : World) (h : SlR rpC M0 w v l) (hc : w.cell? ⟨bc, 0, none⟩ = some (.int .i64 id)) : Calls Tryz.prog 116 #[v, .func (.func 62) #[] #[.pointer (some ⟨bc, 0, none⟩)]] w fun e w' =>
    ∃ j : Int, e = .returned (.int .i64 j) ∧ ((j = -1 ∧ ∀ r ∈ l, (r.1 == id) = false) ∨ ∃ (k : Nat) (hk : k < l.length), j = (k : Int) ∧ (l[k].1 == id) = true ∧ ∀ (m : Nat) (hm : m < l.length), m < k → (l[m].1 == id) = false) ∧ Below w.heap.size w w' := by
  obtain ⟨A, c, rfl, hlc, hcm⟩ := h.form
  unfold maxLen at hcm
  have Hh := Lib.hid h
  clear h
  have hbw := Below.refl w.heap.size w
  go_enter Tryz.func116, Tryz.ntmps116
  go_wp2
  go_loopw [8] (fun iv wr => ∃ k : Nat, k ≤ l.length ∧ iv = .int .i64 (k : Int) ∧ Hid (∀ (m : Nat) (hm : m < l.length), m < k → (l[m].1 == id) = false) ∧ Below w.heap.size w wr) (fun iv _ => l.length - (intOf iv).toNat)
  case atStart => exact ⟨0, Nat.zero_le _, rfl, Lib.hid fun m _ h => absurd h (by omega), hbw⟩
  case round =>
    obtain ⟨k, hk, rfl, hno, hbr⟩ := hrel
    clear hbw
    by_cases hlt : k < l.length
    · obtain ⟨bb, off, rfl, _, p0, p1⟩ := (Hh.out.ext hbr).rpAt hlt
      have hc1 := cell_ext hbr hc
      obtain ⟨⟨pk, pv⟩, hp⟩ : ∃ p, l[k] = p := ⟨_, rfl⟩
      rw [hp] at p0 p1
      dsimp only at p0 p1
      have hcl := rem1_ok pk id pv bc wr hc1
      have Hcl := Lib.hid hcl; have Hp := Lib.hid hp
      have hi0 : (0 : Int) ≤ (k : Int) := by omega
      have hi1 : (k : Int) < (l.length : Int) := by omega
      have hq1 : IntKind.i64.wrap (k : Int) = (k : Int) := IntWalk.i64_in _ (by omega)
      clear hcl hp
      go_wp2_with fail
      refine Hcl.out.mono ?_
      rintro e w1 ⟨rfl, hb1⟩
      have hbr1 := hbr.trans (hb1.mono hbr.size)
      clear hbr hb1 p0 p1 Hcl
      cases hh : (((pk, pv) : Int × Value).1 == id) with
      | true =>
        dsimp only at hh
        go_wp2
        go_ret
        exact ⟨_, rfl, .inr ⟨k, hlt, rfl, by rw [Hp.out]; exact hh, hno.out⟩, hbr1⟩
      | false =>
        dsimp only at hh
        go_wp2
        go_roundw
        case rel => exact ⟨k + 1, by omega, by go_num, Lib.hid fun m hm hmk => by
          by_cases e : m = k
          · subst e; rw [Hp.out]; exact hh
          · exact hno.out m hm (by omega), hbr1⟩
        case measure => simp [intOf]; omega
    · obtain rfl : k = l.length := by omega
      go_wp2
      go_ret
      exact ⟨_, rfl, .inl ⟨rfl, fun r hr => by
        obtain ⟨m, hm, rfl⟩ := List.mem_iff_getElem.1 hr
        exact hno.out m hm hm⟩, hbr⟩

set_option maxHeartbeats 2000000 in
theorem indexFuncTerm_ok  (v : Value) (l : List (Str × Value)) (w : World) (h : SlR rtC M0 w v l) (hsh : ∀ r ∈ l, ∃ A n c, r.2 = .slice A n c) : Calls Tryz.prog 117 #[v, .func (.func 64) #[] #[]] w fun e w' =>
    ∃ j : Int, e = .returned (.int .i64 j) ∧ ((j = -1 ∧ ∀ r ∈ l, (valLen r.2 == 0) = false) ∨ ∃ (k : Nat) (hk : k < l.length), j = (k : Int) ∧ (valLen l[k].2 == 0) = true ∧ ∀ (m : Nat) (hm : m < l.length), m < k → (valLen l[m].2 == 0) = false) ∧ Below w.heap.size w w' := by
  obtain ⟨A, c, rfl, hlc, hcm⟩ := h.form
  unfold maxLen at hcm
  have Hh := Lib.hid h
  clear h
  have hbw := Below.refl w.heap.size w
  go_enter Tryz.func117, Tryz.ntmps117
  go_wp2
  go_loopw [8] (fun iv wr => ∃ k : Nat, k ≤ l.length ∧ iv = .int .i64 (k : Int) ∧ Hid (∀ (m : Nat) (hm : m < l.length), m < k → (valLen l[m].2 == 0) = false) ∧ Below w.heap.size w wr) (fun iv _ => l.length - (intOf iv).toNat)
  case atStart => exact ⟨0, Nat.zero_le _, rfl, Lib.hid fun m _ h => absurd h (by omega), hbw⟩
  case round =>
    obtain ⟨k, hk, rfl, hno, hbr⟩ := hrel
    clear hbw
    by_cases hlt : k < l.length
    · obtain ⟨bb, off, rfl, _, p0, p1⟩ := (Hh.out.ext hbr).rtAt hlt
      obtain ⟨Ap, np, cp, hsp⟩ := hsh _ (List.getElem_mem hlt)
      obtain ⟨⟨pk, pv⟩, hp⟩ : ∃ p, l[k] = p := ⟨_, rfl⟩
      rw [hp] at p0 p1
      dsimp only at p0 p1
      rw [hp] at hsp
      dsimp only at hsp
      subst hsp
      have hcl := rem2_ok pk Ap np cp wr
      have Hcl := Lib.hid hcl; have Hp := Lib.hid hp
      have hi0 : (0 : Int) ≤ (k : Int) := by omega
      have hi1 : (k : Int) < (l.length : Int) := by omega
      have hq1 : IntKind.i64.wrap (k : Int) = (k : Int) := IntWalk.i64_in _ (by omega)
      clear hcl hp
      go_wp2_with fail
      refine Hcl.out.mono ?_
      rintro e w1 ⟨rfl, hb1⟩
      have hbr1 := hbr.trans (hb1.mono hbr.size)
      clear hbr hb1 p0 p1 Hcl
      cases hh : (valLen ((pk, Value.slice Ap np cp) : Str × Value).2 == 0) with
      | true =>
        dsimp only [valLen] at hh
        go_wp2
        go_ret
        exact ⟨_, rfl, .inr ⟨k, hlt, rfl, by rw [Hp.out]; exact hh, hno.out⟩, hbr1⟩
      | false =>
        dsimp only [valLen] at hh
        go_wp2
        go_roundw
        case rel => exact ⟨k + 1, by omega, by go_num, Lib.hid fun m hm hmk => by
          by_cases e : m = k
          · subst e; rw [Hp.out]; exact hh
          · exact hno.out m hm (by omega), hbr1⟩
        case measure => simp [intOf]; omega
    · obtain rfl : k = l.length := by omega
      go_wp2
      go_ret
      exact ⟨_, rfl, .inl ⟨rfl, fun r hr => by
        obtain ⟨m, hm, rfl⟩ := List.mem_iff_getElem.1 hr
        exact hno.out m hm hm⟩, hbr⟩

set_option maxHeartbeats 4000000 in
theorem deleteFuncPost_ok (id : Int) (bc : Nat) (v : Value) (l : List (Int × Value)) (B : Nat) (w : World) (hown : Own rpC M0 w B 96 v l) (hBw : B ≤ w.heap.size) (hc : w.cell? ⟨bc, 0, none⟩ = some (.int .i64 id)) (hcn : v.ownBlock ≠ some bc) (hsh : ∀ r ∈ l, ∃ A n c, r.2 = .slice A n c) : Calls Tryz.prog 61 #[v, .func (.func 62) #[] #[.pointer (some ⟨bc, 0, none⟩)]] w fun e w' =>
    ∃ v', e = .returned v' ∧ Own rpC M0 w' B 96 v' (l.filter fun r => !(r.1 == id)) ∧ w.grownBy w' v.ownBlock ∧ v'.ownBlock = v.ownBlock := by
  obtain ⟨A, c, rfl, hlc, hcm⟩ := hown.shape
  have hcm' := hcm
  unfold maxLen at hcm'
  have hif := indexFuncPost_ok id bc (.slice A l.length c) l w hown.read0 hc
  have Hif := Lib.hid hif; have Hown := Lib.hid hown
  clear hif hown
  go_enter Tryz.func61, Tryz.ntmps61
  go_wp2_with fail
  refine Hif.out.mono ?_
  rintro e w1 ⟨j0, rfl, hj, hb1⟩
  rcases hj with ⟨rfl, hno⟩ | ⟨k0, hk0, rfl, hyes, hno⟩
  · go_wp2
    go_ret
    have hfl : l.filter (fun r => !(r.1 == id)) = l := List.filter_eq_self.2 fun r hr => by rw [hno r hr]; rfl
    exact ⟨_, rfl, by rw [hfl]; exact Hown.out.ext hb1, below_grown hb1 _, rfl⟩
  · obtain ⟨g, c', cur, hv, _, _, hBg, hblk, _⟩ := (Hown.out.ext hb1).blk (by omega)
    injection hv with hv1 hv2 hv3
    subst hv1 hv3
    have hgl := hblk.lt
    have hk9 : ((k0 : Int) == -1) = false := beq_eq_false_iff_ne.2 (by omega)
    have hk8 : IntKind.i64.wrap ((k0 : Int) + 1) = ((k0 + 1 : Nat) : Int) := by rw [IntWalk.i64_in _ (by omega)]; omega
    have Hst := Lib.hid (Kpt.start (q := fun r => !(r.1 == id)) hk0 (fun m hm hmk => by rw [hno m hm hmk]; rfl) (by rw [hyes]; rfl))
    have Hgr0 : Hid (w.grownBy w1 (some g)) := Lib.hid (below_grown hb1 _)
    have Hown1 := Lib.hid (Hown.out.ext hb1)
    clear hblk hno hyes Hif
    go_wp2
    go_loopw [5, 6] (fun iv jv wr => ∃ (i j : Nat) (R : List (Int × Value)), iv = .int .i64 (i : Int) ∧ jv = .int .i64 (j : Int) ∧ Hid (Kpt (fun r => !(r.1 == id)) l R i j) ∧ Hid (Own rpC M0 wr B 96 (.slice (some ⟨g, 0, none⟩) l.length c) R) ∧ Hid (w.grownBy wr (some g))) (fun _ jv _ => l.length - (intOf jv).toNat)
    case atStart => exact ⟨k0, k0 + 1, l, rfl, by go_num, Hst, Hown1, Hgr0⟩
    case round =>
      clear Hst Hown1 Hgr0 hb1
      obtain ⟨i, j, R, rfl, rfl, hkp, how, hgr⟩ := hrel
      have hij := hkp.out.ij
      have hjl := hkp.out.jl
      have hRl := hkp.out.len
      by_cases hlt : j < l.length
      · have hjR : j < R.length := by omega
        obtain ⟨g', c', hv, _, _, _, _, p0, p1, ho1, hb1, hb2, _⟩ := how.out.rpAt hjR
        injection hv with hv1 hv2 hv3
        injection hv1 with hv1
        injection hv1 with hv1
        subst hv1 hv3
        have hRj := hkp.out.dr j hlt hjR (Nat.le_refl _)
        obtain ⟨Ap, np, cp, hsp⟩ := hsh _ (List.getElem_mem hlt)
        have hcr : wr.cell? ⟨bc, 0, none⟩ = some (.int .i64 id) := by rw [← hc]; simp only [World.cell?, hgr.out.block bc (World.block_lt_of_cell? w _ hc) (fun e => hcn (show some g = some bc from e.symm))]
        obtain ⟨⟨pk, pv⟩, hp⟩ : ∃ p, l[j] = p := ⟨_, rfl⟩
        rw [hRj, hp] at p0 p1 ho1 hb1 hb2
        dsimp only at p0 p1 ho1 hb1 hb2
        rw [hp] at hsp
        dsimp only at hsp
        subst hsp
        obtain ⟨g8, V, hg8, hV, kb, hbV⟩ := new1 wr (.int .i64 pk) (Value.slice Ap np cp) 96
        have hcl := rem1_ok pk id (Value.slice Ap np cp) bc V (cell_ext hbV hcr)
        have Hcl := Lib.hid hcl; have Hp := Lib.hid hp; have Hv := Lib.hid (And.intro hv2 hRj); have Hbn := Lib.hid (And.intro ho1 (And.intro hb1 hb2))
        have hi0 : (0 : Int) ≤ (j : Int) := by omega
        have hi1 : (j : Int) < (l.length : Int) := by omega
        have hq1 : IntKind.i64.wrap (j : Int) = (j : Int) := IntWalk.i64_in _ (by omega)
        obtain ⟨f0, f1, _, _, _⟩ := kb.two
        have HV := Lib.hid (And.intro hV hg8)
        clear hcl hp hv2 hRj hV hg8 ho1 hb1 hb2 hcr
        go_wp2_with fail
        try rw [HV.out.1, HV.out.2]
        refine Hcl.out.mono ?_
        rintro e w2 ⟨rfl, hb2⟩
        have hb8 : Below wr.heap.size wr w2 := hbV.trans (hb2.mono hbV.size)
        have how2 := Lib.hid (how.out.ext hb8)
        have hgr2 := Lib.hid (gr_trans hgr.out (below_grown hb8 _))
        obtain ⟨f2, f3, _, _, _⟩ := (kb.ext hb2).two
        clear p0 p1 f0 f1 hb2 hbV kb Hcl how hgr
        cases hh : (((pk, (Value.slice Ap np cp)) : Int × Value).1 == id) with
        | true =>
          dsimp only at hh
          clear f2 f3
          go_wp2
          go_roundw
          case rel => exact ⟨i, j + 1, R, rfl, by go_num, Lib.hid (hkp.out.drop hlt (by rw [Hp.out]; simpa using hh)), how2, hgr2⟩
          case measure => simp [intOf]; omega
        | false =>
          dsimp only at hh
          obtain ⟨g', c', hv, _, _, _, _, y0, y1, _, _, _, hfz⟩ := how2.out.rpAt (k := i) (by omega)
          injection hv with hv1 hv2 hv3
          injection hv1 with hv1
          injection hv1 with hv1
          subst hv1 hv3
          have z0 := hfz (i * 2)
          have z1 := hfz (i * 2 + 1)
          have hii0 : (0 : Int) ≤ (i : Int) := by omega
          have hii1 : (i : Int) < (l.length : Int) := by omega
          have hq2 : IntKind.i64.wrap (i : Int) = (i : Int) := IntWalk.i64_in _ (by omega)
          clear hfz hv2 
          go_wp2
          go_roundw
          case rel => exact ⟨i + 1, j + 1, R.set i (pk, (Value.slice Ap np cp)), by go_num, by go_num, Lib.hid (by have h9 := hkp.out.keep hlt (by rw [Hp.out]; simpa using hh); rw [Hp.out] at h9; exact h9), Lib.hid (how2.out.putP2 (by omega) Hbn.out.2 Hbn.out.1), Lib.hid (gr_trans hgr2.out (gr_trans (gr_set _ _ _ _) (gr_set _ _ _ _)))⟩
          case measure => simp [intOf]; omega
      · obtain rfl : j = l.length := by omega
        obtain ⟨w9, hclr, hown9, hgr9⟩ := how.out.cutClear (t := 31) TPosts onePost rfl (i := i) (by omega)
        rw [hRl] at hclr
        rw [hkp.out.end_] at hown9
        have hlen : (l.filter fun r => !(r.1 == id)).length = i := by rw [← hkp.out.end_, List.length_take]; omega
        have Hf := Lib.hid (And.intro hown9 (gr_trans hgr.out hgr9))
        have j2 : (i : Int) ≤ (l.length : Int) := by omega
        have j3 : (l.length : Int) ≤ (c : Int) := by omega
        have j4 : ¬ c = i := by omega
        have j5 : i ≤ c := by omega
        have j6 : (0 : Int) ≤ (i : Int) := by omega
        clear hown9 hgr9 hlen how hgr
        go_wp2
        go_ret
        exact ⟨_, rfl, Hf.out.1, Hf.out.2, rfl⟩

set_option maxHeartbeats 4000000 in
theorem deleteFuncTerm_ok  (v : Value) (l : List (Str × Value)) (B : Nat) (w : World) (hown : Own rtC M0 w B 43 v l) (hBw : B ≤ w.heap.size) (hsh : ∀ r ∈ l, ∃ A n c, r.2 = .slice A n c) : Calls Tryz.prog 63 #[v, .func (.func 64) #[] #[]] w fun e w' =>
    ∃ v', e = .returned v' ∧ Own rtC M0 w' B 43 v' (l.filter fun r => !(valLen r.2 == 0)) ∧ w.grownBy w' v.ownBlock ∧ v'.ownBlock = v.ownBlock := by
  obtain ⟨A, c, rfl, hlc, hcm⟩ := hown.shape
  have hcm' := hcm
  unfold maxLen at hcm'
  have hif := indexFuncTerm_ok  (.slice A l.length c) l w hown.read0 hsh
  have Hif := Lib.hid hif; have Hown := Lib.hid hown
  clear hif hown
  go_enter Tryz.func63, Tryz.ntmps63
  go_wp2_with fail
  refine Hif.out.mono ?_
  rintro e w1 ⟨j0, rfl, hj, hb1⟩
  rcases hj with ⟨rfl, hno⟩ | ⟨k0, hk0, rfl, hyes, hno⟩
  · go_wp2
    go_ret
    have hfl : l.filter (fun r => !(valLen r.2 == 0)) = l := List.filter_eq_self.2 fun r hr => by rw [hno r hr]; rfl
    exact ⟨_, rfl, by rw [hfl]; exact Hown.out.ext hb1, below_grown hb1 _, rfl⟩
  · obtain ⟨g, c', cur, hv, _, _, hBg, hblk, _⟩ := (Hown.out.ext hb1).blk (by omega)
    injection hv with hv1 hv2 hv3
    subst hv1 hv3
    have hgl := hblk.lt
    have hk9 : ((k0 : Int) == -1) = false := beq_eq_false_iff_ne.2 (by omega)
    have hk8 : IntKind.i64.wrap ((k0 : Int) + 1) = ((k0 + 1 : Nat) : Int) := by rw [IntWalk.i64_in _ (by omega)]; omega
    have Hst := Lib.hid (Kpt.start (q := fun r => !(valLen r.2 == 0)) hk0 (fun m hm hmk => by rw [hno m hm hmk]; rfl) (by rw [hyes]; rfl))
    have Hgr0 : Hid (w.grownBy w1 (some g)) := Lib.hid (below_grown hb1 _)
    have Hown1 := Lib.hid (Hown.out.ext hb1)
    clear hblk hno hyes Hif
    go_wp2
    go_loopw [5, 6] (fun iv jv wr => ∃ (i j : Nat) (R : List (Str × Value)), iv = .int .i64 (i : Int) ∧ jv = .int .i64 (j : Int) ∧ Hid (Kpt (fun r => !(valLen r.2 == 0)) l R i j) ∧ Hid (Own rtC M0 wr B 43 (.slice (some ⟨g, 0, none⟩) l.length c) R) ∧ Hid (w.grownBy wr (some g))) (fun _ jv _ => l.length - (intOf jv).toNat)
    case atStart => exact ⟨k0, k0 + 1, l, rfl, by go_num, Hst, Hown1, Hgr0⟩
    case round =>
      clear Hst Hown1 Hgr0 hb1
      obtain ⟨i, j, R, rfl, rfl, hkp, how, hgr⟩ := hrel
      have hij := hkp.out.ij
      have hjl := hkp.out.jl
      have hRl := hkp.out.len
      by_cases hlt : j < l.length
      · have hjR : j < R.length := by omega
        obtain ⟨g', c', hv, _, _, _, _, p0, p1, ho1, hb, _⟩ := how.out.rtAt hjR
        injection hv with hv1 hv2 hv3
        injection hv1 with hv1
        injection hv1 with hv1
        subst hv1 hv3
        have hRj := hkp.out.dr j hlt hjR (Nat.le_refl _)
        obtain ⟨Ap, np, cp, hsp⟩ := hsh _ (List.getElem_mem hlt)
        obtain ⟨⟨pk, pv⟩, hp⟩ : ∃ p, l[j] = p := ⟨_, rfl⟩
        rw [hRj, hp] at p0 p1 ho1 hb
        dsimp only at p0 p1 ho1 hb
        rw [hp] at hsp
        dsimp only at hsp
        subst hsp
        obtain ⟨g8, V, hg8, hV, kb, hbV⟩ := new1 wr (.string (bs pk)) (Value.slice Ap np cp) 43
        have hcl := rem2_ok pk Ap np cp V
        have Hcl := Lib.hid hcl; have Hp := Lib.hid hp; have Hv := Lib.hid (And.intro hv2 hRj); have Hbn := Lib.hid (And.intro ho1 hb)
        have hi0 : (0 : Int) ≤ (j : Int) := by omega
        have hi1 : (j : Int) < (l.length : Int) := by omega
        have hq1 : IntKind.i64.wrap (j : Int) = (j : Int) := IntWalk.i64_in _ (by omega)
        obtain ⟨f0, f1, _, _, _⟩ := kb.two
        have HV := Lib.hid (And.intro hV hg8)
        clear hcl hp hv2 hRj hV hg8 ho1 hb
        go_wp2_with fail
        try rw [HV.out.1, HV.out.2]
        refine Hcl.out.mono ?_
        rintro e w2 ⟨rfl, hb2⟩
        have hb8 : Below wr.heap.size wr w2 := hbV.trans (hb2.mono hbV.size)
        have how2 := Lib.hid (how.out.ext hb8)
        have hgr2 := Lib.hid (gr_trans hgr.out (below_grown hb8 _))
        obtain ⟨f2, f3, _, _, _⟩ := (kb.ext hb2).two
        clear p0 p1 f0 f1 hb2 hbV kb Hcl how hgr
        cases hh : (valLen ((pk, (Value.slice Ap np cp)) : Str × Value).2 == 0) with
        | true =>
          dsimp only [valLen] at hh
          clear f2 f3
          go_wp2
          go_roundw
          case rel => exact ⟨i, j + 1, R, rfl, by go_num, Lib.hid (hkp.out.drop hlt (by rw [Hp.out]; simpa [valLen] using hh)), how2, hgr2⟩
          case measure => simp [intOf]; omega
        | false =>
          dsimp only [valLen] at hh
          obtain ⟨g', c', hv, _, _, _, _, y0, y1, _, _, hfz⟩ := how2.out.rtAt (k := i) (by omega)
          injection hv with hv1 hv2 hv3
          injection hv1 with hv1
          injection hv1 with hv1
          subst hv1 hv3
          have z0 := hfz (i * 2)
          have z1 := hfz (i * 2 + 1)
          have hii0 : (0 : Int) ≤ (i : Int) := by omega
          have hii1 : (i : Int) < (l.length : Int) := by omega
          have hq2 : IntKind.i64.wrap (i : Int) = (i : Int) := IntWalk.i64_in _ (by omega)
          clear hfz hv2 
          go_wp2
          go_roundw
          case rel => exact ⟨i + 1, j + 1, R.set i (pk, (Value.slice Ap np cp)), by go_num, by go_num, Lib.hid (by have h9 := hkp.out.keep hlt (by rw [Hp.out]; simpa [valLen] using hh); rw [Hp.out] at h9; exact h9), Lib.hid (how2.out.putT2 (by omega) Hbn.out.2 Hbn.out.1), Lib.hid (gr_trans hgr2.out (gr_trans (gr_set _ _ _ _) (gr_set _ _ _ _)))⟩
          case measure => simp [intOf]; omega
      · obtain rfl : j = l.length := by omega
        obtain ⟨w9, hclr, hown9, hgr9⟩ := how.out.cutClear (t := 23) TTerms oneTerm rfl (i := i) (by omega)
        rw [hRl] at hclr
        rw [hkp.out.end_] at hown9
        have hlen : (l.filter fun r => !(valLen r.2 == 0)).length = i := by rw [← hkp.out.end_, List.length_take]; omega
        have Hf := Lib.hid (And.intro hown9 (gr_trans hgr.out hgr9))
        have j2 : (i : Int) ≤ (l.length : Int) := by omega
        have j3 : (l.length : Int) ≤ (c : Int) := by omega
        have j4 : ¬ c = i := by omega
        have j5 : i ≤ c := by omega
        have j6 : (0 : Int) ≤ (i : Int) := by omega
        clear hown9 hgr9 hlen how hgr
        go_wp2
        go_ret
        exact ⟨_, rfl, Hf.out.1, Hf.out.2, rfl⟩

end Go.Proofs.YtfjpedgddgbelaaGreatDoor
