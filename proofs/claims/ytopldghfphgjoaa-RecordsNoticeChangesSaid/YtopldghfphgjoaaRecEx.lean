/-
  The example of the records' statements.
-/
import Derived.Test.YtopldghfphgjoaaRec7
import Derived.Lib.SmallJoins
namespace Go.Proofs.Ytopldghfphgjoaa
open Go.RowKit

def exRec : List UInt8 := [97, 98, 99]
def exLog : List UInt8 := [0, 3, 97, 98, 99, 0, 0, 0, 0, 0, 0, 0, 0]
theorem ex_sum : sumF [] = 14695981038468906945 := by decide +kernel
theorem ex_append : appendF [] exRec = (storedF exRec, 0, 0) := by decide +kernel
theorem ex_len : (storedF exRec).length = 13 := by decide +kernel
theorem ex_read : readF (storedF exRec ++ [1, 2]) = ([exRec], 13, 0, 0) := by decide +kernel
theorem ex_repair : repairF (storedF exRec ++ [1, 2]) = (storedF exRec, 0, 0) := by decide +kernel

theorem lit_els (M : Nat → Prop) (w : World) : ∀ l : List UInt8, Els byteC M w (l.map fun b => .int .u8 (b.toNat : Int)) l
  | [] => Els.nil _ _ _
  | b :: l => (Els.single (C := byteC) (cs := [.int .u8 (b.toNat : Int)]) rfl).append (lit_els M w l)

set_option maxRecDepth 20000 in
set_option maxHeartbeats 4000000 in
theorem example_ok (w : World) : Calls Try.prog 14 #[] w fun e w' => e = .returned (.bool true) ∧ Below w.heap.size w w' := by
  obtain ⟨X, hX⟩ : ∃ X, X = storedF exRec := ⟨_, rfl⟩
  have hlen : X.length = 13 := hX ▸ ex_len
  have ha := ex_append
  have hrd := ex_read
  have hrp := ex_repair
  rw [← hX] at ha hrd hrp
  have Hlen := Lib.hid hlen; have Ha := Lib.hid ha; have Hrd := Lib.hid hrd; have Hrp := Lib.hid hrp; have HX := Lib.hid hX
  clear ha hrd hrp hX hlen
  have hex : SlR byteC M0 (w.alloc (.cells #[.int .u8 97, .int .u8 98, .int .u8 99] 5 (3, 4))) (.slice (some ⟨w.heap.size, 0, none⟩) 3 3) exRec :=
    ⟨_, 3, 3, [.int .u8 97, .int .u8 98, .int .u8 99], rfl, rfl, Nat.le_refl _, by simp [maxLen], lit_els M0 _ exRec, fun _ => ⟨_, 0, rfl, fun h => h, by simp, fun j u hu => by
      rw [Nat.zero_add, World.cell?_alloc_mark]
      simpa using hu⟩⟩
  have hcv := Lib.run_convert_bytes_const (P := Try.prog) w 22 5 #[.int .u8 97, .int .u8 98, .int .u8 99] 3 3 Try.underlying22 Try.underlying5
  go_enter Try.func14, Try.ntmps14
  go_wp2_with (first
    | (go_at_call 11; refine (append_ok _ _ [] exRec _ (SlR.nil _ _ _) hex).mono ?_; rintro e w1 ⟨u, he, hown1, hb1⟩; rw [Ha.out] at he hown1; subst he; obtain ⟨A1, c1, rfl, _, _⟩ := hown1.shape)
    | (at_builtin; refine wpList_append_Own byteC (M := M0) (B := w1.heap.size + 1) (l := []) (l' := X) TBytes rfl (.const (.slice none 0 0)) (.tmp 15) rfl (v := .slice none 0 0) rfl (Own.nil _ _ _ _ _) rfl ?c1 ?c2 ?c3 ?c4 ?_))
  case c1 =>
    have h1 := ((hown1.read0.ext ((Below.refl _ _).alloc (Nat.le_refl _) (.cells #[.int .i64 0, .int .i64 0] 24))).sub (M' := fun b => M0 b ∨ (Value.slice none 0 0).ownBlock = some b) (fun b _ h => h.elim id (fun h => by simp [Value.ownBlock] at h)))
    exact h1
  case c2 => simp [maxLen, Hlen.out]
  case c3 => simp [Hlen.out]
  case c4 => simp
  have kE := Blk.new w1 24 #[.int .i64 0, .int .i64 0]
  intro A2 c2 L2 w2 hL2 hown2 hbl2 hgr2 _
  have hb2 : Below w1.heap.size w1 w2 := ((Below.refl _ _).alloc (Nat.le_refl _) _).trans (hbl2.mono (by omega))
  obtain rfl : L2 = X := by simpa using hL2.out
  have kE2 := kE.grown hgr2 (by simp [Value.ownBlock])
  have hlit2 : SlR byteC (fun b => M0 b ∨ (Value.slice A2 L2.length c2).ownBlock = some b) (w2.alloc (.cells #[.int .u8 1, .int .u8 2] 5)) (.slice (some ⟨w2.heap.size, 0, none⟩) 2 2) [1, 2] :=
    (Own.built (M := fun b => M0 b ∨ (Value.slice A2 L2.length c2).ownBlock = some b) (B := w2.heap.size) 5 (lit_els _ w2 [1, 2]) (Nat.le_refl _) (by simp [maxLen])).readB fun b hb => hb.elim (fun h => h.elim) (hown2.lt b)
  go_wp2_with (at_builtin; refine wpList_append_Own byteC (M := M0) (B := w1.heap.size + 1) (l := L2) (l' := [1, 2]) TBytes rfl (.tmp 16) (.tmp 17) rfl (v := .slice A2 L2.length c2) rfl (hown2.ext ((Below.refl _ _).alloc (Nat.le_refl _) _)) rfl hlit2 ?c2 ?c3 ?c4 ?_)
  case c2 => simp [maxLen, Hlen.out]
  case c3 => simp [Hlen.out]
  case c4 => have := kE2.lt; simp; omega
  intro A3 c3 L3 w3 hL3 hown3 hbl3 hgr3 _
  have hb3 : Below w1.heap.size w1 w3 := (hb2.alloc hb2.size _).trans (hbl3.mono (by omega))
  have kE3 := (kE2.alloc (.cells #[.int .u8 1, .int .u8 2] 5)).grown hgr3 (fun e => by have := hown2.base _ e.symm; have := kE.lt; omega)
  have hx3 : SlR byteC M0 w3 (.slice A3 L3.length c3) L3 := hown3.read0
  have hX1 : SlR byteC M0 w3 (.slice A1 L2.length c1) L2 := hown1.read0.ext hb3
  have Hk := Lib.hid kE3
  clear kE kE2 kE3 hcv hex hlit2
  go_wp2_with (first
    | (go_at_call 12; refine (read_ok _ _ _ hx3).mono ?_; rintro e w4 ⟨u4, he, hr4, hb4⟩; rw [hL3.out, Hrd.out] at he hr4; subst he; obtain ⟨A4, c4, rfl, _, _⟩ := hr4.form)
    | (at_builtin; refine wpList_append_Own byteC (M := M0) (B := w4.heap.size + 1) (l := []) (l' := L2) TBytes rfl (.const (.slice none 0 0)) (.tmp 24) rfl (v := .slice none 0 0) rfl (Own.nil _ _ _ _ _) rfl ?c1 ?c2 ?c3 ?c4 ?_))
  case c1 =>
    exact ((hX1.ext (hb4.alloc hb4.size (.cells #[.int .i64 0, .int .i64 0] 24))).sub (M' := fun b => M0 b ∨ (Value.slice none 0 0).ownBlock = some b) (fun b _ h => h.elim id (fun h => by simp [Value.ownBlock] at h)))
  case c2 => simp [maxLen, Hlen.out]
  case c3 => simp [Hlen.out]
  case c4 => simp
  intro A5 c5 L5 w5 hL5 hown5 hbl5 hgr5 _
  have hb5 : Below w4.heap.size w4 w5 := ((Below.refl _ _).alloc (Nat.le_refl _) _).trans (hbl5.mono (by omega))
  have hlit5 : SlR byteC (fun b => M0 b ∨ (Value.slice A5 L5.length c5).ownBlock = some b) (w5.alloc (.cells #[.int .u8 1, .int .u8 2] 5)) (.slice (some ⟨w5.heap.size, 0, none⟩) 2 2) [1, 2] :=
    (Own.built (M := fun b => M0 b ∨ (Value.slice A5 L5.length c5).ownBlock = some b) (B := w5.heap.size) 5 (lit_els _ w5 [1, 2]) (Nat.le_refl _) (by simp [maxLen])).readB fun b hb => hb.elim (fun h => h.elim) (hown5.lt b)
  have kG := (Blk.new w4 24 #[.int .i64 0, .int .i64 0]).grown hgr5 (by simp [Value.ownBlock])
  go_wp2_with (at_builtin; refine wpList_append_Own byteC (M := M0) (B := w4.heap.size + 1) (l := L5) (l' := [1, 2]) TBytes rfl (.tmp 25) (.tmp 26) rfl (v := .slice A5 L5.length c5) rfl (hown5.ext ((Below.refl _ _).alloc (Nat.le_refl _) _)) rfl hlit5 ?c2 ?c3 ?c4 ?_)
  case c2 => rw [hL5.out]; simp [maxLen, Hlen.out]
  case c3 => rw [hL5.out]; simp [Hlen.out]
  case c4 => have := kG.lt; simp; omega
  intro A6 c6 L6 w6 hL6 hown6 hbl6 hgr6 _
  have hb6 : Below w4.heap.size w4 w6 := (hb5.alloc hb5.size _).trans (hbl6.mono (by omega))
  have kG6 := (kG.alloc (.cells #[.int .u8 1, .int .u8 2] 5)).grown hgr6 (fun e => by have := hown5.base _ e.symm; have := kG.lt; omega)
  have hx6 : SlR byteC M0 w6 (.slice A6 L6.length c6) L6 := hown6.read0
  have Hk6 := Lib.hid kG6
  clear kG kG6 hlit5
  have h6e : L6 = L2 ++ [1, 2] := hL6.out.trans (by rw [hL5.out])
  have H6 := Lib.hid h6e
  clear h6e
  go_wp2_with (first
    | (go_at_call 13; refine (repair_ok _ _ _ hx6).mono ?_; rintro e w7 ⟨u7, he, hown7, hb7⟩; rw [H6.out, Hrp.out] at he hown7; subst he; obtain ⟨A7, c7, rfl, _, _⟩ := hown7.shape)
    | (go_at_call 15; fail))
  obtain ⟨w8, hw8⟩ : ∃ w8, w8 = w7.alloc (.cells #[.int .i64 0, .int .i64 0] 24) := ⟨_, rfl⟩
  rw [← hw8]
  have b78 : Below w7.heap.size w7 w8 := hw8 ▸ (Below.refl _ _).alloc (Nat.le_refl _) _
  have b68 : Below w6.heap.size w6 w8 := below2 hb7 b78
  have b48 : Below w4.heap.size w4 w8 := below2 hb6 b68
  have b38 : Below w3.heap.size w3 w8 := below2 hb4 b48
  have m7 : Blk w8 w7.heap.size 24 #[.int .i64 0, .int .i64 0] := hw8 ▸ Blk.new _ _ _
  have m4 := Hk6.out.ext b68
  have m1 := Hk.out.ext b38
  obtain ⟨p0, p1, _, _, _⟩ := m7.two
  obtain ⟨q0, q1, _, _, _⟩ := m4.two
  obtain ⟨r0, r1, _, _, _⟩ := m1.two
  have hX8 := hX1.ext b38
  have hR8 := hown7.read0.ext b78
  obtain ⟨b, off, A9, c9, rfl, _, hcell, h9⟩ := (hr4.ext b48).slice1 (k := 0) (by simp)
  have hcv9 := run_convert_SlR (P := Try.prog) (src := 22) (dst := 9) Try.underlying22 Try.underlying5 Try.underlying9 h9
  have hb8 : Below w.heap.size w w8 := by
    have g1 : Below w.heap.size w w1 := ((Below.refl _ _).alloc (Nat.le_refl _) _).trans (hb1.mono (by simp))
    exact below2 g1 (below2 hb3 b38)
  have hsum0 : Calls Try.prog 15 #[.slice none 0 0] w8 fun e w' => e = .returned (.int .u64 14695981038468906945) ∧ w8 = w' :=
    (sum_ok M0 _ [] w8 (SlR.nil _ _ _) (by simp)).mono fun e w' hh => ⟨by rw [hh.1, ex_sum]; rfl, hh.2⟩
  have Hsum0 := Lib.hid hsum0
  have Hhr4 := Lib.hid hr4
  have hl9 : [exRec][0].length = 3 := rfl
  rw [hl9] at hcell h9 hcv9
  rw [Nat.add_zero] at hcell
  have he9 : [exRec][0] = exRec := rfl
  rw [he9] at hcv9
  have hsm := same_ok M0 _ _ L2 L2 w8 hR8 hX8
  have Hsm := Lib.hid hsm
  clear hsum0 hr4 hl9 he9 hsm hw8 h9 hR8 hX8
  refine Hsum0.out.mono ?_
  rintro e w9 ⟨rfl, rfl⟩
  go_wp2_with fail
  all_goals first | (exfalso; have := Hlen.out; omega) | skip
  refine Hsm.out.mono ?_
  rintro e w9 ⟨rfl, rfl⟩
  go_wp2
  go_ret
  exact ⟨by simp, hb8⟩
end Go.Proofs.Ytopldghfphgjoaa
