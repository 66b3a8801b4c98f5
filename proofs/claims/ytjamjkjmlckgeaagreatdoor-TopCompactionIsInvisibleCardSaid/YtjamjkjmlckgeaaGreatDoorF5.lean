/-
  Contracts and plain facts, one after another: strings.IndexRune in three bytes of ASCII, at a rune that is none; Whether a text has the end of a line in it.
-/
import Derived.Test.YtjamjkjmlckgeaaGreatDoorF3
import Derived.Test.YtjamjkjmlckgeaaGreatDoorShelf
import Derived.Test.YtjamjkjmlckgeaaGreatDoorF4
import Derived.Laws.RangeAny
import Derived.Laws.Runes
import Derived.WalkMore
import Derived.Lib.DecodeN
import Derived.Lib.OthersKept
namespace Go.Proofs.YtjamjkjmlckgeaaGreatDoor
open Go.RowKit

def crlf0 : List UInt8 := [13, 10, 0]
theorem below_iter {B : Nat} {w : World} (hB : B ≤ w.heap.size) (s : ByteArray) (p : Nat) : Below B w (w.iter s p) := (Below.refl _ _).alloc hB _
set_option maxRecDepth 1000000 in
theorem irune_err (w : World) : Calls Tryz.prog 176 #[.string (bs crlf0), .int .i32 65533] w fun e w' => e = .returned (.int .i64 (-1)) ∧ Below w.heap.size w w' := by
  go_enter Tryz.func176, Tryz.ntmps176
  go_wp2_with fail
  go_loopg [5, 6] 3 (fun g _ _ wx => ∃ i : Nat, i + g = 3 ∧ wx = w.iter (bs crlf0) i)
  case atStart => exact ⟨0, rfl, rfl⟩
  case round =>
    obtain ⟨i, hig, rfl⟩ := hrel
    cases gk with
    | zero =>
      obtain rfl : i = 3 := by omega
      have hnx := fun ty => run_next_end (P := Tryz.prog) w (bs crlf0) 3 ty (by decide)
      go_wp2
      go_ret
      exact ⟨rfl, below_iter (Nat.le_refl _) _ _⟩
    | succ g =>
      obtain ⟨x, hx, hx2⟩ : ∃ x : Nat, x < 128 ∧ ∀ ty, (Instr.next (.pointer (some ⟨w.heap.size, 0, none⟩)) true ty).run Tryz.prog (w.iter (bs crlf0) i) = .ok (.tuple #[.bool true, .int .i64 i, .int .i32 (x : Int)]) (w.iter (bs crlf0) (i + 1)) := by
        have h3 : (bs crlf0).size = 3 := rfl
        have hi : i < (bs crlf0).size := by omega
        have ha : ((bs crlf0)[i]'hi).toNat < 128 := by
          have hall : ∀ j : Fin 3, (crlf0[j.val]'j.isLt).toNat < 128 := by decide
          exact hall ⟨i, by omega⟩
        exact ⟨_, ha, fun ty => run_next_ascii (P := Tryz.prog) w (bs crlf0) i ty hi ha⟩
      have hne : ((x : Int) == 65533) = false := by rw [beq_eq_false_iff_ne]; omega
      go_wp2
      go_roundg g
      case measure => omega
      case rel => exact ⟨i + 1, by omega, rfl⟩
set_option maxRecDepth 1000000 in
theorem irune_no (r : Int) (h : 128 ≤ r) (hne : (r == 65533) = false) (hv : Lib.validRune r = false) (w : World) : Calls Tryz.prog 176 #[.string (bs crlf0), .int .i32 r] w fun e w' => e = .returned (.int .i64 (-1)) ∧ Below w.heap.size w w' := by
  go_enter Tryz.func176, Tryz.ntmps176
  go_wp2_with (go_at_call 181; refine (Tryz.utf8_ValidRune _ _).mono ?_; rintro e w1 ⟨rfl, rfl⟩; rw [hv])
  go_ret
  exact ⟨rfl, Below.refl _ _⟩
theorem crlf0_no {x : UInt8} (h : 128 ≤ x.toNat) : ∀ k, Lib.indexByte (crlf0.drop k) x = -1 := by
  intro k
  have h13 : ((13 : UInt8) == x) = false := by rw [beq_eq_false_iff_ne]; rintro rfl; simp at h
  have h10 : ((10 : UInt8) == x) = false := by rw [beq_eq_false_iff_ne]; rintro rfl; simp at h
  have h0 : ((0 : UInt8) == x) = false := by rw [beq_eq_false_iff_ne]; rintro rfl; simp at h
  match k with
  | 0 => simp [crlf0, Lib.indexByte, h13, h10, h0]
  | 1 => simp [crlf0, Lib.indexByte, h10, h0]
  | 2 => simp [crlf0, Lib.indexByte, h0]
  | k + 3 => simp [crlf0, Lib.indexByte]
set_option maxRecDepth 1000000 in
theorem irune_yes (r : Int) (h : 128 ≤ r) (hne : (r == 65533) = false) (hv : Lib.validRune r = true) (w : World) : Calls Tryz.prog 176 #[.string (bs crlf0), .int .i32 r] w fun e w' => e = .returned (.int .i64 (-1)) ∧ Below w.heap.size w w' := by
  have hv2 : Utf8.valid r = true := by
    unfold Lib.validRune at hv
    unfold Utf8.valid
    simp only [decide_eq_true_eq, Bool.or_eq_true, Bool.and_eq_true] at hv ⊢
    omega
  obtain ⟨f1, f2, f3⟩ := encode_facts r hv2 h
  obtain ⟨rs, hrs⟩ : ∃ rs, rs = Utf8.encode r := ⟨_, rfl⟩
  have hcv : ∀ W, (convert 21 9 (.int .i32 r)).run Tryz.prog W = .ok (.string rs) W := fun W => by
    rw [hrs]
    simp [convert, go_sem, Conv.intToString]
  rw [← hrs] at f1 f2 f3
  obtain ⟨n, hn⟩ : ∃ n, rs.size = n + 1 := ⟨rs.size - 1, by omega⟩
  have hlt : n < rs.size := by omega
  obtain ⟨x, hx⟩ : ∃ x, x = rs[n] := ⟨_, rfl⟩
  have hx8 : 128 ≤ x.toNat := by
    have := f3 (by omega)
    simp only [hn, Nat.add_sub_cancel] at this
    rw [hx]
    exact this
  clear f3 hrs hv2
  have hcases : n = 1 ∨ n = 2 ∨ n = 3 := by omega
  have hno := crlf0_no hx8
  have Hno := Lib.hid hno
  clear hno f1 f2
  rcases hcases with rfl | rfl | rfl
  all_goals
    go_enter Tryz.func176, Tryz.ntmps176
    go_wp2_with (go_at_call 181; refine (Tryz.utf8_ValidRune _ _).mono ?_; rintro e w1 ⟨rfl, rfl⟩; rw [hv])
  all_goals go_step3
  · go_wp2_with fail
    go_loop [9] (fun i => i = .int .i64 1) (fun _ => 0)
    case atStart => rfl
    case round =>
      obtain rfl := hrel
      have b1 : (((crlf0[1]'(by decide)).toNat : Int) != (rs[1].toNat : Int)) = true := by
        rw [← hx, bne_iff_ne]
        show (10 : Int) ≠ _
        omega
      have H1 : ∀ W, Calls Tryz.prog 180 #[.string (bs (List.take (crlf0.length - 2) (List.drop 2 crlf0))), .int .u8 (rs[1].toNat : Int)] W fun e w' => e = .returned (.int .i64 (-1)) ∧ w' = W := fun W => by
        refine (Tryz.strings_IndexByte _ _ _).mono ?_
        rintro e w' ⟨rfl, rfl⟩
        refine ⟨?_, rfl⟩
        rw [← hx]
        have := Hno.out 2
        simp only [Int.toNat_natCast]
        rw [show (x.toNat).toUInt8 = x from by simp]
        rw [show (bs (List.take (crlf0.length - 2) (List.drop 2 crlf0))).data.toList = crlf0.drop 2 from rfl, this]
      have H1 := Lib.hid H1
      have w2 : IntKind.i64.wrap 2 = 2 := by decide
      have z2 : (2 : Int) ≤ (crlf0.length : Int) := by decide
      clear hx
      go_wp2_with fail
      go_step3
      go_wp2_with fail
      go_region
      generalize hwd : w1.drew = wd
      go_wp2_with fail
      go_quiet ((go_at_call 180; exact Calls.quiet_of_same (H1.out _)))
      go_wp2
      rw [Exit.noGoto_ret]
      simp +zetaDelta only [Exit.inBlock, Exit.then, Exit.noGoto]
      go_ret
      subst hwd
      exact ⟨rfl, ⟨rfl, rfl, rfl, Nat.le_refl _, fun _ _ => rfl⟩⟩
  · go_wp2_with fail
    go_loop [9] (fun i => i = .int .i64 2) (fun _ => 0)
    case atStart => rfl
    case round =>
      obtain rfl := hrel
      have b1 : (((crlf0[2]'(by decide)).toNat : Int) != (rs[2].toNat : Int)) = true := by
        rw [← hx, bne_iff_ne]
        show (0 : Int) ≠ _
        omega
      have H1 : ∀ W, Calls Tryz.prog 180 #[.string (bs (List.take (crlf0.length - 3) (List.drop 3 crlf0))), .int .u8 (rs[2].toNat : Int)] W fun e w' => e = .returned (.int .i64 (-1)) ∧ w' = W := fun W => by
        refine (Tryz.strings_IndexByte _ _ _).mono ?_
        rintro e w' ⟨rfl, rfl⟩
        refine ⟨?_, rfl⟩
        rw [← hx]
        have := Hno.out 3
        simp only [Int.toNat_natCast]
        rw [show (x.toNat).toUInt8 = x from by simp]
        rw [show (bs (List.take (crlf0.length - 3) (List.drop 3 crlf0))).data.toList = crlf0.drop 3 from rfl, this]
      have H1 := Lib.hid H1
      have w2 : IntKind.i64.wrap 3 = 3 := by decide
      have z2 : (3 : Int) ≤ (crlf0.length : Int) := by decide
      clear hx
      go_wp2_with fail
      go_step3
      go_wp2_with fail
      go_region
      generalize hwd : w1.drew = wd
      go_wp2_with fail
      go_quiet ((go_at_call 180; exact Calls.quiet_of_same (H1.out _)))
      go_wp2
      rw [Exit.noGoto_ret]
      simp +zetaDelta only [Exit.inBlock, Exit.then, Exit.noGoto]
      go_ret
      subst hwd
      exact ⟨rfl, ⟨rfl, rfl, rfl, Nat.le_refl _, fun _ _ => rfl⟩⟩
  · go_wp2_with fail
    go_loop [9] (fun i => i = .int .i64 3) (fun _ => 0)
    case atStart => rfl
    case round =>
      obtain rfl := hrel
      go_wp2
      go_ret
      exact ⟨rfl, Below.refl _ _⟩
theorem irune_ok (r : Int) (h : 128 ≤ r) (w : World) : Calls Tryz.prog 176 #[.string (bs crlf0), .int .i32 r] w fun e w' => e = .returned (.int .i64 (-1)) ∧ Below w.heap.size w w' := by
  by_cases h1 : r = 65533
  · subst h1
    exact irune_err w
  · have hne : (r == 65533) = false := by simpa using h1
    cases hv : Lib.validRune r with
    | false => exact irune_no r h hne hv w
    | true => exact irune_yes r h hne hv w
/-! ### a rune's bytes -/
theorem decodeN_high (n b0 b1 b2 b3 : Nat) (h : 128 ≤ b0) (hn : 1 ≤ n) :
    128 ≤ (Lib.decodeN n b0 b1 b2 b3).1 ∧ 1 ≤ (Lib.decodeN n b0 b1 b2 b3).2 ∧ (Lib.decodeN n b0 b1 b2 b3).2 ≤ n ∧ (2 ≤ (Lib.decodeN n b0 b1 b2 b3).2 → 128 ≤ b1) ∧ (3 ≤ (Lib.decodeN n b0 b1 b2 b3).2 → 128 ≤ b2) ∧ (4 ≤ (Lib.decodeN n b0 b1 b2 b3).2 → 128 ≤ b3) ∧ (Lib.decodeN n b0 b1 b2 b3).2 ≤ 4 := by
  unfold Lib.decodeN
  rw [if_neg (by omega)]
  split
  · split <;> dsimp only <;> omega
  · split
    · split <;> dsimp only <;> omega
    · split
      · split <;> dsimp only <;> omega
      · dsimp only; omega
end Go.Proofs.YtjamjkjmlckgeaaGreatDoor
namespace Go.Proofs.YtjamjkjmlckgeaaGreatDoor
open Go.RowKit

def isE (c : UInt8) : Bool := c == 13 || (c == 10 || c == 0)
theorem isE_high {c : UInt8} (h : 128 ≤ c.toNat) : isE c = false := by
  have h13 : (c == 13) = false := by rw [beq_eq_false_iff_ne]; rintro rfl; simp at h
  have h10 : (c == 10) = false := by rw [beq_eq_false_iff_ne]; rintro rfl; simp at h
  have h0 : (c == 0) = false := by rw [beq_eq_false_iff_ne]; rintro rfl; simp at h
  rw [isE, h13, h10, h0]
  rfl
theorem isE_index (c : UInt8) : decide (0 ≤ Lib.indexByte crlf0 c) = isE c := by
  by_cases h13 : c = 13
  · subst h13; rfl
  by_cases h10 : c = 10
  · subst h10; rfl
  by_cases h0 : c = 0
  · subst h0; rfl
  have e13 : ((13 : UInt8) == c) = false := by rw [beq_eq_false_iff_ne]; exact fun e => h13 e.symm
  have e10 : ((10 : UInt8) == c) = false := by rw [beq_eq_false_iff_ne]; exact fun e => h10 e.symm
  have e0 : ((0 : UInt8) == c) = false := by rw [beq_eq_false_iff_ne]; exact fun e => h0 e.symm
  have h : isE c = false := by
    unfold isE
    rw [beq_eq_false_iff_ne.2 h13, beq_eq_false_iff_ne.2 h10, beq_eq_false_iff_ne.2 h0]
    rfl
  rw [h]
  simp [crlf0, Lib.indexByte, e13, e10, e0]
theorem get_bs (s : Str) (i : Nat) : (bs s).get! i = s.getD i 0 := by
  show (s.toArray)[i]! = _
  simp [List.getD]
  rfl
theorem dec_low (s : Str) (i : Nat) (hi : i < s.length) (h : s[i].toNat < 128) : Utf8.decode (bs s) i = (s[i].toNat, 1) := by
  rw [Lib.decode_at, get_bs, show s.getD i 0 = s[i] from (List.getElem_eq_getD 0).symm]
  unfold Lib.decodeN
  rw [if_pos h]
theorem dec_high (s : Str) (i : Nat) (hi : i < s.length) (h : 128 ≤ s[i].toNat) : 128 ≤ (Utf8.decode (bs s) i).1 ∧ 1 ≤ (Utf8.decode (bs s) i).2 ∧ i + (Utf8.decode (bs s) i).2 ≤ s.length ∧ ∀ j, i ≤ j → j < i + (Utf8.decode (bs s) i).2 → 128 ≤ (s.getD j 0).toNat := by
  have h0 : s.getD i 0 = s[i] := (List.getElem_eq_getD 0).symm
  have hs : (bs s).size = s.length := by simp [bs, ByteArray.size]
  obtain ⟨a, b, c, d1, d2, d3, d4⟩ := decodeN_high ((bs s).size - i) ((bs s).get! i).toNat ((bs s).get! (i + 1)).toNat ((bs s).get! (i + 2)).toNat ((bs s).get! (i + 3)).toNat (by rw [get_bs, h0]; exact h) (by omega)
  rw [← Lib.decode_at] at a b c d1 d2 d3 d4
  rw [get_bs] at d1 d2 d3
  refine ⟨a, b, by omega, fun j h1 h2 => ?_⟩
  have : j = i ∨ j = i + 1 ∨ j = i + 2 ∨ j = i + 3 := by omega
  rcases this with rfl | rfl | rfl | rfl
  · rw [h0]; exact h
  · exact d1 (by omega)
  · exact d2 (by omega)
  · exact d3 (by omega)
def clear (s : Str) (i : Nat) : Prop := ∀ j, j < i → j < s.length → isE (s.getD j 0) = false
theorem clear_all {s : Str} (h : clear s s.length) : Mb.endsF s = false := by
  unfold Mb.endsF
  rw [List.any_eq_false]
  intro x hx
  obtain ⟨i, hi, rfl⟩ := List.getElem_of_mem hx
  have := h i hi hi
  rw [show s.getD i 0 = s[i] from (List.getElem_eq_getD 0).symm] at this
  unfold isE at this
  simpa using this
theorem clear_hit {s : Str} {i : Nat} (hi : i < s.length) (h : isE s[i] = true) : Mb.endsF s = true := by
  unfold Mb.endsF
  rw [List.any_eq_true]
  exact ⟨s[i], List.getElem_mem hi, h⟩
theorem below_iterAt {B : Nat} {w wx : World} (h : Below B w wx) {k : Nat} (hk : B ≤ k) (s : ByteArray) (p : Nat) : Below B w (Go.World.iterAt wx k s p) := by
  refine ⟨h.os, h.tape, h.output, ?_, fun j hj => ?_⟩
  · simp only [World.iterAt, Array.size_setIfInBounds]
    exact h.size
  · rw [← h.block j hj]
    simp only [World.iterAt]
    rw [Array.getElem?_setIfInBounds_ne (by omega)]
set_option maxRecDepth 1000000 in
set_option maxHeartbeats 1000000 in
theorem iany_short (s : Str) (h8 : s.length ≤ 8) (w : World) : Calls Tryz.prog 173 #[.string (bs s), .string (bs crlf0)] w fun e w' => ∃ n : Int, e = .returned (.int .i64 n) ∧ decide (0 ≤ n) = Mb.endsF s ∧ Below w.heap.size w w' := by
  have h8z : decide ((8 : Int) < (s.length : Int)) = false := decide_eq_false (by omega)
  have hs : (bs s).size = s.length := by simp [bs, ByteArray.size]
  go_enter Tryz.func173, Tryz.ntmps173
  go_wp2_with (go_at_call 177; refine (Tryz.strings_shouldUseASCIISet _ _).mono ?_; rintro e w' ⟨rfl, hw⟩; rw [hw, h8z])
  go_loopg [9, 10] s.length (fun g _ _ wx => ∃ i : Nat, i ≤ s.length ∧ s.length ≤ i + g ∧ wx.heap[w.heap.size]? = some (.stringIter (bs s) i) ∧ Below w.heap.size w wx ∧ Hid (clear s i))
  case atStart => exact ⟨0, by omega, by omega, World.iter_heap _ _ _, below_iter (Nat.le_refl _) _ _, Lib.hid fun j hj => absurd hj (by omega)⟩
  case round =>
    obtain ⟨i, hi, hig, hit, hb, hcl⟩ := hrel
    by_cases hlt : i < s.length
    · cases gk with
      | zero => exact absurd hig (by omega)
      | succ g =>
        have h0 : s.getD i 0 = s[i] := (List.getElem_eq_getD 0).symm
        obtain ⟨x, hx⟩ : ∃ x, x = s[i] := ⟨_, rfl⟩
        by_cases hl : x.toNat < 128
        · have hd := dec_low s i hlt (hx ▸ hl)
          have hnx := fun ty => Lib.run_next_any_at (P := Tryz.prog) wr w.heap.size (bs s) i ty hit (by rw [hs]; exact hlt)
          rw [hd, ← hx] at hnx
          obtain ⟨W1, hW1⟩ : ∃ W1, W1 = wr.iterAt w.heap.size (bs s) (i + 1) := ⟨_, rfl⟩
          have hb1 : Below w.heap.size w W1 := hW1 ▸ below_iterAt hb (Nat.le_refl _) _ _
          have hit1 : W1.heap[w.heap.size]? = some (.stringIter (bs s) (i + 1)) := by rw [hW1]; exact Lib.iterAt_heap wr _ _ _ _ hit
          dsimp only at hnx
          rw [← hW1] at hnx
          have hback : ((x.toNat : Int)).toNat.toUInt8 = x := by simp
          have hcl2 : isE x = false → clear s (i + 1) := fun hf j hj hjl => by
            by_cases e : j = i
            · subst e; rw [h0, ← hx]; exact hf
            · exact hcl.out j (by omega) hjl
          have hhit : isE x = true → Mb.endsF s = true := fun ht => clear_hit hlt (hx ▸ ht)
          have Hcl2 := Lib.hid hcl2; have Hhit := Lib.hid hhit
          have hix := isE_index x
          clear hW1 hd hcl2 hhit h0 hx
          cases hin : isE x with
          | false =>
            rw [hin] at hix
            have hneg : ¬ (0 : Int) ≤ Lib.indexByte crlf0 x := of_decide_eq_false hix
            have Hin := Lib.hid hin
            clear hix hin
            go_wp2_with (go_at_call 176; refine (Tryz.strings_IndexRune_ascii _ _ _ (by omega) (by omega)).mono ?_; rintro e w' ⟨rfl, rfl⟩; rw [hback])
            go_roundg g
            case measure => omega
            case rel => exact ⟨i + 1, by omega, by omega, hit1, hb1, Lib.hid (Hcl2.out Hin.out)⟩
          | true =>
            rw [hin] at hix
            have hpos : (0 : Int) ≤ Lib.indexByte crlf0 x := of_decide_eq_true hix
            have Hin := Lib.hid hin
            clear hix hin
            go_wp2_with (go_at_call 176; refine (Tryz.strings_IndexRune_ascii _ _ _ (by omega) (by omega)).mono ?_; rintro e w' ⟨rfl, rfl⟩; rw [hback])
            go_ret
            exact ⟨_, rfl, by rw [Hhit.out Hin.out]; exact decide_eq_true (by omega), hb1⟩
        · obtain ⟨d1, d2, d3, d4⟩ := dec_high s i hlt (by rw [← hx]; omega)
          have hnx := fun ty => Lib.run_next_any_at (P := Tryz.prog) wr w.heap.size (bs s) i ty hit (by rw [hs]; exact hlt)
          obtain ⟨r, hr⟩ : ∃ r, r = (Utf8.decode (bs s) i).1 := ⟨_, rfl⟩
          obtain ⟨k, hk⟩ : ∃ k, k = (Utf8.decode (bs s) i).2 := ⟨_, rfl⟩
          rw [← hr] at d1
          rw [← hk] at d2 d3 d4
          rw [← hr, ← hk] at hnx
          obtain ⟨W1, hW1⟩ : ∃ W1, W1 = wr.iterAt w.heap.size (bs s) (i + k) := ⟨_, rfl⟩
          have hb1 : Below w.heap.size w W1 := hW1 ▸ below_iterAt hb (Nat.le_refl _) _ _
          have hit1 : W1.heap[w.heap.size]? = some (.stringIter (bs s) (i + k)) := by rw [hW1]; exact Lib.iterAt_heap wr _ _ _ _ hit
          have hsz : w.heap.size < W1.heap.size := (Array.getElem?_eq_some_iff.1 hit1).1
          rw [← hW1] at hnx
          have hcl2 : clear s (i + k) := fun j hj hjl => by
            by_cases e : j < i
            · exact hcl.out j e hjl
            · exact isE_high (d4 j (by omega) hj)
          have Hcl2 := Lib.hid hcl2
          have hir := irune_ok (r : Int) (by omega) W1
          have Hir := Lib.hid hir
          clear hW1 hcl2 h0 d4 hr hk hir hl hx
          go_wp2_with fail
          refine Hir.out.mono ?_
          rintro e W2 ⟨rfl, hb2⟩
          go_wp2
          go_roundg g
          case measure => omega
          case rel => exact ⟨i + k, by omega, by omega, (hb2.block _ hsz).trans hit1, hb1.trans (hb2.mono hb1.size), Hcl2⟩
    · obtain rfl : i = s.length := by omega
      have hnx := fun ty => Lib.run_next_end_at (P := Tryz.prog) wr w.heap.size (bs s) s.length ty hit (by rw [hs]; omega)
      have Hne := Lib.hid (clear_all hcl.out)
      go_wp2
      go_ret
      exact ⟨_, rfl, by rw [Hne.out]; rfl, hb⟩
theorem indexAny_ends : ∀ s : Str, decide (0 ≤ Lib.indexAny s crlf0) = Mb.endsF s
  | [] => rfl
  | c :: s => by
    have ih := indexAny_ends s
    have hge := Lib.indexAny_ge crlf0 s
    have hc : crlf0.contains c = isE c := by
      unfold crlf0 isE
      simp only [List.contains_cons, List.contains_nil, Bool.or_false]
    unfold Lib.indexAny
    rw [hc]
    show _ = (isE c || Mb.endsF s)
    rw [← ih]
    cases isE c with
    | true => rfl
    | false =>
      rw [if_neg (by simp)]
      by_cases h : Lib.indexAny s crlf0 = -1
      · rw [h]; rfl
      · rw [if_neg (by simpa using h), Bool.false_or]
        congr 1
        rw [eq_iff_iff]
        omega
theorem set_zero : ∀ w, (zeroValue 246).run Tryz.prog w = .ok (.agg (Array.replicate 256 (.bool false))) w := (zero_of_info (n := 256) (by kernel_rfl)).1
theorem iany_ok (s : Str) (hs : s.length ≤ 4000) (w : World) : Calls Tryz.prog 173 #[.string (bs s), .string (bs crlf0)] w fun e w' => ∃ n : Int, e = .returned (.int .i64 n) ∧ decide (0 ≤ n) = Mb.endsF s ∧ Below w.heap.size w w' := by
  by_cases h8 : s.length ≤ 8
  · exact iany_short s h8 w
  · have hz : (bs s).size = s.length := by simp [bs, ByteArray.size]
    refine (Tryz.strings_IndexAny_long set_zero (bs s) (bs crlf0) w (by decide) (by omega) (by omega) (by decide) ?_).mono ?_
    · intro j b hb
      have : b ∈ crlf0 := List.mem_of_getElem? hb
      simp only [crlf0, List.mem_cons, List.not_mem_nil, or_false] at this
      rcases this with rfl | rfl | rfl <;> decide
    · rintro e w' ⟨rfl, rfl⟩
      exact ⟨_, rfl, indexAny_ends s, ((Below.refl _ _).alloc (Nat.le_refl _) _).alloc (by simp) _⟩
theorem cany_ok (s : Str) (hs : s.length ≤ 4000) (w : World) : Calls Tryz.prog 164 #[.string (bs s), .string (bs crlf0)] w fun e w' => e = .returned (.bool (Mb.endsF s)) ∧ Below w.heap.size w w' := by
  have h := iany_ok s hs w
  have H := Lib.hid h
  clear h
  go_enter Tryz.func164, Tryz.ntmps164
  go_wp2_with fail
  refine H.out.mono ?_
  rintro e w1 ⟨n, rfl, hn, hb⟩
  have Hn := Lib.hid hn
  clear hn
  go_wp2
  go_ret
  exact ⟨by rw [← Hn.out]; rfl, hb⟩
theorem ends_ok (s : Str) (hs : s.length ≤ 4000) (w : World) : Calls Tryz.prog 149 #[.string (bs s)] w fun e w' => e = .returned (.bool (Mb.endsF s)) ∧ Below w.heap.size w w' := by
  have h := cany_ok s hs w
  have H := Lib.hid h
  clear h
  go_enter Tryz.func149, Tryz.ntmps149
  go_wp2_with fail
  refine H.out.mono ?_
  rintro e w1 ⟨rfl, hb⟩
  go_wp2
  go_ret
  exact ⟨rfl, hb⟩
end Go.Proofs.YtjamjkjmlckgeaaGreatDoor
