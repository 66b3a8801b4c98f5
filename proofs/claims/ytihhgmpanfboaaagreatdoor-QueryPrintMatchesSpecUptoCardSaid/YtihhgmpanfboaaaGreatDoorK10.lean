/-
  Contracts and plain facts, one after another: The reader of queries: fail, peek, is, need, spaces; The reader of queries, by what is left of its text: is, need, spaces; plain facts on words; The reader of queries: word.
-/
import Derived.Test.YtihhgmpanfboaaaGreatDoorK5
import Derived.Test.YtihhgmpanfboaaaGreatDoorQyV
import Derived.Test.YtihhgmpanfboaaaGreatDoorK8
namespace Go.Proofs.YtihhgmpanfboaaaGreatDoor
open Go.RowKit
set_option linter.unusedVariables false
/-- a reader: its text and its place -/
def RdAt (w : World) (g : Nat) (s : Str) (i : Nat) : Prop := Blk w g 54 #[.string (bs s), .int .i64 (i : Int)]
/-- what is thrown at a place -/
def wrongV (i : Nat) : Value := .iface 50 (.agg #[.int .i64 (i : Int)])
def thrown (i : Nat) : List PanicEntry := [{ v := wrongV i, recovered := false }]
theorem fail_ok (i : Nat) (w : World) : Calls Tryz.prog 31 #[.int .i64 (i : Int)] w fun e w' => e = .panicked (thrown i) ∧ w' = w := by
  go_enter Tryz.func31, Tryz.ntmps31
  go_wp2
  exact ⟨rfl, rfl, rfl⟩
theorem RdAt.two {w : World} {g : Nat} {s : Str} {i : Nat} (h : RdAt w g s i) : w.cell? ⟨g, 0, none⟩ = some (.string (bs s)) ∧ w.cell? ⟨g, 1, none⟩ = some (.int .i64 (i : Int)) ∧ w.frozen? ⟨g, 0, none⟩ = false ∧ w.frozen? ⟨g, 1, none⟩ = false ∧ g < w.heap.size := Blk.two h
theorem RdAt.ext {w w' : World} {g : Nat} {s : Str} {i : Nat} (h : RdAt w g s i) (hb : Below w.heap.size w w') : RdAt w' g s i := Blk.ext h hb
theorem RdAt.move {w : World} {g : Nat} {s : Str} {i : Nat} (h : RdAt w g s i) (j : Nat) : RdAt (w.setCell ⟨g, 1, none⟩ (.int .i64 (j : Int))) g s j := by
  have := Blk.set_ h 1 (.int .i64 (j : Int))
  show Blk _ _ _ _
  simpa using this
/-- the byte at a place, 0 at the end -/
def byteAt (s : Str) (i : Nat) : UInt8 := s.getD i 0
set_option maxRecDepth 100000 in
set_option maxHeartbeats 4000000 in
theorem peek_ok (g : Nat) (s : Str) (i : Nat) (w : World) (hr : RdAt w g s i) (hi : i ≤ s.length) (hs : s.length ≤ 4000) : Calls Tryz.prog 106 #[.pointer (some ⟨g, 0, none⟩)] w fun e w' => e = .returned (.int .u8 ((byteAt s i).toNat : Int)) ∧ Below w.heap.size w w' := by
  obtain ⟨r0, r1, _, _, _⟩ := hr.two
  by_cases h : i = s.length
  · subst h
    have hb : byteAt s s.length = 0 := by simp [byteAt]
    have Hb := Lib.hid hb
    clear hb hr
    go_enter Tryz.func106, Tryz.ntmps106
    go_wp2_with fail
    go_region
    go_wp2_with fail
    go_ret
    exact ⟨by rw [Hb.out]; rfl, (Below.refl _ _).drew⟩
  · have hlt : i < s.length := by omega
    have hb : byteAt s i = s[i] := by simp [byteAt, List.getD, hlt]
    have hget : (bs s)[i]'(by simpa using hlt) = s[i] := bs_get s i (by simpa using hlt)
    obtain ⟨x, hx⟩ : ∃ x, s[i] = x := ⟨_, rfl⟩
    rw [hx] at hb hget
    have he : ((i : Int) == (s.length : Int)) = false := beq_eq_false_iff_ne.2 (by omega)
    have hi0 : (0 : Int) ≤ (i : Int) := by omega
    have hi1 : (i : Int) < (s.length : Int) := by omega
    have Hb := Lib.hid hb
    clear hb hr hx h
    go_enter Tryz.func106, Tryz.ntmps106
    go_wp2_with fail
    go_region
    go_wp2_with fail
    go_region
    go_wp2_with fail
    go_ret
    exact ⟨by rw [Hb.out]; rfl, (Below.refl _ _).drew.drew⟩
set_option maxRecDepth 100000 in
set_option maxHeartbeats 4000000 in
theorem is_ok (g : Nat) (s : Str) (i : Nat) (c : UInt8) (w : World) (hr : RdAt w g s i) (hi : i ≤ s.length) (hs : s.length ≤ 4000) (hc : c ≠ 0) : Calls Tryz.prog 42 #[.pointer (some ⟨g, 0, none⟩), .int .u8 (c.toNat : Int)] w fun e w' =>
    e = .returned (.bool (byteAt s i == c)) ∧ RdAt w' g s (if byteAt s i = c then i + 1 else i) ∧ But g w w' := by
  obtain ⟨r0, r1, r2, r3, _⟩ := hr.two
  obtain ⟨t, ht⟩ : ∃ t, (byteAt s i == c) = t := ⟨_, rfl⟩
  obtain ⟨j, hj⟩ : ∃ j, (if byteAt s i = c then i + 1 else i) = j := ⟨_, rfl⟩
  rw [ht, hj]
  have Hr := Lib.hid hr
  by_cases h : i = s.length
  · subst h
    have hb : byteAt s s.length = 0 := by simp [byteAt]
    have hne : ¬ byteAt s s.length = c := by rw [hb]; exact fun e => hc e.symm
    obtain rfl : t = false := by rw [← ht]; simpa using hne
    obtain rfl : j = s.length := by rw [← hj, if_neg hne]
    clear hb hr hne hc ht hj
    go_enter Tryz.func42, Tryz.ntmps42
    go_wp2_with fail
    go_region
    go_wp2_with fail
    go_ret
    exact ⟨rfl, Hr.out.ext (Below.refl _ _).drew, But.of_below g (Below.refl _ _).drew⟩
  · have hlt : i < s.length := by omega
    have hb : byteAt s i = s[i] := by simp [byteAt, List.getD, hlt]
    have hget : (bs s)[i]'(by simpa using hlt) = s[i] := bs_get s i (by simpa using hlt)
    obtain ⟨x, hx⟩ : ∃ x, s[i] = x := ⟨_, rfl⟩
    rw [hx] at hb hget
    rw [hb] at ht hj
    have he : ((i : Int) == (s.length : Int)) = false := beq_eq_false_iff_ne.2 (by omega)
    have hi0 : (0 : Int) ≤ (i : Int) := by omega
    have hi1 : (i : Int) < (s.length : Int) := by omega
    have hw : IntKind.i64.wrap ((i : Int) + 1) = ((i + 1 : Nat) : Int) := by rw [show (i : Int) + 1 = ((i + 1 : Nat) : Int) by omega]; exact IntWalk.i64_in _ (by omega)
    clear hb hr hx h hc
    by_cases hxc : x = c
    · subst hxc
      obtain rfl : t = true := by rw [← ht]; simp
      obtain rfl : j = i + 1 := by rw [← hj, if_pos rfl]
      clear ht hj
      go_enter Tryz.func42, Tryz.ntmps42
      go_wp2_with fail
      go_region
      go_wp2_with fail
      go_ret
      exact ⟨rfl, (Hr.out.ext (Below.refl _ _).drew).move (i + 1), (But.of_below g (Below.refl _ _).drew).set 1 _⟩
    · have hxn : ((x.toNat : Int) != (c.toNat : Int)) = true := by
        have : x.toNat ≠ c.toNat := fun e => hxc (UInt8.toNat_inj.1 e)
        simp; omega
      obtain rfl : t = false := by rw [← ht]; simpa using hxc
      obtain rfl : j = i := by rw [← hj, if_neg hxc]
      clear ht hj hxc
      go_enter Tryz.func42, Tryz.ntmps42
      go_wp2_with fail
      go_region
      go_wp2_with fail
      go_ret
      exact ⟨rfl, Hr.out.ext (Below.refl _ _).drew, But.of_below g (Below.refl _ _).drew⟩
end Go.Proofs.YtihhgmpanfboaaaGreatDoor
namespace Go.Proofs.YtihhgmpanfboaaaGreatDoor
open Go.RowKit
set_option linter.unusedVariables false
/-- what a reader has still to read -/
def Rd (w : World) (g : Nat) (s r : Str) : Prop := RdAt w g s (s.length - r.length) ∧ r <:+ s
theorem suf_drop {s r : Str} (h : r <:+ s) : s.drop (s.length - r.length) = r := by
  obtain ⟨t, rfl⟩ := h
  rw [List.length_append, Nat.add_sub_cancel, List.drop_left]
theorem suf_byte {s r : Str} (h : r <:+ s) : byteAt s (s.length - r.length) = r.headD 0 := by
  obtain ⟨t, rfl⟩ := h
  unfold byteAt
  rw [List.length_append, Nat.add_sub_cancel]
  cases r with
  | nil => simp [List.getD]
  | cons c r => simp [List.getD]
theorem suf_tail {s t : Str} {c : UInt8} (h : c :: t <:+ s) : t <:+ s ∧ s.length - t.length = s.length - (c :: t).length + 1 := by
  have h1 : t <:+ s := (List.suffix_cons c t).trans h
  have h2 := h.length_le
  rw [List.length_cons] at h2
  exact ⟨h1, by rw [List.length_cons]; omega⟩
theorem Rd.ext {w w' : World} {g : Nat} {s r : Str} (h : Rd w g s r) (hb : Below w.heap.size w w') : Rd w' g s r := ⟨h.1.ext hb, h.2⟩
theorem is_yes (g : Nat) (s : Str) (c : UInt8) (t : Str) (w : World) (hr : Rd w g s (c :: t)) (hs : s.length ≤ 4000) (hc : c ≠ 0) : Calls Tryz.prog 42 #[.pointer (some ⟨g, 0, none⟩), .int .u8 (c.toNat : Int)] w fun e w' =>
    e = .returned (.bool true) ∧ Rd w' g s t ∧ But g w w' := by
  refine (is_ok g s _ c w hr.1 (by omega) hs hc).mono ?_
  rintro e w' ⟨rfl, h1, h2⟩
  rw [suf_byte hr.2, List.headD_cons, if_pos rfl] at h1
  rw [suf_byte hr.2, List.headD_cons, beq_self_eq_true]
  obtain ⟨h3, h4⟩ := suf_tail hr.2
  exact ⟨rfl, ⟨by rw [h4]; exact h1, h3⟩, h2⟩
theorem is_no (g : Nat) (s : Str) (c : UInt8) (r : Str) (w : World) (hr : Rd w g s r) (hs : s.length ≤ 4000) (hc : c ≠ 0) (h : r.headD 0 ≠ c) : Calls Tryz.prog 42 #[.pointer (some ⟨g, 0, none⟩), .int .u8 (c.toNat : Int)] w fun e w' =>
    e = .returned (.bool false) ∧ Rd w' g s r ∧ But g w w' := by
  refine (is_ok g s _ c w hr.1 (by omega) hs hc).mono ?_
  rintro e w' ⟨rfl, h1, h2⟩
  rw [suf_byte hr.2, if_neg h] at h1
  rw [suf_byte hr.2]
  exact ⟨by rw [show (r.headD 0 == c) = false from by simpa using h], ⟨h1, hr.2⟩, h2⟩
set_option maxRecDepth 100000 in
set_option maxHeartbeats 4000000 in
theorem need_yes (g : Nat) (s : Str) (c : UInt8) (t : Str) (w : World) (hr : Rd w g s (c :: t)) (hs : s.length ≤ 4000) (hc : c ≠ 0) : Calls Tryz.prog 80 #[.pointer (some ⟨g, 0, none⟩), .int .u8 (c.toNat : Int)] w fun e w' =>
    e = .returned (.tuple #[]) ∧ Rd w' g s t ∧ But g w w' := by
  have hi := is_yes g s c t w hr hs hc
  have Hi := Lib.hid hi
  clear hi hr hc
  go_enter Tryz.func80, Tryz.ntmps80
  go_wp2_with fail
  refine Hi.out.mono ?_
  rintro e w1 ⟨rfl, h1, h2⟩
  go_wp2_with fail
  go_end0
  exact ⟨rfl, h1, h2⟩
set_option maxRecDepth 100000 in
set_option maxHeartbeats 4000000 in
theorem need_no (g : Nat) (s : Str) (c : UInt8) (r : Str) (w : World) (hr : Rd w g s r) (hs : s.length ≤ 4000) (hc : c ≠ 0) (h : r.headD 0 ≠ c) : Calls Tryz.prog 80 #[.pointer (some ⟨g, 0, none⟩), .int .u8 (c.toNat : Int)] w fun e w' =>
    e = .panicked (thrown (s.length - r.length)) ∧ Rd w' g s r ∧ But g w w' := by
  have hi := is_no g s c r w hr hs hc h
  have Hi := Lib.hid hi
  clear hi hr hc h
  go_enter Tryz.func80, Tryz.ntmps80
  go_wp2_with fail
  refine Hi.out.mono ?_
  rintro e w1 ⟨rfl, h1, h2⟩
  obtain ⟨r0, r1, r2, r3, _⟩ := h1.1.two
  have H1 := Lib.hid h1
  clear h1
  go_wp2_with fail
  refine (fail_ok _ w1).mono ?_
  rintro e w2 ⟨rfl, rfl⟩
  go_wp2_with fail
  exact ⟨rfl, rfl, H1.out, h2⟩
theorem skipS_step (t : Str) : Q.skipS (32 :: t) = Q.skipS t := rfl
theorem skipS_stop {r : Str} (h : r.headD 0 ≠ 32) : Q.skipS r = r := by
  cases r with
  | nil => rfl
  | cons c t =>
    unfold Q.skipS
    rw [List.dropWhile_cons_of_neg]
    simpa using h
set_option maxRecDepth 100000 in
set_option maxHeartbeats 4000000 in
theorem spaces_ok (g : Nat) (s r : Str) (w : World) (hr : Rd w g s r) (hs : s.length ≤ 4000) : Calls Tryz.prog 57 #[.pointer (some ⟨g, 0, none⟩)] w fun e w' =>
    e = .returned (.tuple #[]) ∧ Rd w' g s (Q.skipS r) ∧ But g w w' := by
  obtain ⟨res, hres⟩ : ∃ x, Q.skipS r = x := ⟨_, rfl⟩
  rw [hres]
  have Hres := Lib.hid hres; have Hr := Lib.hid hr
  clear hres hr
  go_enter Tryz.func57, Tryz.ntmps57
  go_wp2_with fail
  go_loopw [] (fun wr => ∃ r' : Str, Hid (Q.skipS r' = res) ∧ Rd wr g s r' ∧ But g w wr) (fun wr => s.length - (intOf ((wr.cell? ⟨g, 1, none⟩).getD undef)).toNat)
  case atStart => exact ⟨r, Hres, Hr.out, But.refl _ _⟩
  case round =>
    obtain ⟨r', hk, hr', hbt⟩ := hrel
    obtain ⟨wo, rfl⟩ : ∃ W, W = wr := ⟨_, rfl⟩
    have hc0 := hr'.1.two.2.1
    have hsl := hr'.2.length_le
    by_cases h32 : r'.headD 0 = 32
    · obtain ⟨t, rfl⟩ : ∃ t, r' = 32 :: t := by
        cases r' with
        | nil => cases h32
        | cons c t => exact ⟨t, by rw [List.headD_cons] at h32; rw [h32]⟩
      have hi := is_yes g s 32 t wo hr' hs (by decide)
      have Hi := Lib.hid hi; have Hc0 := Lib.hid hc0
      clear hi hc0 hr' h32
      go_wp2_with fail
      refine Hi.out.mono ?_
      rintro e w1 ⟨rfl, h1, h2⟩
      have hc1 := h1.1.two.2.1
      have Hc1 := Lib.hid hc1
      clear hc1
      go_wp2_with fail
      go_roundw
      case rel => exact ⟨t, Lib.hid hk.out, h1, hbt.trans h2⟩
      case measure => rw [Hc0.out, Hc1.out]; simp [intOf] at hsl ⊢; omega
    · have hi := is_no g s 32 r' wo hr' hs (by decide) h32
      have he : res = r' := by rw [← hk.out, skipS_stop h32]
      have Hi := Lib.hid hi; have He := Lib.hid he
      clear hi hc0 hr' h32 he
      go_wp2_with fail
      refine Hi.out.mono ?_
      rintro e w1 ⟨rfl, h1, h2⟩
      go_wp2_with fail
      go_end0
      exact ⟨rfl, by rw [He.out]; exact h1, hbt.trans h2⟩
end Go.Proofs.YtihhgmpanfboaaaGreatDoor
namespace Go.Proofs.YtihhgmpanfboaaaGreatDoor
open Go.RowKit
set_option linter.unusedVariables false
open Go.Lib in
theorem spanW_more : ∀ (n : Nat) (r : Str), r.length ≤ n → Q.spanW n r = Q.spanW r.length r
  | 0, r, h => by rw [show r.length = 0 by omega]
  | n + 1, r, h => by
    cases hr : r with
    | nil => simp [Q.spanW]
    | cons c t =>
      rw [← hr]
      have hne : r ≠ [] := by rw [hr]; simp
      have hl : r.length = t.length + 1 := by rw [hr]; rfl
      have hw1 := Lib.decodeL_width r
      have hw2 := Sm.width_le hne
      rw [hl, Q.spanW, Q.spanW, if_neg hne, if_neg hne]
      split
      · have hd : (r.drop (decodeL r).2).length ≤ t.length := by rw [List.length_drop]; omega
        rw [spanW_more n _ (by omega), spanW_more t.length _ hd]
      · rfl
open Go.Lib in
theorem wordS_yes {r : Str} (hne : r ≠ []) (h : Sm.isL (decodeL r).1 = true) : Q.wordS r = (r.take (decodeL r).2 ++ (Q.wordS (r.drop (decodeL r).2)).1, (Q.wordS (r.drop (decodeL r).2)).2) := by
  unfold Q.wordS
  obtain ⟨n, hn⟩ : ∃ n, r.length = n + 1 := ⟨r.length - 1, by have := List.length_pos_iff.2 hne; omega⟩
  have hw1 := Lib.decodeL_width r
  have hw2 := Sm.width_le hne
  have hd : (r.drop (decodeL r).2).length ≤ n := by rw [List.length_drop]; omega
  rw [hn, Q.spanW, if_neg hne, if_pos h, spanW_more n _ hd]
open Go.Lib in
theorem wordS_no {r : Str} (h : r = [] ∨ Sm.isL (decodeL r).1 = false) : Q.wordS r = ([], r) := by
  unfold Q.wordS
  by_cases hne : r = []
  · subst hne; rfl
  · have h2 : Sm.isL (decodeL r).1 = false := h.resolve_left hne
    obtain ⟨n, hn⟩ : ∃ n, r.length = n + 1 := ⟨r.length - 1, by have := List.length_pos_iff.2 hne; omega⟩
    rw [hn, Q.spanW, if_neg hne, if_neg (by rw [h2]; decide)]
/-- a word ahead: what is taken and what is left -/
theorem wordS_split : ∀ (n : Nat) (r : Str), r.length ≤ n → r = (Q.wordS r).1 ++ (Q.wordS r).2
  | 0, r, h => by
    obtain rfl : r = [] := List.length_eq_zero_iff.1 (by omega)
    rfl
  | n + 1, r, h => by
    by_cases hy : r = [] ∨ Sm.isL (Lib.decodeL r).1 = false
    · rw [wordS_no hy]; rfl
    · have hne : r ≠ [] := fun e => hy (.inl e)
      have hl : Sm.isL (Lib.decodeL r).1 = true := by simpa using fun e => hy (.inr e)
      have hw1 := Lib.decodeL_width r
      have hw2 := Sm.width_le hne
      have ih := wordS_split n (r.drop (Lib.decodeL r).2) (by rw [List.length_drop]; omega)
      rw [wordS_yes hne hl]
      dsimp only
      rw [List.append_assoc, ← ih, List.take_append_drop]
set_option maxRecDepth 100000 in
set_option maxHeartbeats 8000000 in
theorem rword_ok (w0 : World) (hT : TabsU w0) (g : Nat) (hg : w0.heap.size ≤ g) (s r : Str) (w : World) (hr : Rd w g s r) (hs : s.length ≤ 4000) (hb0 : Below w0.heap.size w0 w) : Calls Tryz.prog 82 #[.pointer (some ⟨g, 0, none⟩)] w fun e w' =>
    e = .returned (.string (bs (Sm.lower (Q.wordS r).1))) ∧ Rd w' g s (Q.wordS r).2 ∧ But g w w' := by
  obtain ⟨⟨ra, rb⟩, hres⟩ : ∃ x, Q.wordS r = x := ⟨_, rfl⟩
  have hsp := wordS_split r.length r (Nat.le_refl _)
  rw [hres] at hsp ⊢
  dsimp only at hsp ⊢
  have hrl := hr.2.length_le
  obtain ⟨fr, hfr⟩ : ∃ i, s.length - r.length = i := ⟨_, rfl⟩
  have hdr := suf_drop hr.2
  rw [hfr] at hdr
  obtain ⟨r0, r1, _, _, _⟩ := hr.1.two
  rw [hfr] at r1
  have Hres := Lib.hid hres; have Hr := Lib.hid hr; have Hfr := Lib.hid hfr; have Hsp := Lib.hid hsp; have Hdr := Lib.hid hdr; have HT := Lib.hid hT; have Hb0 := Lib.hid hb0
  clear hres hr hfr hsp hdr hT hb0
  go_enter Tryz.func82, Tryz.ntmps82
  go_wp2_with fail
  clear r0 r1
  go_loopw [] (fun wr => ∃ a r' : Str, Hid (r = a ++ r' ∧ ra = a ++ (Q.wordS r').1 ∧ rb = (Q.wordS r').2) ∧ Rd wr g s r' ∧ But g w wr) (fun wr => s.length - (intOf ((wr.cell? ⟨g, 1, none⟩).getD undef)).toNat)
  case atStart => exact ⟨[], r, Lib.hid ⟨rfl, by rw [Hres.out]; rfl, by rw [Hres.out]⟩, Hr.out, But.refl _ _⟩
  case round =>
    obtain ⟨a, r', hk, hr', hbt⟩ := hrel
    obtain ⟨wo, rfl⟩ : ∃ W, W = wr := ⟨_, rfl⟩
    have hr'l := hr'.2.length_le
    have hdi := suf_drop hr'.2
    obtain ⟨i, hi⟩ : ∃ i, s.length - r'.length = i := ⟨_, rfl⟩
    rw [hi] at hdi
    obtain ⟨r0, r1, r2, r3, _⟩ := hr'.1.two
    rw [hi] at r1
    have hi0 : (0 : Int) ≤ (i : Int) := by omega
    have hbw := hbt.below Hb0.out hg
    have Hi := Lib.hid hi; have Hdi := Lib.hid hdi; have Hr' := Lib.hid hr'; have Hbt := Lib.hid hbt; have Hbw := Lib.hid hbw
    have HS : Hid (∀ W, Below wo.heap.size wo W → W.cell? ⟨g, 0, none⟩ = some (.string (bs s)) ∧ W.cell? ⟨g, 1, none⟩ = some (.int .i64 (i : Int))) := Lib.hid fun W hb => by
      obtain ⟨z0, z1, _⟩ := (hr'.1.ext hb).two
      rw [hi] at z1
      exact ⟨z0, z1⟩
    by_cases hne : r' = []
    · have hno : r' = [] ∨ Sm.isL (Lib.decodeL r').1 = false := .inl hne
      have Hno := Lib.hid hno
      have hii : ¬ (i : Int) < (s.length : Int) := by
        have h2 : r'.length = 0 := by rw [hne]; rfl
        omega
      clear hno hne hdi hr' hbt hbw hi
      go_wp2_with fail
      go_region
      go_wp2_with fail
      obtain ⟨wd, hwd⟩ : ∃ W, wo.drew = W := ⟨_, rfl⟩
      have hbdd : Below wo.heap.size wo wd := by rw [← hwd]; exact (Below.refl _ _).drew
      have Hrd := Lib.hid (Hr'.out.ext hbdd); have Hbd2 := Lib.hid (Hbt.out.trans (But.of_below g hbdd)); have Hdw := Lib.hid (Hbw.out.trans (hbdd.mono Hbw.out.size))
      rw [hwd]
      clear hwd hbdd r0 r1 r2 r3
      have hwn := wordS_no (r := r') Hno.out
      have hra : ra = a := by rw [hk.out.2.1, hwn, List.append_nil]
      have hrb : rb = r' := by rw [hk.out.2.2, hwn]
      have hal : a.length + r'.length = r.length := by rw [hk.out.1, List.length_append]
      have hfr2 := Hfr.out
      have hi2 := Hi.out
      have hfi : fr + a.length = i := by omega
      have hd1 := Hdr.out
      have hd2 : r.take (i - fr) = a := by rw [hk.out.1, ← hfi, Nat.add_sub_cancel_left, List.take_left]
      have hd3 : (fr : Int) ≤ (i : Int) := by omega
      have hd4 : (i : Int) ≤ (s.length : Int) := by omega
      have hd5 : (0 : Int) ≤ (fr : Int) := by omega
      have hd6 : ((i : Int) - (fr : Int)).toNat = i - fr := by omega
      have hal4 : a.length ≤ 4000000 := by omega
      have Hlw := Lib.hid fun V (hb : Below wd.heap.size wd V) => stemLower_ok a hal4 V ((HT.out).ext (Hdw.out.trans (hb.mono Hdw.out.size)))
      have HSd : Hid (∀ W, Below wd.heap.size wd W → W.cell? ⟨g, 0, none⟩ = some (.string (bs s)) ∧ W.cell? ⟨g, 1, none⟩ = some (.int .i64 (i : Int))) := Lib.hid fun W hb => by
        obtain ⟨z0, z1, _⟩ := (Hrd.out.1.ext hb).two
        rw [Hi.out] at z1
        exact ⟨z0, z1⟩
      have hS := HSd.out (wd.drewN 1) (below_drewN' _ _ _)
      have Hra := Lib.hid (And.intro hra hrb)
      clear hwn hra hrb hal hfr2 hi2 hfi hal4
      refine wp_region_D (fun W => W.cell? ⟨g, 0, none⟩ = some (.string (bs s)) ∧ W.cell? ⟨g, 1, none⟩ = some (.int .i64 (i : Int))) (fun _ => false) (by kernel_rfl) ?_
      change anyD _ _ _ _ _ _ _ _ _ (wd.drewN 1)
      have hbV := below_drewN' wd.heap.size wd 1
      generalize wd.drewN 1 = V0 at hS hbV ⊢
      (refine anyD_light (i := 0) (v := ?_) rfl (by kernel_rfl) (by kernel_rfl) (by kernel_rfl) (by kernel_rfl) (by kernel_rfl) (fun _ _ _ h => h) (.inl ⟨by kernel_rfl, fun W9 hW9 => ?_⟩) hS ?_; rotate_left; · (obtain ⟨hw0, hw1⟩ := hW9; go_simp; rfl))
      (refine anyD_light (i := 1) (v := ?_) rfl (by kernel_rfl) (by kernel_rfl) (by kernel_rfl) (by kernel_rfl) (by kernel_rfl) (fun _ _ _ h => h) (.inl ⟨by kernel_rfl, fun W9 hW9 => ?_⟩) hS ?_; rotate_left; · (obtain ⟨hw0, hw1⟩ := hW9; go_simp; rfl))
      (refine anyD_light (i := 2) (v := ?_) rfl (by kernel_rfl) (by kernel_rfl) (by kernel_rfl) (by kernel_rfl) (by kernel_rfl) (fun _ _ _ h => h) (.inl ⟨by kernel_rfl, fun W9 hW9 => ?_⟩) hS ?_; rotate_left; · (obtain ⟨hw0, hw1⟩ := hW9; go_simp; rfl))
      (refine anyD_light (i := 3) (v := ?_) rfl (by kernel_rfl) (by kernel_rfl) (by kernel_rfl) (by kernel_rfl) (by kernel_rfl) (fun _ _ _ h => h) (.inl ⟨by kernel_rfl, fun W9 hW9 => ?_⟩) hS ?_; rotate_left; · (obtain ⟨hw0, hw1⟩ := hW9; go_simp; rfl))
      (refine anyD_light (i := 4) (v := ?_) rfl (by kernel_rfl) (by kernel_rfl) (by kernel_rfl) (by kernel_rfl) (by kernel_rfl) (fun _ _ _ h => h) (.inl ⟨by kernel_rfl, fun W9 hW9 => ?_⟩) hS ?_; rotate_left; · (obtain ⟨hw0, hw1⟩ := hW9; go_simp; rfl))
      (refine anyD_light (i := 5) (v := ?_) rfl (by kernel_rfl) (by kernel_rfl) (by kernel_rfl) (by kernel_rfl) (by kernel_rfl) (fun _ _ _ h => h) (.inl ⟨by kernel_rfl, fun W9 hW9 => ?_⟩) hS ?_; rotate_left; · (obtain ⟨hw0, hw1⟩ := hW9; go_simp; rfl))
      go_simp
      (refine anyD_light (i := 6) (v := ?_) rfl (by kernel_rfl) (by kernel_rfl) (by kernel_rfl) (by kernel_rfl) (by kernel_rfl) (fun _ _ _ h => h) (.inl ⟨by kernel_rfl, fun W9 hW9 => ?_⟩) hS ?_; rotate_left; · (obtain ⟨hw0, hw1⟩ := hW9; go_simp; rfl))
      (refine anyD_light (i := 7) (v := ?_) rfl (by kernel_rfl) (by kernel_rfl) (by kernel_rfl) (by kernel_rfl) (by kernel_rfl) (fun _ _ _ h => h) (.inl ⟨by kernel_rfl, fun W9 hW9 => ?_⟩) hS ?_; rotate_left; · (obtain ⟨hw0, hw1⟩ := hW9; go_simp; rfl))
      (refine anyD_light (i := 8) (v := ?_) rfl (by kernel_rfl) (by kernel_rfl) (by kernel_rfl) (by kernel_rfl) (by kernel_rfl) (fun _ _ _ h => h) (.inl ⟨by kernel_rfl, fun W9 hW9 => ?_⟩) hS ?_; rotate_left; · (obtain ⟨hw0, hw1⟩ := hW9; go_simp; rfl))
      (refine anyD_light (i := 9) (v := ?_) rfl (by kernel_rfl) (by kernel_rfl) (by kernel_rfl) (by kernel_rfl) (by kernel_rfl) (fun _ _ _ h => h) (.inl ⟨by kernel_rfl, fun W9 hW9 => ?_⟩) hS ?_; rotate_left; · (obtain ⟨hw0, hw1⟩ := hW9; go_simp; rfl))
      go_simp
      refine anyD_one (i := 10) (by kernel_rfl) rfl rfl (fun K hK => ?_)
      have HK := Lib.hid hK
      clear hK
      have hlw := Hlw.out V0 hbV
      have Hlc := Lib.hid hlw
      clear hlw
      unfold Oper.wp
      go_simp
      refine (Hlc.out).mono ?_
      rintro e w1 ⟨rfl, hb1⟩
      replace hbV := hbV.trans (hb1.mono hbV.size)
      clear hb1 hS Hlc
      have hS := HSd.out _ hbV
      refine HK.out _ _ (fun _ => hS) ?_
      clear HK
      (refine anyD_light (i := 11) (v := ?_) rfl (by kernel_rfl) (by kernel_rfl) (by kernel_rfl) (by kernel_rfl) (by kernel_rfl) (fun _ _ _ h => h) (.inl ⟨by kernel_rfl, fun W9 hW9 => ?_⟩) hS ?_; rotate_left; · (obtain ⟨hw0, hw1⟩ := hW9; go_simp; rfl))
      go_simp
      refine anyD_done (by kernel_rfl) ?_ _
      go_wp2_with fail
      go_ret
      exact ⟨by rw [Hra.out.1]; rfl, by rw [Hra.out.2]; exact Hrd.out.ext hbV, Hbd2.out.trans (But.of_below g hbV)⟩
    · have hpos := List.length_pos_iff.2 hne
      have hii : (i : Int) < (s.length : Int) := by omega
      have hil : (i : Int) ≤ (s.length : Int) := by omega
      have hw1 := Lib.decodeL_width r'
      have hw2 := Sm.width_le hne
      have hrr := Lib.decodeL_rune r'
      have hdec := fun V (hb : Below wo.heap.size wo V) => Tryz.utf8_DecodeRuneInString (bs r') V ((HT.out.ext (Hbw.out.trans (hb.mono Hbw.out.size))).u8)
      have hdg : Lib.decodeGo (bs r') = Lib.decodeL r' := by
        unfold Lib.decodeGo
        rw [if_neg (by rw [bs_size]; omega)]
        rfl
      rw [hdg] at hdec
      obtain ⟨c, hc⟩ : ∃ c, (Lib.decodeL r').1 = c := ⟨_, rfl⟩
      obtain ⟨n, hn⟩ : ∃ n, (Lib.decodeL r').2 = n := ⟨_, rfl⟩
      simp only [hc, hn] at hdec
      have Hdec0 := Lib.hid hdec
      clear hdec hdg hdi hr' hbt hbw hi
      go_wp2_with fail
      go_region
      go_wp2_with fail
      obtain ⟨wd, hwd⟩ : ∃ W, wo.drew = W := ⟨_, rfl⟩
      have Hbd : Hid (Below wo.heap.size wo wd) := Lib.hid (by rw [← hwd]; exact (Below.refl _ _).drew)
      rw [hwd]
      have HSd : Hid (∀ W, Below wd.heap.size wd W → W.cell? ⟨g, 0, none⟩ = some (.string (bs s)) ∧ W.cell? ⟨g, 1, none⟩ = some (.int .i64 (i : Int))) := Lib.hid fun W hb => HS.out W (Hbd.out.trans (hb.mono Hbd.out.size))
      have Hdec := Lib.hid fun V (hb : Below wd.heap.size wd V) => Hdec0.out V (Hbd.out.trans (hb.mono Hbd.out.size))
      have hS := HSd.out (wd.drewN 1) (below_drewN' _ _ _)
      have hdi := Hdi.out
      have hdi2 : r'.take (s.length - i) = r' := List.take_of_length_le (by rw [← Hdi.out, List.length_drop]; omega)
      clear hwd r0 r1 r2 r3 Hdec0
      refine wp_region_D (fun W => W.cell? ⟨g, 0, none⟩ = some (.string (bs s)) ∧ W.cell? ⟨g, 1, none⟩ = some (.int .i64 (i : Int))) (fun _ => false) (by kernel_rfl) ?_
      change anyD _ _ _ _ _ _ _ _ _ (wd.drewN 1)
      have hbV := below_drewN' wd.heap.size wd 1
      generalize wd.drewN 1 = V0 at hS hbV ⊢
      (refine anyD_light (i := 0) (v := ?_) rfl (by kernel_rfl) (by kernel_rfl) (by kernel_rfl) (by kernel_rfl) (by kernel_rfl) (fun _ _ _ h => h) (.inl ⟨by kernel_rfl, fun W9 hW9 => ?_⟩) hS ?_; rotate_left; · (obtain ⟨hw0, hw1⟩ := hW9; go_simp; rfl))
      (refine anyD_light (i := 1) (v := ?_) rfl (by kernel_rfl) (by kernel_rfl) (by kernel_rfl) (by kernel_rfl) (by kernel_rfl) (fun _ _ _ h => h) (.inl ⟨by kernel_rfl, fun W9 hW9 => ?_⟩) hS ?_; rotate_left; · (obtain ⟨hw0, hw1⟩ := hW9; go_simp; rfl))
      (refine anyD_light (i := 2) (v := ?_) rfl (by kernel_rfl) (by kernel_rfl) (by kernel_rfl) (by kernel_rfl) (by kernel_rfl) (fun _ _ _ h => h) (.inl ⟨by kernel_rfl, fun W9 hW9 => ?_⟩) hS ?_; rotate_left; · (obtain ⟨hw0, hw1⟩ := hW9; go_simp; rfl))
      (refine anyD_light (i := 3) (v := ?_) rfl (by kernel_rfl) (by kernel_rfl) (by kernel_rfl) (by kernel_rfl) (by kernel_rfl) (fun _ _ _ h => h) (.inl ⟨by kernel_rfl, fun W9 hW9 => ?_⟩) hS ?_; rotate_left; · (obtain ⟨hw0, hw1⟩ := hW9; go_simp; rfl))
      (refine anyD_light (i := 4) (v := ?_) rfl (by kernel_rfl) (by kernel_rfl) (by kernel_rfl) (by kernel_rfl) (by kernel_rfl) (fun _ _ _ h => h) (.inl ⟨by kernel_rfl, fun W9 hW9 => ?_⟩) hS ?_; rotate_left; · (obtain ⟨hw0, hw1⟩ := hW9; go_simp; rfl))
      (refine anyD_light (i := 5) (v := ?_) rfl (by kernel_rfl) (by kernel_rfl) (by kernel_rfl) (by kernel_rfl) (by kernel_rfl) (fun _ _ _ h => h) (.inl ⟨by kernel_rfl, fun W9 hW9 => ?_⟩) hS ?_; rotate_left; · (obtain ⟨hw0, hw1⟩ := hW9; go_simp; rfl))
      go_simp
      (refine anyD_light (i := 6) (v := ?_) rfl (by kernel_rfl) (by kernel_rfl) (by kernel_rfl) (by kernel_rfl) (by kernel_rfl) (fun _ _ _ h => h) (.inl ⟨by kernel_rfl, fun W9 hW9 => ?_⟩) hS ?_; rotate_left; · (obtain ⟨hw0, hw1⟩ := hW9; go_simp; rfl))
      (refine anyD_light (i := 7) (v := ?_) rfl (by kernel_rfl) (by kernel_rfl) (by kernel_rfl) (by kernel_rfl) (by kernel_rfl) (fun _ _ _ h => h) (.inl ⟨by kernel_rfl, fun W9 hW9 => ?_⟩) hS ?_; rotate_left; · (obtain ⟨hw0, hw1⟩ := hW9; go_simp; rfl))
      (refine anyD_light (i := 8) (v := ?_) rfl (by kernel_rfl) (by kernel_rfl) (by kernel_rfl) (by kernel_rfl) (by kernel_rfl) (fun _ _ _ h => h) (.inl ⟨by kernel_rfl, fun W9 hW9 => ?_⟩) hS ?_; rotate_left; · (obtain ⟨hw0, hw1⟩ := hW9; go_simp; rfl))
      go_simp
      refine anyD_one (i := 9) (by kernel_rfl) rfl rfl (fun K hK => ?_)
      have HK := Lib.hid hK
      clear hK
      have hdc := Hdec.out V0 hbV
      have Hdc := Lib.hid hdc
      clear hdc
      unfold Oper.wp
      go_simp
      refine (Hdc.out).mono ?_
      rintro e w1 ⟨rfl, hb1⟩
      replace hbV := hbV.trans (hb1.mono hbV.size)
      clear hb1 hS Hdc
      have hS := HSd.out _ hbV
      refine HK.out _ _ (fun _ => hS) ?_
      clear HK
      (refine anyD_light (i := 10) (v := ?_) rfl (by kernel_rfl) (by kernel_rfl) (by kernel_rfl) (by kernel_rfl) (by kernel_rfl) (fun _ _ _ h => h) (.inl ⟨by kernel_rfl, fun W9 hW9 => ?_⟩) hS ?_; rotate_left; · (obtain ⟨hw0, hw1⟩ := hW9; go_simp; rfl))
      (refine anyD_light (i := 11) (v := ?_) rfl (by kernel_rfl) (by kernel_rfl) (by kernel_rfl) (by kernel_rfl) (by kernel_rfl) (fun _ _ _ h => h) (.inl ⟨by kernel_rfl, fun W9 hW9 => ?_⟩) hS ?_; rotate_left; · (obtain ⟨hw0, hw1⟩ := hW9; go_simp; rfl))
      (refine anyD_light (i := 12) (v := ?_) rfl (by kernel_rfl) (by kernel_rfl) (by kernel_rfl) (by kernel_rfl) (by kernel_rfl) (fun _ _ _ h => h) (.inl ⟨by kernel_rfl, fun W9 hW9 => ?_⟩) hS ?_; rotate_left; · (obtain ⟨hw0, hw1⟩ := hW9; go_simp; rfl))
      (refine anyD_light (i := 13) (v := ?_) rfl (by kernel_rfl) (by kernel_rfl) (by kernel_rfl) (by kernel_rfl) (by kernel_rfl) (fun _ _ _ h => h) (.inl ⟨by kernel_rfl, fun W9 hW9 => ?_⟩) hS ?_; rotate_left; · (obtain ⟨hw0, hw1⟩ := hW9; go_simp; rfl))
      (refine anyD_light (i := 14) (v := ?_) rfl (by kernel_rfl) (by kernel_rfl) (by kernel_rfl) (by kernel_rfl) (by kernel_rfl) (fun _ _ _ h => h) (.inl ⟨by kernel_rfl, fun W9 hW9 => ?_⟩) hS ?_; rotate_left; · (obtain ⟨hw0, hw1⟩ := hW9; go_simp; rfl))
      go_simp
      refine anyD_done (by kernel_rfl) ?_ _
      go_wp2_with fail
      have hlt := chLetter_ok c (by omega) w1 (HT.out.ext (Hbw.out.trans ((Hbd.out.trans (hbV.mono Hbd.out.size)).mono Hbw.out.size)))
      obtain ⟨t, ht⟩ : ∃ t, Sm.isL c = t := ⟨_, rfl⟩
      rw [ht] at hlt
      have Hlt := Lib.hid hlt; have Hht := Lib.hid ht; have Hcn := Lib.hid (And.intro hc hn)
      rw [hn] at hw1 hw2
      clear hlt ht hc hn hdi hdi2 hS
      refine Hlt.out.mono ?_
      rintro e w2 ⟨rfl, hb2⟩
      have hb02 := Hbd.out.trans ((hbV.trans (hb2.mono hbV.size)).mono Hbd.out.size)
      have hr2 := Hr'.out.ext hb02
      have hbt2 := Hbt.out.trans (But.of_below g hb02)
      have hbw2 := Hbw.out.trans (hb02.mono Hbw.out.size)
      clear hb2 hbV Hlt
      cases t with
      | true =>
        obtain ⟨r0, r1, r2, r3, _⟩ := hr2.1.two
        rw [Hi.out] at r1
        have hw3 : IntKind.i64.wrap ((i : Int) + (n : Int)) = ((i + n : Nat) : Int) := by rw [show (i : Int) + (n : Int) = ((i + n : Nat) : Int) by omega]; exact IntWalk.i64_in _ (by omega)
        have hst := wordS_yes (r := r') hne (by rw [Hcn.out.1]; exact Hht.out)
        rw [Hcn.out.2] at hst
        have Hst := Lib.hid hst; have Hr2 := Lib.hid hr2
        have hc0 := Hr'.out.1.two.2.1
        have Hc0 := Lib.hid hc0
        clear hst hr2 hc0
        go_wp2_with fail
        go_roundw
        case rel =>
          have hmv := Hr2.out.1.move (i + n)
          have hdl : (r'.drop n).length = r'.length - n := List.length_drop
          have hii2 := Hi.out
          have hpos : s.length - (r'.drop n).length = i + n := by omega
          exact ⟨a ++ r'.take n, r'.drop n, Lib.hid ⟨by rw [List.append_assoc, List.take_append_drop]; exact hk.out.1, by rw [hk.out.2.1, Hst.out, List.append_assoc], by rw [hk.out.2.2, Hst.out]⟩, ⟨by rw [hpos]; exact hmv, (List.drop_suffix _ _).trans Hr2.out.2⟩, hbt2.set 1 _⟩
        case measure =>
          have hz := World.cell?_setCell_same w2 ⟨g, 1, none⟩ (.int .i64 ((i : Int) + (n : Int))) r1
          rw [Hc0.out, Hi.out]
          have hii2 := Hi.out
          simp only [hz, Option.getD_some, intOf]
          omega
      | false =>
        have hno : r' = [] ∨ Sm.isL (Lib.decodeL r').1 = false := .inr (by rw [Hcn.out.1]; exact Hht.out)
        have Hno := Lib.hid hno
        clear hno
        go_wp2_with fail
        obtain ⟨wd, rfl⟩ : ∃ W, W = w2 := ⟨_, rfl⟩
        have Hrd := Lib.hid hr2; have Hbd2 := Lib.hid hbt2; have Hdw := Lib.hid hbw2
        clear hr2 hbt2 hbw2 hb02 HSd Hbd Hdec
        have hwn := wordS_no (r := r') Hno.out
        have hra : ra = a := by rw [hk.out.2.1, hwn, List.append_nil]
        have hrb : rb = r' := by rw [hk.out.2.2, hwn]
        have hal : a.length + r'.length = r.length := by rw [hk.out.1, List.length_append]
        have hfr2 := Hfr.out
        have hi2 := Hi.out
        have hfi : fr + a.length = i := by omega
        have hd1 := Hdr.out
        have hd2 : r.take (i - fr) = a := by rw [hk.out.1, ← hfi, Nat.add_sub_cancel_left, List.take_left]
        have hd3 : (fr : Int) ≤ (i : Int) := by omega
        have hd4 : (i : Int) ≤ (s.length : Int) := by omega
        have hd5 : (0 : Int) ≤ (fr : Int) := by omega
        have hd6 : ((i : Int) - (fr : Int)).toNat = i - fr := by omega
        have hal4 : a.length ≤ 4000000 := by omega
        have Hlw := Lib.hid fun V (hb : Below wd.heap.size wd V) => stemLower_ok a hal4 V ((HT.out).ext (Hdw.out.trans (hb.mono Hdw.out.size)))
        have HSd : Hid (∀ W, Below wd.heap.size wd W → W.cell? ⟨g, 0, none⟩ = some (.string (bs s)) ∧ W.cell? ⟨g, 1, none⟩ = some (.int .i64 (i : Int))) := Lib.hid fun W hb => by
          obtain ⟨z0, z1, _⟩ := (Hrd.out.1.ext hb).two
          rw [Hi.out] at z1
          exact ⟨z0, z1⟩
        have hS := HSd.out (wd.drewN 1) (below_drewN' _ _ _)
        have Hra := Lib.hid (And.intro hra hrb)
        clear hwn hra hrb hal hfr2 hi2 hfi hal4
        refine wp_region_D (fun W => W.cell? ⟨g, 0, none⟩ = some (.string (bs s)) ∧ W.cell? ⟨g, 1, none⟩ = some (.int .i64 (i : Int))) (fun _ => false) (by kernel_rfl) ?_
        change anyD _ _ _ _ _ _ _ _ _ (wd.drewN 1)
        have hbV := below_drewN' wd.heap.size wd 1
        generalize wd.drewN 1 = V0 at hS hbV ⊢
        (refine anyD_light (i := 0) (v := ?_) rfl (by kernel_rfl) (by kernel_rfl) (by kernel_rfl) (by kernel_rfl) (by kernel_rfl) (fun _ _ _ h => h) (.inl ⟨by kernel_rfl, fun W9 hW9 => ?_⟩) hS ?_; rotate_left; · (obtain ⟨hw0, hw1⟩ := hW9; go_simp; rfl))
        (refine anyD_light (i := 1) (v := ?_) rfl (by kernel_rfl) (by kernel_rfl) (by kernel_rfl) (by kernel_rfl) (by kernel_rfl) (fun _ _ _ h => h) (.inl ⟨by kernel_rfl, fun W9 hW9 => ?_⟩) hS ?_; rotate_left; · (obtain ⟨hw0, hw1⟩ := hW9; go_simp; rfl))
        (refine anyD_light (i := 2) (v := ?_) rfl (by kernel_rfl) (by kernel_rfl) (by kernel_rfl) (by kernel_rfl) (by kernel_rfl) (fun _ _ _ h => h) (.inl ⟨by kernel_rfl, fun W9 hW9 => ?_⟩) hS ?_; rotate_left; · (obtain ⟨hw0, hw1⟩ := hW9; go_simp; rfl))
        (refine anyD_light (i := 3) (v := ?_) rfl (by kernel_rfl) (by kernel_rfl) (by kernel_rfl) (by kernel_rfl) (by kernel_rfl) (fun _ _ _ h => h) (.inl ⟨by kernel_rfl, fun W9 hW9 => ?_⟩) hS ?_; rotate_left; · (obtain ⟨hw0, hw1⟩ := hW9; go_simp; rfl))
        (refine anyD_light (i := 4) (v := ?_) rfl (by kernel_rfl) (by kernel_rfl) (by kernel_rfl) (by kernel_rfl) (by kernel_rfl) (fun _ _ _ h => h) (.inl ⟨by kernel_rfl, fun W9 hW9 => ?_⟩) hS ?_; rotate_left; · (obtain ⟨hw0, hw1⟩ := hW9; go_simp; rfl))
        (refine anyD_light (i := 5) (v := ?_) rfl (by kernel_rfl) (by kernel_rfl) (by kernel_rfl) (by kernel_rfl) (by kernel_rfl) (fun _ _ _ h => h) (.inl ⟨by kernel_rfl, fun W9 hW9 => ?_⟩) hS ?_; rotate_left; · (obtain ⟨hw0, hw1⟩ := hW9; go_simp; rfl))
        go_simp
        (refine anyD_light (i := 6) (v := ?_) rfl (by kernel_rfl) (by kernel_rfl) (by kernel_rfl) (by kernel_rfl) (by kernel_rfl) (fun _ _ _ h => h) (.inl ⟨by kernel_rfl, fun W9 hW9 => ?_⟩) hS ?_; rotate_left; · (obtain ⟨hw0, hw1⟩ := hW9; go_simp; rfl))
        (refine anyD_light (i := 7) (v := ?_) rfl (by kernel_rfl) (by kernel_rfl) (by kernel_rfl) (by kernel_rfl) (by kernel_rfl) (fun _ _ _ h => h) (.inl ⟨by kernel_rfl, fun W9 hW9 => ?_⟩) hS ?_; rotate_left; · (obtain ⟨hw0, hw1⟩ := hW9; go_simp; rfl))
        (refine anyD_light (i := 8) (v := ?_) rfl (by kernel_rfl) (by kernel_rfl) (by kernel_rfl) (by kernel_rfl) (by kernel_rfl) (fun _ _ _ h => h) (.inl ⟨by kernel_rfl, fun W9 hW9 => ?_⟩) hS ?_; rotate_left; · (obtain ⟨hw0, hw1⟩ := hW9; go_simp; rfl))
        (refine anyD_light (i := 9) (v := ?_) rfl (by kernel_rfl) (by kernel_rfl) (by kernel_rfl) (by kernel_rfl) (by kernel_rfl) (fun _ _ _ h => h) (.inl ⟨by kernel_rfl, fun W9 hW9 => ?_⟩) hS ?_; rotate_left; · (obtain ⟨hw0, hw1⟩ := hW9; go_simp; rfl))
        go_simp
        refine anyD_one (i := 10) (by kernel_rfl) rfl rfl (fun K hK => ?_)
        have HK := Lib.hid hK
        clear hK
        have hlw := Hlw.out V0 hbV
        have Hlc := Lib.hid hlw
        clear hlw
        unfold Oper.wp
        go_simp
        refine (Hlc.out).mono ?_
        rintro e w1 ⟨rfl, hb1⟩
        replace hbV := hbV.trans (hb1.mono hbV.size)
        clear hb1 hS Hlc
        have hS := HSd.out _ hbV
        refine HK.out _ _ (fun _ => hS) ?_
        clear HK
        (refine anyD_light (i := 11) (v := ?_) rfl (by kernel_rfl) (by kernel_rfl) (by kernel_rfl) (by kernel_rfl) (by kernel_rfl) (fun _ _ _ h => h) (.inl ⟨by kernel_rfl, fun W9 hW9 => ?_⟩) hS ?_; rotate_left; · (obtain ⟨hw0, hw1⟩ := hW9; go_simp; rfl))
        go_simp
        refine anyD_done (by kernel_rfl) ?_ _
        go_wp2_with fail
        go_ret
        exact ⟨by rw [Hra.out.1]; rfl, by rw [Hra.out.2]; exact Hrd.out.ext hbV, Hbd2.out.trans (But.of_below g hbV)⟩
end Go.Proofs.YtihhgmpanfboaaaGreatDoor
