/-
  Contracts and plain facts, one after another: The reference of the reader: is, skip; The reference of the reader, plain: where it stops, what it makes of the reader's results; a character at a place; The reference of the reader: whole, character, word; The reference of the reader: joined.
-/
import Derived.Test.YtihhgmpanfboaaaGreatDoorK17
import Derived.Test.YtihhgmpanfboaaaGreatDoorK4
import Derived.Test.YtihhgmpanfboaaaGreatDoorK13
import Derived.Test.YtihhgmpanfboaaaGreatDoorK12
namespace Go.Proofs.YtihhgmpanfboaaaGreatDoor
open Go.RowKit
set_option linter.unusedVariables false
theorem fis_ok (s r : Str) (hr : r <:+ s) (hs : s.length ≤ 4000) (c : UInt8) (hc : c ≠ 0) (w : World) : Calls Tryz.prog 45 #[.string (bs s), .int .i64 ((s.length - r.length : Nat) : Int), .int .u8 (c.toNat : Int)] w fun e w' => e = .returned (.bool (r.headD 0 == c)) ∧ Below w.heap.size w w' := by
  have hb := suf_byte hr
  have hl := hr.length_le
  obtain ⟨i, hi⟩ : ∃ i, s.length - r.length = i := ⟨_, rfl⟩
  rw [hi] at hb ⊢
  cases r with
  | nil =>
    have hge : ¬ (i : Int) < (s.length : Int) := by simp only [List.length_nil] at hi; omega
    have hf : (([] : Str).headD 0 == c) = false := by simpa using fun e : 0 = c => hc e.symm
    rw [hf]
    clear hb hr hl hi hf
    go_enter Tryz.func45, Tryz.ntmps45
    go_wp2_with fail
    go_ret
    exact ⟨rfl, Below.refl _ _⟩
  | cons x t =>
    rw [List.length_cons] at hl hi
    have hlt : i < s.length := by omega
    have hxe : byteAt s i = s[i] := by simp [byteAt, List.getD, hlt]
    rw [hxe, List.headD_cons] at hb
    have hget : (bs s)[i]'(by simpa using hlt) = x := (bs_get s i (by simpa using hlt)).trans hb
    have hi0 : (0 : Int) ≤ (i : Int) := by omega
    have hi1 : (i : Int) < (s.length : Int) := by omega
    rw [List.headD_cons]
    obtain ⟨b, hbq⟩ : ∃ b, (x == c) = b := ⟨_, rfl⟩
    have hbi : ((x.toNat : Int) == (c.toNat : Int)) = b := by
      rw [← hbq]
      by_cases h : x = c
      · subst h; simp
      · have : x.toNat ≠ c.toNat := fun e => h (UInt8.toNat_inj.1 e)
        rw [show (x == c) = false by simpa using h, beq_eq_false_iff_ne]; omega
    rw [hbq]
    clear hb hr hl hi hxe hbq hc
    go_enter Tryz.func45, Tryz.ntmps45
    go_wp2_with fail
    go_ret
    exact ⟨rfl, Below.refl _ _⟩
set_option maxRecDepth 100000 in
set_option maxHeartbeats 4000000 in
theorem fskip_ok (s r : Str) (hr : r <:+ s) (hs : s.length ≤ 4000) (w : World) : Calls Tryz.prog 60 #[.string (bs s), .int .i64 ((s.length - r.length : Nat) : Int)] w fun e w' => e = .returned (.int .i64 ((s.length - (Q.skipS r).length : Nat) : Int)) ∧ Below w.heap.size w w' := by
  obtain ⟨res, hres⟩ : ∃ x, Q.skipS r = x := ⟨_, rfl⟩
  rw [hres]
  have Hres := Lib.hid hres; have Hr := Lib.hid hr
  obtain ⟨i0, hi0⟩ : ∃ i, s.length - r.length = i := ⟨_, rfl⟩
  rw [hi0]
  have Hi0 := Lib.hid hi0
  clear hres hr hi0
  go_enter Tryz.func60, Tryz.ntmps60
  go_wp2_with fail
  go_loopw [1] (fun iv wr => ∃ (r' : Str) (i : Nat), iv = .int .i64 (i : Int) ∧ Hid (s.length - r'.length = i) ∧ Hid (Q.skipS r' = res) ∧ r' <:+ s ∧ Below w.heap.size w wr) (fun iv _ => s.length - (intOf iv).toNat)
  case atStart => exact ⟨r, i0, rfl, Hi0, Hres, Hr.out, Below.refl _ _⟩
  case round =>
    obtain ⟨r', i, rfl, hi, hk, hr', hb⟩ := hrel
    have hl := hr'.length_le
    have hbt := suf_byte hr'
    rw [hi.out] at hbt
    have hge0 : (0 : Int) ≤ (i : Int) := by omega
    cases r' with
    | nil =>
      have hge : ¬ (i : Int) < (s.length : Int) := by have := hi.out; simp only [List.length_nil] at this; omega
      have he : res = [] := by rw [← hk.out]; rfl
      have hie : i = s.length := by have := hi.out; simp only [List.length_nil] at this; omega
      have He := Lib.hid he; have Hie := Lib.hid hie
      clear he hie hbt hl hr'
      go_wp2_with fail
      go_ret
      exact ⟨by rw [He.out, Hie.out]; rfl, hb⟩
    | cons x t =>
      have hi' := hi.out
      rw [List.length_cons] at hl hi'
      have hlt : i < s.length := by omega
      have hxe : byteAt s i = s[i] := by simp [byteAt, List.getD, hlt]
      rw [hxe, List.headD_cons] at hbt
      have hget : (bs s)[i]'(by simpa using hlt) = x := (bs_get s i (by simpa using hlt)).trans hbt
      have hi1 : (i : Int) < (s.length : Int) := by omega
      obtain ⟨hs1, hs2⟩ := suf_tail hr'
      rw [hi.out] at hs2
      by_cases h32 : x = 32
      · subst h32
        have hbi : (((32 : UInt8).toNat : Int) == 32) = true := rfl
        have hw : IntKind.i64.wrap ((i : Int) + 1) = ((i + 1 : Nat) : Int) := by rw [show (i : Int) + 1 = ((i + 1 : Nat) : Int) by omega]; exact IntWalk.i64_in _ (by omega)
        have Hs2 := Lib.hid hs2; have Hs1 := Lib.hid hs1
        clear hs2 hs1 hbt hxe hi'
        go_wp2_with fail
        go_roundw
        case rel => exact ⟨t, i + 1, rfl, Lib.hid Hs2.out, Lib.hid hk.out, Hs1.out, hb⟩
        case measure => simp [intOf]; omega
      · have hbi : ((x.toNat : Int) == 32) = false := by
          have : x.toNat ≠ 32 := fun e => h32 (UInt8.toNat_inj.1 e)
          rw [beq_eq_false_iff_ne]; omega
        have he : res = x :: t := by rw [← hk.out]; exact skipS_stop (by rw [List.headD_cons]; exact h32)
        have He := Lib.hid he
        clear he hs2 hs1 hbt hxe hi'
        go_wp2_with fail
        go_ret
        exact ⟨by rw [He.out, hi.out]; rfl, hb⟩
end Go.Proofs.YtihhgmpanfboaaaGreatDoor
namespace Go.Proofs.YtihhgmpanfboaaaGreatDoor
set_option linter.unusedVariables false
open Go.Lib
namespace Q
/-- where the reference's conjunction stops -/
def Halt (r : Str) : Prop := r = [] ∨ r.headD 0 = 124 ∨ r.headD 0 = 41
instance (r : Str) : Decidable (Halt r) := by unfold Halt; infer_instance
/-- nothing begins there, though the text goes on -/
def Stuck (u : Str) : Prop := ¬ Halt u ∧ begins u = false
instance (r : Str) : Decidable (Stuck r) := by unfold Stuck; infer_instance
/-- the reference's result, by the reader's -/
def fin : Res → Res
  | .ok q u => if Stuck u then .err u else .ok q u
  | .err u => .err u
/-- where nothing begins there is no term -/
def Idle (T : Str → Res) : Prop := ∀ r, begins r = false → T r = .err r
theorem begins_go {r : Str} (h : begins r = true) : ¬ Halt r := by
  unfold begins at h
  rintro (e | e | e)
  · subst e; cases h
  · cases r with
    | nil => cases e
    | cons c t =>
      rw [List.headD_cons] at e
      subst e
      rw [Sm.decode_ascii' 124 t (by decide), List.headD_cons] at h
      have h2 := (Bool.and_eq_true_iff.1 h).2
      exact absurd h2 (by decide +kernel)
  · cases r with
    | nil => cases e
    | cons c t =>
      rw [List.headD_cons] at e
      subst e
      rw [Sm.decode_ascii' 41 t (by decide), List.headD_cons] at h
      have h2 := (Bool.and_eq_true_iff.1 h).2
      exact absurd h2 (by decide +kernel)
theorem begins_halt {r : Str} (h : Halt r) : begins r = false := by
  cases hb : begins r with
  | false => rfl
  | true => exact absurd h (begins_go hb)
/-- the rest of a conjunction, as the reference reads it -/
def cj (T : Str → Res) (l : List Q) (r : Str) : Res :=
  if l = [] then (match T r with | .ok q u => fin (both1 T [q] (skipS u)) | .err u => .err u) else fin (both1 T l r)
theorem cj_start {T : Str → Res} (hT : Short T) (r : Str) : fin (bothOf T r) = cj T [] (skipS r) := by
  rw [bothOf_eq hT, cj, if_pos rfl]
  cases T (skipS r) <;> rfl
theorem cj_end {T : Str → Res} {l : List Q} {r : Str} (hl : l ≠ []) (h : Halt r) : cj T l r = .ok (several 6 l) r := by
  rw [cj, if_neg hl, both1_end (begins_halt h), fin, if_neg (fun e => e.1 h)]
theorem cj_err {T : Str → Res} (hI : Idle T) {l : List Q} {r u : Str} (h : l = [] ∨ ¬ Halt r) (ht : T r = .err u) : cj T l r = .err u := by
  by_cases hl : l = []
  · rw [cj, if_pos hl, ht]
  · have h := h.resolve_left hl
    rw [cj, if_neg hl]
    cases hb : begins r with
    | true => rw [both1_err hb ht]; rfl
    | false =>
      rw [hI r hb] at ht
      injection ht with ht
      subst ht
      rw [both1_end hb, fin, if_pos ⟨h, hb⟩]
theorem cj_ok {T : Str → Res} (hT : Short T) (hI : Idle T) {l : List Q} {r u : Str} {q : Q} (h : l = [] ∨ ¬ Halt r) (ht : T r = .ok q u) : cj T l r = cj T (l ++ [q]) (skipS u) := by
  by_cases hl : l = []
  · rw [cj, if_pos hl, ht, hl, List.nil_append, cj, if_neg (by simp)]
  · rw [cj, if_neg hl]
    cases hb : begins r with
    | true => rw [both1_ok hT hb ht, cj, if_neg (by simp)]
    | false => rw [hI r hb] at ht; cases ht
theorem fin_err {R : Res} {u : Str} (h : R = .err u) : fin R = .err u := by rw [h]; rfl
theorem fin_ok {R : Res} {q : Q} {u : Str} (h : fin R = .ok q u) : R = .ok q u ∧ ¬ Stuck u := by
  cases R with
  | err u2 => cases h
  | ok q2 u2 =>
    rw [fin] at h
    split at h
    · cases h
    · injection h with h1 h2
      subst h1 h2
      exact ⟨rfl, by assumption⟩
/-- the rest of a disjunction -/
def dj (T : Str → Res) (l : List Q) (r : Str) : Res := fin (either1 T l r)
theorem dj_start {T : Str → Res} (hT : Short T) {r u : Str} {q : Q} (h : fin (bothOf T r) = .ok q u) : fin (eitherOf T r) = dj T [q] u ∧ ¬ Stuck u := by
  rw [eitherOf_eq hT]
  cases hb : bothOf T r with
  | err u2 => rw [hb] at h; cases h
  | ok q2 u2 =>
    rw [hb, fin] at h
    split at h
    · cases h
    · injection h with h1 h2
      subst h1 h2
      exact ⟨rfl, by assumption⟩
theorem dj_bad {T : Str → Res} (hT : Short T) {r u : Str} (h : fin (bothOf T r) = .err u) : fin (eitherOf T r) = .err u := by
  rw [eitherOf_eq hT]
  cases hb : bothOf T r with
  | err u2 => rw [hb] at h; exact h
  | ok q2 u2 =>
    rw [hb, fin] at h
    split at h
    · rename_i hs
      injection h with h
      subst h
      dsimp only
      rw [either1_end (fun e => hs.1 (.inr (.inl e))), fin, if_pos hs]
    · cases h
theorem dj_end {T : Str → Res} {l : List Q} {r : Str} (hs : ¬ Stuck r) (h : r.headD 0 ≠ 124) : dj T l r = .ok (several 7 l) r := by
  rw [dj, either1_end h, fin, if_neg hs]
theorem dj_err {T : Str → Res} (hT : Short T) {l : List Q} {t u : Str} (h : fin (bothOf T t) = .err u) : dj T l (124 :: t) = .err u := by
  rw [dj]
  cases hb : bothOf T t with
  | err u2 => rw [hb] at h; rw [either1_err hb]; exact h
  | ok q2 u2 =>
    rw [hb, fin] at h
    split at h
    · rename_i hs
      injection h with h
      subst h
      rw [either1_ok hT hb, either1_end (fun e => hs.1 (.inr (.inl e))), fin, if_pos hs]
    · cases h
theorem dj_ok {T : Str → Res} (hT : Short T) {l : List Q} {t u : Str} {q : Q} (h : fin (bothOf T t) = .ok q u) : dj T l (124 :: t) = dj T (l ++ [q]) u ∧ ¬ Stuck u := by
  cases hb : bothOf T t with
  | err u2 => rw [hb] at h; cases h
  | ok q2 u2 =>
    rw [hb, fin] at h
    split at h
    · cases h
    · injection h with h1 h2
      subst h1 h2
      exact ⟨by rw [dj, either1_ok hT hb]; rfl, by assumption⟩
/-- what is read in brackets is the same -/
theorem fin_paren (R : Res) : (match fin R with | .ok q u => (if u.headD 0 = 41 then Res.ok q u.tail else .err u) | .err u => .err u) = (match R with | .ok q u => (if u.headD 0 = 41 then Res.ok q u.tail else .err u) | .err u => .err u) := by
  cases R with
  | err u => rfl
  | ok q u =>
    rw [fin]
    by_cases hs : Stuck u
    · rw [if_pos hs]
      dsimp only
      rw [if_neg (fun e => hs.1 (.inr (.inr e)))]
    · rw [if_neg hs]
theorem fin_top (R : Res) : (match fin R with | .ok q [] => Res.ok q [] | .ok q u => .err u | .err u => .err u) = (match R with | .ok q [] => Res.ok q [] | .ok q u => .err u | .err u => .err u) := by
  cases R with
  | err u => rfl
  | ok q u =>
    rw [fin]
    by_cases hs : Stuck u
    · rw [if_pos hs]
      cases u with
      | nil => exact absurd (.inl rfl) hs.1
      | cons c t => rfl
    · rw [if_neg hs]
theorem idle_term : ∀ f : Nat, Idle (termS f)
  | 0 => fun r _ => rfl
  | f + 1 => fun r h => by
    by_cases hr : r = []
    · subst hr; rfl
    · unfold begins at h
      have h0 : (r == []) = false := by simpa using hr
      rw [h0, Bool.not_false, Bool.true_and] at h
      simp only [Bool.or_eq_false_iff, beq_eq_false_iff_ne] at h
      obtain ⟨h1, h2, h3, h4, h5⟩ := h
      rw [termS_wd f h2 h3 h4 h5]
      unfold wordTerm
      rw [if_pos (by rw [wordS_no (.inr h1)])]
/-- the length of a letter at the beginning, or none -/
def chN (r : Str) : Nat := if r ≠ [] ∧ Sm.isL (decodeL r).1 = true then (decodeL r).2 else 0
theorem words_whole {t : Str} (hne : t ≠ []) (h : (decodeL t).2 = t.length) : Sm.words t = if Sm.isL (decodeL t).1 then [Sm.lower t] else [] := by
  unfold Sm.words Sm.rawWords
  show (Sm.wordsFrom [] t).map Sm.lower = _
  rw [Sm.wordsFrom_step hne, h, List.drop_length, List.take_length, Sm.wordsFrom_nil, Sm.wordsFrom_nil]
  cases Sm.isL (decodeL t).1 <;> simp [hne]
theorem letter_dec {r : Str} (hne : r ≠ []) (h : Sm.isL (decodeL r).1 = true) : Sm.validR (decodeL r).1 ∧ r.take (decodeL r).2 = encodeRune ((decodeL r).1 : Int) :=
  Sm.decode_encode r hne fun e => by rw [e, Sm.isL_bad'] at h; cases h
/-- a letter is cut out just where it ends -/
theorem cut_letter {r : Str} {m : Nat} (h1 : 1 ≤ m) (hm : m ≤ r.length) : ((decodeL (r.take m)).2 = m ∧ Sm.isL (decodeL (r.take m)).1 = true) ↔ (Sm.isL (decodeL r).1 = true ∧ (decodeL r).2 = m) := by
  have hne : r ≠ [] := fun e => by rw [e, List.length_nil] at hm; omega
  have hnm : r.take m ≠ [] := fun e => by have := congrArg List.length e; rw [List.length_take, List.length_nil] at this; omega
  constructor
  · rintro ⟨ha, hb⟩
    obtain ⟨hv, he⟩ := letter_dec hnm hb
    rw [ha, List.take_take, Nat.min_self] at he
    have hd := Sm.encode_decode _ hv (r.drop m)
    rw [← he, List.take_append_drop] at hd
    rw [hd]
    exact ⟨hb, by rw [List.length_take]; omega⟩
  · rintro ⟨ha, hb⟩
    obtain ⟨hv, he⟩ := letter_dec hne ha
    rw [hb] at he
    have hd := Sm.encode_decode _ hv []
    rw [List.append_nil, ← he] at hd
    rw [hd]
    exact ⟨by rw [List.length_take]; omega, ha⟩
theorem letter_short {r : Str} (hne : r ≠ []) (h : Sm.isL (decodeL r).1 = true) : (decodeL r).2 ≤ 4 := by
  obtain ⟨hv, he⟩ := letter_dec hne h
  have h1 := congrArg List.length he
  have h2 := Sm.width_le hne
  have h3 := runeCells_le ((decodeL r).1 : Int)
  rw [runeCells_length] at h3
  rw [List.length_take] at h1
  omega
end Q
end Go.Proofs.YtihhgmpanfboaaaGreatDoor
namespace Go.Proofs.YtihhgmpanfboaaaGreatDoor
open Go.RowKit
set_option linter.unusedVariables false
set_option maxRecDepth 100000 in
set_option maxHeartbeats 4000000 in
theorem whole_ok (t : Str) (hne : t ≠ []) (ht : t.length ≤ 4000) (w : World) : Calls Tryz.prog 121 #[.string (bs t)] w fun e w' => e = .returned (.bool ((Lib.decodeL t).2 == t.length)) ∧ Below w.heap.size w w' := by
  obtain ⟨d, hd⟩ : ∃ d, (Lib.decodeL t).2 = d := ⟨_, rfl⟩
  have hd1 := Lib.decodeL_width t
  have hd2 := Sm.width_le hne
  have hpos := List.length_pos_iff.2 hne
  rw [hd] at hd1 hd2 ⊢
  have Hd := Lib.hid hd
  clear hd hne
  go_enter Tryz.func121, Tryz.ntmps121
  go_wp2
  go_loopw [3] (fun v wr => ∃ (pos n : Nat), v = .int .i64 (n : Int) ∧ pos ≤ t.length ∧ n ≤ pos ∧ ((n = 0 ∧ pos = 0) ∨ (n = 1 ∧ pos = d) ∨ (2 ≤ n ∧ d < t.length)) ∧ wr.heap[w.heap.size]? = some (.stringIter (bs t) pos) ∧ Below w.heap.size w wr) (fun _ wr => t.length - wr.iterPos w.heap.size)
  case atStart =>
    refine ⟨0, 0, rfl, Nat.zero_le _, Nat.le_refl _, .inl ⟨rfl, rfl⟩, ?_, ?_⟩
    · exact heap_alloc_new w _
    · exact (Below.refl _ _).alloc (Nat.le_refl _) _
  case round =>
    obtain ⟨pos, n, rfl, hp, hn, hk, hit, hb⟩ := hrel
    have hpp0 := Lib.hid (iterPos_of hit)
    by_cases hpl : pos < t.length
    · have hne := drop_ne hpl
      have hdl := Lib.decodeL_drop (bs t) pos
      rw [bs_toList] at hdl
      have hw1 := Lib.decodeL_width (t.drop pos)
      have hw2 := Sm.width_le hne
      rw [List.length_drop] at hw2
      have hnx := fun ty => Lib.run_next_any_at (P := Tryz.prog) wr w.heap.size (bs t) pos ty hit (by rw [bs_size]; exact hpl)
      rw [← hdl] at hnx
      have h0 : pos = 0 → (Lib.decodeL (t.drop pos)).2 = d := fun e => by rw [e, List.drop_zero]; exact Hd.out
      obtain ⟨r1, hrr⟩ : ∃ r, (Lib.decodeL (t.drop pos)).1 = r := ⟨_, rfl⟩
      obtain ⟨m, hmm⟩ : ∃ n, (Lib.decodeL (t.drop pos)).2 = n := ⟨_, rfl⟩
      rw [hrr] at hnx
      rw [hmm] at hw1 hw2 hnx h0
      clear hdl hrr hmm hne
      have hit2 := Lib.iterAt_heap wr w.heap.size (bs t) pos (pos + m) hit
      have hb2 := Lib.below_iterAt hb (Nat.le_refl _) (bs t) (pos + m)
      have hsz := hb.size
      have hlt := (Array.getElem?_eq_some_iff.1 hit).1
      have hsz2 := Lib.iterAt_size wr w.heap.size (bs t) (pos + m)
      obtain ⟨W, hW⟩ : ∃ W, wr.iterAt w.heap.size (bs t) (pos + m) = W := ⟨_, rfl⟩
      rw [hW] at hnx hit2 hb2 hsz2
      have hkn : (n + 1 = 0 ∧ pos + m = 0) ∨ (n + 1 = 1 ∧ pos + m = d) ∨ (2 ≤ n + 1 ∧ d < t.length) := by
        rcases hk with ⟨e1, e2⟩ | ⟨e1, e2⟩ | ⟨e1, e2⟩
        · right; left; have := h0 e2; omega
        · right; right; omega
        · right; right; omega
      have hwr : IntKind.i64.wrap ((n : Int) + 1) = ((n + 1 : Nat) : Int) := by rw [show (n : Int) + 1 = ((n + 1 : Nat) : Int) by omega]; exact IntWalk.i64_in _ (by omega)
      have Hkn := Lib.hid hkn
      have hpp := iterPos_of hit2
      have Hpp := Lib.hid hpp
      clear hW hb hit hk hkn h0 hpp
      go_wp2_with fail
      go_roundw
      case rel => exact ⟨pos + m, n + 1, rfl, by omega, by omega, Hkn.out, hit2, hb2⟩
      case measure => rw [Hpp.out, hpp0.out]; omega
    · have hnx := fun ty => Lib.run_next_end_at (P := Tryz.prog) wr w.heap.size (bs t) pos ty hit (by rw [bs_size]; exact hpl)
      have hres : (d == t.length) = ((n : Int) == 1) := by
        rw [Bool.eq_iff_iff, beq_iff_eq, beq_iff_eq]
        omega
      have Hres := Lib.hid hres
      clear hres hk
      obtain ⟨b, hbq⟩ : ∃ b, ((n : Int) == 1) = b := ⟨_, rfl⟩
      have Hbq := Lib.hid hbq
      go_wp2_with fail
      go_ret
      exact ⟨ret_bool (by rw [Hres.out, Hbq.out]), hb⟩
set_option maxRecDepth 100000 in
set_option maxHeartbeats 4000000 in
theorem character_ok (s r : Str) (hr : r <:+ s) (hs : s.length ≤ 4000) (w : World) (hT : TabsU w) : Calls Tryz.prog 108 #[.string (bs s), .int .i64 ((s.length - r.length : Nat) : Int)] w fun e w' => e = .returned (.int .i64 (Q.chN r : Int)) ∧ Below w.heap.size w w' := by
  have hdi := suf_drop hr
  have hl := hr.length_le
  obtain ⟨i, hi⟩ : ∃ i, s.length - r.length = i := ⟨_, rfl⟩
  rw [hi] at hdi ⊢
  obtain ⟨R, hR⟩ : ∃ R, Q.chN r = R := ⟨_, rfl⟩
  rw [hR]
  have HR := Lib.hid hR; have Hi := Lib.hid hi; have HT := Lib.hid hT; have Hdi := Lib.hid hdi
  clear hR hT hr hi hdi
  go_enter Tryz.func108, Tryz.ntmps108
  go_wp2_with fail
  go_loopw [5] (fun nv wr => ∃ n : Nat, nv = .int .i64 (n : Int) ∧ 1 ≤ n ∧ n ≤ 5 ∧ (r ≠ [] → Sm.isL (Lib.decodeL r).1 = true → n ≤ (Lib.decodeL r).2) ∧ Below w.heap.size w wr) (fun nv _ => 5 - (intOf nv).toNat)
  case atStart => exact ⟨1, rfl, Nat.le_refl _, by omega, fun _ _ => Lib.decodeL_width _, Below.refl _ _⟩
  case round =>
    obtain ⟨n, rfl, h1, h5, hd, hb⟩ := hrel
    have hwr : IntKind.i64.wrap ((i : Int) + (n : Int)) = ((i + n : Nat) : Int) := by rw [show (i : Int) + (n : Int) = ((i + n : Nat) : Int) by omega]; exact IntWalk.i64_in _ (by have := Hi.out; omega)
    by_cases h4 : n ≤ 4
    · have h4i : (n : Int) ≤ 4 := by omega
      by_cases hin : n ≤ r.length
      · have hini : (i : Int) + (n : Int) ≤ (s.length : Int) := by have := Hi.out; omega
        have hdi := Hdi.out
        have hd3 : (i : Int) ≤ (i : Int) + (n : Int) := by omega
        have hd5 : (0 : Int) ≤ (i : Int) := by omega
        have hd6 : ((i : Int) + (n : Int) - (i : Int)).toNat = n := by omega
        have hd7 : i + n - i = n := by omega
        obtain ⟨t, ht⟩ : ∃ t, r.take n = t := ⟨_, rfl⟩
        have htl : t.length = n := by rw [← ht, List.length_take]; omega
        have htne : t ≠ [] := fun e => by rw [e, List.length_nil] at htl; omega
        have hcut := Q.cut_letter h1 hin
        rw [ht] at hcut
        have hrne : r ≠ [] := fun e => by rw [e, List.length_nil] at hin; omega
        have hww := refWords_ok t (by omega) wr (HT.out.ext hb)
        have Hww := Lib.hid hww; have Hcut := Lib.hid hcut; have Hht := Lib.hid htl; have Hd := Lib.hid hd; have Htne := Lib.hid htne; have Hrne := Lib.hid hrne; have Hb := Lib.hid hb
        clear hww hcut htl hd htne hrne hb
        go_wp2_with fail
        refine Hww.out.mono ?_
        rintro e w1 ⟨A, c, L, rfl, hL, own, hb1⟩
        have hwh := whole_ok t Htne.out (by have := Hht.out; omega)
        have Hnext : Hid (¬ ((Lib.decodeL t).2 = n ∧ Sm.isL (Lib.decodeL t).1 = true) → r ≠ [] → Sm.isL (Lib.decodeL r).1 = true → n + 1 ≤ (Lib.decodeL r).2) := Lib.hid fun hno h1 h2 => by
          have h3 := Hd.out h1 h2
          have h4 : (Lib.decodeL r).2 ≠ n := fun e => hno (Hcut.out.2 ⟨h2, e⟩)
          omega
        have hw1 : IntKind.i64.wrap ((n : Int) + 1) = ((n + 1 : Nat) : Int) := by rw [show (n : Int) + 1 = ((n + 1 : Nat) : Int) by omega]; exact IntWalk.i64_in _ (by omega)
        have Hwh := Lib.hid hwh
        clear hwh Hww
        by_cases hdn : (Lib.decodeL t).2 = n
        · have hwl := Q.words_whole Htne.out (hdn.trans Hht.out.symm)
          rw [← hL.out] at hwl
          by_cases hil : Sm.isL (Lib.decodeL t).1 = true
          · rw [if_pos hil] at hwl
            have hRn : R = n := by
              obtain ⟨h1, h2⟩ := Hcut.out.1 ⟨hdn, hil⟩
              rw [← HR.out, Q.chN, if_pos ⟨Hrne.out, h1⟩, h2]
            have hxne : Sm.lower t ≠ [] := fun e => Htne.out (lower_none e)
            have hpx := List.length_pos_iff.2 hxne
            obtain ⟨x, hx⟩ : ∃ x, Sm.lower t = x := ⟨_, rfl⟩
            rw [hx] at hwl hpx
            subst hwl
            obtain ⟨b, off, rfl, _, _, p0, _⟩ := own.read0.strAt (k := 0) (by simp)
            simp only [List.getElem_cons_zero, Nat.add_zero] at p0
            have hgt : (0 : Int) < (x.length : Int) := by omega
            have hw2 := Hwh.out w1
            rw [show ((Lib.decodeL t).2 == t.length) = true by rw [beq_iff_eq]; exact hdn.trans Hht.out.symm] at hw2
            have Hw2 := Lib.hid hw2; have Hrn := Lib.hid hRn; have Hb1 := Lib.hid hb1
            clear hw2 hRn hxne hx own hL hil hdn hb1
            go_wp2_with fail
            refine Hw2.out.mono ?_
            rintro e w2 ⟨rfl, hb2⟩
            go_wp2_with fail
            go_ret
            exact ⟨by rw [Hrn.out]; rfl, (Hb.out.trans (Hb1.out.mono Hb.out.size)).trans (hb2.mono (Nat.le_trans Hb.out.size Hb1.out.size))⟩
          · rw [if_neg hil] at hwl
            subst hwl
            have Hil := Lib.hid hil; have Hb1 := Lib.hid hb1
            clear own hL hil hdn hb1
            go_wp2_with fail
            go_roundw
            case rel => exact ⟨n + 1, rfl, by omega, by omega, Hnext.out (fun e => Hil.out e.2), Hb.out.trans (Hb1.out.mono Hb.out.size)⟩
            case measure => simp [intOf]; omega
        · have hno : ¬ ((Lib.decodeL t).2 = n ∧ Sm.isL (Lib.decodeL t).1 = true) := fun e => hdn e.1
          have Hno := Lib.hid hno; have Hb1 := Lib.hid hb1
          have hw2 := fun V => Hwh.out V
          rw [show ((Lib.decodeL t).2 == t.length) = false by rw [beq_eq_false_iff_ne]; exact fun e => hdn (e.trans Hht.out)] at hw2
          have Hw2 := Lib.hid hw2
          clear hno hb1 hdn hw2 hL
          match L, own with
          | [], own =>
            clear own
            go_wp2_with fail
            go_roundw
            case rel => exact ⟨n + 1, rfl, by omega, by omega, Hnext.out (Hno.out), Hb.out.trans (Hb1.out.mono Hb.out.size)⟩
            case measure => simp [intOf]; omega
          | x :: y :: z, own =>
            have hl2 : (((x :: y :: z).length : Int) == 1) = false := by rw [beq_eq_false_iff_ne]; simp only [List.length_cons]; omega
            clear own
            go_wp2_with fail
            go_roundw
            case rel => exact ⟨n + 1, rfl, by omega, by omega, Hnext.out (Hno.out), Hb.out.trans (Hb1.out.mono Hb.out.size)⟩
            case measure => simp [intOf]; omega
          | [x], own =>
            obtain ⟨b, off, rfl, _, _, p0, _⟩ := own.read0.strAt (k := 0) (by simp)
            simp only [List.getElem_cons_zero, Nat.add_zero] at p0
            by_cases hx0 : 0 < x.length
            · have hgt : (0 : Int) < (x.length : Int) := by omega
              clear own
              go_wp2_with fail
              refine (Hw2.out w1).mono ?_
              rintro e w2 ⟨rfl, hb2⟩
              have Hb2 := Lib.hid (Hb1.out.trans (hb2.mono Hb1.out.size))
              clear hb2
              go_wp2_with fail
              go_roundw
              case rel => exact ⟨n + 1, rfl, by omega, by omega, Hnext.out (Hno.out), Hb.out.trans (Hb2.out.mono Hb.out.size)⟩
              case measure => simp [intOf]; omega
            · have hgt : ¬ (0 : Int) < (x.length : Int) := by omega
              clear own
              go_wp2_with fail
              go_roundw
              case rel => exact ⟨n + 1, rfl, by omega, by omega, Hnext.out (Hno.out), Hb.out.trans (Hb1.out.mono Hb.out.size)⟩
              case measure => simp [intOf]; omega
      · have hini : ¬ (i : Int) + (n : Int) ≤ (s.length : Int) := by have := Hi.out; omega
        have hz : R = 0 := by
          rw [← HR.out, Q.chN]
          split
          · rename_i hh
            have h1 := hd hh.1 hh.2
            have h2 := Sm.width_le hh.1
            omega
          · rfl
        have Hz := Lib.hid hz; have Hb := Lib.hid hb
        clear hz hd hb
        go_wp2_with fail
        go_ret
        exact ⟨by rw [Hz.out]; rfl, Hb.out⟩
    · have h4i : ¬ (n : Int) ≤ 4 := by omega
      have hz : R = 0 := by
        rw [← HR.out, Q.chN]
        split
        · rename_i hh
          have h1 := hd hh.1 hh.2
          have h2 := Q.letter_short hh.1 hh.2
          omega
        · rfl
      have Hz := Lib.hid hz; have Hb := Lib.hid hb
      clear hz hd hb
      go_wp2_with fail
      go_ret
      exact ⟨by rw [Hz.out]; rfl, Hb.out⟩
set_option maxRecDepth 100000 in
set_option maxHeartbeats 4000000 in
theorem fword_ok (s r : Str) (hr : r <:+ s) (hs : s.length ≤ 4000) (w : World) (hT : TabsU w) : Calls Tryz.prog 86 #[.string (bs s), .int .i64 ((s.length - r.length : Nat) : Int)] w fun e w' => e = .returned (.int .i64 ((s.length - (Q.wordS r).2.length : Nat) : Int)) ∧ Below w.heap.size w w' := by
  obtain ⟨res, hres⟩ : ∃ x, (Q.wordS r).2 = x := ⟨_, rfl⟩
  rw [hres]
  have Hres := Lib.hid hres; have Hr := Lib.hid hr; have HT := Lib.hid hT
  obtain ⟨i0, hi0⟩ : ∃ i, s.length - r.length = i := ⟨_, rfl⟩
  rw [hi0]
  have Hi0 := Lib.hid hi0
  clear hres hr hi0 hT
  go_enter Tryz.func86, Tryz.ntmps86
  go_wp2_with fail
  go_loopw [1] (fun iv wr => ∃ (r' : Str) (i : Nat), iv = .int .i64 (i : Int) ∧ Hid (s.length - r'.length = i) ∧ Hid ((Q.wordS r').2 = res) ∧ Hid (r' <:+ s) ∧ Below w.heap.size w wr) (fun iv _ => s.length - (intOf iv).toNat)
  case atStart => exact ⟨r, i0, rfl, Hi0, Hres, Hr, Below.refl _ _⟩
  case round =>
    obtain ⟨r', i, rfl, hi, hk, hr', hb⟩ := hrel
    have hch := fun V (hv : Below wr.heap.size wr V) => character_ok s r' hr'.out hs V (HT.out.ext (hb.trans (hv.mono hb.size)))
    rw [hi.out] at hch
    obtain ⟨n, hn⟩ : ∃ n, Q.chN r' = n := ⟨_, rfl⟩
    rw [hn] at hch
    have Hch := Lib.hid hch; have Hn := Lib.hid hn
    clear hch hn
    go_wp2_with fail
    refine (Hch.out wr (Below.refl _ _)).mono ?_
    rintro e w1 ⟨rfl, hb1⟩
    by_cases h0 : n = 0
    · subst h0
      have he : res = r' := by
        have h1 := Hn.out
        have h2 := Lib.decodeL_width r'
        rw [← hk.out, wordS_no]
        unfold Q.chN at h1
        split at h1
        · omega
        · rename_i hh
          by_cases hne : r' = []
          · exact .inl hne
          · exact .inr (by cases hx : Sm.isL (Lib.decodeL r').1 with
              | false => rfl
              | true => exact absurd ⟨hne, hx⟩ hh)
      have He := Lib.hid he
      clear he
      go_wp2_with fail
      go_ret
      exact ⟨by rw [He.out, hi.out]; rfl, hb.trans (hb1.mono hb.size)⟩
    · have hy : r' ≠ [] ∧ Sm.isL (Lib.decodeL r').1 = true ∧ (Lib.decodeL r').2 = n := by
        have h1 := Hn.out
        unfold Q.chN at h1
        split at h1
        · rename_i hh; exact ⟨hh.1, hh.2, h1⟩
        · omega
      have hpos : (0 : Int) < (n : Int) := by omega
      have hst := wordS_yes hy.1 hy.2.1
      have hle := Sm.width_le hy.1
      rw [hy.2.2] at hst hle
      have hl := hr'.out.length_le
      have hi2 := hi.out
      have hw : IntKind.i64.wrap ((i : Int) + (n : Int)) = ((i + n : Nat) : Int) := by rw [show (i : Int) + (n : Int) = ((i + n : Nat) : Int) by omega]; exact IntWalk.i64_in _ (by omega)
      have hrel2 : s.length - (r'.drop n).length = i + n := by rw [List.length_drop]; omega
      have Hst := Lib.hid hst; have Hrel := Lib.hid hrel2; have Hb01 := Lib.hid (hb.trans (hb1.mono hb.size))
      have Hin := Lib.hid (show i + n ≤ s.length by omega)
      have Hb1 := Lib.hid hb1
      clear hst hrel2 hy hi2 hl hle hb1
      go_wp2_with fail
      refine (Hch.out w1 Hb1.out).mono ?_
      rintro e w2 ⟨rfl, hb2⟩
      go_wp2_with fail
      go_roundw
      case rel => exact ⟨r'.drop n, i + n, rfl, Lib.hid Hrel.out, Lib.hid (by rw [← hk.out, Hst.out]), Lib.hid ((List.drop_suffix _ _).trans hr'.out), Hb01.out.trans (hb2.mono Hb01.out.size)⟩
      case measure => have := Hin.out; simp [intOf]; omega
end Go.Proofs.YtihhgmpanfboaaaGreatDoor
namespace Go.Proofs.YtihhgmpanfboaaaGreatDoor
open Go.RowKit
set_option linter.unusedVariables false
set_option maxRecDepth 100000 in
set_option maxHeartbeats 4000000 in
theorem joined_ok (f : Nat) (M : Nat → Prop) (k : Int) (v : Value) (l : List Q) (w : World) (h : SlR (qF f) M w v l) (hl : l ≠ []) (hk : 0 ≤ k ∧ k ≤ 10) : Calls Tryz.prog 46 #[.int .i64 k, v] w fun e w' => ∃ v', e = .returned v' ∧ QAt f M w' v' (Q.several k l) ∧ Below w.heap.size w w' := by
  obtain ⟨A, c, rfl, _, _⟩ := h.form
  obtain ⟨W, g, hW, hg, hs, kr, hal⟩ := boxA w #[.int .i64 0, .string ⟨#[]⟩, .int .i64 0, .slice none 0 0] 24
  obtain ⟨r0, r1, r2, r3, _⟩ := kr.four
  have f0 := kr.frozen 0; have f1 := kr.frozen 1; have f2 := kr.frozen 2; have f3 := kr.frozen 3
  rw [← hW, ← hg] at r0 r1 r2 r3 f0 f1 f2 f3
  have HW := Lib.hid hW
  by_cases h1 : l.length = 1
  · obtain ⟨q, rfl⟩ := List.length_eq_one_iff.1 h1
    have h' := h.ext hal
    obtain ⟨b, off, e, A2, c2, rfl, rfl, hMb, hb, s0, s1, s2, s3, hqa⟩ := h.qAt (k := 0) (by simp)
    simp only [List.getElem_cons_zero, Nat.zero_mul, Nat.add_zero] at s0 s1 s2 s3 hqa
    have hsv : Q.several k [q] = q := rfl
    rw [hsv]
    replace s0 := (hal.cell hb).trans s0
    replace s1 := (hal.cell hb).trans s1
    replace s2 := (hal.cell hb).trans s2
    replace s3 := (hal.cell hb).trans s3
    rw [← hW] at s0 s1 s2 s3
    obtain ⟨W2, g2, hW2, hg2, hs2, k2, hal2⟩ := boxA w #[.int .i64 q.kind, .string (bs q.text), .int .i64 q.num, .slice A2 q.parts.length c2] 24
    have HW2 := Lib.hid hW2; have Hg2 := Lib.hid hg2
    have Hend := Lib.hid (And.intro (hqa.ext hal2) (And.intro k2 hal2))
    clear hqa h h' hl h1 hsv hW hg hs kr hal hW2 hg2 hs2 k2 hal2
    go_enter Tryz.func46, Tryz.ntmps46
    go_wp2_with fail
    rw [HW2.out, Hg2.out]
    obtain ⟨hq2, k2, hal2⟩ := Hend.out
    obtain ⟨z0, z1, z2, z3, _⟩ := k2.four
    exact bodyPost_ret (v := .agg #[.int .i64 q.kind, .string (bs q.text), .int .i64 q.num, .slice A2 q.parts.length c2]) (by simp [results, Tryz.results46, go_sem, z0, z1, z2, z3]) rfl ⟨_, rfl, hq2.mono (Nat.le_succ _), by rw [← Hg2.out]; exact hal2⟩
  · have hn1 : ((l.length : Int) == 1) = false := beq_eq_false_iff_ne.2 (by omega)
    have hsv : Q.several k l = .node k [] 0 l := by
      unfold Q.several
      match l, hl, h1 with
      | [], hl, _ => exact absurd rfl hl
      | [q], _, h1 => exact absurd rfl h1
      | a :: b :: r, _, _ => rfl
    rw [hsv]
    obtain ⟨W2, g2, hW2, hg2, hs2, k2, hal2⟩ := boxA w #[.int .i64 k, .string ⟨#[]⟩, .int .i64 0, .slice A l.length c] 24
    have hq : QAt f M W2 (.agg #[.int .i64 k, .string ⟨#[]⟩, .int .i64 0, .slice A l.length c]) (.node k [] 0 l) := ⟨A, c, rfl, by simp only [Q.kind_node]; omega, by simp [maxLen], by simp, h.ext hal2⟩
    have HW2 := Lib.hid hW2; have Hg2 := Lib.hid hg2
    have Hend := Lib.hid (And.intro hq (And.intro k2 hal2))
    clear hq h hl h1 hsv hW hg hs kr hal hW2 hg2 hs2 k2 hal2
    go_enter Tryz.func46, Tryz.ntmps46
    go_wp2_with fail
    rw [HW2.out, Hg2.out]
    obtain ⟨hq2, k2, hal2⟩ := Hend.out
    obtain ⟨z0, z1, z2, z3, _⟩ := k2.four
    exact bodyPost_ret (v := .agg #[.int .i64 k, .string ⟨#[]⟩, .int .i64 0, .slice A l.length c]) (by simp [results, Tryz.results46, go_sem, z0, z1, z2, z3]) rfl ⟨_, rfl, hq2, by rw [← Hg2.out]; exact hal2⟩
end Go.Proofs.YtihhgmpanfboaaaGreatDoor
