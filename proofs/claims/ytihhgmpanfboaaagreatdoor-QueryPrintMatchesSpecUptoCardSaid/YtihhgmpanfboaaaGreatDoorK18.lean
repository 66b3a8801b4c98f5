/-
  Contracts and plain facts, one after another: The reader of queries: what is deferred by Parse; The parser of queries: how great a query is that is read; plain; The reader of queries: Parse.
-/
import Derived.Test.YtihhgmpanfboaaaGreatDoorK17
import Derived.Test.YtihhgmpanfboaaaGreatDoorK15
import Derived.Recover
import Derived.Stop.Asserts
namespace Go.Proofs.YtihhgmpanfboaaaGreatDoor
open Go.RowKit
set_option linter.unusedVariables false
theorem assert_nil (xT : TypeId) (w : World) : (Instr.typeAssert .nilIface xT 50 true).run Tryz.prog w = .ok (.tuple #[.agg #[.int .i64 0], .bool false]) w := by
  obtain ⟨i, hi, hz⟩ := Option.map_eq_some_iff.1 (by kernel_rfl : (Tryz.prog.info? 50).map (fun i => i.zero) = some (some (.agg #[.int .i64 0])))
  simp [Instr.typeAssert, run_underlying Tryz.underlying50, typeInfo, hi, zeroValue, hz, go_sem]
theorem assert_wrong (xT : TypeId) (v : Value) (w : World) : (Instr.typeAssert (.iface 50 v) xT 50 true).run Tryz.prog w = .ok (.tuple #[v, .bool true]) w := by
  simp [Instr.typeAssert, run_underlying Tryz.underlying50, go_sem]
set_option maxRecDepth 100000 in
set_option maxHeartbeats 4000000 in
theorem caught_idle (gQ gF : Nat) (w : World) : CallsD Tryz.prog 29 #[.pointer (some ⟨gQ, 0, none⟩), .pointer (some ⟨gF, 0, none⟩)] .returning w fun e u' w' => e = .returned (.tuple #[]) ∧ u' = .returning ∧ Below w.heap.size w w' := by
  have ha1 := assert_nil 20 w
  refine callsD_of_wpS Tryz.func29 rfl fun c₀ cs hu => ?_
  apply wpS_seq
  apply wpS_region
  simp [wpOpsS, go_sem, recoverD, hu, Tryz.ntmps29, Exit.thenS]
  refine wpS_of_wp ?_
  change Code.wp _ _ _ { tmps := #[.pointer (some ⟨gQ, 0, none⟩), .pointer (some ⟨gF, 0, none⟩), .nilIface, undef, undef, .nilIface, undef, undef, undef, undef, undef, undef, undef, undef, undef, undef, undef, undef, undef], defers := [] } _
  go_wp2_with fail
  exact ⟨rfl, .returning, by cases c₀; simp_all, _, results_none rfl _ _ _, rfl, rfl, (Below.refl _ _).alloc (Nat.le_refl _) _⟩
set_option maxRecDepth 100000 in
set_option maxHeartbeats 4000000 in
theorem caught_thrown (gQ gF : Nat) (i : Nat) (older : List PanicEntry) (a b c d x y : Value) (w : World) (hQ : Blk w gQ 24 #[a, b, c, d]) (hF : Blk w gF 26 #[x, y]) (hne : gQ ≠ gF) :
    CallsD Tryz.prog 29 #[.pointer (some ⟨gQ, 0, none⟩), .pointer (some ⟨gF, 0, none⟩)] (.panicking ({ v := wrongV i, recovered := false } :: older)) w fun e u' w' => e = .returned (.tuple #[]) ∧ u' = .panicking ({ v := wrongV i, recovered := true } :: older) ∧
      Blk w' gQ 24 #[.int .i64 0, .string ⟨#[]⟩, .int .i64 0, .slice none 0 0] ∧ Blk w' gF 26 #[.int .i64 11, .int .i64 (i : Int)] ∧ ∀ B, B ≤ gQ → B ≤ gF → B ≤ w.heap.size → Below B w w' := by
  unfold wrongV
  obtain ⟨z0, z1, z2, z3, hz⟩ := hQ.four
  obtain ⟨y0, y1, y2, y3, _⟩ := hF.two
  have f0 := hQ.frozen 0; have f1 := hQ.frozen 1; have f2 := hQ.frozen 2; have f3 := hQ.frozen 3
  have ha1 := assert_wrong 20 (.agg #[.int .i64 (i : Int)]) w
  have HQ := Lib.hid hQ; have HF := Lib.hid hF
  clear z0 z1 z2 z3 hz y0 y1 y2 y3 f0 f1 f2 f3 hQ hF
  refine callsD_of_wpS Tryz.func29 rfl fun c₀ cs hu => ?_
  apply wpS_seq
  apply wpS_region
  simp [wpOpsS, go_sem, recoverD, hu, Tryz.ntmps29, Exit.thenS]
  refine wpS_of_wp ?_
  change Code.wp _ _ _ { tmps := #[.pointer (some ⟨gQ, 0, none⟩), .pointer (some ⟨gF, 0, none⟩), .iface 50 (.agg #[.int .i64 (i : Int)]), undef, undef, .iface 50 (.agg #[.int .i64 (i : Int)]), undef, undef, undef, undef, undef, undef, undef, undef, undef, undef, undef, undef, undef], defers := [] } _
  go_wp2_with fail
  refine (fault_ok 11 (i : Int) _).mono ?_
  rintro e w1 ⟨rfl, hb1⟩
  have hal := (Below.refl w.heap.size w).alloc (Nat.le_refl _) (.cells #[.int .i64 (i : Int)] 50)
  have kQ := (HQ.out.ext hal).ext hb1
  have kF := (HF.out.ext hal).ext hb1
  have hb := hal.trans (hb1.mono hal.size)
  obtain ⟨z0, z1, z2, z3, hz⟩ := kQ.four
  obtain ⟨y0, y1, y2, y3, _⟩ := kF.two
  have f0 := kQ.frozen 0; have f1 := kQ.frozen 1; have f2 := kQ.frozen 2; have f3 := kQ.frozen 3
  have HkQ := Lib.hid kQ; have HkF := Lib.hid kF; have Hb := Lib.hid hb
  clear kQ kF hb hb1 hal
  go_wp2_with fail
  obtain ⟨V, hV⟩ : ∃ V, ((((w1.setCell ⟨gQ, 0, none⟩ (.int .i64 0)).setCell ⟨gQ, 1, none⟩ (.string ⟨#[]⟩)).setCell ⟨gQ, 2, none⟩ (.int .i64 0)).setCell ⟨gQ, 3, none⟩ (.slice none 0 0)) = V := ⟨_, rfl⟩
  have k9 := put4 HkQ.out (.int .i64 0) (.string ⟨#[]⟩) (.int .i64 0) (.slice none 0 0)
  have k8 : Blk V gF 26 #[x, y] := by
    show V.heap[gF]? = _
    rw [← hV, keep4 _ _ _ _ hne.symm]; exact HkF.out
  rw [hV] at k9 ⊢
  refine ⟨rfl, _, rfl, _, results_none rfl _ _ _, rfl, rfl, ?_, ?_, fun B h1 h2 h3 => ?_⟩
  · show Blk _ _ _ _
    exact (Blk.far (Blk.far k9 (p := ⟨gF, 0, none⟩) hne _) (p := ⟨gF, 1, none⟩) hne _)
  · simpa using (k8.set_ 0 (.int .i64 11)).set_ 1 (.int .i64 (i : Int))
  · have hb := Hb.out.mono h3
    rw [← hV]
    exact (((((hb.setCell (p := ⟨gQ, 0, none⟩) h1 _).setCell (p := ⟨gQ, 1, none⟩) h1 _).setCell (p := ⟨gQ, 2, none⟩) h1 _).setCell (p := ⟨gQ, 3, none⟩) h1 _).setCell (p := ⟨gF, 0, none⟩) h2 _).setCell (p := ⟨gF, 1, none⟩) h2 _
end Go.Proofs.YtihhgmpanfboaaaGreatDoor
namespace Go.Proofs.YtihhgmpanfboaaaGreatDoor
set_option linter.unusedVariables false
namespace Q
def Bulky (T : Str → Res) : Prop := ∀ r q u, T r = .ok q u → q.bulk + 4 + 12 * u.length ≤ 12 * r.length
theorem bulks_append : ∀ (a b : List Q), bulks (a ++ b) = bulks a + bulks b
  | [], b => by simp [bulks]
  | x :: a, b => by rw [List.cons_append, bulks, bulks, bulks_append a b]; omega
theorem several_bulk {k : Int} : ∀ {l : List Q}, l ≠ [] → (several k l).bulk + 4 ≤ bulks l + 4 * l.length
  | [], h => absurd rfl h
  | [q], _ => by simp [several, bulks]
  | a :: b :: l, _ => by
    show (Q.node k [] 0 (a :: b :: l)).bulk + 4 ≤ _
    rw [bulk]
    simp only [List.length_cons, List.length_nil]
    omega
theorem bothGo_bulk {T : Str → Res} (hT : Bulky T) : ∀ (n : Nat) (l : List Q) (r : Str) (q : Q) (u : Str), l ≠ [] → bothGo T n l r = .ok q u → q.bulk + 4 + 12 * u.length ≤ bulks l + 4 * l.length + 12 * r.length
  | 0, l, r, q, u, hl, h => by
    rw [bothGo] at h; injection h with h1 h2; rw [← h1, ← h2]
    have := several_bulk (k := 6) hl; omega
  | n + 1, l, r, q, u, hl, h => by
    rw [bothGo] at h
    split at h
    · cases ht : T r with
      | ok q2 u2 =>
        rw [ht] at h
        have h1 := bothGo_bulk hT n _ _ _ _ (by simp) h
        have h2 := hT _ _ _ ht
        have h3 := skipS_le u2
        rw [bulks_append, List.length_append] at h1
        simp only [bulks, List.length_cons, List.length_nil] at h1
        omega
      | err u2 => rw [ht] at h; cases h
    · injection h with h1 h2; rw [← h1, ← h2]
      have := several_bulk (k := 6) hl; omega
theorem bothOf_bulk {T : Str → Res} (hT : Bulky T) : Bulky (bothOf T) := fun r q u h => by
  unfold bothOf at h
  cases ht : T (skipS r) with
  | ok q2 u2 =>
    rw [ht] at h
    have h1 := bothGo_bulk hT _ _ _ _ _ (by simp) h
    have h2 := hT _ _ _ ht
    have h3 := skipS_le r
    have h4 := skipS_le u2
    simp only [bulks, List.length_cons, List.length_nil] at h1
    omega
  | err u2 => rw [ht] at h; cases h
theorem eitherGo_bulk {T : Str → Res} (hT : Bulky T) : ∀ (n : Nat) (l : List Q) (r : Str) (q : Q) (u : Str), l ≠ [] → eitherGo T n l r = .ok q u → q.bulk + 4 + 12 * u.length ≤ bulks l + 4 * l.length + 12 * r.length
  | 0, l, r, q, u, hl, h => by
    rw [eitherGo] at h; injection h with h1 h2; rw [← h1, ← h2]
    have := several_bulk (k := 7) hl; omega
  | n + 1, l, r, q, u, hl, h => by
    unfold eitherGo at h
    split at h
    · rename_i t
      cases ht : bothOf T t with
      | ok q2 u2 =>
        rw [ht] at h
        have h1 := eitherGo_bulk hT n _ _ _ _ (by simp) h
        have h2 := bothOf_bulk hT _ _ _ ht
        rw [bulks_append, List.length_append] at h1
        simp only [bulks, List.length_cons, List.length_nil] at h1 ⊢
        omega
      | err u2 => rw [ht] at h; cases h
    · injection h with h1 h2; rw [← h1, ← h2]
      have := several_bulk (k := 7) hl; omega
theorem eitherOf_bulk {T : Str → Res} (hT : Bulky T) : Bulky (eitherOf T) := fun r q u h => by
  unfold eitherOf at h
  cases ht : bothOf T r with
  | ok q2 u2 =>
    rw [ht] at h
    have h1 := eitherGo_bulk hT _ _ _ _ _ (by simp) h
    have h2 := bothOf_bulk hT _ _ _ ht
    simp only [bulks, List.length_cons, List.length_nil] at h1
    omega
  | err u2 => rw [ht] at h; cases h
theorem phraseS_bulk : ∀ (n : Nat) (r : Str), ((phraseS n r).1.map fun a => a.length + 1).sum + 5 * (phraseS n r).2.length ≤ 5 * r.length
  | 0, r => by simp [phraseS]
  | n + 1, r => by
    have h1 := skipS_le r
    rw [phraseS]
    split
    · simp; omega
    · rename_i hne
      have h2 := phraseS_bulk n (wordS (skipS r)).2
      have h3 := wordS_lens (skipS r)
      have h4 := List.length_pos_iff.2 hne
      have h5 := Sm.lower_len (wordS (skipS r)).1.length (wordS (skipS r)).1 (Nat.le_refl _)
      dsimp only
      rw [List.map_cons, List.sum_cons]
      omega
theorem quotedS_bulk {t : Str} {q : Q} {u : Str} (h : quotedS t = .ok q u) : q.bulk + 4 + 12 * u.length ≤ 12 * t.length + 8 := by
  unfold quotedS at h
  split at h
  · injection h with h1 h2
    have h3 := phraseS_bulk (t.length + 1) t
    have h4 := join_len [32] (phraseS (t.length + 1) t).1
    have h5 := phraseS_len (t.length + 1) t
    rw [show ([32] : Str).length = 1 from rfl] at h4
    rw [← h1, ← h2, List.length_tail, bulk, bulks]
    omega
  · cases h
theorem nearS_bulk {x v : Str} {q : Q} {u : Str} (h : nearS x v = .ok q u) : q.bulk + 4 + 12 * u.length ≤ x.length + 12 * v.length := by
  rw [nearS_eq] at h
  unfold nearT at h
  split at h
  · cases h
  · rename_i hta
    split at h
    · rename_i h58
      split at h
      · cases h
      · injection h with h1 h2
        obtain ⟨t, ht⟩ : ∃ t, v.dropWhile digit = 58 :: t := by
          cases hv : v.dropWhile digit with
          | nil => rw [hv] at h58; exact absurd h58 (by decide)
          | cons c t => rw [hv, List.headD_cons] at h58; exact ⟨t, by rw [h58]⟩
        have h3 := wordS_lens (v.dropWhile digit).tail
        have h4 := congrArg List.length (List.takeWhile_append_dropWhile (p := digit) (l := v))
        have h5 : 0 < (v.takeWhile digit).length := List.length_pos_iff.2 fun e => hta (.inl e)
        have h6 := Sm.lower_len (wordS (v.dropWhile digit).tail).1.length (wordS (v.dropWhile digit).tail).1 (Nat.le_refl _)
        rw [List.length_append] at h4
        rw [← h1, ← h2, bulk, bulks, List.length_append, List.length_cons]
        rw [ht] at h3 h4 h6 ⊢
        rw [List.tail_cons] at h3 h6 ⊢
        rw [List.length_cons] at h4
        omega
    · cases h
theorem wordTerm_bulk : Bulky wordTerm := fun r q u h => by
  unfold wordTerm at h
  split at h
  · cases h
  · rename_i hne
    have h1 := wordS_lens r
    have h2 := List.length_pos_iff.2 hne
    have h0 := Sm.lower_len (wordS r).1.length (wordS r).1 (Nat.le_refl _)
    split at h
    · rename_i v e
      injection h with h3 h4
      have h5 := congrArg List.length e
      rw [List.length_cons] at h5
      rw [← h3, ← h4, bulk, bulks]; omega
    · rename_i v e
      have h5 := congrArg List.length e
      rw [List.length_cons] at h5
      have h6 := nearS_bulk h
      omega
    · injection h with h3 h4
      rw [← h3, ← h4, bulk, bulks]; omega
theorem termS_bulk : ∀ f : Nat, Bulky (termS f)
  | 0 => fun r q u h => by cases h
  | f + 1 => fun r q u h => by
    have ih := termS_bulk f
    unfold termS at h
    split at h
    · rename_i t
      cases ht : termS f t with
      | ok q2 u2 =>
        rw [ht] at h; injection h with h1 h2
        have := ih _ _ _ ht
        rw [← h1, ← h2, List.length_cons, bulk, bulks, bulks]
        simp only [List.length_nil]
        omega
      | err u2 => rw [ht] at h; cases h
    · rename_i t
      cases ht : eitherOf (termS f) t with
      | ok q2 u2 =>
        have h3 := eitherOf_bulk ih _ _ _ ht
        rw [ht] at h
        split at h
        · rename_i e; injection e with e1 e2; injection h with h1 h2; subst e1 e2; rw [← h1, ← h2]; rw [List.length_cons] at h3 ⊢; omega
        · cases h
        · cases h
      | err u2 => rw [ht] at h; cases h
    · rename_i t
      have := quotedS_bulk h
      rw [List.length_cons]; omega
    · rename_i t
      injection h with h1 h2
      rw [← h1, ← h2, List.length_cons, bulk, bulks]
      simp only [List.length_nil]
      omega
    · exact wordTerm_bulk _ _ _ h
/-- what is read at the top -/
def topS (s : Str) : Res := eitherOf (termS (s.length + 1)) s
theorem topS_bulk {s u : Str} {q : Q} (h : topS s = .ok q u) : q.bulk ≤ 12 * s.length := by
  have := eitherOf_bulk (termS_bulk (s.length + 1)) _ _ _ h
  omega
theorem parseF_eq (s : Str) : parseF s = if 4000 < s.length then (.node 0 [] 0 [], 1, -1) else match topS s with
    | .ok q u => if u = [] then (if (fault q).1 ≠ 0 then (.node 0 [] 0 [], fault q) else (q, 0, 0)) else (.node 0 [] 0 [], 11, (s.length : Int) - (u.length : Int))
    | .err u => (.node 0 [] 0 [], 11, (s.length : Int) - (u.length : Int)) := by
  unfold parseF parseS topS
  split
  · rfl
  · cases eitherOf (termS (s.length + 1)) s with
    | err u => rfl
    | ok q u =>
      cases u with
      | nil => rfl
      | cons c u => rfl
end Q
namespace Q
def Errs (T : Str → Res) : Prop := ∀ r u, T r = .err u → u.length ≤ r.length
theorem bothGo_errs {T : Str → Res} (hS : Short T) (hT : Errs T) : ∀ (n : Nat) (l : List Q) (r u : Str), bothGo T n l r = .err u → u.length ≤ r.length
  | 0, l, r, u, h => by rw [bothGo] at h; cases h
  | n + 1, l, r, u, h => by
    rw [bothGo] at h
    split at h
    · cases ht : T r with
      | ok q2 u2 =>
        rw [ht] at h
        have h1 := bothGo_errs hS hT n _ _ _ h
        have h2 := hS _ _ _ ht
        have h3 := skipS_le u2
        omega
      | err u2 => rw [ht] at h; injection h with h; rw [← h]; exact hT _ _ ht
    · cases h
theorem bothOf_errs {T : Str → Res} (hS : Short T) (hT : Errs T) : Errs (bothOf T) := fun r u h => by
  unfold bothOf at h
  have h3 := skipS_le r
  cases ht : T (skipS r) with
  | ok q2 u2 =>
    rw [ht] at h
    have h1 := bothGo_errs hS hT _ _ _ _ h
    have h2 := hS _ _ _ ht
    have h4 := skipS_le u2
    omega
  | err u2 => rw [ht] at h; injection h with h; rw [← h]; have := hT _ _ ht; omega
theorem eitherGo_errs {T : Str → Res} (hS : Short T) (hT : Errs T) : ∀ (n : Nat) (l : List Q) (r u : Str), eitherGo T n l r = .err u → u.length ≤ r.length
  | 0, l, r, u, h => by rw [eitherGo] at h; cases h
  | n + 1, l, r, u, h => by
    unfold eitherGo at h
    split at h
    · rename_i t
      cases ht : bothOf T t with
      | ok q2 u2 =>
        rw [ht] at h
        have h1 := eitherGo_errs hS hT n _ _ _ h
        have h2 := bothOf_short hS _ _ _ ht
        rw [List.length_cons]; omega
      | err u2 => rw [ht] at h; injection h with h; rw [← h]; have := bothOf_errs hS hT _ _ ht; rw [List.length_cons]; omega
    · cases h
theorem eitherOf_errs {T : Str → Res} (hS : Short T) (hT : Errs T) : Errs (eitherOf T) := fun r u h => by
  unfold eitherOf at h
  cases ht : bothOf T r with
  | ok q2 u2 =>
    rw [ht] at h
    have h1 := eitherGo_errs hS hT _ _ _ _ h
    have h2 := bothOf_short hS _ _ _ ht
    omega
  | err u2 => rw [ht] at h; injection h with h; rw [← h]; exact bothOf_errs hS hT _ _ ht
theorem quotedS_errs {t u : Str} (h : quotedS t = .err u) : u.length ≤ t.length := by
  unfold quotedS at h
  split at h
  · cases h
  · injection h with h; rw [← h]; exact phraseS_len _ _
theorem nearS_errs {x v u : Str} (h : nearS x v = .err u) : u.length ≤ v.length := by
  rw [nearS_eq] at h
  have h4 := (List.dropWhile_suffix (p := digit) (l := v)).length_le
  unfold nearT at h
  split at h
  · injection h with h; rw [← h]; exact Nat.le_refl _
  · split at h
    · split at h
      · injection h with h
        have h3 := wordS_lens (v.dropWhile digit).tail
        rw [List.length_tail] at h3
        rw [← h]; omega
      · cases h
    · injection h with h; rw [← h]; exact h4
theorem wordTerm_errs : Errs wordTerm := fun r u h => by
  unfold wordTerm at h
  split at h
  · injection h with h; rw [← h]; exact Nat.le_refl _
  · have h1 := wordS_lens r
    split at h
    · cases h
    · rename_i v e
      have h5 := congrArg List.length e
      rw [List.length_cons] at h5
      have h6 := nearS_errs h
      omega
    · cases h
theorem termS_errs : ∀ f : Nat, Errs (termS f)
  | 0 => fun r u h => by injection h with h; rw [← h]; exact Nat.le_refl _
  | f + 1 => fun r u h => by
    have ih := termS_errs f
    have hS := termS_short f
    unfold termS at h
    split at h
    · rename_i t
      cases ht : termS f t with
      | ok q2 u2 => rw [ht] at h; cases h
      | err u2 => rw [ht] at h; injection h with h; have := ih _ _ ht; rw [← h, List.length_cons]; omega
    · rename_i t
      cases ht : eitherOf (termS f) t with
      | ok q2 u2 =>
        have h3 := eitherOf_short hS _ _ _ ht
        rw [ht] at h
        split at h
        · cases h
        · rename_i e; injection e with e1 e2; injection h with h; rw [← h, ← e2, List.length_cons]; omega
        · rename_i e; cases e
      | err u2 =>
        have h3 := eitherOf_errs hS ih _ _ ht
        rw [ht] at h
        injection h with h
        rw [← h, List.length_cons]; omega
    · rename_i t
      have := quotedS_errs h
      rw [List.length_cons]; omega
    · cases h
    · exact wordTerm_errs _ _ h
theorem topS_len {s u : Str} {q : Q} (h : topS s = .ok q u) : u.length ≤ s.length := by
  have := eitherOf_short (termS_short (s.length + 1)) _ _ _ h
  omega
theorem topS_err {s u : Str} (h : topS s = .err u) : u.length ≤ s.length := eitherOf_errs (termS_short (s.length + 1)) (termS_errs (s.length + 1)) _ _ h
end Q
end Go.Proofs.YtihhgmpanfboaaaGreatDoor
namespace Go.Proofs.YtihhgmpanfboaaaGreatDoor
open Go.RowKit
set_option linter.unusedVariables false
theorem Blk.cells4 {w : World} {g : Nat} {t : TypeId} {a b c d : Value} (h : Blk w g t #[a, b, c, d]) : w.cell? ⟨g, 0, none⟩ = some a ∧ w.cell? ⟨g, 1, none⟩ = some b ∧ w.cell? ⟨g, 2, none⟩ = some c ∧ w.cell? ⟨g, 3, none⟩ = some d := by
  obtain ⟨h1, h2, h3, h4, _⟩ := h.four
  exact ⟨h1, h2, h3, h4⟩
/-- both results stored -/
theorem stored {w : World} {gQ gF : Nat} {t t' : TypeId} {a b c d x y : Value} (hQ : Blk w gQ t #[a, b, c, d]) (hF : Blk w gF t' #[x, y]) (hne : gQ ≠ gF) (a' b' c' d' x' y' : Value) :
    ∃ V, ((((((w.setCell ⟨gQ, 0, none⟩ a').setCell ⟨gQ, 1, none⟩ b').setCell ⟨gQ, 2, none⟩ c').setCell ⟨gQ, 3, none⟩ d').setCell ⟨gF, 0, none⟩ x').setCell ⟨gF, 1, none⟩ y') = V ∧ Blk V gQ t #[a', b', c', d'] ∧ Blk V gF t' #[x', y'] ∧ (∀ b, b ≠ gQ → b ≠ gF → V.heap[b]? = w.heap[b]?) ∧ w.heap.size ≤ V.heap.size ∧ ∀ (B : Nat) (w0 : World), B ≤ gQ → B ≤ gF → Below B w0 w → Below B w0 V := by
  obtain ⟨V4, hV⟩ : ∃ V, ((((w.setCell ⟨gQ, 0, none⟩ a').setCell ⟨gQ, 1, none⟩ b').setCell ⟨gQ, 2, none⟩ c').setCell ⟨gQ, 3, none⟩ d') = V := ⟨_, rfl⟩
  have k9 := put4 hQ a' b' c' d'
  have k8 : Blk V4 gF t' #[x, y] := by
    show V4.heap[gF]? = _
    rw [← hV, keep4 _ _ _ _ hne.symm]; exact hF
  rw [hV] at k9
  refine ⟨_, rfl, ?_, ?_, ?_, ?_, ?_⟩
  · rw [hV]; exact Blk.far (Blk.far k9 (p := ⟨gF, 0, none⟩) hne _) (p := ⟨gF, 1, none⟩) hne _
  · rw [hV]; simpa using (k8.set_ 0 x').set_ 1 y'
  · intro b h1 h2
    rw [heap_set_ne _ _ _ h2, heap_set_ne _ _ _ h2, keep4 _ _ _ _ h1]
  · simp
  · intro B w0 h1 h2 hb
    exact (((((hb.setCell (p := ⟨gQ, 0, none⟩) h1 _).setCell (p := ⟨gQ, 1, none⟩) h1 _).setCell (p := ⟨gQ, 2, none⟩) h1 _).setCell (p := ⟨gQ, 3, none⟩) h1 _).setCell (p := ⟨gF, 0, none⟩) h2 _).setCell (p := ⟨gF, 1, none⟩) h2 _
/-- what Parse hands back -/
def Parsed (w : World) (p : Q × Int × Int) (e : Ending) (w' : World) : Prop := ∃ f v, e = .returned (.tuple #[v, .agg #[.int .i64 p.2.1, .int .i64 p.2.2]]) ∧ QAt f (fun b => b < w.heap.size) w' v p.1 ∧ Below w.heap.size w w'
/-- the results, read at the end -/
theorem read_end {P : Program} {fn : Func} {tmps : Array Value} {gQ gF : Nat} {t t' : TypeId} {w V : World} {a b c d : Value} {x y : Int} {f : Nat} {q : Q} (hr : ∀ (W : World) (a b c d x y : Value), W.cell? ⟨gQ, 0, none⟩ = some a → W.cell? ⟨gQ, 1, none⟩ = some b → W.cell? ⟨gQ, 2, none⟩ = some c → W.cell? ⟨gQ, 3, none⟩ = some d → W.cell? ⟨gF, 0, none⟩ = some x → W.cell? ⟨gF, 1, none⟩ = some y → (results fn tmps).run P W = .ok (.tuple #[.agg #[a, b, c, d], .agg #[x, y]]) W)
    (kQ : Blk V gQ t #[a, b, c, d]) (kF : Blk V gF t' #[.int .i64 x, .int .i64 y]) (hq : QAt f (fun b => b < w.heap.size) V (.agg #[a, b, c, d]) q) (hb : Below w.heap.size w V) : Leaves P fn tmps (Parsed w (q, x, y)) [] .returning V := by
  obtain ⟨z0, z1, z2, z3, _⟩ := kQ.four
  obtain ⟨y0, y1, _⟩ := kF.two
  exact ⟨_, hr V _ _ _ _ _ _ z0 z1 z2 z3 y0 y1, f, _, rfl, hq, hb⟩
theorem inv_caught (a b : Value) (w : World) : (invoke (.fn (.func 29) #[a, b]) #[]).run Tryz.prog w = .ok (.enter 29 #[a, b]) w := by simp [go_sem]
theorem QAt.zero (w : World) (M : Nat → Prop) : QAt 0 M w (.agg #[.int .i64 0, .string ⟨#[]⟩, .int .i64 0, .slice none 0 0]) (.node 0 [] 0 []) := ⟨none, 0, rfl, by simp, by simp [maxLen], by simp, SlR.nil _ _ _⟩
set_option maxRecDepth 100000 in
set_option maxHeartbeats 8000000 in
theorem parse_long (s : Str) (hs : 4000 < s.length) (hm : s.length ≤ maxLen) (w : World) : Calls Tryz.prog 13 #[.string (bs s)] w (Parsed w (.node 0 [] 0 [], 1, -1)) := by
  have hmf : ∀ (fn : Fn) (first cap : Array Value) (w : World), (Instr.makeFunc fn first cap).run Tryz.prog w = .ok (.func fn first cap) w := fun _ _ _ _ => rfl
  have hg : (4000 : Int) < (s.length : Int) := by omega
  unfold maxLen at hm
  obtain ⟨W, gQ, hW, hgQ, hsW, kQ, kF, hb⟩ := boxPair w #[.int .i64 0, .string ⟨#[]⟩, .int .i64 0, .slice none 0 0] 24 #[.int .i64 0, .int .i64 0] 26
  have HQ := Lib.hid kQ; have HF := Lib.hid kF; have Hb := Lib.hid hb; have HgQ := Lib.hid hgQ
  clear kQ kF hb hsW
  go_enter_defers Tryz.func13, Tryz.ntmps13
  go_wp2_with fail
  refine (fault_ok 1 (-1) W).mono ?_
  rintro e w1 ⟨rfl, hb1⟩
  have kQ := HQ.out.ext hb1
  have kF := HF.out.ext hb1
  obtain ⟨z0, z1, z2, z3, hz⟩ := kQ.four
  obtain ⟨y0, y1, y2, y3, _⟩ := kF.two
  have f0 := kQ.frozen 0; have f1 := kQ.frozen 1; have f2 := kQ.frozen 2; have f3 := kQ.frozen 3
  obtain ⟨V, hV, kQ9, kF9, _, _, hV5⟩ := stored kQ kF (by omega) (.int .i64 0) (.string ⟨#[]⟩) (.int .i64 0) (.slice none 0 0) (.int .i64 1) (.int .i64 (-1))
  have hbV := hV5 w.heap.size w (by have := HgQ.out; omega) (by have := HgQ.out; omega) (Hb.out.trans (hb1.mono Hb.out.size))
  have HV := Lib.hid hV; have HQ9 := Lib.hid kQ9; have HF9 := Lib.hid kF9; have HbV := Lib.hid hbV
  clear kQ kF hb1 hV kQ9 kF9 hV5 hbV hW hgQ
  go_wp2_with fail
  rw [HV.out]
  exact read_end (by intro W a b c d x y h0 h1 h2 h3 h4 h5; simp [results, Tryz.results13, go_sem, h0, h1, h2, h3, h4, h5]) HQ9.out HF9.out (QAt.zero _ _) HbV.out
set_option maxRecDepth 100000 in
set_option maxHeartbeats 8000000 in
theorem parse_err (s : Str) (hs : s.length ≤ 4000) (w : World) (hT : TabsU w) (u : Str) (he : Q.topS s = .err u) : Calls Tryz.prog 13 #[.string (bs s)] w (Parsed w (.node 0 [] 0 [], 11, ((s.length - u.length : Nat) : Int))) := by
  have hmf : ∀ (fn : Fn) (first cap : Array Value) (w : World), (Instr.makeFunc fn first cap).run Tryz.prog w = .ok (.func fn first cap) w := fun _ _ _ _ => rfl
  have hg : ¬ (4000 : Int) < (s.length : Int) := by omega
  obtain ⟨W, gQ, hW, hgQ, hsW, kQ, kF, hb⟩ := boxPair w #[.int .i64 0, .string ⟨#[]⟩, .int .i64 0, .slice none 0 0] 24 #[.int .i64 0, .int .i64 0] 26
  obtain ⟨W2, g, hW2, hgg, hsW2, kr, hb2⟩ := boxA W #[.string (bs s), .int .i64 0] 54
  obtain rfl : g = gQ + 1 + 1 := by omega
  have hwg : w.heap.size ≤ gQ + 1 + 1 := by have := hb.size; omega
  have hbw2 : Below w.heap.size w W2 := hb.trans (hb2.mono hb.size)
  have hrd : Rd W2 (gQ + 1 + 1) s s := ⟨by rw [Nat.sub_self]; exact kr, List.suffix_refl _⟩
  have hei := reither_ok w hT (gQ + 1 + 1) hwg s hs s.length (Q.termS (s.length + 1)) (Q.termS_short _) (rterm_ok w hT (gQ + 1 + 1) hwg s hs (s.length + 1) s.length (by omega)) s W2 hrd (Nat.le_refl _) hbw2
  have hne : gQ ≠ gQ + 1 := by omega
  have hng : gQ ≠ gQ + 1 + 1 := by omega
  have hng1 : gQ + 1 ≠ gQ + 1 + 1 := by omega
  have hQ0 : w.heap.size ≤ gQ := by omega
  have HQ := Lib.hid (Blk.ext kQ hb2); have HF := Lib.hid (Blk.ext kF hb2); have Hb := Lib.hid hbw2; have Hei := Lib.hid hei; have HT := Lib.hid hT; have HW2 := Lib.hid hW2; have Hgg := Lib.hid hgg; have HW := Lib.hid hW; have HgQ := Lib.hid hgQ
  clear kQ kF hb hsW hb2 hrd hei hT kr hbw2 hsW2 hW2 hgg hW hgQ
  go_enter_defers Tryz.func13, Tryz.ntmps13
  go_wp2_with fail
  rw [HW.out]
  try rw [HgQ.out]
  rw [HW2.out]
  have htc := Hei.out
  rw [show Q.eitherOf (Q.termS (s.length + 1)) s = Q.Res.err u from he] at htc
  refine htc.mono ?_
  rintro e w3 ⟨rfl, hall, hu⟩
  go_wp2_with fail
  have kQ := hall.blk HQ.out hng
  have kF := hall.blk HF.out hng1
  unfold thrown
  refine leaves_cons (f := 29) (fv := .func 29) (cap := #[.pointer (some ⟨gQ, 0, none⟩), .pointer (some ⟨gQ + 1, 0, none⟩)]) (dargs := #[]) (args := #[.pointer (some ⟨gQ, 0, none⟩), .pointer (some ⟨gQ + 1, 0, none⟩)]) (by simp) (inv_caught _ _ _) ?_
  refine (caught_thrown gQ (gQ + 1) (s.length - u.length) [] _ _ _ _ _ _ _ kQ kF hne).mono ?_
  rintro e u' w9 ⟨rfl, rfl, kQ9, kF9, hb9⟩
  have hlow : Below w.heap.size w w9 := (hall.below Hb.out hwg).trans (hb9 w.heap.size hQ0 (by omega) (hall.below Hb.out hwg).size)
  show Leaves _ _ _ _ [] .returning w9
  dsimp only
  refine read_end (gQ := gQ) (gF := gQ + 1) ?_ kQ9 kF9 (QAt.zero _ _) hlow
  clear hmf
  intro W a b c d x y h0 h1 h2 h3 h4 h5
  simp [results, Tryz.results13, go_sem, h0, h1, h2, h3, h4, h5]
end Go.Proofs.YtihhgmpanfboaaaGreatDoor
