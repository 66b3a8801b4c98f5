/-
  Contracts and plain facts, one after another: slices.Collect of ints, over an iterator; Queries: their levels, their nodes in order, the fault; plain; Queries in memory: a node's four cells, its parts a row of nodes; f: how deep the rows go. No program is named here; slices.IndexFunc and ContainsFunc on ints, postings, terms and queries.
-/
import Derived.Test.YtfjpedgddgbelaaGreatDoorG8
import Derived.Test.YtfjpedgddgbelaaGreatDoorG12
import Derived.Test.YtfjpedgddgbelaaGreatDoorG6
import Derived.Test.YtfjpedgddgbelaaGreatDoorG2
import Derived.Test.YtfjpedgddgbelaaGreatDoorG3
import Derived.Test.YtfjpedgddgbelaaGreatDoorG5
import Derived.Test.YtfjpedgddgbelaaGreatDoorIxB
namespace Go.Proofs.YtfjpedgddgbelaaGreatDoor
open Go.RowKit
set_option linter.unusedVariables false
theorem wpListIn_append_run {F : Fence} {nF : Nat} {P : Program} {w : World} {ops : Array Oper} {rest : List Oper} {o : Oper} {a : Act} {Q : Exit → Act → World → Prop} (hgd : o.guard = none) (s x : Operand) (t : TypeId)
    (ho : o.op = .call { callee := .builtin .append, args := #[s, x], argTypes := #[t, t] }) {vs vx v : Value} {w' : World} (hs : a.eval s = vs) (hx : a.eval x = vx) (hrun : (Builtin.append_ #[t, t] o.type #[vs, vx]).run P w = .ok v w')
    (h : wpListIn F nF P ops Q rest (a.put o.dst v) w') : wpListIn F nF P ops Q (o :: rest) a w := by
  refine wpListIn_plain hgd fun K hK => ?_
  unfold Oper.wpIn
  refine ⟨by simp [Oper.about, ho, resolve, Target.leads, Sem.run_pure], ?_⟩
  rw [Oper.semAt_plain F _ _ (by rw [ho]; intro c hc'; cases hc')]
  simp [execOp, ho, resolve, invoke, builtin, hs, hx, hrun, Result.andThen]
  exact hK _ _ h
def encI1 (x : Int) : Array Value := #[.int .i64 x]
set_option maxRecDepth 100000 in
set_option maxHeartbeats 4000000 in
theorem appendSeq_ok (gf : FuncId) (lb : Array Value) (xs : List Int) (FP : (Nat → Prop) → World → Prop) (hit : Iter Tryz.prog gf lb encI1 xs FP) (eg : ∀ args w, (callFunc gf args).run Tryz.prog w = .ok (.enter gf args) w) (hx : ∀ x ∈ xs, -9223372036854775808 ≤ x ∧ x ≤ 9223372036854775807) (hn : xs.length ≤ 1000000) (w : World)
    (hFP : ∀ S' W, (∀ b, S' b → w.heap.size ≤ b) → Below w.heap.size w W → FP S' W) :
    Calls Tryz.prog 125 #[.slice none 0 0, .func (.func gf) #[] lb] w fun e w' => ∃ (A : Option Addr) (c : Nat) (L : List Int), e = .returned (.slice A L.length c) ∧ Hid (L = xs) ∧ Own intC M0 w' w.heap.size 3 (.slice A L.length c) L ∧ Below w.heap.size w w' := by
  obtain ⟨W0, hW0⟩ : ∃ W0, w.alloc (.cells #[.slice none 0 0] 22) = W0 := ⟨_, rfl⟩
  have hbw : Below w.heap.size w W0 := by rw [← hW0]; exact (Below.refl _ w).alloc (Nat.le_refl _) _
  have k1 : Blk W0 w.heap.size 22 #[.slice none 0 0] := by rw [← hW0]; exact Blk.new w _ _
  have hs1 : W0.heap.size = w.heap.size + 1 := by rw [← hW0]; simp
  have HW := Lib.hid hW0
  clear hW0
  refine calls_of_wp_marks Tryz.func125 rfl ?_
  simp only [Tryz.ntmps125, List.size_toArray, List.length_cons, List.length_nil, Nat.reduceAdd, Nat.reduceSub, Array.replicate_succ, Array.replicate_zero, List.push_toArray, List.append_toArray, List.nil_append, List.cons_append]
  obtain ⟨g, hg⟩ : ∃ g, w.heap.size = g := ⟨_, rfl⟩
  have Hs1 := Lib.hid hs1
  rw [hg] at k1
  clear hs1
  go_wp2
  rw [HW.out]
  refine wp_rangeFunc_iter hit rfl eg (fun _ => rfl)
    (fun k S W => S g ∧ (∀ b, S b → g ≤ b) ∧ Below w.heap.size w W ∧ ∃ A' c' L, Hid (L = xs.take k) ∧ Blk W g 22 #[.slice A' L.length c'] ∧ Own intC M0 W (g + 1) 3 (.slice A' L.length c') L ∧
      (∀ b, (Value.slice A' L.length c').ownBlock = some b → S b)) (fun _ _ _ _ => False) (fun b => b = g) ?_ ?_ ?_ (fun _ _ _ _ _ h _ => h)
    ⟨rfl, fun b hb => by rw [hb]; exact Nat.le_refl _, hbw, none, 0, [], Lib.hid (by simp), k1, Own.nil _ _ _ _ _, fun b hb => by simp [Value.ownBlock] at hb⟩
    (fun x => { tmps := #[.slice none 0 0, .func (.func gf) #[] lb, .pointer (some ⟨g, 0, none⟩), undef, .slice none 0 0, .int .i64 x, .func (.func gf) #[] lb, .int .i64 x, undef, undef, undef, undef, undef], defers := [] }) ?_ ?_ ?_ ?_
  · rintro b rfl; have := Hs1.out; omega
  · intro S' W hS' hbW
    exact hFP S' W (fun b hb => by rcases hS' b hb with h | h; omega; have := Hs1.out; omega) (hbw.trans (hbW.mono hbw.size))
  · rintro k S W W' ⟨h1, h2, h3, A', c', L, hL, h4, h5, h6⟩ hkept
    exact ⟨h1, h2, hkept.below (by have := Hs1.out; omega) h3 h3.size, A', c', L, hL, h4.keep (hkept.same _ h4.lt (.inr h1)), h5.flatC flatC_int (fun b hb => hkept.same b (h5.lt b hb) (.inr (h6 b hb))), h6⟩
  · intro l' x W K hK
    simp only [encI1]
    gi_wp2_with (rw [Oper.semAt_eq _ _ _ (fun c h => by cases h)]; go_simp)
    exact hK
  · rintro l' k hk S W ⟨h1, h2, h3, A', c', L, hL, h4, h5, h6⟩ hlt hsz
    obtain ⟨hc, hz, hb⟩ := h4.one
    obtain ⟨r, hr⟩ : ∃ r, r = xs[k] := ⟨_, rfl⟩
    have hrx := hx _ (List.getElem_mem hk)
    rw [← hr] at hrx ⊢
    have Hr := Lib.hid hr
    clear hr
    obtain ⟨i, hi, hzz, q1, q2⟩ := info_parts (by kernel_rfl : (Tryz.prog.info? 3).map (fun i => (i.zero, i.size, i.bytes)) = some (some (.int .i64 0), 1, 8))
    have hal := (Below.refl W.heap.size W).alloc (Nat.le_refl _) (.cells #[.int .i64 r] 3)
    have kn := Blk.new W 3 #[.int .i64 r]
    have hLk : L.length ≤ 1000000 := by rw [hL.out, List.length_take]; omega
    have hgsz : w.heap.size + 1 ≤ W.heap.size := by have := Hs1.out; omega
    obtain ⟨v', W9, hrun, hown', hgr, hor⟩ := run_append_Own (P := Tryz.prog) intC (w := W.alloc (.cells #[.int .i64 r] 3)) (M := M0) 22 22 3 i (.int .i64 0) 8 Tryz.underlying22 hi hzz q1 q2 rfl (h5.ext hal) (some ⟨W.heap.size, 0, none⟩) 1 1 [.int .i64 r] (l' := [r]) (Els.single ⟨rfl, hrx⟩) rfl
      (fun _ => ⟨W.heap.size, 0, rfl, fun j u hu => by rw [Nat.zero_add, kn.cell]; simpa using hu⟩) (by simp [maxLen]; omega) (by simp; omega) (by simp; omega)
    obtain ⟨A9, c9, rfl, _, _⟩ := hown'.shape
    have hne : some g ≠ (Value.slice A' L.length c').ownBlock := fun e => by have := h5.base _ e.symm; omega
    have h49 := (h4.ext hal).grown hgr hne
    obtain ⟨x0, x1, _⟩ := h49.one
    have hbg := hgr.size
    rw [World.size_alloc] at hbg
    have Hown := Lib.hid hown'; have Hgr := Lib.hid hgr; have Hor := Lib.hid hor; have H49 := Lib.hid h49
    have Hrun := Lib.hid hrun
    clear hown' hgr hor h49 kn hrun
    gi_wp2_with (first | (gi_at_builtin; refine wpListIn_append_run rfl (.tmp 8) (.tmp 10) 22 rfl rfl rfl Hrun.out ?_) | (rw [Oper.semAt_eq _ _ _ (fun c h => by cases h)]; go_simp))
    have hown' := Hown.out
    have hgr := Hgr.out
    have hblk : ∀ b, b < W.heap.size → some b ≠ (Value.slice A' L.length c').ownBlock → W9.heap[b]? = W.heap[b]? := fun b hb1 hb2 => (hgr.block b (by rw [World.size_alloc]; omega) hb2).trans (hal.block b hb1)
    have hown4 : ∀ b, (Value.slice A9 (L ++ [r]).length c9).ownBlock = some b → (S b ∨ (W.heap.size ≤ b ∧ b < W9.heap.size)) ∧ b ≠ g := fun b ho => by
      refine ⟨?_, by have := hown'.base b ho; omega⟩
      rcases Hor.out with e | e
      · exact .inl (h6 b (e ▸ ho))
      · have h7 := hown'.lt b ho
        rw [e, World.size_alloc] at ho; injection ho with ho
        exact .inr ⟨by omega, h7⟩
    refine ⟨fun b => S b ∨ (W.heap.size ≤ b ∧ b < W9.heap.size), ⟨hgr.os.trans hal.os, hgr.tape.trans hal.tape, hgr.output.trans hal.output, by simp; omega, fun b hb1 hnS => ?_, fun b hb1 => ?_⟩, .inl h1, fun b hb1 => ?_, ?_, A9, c9, L ++ [r], ?_, ?_, ?_, fun b ho => (hown4 b ho).1⟩
    · exact (Below.heap_setCell _ _ _ _ fun e => hnS (by rw [e]; exact h1)).trans (hblk b hb1 fun e => hnS (h6 b e.symm))
    · rcases hb1 with h7 | h7
      · exact ⟨by have := hlt b h7; simp; omega, .inl h7⟩
      · exact ⟨by simp; omega, .inr h7.1⟩
    · rcases hb1 with h7 | h7
      · exact h2 b h7
      · omega
    · refine Below.setCell (p := ⟨g, 0, none⟩) (h3.trans ⟨hgr.os.trans hal.os, hgr.tape.trans hal.tape, hgr.output.trans hal.output, by omega, fun b hb1 => hblk b (by omega) fun e => by have := h5.base _ e.symm; omega⟩) (by show w.heap.size ≤ g; omega) _
    · exact Lib.hid (by rw [hL.out, List.take_succ_eq_append_getElem hk, ← Hr.out])
    · have := H49.out.set_ 0 (Value.slice A9 (L ++ [r]).length c9); simpa using this
    · exact hown'.flatC flatC_int fun b hb => Below.heap_setCell _ _ _ _ (hown4 b hb).2
  · rintro D S W hD hSD ⟨h1, h2, h3, A', c', L, hL, h4, h5, h6⟩ hWD
    obtain ⟨hc, hz, hb⟩ := h4.one
    go_wp2
    have hLe : L = xs := by rw [hL.out, List.take_length]
    have hDg : D ≠ g := fun e => hSD (e ▸ h1)
    have hDw : w.heap.size ≤ D := by have := Hs1.out; omega
    refine bodyPostM_one hWD (v := .slice A' L.length c') (by simp [results, Tryz.results125, go_sem]) ⟨A', c', L, rfl, Lib.hid hLe, ?_, ⟨h3.os, h3.tape, h3.output, by rw [World.putObj_size]; exact h3.size, fun k hk => (World.putObj_heap_other (by omega)).trans (h3.block k hk)⟩⟩
    have h11 : Own intC M0 (W.putObj D (.deferred none)) (g + 1) 3 (.slice A' L.length c') L := h5.flatC flatC_int fun b ho => World.putObj_heap_other (fun e => hSD (e ▸ h6 b ho))
    exact h11.weak (by omega) (fun _ h => h)
  · rintro D c' k S W _ _ h
    exact h.elim
theorem collect_ok (gf : FuncId) (lb : Array Value) (xs : List Int) (FP : (Nat → Prop) → World → Prop) (hit : Iter Tryz.prog gf lb encI1 xs FP) (eg : ∀ args w, (callFunc gf args).run Tryz.prog w = .ok (.enter gf args) w) (hx : ∀ x ∈ xs, -9223372036854775808 ≤ x ∧ x ≤ 9223372036854775807) (hn : xs.length ≤ 1000000) (w : World)
    (hFP : ∀ S' W, (∀ b, S' b → w.heap.size ≤ b) → Below w.heap.size w W → FP S' W) :
    Calls Tryz.prog 78 #[.func (.func gf) #[] lb] w fun e w' => ∃ (A : Option Addr) (c : Nat) (L : List Int), e = .returned (.slice A L.length c) ∧ Hid (L = xs) ∧ Own intC M0 w' w.heap.size 3 (.slice A L.length c) L ∧ Below w.heap.size w w' := by
  have hc := appendSeq_ok gf lb xs FP hit eg hx hn w hFP
  have Hc := Lib.hid hc
  clear hc hit hFP
  go_enter Tryz.func78, Tryz.ntmps78
  go_wp2_with fail
  refine Hc.out.mono ?_
  rintro e w1 ⟨A, c, L, rfl, hL, hown, hb⟩
  go_wp2_with fail
  go_ret
  exact ⟨A, c, L, rfl, hL, hown, hb⟩
end Go.Proofs.YtfjpedgddgbelaaGreatDoor
namespace Go.Proofs.YtfjpedgddgbelaaGreatDoor
set_option linter.unusedVariables false
/-- A text cut at the spaces. -/
def splitS : Str → List Str
  | [] => [[]]
  | c :: t => if c = 32 then [] :: splitS t else match splitS t with | [] => [[c]] | h :: r => (c :: h) :: r
theorem splitS_ne : ∀ s : Str, splitS s ≠ []
  | [] => by simp [splitS]
  | c :: t => by
    unfold splitS
    split
    · simp
    · split <;> simp
theorem splitS_no : ∀ s : Str, 32 ∉ s → splitS s = [s]
  | [], _ => rfl
  | c :: t, h => by
    simp only [List.mem_cons, not_or] at h
    rw [splitS, if_neg (fun e => h.1 e.symm), splitS_no t h.2]
theorem splitS_append (a b : Str) : splitS (a ++ 32 :: b) = splitS a ++ splitS b := by
  induction a with
  | nil => simp [splitS]
  | cons c t ih =>
    rw [List.cons_append, splitS, ih, splitS]
    split
    · simp
    · cases h : splitS t with
      | nil => exact absurd h (splitS_ne t)
      | cons x r => simp
theorem splitS_cut (q r : Str) (h : 32 ∉ q) : splitS (q ++ 32 :: r) = q :: splitS r := by rw [splitS_append, splitS_no q h]; rfl
theorem splitS_len (s : Str) : (splitS s).length = s.count 32 + 1 := by
  induction s with
  | nil => rfl
  | cons c t ih =>
    rw [splitS]
    split
    · rename_i h; subst h; rw [List.length_cons, ih, List.count_cons_self]
    · rename_i h
      rw [List.count_cons_of_ne (fun e => h (by simpa using e))]
      cases h2 : splitS t with
      | nil => exact absurd h2 (splitS_ne t)
      | cons a r => rw [h2] at ih; exact ih
theorem splitS_mem : ∀ (s : Str), ∀ x ∈ splitS s, 32 ∉ x ∧ x.length ≤ s.length
  | [], x, h => by simp [splitS] at h; subst h; simp
  | c :: t, x, h => by
    rw [splitS] at h
    split at h
    · rcases List.mem_cons.1 h with rfl | h
      · simp
      · have := splitS_mem t x h
        exact ⟨this.1, by rw [List.length_cons]; omega⟩
    · rename_i hc
      cases h2 : splitS t with
      | nil => exact absurd h2 (splitS_ne t)
      | cons a r =>
        rw [h2] at h
        rcases List.mem_cons.1 h with rfl | h
        · have := splitS_mem t a (by rw [h2]; exact .head _)
          refine ⟨?_, by simp only [List.length_cons]; omega⟩
          simp only [List.mem_cons, not_or]
          exact ⟨fun e => hc e.symm, this.1⟩
        · have := splitS_mem t x (by rw [h2]; exact .tail _ h)
          exact ⟨this.1, by rw [List.length_cons]; omega⟩

inductive Q where
  | node (kind : Int) (text : Str) (num : Int) (parts : List Q)
namespace Q
def kind : Q → Int | .node k _ _ _ => k
def text : Q → Str | .node _ t _ _ => t
def num : Q → Int | .node _ _ n _ => n
def parts : Q → List Q | .node _ _ _ l => l
@[simp] theorem kind_node (k : Int) (t : Str) (n : Int) (l : List Q) : (Q.node k t n l).kind = k := rfl
@[simp] theorem text_node (k : Int) (t : Str) (n : Int) (l : List Q) : (Q.node k t n l).text = t := rfl
@[simp] theorem num_node (k : Int) (t : Str) (n : Int) (l : List Q) : (Q.node k t n l).num = n := rfl
@[simp] theorem parts_node (k : Int) (t : Str) (n : Int) (l : List Q) : (Q.node k t n l).parts = l := rfl
/-- the greatest of some numbers -/
def top : List Nat → Nat
  | [] => 0
  | a :: l => max a (top l)
theorem top_le {l : List Nat} {n : Nat} : top l ≤ n ↔ ∀ a ∈ l, a ≤ n := by
  induction l with
  | nil => simp [top]
  | cons a l ih =>
    rw [top]
    constructor
    · intro h b hb
      rcases List.mem_cons.1 hb with rfl | hb
      · omega
      · exact ih.1 (by omega) b hb
    · intro h
      have h1 := h a (.head _)
      have h2 := ih.2 fun b hb => h b (.tail _ hb)
      omega
/-- the levels, f at most -/
def lev : Nat → Q → Nat
  | 0, _ => 0
  | f + 1, q => top (q.parts.map (lev f)) + 1
/-- the nodes in order, of f levels -/
def pre : Nat → Q → List Q
  | 0, _ => []
  | f + 1, q => q :: q.parts.flatMap (pre f)
/-- f levels are enough -/
def Fits : Nat → Q → Prop
  | 0, _ => False
  | f + 1, q => ∀ p ∈ q.parts, Fits f p
theorem lev_fits : ∀ (f : Nat) (q : Q), lev (f + 1) q ≤ f ↔ Fits f q
  | 0, q => by simp [lev, Fits]
  | f + 1, q => by
    rw [lev, Fits, Nat.add_le_add_iff_right, top_le]
    simp only [List.mem_map, forall_exists_index, and_imp, forall_apply_eq_imp_iff₂]
    exact ⟨fun h p hp => (lev_fits f p).1 (h p hp), fun h p hp => (lev_fits f p).2 (h p hp)⟩
theorem Fits.succ : ∀ {f : Nat} {q : Q}, Fits f q → Fits (f + 1) q
  | 0, q, h => h.elim
  | f + 1, q, h => fun p hp => Fits.succ (h p hp)
theorem flatMap_same {α β : Type} {l : List α} {f g : α → List β} (h : ∀ a ∈ l, f a = g a) : l.flatMap f = l.flatMap g := by
  induction l with
  | nil => rfl
  | cons a l ih => rw [List.flatMap_cons, List.flatMap_cons, h a (.head _), ih fun b hb => h b (.tail _ hb)]
theorem pre_fits : ∀ {f : Nat} {q : Q}, Fits f q → pre (f + 1) q = pre f q
  | 0, q, h => h.elim
  | f + 1, q, h => by
    rw [pre, pre, flatMap_same fun p hp => pre_fits (h p hp)]
theorem pre_mem_fits : ∀ {f : Nat} {q : Q}, Fits f q → ∀ p ∈ pre f q, Fits f p
  | 0, q, h, p, hp => by cases hp
  | f + 1, q, h, p, hp => by
    rw [pre] at hp
    rcases List.mem_cons.1 hp with rfl | hp
    · exact h
    · obtain ⟨r, hr, hp⟩ := List.mem_flatMap.1 hp
      exact (pre_mem_fits (h r hr) p hp).succ
/-- the parts of a node are fewer than the nodes -/
theorem pre_parts : ∀ {f : Nat} {q : Q}, Fits f q → ∀ p ∈ pre f q, p.parts.length < (pre f q).length
  | 0, q, h, p, hp => by cases hp
  | f + 1, q, h, p, hp => by
    have hle : ∀ l : List Q, (∀ r ∈ l, Fits f r) → l.length ≤ (l.flatMap (pre f)).length := by
      intro l
      induction l with
      | nil => intro _; exact Nat.le_refl _
      | cons r l ih =>
        intro hl
        have h1 := ih fun x hx => hl x (.tail _ hx)
        have h2 : 1 ≤ (pre f r).length := by
          match f, hl r (.head _) with
          | f + 1, _ => rw [pre, List.length_cons]; omega
        rw [List.flatMap_cons, List.length_append, List.length_cons]
        omega
    rw [pre] at hp ⊢
    rcases List.mem_cons.1 hp with rfl | hp
    · have := hle _ h
      rw [List.length_cons]; omega
    · obtain ⟨r, hr, hp⟩ := List.mem_flatMap.1 hp
      have h1 := pre_parts (h r hr) p hp
      have h2 : (pre f r).length ≤ (q.parts.flatMap (pre f)).length := by
        obtain ⟨s, t, e⟩ := List.append_of_mem hr
        rw [e, List.flatMap_append, List.flatMap_cons, List.length_append, List.length_append]
        omega
      rw [List.length_cons]; omega
/-- a word in lower case -/
def wordOk (s : Str) : Bool := decide (s.length ≤ 8000) && (Sm.words s == [s])
/-- what a kind permits: the least number of parts, the greatest one, the words -/
def least (k : Int) : Int := if k = 6 ∨ k = 7 then 2 else if k = 8 then 1 else 0
def most (k : Int) : Int := if k = 6 ∨ k = 7 then 60 else if k = 8 then 1 else 0
def wants (k : Int) : Int := if k = 2 ∨ k = 3 then 1 else if k = 4 then -1 else if k = 5 then 2 else 0
/-- the code of the error of a node -/
def errOf (q : Q) : Int :=
  if (decide (q.kind < 1) || decide (8 < q.kind)) = true then 4
  else if (q.parts.length : Int) < least q.kind ∨ most q.kind < (q.parts.length : Int) ∨ (q.kind ≠ 5 ∧ q.num ≠ 0) ∨ (wants q.kind = 0 ∧ q.text ≠ []) then 5
  else if q.kind = 5 ∧ (q.num < 1 ∨ 50 < q.num) then 3
  else if wants q.kind ≠ 0 ∧ ((splitS q.text).all wordOk = false ∨ (0 < wants q.kind ∧ ((splitS q.text).length : Int) ≠ wants q.kind)) then 10
  else 0
/-- the first error of some nodes -/
def errGo : List Q → Int → Int × Int
  | [], _ => (0, 0)
  | q :: l, i => if errOf q = 0 then errGo l (i + 1) else (errOf q, i)
/-- the fault of a query -/
def fault (q : Q) : Int × Int :=
  if 8 < lev 9 q then (2, -3) else if 60 < (pre 9 q).length then (2, -2) else errGo (pre 9 q) 0
theorem errGo_append (a b : List Q) (i : Int) : errGo (a ++ b) i = if (errGo a i).1 = 0 then errGo b (i + a.length) else errGo a i := by
  induction a generalizing i with
  | nil => simp [errGo]
  | cons q a ih =>
    rw [List.cons_append, errGo, errGo]
    by_cases h : errOf q = 0
    · rw [if_pos h, if_pos h, ih, List.length_cons]
      have : i + 1 + (a.length : Int) = i + ((a.length + 1 : Nat) : Int) := by omega
      rw [this]
    · rw [if_neg h, if_neg h, if_neg h]
theorem errGo_zero {l : List Q} {i : Int} : (errGo l i).1 = 0 ↔ ∀ q ∈ l, errOf q = 0 := by
  induction l generalizing i with
  | nil => simp [errGo]
  | cons q l ih =>
    rw [errGo]
    by_cases h : errOf q = 0
    · rw [if_pos h, ih]; simp [h]
    · rw [if_neg h]; simp [h]
theorem errGo_zero2 {l : List Q} {i : Int} (h : (errGo l i).1 = 0) : errGo l i = (0, 0) := by
  induction l generalizing i with
  | nil => rfl
  | cons q l ih =>
    rw [errGo] at h ⊢
    by_cases e : errOf q = 0
    · rw [if_pos e] at h ⊢; exact ih h
    · rw [if_neg e] at h; exact absurd h e
/-- what a valid query is like -/
theorem fault_zero {q : Q} : (fault q).1 = 0 ↔ Fits 8 q ∧ (pre 8 q).length ≤ 60 ∧ ∀ p ∈ pre 8 q, errOf p = 0 := by
  unfold fault
  have h89 : lev 9 q ≤ 8 ↔ Fits 8 q := lev_fits 8 q
  by_cases h : 8 < lev 9 q
  · rw [if_pos h]
    constructor
    · intro e; exact absurd e (by decide)
    · rintro ⟨e, _⟩; have := h89.2 e; omega
  · have hf := (show lev 9 q ≤ 8 ↔ Fits 8 q from lev_fits 8 q).1 (by omega)
    rw [if_neg h, pre_fits hf]
    by_cases h2 : 60 < (pre 8 q).length
    · rw [if_pos h2]
      constructor
      · intro e; exact absurd e (by decide)
      · rintro ⟨_, e, _⟩; omega
    · rw [if_neg h2, errGo_zero]
      exact ⟨fun e => ⟨hf, by omega, e⟩, fun e => e.2.2⟩
theorem fault_zero2 {q : Q} (h : (fault q).1 = 0) : fault q = (0, 0) := by
  unfold fault at h ⊢
  split at h
  · exact absurd h (by decide)
  · split at h
    · exact absurd h (by decide)
    · rename_i h1 h2
      rw [if_neg h1, if_neg h2]
      exact errGo_zero2 h
end Q
end Go.Proofs.YtfjpedgddgbelaaGreatDoor
namespace Go.Proofs.YtfjpedgddgbelaaGreatDoor
open Go.RowKit
set_option linter.unusedVariables false
structure QRd where
  rd : (Nat → Prop) → World → List Value → Q → Prop
  len : ∀ {M : Nat → Prop} {w : World} {cs : List Value} {a : Q}, rd M w cs a → cs.length = 4
  one : ∀ {M : Nat → Prop} {w : World} {cs : List Value} {a : Q}, rd M w cs a → ∀ u ∈ cs, u.oneCell' = true
  keep : ∀ {M : Nat → Prop} {w w' : World} {cs : List Value} {a : Q}, rd M w cs a → (∀ b, b < w.heap.size → ¬ M b → w'.heap[b]? = w.heap[b]?) → w.heap.size ≤ w'.heap.size → rd M w' cs a
  sub : ∀ {M M' : Nat → Prop} {w : World} {cs : List Value} {a : Q}, rd M w cs a → (∀ b, b < w.heap.size → M' b → M b) → rd M' w cs a
def QRd.codec (c : QRd) : Codec Q := ⟨4, by omega, c.rd, c.len, c.one, c.keep, c.sub⟩
def qStep (c : QRd) : QRd where
  rd M w cs q := ∃ v, cs = [.int .i64 q.kind, .string (bs q.text), .int .i64 q.num, v] ∧ (-9223372036854775808 ≤ q.kind ∧ q.kind ≤ 9223372036854775807) ∧ q.text.length ≤ maxLen ∧ (-9223372036854775808 ≤ q.num ∧ q.num ≤ 9223372036854775807) ∧ SlR c.codec M w v q.parts
  len h := by obtain ⟨v, rfl, _⟩ := h; rfl
  one h u hu := by
    obtain ⟨v, rfl, _, _, _, hv⟩ := h
    obtain ⟨A, c, rfl, _⟩ := hv.form
    simp only [List.mem_cons, List.not_mem_nil, or_false] at hu
    rcases hu with rfl | rfl | rfl | rfl <;> rfl
  keep h hk hs := by
    obtain ⟨v, e, h1, h2, h3, hv⟩ := h
    exact ⟨v, e, h1, h2, h3, hv.keep hk hs⟩
  sub h hm := by
    obtain ⟨v, e, h1, h2, h3, hv⟩ := h
    exact ⟨v, e, h1, h2, h3, hv.sub hm⟩
def qc : Nat → QRd
  | 0 => ⟨fun _ _ _ _ => False, fun h => h.elim, fun h => h.elim, fun h => h.elim, fun h => h.elim⟩
  | f + 1 => qStep (qc f)
/-- a query of f levels at most -/
def qF (f : Nat) : Codec Q := (qc f).codec
theorem qF_n (f : Nat) : (qF f).n = 4 := rfl
theorem Els.weaken {α : Type} {C D : Codec α} {M : Nat → Prop} {w : World} {xs : List Value} {l : List α} (hn : C.n = D.n) (h : Els C M w xs l) (hw : ∀ cs, ∀ a ∈ l, C.rd M w cs a → D.rd M w cs a) : Els D M w xs l := by
  refine ⟨by rw [h.1, hn], fun i hi => ?_⟩
  have := hw _ _ (List.getElem_mem hi) (h.2 i hi)
  rwa [hn] at this
theorem SlR.weaken {α : Type} {C D : Codec α} {M : Nat → Prop} {w : World} {v : Value} {l : List α} (hn : C.n = D.n) (h : SlR C M w v l) (hw : ∀ cs, ∀ a ∈ l, C.rd M w cs a → D.rd M w cs a) : SlR D M w v l := by
  obtain ⟨A, n, c, xs, rfl, h1, h2, h3, h4, h5⟩ := h
  exact ⟨A, n, c, xs, rfl, h1, h2, h3, h4.weaken hn hw, h5⟩
theorem qF_up : ∀ {f : Nat} {M : Nat → Prop} {w : World} {cs : List Value} {q : Q}, (qF f).rd M w cs q → (qF (f + 1)).rd M w cs q
  | 0, _, _, _, _, h => h.elim
  | f + 1, _, _, _, _, ⟨v, e, h1, h2, h3, hv⟩ => ⟨v, e, h1, h2, h3, SlR.weaken (C := qF f) (D := qF (f + 1)) rfl hv fun cs a _ h => qF_up h⟩
theorem qF_mono {f g : Nat} (hfg : f ≤ g) {M : Nat → Prop} {w : World} {cs : List Value} {q : Q} (h : (qF f).rd M w cs q) : (qF g).rd M w cs q := by
  induction hfg with
  | refl => exact h
  | step _ ih => exact qF_up ih
theorem SlR.qMono {f g : Nat} (hfg : f ≤ g) {M : Nat → Prop} {w : World} {v : Value} {l : List Q} (h : SlR (qF f) M w v l) : SlR (qF g) M w v l :=
  SlR.weaken (C := qF f) (D := qF g) rfl h fun _ _ _ h => qF_mono hfg h
/-- a node's value -/
def QAt (f : Nat) (M : Nat → Prop) (w : World) (v : Value) (q : Q) : Prop :=
  ∃ A c, v = .agg #[.int .i64 q.kind, .string (bs q.text), .int .i64 q.num, .slice A q.parts.length c] ∧ (-9223372036854775808 ≤ q.kind ∧ q.kind ≤ 9223372036854775807) ∧ q.text.length ≤ maxLen ∧ (-9223372036854775808 ≤ q.num ∧ q.num ≤ 9223372036854775807) ∧ SlR (qF f) M w (.slice A q.parts.length c) q.parts
theorem QAt.ext {f : Nat} {M : Nat → Prop} {w w' : World} {v : Value} {q : Q} (h : QAt f M w v q) (hb : Below w.heap.size w w') : QAt f M w' v q := by
  obtain ⟨A, c, e, h1, h2, h3, hv⟩ := h
  exact ⟨A, c, e, h1, h2, h3, hv.ext hb⟩
theorem QAt.mono {f g : Nat} (hfg : f ≤ g) {M : Nat → Prop} {w : World} {v : Value} {q : Q} (h : QAt f M w v q) : QAt g M w v q := by
  obtain ⟨A, c, e, h1, h2, h3, hv⟩ := h
  exact ⟨A, c, e, h1, h2, h3, hv.qMono hfg⟩
theorem QAt.of_rd {f : Nat} {M : Nat → Prop} {w : World} {a : Array Value} {q : Q} (h : (qF f).rd M w (Value.agg a).cells.toList q) : ∃ g, f = g + 1 ∧ QAt g M w (.agg a) q := by
  cases f with
  | zero => exact h.elim
  | succ g =>
    obtain ⟨v, e, h1, h2, h3, hv⟩ := h
    obtain ⟨A, c, rfl, _⟩ := hv.form
    have h4 : a.toList = _ := e
    refine ⟨g, rfl, A, c, ?_, h1, h2, h3, hv⟩
    rw [← Array.toArray_toList (xs := a), h4]
theorem QAt.rd {f : Nat} {M : Nat → Prop} {w : World} {v : Value} {q : Q} (h : QAt f M w v q) : (qF (f + 1)).rd M w v.cells.toList q := by
  obtain ⟨A, c, rfl, h1, h2, h3, hv⟩ := h
  exact ⟨_, rfl, h1, h2, h3, hv⟩
/-- part k of a row -/
theorem SlR.qAt {f : Nat} {M : Nat → Prop} {w : World} {A : Option Addr} {n c : Nat} {l : List Q} (h : SlR (qF f) M w (.slice A n c) l) {k : Nat} (hk : k < l.length) :
    ∃ b off g A2 c2, A = some ⟨b, off, none⟩ ∧ f = g + 1 ∧ ¬ M b ∧ b < w.heap.size ∧ w.cell? ⟨b, off + k * 4, none⟩ = some (.int .i64 l[k].kind) ∧ w.cell? ⟨b, off + k * 4 + 1, none⟩ = some (.string (bs l[k].text)) ∧
      w.cell? ⟨b, off + k * 4 + 2, none⟩ = some (.int .i64 l[k].num) ∧ w.cell? ⟨b, off + k * 4 + 3, none⟩ = some (.slice A2 l[k].parts.length c2) ∧
      QAt g M w (.agg #[.int .i64 l[k].kind, .string (bs l[k].text), .int .i64 l[k].num, .slice A2 l[k].parts.length c2]) l[k] := by
  obtain ⟨b, off, cs, rfl, hM, hb, hr, hc⟩ := h.at_ hk
  cases f with
  | zero => exact hr.elim
  | succ g =>
    obtain ⟨v, rfl, h1, h2, h3, hv⟩ := hr
    obtain ⟨A2, c2, rfl, _⟩ := hv.form
    exact ⟨b, off, g, A2, c2, rfl, rfl, hM, hb, hc 0 _ rfl, hc 1 _ rfl, hc 2 _ rfl, hc 3 _ rfl, A2, c2, rfl, h1, h2, h3, hv⟩
namespace Q
/-- a property of queries, by their parts -/
theorem ind {p : Q → Prop} (h : ∀ k t n l, (∀ q ∈ l, p q) → p (.node k t n l)) : ∀ q, p q
  | .node k t n l => h k t n l (go l)
where go : ∀ l : List Q, ∀ q ∈ l, p q
  | [], _, hq => by cases hq
  | a :: l, q, hq => by
    rcases List.mem_cons.1 hq with e | e
    · rw [e]; exact ind h a
    · exact go l q e
mutual
/-- how much a query holds -/
def bulk : Q → Nat
  | .node _ t _ l => t.length + 4 + bulks l
def bulks : List Q → Nat
  | [] => 0
  | a :: l => bulk a + bulks l
end
theorem bulks_mem {l : List Q} {q : Q} (h : q ∈ l) : q.bulk ≤ bulks l := by
  induction l with
  | nil => cases h
  | cons a l ih =>
    rw [bulks]
    rcases List.mem_cons.1 h with e | e
    · rw [e]; omega
    · have := ih e; omega
theorem bulk_eq (q : Q) : q.bulk = q.text.length + 4 + bulks q.parts := by
  cases q; rw [bulk]; rfl
theorem bulks_len (l : List Q) : 4 * l.length ≤ bulks l := by
  induction l with
  | nil => simp [bulks]
  | cons a l ih => rw [bulks, bulk_eq, List.length_cons]; omega
/-- as many nodes as levels allow weigh no more than the whole -/
theorem pre_bulk : ∀ (f : Nat) (q : Q), (pre f q).length * 4 ≤ q.bulk
  | 0, q => by simp [pre]
  | f + 1, q => by
    rw [pre, List.length_cons, bulk_eq]
    have key : ∀ l : List Q, (l.flatMap (pre f)).length * 4 ≤ bulks l := by
      intro l
      induction l with
      | nil => simp
      | cons a l ih =>
        rw [List.flatMap_cons, List.length_append, bulks]
        have := pre_bulk f a
        omega
    have := key q.parts
    omega
theorem flat_bulk (f : Nat) (l : List Q) : (l.flatMap (pre f)).length * 4 ≤ bulks l := by
  induction l with
  | nil => simp
  | cons a l ih =>
    rw [List.flatMap_cons, List.length_append, bulks]
    have := pre_bulk f a
    omega
theorem take_bulk : ∀ {l : List Q} {m : Nat} (h : m < l.length), bulks (l.take m) + l[m].bulk ≤ bulks l
  | a :: l, 0, h => by simp [bulks]
  | a :: l, m + 1, h => by
    have := take_bulk (l := l) (m := m) (by simpa using h)
    rw [List.take_succ_cons, bulks, bulks, List.getElem_cons_succ]
    omega
theorem lev_le : ∀ (f : Nat) (q : Q), lev f q ≤ f
  | 0, q => by simp [lev]
  | f + 1, q => by
    rw [lev]
    have : top (q.parts.map (lev f)) ≤ f := top_le.2 fun a ha => by
      obtain ⟨p, _, rfl⟩ := List.mem_map.1 ha
      exact lev_le f p
    omega
theorem top_lev_le (f : Nat) (l : List Q) : top (l.map (lev f)) ≤ f := top_le.2 fun a ha => by
  obtain ⟨p, _, rfl⟩ := List.mem_map.1 ha
  exact lev_le f p
theorem pre_mem_bulk : ∀ (f : Nat) (q : Q), ∀ p ∈ pre f q, p.bulk ≤ q.bulk
  | 0, q, p, h => by cases h
  | f + 1, q, p, h => by
    rw [pre] at h
    rcases List.mem_cons.1 h with e | e
    · rw [e]; exact Nat.le_refl _
    · obtain ⟨r, hr, hp⟩ := List.mem_flatMap.1 e
      have h1 := pre_mem_bulk f r p hp
      have h2 := bulks_mem hr
      rw [bulk_eq q]; omega
end Q
end Go.Proofs.YtfjpedgddgbelaaGreatDoor
namespace Go.Proofs.YtfjpedgddgbelaaGreatDoor
open Go.RowKit
set_option linter.unusedVariables false
/-- the place of the first that p holds of -/
def idxP {α : Type} (p : α → Bool) (l : List α) : Int := match l.findIdx? p with | some k => k | none => -1
theorem idxP_hit {α : Type} {p : α → Bool} {l : List α} {k : Nat} (hk : k < l.length) (h : p l[k] = true) (hn : ∀ (j : Nat) (hj : j < l.length), j < k → p l[j] = false) : idxP p l = (k : Int) := by
  unfold idxP
  rw [List.findIdx?_eq_some_iff_getElem.2 ⟨hk, h, fun j hjk => by rw [hn j (by omega) hjk]; simp⟩]
theorem idxP_none {α : Type} {p : α → Bool} {l : List α} (hn : ∀ (j : Nat) (hj : j < l.length), p l[j] = false) : idxP p l = -1 := by
  unfold idxP
  rw [List.findIdx?_eq_none_iff.2 fun x hx => by obtain ⟨j, hj, rfl⟩ := List.getElem_of_mem hx; exact hn j hj]
theorem idxP_any {α : Type} (p : α → Bool) (l : List α) : decide (0 ≤ idxP p l) = l.any p := by
  unfold idxP
  cases h : l.findIdx? p with
  | none =>
    rw [List.findIdx?_eq_none_iff] at h
    have : l.any p = false := by rw [List.any_eq_false]; exact fun x hx => by rw [h x hx]; simp
    rw [this]; simp
  | some k =>
    obtain ⟨hk, hp, _⟩ := List.findIdx?_eq_some_iff_getElem.1 h
    have : l.any p = true := List.any_eq_true.2 ⟨l[k], List.getElem_mem hk, hp⟩
    rw [this]; simp
theorem idxP_ge {α : Type} (p : α → Bool) (l : List α) : -1 ≤ idxP p l := by
  unfold idxP
  split <;> omega
set_option maxRecDepth 100000 in
set_option maxHeartbeats 2000000 in
theorem intIdx_ok (g0 : FuncId) (lb : Array Value) (p : Int → Bool) (l : List Int) (v : Value) (w : World) (h : SlR intC M0 w v l) (eg : ∀ args w, (callFunc g0 args).run Tryz.prog w = .ok (.enter g0 args) w)
    (hf : ∀ (x : Int) (w1 : World), x ∈ l → Below w.heap.size w w1 → -9223372036854775808 ≤ x → x ≤ 9223372036854775807 → Calls Tryz.prog g0 (#[.int .i64 x] ++ lb) w1 fun e w2 => e = .returned (.bool (p x)) ∧ Below w1.heap.size w1 w2) :
    Calls Tryz.prog 251 #[v, .func (.func g0) #[] lb] w fun e w' => e = .returned (.int .i64 (idxP p l)) ∧ Below w.heap.size w w' := by
  obtain ⟨A, c, rfl, _, _⟩ := h.form
  obtain ⟨hlc, hcm⟩ := h.lenM
  have Hf := Lib.hid hf
  clear hf
  go_enter Tryz.func251, Tryz.ntmps251
  go_wp2
  go_loopw [8] (fun i wr => ∃ k : Nat, k ≤ l.length ∧ i = .int .i64 k ∧ Hid (∀ (j : Nat) (hj : j < l.length), j < k → p l[j] = false) ∧ Below w.heap.size w wr) (fun i _ => l.length - (intOf i).toNat)
  case atStart => exact ⟨0, Nat.zero_le _, rfl, Lib.hid fun j _ h => absurd h (by omega), Below.refl _ _⟩
  case round =>
    obtain ⟨k, hk, rfl, hpre, hb⟩ := hrel
    by_cases hlt : k < l.length
    · have hx1 := h.ext hb
      obtain ⟨b, off, rfl, _, _, q0, hl1, hl2⟩ := hx1.intAt hlt
      obtain ⟨x, hx⟩ : ∃ x, x = l[k] := ⟨_, rfl⟩
      rw [← hx] at q0 hl1 hl2
      obtain ⟨t, ht⟩ : ∃ t, p x = t := ⟨_, rfl⟩
      have hfc := Hf.out x wr (by rw [hx]; exact List.getElem_mem hlt) hb hl1 hl2
      rw [ht] at hfc
      have Hfc := Lib.hid hfc; have Hx := Lib.hid hx; have Ht := Lib.hid ht; have Hk0 : Hid ((0 : Int) ≤ (k : Int)) := Lib.hid (by omega)
      clear hfc hx ht hx1
      go_wp2_with fail
      refine Hfc.out.mono ?_
      rintro e w1 ⟨rfl, hb1⟩
      cases t with
      | true =>
        go_wp2_with fail
        go_ret
        exact ⟨by rw [idxP_hit hlt (by rw [← Hx.out]; exact Ht.out) hpre.out]; rfl, hb.trans (hb1.mono hb.size)⟩
      | false =>
        go_wp2_with fail
        go_roundw
        case rel => exact ⟨k + 1, by omega, by go_num, Lib.hid fun j hj hjk => by
          by_cases e : j = k
          · subst e; rw [← Hx.out]; exact Ht.out
          · exact hpre.out j hj (by omega), hb.trans (hb1.mono hb.size)⟩
        case measure => simp [intOf]; omega
    · go_wp2
      go_ret
      exact ⟨by rw [idxP_none fun i hi => hpre.out i hi (by omega)]; rfl, hb⟩
theorem intCont_ok (g0 : FuncId) (lb : Array Value) (p : Int → Bool) (l : List Int) (v : Value) (w : World) (h : SlR intC M0 w v l) (eg : ∀ args w, (callFunc g0 args).run Tryz.prog w = .ok (.enter g0 args) w)
    (hf : ∀ (x : Int) (w1 : World), x ∈ l → Below w.heap.size w w1 → -9223372036854775808 ≤ x → x ≤ 9223372036854775807 → Calls Tryz.prog g0 (#[.int .i64 x] ++ lb) w1 fun e w2 => e = .returned (.bool (p x)) ∧ Below w1.heap.size w1 w2) :
    Calls Tryz.prog 212 #[v, .func (.func g0) #[] lb] w fun e w' => e = .returned (.bool (l.any p)) ∧ Below w.heap.size w w' := by
  have hi := intIdx_ok g0 lb p l v w h eg hf
  rw [← idxP_any p l]
  have hge := idxP_ge p l
  obtain ⟨i, hie⟩ : ∃ i, idxP p l = i := ⟨_, rfl⟩
  rw [hie] at hi hge ⊢
  obtain ⟨A, c, rfl, _, _⟩ := h.form
  have Hi := Lib.hid hi
  clear hi hf hie
  go_enter Tryz.func212, Tryz.ntmps212
  go_wp2_with fail
  refine Hi.out.mono ?_
  rintro e w1 ⟨rfl, hb1⟩
  go_wp2_with fail
  go_ret
  exact ⟨rfl, hb1⟩
set_option maxRecDepth 100000 in
set_option maxHeartbeats 2000000 in
theorem postIdx_ok (g0 : FuncId) (lb : Array Value) (p : Ix.Post → Bool) (l : List Ix.Post) (v : Value) (w : World) (h : SlR postC M0 w v l) (eg : ∀ args w, (callFunc g0 args).run Tryz.prog w = .ok (.enter g0 args) w)
    (hf : ∀ (x : Ix.Post) (A2 : Option Addr) (c2 : Nat) (w1 : World), x ∈ l → Below w.heap.size w w1 → -9223372036854775808 ≤ x.1 → x.1 ≤ 9223372036854775807 → SlR intC M0 w1 (.slice A2 x.2.length c2) x.2 → Calls Tryz.prog g0 (#[.agg #[.int .i64 x.1, .slice A2 x.2.length c2]] ++ lb) w1 fun e w2 => e = .returned (.bool (p x)) ∧ Below w1.heap.size w1 w2) :
    Calls Tryz.prog 116 #[v, .func (.func g0) #[] lb] w fun e w' => e = .returned (.int .i64 (idxP p l)) ∧ Below w.heap.size w w' := by
  obtain ⟨A, c, rfl, _, _⟩ := h.form
  obtain ⟨hlc, hcm⟩ := h.lenM
  have Hf := Lib.hid hf
  clear hf
  go_enter Tryz.func116, Tryz.ntmps116
  go_wp2
  go_loopw [8] (fun i wr => ∃ k : Nat, k ≤ l.length ∧ i = .int .i64 k ∧ Hid (∀ (j : Nat) (hj : j < l.length), j < k → p l[j] = false) ∧ Below w.heap.size w wr) (fun i _ => l.length - (intOf i).toNat)
  case atStart => exact ⟨0, Nat.zero_le _, rfl, Lib.hid fun j _ h => absurd h (by omega), Below.refl _ _⟩
  case round =>
    obtain ⟨k, hk, rfl, hpre, hb⟩ := hrel
    by_cases hlt : k < l.length
    · have hx1 := h.ext hb
      obtain ⟨b, off, A2, c2, rfl, _, _, q0, q1, hl1, hl2, hsl⟩ := hx1.postAt hlt
      obtain ⟨x, hx⟩ : ∃ x, x = l[k] := ⟨_, rfl⟩
      rw [← hx] at q0 q1 hl1 hl2 hsl
      obtain ⟨t, ht⟩ : ∃ t, p x = t := ⟨_, rfl⟩
      have hfc := Hf.out x A2 c2 wr (by rw [hx]; exact List.getElem_mem hlt) hb hl1 hl2 hsl
      rw [ht] at hfc
      have Hfc := Lib.hid hfc; have Hx := Lib.hid hx; have Ht := Lib.hid ht; have Hk0 : Hid ((0 : Int) ≤ (k : Int)) := Lib.hid (by omega)
      clear hfc hx ht hx1
      go_wp2_with fail
      refine Hfc.out.mono ?_
      rintro e w1 ⟨rfl, hb1⟩
      cases t with
      | true =>
        go_wp2_with fail
        go_ret
        exact ⟨by rw [idxP_hit hlt (by rw [← Hx.out]; exact Ht.out) hpre.out]; rfl, hb.trans (hb1.mono hb.size)⟩
      | false =>
        go_wp2_with fail
        go_roundw
        case rel => exact ⟨k + 1, by omega, by go_num, Lib.hid fun j hj hjk => by
          by_cases e : j = k
          · subst e; rw [← Hx.out]; exact Ht.out
          · exact hpre.out j hj (by omega), hb.trans (hb1.mono hb.size)⟩
        case measure => simp [intOf]; omega
    · go_wp2
      go_ret
      exact ⟨by rw [idxP_none fun i hi => hpre.out i hi (by omega)]; rfl, hb⟩
theorem postCont_ok (g0 : FuncId) (lb : Array Value) (p : Ix.Post → Bool) (l : List Ix.Post) (v : Value) (w : World) (h : SlR postC M0 w v l) (eg : ∀ args w, (callFunc g0 args).run Tryz.prog w = .ok (.enter g0 args) w)
    (hf : ∀ (x : Ix.Post) (A2 : Option Addr) (c2 : Nat) (w1 : World), x ∈ l → Below w.heap.size w w1 → -9223372036854775808 ≤ x.1 → x.1 ≤ 9223372036854775807 → SlR intC M0 w1 (.slice A2 x.2.length c2) x.2 → Calls Tryz.prog g0 (#[.agg #[.int .i64 x.1, .slice A2 x.2.length c2]] ++ lb) w1 fun e w2 => e = .returned (.bool (p x)) ∧ Below w1.heap.size w1 w2) :
    Calls Tryz.prog 210 #[v, .func (.func g0) #[] lb] w fun e w' => e = .returned (.bool (l.any p)) ∧ Below w.heap.size w w' := by
  have hi := postIdx_ok g0 lb p l v w h eg hf
  rw [← idxP_any p l]
  have hge := idxP_ge p l
  obtain ⟨i, hie⟩ : ∃ i, idxP p l = i := ⟨_, rfl⟩
  rw [hie] at hi hge ⊢
  obtain ⟨A, c, rfl, _, _⟩ := h.form
  have Hi := Lib.hid hi
  clear hi hf hie
  go_enter Tryz.func210, Tryz.ntmps210
  go_wp2_with fail
  refine Hi.out.mono ?_
  rintro e w1 ⟨rfl, hb1⟩
  go_wp2_with fail
  go_ret
  exact ⟨rfl, hb1⟩
set_option maxRecDepth 100000 in
set_option maxHeartbeats 2000000 in
theorem termIdx_ok (g0 : FuncId) (lb : Array Value) (p : Ix.Term → Bool) (l : List Ix.Term) (v : Value) (w : World) (h : SlR termC M0 w v l) (eg : ∀ args w, (callFunc g0 args).run Tryz.prog w = .ok (.enter g0 args) w)
    (hf : ∀ (x : Ix.Term) (A2 : Option Addr) (c2 : Nat) (w1 : World), x ∈ l → Below w.heap.size w w1 → x.1.length ≤ maxLen → SlR postC M0 w1 (.slice A2 x.2.length c2) x.2 → Calls Tryz.prog g0 (#[.agg #[.string (bs x.1), .slice A2 x.2.length c2]] ++ lb) w1 fun e w2 => e = .returned (.bool (p x)) ∧ Below w1.heap.size w1 w2) :
    Calls Tryz.prog 117 #[v, .func (.func g0) #[] lb] w fun e w' => e = .returned (.int .i64 (idxP p l)) ∧ Below w.heap.size w w' := by
  obtain ⟨A, c, rfl, _, _⟩ := h.form
  obtain ⟨hlc, hcm⟩ := h.lenM
  have Hf := Lib.hid hf
  clear hf
  go_enter Tryz.func117, Tryz.ntmps117
  go_wp2
  go_loopw [8] (fun i wr => ∃ k : Nat, k ≤ l.length ∧ i = .int .i64 k ∧ Hid (∀ (j : Nat) (hj : j < l.length), j < k → p l[j] = false) ∧ Below w.heap.size w wr) (fun i _ => l.length - (intOf i).toNat)
  case atStart => exact ⟨0, Nat.zero_le _, rfl, Lib.hid fun j _ h => absurd h (by omega), Below.refl _ _⟩
  case round =>
    obtain ⟨k, hk, rfl, hpre, hb⟩ := hrel
    by_cases hlt : k < l.length
    · have hx1 := h.ext hb
      obtain ⟨b, off, A2, c2, rfl, _, _, q0, q1, hl1, hsl⟩ := hx1.termAt hlt
      obtain ⟨x, hx⟩ : ∃ x, x = l[k] := ⟨_, rfl⟩
      rw [← hx] at q0 q1 hl1 hsl
      obtain ⟨t, ht⟩ : ∃ t, p x = t := ⟨_, rfl⟩
      have hfc := Hf.out x A2 c2 wr (by rw [hx]; exact List.getElem_mem hlt) hb hl1 hsl
      rw [ht] at hfc
      have Hfc := Lib.hid hfc; have Hx := Lib.hid hx; have Ht := Lib.hid ht; have Hk0 : Hid ((0 : Int) ≤ (k : Int)) := Lib.hid (by omega)
      clear hfc hx ht hx1
      go_wp2_with fail
      refine Hfc.out.mono ?_
      rintro e w1 ⟨rfl, hb1⟩
      cases t with
      | true =>
        go_wp2_with fail
        go_ret
        exact ⟨by rw [idxP_hit hlt (by rw [← Hx.out]; exact Ht.out) hpre.out]; rfl, hb.trans (hb1.mono hb.size)⟩
      | false =>
        go_wp2_with fail
        go_roundw
        case rel => exact ⟨k + 1, by omega, by go_num, Lib.hid fun j hj hjk => by
          by_cases e : j = k
          · subst e; rw [← Hx.out]; exact Ht.out
          · exact hpre.out j hj (by omega), hb.trans (hb1.mono hb.size)⟩
        case measure => simp [intOf]; omega
    · go_wp2
      go_ret
      exact ⟨by rw [idxP_none fun i hi => hpre.out i hi (by omega)]; rfl, hb⟩
theorem termCont_ok (g0 : FuncId) (lb : Array Value) (p : Ix.Term → Bool) (l : List Ix.Term) (v : Value) (w : World) (h : SlR termC M0 w v l) (eg : ∀ args w, (callFunc g0 args).run Tryz.prog w = .ok (.enter g0 args) w)
    (hf : ∀ (x : Ix.Term) (A2 : Option Addr) (c2 : Nat) (w1 : World), x ∈ l → Below w.heap.size w w1 → x.1.length ≤ maxLen → SlR postC M0 w1 (.slice A2 x.2.length c2) x.2 → Calls Tryz.prog g0 (#[.agg #[.string (bs x.1), .slice A2 x.2.length c2]] ++ lb) w1 fun e w2 => e = .returned (.bool (p x)) ∧ Below w1.heap.size w1 w2) :
    Calls Tryz.prog 207 #[v, .func (.func g0) #[] lb] w fun e w' => e = .returned (.bool (l.any p)) ∧ Below w.heap.size w w' := by
  have hi := termIdx_ok g0 lb p l v w h eg hf
  rw [← idxP_any p l]
  have hge := idxP_ge p l
  obtain ⟨i, hie⟩ : ∃ i, idxP p l = i := ⟨_, rfl⟩
  rw [hie] at hi hge ⊢
  obtain ⟨A, c, rfl, _, _⟩ := h.form
  have Hi := Lib.hid hi
  clear hi hf hie
  go_enter Tryz.func207, Tryz.ntmps207
  go_wp2_with fail
  refine Hi.out.mono ?_
  rintro e w1 ⟨rfl, hb1⟩
  go_wp2_with fail
  go_ret
  exact ⟨rfl, hb1⟩
set_option maxRecDepth 100000 in
set_option maxHeartbeats 2000000 in
theorem queryIdx_ok (g0 : FuncId) (lb : Array Value) (f : Nat) (p : Q → Bool) (l : List Q) (v : Value) (w : World) (h : SlR (qF f) M0 w v l) (eg : ∀ args w, (callFunc g0 args).run Tryz.prog w = .ok (.enter g0 args) w)
    (hf : ∀ (x : Q) (g : Nat) (A2 : Option Addr) (c2 : Nat) (w1 : World), x ∈ l → Below w.heap.size w w1 → f = g + 1 → QAt g M0 w1 (.agg #[.int .i64 x.kind, .string (bs x.text), .int .i64 x.num, .slice A2 x.parts.length c2]) x → Calls Tryz.prog g0 (#[.agg #[.int .i64 x.kind, .string (bs x.text), .int .i64 x.num, .slice A2 x.parts.length c2]] ++ lb) w1 fun e w2 => e = .returned (.bool (p x)) ∧ Below w1.heap.size w1 w2) :
    Calls Tryz.prog 216 #[v, .func (.func g0) #[] lb] w fun e w' => e = .returned (.int .i64 (idxP p l)) ∧ Below w.heap.size w w' := by
  obtain ⟨A, c, rfl, _, _⟩ := h.form
  obtain ⟨hlc, hcm⟩ := h.lenM
  have Hf := Lib.hid hf
  clear hf
  go_enter Tryz.func216, Tryz.ntmps216
  go_wp2
  go_loopw [8] (fun i wr => ∃ k : Nat, k ≤ l.length ∧ i = .int .i64 k ∧ Hid (∀ (j : Nat) (hj : j < l.length), j < k → p l[j] = false) ∧ Below w.heap.size w wr) (fun i _ => l.length - (intOf i).toNat)
  case atStart => exact ⟨0, Nat.zero_le _, rfl, Lib.hid fun j _ h => absurd h (by omega), Below.refl _ _⟩
  case round =>
    obtain ⟨k, hk, rfl, hpre, hb⟩ := hrel
    by_cases hlt : k < l.length
    · have hx1 := h.ext hb
      obtain ⟨b, off, g, A2, c2, rfl, hfg, _, _, q0, q1, q2, q3, hqa⟩ := hx1.qAt hlt
      obtain ⟨x, hx⟩ : ∃ x, x = l[k] := ⟨_, rfl⟩
      rw [← hx] at q0 q1 q2 q3 hqa
      obtain ⟨t, ht⟩ : ∃ t, p x = t := ⟨_, rfl⟩
      have hfc := Hf.out x g A2 c2 wr (by rw [hx]; exact List.getElem_mem hlt) hb hfg hqa
      rw [ht] at hfc
      have Hfc := Lib.hid hfc; have Hx := Lib.hid hx; have Ht := Lib.hid ht; have Hk0 : Hid ((0 : Int) ≤ (k : Int)) := Lib.hid (by omega)
      clear hfc hx ht hx1
      go_wp2_with fail
      refine Hfc.out.mono ?_
      rintro e w1 ⟨rfl, hb1⟩
      cases t with
      | true =>
        go_wp2_with fail
        go_ret
        exact ⟨by rw [idxP_hit hlt (by rw [← Hx.out]; exact Ht.out) hpre.out]; rfl, hb.trans (hb1.mono hb.size)⟩
      | false =>
        go_wp2_with fail
        go_roundw
        case rel => exact ⟨k + 1, by omega, by go_num, Lib.hid fun j hj hjk => by
          by_cases e : j = k
          · subst e; rw [← Hx.out]; exact Ht.out
          · exact hpre.out j hj (by omega), hb.trans (hb1.mono hb.size)⟩
        case measure => simp [intOf]; omega
    · go_wp2
      go_ret
      exact ⟨by rw [idxP_none fun i hi => hpre.out i hi (by omega)]; rfl, hb⟩
theorem queryCont_ok (g0 : FuncId) (lb : Array Value) (f : Nat) (p : Q → Bool) (l : List Q) (v : Value) (w : World) (h : SlR (qF f) M0 w v l) (eg : ∀ args w, (callFunc g0 args).run Tryz.prog w = .ok (.enter g0 args) w)
    (hf : ∀ (x : Q) (g : Nat) (A2 : Option Addr) (c2 : Nat) (w1 : World), x ∈ l → Below w.heap.size w w1 → f = g + 1 → QAt g M0 w1 (.agg #[.int .i64 x.kind, .string (bs x.text), .int .i64 x.num, .slice A2 x.parts.length c2]) x → Calls Tryz.prog g0 (#[.agg #[.int .i64 x.kind, .string (bs x.text), .int .i64 x.num, .slice A2 x.parts.length c2]] ++ lb) w1 fun e w2 => e = .returned (.bool (p x)) ∧ Below w1.heap.size w1 w2) :
    Calls Tryz.prog 172 #[v, .func (.func g0) #[] lb] w fun e w' => e = .returned (.bool (l.any p)) ∧ Below w.heap.size w w' := by
  have hi := queryIdx_ok g0 lb f p l v w h eg hf
  rw [← idxP_any p l]
  have hge := idxP_ge p l
  obtain ⟨i, hie⟩ : ∃ i, idxP p l = i := ⟨_, rfl⟩
  rw [hie] at hi hge ⊢
  obtain ⟨A, c, rfl, _, _⟩ := h.form
  have Hi := Lib.hid hi
  clear hi hf hie
  go_enter Tryz.func172, Tryz.ntmps172
  go_wp2_with fail
  refine Hi.out.mono ?_
  rintro e w1 ⟨rfl, hb1⟩
  go_wp2_with fail
  go_ret
  exact ⟨rfl, hb1⟩
end Go.Proofs.YtfjpedgddgbelaaGreatDoor
