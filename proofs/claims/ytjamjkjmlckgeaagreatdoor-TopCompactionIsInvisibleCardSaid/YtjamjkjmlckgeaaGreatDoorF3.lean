/-
  Contracts and plain facts, one after another: A field's name, blanks, and where a line ends; A range over a function: an iterator's contract against any loop body, and the law of the loop. No program is named here.
-/
import Derived.Test.YtjamjkjmlckgeaaGreatDoorF2
import Derived.Test.YtjamjkjmlckgeaaGreatDoorF35
import Derived.RangeFuncFrom
import Derived.Shelf.Abstract
namespace Go.Proofs.YtjamjkjmlckgeaaGreatDoor
open Go.RowKit

theorem u8_eq (c : UInt8) (n : Nat) (hn : n < 256) : (c == UInt8.ofNat n) = ((c.toNat : Int) == (n : Int)) := by
  rw [Bool.eq_iff_iff]
  simp only [beq_iff_eq, ← UInt8.toNat_inj, UInt8.toNat_ofNat']
  omega
theorem blank_ok (c : UInt8) (w : World) : Calls Tryz.prog 150 #[.int .u8 (c.toNat : Int)] w fun e w' => e = .returned (.bool (Mb.blank c)) ∧ w = w' := by
  have hb : Mb.blank c = ((c.toNat : Int) == 32 || (c.toNat : Int) == 9) := by
    unfold Mb.blank
    rw [show (32 : UInt8) = UInt8.ofNat 32 from rfl, show (9 : UInt8) = UInt8.ofNat 9 from rfl, u8_eq c 32 (by omega), u8_eq c 9 (by omega)]
    rfl
  have Hb := Lib.hid hb
  clear hb
  go_enter Tryz.func150, Tryz.ntmps150
  go_wp2
  all_goals go_ret
  all_goals refine ⟨?_, rfl⟩
  all_goals rw [Hb.out]
  all_goals first | rfl | (simp_all; done)
theorem between_ok (a b c : Int) (w : World) : Calls Tryz.prog 40 #[.int .i64 a, .int .i64 b, .int .i64 c] w fun e w' => e = .returned (.bool (decide (b ≤ a) && decide (a ≤ c))) ∧ w = w' := by
  by_cases h1 : b ≤ a
  all_goals
    go_enter Tryz.func40, Tryz.ntmps40
    go_wp2
    all_goals go_ret
    all_goals simp [h1]
  all_goals omega
theorem timeM_ok (t : Int) (w : World) : Calls Tryz.prog 41 #[.int .i64 t] w fun e w' => e = .returned (.bool (decide (-68719476736 ≤ t) && decide (t ≤ 68719476736))) ∧ w = w' := by
  by_cases h1 : -68719476736 ≤ t
  all_goals
    go_enter Tryz.func41, Tryz.ntmps41
    go_wp2
    all_goals go_ret
    all_goals simp [h1]
  all_goals omega
/-! ### the name of a field -/
def fnc (c : UInt8) : Bool := (decide (33 ≤ c.toNat) && decide (c.toNat ≤ 126)) && !(c == 58)
theorem fname1_ok (c : UInt8) (w : World) : Calls Tryz.prog 148 #[.int .u8 (c.toNat : Int)] w fun e w' => e = .returned (.bool (fnc c)) ∧ w = w' := by
  have hb : fnc c = ((decide ((33 : Int) ≤ (c.toNat : Int)) && decide ((c.toNat : Int) ≤ 126)) && !((c.toNat : Int) == 58)) := by
    unfold fnc
    rw [show (58 : UInt8) = UInt8.ofNat 58 from rfl, u8_eq c 58 (by omega)]
    congr 2 <;> simp <;> omega
  have Hb := Lib.hid hb
  clear hb
  by_cases h1 : (33 : Int) ≤ (c.toNat : Int)
  all_goals by_cases h2 : (c.toNat : Int) ≤ 126
  all_goals first | (exfalso; omega) | skip
  all_goals
    go_enter Tryz.func148, Tryz.ntmps148
    go_wp2
    all_goals go_ret
    all_goals refine ⟨?_, rfl⟩
    all_goals rw [Hb.out]
    all_goals simp [h1, h2, bne]
  all_goals omega
theorem fname_ok (s : Str) (hs : s.length ≤ maxLen) (w : World) : Calls Tryz.prog 129 #[.string (bs s)] w fun e w' => e = .returned (.bool (Mb.nameF s)) ∧ w = w' := by
  have e0 : (bs s).toList = s := by simp
  have Hs := Lib.hid hs
  clear hs
  have hall := allB_ok 148 fnc (enters_of Tryz.func148 (by kernel_rfl) rfl) fname1_ok s Hs.out w
  have Hall := Lib.hid hall
  have hn : Mb.nameF s = (!(s == []) && (decide (s.length ≤ 60) && s.all fnc)) := rfl
  clear hall e0
  by_cases h0 : s = []
  · subst h0
    go_enter Tryz.func129, Tryz.ntmps129
    go_wp2
    go_ret
    exact ⟨by simp [Mb.nameF], rfl⟩
  · have h0' : s.isEmpty = false := by simpa using h0
    have h0'' : (s == []) = false := by simpa using h0
    rw [h0''] at hn
    have Hn := Lib.hid hn
    clear hn
    by_cases h1 : s.length ≤ 60
    · go_enter Tryz.func129, Tryz.ntmps129
      go_wp2_with fail
      refine Hall.out.mono ?_
      rintro e w1 ⟨rfl, rfl⟩
      go_wp2
      go_ret
      exact ⟨by rw [Hn.out]; simp [h1], rfl⟩
    · go_enter Tryz.func129, Tryz.ntmps129
      go_wp2
      go_ret
      exact ⟨by rw [Hn.out]; simp [h1], rfl⟩
/-! ### where a line ends -/
theorem pointGo_end {s : Str} {i b : Nat} (h : ¬ i < s.length) : ∀ f, Mb.pointGo s f i b = b
  | 0 => rfl
  | f + 1 => by unfold Mb.pointGo; rw [if_neg h]
theorem pointGo_in {s : Str} {f i b : Nat} (h : i < s.length) : Mb.pointGo s (f + 1) i b = (if !Mb.blank (s.getD i 0) || Mb.blank (s.getD (i - 1) 0) then Mb.pointGo s f (i + 1) b
       else if 0 < b ∧ 78 < i then b
       else Mb.pointGo s f (i + 1) i) := by
  rw [Mb.pointGo, if_pos h]
set_option maxHeartbeats 1000000 in
theorem point_ok (s : Str) (k0 : Nat) (hs : s.length ≤ maxLen) (hk0 : k0 ≤ s.length) (w : World) : Calls Tryz.prog 131 #[.string (bs s), .int .i64 (k0 : Int)] w fun e w' => e = .returned (.int .i64 (Mb.pointF s k0 : Nat)) ∧ w = w' := by
  unfold maxLen at hs
  obtain ⟨r, hr⟩ : ∃ r, r = Mb.pointF s k0 := ⟨_, rfl⟩
  rw [← hr]
  have Hr := Lib.hid (show r = Mb.pointGo s s.length (max k0 1) 0 from hr)
  clear hr
  have hm : max (k0 : Int) 1 = ((max k0 1 : Nat) : Int) := by omega
  obtain ⟨i0, hi0⟩ : ∃ i0, i0 = max k0 1 := ⟨_, rfl⟩
  rw [← hi0] at hm Hr
  have h1 : 1 ≤ i0 := by omega
  have h2 : i0 ≤ s.length + 1 := by omega
  clear hi0
  go_enter Tryz.func131, Tryz.ntmps131
  go_wp2
  go_loop [5, 6] (fun b i => ∃ kb ki f : Nat, b = .int .i64 kb ∧ i = .int .i64 ki ∧ 1 ≤ ki ∧ ki ≤ s.length + 1 ∧ s.length ≤ f + ki ∧ Hid (r = Mb.pointGo s f ki kb)) (fun b i => s.length + 1 - (intOf i).toNat)
  case atStart => exact ⟨0, i0, s.length, rfl, by first | rfl | rw [hm], h1, h2, by omega, Hr⟩
  case round =>
    obtain ⟨kb, ki, f, rfl, rfl, h3, h4, h5, h6⟩ := hrel
    by_cases hlt : ki < s.length
    · obtain ⟨f, rfl⟩ : ∃ f', f = f' + 1 := ⟨f - 1, by omega⟩
      have h7 := h6.out
      rw [pointGo_in hlt] at h7
      have e1 : s.getD ki 0 = s[ki] := (List.getElem_eq_getD 0).symm
      have e2 : s.getD (ki - 1) 0 = s[ki - 1] := (List.getElem_eq_getD 0).symm
      rw [e1, e2] at h7
      obtain ⟨x, hx⟩ : ∃ x, x = Mb.blank s[ki] := ⟨_, rfl⟩
      obtain ⟨y, hy⟩ : ∃ y, y = Mb.blank s[ki - 1] := ⟨_, rfl⟩
      rw [← hx, ← hy] at h7
      have b1 := fun w => (blank_ok s[ki] w).mono fun e w' h => (⟨by rw [h.1, hx], h.2⟩ : e = .returned (.bool x) ∧ w = w')
      have b2 := fun w => (blank_ok s[ki - 1] w).mono fun e w' h => (⟨by rw [h.1, hy], h.2⟩ : e = .returned (.bool y) ∧ w = w')
      have B1 := Lib.hid b1
      have B2 := Lib.hid b2
      have hsub : ((ki : Int) - 1) = ((ki - 1 : Nat) : Int) := by omega
      clear b1 b2 hx hy e1 e2 h6 Hr
      cases x with
      | false =>
        rw [show (!false || y) = true from rfl, if_pos rfl] at h7
        have H7 := Lib.hid h7
        clear h7
        go_wp2_with fail
        refine (B1.out _).mono ?_
        rintro e w1 ⟨rfl, rfl⟩
        go_wp2
        go_round
        case rel => exact ⟨kb, ki + 1, f, rfl, by go_num, by omega, by omega, by omega, H7⟩
        case measure => simp [intOf]; omega
      | true =>
        cases y with
        | true =>
          rw [show (!true || true) = true from rfl, if_pos rfl] at h7
          have H7 := Lib.hid h7
          clear h7
          go_wp2_with fail
          refine (B1.out _).mono ?_
          rintro e w1 ⟨rfl, rfl⟩
          go_wp2_with fail
          refine (B2.out _).mono ?_
          rintro e w2 ⟨rfl, rfl⟩
          go_wp2
          go_round
          case rel => exact ⟨kb, ki + 1, f, rfl, by go_num, by omega, by omega, by omega, H7⟩
          case measure => simp [intOf]; omega
        | false =>
          rw [show (!true || false) = false from rfl, if_neg (by decide)] at h7
          by_cases h8 : 0 < kb
          · by_cases h9 : 78 < ki
            · rw [if_pos ⟨h8, h9⟩] at h7
              subst h7
              go_wp2_with fail
              refine (B1.out _).mono ?_
              rintro e w1 ⟨rfl, rfl⟩
              go_wp2_with fail
              refine (B2.out _).mono ?_
              rintro e w2 ⟨rfl, rfl⟩
              go_wp2
              go_ret
              exact ⟨rfl, rfl⟩
            · rw [if_neg (fun h => h9 h.2)] at h7
              have H7 := Lib.hid h7
              clear h7
              go_wp2_with fail
              refine (B1.out _).mono ?_
              rintro e w1 ⟨rfl, rfl⟩
              go_wp2_with fail
              refine (B2.out _).mono ?_
              rintro e w2 ⟨rfl, rfl⟩
              go_wp2
              go_round
              case rel => exact ⟨ki, ki + 1, f, rfl, by go_num, by omega, by omega, by omega, H7⟩
              case measure => simp [intOf]; omega
          · rw [if_neg (fun h => h8 h.1)] at h7
            have H7 := Lib.hid h7
            clear h7
            go_wp2_with fail
            refine (B1.out _).mono ?_
            rintro e w1 ⟨rfl, rfl⟩
            go_wp2_with fail
            refine (B2.out _).mono ?_
            rintro e w2 ⟨rfl, rfl⟩
            go_wp2
            go_round
            case rel => exact ⟨ki, ki + 1, f, rfl, by go_num, by omega, by omega, by omega, H7⟩
            case measure => simp [intOf]; omega
    · have h7 := h6.out
      rw [pointGo_end hlt] at h7
      subst h7
      go_wp2
      go_ret
      exact ⟨rfl, rfl⟩
end Go.Proofs.YtjamjkjmlckgeaaGreatDoor
namespace Go.Proofs.YtjamjkjmlckgeaaGreatDoor
open Go.RowKit

/-- A round: it turns the blocks of S alone; behind it S' may be turned: S and what it has made. -/
structure Chg (S S' : Nat → Prop) (w w' : World) : Prop where
  os : w'.os = w.os
  tape : w'.tape = w.tape
  output : w'.output = w.output
  size : w.heap.size ≤ w'.heap.size
  same : ∀ b, b < w.heap.size → ¬ S b → w'.heap[b]? = w.heap[b]?
  own : ∀ b, S' b → b < w'.heap.size ∧ (S b ∨ w.heap.size ≤ b)
/-- Between two rounds: what lay below n, and the blocks of S, lie as they lay. -/
structure Kept (n : Nat) (S : Nat → Prop) (w w' : World) : Prop where
  os : w'.os = w.os
  tape : w'.tape = w.tape
  output : w'.output = w.output
  size : w.heap.size ≤ w'.heap.size
  same : ∀ b, b < w.heap.size → (b < n ∨ S b) → w'.heap[b]? = w.heap[b]?
theorem Kept.refl (n : Nat) (S : Nat → Prop) (w : World) : Kept n S w w := ⟨rfl, rfl, rfl, Nat.le_refl _, fun _ _ _ => rfl⟩
theorem Kept.trans {n : Nat} {S : Nat → Prop} {a b c : World} (h : Kept n S a b) (k : Kept n S b c) : Kept n S a c :=
  ⟨k.os.trans h.os, k.tape.trans h.tape, k.output.trans h.output, Nat.le_trans h.size k.size, fun i hi hs => (k.same i (by have := h.size; omega) hs).trans (h.same i hi hs)⟩
theorem Kept.of_below {n : Nat} {S : Nat → Prop} {w w' : World} (h : Below w.heap.size w w') : Kept n S w w' := ⟨h.os, h.tape, h.output, h.size, fun b hb _ => h.block b hb⟩
theorem Kept.below {n B : Nat} {S : Nat → Prop} {a w w' : World} (h : Kept n S w w') (hB : B ≤ n) (hb : Below B a w) (hn : B ≤ w.heap.size) : Below B a w' :=
  ⟨h.os.trans hb.os, h.tape.trans hb.tape, h.output.trans hb.output, Nat.le_trans hb.size h.size, fun k hk => (h.same k (by omega) (.inl (by omega))).trans (hb.block k hk)⟩
theorem Kept.putObj {n : Nat} {S : Nat → Prop} {w : World} {r : Nat} {o : Obj} (hn : n ≤ r) (hS : ¬ S r) : Kept n S w (w.putObj r o) :=
  ⟨rfl, rfl, rfl, by simp, fun b _ hb => World.putObj_heap_other (fun e => by subst e; rcases hb with h | h; omega; exact hS h)⟩

/-- The iterator value '.func gf' with lb behind it yields the elements xs, in order, to whatever body: FP: what it reads (it lies outside S). -/
def Iter {α : Type} (P : Program) (gf : Nat) (lb : Array Value) (encs : α → Array Value) (xs : List α) (FP : (Nat → Prop) → World → Prop) : Prop :=
  ∀ (l : Nat) (J Jx : Nat → (Nat → Prop) → World → Prop) (S : Nat → Prop) (W : World), FP S W → (∀ b, S b → b < W.heap.size) →
    (∀ k S W1 W2, J k S W1 → Kept W.heap.size S W1 W2 → J k S W2) → (∀ k S W1 W2, Jx k S W1 → Kept W.heap.size S W1 W2 → Jx k S W2) →
    (∀ k (h : k < xs.length) S W1, J k S W1 → W.heap.size ≤ W1.heap.size → YieldAt Fence.wide 0 P l (encs xs[k]) W1 fun e W' => ∃ S', Chg S S' W1 W' ∧
      ((e = .returned (.bool true) ∧ J (k + 1) S' W') ∨ (e = .returned (.bool false) ∧ Jx (k + 1) S' W'))) →
    J 0 S W →
    CallsIn Fence.wide 0 P gf (#[.func (.yield l) #[] #[]] ++ lb) W fun e W' => (∃ v, e = .returned v) ∧ ((∃ S', J xs.length S' W') ∨ ∃ k S', Jx k S' W')

/-- How the body of a round may be left. -/
def itPost (I : Nat → (Nat → Prop) → World → Prop) (Ix : Code → Nat → (Nat → Prop) → World → Prop) (k : Nat) (S : Nat → Prop) (W : World) : Exit → Act → World → Prop
  | .normal, _, W' => ∃ S', Chg S S' W W' ∧ I (k + 1) S' W'
  | .ret, _, W' => ∃ S', Chg S S' W W' ∧ Ix .ret (k + 1) S' W'
  | .exit id, _, W' => ∃ S', Chg S S' W W' ∧ Ix (.exit id) (k + 1) S' W'
  | _, _, _ => False

theorem wp_rangeFunc_iter {P : Program} {α : Type} {g : Operand} {ps : Array Tmp} {assign body : Code} {Q : Exit → Act → World → Prop} {a : Act} {w : World}
    {gf : Nat} {lb : Array Value} {encs : α → Array Value} {xs : List α} {FP : (Nat → Prop) → World → Prop}
    (hit : Iter P gf lb encs xs FP) (hg : a.eval g = .func (.func gf) #[] lb) (eg : ∀ args w, (callFunc gf args).run P w = .ok (.enter gf args) w)
    (hps : ∀ x, (encs x).size = ps.size)
    (I : Nat → (Nat → Prop) → World → Prop) (Ix : Code → Nat → (Nat → Prop) → World → Prop) (S : Nat → Prop)
    (hS : ∀ b, S b → b < w.heap.size)
    (hFP : ∀ S' W, (∀ b, S' b → S b ∨ w.heap.size ≤ b) → Below w.heap.size w W → FP S' W)
    (hI : ∀ k S W W', I k S W → Kept w.heap.size S W W' → I k S W') (hIx : ∀ c k S W W', Ix c k S W → Kept w.heap.size S W W' → Ix c k S W')
    (h0 : I 0 S w) (a₁ : α → Act)
    (hassign : ∀ (l : Nat) (x : α) (W : World) (K : Act → World → Prop), K (a₁ x) W →
      assign.wpIn (Fence.wide.inRound l) 0 P (Exit.then K (fun _ _ _ => False)) { tmps := (ps.zip (encs x)).foldl (fun t (p, v) => t.setIfInBounds p v) a.tmps, defers := [] } W)
    (hbody : ∀ (l k : Nat) (h : k < xs.length) (S : Nat → Prop) (W : World), I k S W → (∀ b, S b → b < W.heap.size) → w.heap.size ≤ W.heap.size →
      body.wpIn (Fence.wide.inRound l) 0 P (itPost I Ix k S W) (a₁ xs[k]) W)
    (hdone : ∀ (D : Nat) (S : Nat → Prop) (W : World), w.heap.size ≤ D → ¬ S D → I xs.length S W → W.heap[D]? = some (.deferred (some [])) → Q .normal { a with defers := { target := .collected D, args := #[] } :: a.defers } W)
    (hstop : ∀ (D : Nat) (c : Code) (k : Nat) (S : Nat → Prop) (W : World), w.heap.size ≤ D → ¬ S D → Ix c k S W → W.heap[D]? = some (.deferred (some [])) → c.wp P Q { a with defers := { target := .collected D, args := #[] } :: a.defers } W) :
    (Code.rangeFunc g ps assign body).wp P Q a w := by
  refine (wpIn_wide (n := 0)).1 (wpIn_rangeFunc ?_)
  intro fn hfn
  obtain ⟨rec, hrec⟩ : ∃ rec : LoopState → Option Code → Loop, rec = fun st pe => { state := st, pending := pe, fn, tmps := a.tmps, params := ps, assign, body, defers := w.heap.size } := ⟨_, rfl⟩
  obtain ⟨W1, hW1⟩ : ∃ W1, (w.alloc (.deferred (some []))).alloc (.loop (rec .ready none)) = W1 := ⟨_, rfl⟩
  have hs1 : W1.heap.size = w.heap.size + 2 := by rw [← hW1]; simp
  have hL1 : W1.heap[w.heap.size + 1]? = some (.loop (rec .ready none)) := by
    rw [← hW1]; have := World.alloc_heap_new (w.alloc (.deferred (some []))) (.loop (rec .ready none)); rwa [World.size_alloc] at this
  have hK1 : W1.heap[w.heap.size]? = some (.deferred (some [])) := by
    rw [← hW1]; exact (Below.heap_alloc _ _ _ (by simp)).trans (World.alloc_heap_new w _)
  have hb1 : Below w.heap.size w W1 := by
    rw [← hW1]; exact ((Below.refl _ w).alloc (Nat.le_refl _) _).alloc (by simp) _
  -- the iterator's invariant: the caller's, and the two blocks of book-keeping
  let bk (T S : Nat → Prop) : Prop := (∀ b, T b ↔ S b ∨ b = w.heap.size ∨ b = w.heap.size + 1) ∧ ¬ S w.heap.size ∧ ¬ S (w.heap.size + 1)
  let J : Nat → (Nat → Prop) → World → Prop := fun k T W => ∃ S, bk T S ∧ I k S W ∧ (∀ b, S b → b < W.heap.size) ∧ W.heap[w.heap.size + 1]? = some (.loop (rec .ready none)) ∧ W.heap[w.heap.size]? = some (.deferred (some []))
  let Jx : Nat → (Nat → Prop) → World → Prop := fun k T W => ∃ S c, bk T S ∧ Ix c k S W ∧ W.heap[w.heap.size + 1]? = some (.loop (rec .done (some c))) ∧ W.heap[w.heap.size]? = some (.deferred (some []))
  have keptS : ∀ {T S : Nat → Prop} {A B : World}, bk T S → Kept W1.heap.size T A B → Kept w.heap.size S A B := fun hb hk =>
    ⟨hk.os, hk.tape, hk.output, hk.size, fun b hlt hor => hk.same b hlt (hor.elim (fun h => .inl (by omega)) (fun h => .inr ((hb.1 b).2 (.inl h))))⟩
  refine ⟨w.heap.size + 1, [{ target := .collected w.heap.size, args := #[] }], W1, { target := .fn (.func gf) lb, args := #[.func (.yield (w.heap.size + 1)) #[] #[]] }, W1, gf,
    #[.func (.yield (w.heap.size + 1)) #[] #[]] ++ lb, W1, ?_, ?_, ?_, ?_, fun h => by simp [Fence.wide] at h, ?_⟩
  · rw [← hW1, hrec]; exact run_enterLoop_outer _ _ _ _ _
  · simp only [resolve, hg]
    simp [go_sem]
  · intro f' _; trivial
  · simp [invoke, go_sem, eg]
  · refine (hit (w.heap.size + 1) J Jx (fun b => S b ∨ b = w.heap.size ∨ b = w.heap.size + 1) W1
      (hFP _ _ (fun b hb => hb.elim .inl fun h => .inr (by omega)) hb1) (fun b hb => by rcases hb with h | h | h; have := hS b h; omega; omega; omega) ?_ ?_ ?_ ?_).mono ?_
    · rintro k T A B ⟨S', hbk, hi, hlt, hl, hk⟩ hkept
      exact ⟨S', hbk, hI _ _ _ _ hi (keptS hbk hkept), fun b hb => Nat.lt_of_lt_of_le (hlt b hb) hkept.size,
        (hkept.same _ (Array.getElem?_eq_some_iff.1 hl).1 (.inl (by omega))).trans hl, (hkept.same _ (Array.getElem?_eq_some_iff.1 hk).1 (.inl (by omega))).trans hk⟩
    · rintro k T A B ⟨S', c, hbk, hi, hl, hk⟩ hkept
      exact ⟨S', c, hbk, hIx _ _ _ _ _ hi (keptS hbk hkept),
        (hkept.same _ (Array.getElem?_eq_some_iff.1 hl).1 (.inl (by omega))).trans hl, (hkept.same _ (Array.getElem?_eq_some_iff.1 hk).1 (.inl (by omega))).trans hk⟩
    · -- one round
      rintro k hk T W ⟨S', hbk, hi, hlt, hl, hd⟩ hsz
      have hll : w.heap.size + 1 < W.heap.size := (Array.getElem?_eq_some_iff.1 hl).1
      have hy := run_yield (P := P) (args := encs xs[k]) hl (by rw [hrec]; exact hps _)
      rw [hrec] at hy
      refine ⟨fn, _, assign, body, hy, roundIn_of_wpIn hfn (hassign _ xs[k] W _ ⟨_, run_beginRound hl (by rw [hrec]), ?_⟩)⟩
      obtain ⟨W2, hW2⟩ : ∃ W2, W.putObj (w.heap.size + 1) (.loop { rec .ready none with state := .busy }) = W2 := ⟨_, rfl⟩
      have hl2 : W2.heap[w.heap.size + 1]? = some (.loop { rec .ready none with state := .busy }) := by rw [← hW2]; exact World.putObj_heap_same hll
      have hd2 : W2.heap[w.heap.size]? = some (.deferred (some [])) := by rw [← hW2]; exact (World.putObj_heap_other (by omega)).trans hd
      have hs2 : W2.heap.size = W.heap.size := by rw [← hW2]; simp
      have hi2 : I k S' W2 := by rw [← hW2]; exact hI _ _ _ _ hi (Kept.putObj (by omega) hbk.2.2)
      have hsame2 : ∀ b, b ≠ w.heap.size + 1 → W2.heap[b]? = W.heap[b]? := fun b hb => by rw [← hW2]; exact World.putObj_heap_other hb
      have ho2 : W2.os = W.os ∧ W2.tape = W.tape ∧ W2.output = W.output := by rw [← hW2]; exact ⟨rfl, rfl, rfl⟩
      rw [hW2]
      refine wpIn_mono (hbody _ k hk S' W2 hi2 (fun b hb => by rw [hs2]; exact hlt b hb) (by omega)) ?_
      have fin : ∀ (jump : Option Code) (S'' : Nat → Prop) (W3 : World), Chg S' S'' W2 W3 →
          (Instr.endRound (w.heap.size + 1) jump).run P W3 = .ok (.bool jump.isNone) (W3.putObj (w.heap.size + 1) (.loop (rec (if jump.isNone then .ready else .done) jump))) ∧
          Chg T (fun b => S'' b ∨ b = w.heap.size ∨ b = w.heap.size + 1) W (W3.putObj (w.heap.size + 1) (.loop (rec (if jump.isNone then .ready else .done) jump))) ∧
          bk (fun b => S'' b ∨ b = w.heap.size ∨ b = w.heap.size + 1) S'' ∧
          Kept w.heap.size S'' W3 (W3.putObj (w.heap.size + 1) (.loop (rec (if jump.isNone then .ready else .done) jump))) ∧
          (W3.putObj (w.heap.size + 1) (.loop (rec (if jump.isNone then .ready else .done) jump))).heap[w.heap.size + 1]? = some (.loop (rec (if jump.isNone then .ready else .done) jump)) ∧
          (W3.putObj (w.heap.size + 1) (.loop (rec (if jump.isNone then .ready else .done) jump))).heap[w.heap.size]? = some (.deferred (some [])) := fun jump S'' W3 hc => by
        have hl3 : W3.heap[w.heap.size + 1]? = some (.loop { rec .ready none with state := .busy }) := (hc.same _ (by omega) hbk.2.2).trans hl2
        have hd3 : W3.heap[w.heap.size]? = some (.deferred (some [])) := (hc.same _ (by omega) hbk.2.1).trans hd2
        have hsz3 := hc.size
        have hn1 : ¬ S'' w.heap.size := fun h => (hc.own _ h).2.elim hbk.2.1 (by omega)
        have hn2 : ¬ S'' (w.heap.size + 1) := fun h => (hc.own _ h).2.elim hbk.2.2 (by omega)
        have hr := run_endRound (P := P) jump hl3
        rw [hrec] at hr ⊢
        refine ⟨hr, ⟨hc.os.trans ho2.1, hc.tape.trans ho2.2.1, hc.output.trans ho2.2.2, by rw [World.putObj_size]; omega, fun b hb hT => ?_, fun b hb => ?_⟩, ⟨fun b => Iff.rfl, hn1, hn2⟩, Kept.putObj (by omega) hn2, World.putObj_heap_same (by omega), (World.putObj_heap_other (by omega)).trans hd3⟩
        · have hb1 : b ≠ w.heap.size + 1 := fun e => hT ((hbk.1 b).2 (.inr (.inr e)))
          exact (World.putObj_heap_other hb1).trans ((hc.same b (by omega) (fun h => hT ((hbk.1 b).2 (.inl h)))).trans (hsame2 b hb1))
        · rw [World.putObj_size]
          rcases hb with h | h | h
          · obtain ⟨h1, h2⟩ := hc.own b h
            exact ⟨h1, h2.elim (fun h => .inl ((hbk.1 b).2 (.inl h))) (fun h => .inr (by omega))⟩
          · exact ⟨by omega, .inl ((hbk.1 b).2 (.inr (.inl h)))⟩
          · exact ⟨by omega, .inl ((hbk.1 b).2 (.inr (.inr h)))⟩
      rintro e a3 W3 hp
      cases e with
      | normal =>
        obtain ⟨S'', hc, hi3⟩ := hp
        obtain ⟨hr, hc4, hbk4, hk4, hl4, hd4⟩ := fin none S'' W3 hc
        exact ⟨_, _, hr, _, hc4, .inl ⟨rfl, S'', hbk4, hI _ _ _ _ hi3 hk4, fun b hb => by rw [World.putObj_size]; exact (hc.own b hb).1, hl4, hd4⟩⟩
      | ret =>
        obtain ⟨S'', hc, hi3⟩ := hp
        obtain ⟨hr, hc4, hbk4, hk4, hl4, hd4⟩ := fin (some .ret) S'' W3 hc
        exact ⟨_, _, hr, _, hc4, .inr ⟨rfl, S'', .ret, hbk4, hIx _ _ _ _ _ hi3 hk4, hl4, hd4⟩⟩
      | exit id =>
        obtain ⟨S'', hc, hi3⟩ := hp
        obtain ⟨hr, hc4, hbk4, hk4, hl4, hd4⟩ := fin (some (.exit id)) S'' W3 hc
        exact ⟨_, _, hr, _, hc4, .inr ⟨rfl, S'', .exit id, hbk4, hIx _ _ _ _ _ hi3 hk4, hl4, hd4⟩⟩
      | goto t => exact hp.elim
      | panic ch => exact hp.elim
      | outgrown => exact hp.elim
    · exact ⟨S, ⟨fun b => Iff.rfl, fun h => by have := hS _ h; omega, fun h => by have := hS _ h; omega⟩, hI _ _ _ _ h0 (Kept.of_below hb1), fun b hb => by have := hS b hb; omega, hL1, hK1⟩
    · -- behind the iterator
      rintro e W2 ⟨⟨v, rfl⟩, (⟨T, S', hbk, hi, _, hl, hd⟩ | ⟨k, T, S', c, hbk, hi, hl, hd⟩)⟩
      · refine ⟨none, _, by have := run_endLoop (P := P) hl (by rw [hrec]; simp); rw [hrec] at this; exact this, hdone _ S' _ (Nat.le_refl _) hbk.2.1 (hI _ _ _ _ hi (Kept.putObj (by omega) hbk.2.2)) ((World.putObj_heap_other (by omega)).trans hd)⟩
      · exact ⟨some c, _, by have := run_endLoop (P := P) hl (by rw [hrec]; simp); rw [hrec] at this; exact this,
          (wpIn_wide (n := 0)).2 (hstop _ c k S' _ (Nat.le_refl _) hbk.2.1 (hIx _ _ _ _ _ hi (Kept.putObj (by omega) hbk.2.2)) ((World.putObj_heap_other (by omega)).trans hd))⟩

/-- What a body must achieve that holds ranges over functions: 'bodyPostM', unfenced. -/
theorem calls_of_wp_marks {P : Program} {f : FuncId} {fn : Func} {c : Code} {args : Array Value} {w : World} {R : Ending → World → Prop}
    (hf : P.funcs[f]? = some fn) (hb : fn.body = some c)
    (h : c.wp P (bodyPostM Fence.wide 0 P fn R) { tmps := args ++ Array.replicate (fn.ntmps - args.size) undef, defers := [] } w) : Calls P f args w R :=
  callsIn_wide.1 (callsIn_of_wp_marks (F := Fence.wide) (n := 0) hf hb trivial ((wpIn_wide (n := 0)).2 h) rfl)
theorem bodyPostM_none {P : Program} {fn : Func} {R : Ending → World → Prop} {t : Array Value} {w : World} {v : Value} (hv : (results fn t).run P w = .ok v w) (hR : R (.returned v) w) :
    bodyPostM Fence.wide 0 P fn R .ret { tmps := t, defers := [] } w := ⟨_, hv, hR⟩
theorem bodyPostM_one {P : Program} {fn : Func} {R : Ending → World → Prop} {t : Array Value} {w : World} {v : Value} {D : Nat} (hD : w.heap[D]? = some (.deferred (some [])))
    (hv : (results fn t).run P (w.putObj D (.deferred none)) = .ok v (w.putObj D (.deferred none))) (hR : R (.returned v) (w.putObj D (.deferred none))) :
    bodyPostM Fence.wide 0 P fn R .ret { tmps := t, defers := [{ target := .collected D, args := #[] }] } w :=
  ⟨by simp, .inl ⟨_, _, rfl, run_takeDeferred hD, _, hv, hR⟩⟩
end Go.Proofs.YtjamjkjmlckgeaaGreatDoor
