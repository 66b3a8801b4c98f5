/-
  Contracts and plain facts, one after another: The printer of queries: plain facts; what its words need; The printer of queries: text, kind by kind, over what its closure does; The printer of queries: the parts; The printer of queries: text whole.
-/
import Derived.Test.YtihhgmpanfboaaaGreatDoorQyRt
import Derived.Test.YtihhgmpanfboaaaGreatDoorK18
import Derived.Test.YtihhgmpanfboaaaGreatDoorK16
import Derived.Test.YtihhgmpanfboaaaGreatDoorK14
import Derived.Lib.Join
namespace Go.Proofs.YtihhgmpanfboaaaGreatDoor
open Go.RowKit
set_option linter.unusedVariables false
namespace Q
theorem itoa_len (n : Int) : (itoa n).length ≤ 2 := by
  unfold itoa; split <;> simp
theorem flat_mem_len {a : Str} : ∀ {L : List Str}, a ∈ L → a.length ≤ (L.flatMap fun b => [32] ++ b).length
  | c :: L, h => by
    rw [List.flatMap_cons, List.length_append, List.length_append]
    rcases List.mem_cons.1 h with rfl | h
    · omega
    · have := flat_mem_len h; omega
theorem splitS_mem_len {t a : Str} (h : a ∈ splitS t) : a.length ≤ t.length := by
  have h1 := congrArg List.length (join_split t)
  rw [← h1]
  generalize splitS t = L at h
  cases L with
  | nil => cases h
  | cons b L =>
    unfold join
    rw [List.length_append]
    rcases List.mem_cons.1 h with rfl | h
    · omega
    · have := flat_mem_len h
      omega
theorem wrap_len (k : Int) (p : Q) (s : Str) : (wrap k p s).length ≤ s.length + 2 := by
  unfold wrap; split <;> simp
theorem join_parts_of (f : Nat) (h2 : ∀ p, (textF f p).length + 6 ≤ 4 * p.bulk) (k : Int) (sep : Str) : ∀ (l : List Q), sep.length ≤ 3 → (join sep (l.map fun p => wrap k p (textF f p))).length ≤ 4 * bulks l := fun l hs => by
  refine Nat.le_trans (join_len sep _) ?_
  induction l with
  | nil => simp [bulks]
  | cons p l ih =>
    have h1 := wrap_len k p (textF f p)
    have h2 := h2 p
    rw [List.map_cons, List.map_cons, List.sum_cons, bulks]
    omega
theorem textF_len : ∀ (f : Nat) (q : Q), (textF f q).length + 6 ≤ 4 * q.bulk
  | 0, q => by have := bulk_eq q; rw [textF, List.length_nil]; omega
  | f + 1, q => by
    have hb := bulk_eq q
    have hsum : ∀ (k : Int) (sep : Str) (l : List Q), sep.length ≤ 3 → (join sep (l.map fun p => wrap k p (textF f p))).length ≤ 4 * bulks l := fun k sep l hs => by
      refine Nat.le_trans (join_len sep _) ?_
      induction l with
      | nil => simp [bulks]
      | cons p l ih =>
        have h1 := wrap_len k p (textF f p)
        have h2 := textF_len f p
        rw [List.map_cons, List.map_cons, List.sum_cons, bulks]
        omega
    have h6 := hsum q.kind [32] q.parts (by simp)
    have h7 := hsum q.kind [32, 124, 32] q.parts (by simp)
    have h8 := hsum q.kind [] q.parts (by simp)
    have h5a : ((splitS q.text).headD []).length ≤ q.text.length := by
      cases hs : splitS q.text with
      | nil => simp
      | cons a L => rw [List.headD_cons]; exact splitS_mem_len (by rw [hs]; exact .head _)
    have h5b : ((splitS q.text).getD 1 []).length ≤ q.text.length := by
      by_cases hl : 1 < (splitS q.text).length
      · rw [List.getD_eq_getElem?_getD, List.getElem?_eq_getElem hl, Option.getD_some]
        exact splitS_mem_len (List.getElem_mem hl)
      · rw [List.getD_eq_getElem?_getD, List.getElem?_eq_none (by omega), Option.getD_none, List.length_nil]; omega
    have hi := itoa_len q.num
    rw [textF]
    repeat' split
    all_goals try simp only [List.length_append, List.length_cons, List.length_nil, List.cons_append]
    all_goals omega
theorem join_parts_len (f : Nat) (k : Int) (sep : Str) (l : List Q) (hs : sep.length ≤ 3) : (join sep (l.map fun p => wrap k p (textF f p))).length ≤ 4 * bulks l := join_parts_of f (textF_len f) k sep l hs
end Q
/-- the variable that strings.Cut reads -/
def CutV (w : World) : Prop := ∃ m, w.cell? ⟨0, 0, none⟩ = some (.int .i64 m)
theorem CutV.ext {w w' : World} (h : CutV w) (hb : Below w.heap.size w w') : CutV w' := by
  obtain ⟨m, hm⟩ := h
  exact ⟨m, (hb.cell (World.block_lt_of_cell? w _ hm)).trans hm⟩
theorem digits_same (n : Int) (h : 1 ≤ n ∧ n ≤ 50) : ∃ i : Nat, i < 100 ∧ n = (i : Int) ∧ Lib.decDigits i = Q.itoa n := by
  refine ⟨n.toNat, by omega, by omega, ?_⟩
  obtain ⟨i, rfl⟩ : ∃ i : Nat, n = (i : Int) := ⟨n.toNat, by omega⟩
  rw [Int.toNat_natCast]
  have hall : (List.range 51).all (fun i => decide (Lib.decDigits i = Q.itoa (i : Int))) = true := by decide +kernel
  have := List.all_eq_true.1 hall i (List.mem_range.2 (by omega))
  simpa using this
end Go.Proofs.YtihhgmpanfboaaaGreatDoor
namespace Go.Proofs.YtihhgmpanfboaaaGreatDoor
open Go.RowKit
set_option linter.unusedVariables false
set_option maxRecDepth 100000 in
set_option maxHeartbeats 8000000 in
theorem text_all (A : Option Addr) (n c : Nat) (w : World) :
    Calls Tryz.prog 17 #[.agg #[.int .i64 1, .string (bs []), .int .i64 0, .slice A n c]] w fun e w' => e = .returned (.string (bs ([42]))) ∧ Below w.heap.size w w' := by
  have hmf : ∀ (fn : Fn) (first cap : Array Value) (w : World), (Instr.makeFunc fn first cap).run Tryz.prog w = .ok (.func fn first cap) w := fun _ _ _ _ => rfl
  obtain ⟨W, g, hW, hg, hs, kq, hal⟩ := boxA w #[.int .i64 1, .string (bs []), .int .i64 0, .slice A n c] 24
  obtain ⟨q0, q1, q2, q3, _⟩ := kq.four
  have Hal := Lib.hid hal; have Hkq := Lib.hid kq
  clear hal kq hs
  go_enter Tryz.func17, Tryz.ntmps17
  go_wp2_with fail
  go_ret
  exact ⟨rfl, Hal.out⟩
set_option maxRecDepth 100000 in
set_option maxHeartbeats 8000000 in
theorem text_word (t : Str) (A : Option Addr) (n c : Nat) (w : World) :
    Calls Tryz.prog 17 #[.agg #[.int .i64 2, .string (bs t), .int .i64 0, .slice A n c]] w fun e w' => e = .returned (.string (bs (t))) ∧ Below w.heap.size w w' := by
  have hmf : ∀ (fn : Fn) (first cap : Array Value) (w : World), (Instr.makeFunc fn first cap).run Tryz.prog w = .ok (.func fn first cap) w := fun _ _ _ _ => rfl
  obtain ⟨W, g, hW, hg, hs, kq, hal⟩ := boxA w #[.int .i64 2, .string (bs t), .int .i64 0, .slice A n c] 24
  obtain ⟨q0, q1, q2, q3, _⟩ := kq.four
  have Hal := Lib.hid hal; have Hkq := Lib.hid kq
  clear hal kq hs
  go_enter Tryz.func17, Tryz.ntmps17
  go_wp2_with fail
  go_ret
  exact ⟨rfl, Hal.out⟩
set_option maxRecDepth 100000 in
set_option maxHeartbeats 8000000 in
theorem text_pre (t : Str) (ht : t.length ≤ 4000000) (A : Option Addr) (n c : Nat) (w : World) :
    Calls Tryz.prog 17 #[.agg #[.int .i64 3, .string (bs t), .int .i64 0, .slice A n c]] w fun e w' => e = .returned (.string (bs (t ++ [42]))) ∧ Below w.heap.size w w' := by
  have hmf : ∀ (fn : Fn) (first cap : Array Value) (w : World), (Instr.makeFunc fn first cap).run Tryz.prog w = .ok (.func fn first cap) w := fun _ _ _ _ => rfl
  obtain ⟨W, g, hW, hg, hs, kq, hal⟩ := boxA w #[.int .i64 3, .string (bs t), .int .i64 0, .slice A n c] 24
  obtain ⟨q0, q1, q2, q3, _⟩ := kq.four
  have Hal := Lib.hid hal; have Hkq := Lib.hid kq
  clear hal kq hs
  have hjs : bs t ++ (⟨#[42]⟩ : ByteArray) = bs (t ++ [42]) := by apply ByteArray.ext; simp [bs]
  go_enter Tryz.func17, Tryz.ntmps17
  go_wp2_with fail
  go_ret
  exact ⟨rfl, Hal.out⟩
set_option maxRecDepth 100000 in
set_option maxHeartbeats 8000000 in
theorem text_phrase (t : Str) (ht : t.length ≤ 4000000) (A : Option Addr) (n c : Nat) (w : World) :
    Calls Tryz.prog 17 #[.agg #[.int .i64 4, .string (bs t), .int .i64 0, .slice A n c]] w fun e w' => e = .returned (.string (bs (34 :: t ++ [34]))) ∧ Below w.heap.size w w' := by
  have hmf : ∀ (fn : Fn) (first cap : Array Value) (w : World), (Instr.makeFunc fn first cap).run Tryz.prog w = .ok (.func fn first cap) w := fun _ _ _ _ => rfl
  obtain ⟨W, g, hW, hg, hs, kq, hal⟩ := boxA w #[.int .i64 4, .string (bs t), .int .i64 0, .slice A n c] 24
  obtain ⟨q0, q1, q2, q3, _⟩ := kq.four
  have Hal := Lib.hid hal; have Hkq := Lib.hid kq
  clear hal kq hs
  have hjs : (⟨#[34]⟩ : ByteArray) ++ bs t ++ (⟨#[34]⟩ : ByteArray) = bs (34 :: t ++ [34]) := by apply ByteArray.ext; simp [bs]
  go_enter Tryz.func17, Tryz.ntmps17
  go_wp2_with fail
  go_ret
  exact ⟨rfl, Hal.out⟩
set_option maxRecDepth 100000 in
set_option maxHeartbeats 8000000 in
theorem text_both (A : Option Addr) (n c : Nat) (w : World) (J : Str) (hJ : J.length ≤ 100000000) (hP : ∀ (w1 : World) (g : Nat), w.heap.size ≤ g → Below w.heap.size w w1 → Blk w1 g 24 #[.int .i64 6, .string ⟨#[]⟩, .int .i64 0, .slice A n c] → Calls Tryz.prog 33 #[.string ⟨#[32]⟩, .pointer (some ⟨g, 0, none⟩)] w1 fun e w2 => e = .returned (.string (bs J)) ∧ Below w1.heap.size w1 w2) :
    Calls Tryz.prog 17 #[.agg #[.int .i64 6, .string ⟨#[]⟩, .int .i64 0, .slice A n c]] w fun e w' => e = .returned (.string (bs (J))) ∧ Below w.heap.size w w' := by
  have hmf : ∀ (fn : Fn) (first cap : Array Value) (w : World), (Instr.makeFunc fn first cap).run Tryz.prog w = .ok (.func fn first cap) w := fun _ _ _ _ => rfl
  obtain ⟨W, g, hW, hg, hs, kq, hal⟩ := boxA w #[.int .i64 6, .string ⟨#[]⟩, .int .i64 0, .slice A n c] 24
  obtain ⟨q0, q1, q2, q3, _⟩ := kq.four
  have Hal := Lib.hid hal; have Hkq := Lib.hid kq
  clear hal kq hs
  have hp := hP W g (by omega) Hal.out Hkq.out
  have Hp := Lib.hid hp
  clear hp hP
  go_enter Tryz.func17, Tryz.ntmps17
  go_wp2_with fail
  refine Hp.out.mono ?_
  rintro e w2 ⟨rfl, hb2⟩
  have Hb2 := Lib.hid hb2
  clear hb2 Hp
  go_wp2_with fail
  go_ret
  exact ⟨rfl, Hal.out.trans (Hb2.out.mono Hal.out.size)⟩
set_option maxRecDepth 100000 in
set_option maxHeartbeats 8000000 in
theorem text_either (A : Option Addr) (n c : Nat) (w : World) (J : Str) (hJ : J.length ≤ 100000000) (hP : ∀ (w1 : World) (g : Nat), w.heap.size ≤ g → Below w.heap.size w w1 → Blk w1 g 24 #[.int .i64 7, .string ⟨#[]⟩, .int .i64 0, .slice A n c] → Calls Tryz.prog 33 #[.string ⟨#[32, 124, 32]⟩, .pointer (some ⟨g, 0, none⟩)] w1 fun e w2 => e = .returned (.string (bs J)) ∧ Below w1.heap.size w1 w2) :
    Calls Tryz.prog 17 #[.agg #[.int .i64 7, .string ⟨#[]⟩, .int .i64 0, .slice A n c]] w fun e w' => e = .returned (.string (bs (J))) ∧ Below w.heap.size w w' := by
  have hmf : ∀ (fn : Fn) (first cap : Array Value) (w : World), (Instr.makeFunc fn first cap).run Tryz.prog w = .ok (.func fn first cap) w := fun _ _ _ _ => rfl
  obtain ⟨W, g, hW, hg, hs, kq, hal⟩ := boxA w #[.int .i64 7, .string ⟨#[]⟩, .int .i64 0, .slice A n c] 24
  obtain ⟨q0, q1, q2, q3, _⟩ := kq.four
  have Hal := Lib.hid hal; have Hkq := Lib.hid kq
  clear hal kq hs
  have hp := hP W g (by omega) Hal.out Hkq.out
  have Hp := Lib.hid hp
  clear hp hP
  go_enter Tryz.func17, Tryz.ntmps17
  go_wp2_with fail
  refine Hp.out.mono ?_
  rintro e w2 ⟨rfl, hb2⟩
  have Hb2 := Lib.hid hb2
  clear hb2 Hp
  go_wp2_with fail
  go_ret
  exact ⟨rfl, Hal.out.trans (Hb2.out.mono Hal.out.size)⟩
set_option maxRecDepth 100000 in
set_option maxHeartbeats 8000000 in
theorem text_no (A : Option Addr) (n c : Nat) (w : World) (J : Str) (hJ : J.length ≤ 100000000) (hP : ∀ (w1 : World) (g : Nat), w.heap.size ≤ g → Below w.heap.size w w1 → Blk w1 g 24 #[.int .i64 8, .string ⟨#[]⟩, .int .i64 0, .slice A n c] → Calls Tryz.prog 33 #[.string ⟨#[]⟩, .pointer (some ⟨g, 0, none⟩)] w1 fun e w2 => e = .returned (.string (bs J)) ∧ Below w1.heap.size w1 w2) :
    Calls Tryz.prog 17 #[.agg #[.int .i64 8, .string ⟨#[]⟩, .int .i64 0, .slice A n c]] w fun e w' => e = .returned (.string (bs (45 :: J))) ∧ Below w.heap.size w w' := by
  have hmf : ∀ (fn : Fn) (first cap : Array Value) (w : World), (Instr.makeFunc fn first cap).run Tryz.prog w = .ok (.func fn first cap) w := fun _ _ _ _ => rfl
  obtain ⟨W, g, hW, hg, hs, kq, hal⟩ := boxA w #[.int .i64 8, .string ⟨#[]⟩, .int .i64 0, .slice A n c] 24
  obtain ⟨q0, q1, q2, q3, _⟩ := kq.four
  have Hal := Lib.hid hal; have Hkq := Lib.hid kq
  clear hal kq hs
  have hp := hP W g (by omega) Hal.out Hkq.out
  have Hp := Lib.hid hp
  clear hp hP
  have hjs : (⟨#[45]⟩ : ByteArray) ++ bs J = bs (45 :: J) := by apply ByteArray.ext; simp [bs]
  go_enter Tryz.func17, Tryz.ntmps17
  go_wp2_with fail
  refine Hp.out.mono ?_
  rintro e w2 ⟨rfl, hb2⟩
  have Hb2 := Lib.hid hb2
  clear hb2 Hp
  go_wp2_with fail
  go_ret
  exact ⟨rfl, Hal.out.trans (Hb2.out.mono Hal.out.size)⟩
theorem indexB_at : ∀ (a b : Str), (32 : UInt8) ∉ a → Lib.indexByte (a ++ 32 :: b) 32 = (a.length : Int)
  | [], b, _ => by simp [Lib.indexByte]
  | x :: a, b, h => by
    have hx : x ≠ 32 := fun e => h (by rw [e]; exact .head _)
    have ih := indexB_at a b fun hm => h (.tail _ hm)
    rw [List.cons_append, Lib.indexByte, ih]
    simp [hx]
theorem cut_words {a b : Str} (h : (32 : UInt8) ∉ a) : Lib.cut (a ++ 32 :: b) [32] = (a, b, true) := by
  unfold Lib.cut
  rw [Lib.index_one, indexB_at a b h, if_pos (by omega)]
  rw [Int.toNat_natCast, List.take_left, ← List.drop_drop, List.drop_left]
  rfl
set_option maxRecDepth 100000 in
set_option maxHeartbeats 8000000 in
theorem text_near (a b : Str) (ha : (32 : UInt8) ∉ a) (hl : a.length + b.length ≤ 4000000) (i : Nat) (hi : i < 100) (di : Str) (hdi : Lib.decDigits i = di) (hd2 : di.length ≤ 2) (A : Option Addr) (n c : Nat) (w : World) (hC : CutV w) :
    Calls Tryz.prog 17 #[.agg #[.int .i64 5, .string (bs (a ++ 32 :: b)), .int .i64 (i : Int), .slice A n c]] w fun e w' => e = .returned (.string (bs (a ++ 126 :: di ++ 58 :: b))) ∧ Below w.heap.size w w' := by
  have hmf : ∀ (fn : Fn) (first cap : Array Value) (w : World), (Instr.makeFunc fn first cap).run Tryz.prog w = .ok (.func fn first cap) w := fun _ _ _ _ => rfl
  obtain ⟨W, g, hW, hg, hs, kq, hal⟩ := boxA w #[.int .i64 5, .string (bs (a ++ 32 :: b)), .int .i64 (i : Int), .slice A n c] 24
  obtain ⟨q0, q1, q2, q3, _⟩ := kq.four
  have Hal := Lib.hid hal; have Hkq := Lib.hid kq
  clear hal kq hs
  obtain ⟨m, hm⟩ := hC.ext Hal.out
  have hcut := Tryz.strings_Cut (bs (a ++ 32 :: b)) ⟨#[32]⟩ m W (by rw [bs_size]; simp; omega) hm
  rw [show (bs (a ++ 32 :: b)).data.toList = a ++ 32 :: b by simp [bs], show (⟨#[32]⟩ : ByteArray).data.toList = [32] from rfl, cut_words ha] at hcut
  have hit := fun w => Tryz.strconv_Itoa_small i hi w
  rw [hdi] at hit
  have Hcut := Lib.hid hcut; have Hit := Lib.hid hit
  have hjs : bs a ++ (⟨#[126]⟩ : ByteArray) ++ bs di ++ (⟨#[58]⟩ : ByteArray) ++ bs b = bs (a ++ 126 :: di ++ 58 :: b) := by apply ByteArray.ext; simp [bs]
  have Hjs := Lib.hid hjs
  clear hcut hit hm hjs hdi hC
  go_enter Tryz.func17, Tryz.ntmps17
  go_wp2_with fail
  refine Hcut.out.mono ?_
  rintro e w2 ⟨rfl, nd, rfl⟩
  dsimp only
  rw [show (⟨a.toArray⟩ : ByteArray) = bs a from rfl, show (⟨b.toArray⟩ : ByteArray) = bs b from rfl]
  have hal2 : Below w.heap.size w (W.drewN nd) := Hal.out.trans (below_drewN' _ W nd)
  obtain ⟨V, hV⟩ : ∃ V, W.drewN nd = V := ⟨_, rfl⟩
  have k2 := Hkq.out.drewN nd
  rw [hV] at hal2 k2 ⊢
  obtain ⟨q0, q1, q2, q3, _⟩ := k2.four
  have Hal2 := Lib.hid hal2
  clear hV k2 hal2 hW hg
  go_wp2_with fail
  refine (Hit.out V).mono ?_
  rintro e w3 ⟨rfl, rfl⟩
  dsimp only
  rw [show (⟨di.toArray⟩ : ByteArray) = bs di from rfl]
  have hjs := Hjs.out
  go_wp2_with fail
  go_ret
  refine ⟨?_, Hal2.out⟩
  rw [show a ++ 126 :: di ++ 58 :: b = a ++ 126 :: (di ++ 58 :: b) by simp]
  rfl
end Go.Proofs.YtihhgmpanfboaaaGreatDoor
namespace Go.Proofs.YtihhgmpanfboaaaGreatDoor
open Go.RowKit
set_option linter.unusedVariables false
/-- what text does, at a depth -/
def TextAt (f : Nat) : Prop := ∀ (q : Q) (v : Value) (w : World) (F : Nat), Q.Fine f q → QAt F M0 w v q → q.bulk ≤ 4000000 → CutV w → Calls Tryz.prog 17 #[v] w fun e w' => e = .returned (.string (bs (Q.textF f q))) ∧ Below w.heap.size w w'
theorem bulk_part {l : List Q} {m : Nat} (h : m < l.length) : l[m].bulk ≤ Q.bulks l := Q.bulks_mem (List.getElem_mem h)
set_option maxRecDepth 100000 in
set_option maxHeartbeats 8000000 in
theorem parts_ok (f : Nat) (ih : TextAt f) (k : Int) (ps : List Q) (hf : ∀ p ∈ ps, Q.Fine f p) (F : Nat) (A : Option Addr) (c : Nat) (t : Value) (nv : Value) (sep : Str) (hsep : sep.length ≤ 3) (w0 w : World) (hv : SlR (qF F) M0 w0 (.slice A ps.length c) ps) (hw0 : Below w0.heap.size w0 w) (hbk : Q.bulks ps ≤ 4000000) (g : Nat)
    (hB : Blk w g 24 #[.int .i64 k, t, nv, .slice A ps.length c]) (hC : CutV w) :
    Calls Tryz.prog 33 #[.string (bs sep), .pointer (some ⟨g, 0, none⟩)] w fun e w' => e = .returned (.string (bs (Q.join sep (ps.map fun p => Q.wrap k p (Q.textF f p))))) ∧ Below w.heap.size w w' := by
  have hn := hv.len_le
  have hbl := Q.bulks_len ps
  obtain ⟨b0, b1, b2, b3, _⟩ := hB.four
  have Hv := Lib.hid (hv.ext hw0); have HB := Lib.hid hB; have HC := Lib.hid hC; have Hih := Lib.hid ih; have Hf := Lib.hid hf
  obtain ⟨G, hG⟩ : ∃ G : Q → Str, (fun p => Q.wrap k p (Q.textF f p)) = G := ⟨_, rfl⟩
  rw [hG]
  have HG := Lib.hid hG
  clear hv hB hC ih hf hG hw0 hn
  go_enter Tryz.func33, Tryz.ntmps33
  go_wp2_with fail
  go_loopw [4, 11] (fun ov iv wr => ∃ (m : Nat) (A2 : Option Addr) (c2 : Nat) (L : List Str), m ≤ ps.length ∧ iv = .int .i64 (m : Int) ∧ ov = .slice A2 L.length c2 ∧ Hid (L = (ps.take m).map G) ∧ Own strC M0 wr w.heap.size 9 (.slice A2 L.length c2) L ∧ Below w.heap.size w wr) (fun _ iv _ => ps.length - (intOf iv).toNat)
  case atStart => exact ⟨0, none, 0, [], Nat.zero_le _, rfl, rfl, Lib.hid rfl, Own.nil _ _ _ _ _, Below.refl _ _⟩
  case round =>
    obtain ⟨m, A2, c2, L, hm, rfl, rfl, hL, own, hb⟩ := hrel
    obtain ⟨wo, rfl⟩ : ∃ W, W = wr := ⟨_, rfl⟩
    have hm0 : (0 : Int) ≤ (m : Int) := by omega
    have hLm : L.length = m := by rw [hL.out, List.length_map, List.length_take]; omega
    have HLm := Lib.hid hLm
    clear hLm
    by_cases hlt : m < ps.length
    · have hmi : (m : Int) < (ps.length : Int) := by omega
      obtain ⟨b, off, e, A4, c4, rfl, hfe, _, _, s0, s1, s2, s3, hqa⟩ := (Hv.out.ext hb).qAt hlt
      have hbp := bulk_part hlt
      have htl := Q.textF_len f ps[m]
      have hct := fun w' (hb' : Below wo.heap.size wo w') => Hih.out ps[m] _ w' e (Hf.out _ (List.getElem_mem hlt)) (hqa.ext hb') (by omega) ((HC.out.ext hb).ext hb')
      have hGm : Q.wrap k ps[m] (Q.textF f ps[m]) = G ps[m] := by rw [← HG.out]
      obtain ⟨T, hT⟩ : ∃ T, Q.textF f ps[m] = T := ⟨_, rfl⟩
      rw [hT] at htl hct hGm
      obtain ⟨pk, hpk⟩ : ∃ x, ps[m].kind = x := ⟨_, rfl⟩
      obtain ⟨pt, hpt⟩ : ∃ x, bs ps[m].text = x := ⟨_, rfl⟩
      obtain ⟨pn, hpn⟩ : ∃ x, ps[m].num = x := ⟨_, rfl⟩
      obtain ⟨pl, hpl⟩ : ∃ x, ps[m].parts.length = x := ⟨_, rfl⟩
      rw [hpk, hpt, hpn, hpl] at hct
      rw [hpk] at s0; rw [hpt] at s1; rw [hpn] at s2; rw [hpl] at s3
      unfold Q.wrap at hGm
      rw [hpk] at hGm
      have htake : ps.take (m + 1) = ps.take m ++ [ps[m]] := by first | exact (List.take_append_getElem hlt).symm | exact List.take_succ_eq_append_getElem hlt
      have hLn : L ++ [G ps[m]] = (ps.take (m + 1)).map G := by rw [htake, List.map_append, ← hL.out]; rfl
      obtain ⟨Gm, hGe⟩ : ∃ x, G ps[m] = x := ⟨_, rfl⟩
      rw [hGe] at hGm hLn
      obtain ⟨V, g6, hV, hg6, hs6, k6, hb6⟩ := boxA wo #[.int .i64 pk, .string pt, .int .i64 pn, .slice A4 pl c4] 24
      have hc2 := hct V hb6
      obtain ⟨x0, x1, x2, x3, _⟩ := k6.four
      have Hc := Lib.hid hc2; have Hb6 := Lib.hid hb6; have Hb := Lib.hid hb; have Hk6 := Lib.hid k6; have HLn := Lib.hid hLn; have HGm := Lib.hid hGm
      clear hct hc2 hb6 hs6 k6 hLn hGm htake hqa hT hpk hpt hpn hpl hGe hb hfe
      go_wp2_with fail
      refine Hc.out.mono ?_
      rintro e w5 ⟨rfl, hb5⟩
      have k5 := Hk6.out.ext hb5
      have hbo5 := Hb6.out.trans (hb5.mono Hb6.out.size)
      have own5 := own.ext hbo5
      have hbw5 := Hb.out.trans (hbo5.mono Hb.out.size)
      have hB5 := HB.out.ext hbw5
      have hsz5 := hbw5.size
      obtain ⟨x0, x1, x2, x3, _⟩ := k5.four
      obtain ⟨b0, b1, b2, b3, _⟩ := hB5.four
      have Hown := Lib.hid own5; have Hbw5 := Lib.hid hbw5
      clear k5 hbo5 own5 hbw5 hB5 hb5 Hc own
      clear hV hg6
      by_cases h7 : pk = 7
      · subst h7
        have hk7 : ((7 : Int) == 7) = true := rfl
        have hGv : 40 :: T ++ [41] = Gm := by rw [← HGm.out]; simp
        have hjs : (⟨#[40]⟩ : ByteArray) ++ bs T ++ (⟨#[41]⟩ : ByteArray) = bs Gm := by rw [← hGv]; apply ByteArray.ext; simp [bs]
        have HGl : Hid (Gm.length ≤ 40000000) := Lib.hid (by rw [← hGv]; simp; omega)
        clear hGv
        go_wp2_with (at_builtin; refine wpList_push_Own strC (M := M0) (B := w.heap.size) TStrs rfl (.tmp 33) (.tmp 35) rfl rfl Hown.out rfl (cs := [.string (bs Gm)]) (y := Gm) ⟨rfl, by have := HGl.out; simp only [maxLen]; omega⟩ (fun _ h => h.elim) ?a1 ?b1 hsz5 ?_)
        case a1 => unfold maxLen; have := HLm.out; omega
        case b1 => have := HLm.out; omega
        intro A6 c6 L6 w6 hL6 own6 hb7 _ _
        go_wp2
        go_roundw
        case rel => exact ⟨m + 1, A6, c6, L6, by omega, by go_num, rfl, Lib.hid (by rw [hL6.out]; exact HLn.out), own6, Hbw5.out.trans hb7⟩
        case measure => simp [intOf]; omega
      · have hk7 : (pk == 7) = false := by simpa using h7
        by_cases h6 : pk = 6
        · subst h6
          have hk6 : ((6 : Int) == 6) = true := rfl
          by_cases hq : k = 7
          · subst hq
            have hq7 : ((7 : Int) != 7) = false := rfl
            have hGv : T = Gm := by rw [← HGm.out]; simp
            subst hGv
            have HGl : Hid (T.length ≤ 40000000) := Lib.hid (by omega)
            go_wp2_with (at_builtin; refine wpList_push_Own strC (M := M0) (B := w.heap.size) TStrs rfl (.tmp 33) (.tmp 35) rfl rfl Hown.out rfl (cs := [.string (bs T)]) (y := T) ⟨rfl, by have := HGl.out; simp only [maxLen]; omega⟩ (fun _ h => h.elim) ?a1 ?b1 hsz5 ?_)
            case a1 => unfold maxLen; have := HLm.out; omega
            case b1 => have := HLm.out; omega
            intro A6 c6 L6 w6 hL6 own6 hb7 _ _
            go_wp2
            go_roundw
            case rel => exact ⟨m + 1, A6, c6, L6, by omega, by go_num, rfl, Lib.hid (by rw [hL6.out]; exact HLn.out), own6, Hbw5.out.trans hb7⟩
            case measure => simp [intOf]; omega
          · have hq7 : (k != 7) = true := by simpa using hq
            have hGv : 40 :: T ++ [41] = Gm := by rw [← HGm.out]; simp [hq]
            have hjs : (⟨#[40]⟩ : ByteArray) ++ bs T ++ (⟨#[41]⟩ : ByteArray) = bs Gm := by rw [← hGv]; apply ByteArray.ext; simp [bs]
            have HGl : Hid (Gm.length ≤ 40000000) := Lib.hid (by rw [← hGv]; simp; omega)
            clear hGv
            go_wp2_with (at_builtin; refine wpList_push_Own strC (M := M0) (B := w.heap.size) TStrs rfl (.tmp 33) (.tmp 35) rfl rfl Hown.out rfl (cs := [.string (bs Gm)]) (y := Gm) ⟨rfl, by have := HGl.out; simp only [maxLen]; omega⟩ (fun _ h => h.elim) ?a1 ?b1 hsz5 ?_)
            case a1 => unfold maxLen; have := HLm.out; omega
            case b1 => have := HLm.out; omega
            intro A6 c6 L6 w6 hL6 own6 hb7 _ _
            go_wp2
            go_roundw
            case rel => exact ⟨m + 1, A6, c6, L6, by omega, by go_num, rfl, Lib.hid (by rw [hL6.out]; exact HLn.out), own6, Hbw5.out.trans hb7⟩
            case measure => simp [intOf]; omega
        · have hk6 : (pk == 6) = false := by simpa using h6
          have hGv : T = Gm := by rw [← HGm.out]; simp [h7, h6]
          subst hGv
          have HGl : Hid (T.length ≤ 40000000) := Lib.hid (by omega)
          go_wp2_with (at_builtin; refine wpList_push_Own strC (M := M0) (B := w.heap.size) TStrs rfl (.tmp 33) (.tmp 35) rfl rfl Hown.out rfl (cs := [.string (bs T)]) (y := T) ⟨rfl, by have := HGl.out; simp only [maxLen]; omega⟩ (fun _ h => h.elim) ?a1 ?b1 hsz5 ?_)
          case a1 => unfold maxLen; have := HLm.out; omega
          case b1 => have := HLm.out; omega
          intro A6 c6 L6 w6 hL6 own6 hb7 _ _
          go_wp2
          go_roundw
          case rel => exact ⟨m + 1, A6, c6, L6, by omega, by go_num, rfl, Lib.hid (by rw [hL6.out]; exact HLn.out), own6, Hbw5.out.trans hb7⟩
          case measure => simp [intOf]; omega
    · have hmi : ¬ (m : Int) < (ps.length : Int) := by omega
      have hLe : L = ps.map G := by rw [hL.out, List.take_of_length_le (by omega)]
      have hjl : (Q.join sep L).length ≤ 4 * Q.bulks ps := by
        rw [hLe, ← HG.out]
        exact Q.join_parts_len f k sep ps hsep
      have hj := joinL_ok sep M0 A2 c2 L wo own.read0 (by omega) (by have := HLm.out; omega)
      have Hj := Lib.hid hj; have Hb := Lib.hid hb; have HLe := Lib.hid hLe
      clear hj hb hLe hjl own
      go_wp2_with fail
      refine Hj.out.mono ?_
      rintro e w5 ⟨rfl, hb5⟩
      go_wp2_with fail
      go_ret
      exact ⟨by rw [HLe.out]; rfl, Hb.out.trans (hb5.mono Hb.out.size)⟩
end Go.Proofs.YtihhgmpanfboaaaGreatDoor
namespace Go.Proofs.YtihhgmpanfboaaaGreatDoor
open Go.RowKit
set_option linter.unusedVariables false
theorem text_step (f : Nat) (ih : TextAt f) : TextAt (f + 1) := by
  intro q v w F hq hv hbk hC
  have hpart := fun p (hp : p ∈ q.parts) => hq.part hp
  obtain ⟨he, _⟩ := hq.self
  have hfm := Q.form_of he
  have hb := Q.bulk_eq q
  obtain ⟨A, c, rfl, _, _, _, hs⟩ := hv
  have htf := Q.textF_len (f + 1) q
  have hpar : ∀ (k : Int) (sep : Str) (hsep : sep.length ≤ 3) (w1 : World) (g : Nat) (t nv : Value), Below w.heap.size w w1 → Blk w1 g 24 #[.int .i64 k, t, nv, .slice A q.parts.length c] → Calls Tryz.prog 33 #[.string (bs sep), .pointer (some ⟨g, 0, none⟩)] w1 fun e w' => e = .returned (.string (bs (Q.join sep (q.parts.map fun p => Q.wrap k p (Q.textF f p))))) ∧ Below w1.heap.size w1 w' :=
    fun k sep hsep w1 g t nv hb1 hk => parts_ok f ih k q.parts hpart F A c t nv sep hsep w w1 hs hb1 (by omega) g hk (hC.ext hb1)
  cases hfm with
  | all => exact text_all A 0 c w
  | word t h => exact text_word t A 0 c w
  | pre t h => exact text_pre t (by simp only [Q.text_node] at hb; omega) A 0 c w
  | phrase t h => exact text_phrase t (by simp only [Q.text_node] at hb; omega) A 0 c w
  | near t a b n h ha hb' hn =>
    obtain ⟨i, hi, rfl, hd⟩ := digits_same n hn
    have hj : t = a ++ 32 :: b := by
      have := Q.join_split t
      rw [h] at this
      rw [← this]
      simp [Q.join]
    subst hj
    have h32 := (Q.ok_word ha).2.1
    have hlen := Q.itoa_len (i : Int)
    have hx := text_near a b h32 (by simp only [Q.text_node, List.length_append, List.length_cons] at hb; omega) i hi (Q.itoa (i : Int)) hd hlen A 0 c w hC
    have e : Q.textF (f + 1) (.node 5 (a ++ 32 :: b) (i : Int) []) = a ++ 126 :: Q.itoa (i : Int) ++ 58 :: b := by
      rw [Q.textF]
      simp only [Q.kind_node, Q.text_node, Q.num_node, h]
      simp
    rw [e]
    exact hx
  | both l h =>
    exact text_both A l.length c w _ (by have := Q.join_parts_len f 6 [32] l (by simp); simp only [Q.parts_node] at hb; omega) fun w1 g hg hb1 hk => hpar 6 [32] (by simp) w1 g _ _ hb1 hk
  | either l h =>
    exact text_either A l.length c w _ (by have := Q.join_parts_len f 7 [32, 124, 32] l (by simp); simp only [Q.parts_node] at hb; omega) fun w1 g hg hb1 hk => hpar 7 [32, 124, 32] (by simp) w1 g _ _ hb1 hk
  | no p =>
    exact text_no A 1 c w (Q.join [] ([p].map fun p => Q.wrap 8 p (Q.textF f p))) (by have := Q.join_parts_len f 8 [] [p] (by simp); simp only [Q.parts_node] at hb; omega) fun w1 g hg hb1 hk => hpar 8 [] (by simp) w1 g _ _ hb1 hk
theorem text_ok : ∀ f : Nat, TextAt f
  | 0 => fun q v w F hq _ _ _ => by
    obtain ⟨_, g, e⟩ := hq.self
    cases e
  | f + 1 => text_step f (text_ok f)
end Go.Proofs.YtihhgmpanfboaaaGreatDoor
