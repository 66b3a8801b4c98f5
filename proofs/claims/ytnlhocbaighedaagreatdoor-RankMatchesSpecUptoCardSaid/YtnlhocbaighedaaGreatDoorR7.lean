/-
  Contracts and plain facts, one after another: Words of a text: what the code and the reference compute, in plain lists of bytes; The tables of the library's, and stem.Letter, inWord; stem.Lower; The reference's Lower and Words; strings.FieldsFuncSeq at stem.words' predicate: the iterator; stem: a rule applied; Queries: their levels, their nodes in order, the fault; plain.
-/
import Derived.Test.YtnlhocbaighedaaGreatDoorSmPure
import Derived.Test.YtnlhocbaighedaaGreatDoorR1
import Derived.Test.YtnlhocbaighedaaGreatDoorShelf
import Derived.Test.YtnlhocbaighedaaGreatDoorR2
import Derived.Test.YtnlhocbaighedaaGreatDoorR3
import Derived.Lib.MapU
import Derived.Lib.TrimUEq
import Derived.Lib.IsU
import Derived.Lib.CaseU
import Derived.Lib.FieldsU
import Derived.Outline
import Derived.Shelf.Strings.CaseAny
import Derived.Lib.OthersKept
import Derived.IntWalk
import Derived.Stop.RegionWithIn
import Derived.OwnWalkIn
import Derived.TacticsInMore
import Derived.LoopNIn
import Derived.LoopIn
namespace Go.Proofs.YtnlhocbaighedaaGreatDoor
namespace Sm
open Go.Lib
/-- a character belongs to words -/
def isL (r : Nat) : Bool := isLetterU (r : Int) || isDigitU (r : Int) || isMarkU (r : Int)
/-- one character in lower case -/
def lowC (r : Nat) : List UInt8 := encodeRune (toLowerU (r : Int))
def lowGo : Nat → List UInt8 → List UInt8
 | 0, _ => []
 | n + 1, l => if l = [] then [] else lowC (decodeL l).1 ++ lowGo n (l.drop (decodeL l).2)
def lower (l : List UInt8) : List UInt8 := lowGo l.length l
def wordsGo : Nat → List UInt8 → List UInt8 → List (List UInt8)
 | 0, cur, _ => if cur = [] then [] else [cur]
 | f + 1, cur, l =>
  if l = [] then (if cur = [] then [] else [cur])
  else if isL (decodeL l).1 then wordsGo f (cur ++ l.take (decodeL l).2) (l.drop (decodeL l).2)
  else (if cur = [] then [] else [cur]) ++ wordsGo f [] (l.drop (decodeL l).2)
def rawWords (l : List UInt8) : List (List UInt8) := wordsGo l.length [] l
def words (l : List UInt8) : List (List UInt8) := (rawWords l).map lower
def stems (l : List UInt8) : List (List UInt8) := (words l).map stem

theorem width_le {l : List UInt8} (h : l ≠ []) : (decodeL l).2 ≤ l.length := by
 rw [decodeL_N]
 exact decodeN_le_n' _ _ _ _ _ (List.length_pos_iff.2 h)
theorem lowGo_nil (f : Nat) : lowGo f [] = [] := by cases f <;> simp [lowGo]
theorem wordsGo_nil (f : Nat) (cur : List UInt8) : wordsGo f cur [] = if cur = [] then [] else [cur] := by cases f <;> simp [wordsGo]
theorem lowGo_fuel : ∀ (f g : Nat) (l : List UInt8), l.length ≤ f → l.length ≤ g → lowGo f l = lowGo g l
 | 0, g, l, hf, _ => by rw [List.eq_nil_of_length_eq_zero (by omega : l.length = 0), lowGo_nil, lowGo_nil]
 | f + 1, 0, l, _, hg => by rw [List.eq_nil_of_length_eq_zero (by omega : l.length = 0), lowGo_nil, lowGo_nil]
 | f + 1, g + 1, l, hf, hg => by
  by_cases hne : l = []
  ·rw [hne, lowGo_nil, lowGo_nil]
  ·have hw := decodeL_width l
   simp only [lowGo, if_neg hne]
   rw [lowGo_fuel f g _ (by rw [List.length_drop]; omega) (by rw [List.length_drop]; omega)]
theorem wordsGo_fuel : ∀ (f g : Nat) (cur l : List UInt8), l.length ≤ f → l.length ≤ g → wordsGo f cur l = wordsGo g cur l
 | 0, g, cur, l, hf, _ => by rw [List.eq_nil_of_length_eq_zero (by omega : l.length = 0), wordsGo_nil, wordsGo_nil]
 | f + 1, 0, cur, l, _, hg => by rw [List.eq_nil_of_length_eq_zero (by omega : l.length = 0), wordsGo_nil, wordsGo_nil]
 | f + 1, g + 1, cur, l, hf, hg => by
  by_cases hne : l = []
  ·rw [hne, wordsGo_nil, wordsGo_nil]
  ·have hw := decodeL_width l
   simp only [wordsGo, if_neg hne]
   split
   ·exact wordsGo_fuel f g _ _ (by rw [List.length_drop]; omega) (by rw [List.length_drop]; omega)
   ·rw [wordsGo_fuel f g _ _ (by rw [List.length_drop]; omega) (by rw [List.length_drop]; omega)]
/-- what is left, from a state -/
def wordsFrom (cur l : List UInt8) : List (List UInt8) := wordsGo l.length cur l
theorem wordsFrom_nil (cur : List UInt8) : wordsFrom cur [] = if cur = [] then [] else [cur] := wordsGo_nil _ _
theorem wordsFrom_step {cur l : List UInt8} (h : l ≠ []) : wordsFrom cur l =
  if isL (decodeL l).1 then wordsFrom (cur ++ l.take (decodeL l).2) (l.drop (decodeL l).2)
  else (if cur = [] then [] else [cur]) ++ wordsFrom [] (l.drop (decodeL l).2) := by
 have hw := decodeL_width l
 have hl := List.length_pos_iff.2 h
 unfold wordsFrom
 rw [show l.length = (l.length - 1) + 1 by omega]
 simp only [wordsGo, if_neg h]
 rw [wordsGo_fuel (l.length - 1) (l.drop (decodeL l).2).length _ _ (by rw [List.length_drop]; omega) (Nat.le_refl _),
  wordsGo_fuel (l.length - 1) (l.drop (decodeL l).2).length _ _ (by rw [List.length_drop]; omega) (Nat.le_refl _)]
theorem lower_nil : lower [] = [] := rfl
theorem lower_step {l : List UInt8} (h : l ≠ []) : lower l = lowC (decodeL l).1 ++ lower (l.drop (decodeL l).2) := by
 have hw := decodeL_width l
 have hl := List.length_pos_iff.2 h
 unfold lower
 rw [show l.length = (l.length - 1) + 1 by omega]
 simp only [lowGo, if_neg h]
 rw [lowGo_fuel (l.length - 1) (l.drop (decodeL l).2).length _ (by rw [List.length_drop]; omega) (Nat.le_refl _)]
theorem lowC_len (r : Nat) : 1 ≤ (lowC r).length ∧ (lowC r).length ≤ 4 := by
 unfold lowC
 rw [← runeCells_length]
 exact runeCells_le _
theorem lower_len : ∀ (n : Nat) (l : List UInt8), l.length ≤ n → (lower l).length ≤ 4 * l.length
 | 0, l, h => by rw [List.eq_nil_of_length_eq_zero (by omega : l.length = 0)]; exact Nat.le_refl _
 | n + 1, l, h => by
  by_cases hne : l = []
  ·rw [hne]; exact Nat.le_refl _
  ·have hw := decodeL_width l
   have hwl := width_le hne
   have ih := lower_len n (l.drop (decodeL l).2) (by rw [List.length_drop]; omega)
   have hc := lowC_len (decodeL l).1
   rw [lower_step hne, List.length_append]
   rw [List.length_drop] at ih
   omega
/-- no word is empty, and together they are not longer than the text -/
theorem words_sum : ∀ (n : Nat) (cur l : List UInt8), l.length ≤ n → ((wordsFrom cur l).map List.length).sum ≤ cur.length + l.length ∧ ∀ x ∈ wordsFrom cur l, x ≠ []
 | 0, cur, l, h => by
  rw [List.eq_nil_of_length_eq_zero (by omega : l.length = 0), wordsFrom_nil]
  split <;> simp_all
 | n + 1, cur, l, h => by
  by_cases hne : l = []
  ·rw [hne, wordsFrom_nil]
   split <;> simp_all
  ·have hw := decodeL_width l
   have hwl := width_le hne
   rw [wordsFrom_step hne]
   split
   ·have ih := words_sum n (cur ++ l.take (decodeL l).2) (l.drop (decodeL l).2) (by rw [List.length_drop]; omega)
    refine ⟨?_, ih.2⟩
    have := ih.1
    rw [List.length_append, List.length_take, List.length_drop] at this
    omega
   ·have ih := words_sum n [] (l.drop (decodeL l).2) (by rw [List.length_drop]; omega)
    have h1 := ih.1
    rw [List.length_drop] at h1
    split
    ·rename_i hc
     refine ⟨?_, ih.2⟩
     rw [List.nil_append, hc]
     simp only [List.length_nil] at h1 ⊢
     omega
    ·rename_i hc
     refine ⟨?_, ?_⟩
     ·simp only [List.singleton_append, List.map_cons, List.sum_cons]
      simp only [List.length_nil] at h1
      omega
     ·intro x hx
      rcases List.mem_append.1 hx with hx | hx
      ·simp at hx; rw [hx]; exact hc
      ·exact ih.2 x hx
end Sm
end Go.Proofs.YtnlhocbaighedaaGreatDoor
namespace Go.Proofs.YtnlhocbaighedaaGreatDoor
open Go.RowKit
set_option linter.unusedVariables false
/-- the tables lie as the library's text lays them -/
structure TabsU (w : World) : Prop where
 u8 : Lib.Utf8Tabs 0 1 w
 case : Lib.CaseVar 7 Lib.caseA w
 props : Lib.TabIs Tryz.prog w "unicode.properties" .u8 Lib.propertiesTab
 letter : Lib.RVar 3 Lib.letterT w
 digit : Lib.RVar 4 Lib.digitT w
 mark : Lib.RVar 5 Lib.markT w
theorem caseVar_ext {g : Nat} {T : Array Lib.CaseRow} {w w' : World} (h : Lib.CaseVar g T w) (hb : Below w.heap.size w w') : Lib.CaseVar g T w' := by
 have k : ∀ {a : Addr} {v : Value}, w.cell? a = some v → w'.cell? a = some v := fun {a v} hc => (hb.cell (World.block_lt_of_cell? w a hc)).trans hc
 obtain ⟨R, oR, cap, h1, h2⟩ := h
 exact ⟨R, oR, cap, k h1, fun i hi => ⟨k (h2 i hi).1, k (h2 i hi).2.1, k (h2 i hi).2.2.1, k (h2 i hi).2.2.2.1, k (h2 i hi).2.2.2.2⟩⟩
theorem TabsU.ext {w w' : World} (h : TabsU w) (hb : Below w.heap.size w w') : TabsU w' where
 u8 := Utf8Tabs_below h.u8 hb
 case := caseVar_ext h.case hb
 props := TabIs_below (g := 2) (by kernel_rfl) h.props hb
 letter := RVar_below h.letter hb
 digit := RVar_below h.digit hb
 mark := RVar_below h.mark hb
theorem chLetter_ok (r : Nat) (hr : r ≤ 1114111) (w : World) (hT : TabsU w) : Calls Tryz.prog 143 #[.int .i32 (r : Int)] w fun e w' => e = .returned (.bool (Sm.isL r)) ∧ Below w.heap.size w w' := by
 have h1 := Tryz.unicode_IsLetter_all (r : Int) w (by omega) (by omega) hT.props hT.letter
 have h2 := fun W hb => Tryz.unicode_IsDigit_all (r : Int) W (by omega) (by omega) (hT.ext hb).digit
 have h3 := fun W hb => Tryz.unicode_IsMark_all (r : Int) W (by omega) (by omega) (hT.ext hb).mark
 have hl : Sm.isL r = (Lib.isLetterU (r : Int) || Lib.isDigitU (r : Int) || Lib.isMarkU (r : Int)) := rfl
 clear hT
 generalize Lib.isLetterU (r : Int) = b1 at h1 hl
 generalize Lib.isDigitU (r : Int) = b2 at h2 hl
 generalize Lib.isMarkU (r : Int) = b3 at h3 hl
 have Hl := Lib.hid hl; have H1 := Lib.hid h1; have H2 := Lib.hid h2; have H3 := Lib.hid h3
 clear hl h1 h2 h3
 go_enter Tryz.func143, Tryz.ntmps143
 go_wp2_with fail
 refine H1.out.mono ?_
 rintro e w1 ⟨rfl, hb1⟩
 cases b1 with
 | true =>
  go_wp2
  go_ret
  exact ⟨ret_bool (by rw [Hl.out]; rfl), hb1⟩
 | false =>
  go_wp2_with fail
  refine (H2.out _ hb1).mono ?_
  rintro e w2 ⟨rfl, hb2⟩
  have hb12 := below2 hb1 hb2
  cases b2 with
  | true =>
   go_wp2
   go_ret
   exact ⟨ret_bool (by rw [Hl.out]; rfl), hb12⟩
  | false =>
   go_wp2_with fail
   refine (H3.out _ hb12).mono ?_
   rintro e w3 ⟨rfl, hb3⟩
   go_wp2
   go_ret
   exact ⟨ret_bool (by rw [Hl.out]; simp), below2 hb12 hb3⟩
theorem isL_bad : Sm.isL 65533 = false := by kernel_rfl
theorem inWord_ok (r : Nat) (hr : r ≤ 1114111) (w : World) (hT : TabsU w) : Calls Tryz.prog 87 #[.int .i32 (r : Int)] w fun e w' => e = .returned (.bool (Sm.isL r)) ∧ Below w.heap.size w w' := by
 by_cases hbad : r = 65533
 ·subst hbad
  rw [isL_bad]
  go_enter Tryz.func87, Tryz.ntmps87
  go_wp2
  go_ret
  exact ⟨rfl, Below.refl _ _⟩
 have hne : ((r : Int) != 65533) = true := by rw [bne_iff_ne]; omega
 have h1 := Tryz.unicode_IsLetter_all (r : Int) w (by omega) (by omega) hT.props hT.letter
 have h2 := fun W hb => Tryz.unicode_IsDigit_all (r : Int) W (by omega) (by omega) (hT.ext hb).digit
 have h3 := fun W hb => Tryz.unicode_IsMark_all (r : Int) W (by omega) (by omega) (hT.ext hb).mark
 have hl : Sm.isL r = (Lib.isLetterU (r : Int) || Lib.isDigitU (r : Int) || Lib.isMarkU (r : Int)) := rfl
 clear hT
 generalize Lib.isLetterU (r : Int) = b1 at h1 hl
 generalize Lib.isDigitU (r : Int) = b2 at h2 hl
 generalize Lib.isMarkU (r : Int) = b3 at h3 hl
 have Hl := Lib.hid hl; have H1 := Lib.hid h1; have H2 := Lib.hid h2; have H3 := Lib.hid h3
 clear hl h1 h2 h3
 go_enter Tryz.func87, Tryz.ntmps87
 go_wp2_with fail
 refine H1.out.mono ?_
 rintro e w1 ⟨rfl, hb1⟩
 cases b1 with
 | true =>
  go_wp2
  go_ret
  exact ⟨ret_bool (by rw [Hl.out]; rfl), hb1⟩
 | false =>
  go_wp2_with fail
  refine (H2.out _ hb1).mono ?_
  rintro e w2 ⟨rfl, hb2⟩
  have hb12 := below2 hb1 hb2
  cases b2 with
  | true =>
   go_wp2
   go_ret
   exact ⟨ret_bool (by rw [Hl.out]; rfl), hb12⟩
  | false =>
   go_wp2_with fail
   refine (H3.out _ hb12).mono ?_
   rintro e w3 ⟨rfl, hb3⟩
   go_wp2
   go_ret
   exact ⟨ret_bool (by rw [Hl.out]; simp), below2 hb12 hb3⟩
end Go.Proofs.YtnlhocbaighedaaGreatDoor
namespace Go.Proofs.YtnlhocbaighedaaGreatDoor
open Go.RowKit
set_option linter.unusedVariables false
theorem own_cells {w : World} {B : Nat} {e : TypeId} {v : Value} {l : List UInt8} (h : w.ownsRow B e 1 v l.length (Lib.byteCells l)) : Own byteC M0 w B e v l :=
 ⟨_, h, lit_bytes _ _ l⟩
theorem cells_own {w : World} {B : Nat} {e : TypeId} {v : Value} {l : List UInt8} (h : Own byteC M0 w B e v l) : w.ownsRow B e 1 v l.length (Lib.byteCells l) := by
 obtain ⟨xs, ho, he⟩ := h
 have hx : xs = Lib.byteCells l := by
  have h1 : xs.length = l.length := by rw [he.1]; simp [byteC]
  apply List.ext_getElem
  ·rw [h1]; simp [Lib.byteCells]
  ·intro i h2 h3
   have hi : i < l.length := by omega
   have hr := he.2 i hi
   have hr' : (xs.drop (i * 1)).take 1 = [Value.int .u8 (l[i].toNat : Int)] := hr
   rw [Nat.mul_one] at hr'
   have h4 := congrArg (fun z => z[0]?) hr'
   simp only [List.getElem?_take, List.getElem?_drop, Nat.add_zero, List.getElem?_eq_getElem h2] at h4
   simp at h4
   rw [h4]
   simp [Lib.byteCells]
 exact hx ▸ ho
theorem appendRune_ok (B : Nat) (v : Value) (L : Str) (r : Int) (h0 : -2147483648 ≤ r) (h1 : r ≤ 2147483647) (w : World) (hown : Own byteC M0 w B 5 v L) (hlen : L.length + 4 ≤ 140737488355328) (hB : B ≤ w.heap.size) :
  Calls Tryz.prog 167 #[v, .int .i32 r] w fun e w' => ∃ (A : Option Addr) (c : Nat) (L' : Str), e = .returned (.slice A L'.length c) ∧ Hid (L' = L ++ Lib.encodeRune r) ∧ Own byteC M0 w' B 5 (.slice A L'.length c) L' ∧
   Hid (∀ b, b < w.heap.size → some b ≠ v.ownBlock → w'.heap[b]? = w.heap[b]?) ∧ Below B w w' := by
 refine (Tryz.utf8_AppendRune_plain B v L.length (Lib.byteCells L) r h0 h1 w (cells_own hown) hlen hB).mono ?_
 rintro e w' ⟨v', rfl, ho, o, hg⟩
 have hl : L.length + (Lib.runeCells r).length = (L ++ Lib.encodeRune r).length := by rw [List.length_append, Lib.runeCells_length]
 rw [← Lib.byteCells_encodeRune, ← Lib.byteCells_append] at ho
 rw [Lib.byteCells_encodeRune, hl] at ho
 have hO := own_cells ho
 obtain ⟨A, c, rfl, _⟩ := hO.shape
 refine ⟨A, c, _, rfl, Lib.hid rfl, hO, Lib.hid fun b hb hne => ?_, ?_⟩
 ·exact (hg.block b (by simp; omega) hne).trans (Below.heap_alloc w o b hb)
 ·exact ((Below.refl B w).alloc hB o).grown hg (by simp; omega) fun k hk => hown.base k hk
theorem drop_ne {s : Str} {p : Nat} (h : p < s.length) : s.drop p ≠ [] := by
 intro h0
 have := congrArg List.length h0
 rw [List.length_drop] at this
 simp at this
 omega
set_option maxHeartbeats 2000000 in
theorem stemLower_ok (s : Str) (hs : s.length ≤ 4000000) (w : World) (hT : TabsU w) : Calls Tryz.prog 144 #[.string (bs s)] w fun e w' => e = .returned (.string (bs (Sm.lower s))) ∧ Below w.heap.size w w' := by
 have hlen := Sm.lower_len s.length s (Nat.le_refl _)
 have HT := Lib.hid hT
 clear hT
 go_enter Tryz.func144, Tryz.ntmps144
 go_wp2
 go_loopw [3] (fun v wr => ∃ (pos : Nat) (A : Option Addr) (c : Nat) (L : Str), v = .slice A L.length c ∧ pos ≤ s.length ∧ wr.heap[w.heap.size]? = some (.stringIter (bs s) pos) ∧ Own byteC M0 wr (w.heap.size + 1) 5 (.slice A L.length c) L ∧ Hid (L ++ Sm.lower (s.drop pos) = Sm.lower s) ∧ Below w.heap.size w wr) (fun _ wr => s.length - wr.iterPos w.heap.size)
 case atStart =>
  refine ⟨0, none, 0, [], rfl, Nat.zero_le _, ?_, Own.nil _ _ _ _ _, Lib.hid (by simp), ?_⟩
  ·exact heap_alloc_new w _
  ·exact (Below.refl _ _).alloc (Nat.le_refl _) _
 case round =>
  obtain ⟨pos, A, c, L, rfl, hpos, hit, hown, hL, hb⟩ := hrel
  have hpp0 := Lib.hid (iterPos_of hit)
  by_cases hp : pos < s.length
  ·have hne := drop_ne hp
   have hst := Sm.lower_step hne
   have hdl := Lib.decodeL_drop (bs s) pos
   rw [bs_toList] at hdl
   have hw1 := Lib.decodeL_width (s.drop pos)
   have hw2 := Sm.width_le hne
   have hr := Lib.decodeL_rune (s.drop pos)
   rw [List.length_drop] at hw2
   have hnx := fun ty => Lib.run_next_any_at (P := Tryz.prog) wr w.heap.size (bs s) pos ty hit (by rw [bs_size]; exact hp)
   rw [← hdl] at hnx
   rw [List.drop_drop] at hst
   obtain ⟨r, hrr⟩ : ∃ r, (Lib.decodeL (s.drop pos)).1 = r := ⟨_, rfl⟩
   obtain ⟨n, hnn⟩ : ∃ n, (Lib.decodeL (s.drop pos)).2 = n := ⟨_, rfl⟩
   rw [hrr] at hst hr hnx
   rw [hnn] at hst hw1 hw2 hnx
   have hrg := Lib.toLowerU_range r hr
   have hlc : (L ++ Lib.encodeRune (Lib.toLowerU (r : Int))) ++ Sm.lower (s.drop (pos + n)) = Sm.lower s := by rw [← hL.out, hst, List.append_assoc]; rfl
   have hll : L.length + (Lib.encodeRune (Lib.toLowerU (r : Int))).length ≤ 16000000 := by
    have := congrArg List.length hlc
    rw [List.length_append, List.length_append] at this
    omega
   have hla : L.length + 4 ≤ 140737488355328 := by omega
   have Hlc := Lib.hid hlc
   clear hlc hst hdl hrr hnn hne
   have hit2 := Lib.iterAt_heap wr w.heap.size (bs s) pos (pos + n) hit
   have hb2 := Lib.below_iterAt hb (Nat.le_refl _) (bs s) (pos + n)
   have hsz := hb.size
   have hlt := (Array.getElem?_eq_some_iff.1 hit).1
   have hsz2 := Lib.iterAt_size wr w.heap.size (bs s) (pos + n)
   have hown2 : Own byteC M0 (wr.iterAt w.heap.size (bs s) (pos + n)) (w.heap.size + 1) 5 (.slice A L.length c) L := own_cells ((cells_own hown).kept (row := some w.heap.size)
    ⟨rfl, rfl, rfl, by rw [hsz2]; exact Nat.le_refl _, fun k hk hne => Lib.iterAt_other _ _ _ _ _ (fun e => hne (by rw [e]))⟩ (.inr fun e => by have := hown.base _ e; omega))
   obtain ⟨W, hW⟩ : ∃ W, wr.iterAt w.heap.size (bs s) (pos + n) = W := ⟨_, rfl⟩
   rw [hW] at hnx hit2 hb2 hown2 hsz2
   have HW := Lib.hid hW
   clear hW hown hb hit
   have hT := HT.out.ext hb2
   have hlow := Tryz.unicode_ToLower_laid (r : Int) W hT.case
   have Hlow := Lib.hid hlow
   clear hlow hT
   go_wp2_with fail
   refine Hlow.out.mono ?_
   rintro e w1 ⟨rfl, q, hw1q⟩
   have hbq : Below W.heap.size W w1 := hw1q ▸ below_drewN' _ _ _
   have hown3 := hown2.ext hbq
   have hit3 := (hbq.block _ (by omega)).trans hit2
   have hb3 := hb2.trans (hbq.mono (by omega))
   have hsz3 := hbq.size
   clear hw1q hown2 hit2 hb2 hbq
   have happ := appendRune_ok (w.heap.size + 1) _ L (Lib.toLowerU (r : Int)) (by omega) (by omega) w1 hown3 hla (by omega)
   generalize Lib.toLowerU (r : Int) = z at happ Hlc hll ⊢
   have Happ := Lib.hid happ
   have hnb : some w.heap.size ≠ (Value.slice A L.length c).ownBlock := fun e => by have := hown3.base _ e.symm; omega
   clear happ hown3
   go_wp2_with fail
   refine Happ.out.mono ?_
   rintro e w2 ⟨A2, c2, L2, rfl, hL2, hown4, hold, hb4⟩
   have hit4 := (hold.out _ (by omega) hnb).trans hit3
   have hb5 := hb3.trans (hb4.mono (by omega))
   have hpp := iterPos_of hit4
   clear Happ hold hb4 hit3
   go_wp2
   go_roundw
   case rel => exact ⟨pos + n, A2, c2, L2, rfl, by omega, hit4, hown4, Lib.hid (by rw [hL2.out, Hlc.out]), hb5⟩
   case measure => rw [hpp, hpp0.out]; omega
  ·have hnx := fun ty => Lib.run_next_end_at (P := Tryz.prog) wr w.heap.size (bs s) pos ty hit (by rw [bs_size]; exact hp)
   have hres : L = Sm.lower s := by rw [← hL.out, List.drop_eq_nil_of_le (by omega), Sm.lower_nil, List.append_nil]
   have hcv := run_convert_SlR (P := Tryz.prog) (dst := 9) Tryz.underlying183 Tryz.underlying5 Tryz.underlying9 hown.read0
   have Hres := Lib.hid hres
   clear hres
   go_wp2
   go_ret
   exact ⟨ret_str (by rw [Hres.out]), hb⟩
end Go.Proofs.YtnlhocbaighedaaGreatDoor
namespace Go.Proofs.YtnlhocbaighedaaGreatDoor
open Go.RowKit
set_option linter.unusedVariables false
theorem encode_bs (z : Int) : Utf8.encode z = bs (Lib.encodeRune z) := by
 have hb : ∀ (a : Int) (b : Nat), a = (b : Int) → a.toNat.toUInt8 = UInt8.ofNat b := fun a b h => by subst h; simp
 unfold bs Lib.encodeRune
 by_cases h1 : 0 ≤ z ∧ z ≤ 127
 ·rw [Lib.encodeRuneZ_one h1.1 h1.2]
  obtain ⟨c, rfl⟩ : ∃ c : Nat, z = (c : Int) := ⟨z.toNat, by omega⟩
  have hv : Utf8.valid (c : Int) = true := by simp [Utf8.valid]; omega
  simp [Utf8.encode, hv, show c < 128 by omega]
 ·by_cases h2 : 128 ≤ z ∧ z ≤ 2047
  ·rw [Lib.encodeRuneZ_two h2.1 h2.2]
   obtain ⟨c, rfl⟩ : ∃ c : Nat, z = (c : Int) := ⟨z.toNat, by omega⟩
   have hv : Utf8.valid (c : Int) = true := by simp [Utf8.valid]; omega
   simp only [Utf8.encode, hv, if_true, Int.toNat_natCast]
   rw [if_neg (by omega), if_pos (by omega)]
   simp only [List.map_cons, List.map_nil, hb (192 + (c : Int) / 64) (192 + c / 64) (by omega), hb (128 + (c : Int) % 64) (128 + c % 64) (by omega)]
  ·by_cases h3 : (2048 ≤ z ∧ z < 55296) ∨ (57343 < z ∧ z ≤ 65535)
   ·rw [Lib.encodeRuneZ_three h3]
    obtain ⟨c, rfl⟩ : ∃ c : Nat, z = (c : Int) := ⟨z.toNat, by omega⟩
    have hv : Utf8.valid (c : Int) = true := by simp [Utf8.valid]; omega
    simp only [Utf8.encode, hv, if_true, Int.toNat_natCast]
    rw [if_neg (by omega), if_neg (by omega), if_pos (by omega)]
    simp only [List.map_cons, List.map_nil, hb (224 + (c : Int) / 4096) (224 + c / 4096) (by omega), hb (128 + (c : Int) / 64 % 64) (128 + c / 64 % 64) (by omega), hb (128 + (c : Int) % 64) (128 + c % 64) (by omega)]
   ·by_cases h4 : 65536 ≤ z ∧ z ≤ 1114111
    ·rw [Lib.encodeRuneZ_four h4.1 h4.2]
     obtain ⟨c, rfl⟩ : ∃ c : Nat, z = (c : Int) := ⟨z.toNat, by omega⟩
     have hv : Utf8.valid (c : Int) = true := by simp [Utf8.valid]; omega
     simp only [Utf8.encode, hv, if_true, Int.toNat_natCast]
     rw [if_neg (by omega), if_neg (by omega), if_neg (by omega)]
     simp only [List.map_cons, List.map_nil, hb (240 + (c : Int) / 262144) (240 + c / 262144) (by omega), hb (128 + (c : Int) / 4096 % 64) (128 + c / 4096 % 64) (by omega), hb (128 + (c : Int) / 64 % 64) (128 + c / 64 % 64) (by omega), hb (128 + (c : Int) % 64) (128 + c % 64) (by omega)]
    ·rw [Lib.encodeRuneZ_bad (by omega)]
     have hv : Utf8.valid z = false := by simp [Utf8.valid]; omega
     simp [Utf8.encode, hv, Utf8.runeError]
set_option maxHeartbeats 2000000 in
theorem refLower_ok (s : Str) (hs : s.length ≤ 4000000) (w : World) (hT : TabsU w) : Calls Tryz.prog 88 #[.string (bs s)] w fun e w' => e = .returned (.string (bs (Sm.lower s))) ∧ Below w.heap.size w w' := by
 have hlen := Sm.lower_len s.length s (Nat.le_refl _)
 have HT := Lib.hid hT
 clear hT
 obtain ⟨res, hres⟩ : ∃ r, Sm.lower s = r := ⟨_, rfl⟩
 rw [hres] at hlen ⊢
 have Hres := Lib.hid hres
 clear hres
 go_enter Tryz.func88, Tryz.ntmps88
 go_wp2
 go_loopw [0, 3] (fun t o wr => ∃ (l L : Str), t = .string (bs l) ∧ o = .string (bs L) ∧ l.length ≤ s.length ∧ Hid (L ++ Sm.lower l = res) ∧ Below w.heap.size w wr) (fun t _ _ => (strOf t).length)
 case atStart => exact ⟨s, [], rfl, rfl, Nat.le_refl _, Lib.hid (by rw [List.nil_append, Hres.out]), Below.refl _ _⟩
 case round =>
  obtain ⟨l, L, rfl, rfl, hl, hL, hb⟩ := hrel
  by_cases hne : l = []
  ·subst hne
   have hr : res = L := by rw [← hL.out, Sm.lower_nil, List.append_nil]
   have Hr := Lib.hid hr
   clear hr
   go_wp2
   go_ret
   exact ⟨ret_str (by rw [Hr.out]), hb⟩
  ·have hpos := List.length_pos_iff.2 hne
   have hst := Sm.lower_step hne
   have hw1 := Lib.decodeL_width l
   have hw2 := Sm.width_le hne
   have hr := Lib.decodeL_rune l
   have hdec := Tryz.utf8_DecodeRuneInString (bs l) wr (HT.out.ext hb).u8
   have hdg : Lib.decodeGo (bs l) = Lib.decodeL l := by
    unfold Lib.decodeGo
    rw [if_neg (by rw [bs_size]; omega)]
    rfl
   rw [hdg] at hdec
   obtain ⟨r, hrr⟩ : ∃ r, (Lib.decodeL l).1 = r := ⟨_, rfl⟩
   obtain ⟨n, hnn⟩ : ∃ n, (Lib.decodeL l).2 = n := ⟨_, rfl⟩
   rw [hrr] at hst hr hdec
   rw [hnn] at hst hw1 hw2 hdec
   have hlc : (L ++ Lib.encodeRune (Lib.toLowerU (r : Int))) ++ Sm.lower (l.drop n) = res := by rw [← hL.out, hst, List.append_assoc]; rfl
   have hll : L.length + (Lib.encodeRune (Lib.toLowerU (r : Int))).length ≤ 16000000 := by
    have := congrArg List.length hlc
    rw [List.length_append, List.length_append] at this
    omega
   have Hlc := Lib.hid hlc; have Hdec := Lib.hid hdec
   clear hlc hst hdg hrr hnn hdec
   have hd0 : decide ((0 : Int) < (l.length : Int)) = true := by simp; omega
   have hd1 : 0 < l.length := hpos
   have hlow := fun W hbb => Tryz.unicode_ToLower_laid (r : Int) W ((HT.out.ext hb).ext hbb).case
   obtain ⟨z, hz⟩ : ∃ z, Lib.toLowerU (r : Int) = z := ⟨_, rfl⟩
   rw [hz] at hlow Hlc hll
   have Hlow := Lib.hid hlow
   clear hlow hz
   have hcat : (L.length + (Lib.encodeRune z).length ≤ 9223372036854775807) = True := by simp; omega
   have henc := encode_bs z
   have hn0 : (0 : Int) ≤ (n : Int) := by omega
   have hn1 : (n : Int) ≤ (l.length : Int) := by omega
   go_wp2_with fail
   refine Hdec.out.mono ?_
   rintro e w1 ⟨rfl, hb1⟩
   go_wp2_with fail
   refine (Hlow.out w1 hb1).mono ?_
   rintro e w2 ⟨rfl, q, hq⟩
   have hb2 := (below2 hb hb1).trans (hq ▸ below_drewN' _ _ _)
   clear hq
   go_wp2
   go_roundw
   case rel => exact ⟨l.drop n, L ++ Lib.encodeRune z, by rw [List.take_of_length_le (by rw [List.length_drop]; exact Nat.le_refl _)], rfl, by rw [List.length_drop]; omega, Hlc, hb2⟩
   case measure => simp [strOf, bs]; omega
end Go.Proofs.YtnlhocbaighedaaGreatDoor
namespace Go.Proofs.YtnlhocbaighedaaGreatDoor
open Go.RowKit
set_option linter.unusedVariables false
/-- the tables lie, and no round turns them -/
def TabsS (S : Nat → Prop) (w : World) : Prop := ∃ w0, TabsU w0 ∧ Below w0.heap.size w0 w ∧ ∀ b, S b → w0.heap.size ≤ b
theorem TabsS.ext {S : Nat → Prop} {w w' : World} (h : TabsS S w) (hb : Below w.heap.size w w') : TabsS S w' := by
 obtain ⟨w0, h1, h2, h3⟩ := h
 exact ⟨w0, h1, h2.trans (hb.mono h2.size), h3⟩
theorem TabsS.chg {S S' : Nat → Prop} {w w' : World} (h : TabsS S w) (hc : Chg S S' w w') : TabsS S' w' := by
 obtain ⟨w0, h1, h2, h3⟩ := h
 refine ⟨w0, h1, ⟨hc.os.trans h2.os, hc.tape.trans h2.tape, hc.output.trans h2.output, Nat.le_trans h2.size hc.size, fun b hb => ?_⟩, fun b hb => ?_⟩
 ·exact (hc.same b (by have := h2.size; omega) fun hS => by have := h3 b hS; omega).trans (h2.block b hb)
 ·have h4 := h2.size
  rcases (hc.own b hb).2 with h | h
  ·exact h3 b h
  ·omega
theorem TabsU.s {S : Nat → Prop} {w : World} (h : TabsU w) (hS : ∀ b, S b → w.heap.size ≤ b) : TabsS S w := ⟨w, h, Below.refl _ _, hS⟩
theorem Blk.chg {S S' : Nat → Prop} {w w' : World} {g : Nat} {t : TypeId} {cs : Array Value} (h : Blk w g t cs) (hS : ¬ S g) (hc : Chg S S' w w') : Blk w' g t cs ∧ ¬ S' g :=
 ⟨h.keep (hc.same g h.lt hS), fun h' => (hc.own g h').2.elim hS fun h2 => by have := h.lt; omega⟩
/-- the word that is open: where it began -/
def openW (s : Str) (st : Option Nat) (pos : Nat) : Str := match st with | some a => (s.drop a).take (pos - a) | none => []
def startV (st : Option Nat) : Value := match st with | some a => .int .i64 (a : Int) | none => .int .i64 (-1)
def encW (x : Str) : Array Value := #[.string (bs x)]
theorem list_at {α : Type} {l : List α} {k : Nat} (hk : k ≤ l.length) {x : α} {t : List α} (h : l = l.take k ++ x :: t) : ∃ hk : k < l.length, l[k] = x ∧ l = l.take (k + 1) ++ t := by
 have hl : k < l.length := by
  have := congrArg List.length h
  rw [List.length_append, List.length_take, List.length_cons] at this
  omega
 have hx : l[k] = x := by
  have h1 := List.getElem_of_eq h hl
  rw [h1, List.getElem_append_right (by simp; omega)]
  simp [Nat.min_eq_left hk]
 refine ⟨hl, hx, ?_⟩
 rw [List.take_succ_eq_append_getElem hl, hx, List.append_assoc]
 exact h
end Go.Proofs.YtnlhocbaighedaaGreatDoor
namespace Go.Proofs.YtnlhocbaighedaaGreatDoor
open Go.RowKit
set_option linter.unusedVariables false

set_option maxHeartbeats 1000000 in
theorem apply_ok (M : Nat → Prop) (r : Sm.Rule) (v : Value) (s : Str) (w : World) (hv : SlR strC M w v r.bars) (hs : s.length ≤ 4000000) (hto : r.to.length ≤ 10) :
  Calls Tryz.prog 135 #[.agg #[.string (bs r.ending), .string (bs r.to), v], .string (bs s)] w fun e w' =>
   e = .returned (.tuple #[.string (bs (Sm.applied r s)), .bool (Sm.fits r s)]) ∧ Below w.heap.size w w' := by
 obtain ⟨A, c, rfl, _, hcm⟩ := hv.form
 have hn := hv.len_le
 unfold maxLen at hn
 have hc := Tryz.strings_CutSuffix (bs s) (bs r.ending)
 go_enter Tryz.func135, Tryz.ntmps135
 have hbw := (Below.refl w.heap.size w).alloc (Nat.le_refl _) (.cells #[.string (bs r.ending), .string (bs r.to), .slice A r.bars.length c] 156)
 have k1 := Blk.new w 156 #[.string (bs r.ending), .string (bs r.to), .slice A r.bars.length c]
 replace hv := hv.ext hbw
 obtain ⟨p10, p11, p12, _⟩ := k1.three
 go_wp2_with fail
 refine (hc _ (by rw [bs_size]; omega)).mono ?_
 rintro e w1 ⟨rfl, hw1⟩
 rw [bs_toList, bs_toList]
 rw [← hw1] at hbw k1 hv p10 p11 p12
 clear hc hw1 k1
 show _
 have hfr : (⟨(Lib.trimSuffix s r.ending).toArray⟩ : ByteArray) = bs (Lib.trimSuffix s r.ending) := rfl
 rw [hfr]
 clear hfr
 obtain ⟨ok, hok⟩ : ∃ b, Lib.hasSuffix s r.ending = b := ⟨_, rfl⟩
 rw [hok]
 cases ok with
 | false =>
  have hf : Sm.fits r s = false := by simp [Sm.fits, hok]
  have Hf := Lib.hid hf
  clear hf hok
  go_wp2
  all_goals refine bodyPost_ret (v := .tuple #[.string (bs (s)), .bool false]) (by simp [results, Tryz.results135, go_sem]) rfl ?_
  all_goals exact ⟨by rw [Hf.out, Sm.applied_not Hf.out], hbw⟩
 | true =>
  have htr : Lib.trimSuffix s r.ending = s.take (s.length - r.ending.length) := by unfold Lib.trimSuffix; rw [if_pos hok]
  have hle : r.ending.length ≤ s.length := by
   unfold Lib.hasSuffix at hok
   exact (List.isSuffixOf_iff_suffix.1 hok).length_le
  obtain ⟨fr, hfr⟩ : ∃ fr, Lib.trimSuffix s r.ending = fr := ⟨_, rfl⟩
  rw [hfr]
  have hfl : fr.length = s.length - r.ending.length := by rw [← hfr, htr, List.length_take]; omega
  by_cases h3 : r.ending.length + 3 ≤ s.length
  ·have hlt : ((fr.length : Int) < 3) = False := by simp; omega
   have Hok := Lib.hid hok; have Htr := Lib.hid htr; have Hfr := Lib.hid hfr
   clear hok htr hfr
   go_wp2
   go_loop [28] (fun i => ∃ k : Nat, k ≤ r.bars.length ∧ i = .int .i64 k ∧ Hid (∀ (j : Nat) (hj : j < r.bars.length), j < k → Lib.hasSuffix s r.bars[j] = false)) (fun i => r.bars.length - (intOf i).toNat)
   case atStart => exact ⟨0, Nat.zero_le _, rfl, Lib.hid fun j _ h => absurd h (by omega)⟩
   case round =>
    obtain ⟨k, hk, rfl, hpre⟩ := hrel
    by_cases hlk : k < r.bars.length
    ·obtain ⟨b, off, rfl, _, _, hcell, _⟩ := hv.strAt hlk
     have hc := Tryz.strings_HasSuffix (bs s) (bs r.bars[k])
     obtain ⟨x, hx⟩ : ∃ x, x = r.bars[k] := ⟨_, rfl⟩
     rw [← hx] at hcell hc
     have Hx := Lib.hid hx
     clear hx
     go_wp2_with fail
     refine (hc _ (by rw [bs_size]; omega)).mono ?_
     rintro e w2 ⟨rfl, rfl⟩
     rw [bs_toList, bs_toList]
     clear hc
     cases ht : Lib.hasSuffix s x with
     | true =>
      go_wp2
      refine bodyPost_ret (v := .tuple #[.string (bs (s)), .bool false]) (by simp [results, Tryz.results135, go_sem]) rfl ?_
      have hf : Sm.fits r s = false := by
       have := any_true r.bars (Lib.hasSuffix s) k hlk (by rw [← Hx.out]; exact ht)
       simp [Sm.fits, this]
      exact ⟨by rw [hf, Sm.applied_not hf], hbw⟩
     | false =>
      go_wp2
      go_round
      case rel => exact ⟨k + 1, by omega, by go_num, Lib.hid fun j hj hjk => by
       by_cases e : j = k
       ·subst e; rw [← Hx.out]; exact ht
       ·exact hpre.out j hj (by omega)⟩
      case measure => simp [intOf]; omega
    ·have hcat : (fr.length + r.to.length ≤ 9223372036854775807) = True := by simp; omega
     go_wp2
     refine bodyPost_ret (v := .tuple #[.string (bs (fr ++ r.to)), .bool true]) (by simp [results, Tryz.results135, go_sem]) rfl ?_
     have hf : Sm.fits r s = true := by
      have := any_false r.bars (Lib.hasSuffix s) fun i hi => hpre.out i hi (by omega)
      simp [Sm.fits, this, Hok.out, h3]
     refine ⟨?_, hbw⟩
     rw [hf, Sm.applied_fits hf, Sm.cut, ← Htr.out, Hfr.out]
  ·have hlt : ((fr.length : Int) < 3) = True := by simp; omega
   have hf : Sm.fits r s = false := by simp [Sm.fits]; intro _ h; omega
   have Hf := Lib.hid hf
   clear hf hok
   go_wp2
   all_goals refine bodyPost_ret (v := .tuple #[.string (bs (s)), .bool false]) (by simp [results, Tryz.results135, go_sem]) rfl ?_
   all_goals exact ⟨by rw [Hf.out, Sm.applied_not Hf.out], hbw⟩
end Go.Proofs.YtnlhocbaighedaaGreatDoor
namespace Go.Proofs.YtnlhocbaighedaaGreatDoor
set_option linter.unusedVariables false
/-- A text cut at the spaces. -/
def splitS : Str → List Str
 | [] => [[]]
 | c :: t => if c = 32 then [] :: splitS t else match splitS t with | [] => [[c]] | h :: r => (c :: h) :: r
theorem splitS_ne : ∀ s : Str, splitS s ≠ []
 | [] => by simp [splitS]
 | c :: t => by
  unfold splitS
  split
  ·simp
  ·split <;> simp
theorem splitS_no : ∀ s : Str, 32 ∉ s → splitS s = [s]
 | [], _ => rfl
 | c :: t, h => by
  simp only [List.mem_cons, not_or] at h
  rw [splitS, if_neg (fun e => h.1 e.symm), splitS_no t h.2]
theorem splitS_append (a b : Str) : splitS (a ++ 32 :: b) = splitS a ++ splitS b := by
 induction a with
 | nil => simp [splitS]
 | cons c t ih =>
  rw [List.cons_append, splitS, ih, splitS]
  split
  ·simp
  ·cases h : splitS t with
   | nil => exact absurd h (splitS_ne t)
   | cons x r => simp
theorem splitS_cut (q r : Str) (h : 32 ∉ q) : splitS (q ++ 32 :: r) = q :: splitS r := by rw [splitS_append, splitS_no q h]; rfl
theorem splitS_len (s : Str) : (splitS s).length = s.count 32 + 1 := by
 induction s with
 | nil => rfl
 | cons c t ih =>
  rw [splitS]
  split
  ·rename_i h; subst h; rw [List.length_cons, ih, List.count_cons_self]
  ·rename_i h
   rw [List.count_cons_of_ne (fun e => h (by simpa using e))]
   cases h2 : splitS t with
   | nil => exact absurd h2 (splitS_ne t)
   | cons a r => rw [h2] at ih; exact ih
theorem splitS_mem : ∀ (s : Str), ∀ x ∈ splitS s, 32 ∉ x ∧ x.length ≤ s.length
 | [], x, h => by simp [splitS] at h; subst h; simp
 | c :: t, x, h => by
  rw [splitS] at h
  split at h
  ·rcases List.mem_cons.1 h with rfl | h
   ·simp
   ·have := splitS_mem t x h
    exact ⟨this.1, by rw [List.length_cons]; omega⟩
  ·rename_i hc
   cases h2 : splitS t with
   | nil => exact absurd h2 (splitS_ne t)
   | cons a r =>
    rw [h2] at h
    rcases List.mem_cons.1 h with rfl | h
    ·have := splitS_mem t a (by rw [h2]; exact .head _)
     refine ⟨?_, by simp only [List.length_cons]; omega⟩
     simp only [List.mem_cons, not_or]
     exact ⟨fun e => hc e.symm, this.1⟩
    ·have := splitS_mem t x (by rw [h2]; exact .tail _ h)
     exact ⟨this.1, by rw [List.length_cons]; omega⟩

inductive Q where
 | node (kind : Int) (text : Str) (num : Int) (parts : List Q)
namespace Q
def kind : Q → Int | .node k _ _ _ => k
def text : Q → Str | .node _ t _ _ => t
def num : Q → Int | .node _ _ n _ => n
def parts : Q → List Q | .node _ _ _ l => l
@[simp] theorem kind_node (k : Int) (t : Str) (n : Int) (l : List Q) : (Q.node k t n l).kind = k := rfl
@[simp] theorem text_node (k : Int) (t : Str) (n : Int) (l : List Q) : (Q.node k t n l).text = t := rfl
@[simp] theorem num_node (k : Int) (t : Str) (n : Int) (l : List Q) : (Q.node k t n l).num = n := rfl
@[simp] theorem parts_node (k : Int) (t : Str) (n : Int) (l : List Q) : (Q.node k t n l).parts = l := rfl
/-- the greatest of some numbers -/
def top : List Nat → Nat
 | [] => 0
 | a :: l => max a (top l)
theorem top_le {l : List Nat} {n : Nat} : top l ≤ n ↔ ∀ a ∈ l, a ≤ n := by
 induction l with
 | nil => simp [top]
 | cons a l ih =>
  rw [top]
  constructor
  ·intro h b hb
   rcases List.mem_cons.1 hb with rfl | hb
   ·omega
   ·exact ih.1 (by omega) b hb
  ·intro h
   have h1 := h a (.head _)
   have h2 := ih.2 fun b hb => h b (.tail _ hb)
   omega
/-- the levels, f at most -/
def lev : Nat → Q → Nat
 | 0, _ => 0
 | f + 1, q => top (q.parts.map (lev f)) + 1
/-- the nodes in order, of f levels -/
def pre : Nat → Q → List Q
 | 0, _ => []
 | f + 1, q => q :: q.parts.flatMap (pre f)
/-- f levels are enough -/
def Fits : Nat → Q → Prop
 | 0, _ => False
 | f + 1, q => ∀ p ∈ q.parts, Fits f p
theorem lev_fits : ∀ (f : Nat) (q : Q), lev (f + 1) q ≤ f ↔ Fits f q
 | 0, q => by simp [lev, Fits]
 | f + 1, q => by
  rw [lev, Fits, Nat.add_le_add_iff_right, top_le]
  simp only [List.mem_map, forall_exists_index, and_imp, forall_apply_eq_imp_iff₂]
  exact ⟨fun h p hp => (lev_fits f p).1 (h p hp), fun h p hp => (lev_fits f p).2 (h p hp)⟩
theorem Fits.succ : ∀ {f : Nat} {q : Q}, Fits f q → Fits (f + 1) q
 | 0, q, h => h.elim
 | f + 1, q, h => fun p hp => Fits.succ (h p hp)
theorem flatMap_same {α β : Type} {l : List α} {f g : α → List β} (h : ∀ a ∈ l, f a = g a) : l.flatMap f = l.flatMap g := by
 induction l with
 | nil => rfl
 | cons a l ih => rw [List.flatMap_cons, List.flatMap_cons, h a (.head _), ih fun b hb => h b (.tail _ hb)]
theorem pre_fits : ∀ {f : Nat} {q : Q}, Fits f q → pre (f + 1) q = pre f q
 | 0, q, h => h.elim
 | f + 1, q, h => by
  rw [pre, pre, flatMap_same fun p hp => pre_fits (h p hp)]
/-- the parts of a node are fewer than the nodes -/
theorem pre_parts : ∀ {f : Nat} {q : Q}, Fits f q → ∀ p ∈ pre f q, p.parts.length < (pre f q).length
 | 0, q, h, p, hp => by cases hp
 | f + 1, q, h, p, hp => by
  have hle : ∀ l : List Q, (∀ r ∈ l, Fits f r) → l.length ≤ (l.flatMap (pre f)).length := by
   intro l
   induction l with
   | nil => intro _; exact Nat.le_refl _
   | cons r l ih =>
    intro hl
    have h1 := ih fun x hx => hl x (.tail _ hx)
    have h2 : 1 ≤ (pre f r).length := by
     match f, hl r (.head _) with
     | f + 1, _ => rw [pre, List.length_cons]; omega
    rw [List.flatMap_cons, List.length_append, List.length_cons]
    omega
  rw [pre] at hp ⊢
  rcases List.mem_cons.1 hp with rfl | hp
  ·have := hle _ h
   rw [List.length_cons]; omega
  ·obtain ⟨r, hr, hp⟩ := List.mem_flatMap.1 hp
   have h1 := pre_parts (h r hr) p hp
   have h2 : (pre f r).length ≤ (q.parts.flatMap (pre f)).length := by
    obtain ⟨s, t, e⟩ := List.append_of_mem hr
    rw [e, List.flatMap_append, List.flatMap_cons, List.length_append, List.length_append]
    omega
   rw [List.length_cons]; omega
/-- a word in lower case -/
def wordOk (s : Str) : Bool := decide (s.length ≤ 8000) && (Sm.words s == [s])
/-- what a kind permits: the least number of parts, the greatest one, the words -/
def least (k : Int) : Int := if k = 6 ∨ k = 7 then 2 else if k = 8 then 1 else 0
def most (k : Int) : Int := if k = 6 ∨ k = 7 then 60 else if k = 8 then 1 else 0
def wants (k : Int) : Int := if k = 2 ∨ k = 3 then 1 else if k = 4 then -1 else if k = 5 then 2 else 0
/-- the code of the error of a node -/
def errOf (q : Q) : Int :=
 if (decide (q.kind < 1) || decide (8 < q.kind)) = true then 4
 else if (q.parts.length : Int) < least q.kind ∨ most q.kind < (q.parts.length : Int) ∨ (q.kind ≠ 5 ∧ q.num ≠ 0) ∨ (wants q.kind = 0 ∧ q.text ≠ []) then 5
 else if q.kind = 5 ∧ (q.num < 1 ∨ 50 < q.num) then 3
 else if wants q.kind ≠ 0 ∧ ((splitS q.text).all wordOk = false ∨ (0 < wants q.kind ∧ ((splitS q.text).length : Int) ≠ wants q.kind)) then 10
 else 0
/-- the first error of some nodes -/
def errGo : List Q → Int → Int × Int
 | [], _ => (0, 0)
 | q :: l, i => if errOf q = 0 then errGo l (i + 1) else (errOf q, i)
/-- the fault of a query -/
def fault (q : Q) : Int × Int :=
 if 8 < lev 9 q then (2, -3) else if 60 < (pre 9 q).length then (2, -2) else errGo (pre 9 q) 0
theorem errGo_append (a b : List Q) (i : Int) : errGo (a ++ b) i = if (errGo a i).1 = 0 then errGo b (i + a.length) else errGo a i := by
 induction a generalizing i with
 | nil => simp [errGo]
 | cons q a ih =>
  rw [List.cons_append, errGo, errGo]
  by_cases h : errOf q = 0
  ·rw [if_pos h, if_pos h, ih, List.length_cons]
   have : i + 1 + (a.length : Int) = i + ((a.length + 1 : Nat) : Int) := by omega
   rw [this]
  ·rw [if_neg h, if_neg h, if_neg h]
theorem errGo_zero {l : List Q} {i : Int} : (errGo l i).1 = 0 ↔ ∀ q ∈ l, errOf q = 0 := by
 induction l generalizing i with
 | nil => simp [errGo]
 | cons q l ih =>
  rw [errGo]
  by_cases h : errOf q = 0
  ·rw [if_pos h, ih]; simp [h]
  ·rw [if_neg h]; simp [h]
theorem errGo_zero2 {l : List Q} {i : Int} (h : (errGo l i).1 = 0) : errGo l i = (0, 0) := by
 induction l generalizing i with
 | nil => rfl
 | cons q l ih =>
  rw [errGo] at h ⊢
  by_cases e : errOf q = 0
  ·rw [if_pos e] at h ⊢; exact ih h
  ·rw [if_neg e] at h; exact absurd h e
/-- what a valid query is like -/
theorem fault_zero {q : Q} : (fault q).1 = 0 ↔ Fits 8 q ∧ (pre 8 q).length ≤ 60 ∧ ∀ p ∈ pre 8 q, errOf p = 0 := by
 unfold fault
 have h89 : lev 9 q ≤ 8 ↔ Fits 8 q := lev_fits 8 q
 by_cases h : 8 < lev 9 q
 ·rw [if_pos h]
  constructor
  ·intro e; exact absurd e (by decide)
  ·rintro ⟨e, _⟩; have := h89.2 e; omega
 ·have hf := (show lev 9 q ≤ 8 ↔ Fits 8 q from lev_fits 8 q).1 (by omega)
  rw [if_neg h, pre_fits hf]
  by_cases h2 : 60 < (pre 8 q).length
  ·rw [if_pos h2]
   constructor
   ·intro e; exact absurd e (by decide)
   ·rintro ⟨_, e, _⟩; omega
  ·rw [if_neg h2, errGo_zero]
   exact ⟨fun e => ⟨hf, by omega, e⟩, fun e => e.2.2⟩
end Q
end Go.Proofs.YtnlhocbaighedaaGreatDoor
