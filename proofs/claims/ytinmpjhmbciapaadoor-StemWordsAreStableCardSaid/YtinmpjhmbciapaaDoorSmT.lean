/-
  The tables of the library's, and stem.Letter, inWord.
-/
import Derived.Test.YtinmpjhmbciapaaDoorSmW
import Derived.Test.YtinmpjhmbciapaaDoorShelf
import Derived.Test.YtinmpjhmbciapaaDoorFault
import Derived.Outline
namespace Go.Proofs.YtinmpjhmbciapaaDoor
open Go.RowKit
set_option linter.unusedVariables false
/-- the tables lie as the library's text lays them -/
structure TabsU (w : World) : Prop where
  u8 : Lib.Utf8Tabs 1 2 w
  case : Lib.CaseVar 0 Lib.caseA w
  props : Lib.TabIs Tryd.prog w "unicode.properties" .u8 Lib.propertiesTab
  letter : Lib.RVar 4 Lib.letterT w
  digit : Lib.RVar 5 Lib.digitT w
  mark : Lib.RVar 6 Lib.markT w
theorem caseVar_ext {g : Nat} {T : Array Lib.CaseRow} {w w' : World} (h : Lib.CaseVar g T w) (hb : Below w.heap.size w w') : Lib.CaseVar g T w' := by
  have k : ∀ {a : Addr} {v : Value}, w.cell? a = some v → w'.cell? a = some v := fun {a v} hc => (hb.cell (World.block_lt_of_cell? w a hc)).trans hc
  obtain ⟨R, oR, cap, h1, h2⟩ := h
  exact ⟨R, oR, cap, k h1, fun i hi => ⟨k (h2 i hi).1, k (h2 i hi).2.1, k (h2 i hi).2.2.1, k (h2 i hi).2.2.2.1, k (h2 i hi).2.2.2.2⟩⟩
theorem TabsU.ext {w w' : World} (h : TabsU w) (hb : Below w.heap.size w w') : TabsU w' where
  u8 := Utf8Tabs_below h.u8 hb
  case := caseVar_ext h.case hb
  props := TabIs_below (g := 3) (by kernel_rfl) h.props hb
  letter := RVar_below h.letter hb
  digit := RVar_below h.digit hb
  mark := RVar_below h.mark hb
theorem chLetter_ok (r : Nat) (hr : r ≤ 1114111) (w : World) (hT : TabsU w) : Calls Tryd.prog 58 #[.int .i32 (r : Int)] w fun e w' => e = .returned (.bool (Sm.isL r)) ∧ Below w.heap.size w w' := by
  have h1 := Tryd.unicode_IsLetter_all (r : Int) w (by omega) (by omega) hT.props hT.letter
  have h2 := fun W hb => Tryd.unicode_IsDigit_all (r : Int) W (by omega) (by omega) (hT.ext hb).digit
  have h3 := fun W hb => Tryd.unicode_IsMark_all (r : Int) W (by omega) (by omega) (hT.ext hb).mark
  have hl : Sm.isL r = (Lib.isLetterU (r : Int) || Lib.isDigitU (r : Int) || Lib.isMarkU (r : Int)) := rfl
  clear hT
  generalize Lib.isLetterU (r : Int) = b1 at h1 hl
  generalize Lib.isDigitU (r : Int) = b2 at h2 hl
  generalize Lib.isMarkU (r : Int) = b3 at h3 hl
  have Hl := Lib.hid hl; have H1 := Lib.hid h1; have H2 := Lib.hid h2; have H3 := Lib.hid h3
  clear hl h1 h2 h3
  go_enter Tryd.func58, Tryd.ntmps58
  go_wp2_with fail
  refine H1.out.mono ?_
  rintro e w1 ⟨rfl, hb1⟩
  cases b1 with
  | true =>
    go_wp2
    go_ret
    exact ⟨ret_bool (by rw [Hl.out]; rfl), hb1⟩
  | false =>
    go_wp2_with fail
    refine (H2.out _ hb1).mono ?_
    rintro e w2 ⟨rfl, hb2⟩
    have hb12 := below2 hb1 hb2
    cases b2 with
    | true =>
      go_wp2
      go_ret
      exact ⟨ret_bool (by rw [Hl.out]; rfl), hb12⟩
    | false =>
      go_wp2_with fail
      refine (H3.out _ hb12).mono ?_
      rintro e w3 ⟨rfl, hb3⟩
      go_wp2
      go_ret
      exact ⟨ret_bool (by rw [Hl.out]; simp), below2 hb12 hb3⟩
theorem notL_ok (r : Nat) (hr : r ≤ 1114111) (w : World) (hT : TabsU w) : Calls Tryd.prog 57 #[.int .i32 (r : Int)] w fun e w' => e = .returned (.bool (!Sm.isL r)) ∧ Below w.heap.size w w' := by
  have h1 := chLetter_ok r hr w hT
  clear hT
  generalize Sm.isL r = b1 at h1 ⊢
  have H1 := Lib.hid h1
  clear h1
  go_enter Tryd.func57, Tryd.ntmps57
  go_wp2_with fail
  refine H1.out.mono ?_
  rintro e w1 ⟨rfl, hb1⟩
  go_wp2
  go_ret
  exact ⟨rfl, hb1⟩
theorem isL_bad : Sm.isL 65533 = false := by kernel_rfl
theorem inWord_ok (r : Nat) (hr : r ≤ 1114111) (w : World) (hT : TabsU w) : Calls Tryd.prog 40 #[.int .i32 (r : Int)] w fun e w' => e = .returned (.bool (Sm.isL r)) ∧ Below w.heap.size w w' := by
  by_cases hbad : r = 65533
  · subst hbad
    rw [isL_bad]
    go_enter Tryd.func40, Tryd.ntmps40
    go_wp2
    go_ret
    exact ⟨rfl, Below.refl _ _⟩
  have hne : ((r : Int) != 65533) = true := by rw [bne_iff_ne]; omega
  have h1 := Tryd.unicode_IsLetter_all (r : Int) w (by omega) (by omega) hT.props hT.letter
  have h2 := fun W hb => Tryd.unicode_IsDigit_all (r : Int) W (by omega) (by omega) (hT.ext hb).digit
  have h3 := fun W hb => Tryd.unicode_IsMark_all (r : Int) W (by omega) (by omega) (hT.ext hb).mark
  have hl : Sm.isL r = (Lib.isLetterU (r : Int) || Lib.isDigitU (r : Int) || Lib.isMarkU (r : Int)) := rfl
  clear hT
  generalize Lib.isLetterU (r : Int) = b1 at h1 hl
  generalize Lib.isDigitU (r : Int) = b2 at h2 hl
  generalize Lib.isMarkU (r : Int) = b3 at h3 hl
  have Hl := Lib.hid hl; have H1 := Lib.hid h1; have H2 := Lib.hid h2; have H3 := Lib.hid h3
  clear hl h1 h2 h3
  go_enter Tryd.func40, Tryd.ntmps40
  go_wp2_with fail
  refine H1.out.mono ?_
  rintro e w1 ⟨rfl, hb1⟩
  cases b1 with
  | true =>
    go_wp2
    go_ret
    exact ⟨ret_bool (by rw [Hl.out]; rfl), hb1⟩
  | false =>
    go_wp2_with fail
    refine (H2.out _ hb1).mono ?_
    rintro e w2 ⟨rfl, hb2⟩
    have hb12 := below2 hb1 hb2
    cases b2 with
    | true =>
      go_wp2
      go_ret
      exact ⟨ret_bool (by rw [Hl.out]; rfl), hb12⟩
    | false =>
      go_wp2_with fail
      refine (H3.out _ hb12).mono ?_
      rintro e w3 ⟨rfl, hb3⟩
      go_wp2
      go_ret
      exact ⟨ret_bool (by rw [Hl.out]; simp), below2 hb12 hb3⟩
end Go.Proofs.YtinmpjhmbciapaaDoor
