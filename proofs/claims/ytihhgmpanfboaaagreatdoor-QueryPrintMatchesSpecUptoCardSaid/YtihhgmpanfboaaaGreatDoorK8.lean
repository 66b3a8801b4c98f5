/-
  Contracts and plain facts, one after another: The tables of the library's, and stem.Letter, inWord; stem.Lower; The reference's Lower and Words.
-/
import Derived.Test.YtihhgmpanfboaaaGreatDoorK1
import Derived.Test.YtihhgmpanfboaaaGreatDoorShelf
import Derived.Test.YtihhgmpanfboaaaGreatDoorK6
import Derived.Test.YtihhgmpanfboaaaGreatDoorK3
import Derived.Outline
import Derived.Shelf.Strings.CaseAny
import Derived.Lib.OthersKept
import Derived.IntWalk
namespace Go.Proofs.YtihhgmpanfboaaaGreatDoor
open Go.RowKit
set_option linter.unusedVariables false
/-- the tables lie as the library's text lays them -/
structure TabsU (w : World) : Prop where
  u8 : Lib.Utf8Tabs 1 2 w
  case : Lib.CaseVar 8 Lib.caseA w
  props : Lib.TabIs Tryz.prog w "unicode.properties" .u8 Lib.propertiesTab
  letter : Lib.RVar 4 Lib.letterT w
  digit : Lib.RVar 5 Lib.digitT w
  mark : Lib.RVar 6 Lib.markT w
theorem caseVar_ext {g : Nat} {T : Array Lib.CaseRow} {w w' : World} (h : Lib.CaseVar g T w) (hb : Below w.heap.size w w') : Lib.CaseVar g T w' := by
  have k : ∀ {a : Addr} {v : Value}, w.cell? a = some v → w'.cell? a = some v := fun {a v} hc => (hb.cell (World.block_lt_of_cell? w a hc)).trans hc
  obtain ⟨R, oR, cap, h1, h2⟩ := h
  exact ⟨R, oR, cap, k h1, fun i hi => ⟨k (h2 i hi).1, k (h2 i hi).2.1, k (h2 i hi).2.2.1, k (h2 i hi).2.2.2.1, k (h2 i hi).2.2.2.2⟩⟩
theorem TabsU.ext {w w' : World} (h : TabsU w) (hb : Below w.heap.size w w') : TabsU w' where
  u8 := Utf8Tabs_below h.u8 hb
  case := caseVar_ext h.case hb
  props := TabIs_below (g := 3) (by kernel_rfl) h.props hb
  letter := RVar_below h.letter hb
  digit := RVar_below h.digit hb
  mark := RVar_below h.mark hb
theorem chLetter_ok (r : Nat) (hr : r ≤ 1114111) (w : World) (hT : TabsU w) : Calls Tryz.prog 74 #[.int .i32 (r : Int)] w fun e w' => e = .returned (.bool (Sm.isL r)) ∧ Below w.heap.size w w' := by
  have h1 := Tryz.unicode_IsLetter_all (r : Int) w (by omega) (by omega) hT.props hT.letter
  have h2 := fun W hb => Tryz.unicode_IsDigit_all (r : Int) W (by omega) (by omega) (hT.ext hb).digit
  have h3 := fun W hb => Tryz.unicode_IsMark_all (r : Int) W (by omega) (by omega) (hT.ext hb).mark
  have hl : Sm.isL r = (Lib.isLetterU (r : Int) || Lib.isDigitU (r : Int) || Lib.isMarkU (r : Int)) := rfl
  clear hT
  generalize Lib.isLetterU (r : Int) = b1 at h1 hl
  generalize Lib.isDigitU (r : Int) = b2 at h2 hl
  generalize Lib.isMarkU (r : Int) = b3 at h3 hl
  have Hl := Lib.hid hl; have H1 := Lib.hid h1; have H2 := Lib.hid h2; have H3 := Lib.hid h3
  clear hl h1 h2 h3
  go_enter Tryz.func74, Tryz.ntmps74
  go_wp2_with fail
  refine H1.out.mono ?_
  rintro e w1 ⟨rfl, hb1⟩
  cases b1 with
  | true =>
    go_wp2
    go_ret
    exact ⟨ret_bool (by rw [Hl.out]; rfl), hb1⟩
  | false =>
    go_wp2_with fail
    refine (H2.out _ hb1).mono ?_
    rintro e w2 ⟨rfl, hb2⟩
    have hb12 := below2 hb1 hb2
    cases b2 with
    | true =>
      go_wp2
      go_ret
      exact ⟨ret_bool (by rw [Hl.out]; rfl), hb12⟩
    | false =>
      go_wp2_with fail
      refine (H3.out _ hb12).mono ?_
      rintro e w3 ⟨rfl, hb3⟩
      go_wp2
      go_ret
      exact ⟨ret_bool (by rw [Hl.out]; simp), below2 hb12 hb3⟩
theorem isL_bad : Sm.isL 65533 = false := by kernel_rfl
theorem inWord_ok (r : Nat) (hr : r ≤ 1114111) (w : World) (hT : TabsU w) : Calls Tryz.prog 52 #[.int .i32 (r : Int)] w fun e w' => e = .returned (.bool (Sm.isL r)) ∧ Below w.heap.size w w' := by
  by_cases hbad : r = 65533
  · subst hbad
    rw [isL_bad]
    go_enter Tryz.func52, Tryz.ntmps52
    go_wp2
    go_ret
    exact ⟨rfl, Below.refl _ _⟩
  have hne : ((r : Int) != 65533) = true := by rw [bne_iff_ne]; omega
  have h1 := Tryz.unicode_IsLetter_all (r : Int) w (by omega) (by omega) hT.props hT.letter
  have h2 := fun W hb => Tryz.unicode_IsDigit_all (r : Int) W (by omega) (by omega) (hT.ext hb).digit
  have h3 := fun W hb => Tryz.unicode_IsMark_all (r : Int) W (by omega) (by omega) (hT.ext hb).mark
  have hl : Sm.isL r = (Lib.isLetterU (r : Int) || Lib.isDigitU (r : Int) || Lib.isMarkU (r : Int)) := rfl
  clear hT
  generalize Lib.isLetterU (r : Int) = b1 at h1 hl
  generalize Lib.isDigitU (r : Int) = b2 at h2 hl
  generalize Lib.isMarkU (r : Int) = b3 at h3 hl
  have Hl := Lib.hid hl; have H1 := Lib.hid h1; have H2 := Lib.hid h2; have H3 := Lib.hid h3
  clear hl h1 h2 h3
  go_enter Tryz.func52, Tryz.ntmps52
  go_wp2_with fail
  refine H1.out.mono ?_
  rintro e w1 ⟨rfl, hb1⟩
  cases b1 with
  | true =>
    go_wp2
    go_ret
    exact ⟨ret_bool (by rw [Hl.out]; rfl), hb1⟩
  | false =>
    go_wp2_with fail
    refine (H2.out _ hb1).mono ?_
    rintro e w2 ⟨rfl, hb2⟩
    have hb12 := below2 hb1 hb2
    cases b2 with
    | true =>
      go_wp2
      go_ret
      exact ⟨ret_bool (by rw [Hl.out]; rfl), hb12⟩
    | false =>
      go_wp2_with fail
      refine (H3.out _ hb12).mono ?_
      rintro e w3 ⟨rfl, hb3⟩
      go_wp2
      go_ret
      exact ⟨ret_bool (by rw [Hl.out]; simp), below2 hb12 hb3⟩
end Go.Proofs.YtihhgmpanfboaaaGreatDoor
namespace Go.Proofs.YtihhgmpanfboaaaGreatDoor
open Go.RowKit
set_option linter.unusedVariables false
theorem own_cells {w : World} {B : Nat} {e : TypeId} {v : Value} {l : List UInt8} (h : w.ownsRow B e 1 v l.length (Lib.byteCells l)) : Own byteC M0 w B e v l :=
  ⟨_, h, lit_bytes _ _ l⟩
theorem cells_own {w : World} {B : Nat} {e : TypeId} {v : Value} {l : List UInt8} (h : Own byteC M0 w B e v l) : w.ownsRow B e 1 v l.length (Lib.byteCells l) := by
  obtain ⟨xs, ho, he⟩ := h
  have hx : xs = Lib.byteCells l := by
    have h1 : xs.length = l.length := by rw [he.1]; simp [byteC]
    apply List.ext_getElem
    · rw [h1]; simp [Lib.byteCells]
    · intro i h2 h3
      have hi : i < l.length := by omega
      have hr := he.2 i hi
      have hr' : (xs.drop (i * 1)).take 1 = [Value.int .u8 (l[i].toNat : Int)] := hr
      rw [Nat.mul_one] at hr'
      have h4 := congrArg (fun z => z[0]?) hr'
      simp only [List.getElem?_take, List.getElem?_drop, Nat.add_zero, List.getElem?_eq_getElem h2] at h4
      simp at h4
      rw [h4]
      simp [Lib.byteCells]
  exact hx ▸ ho
theorem appendRune_ok (B : Nat) (v : Value) (L : Str) (r : Int) (h0 : -2147483648 ≤ r) (h1 : r ≤ 2147483647) (w : World) (hown : Own byteC M0 w B 5 v L) (hlen : L.length + 4 ≤ 140737488355328) (hB : B ≤ w.heap.size) :
    Calls Tryz.prog 100 #[v, .int .i32 r] w fun e w' => ∃ (A : Option Addr) (c : Nat) (L' : Str), e = .returned (.slice A L'.length c) ∧ Hid (L' = L ++ Lib.encodeRune r) ∧ Own byteC M0 w' B 5 (.slice A L'.length c) L' ∧
      Hid (∀ b, b < w.heap.size → some b ≠ v.ownBlock → w'.heap[b]? = w.heap[b]?) ∧ Below B w w' := by
  refine (Tryz.utf8_AppendRune_plain B v L.length (Lib.byteCells L) r h0 h1 w (cells_own hown) hlen hB).mono ?_
  rintro e w' ⟨v', rfl, ho, o, hg⟩
  have hl : L.length + (Lib.runeCells r).length = (L ++ Lib.encodeRune r).length := by rw [List.length_append, Lib.runeCells_length]
  rw [← Lib.byteCells_encodeRune, ← Lib.byteCells_append] at ho
  rw [Lib.byteCells_encodeRune, hl] at ho
  have hO := own_cells ho
  obtain ⟨A, c, rfl, _⟩ := hO.shape
  refine ⟨A, c, _, rfl, Lib.hid rfl, hO, Lib.hid fun b hb hne => ?_, ?_⟩
  · exact (hg.block b (by simp; omega) hne).trans (Below.heap_alloc w o b hb)
  · exact ((Below.refl B w).alloc hB o).grown hg (by simp; omega) fun k hk => hown.base k hk
theorem drop_ne {s : Str} {p : Nat} (h : p < s.length) : s.drop p ≠ [] := by
  intro h0
  have := congrArg List.length h0
  rw [List.length_drop] at this
  simp at this
  omega
set_option maxHeartbeats 2000000 in
theorem stemLower_ok (s : Str) (hs : s.length ≤ 4000000) (w : World) (hT : TabsU w) : Calls Tryz.prog 75 #[.string (bs s)] w fun e w' => e = .returned (.string (bs (Sm.lower s))) ∧ Below w.heap.size w w' := by
  have hlen := Sm.lower_len s.length s (Nat.le_refl _)
  have HT := Lib.hid hT
  clear hT
  go_enter Tryz.func75, Tryz.ntmps75
  go_wp2
  go_loopw [3] (fun v wr => ∃ (pos : Nat) (A : Option Addr) (c : Nat) (L : Str), v = .slice A L.length c ∧ pos ≤ s.length ∧ wr.heap[w.heap.size]? = some (.stringIter (bs s) pos) ∧ Own byteC M0 wr (w.heap.size + 1) 5 (.slice A L.length c) L ∧ Hid (L ++ Sm.lower (s.drop pos) = Sm.lower s) ∧ Below w.heap.size w wr) (fun _ wr => s.length - wr.iterPos w.heap.size)
  case atStart =>
    refine ⟨0, none, 0, [], rfl, Nat.zero_le _, ?_, Own.nil _ _ _ _ _, Lib.hid (by simp), ?_⟩
    · exact heap_alloc_new w _
    · exact (Below.refl _ _).alloc (Nat.le_refl _) _
  case round =>
    obtain ⟨pos, A, c, L, rfl, hpos, hit, hown, hL, hb⟩ := hrel
    have hpp0 := Lib.hid (iterPos_of hit)
    by_cases hp : pos < s.length
    · have hne := drop_ne hp
      have hst := Sm.lower_step hne
      have hdl := Lib.decodeL_drop (bs s) pos
      rw [bs_toList] at hdl
      have hw1 := Lib.decodeL_width (s.drop pos)
      have hw2 := Sm.width_le hne
      have hr := Lib.decodeL_rune (s.drop pos)
      rw [List.length_drop] at hw2
      have hnx := fun ty => Lib.run_next_any_at (P := Tryz.prog) wr w.heap.size (bs s) pos ty hit (by rw [bs_size]; exact hp)
      rw [← hdl] at hnx
      rw [List.drop_drop] at hst
      obtain ⟨r, hrr⟩ : ∃ r, (Lib.decodeL (s.drop pos)).1 = r := ⟨_, rfl⟩
      obtain ⟨n, hnn⟩ : ∃ n, (Lib.decodeL (s.drop pos)).2 = n := ⟨_, rfl⟩
      rw [hrr] at hst hr hnx
      rw [hnn] at hst hw1 hw2 hnx
      have hrg := Lib.toLowerU_range r hr
      have hlc : (L ++ Lib.encodeRune (Lib.toLowerU (r : Int))) ++ Sm.lower (s.drop (pos + n)) = Sm.lower s := by rw [← hL.out, hst, List.append_assoc]; rfl
      have hll : L.length + (Lib.encodeRune (Lib.toLowerU (r : Int))).length ≤ 16000000 := by
        have := congrArg List.length hlc
        rw [List.length_append, List.length_append] at this
        omega
      have hla : L.length + 4 ≤ 140737488355328 := by omega
      have Hlc := Lib.hid hlc
      clear hlc hst hdl hrr hnn hne
      have hit2 := Lib.iterAt_heap wr w.heap.size (bs s) pos (pos + n) hit
      have hb2 := Lib.below_iterAt hb (Nat.le_refl _) (bs s) (pos + n)
      have hsz := hb.size
      have hlt := (Array.getElem?_eq_some_iff.1 hit).1
      have hsz2 := Lib.iterAt_size wr w.heap.size (bs s) (pos + n)
      have hown2 : Own byteC M0 (wr.iterAt w.heap.size (bs s) (pos + n)) (w.heap.size + 1) 5 (.slice A L.length c) L := own_cells ((cells_own hown).kept (row := some w.heap.size)
        ⟨rfl, rfl, rfl, by rw [hsz2]; exact Nat.le_refl _, fun k hk hne => Lib.iterAt_other _ _ _ _ _ (fun e => hne (by rw [e]))⟩ (.inr fun e => by have := hown.base _ e; omega))
      obtain ⟨W, hW⟩ : ∃ W, wr.iterAt w.heap.size (bs s) (pos + n) = W := ⟨_, rfl⟩
      rw [hW] at hnx hit2 hb2 hown2 hsz2
      have HW := Lib.hid hW
      clear hW hown hb hit
      have hT := HT.out.ext hb2
      have hlow := Tryz.unicode_ToLower_laid (r : Int) W hT.case
      have Hlow := Lib.hid hlow
      clear hlow hT
      go_wp2_with fail
      refine Hlow.out.mono ?_
      rintro e w1 ⟨rfl, q, hw1q⟩
      have hbq : Below W.heap.size W w1 := hw1q ▸ below_drewN' _ _ _
      have hown3 := hown2.ext hbq
      have hit3 := (hbq.block _ (by omega)).trans hit2
      have hb3 := hb2.trans (hbq.mono (by omega))
      have hsz3 := hbq.size
      clear hw1q hown2 hit2 hb2 hbq
      have happ := appendRune_ok (w.heap.size + 1) _ L (Lib.toLowerU (r : Int)) (by omega) (by omega) w1 hown3 hla (by omega)
      generalize Lib.toLowerU (r : Int) = z at happ Hlc hll ⊢
      have Happ := Lib.hid happ
      have hnb : some w.heap.size ≠ (Value.slice A L.length c).ownBlock := fun e => by have := hown3.base _ e.symm; omega
      clear happ hown3
      go_wp2_with fail
      refine Happ.out.mono ?_
      rintro e w2 ⟨A2, c2, L2, rfl, hL2, hown4, hold, hb4⟩
      have hit4 := (hold.out _ (by omega) hnb).trans hit3
      have hb5 := hb3.trans (hb4.mono (by omega))
      have hpp := iterPos_of hit4
      clear Happ hold hb4 hit3
      go_wp2
      go_roundw
      case rel => exact ⟨pos + n, A2, c2, L2, rfl, by omega, hit4, hown4, Lib.hid (by rw [hL2.out, Hlc.out]), hb5⟩
      case measure => rw [hpp, hpp0.out]; omega
    · have hnx := fun ty => Lib.run_next_end_at (P := Tryz.prog) wr w.heap.size (bs s) pos ty hit (by rw [bs_size]; exact hp)
      have hres : L = Sm.lower s := by rw [← hL.out, List.drop_eq_nil_of_le (by omega), Sm.lower_nil, List.append_nil]
      have hcv := run_convert_SlR (P := Tryz.prog) (dst := 9) Tryz.underlying74 Tryz.underlying5 Tryz.underlying9 hown.read0
      have Hres := Lib.hid hres
      clear hres
      go_wp2
      go_ret
      exact ⟨ret_str (by rw [Hres.out]), hb⟩
end Go.Proofs.YtihhgmpanfboaaaGreatDoor
namespace Go.Proofs.YtihhgmpanfboaaaGreatDoor
open Go.RowKit
set_option linter.unusedVariables false
theorem encode_bs (z : Int) : Utf8.encode z = bs (Lib.encodeRune z) := by
  have hb : ∀ (a : Int) (b : Nat), a = (b : Int) → a.toNat.toUInt8 = UInt8.ofNat b := fun a b h => by subst h; simp
  unfold bs Lib.encodeRune
  by_cases h1 : 0 ≤ z ∧ z ≤ 127
  · rw [Lib.encodeRuneZ_one h1.1 h1.2]
    obtain ⟨c, rfl⟩ : ∃ c : Nat, z = (c : Int) := ⟨z.toNat, by omega⟩
    have hv : Utf8.valid (c : Int) = true := by simp [Utf8.valid]; omega
    simp [Utf8.encode, hv, show c < 128 by omega]
  · by_cases h2 : 128 ≤ z ∧ z ≤ 2047
    · rw [Lib.encodeRuneZ_two h2.1 h2.2]
      obtain ⟨c, rfl⟩ : ∃ c : Nat, z = (c : Int) := ⟨z.toNat, by omega⟩
      have hv : Utf8.valid (c : Int) = true := by simp [Utf8.valid]; omega
      simp only [Utf8.encode, hv, if_true, Int.toNat_natCast]
      rw [if_neg (by omega), if_pos (by omega)]
      simp only [List.map_cons, List.map_nil, hb (192 + (c : Int) / 64) (192 + c / 64) (by omega), hb (128 + (c : Int) % 64) (128 + c % 64) (by omega)]
    · by_cases h3 : (2048 ≤ z ∧ z < 55296) ∨ (57343 < z ∧ z ≤ 65535)
      · rw [Lib.encodeRuneZ_three h3]
        obtain ⟨c, rfl⟩ : ∃ c : Nat, z = (c : Int) := ⟨z.toNat, by omega⟩
        have hv : Utf8.valid (c : Int) = true := by simp [Utf8.valid]; omega
        simp only [Utf8.encode, hv, if_true, Int.toNat_natCast]
        rw [if_neg (by omega), if_neg (by omega), if_pos (by omega)]
        simp only [List.map_cons, List.map_nil, hb (224 + (c : Int) / 4096) (224 + c / 4096) (by omega), hb (128 + (c : Int) / 64 % 64) (128 + c / 64 % 64) (by omega), hb (128 + (c : Int) % 64) (128 + c % 64) (by omega)]
      · by_cases h4 : 65536 ≤ z ∧ z ≤ 1114111
        · rw [Lib.encodeRuneZ_four h4.1 h4.2]
          obtain ⟨c, rfl⟩ : ∃ c : Nat, z = (c : Int) := ⟨z.toNat, by omega⟩
          have hv : Utf8.valid (c : Int) = true := by simp [Utf8.valid]; omega
          simp only [Utf8.encode, hv, if_true, Int.toNat_natCast]
          rw [if_neg (by omega), if_neg (by omega), if_neg (by omega)]
          simp only [List.map_cons, List.map_nil, hb (240 + (c : Int) / 262144) (240 + c / 262144) (by omega), hb (128 + (c : Int) / 4096 % 64) (128 + c / 4096 % 64) (by omega), hb (128 + (c : Int) / 64 % 64) (128 + c / 64 % 64) (by omega), hb (128 + (c : Int) % 64) (128 + c % 64) (by omega)]
        · rw [Lib.encodeRuneZ_bad (by omega)]
          have hv : Utf8.valid z = false := by simp [Utf8.valid]; omega
          simp [Utf8.encode, hv, Utf8.runeError]
set_option maxHeartbeats 2000000 in
theorem refLower_ok (s : Str) (hs : s.length ≤ 4000000) (w : World) (hT : TabsU w) : Calls Tryz.prog 53 #[.string (bs s)] w fun e w' => e = .returned (.string (bs (Sm.lower s))) ∧ Below w.heap.size w w' := by
  have hlen := Sm.lower_len s.length s (Nat.le_refl _)
  have HT := Lib.hid hT
  clear hT
  obtain ⟨res, hres⟩ : ∃ r, Sm.lower s = r := ⟨_, rfl⟩
  rw [hres] at hlen ⊢
  have Hres := Lib.hid hres
  clear hres
  go_enter Tryz.func53, Tryz.ntmps53
  go_wp2
  go_loopw [0, 3] (fun t o wr => ∃ (l L : Str), t = .string (bs l) ∧ o = .string (bs L) ∧ l.length ≤ s.length ∧ Hid (L ++ Sm.lower l = res) ∧ Below w.heap.size w wr) (fun t _ _ => (strOf t).length)
  case atStart => exact ⟨s, [], rfl, rfl, Nat.le_refl _, Lib.hid (by rw [List.nil_append, Hres.out]), Below.refl _ _⟩
  case round =>
    obtain ⟨l, L, rfl, rfl, hl, hL, hb⟩ := hrel
    by_cases hne : l = []
    · subst hne
      have hr : res = L := by rw [← hL.out, Sm.lower_nil, List.append_nil]
      have Hr := Lib.hid hr
      clear hr
      go_wp2
      go_ret
      exact ⟨ret_str (by rw [Hr.out]), hb⟩
    · have hpos := List.length_pos_iff.2 hne
      have hst := Sm.lower_step hne
      have hw1 := Lib.decodeL_width l
      have hw2 := Sm.width_le hne
      have hr := Lib.decodeL_rune l
      have hdec := Tryz.utf8_DecodeRuneInString (bs l) wr (HT.out.ext hb).u8
      have hdg : Lib.decodeGo (bs l) = Lib.decodeL l := by
        unfold Lib.decodeGo
        rw [if_neg (by rw [bs_size]; omega)]
        rfl
      rw [hdg] at hdec
      obtain ⟨r, hrr⟩ : ∃ r, (Lib.decodeL l).1 = r := ⟨_, rfl⟩
      obtain ⟨n, hnn⟩ : ∃ n, (Lib.decodeL l).2 = n := ⟨_, rfl⟩
      rw [hrr] at hst hr hdec
      rw [hnn] at hst hw1 hw2 hdec
      have hlc : (L ++ Lib.encodeRune (Lib.toLowerU (r : Int))) ++ Sm.lower (l.drop n) = res := by rw [← hL.out, hst, List.append_assoc]; rfl
      have hll : L.length + (Lib.encodeRune (Lib.toLowerU (r : Int))).length ≤ 16000000 := by
        have := congrArg List.length hlc
        rw [List.length_append, List.length_append] at this
        omega
      have Hlc := Lib.hid hlc; have Hdec := Lib.hid hdec
      clear hlc hst hdg hrr hnn hdec
      have hd0 : decide ((0 : Int) < (l.length : Int)) = true := by simp; omega
      have hd1 : 0 < l.length := hpos
      have hlow := fun W hbb => Tryz.unicode_ToLower_laid (r : Int) W ((HT.out.ext hb).ext hbb).case
      obtain ⟨z, hz⟩ : ∃ z, Lib.toLowerU (r : Int) = z := ⟨_, rfl⟩
      rw [hz] at hlow Hlc hll
      have Hlow := Lib.hid hlow
      clear hlow hz
      have hcat : (L.length + (Lib.encodeRune z).length ≤ 9223372036854775807) = True := by simp; omega
      have henc := encode_bs z
      have hn0 : (0 : Int) ≤ (n : Int) := by omega
      have hn1 : (n : Int) ≤ (l.length : Int) := by omega
      go_wp2_with fail
      refine Hdec.out.mono ?_
      rintro e w1 ⟨rfl, hb1⟩
      go_wp2_with fail
      refine (Hlow.out w1 hb1).mono ?_
      rintro e w2 ⟨rfl, q, hq⟩
      have hb2 := (below2 hb hb1).trans (hq ▸ below_drewN' _ _ _)
      clear hq
      go_wp2
      go_roundw
      case rel => exact ⟨l.drop n, L ++ Lib.encodeRune z, by rw [List.take_of_length_le (by rw [List.length_drop]; exact Nat.le_refl _)], rfl, by rw [List.length_drop]; omega, Hlc, hb2⟩
      case measure => simp [strOf, bs]; omega
end Go.Proofs.YtihhgmpanfboaaaGreatDoor
