/-
  Contracts and plain facts, one after another: stem.Lower; The reference's Lower and Words; strings.FieldsFuncSeq at stem.words' predicate: the iterator; stem: a rule applied; stem: a step (printed by gen/smstep.py); Names, groups, grants and rights: plain Lean; Names: package basic and its reference, function by function.
-/
import Derived.Test.YtngdfjlodblagaaGreatDoorMIt2
import Derived.Test.YtngdfjlodblagaaGreatDoorMIt3
import Derived.Test.YtngdfjlodblagaaGreatDoorMIt8
import Derived.Test.YtngdfjlodblagaaGreatDoorMIt1
import Derived.Shelf.Strings.CaseAny
import Derived.Lib.OthersKept
import Derived.IntWalk
import Derived.Stop.RegionWithIn
import Derived.OwnWalkIn
import Derived.TacticsInMore
import Derived.LoopNIn
import Derived.LoopIn
import Derived.Outline
import Derived.Shelf.RegionOpen
import Derived.RangeFuncCalls
/-
  stem.Lower.
-/
namespace Go.Proofs.YtngdfjlodblagaaGreatDoor
open Go.RowKit
set_option linter.unusedVariables false
theorem own_cells {w : World} {B : Nat} {e : TypeId} {v : Value} {l : List UInt8} (h : w.ownsRow B e 1 v l.length (Lib.byteCells l)) : Own byteC M0 w B e v l :=
  ⟨_, h, lit_bytes _ _ l⟩
theorem cells_own {w : World} {B : Nat} {e : TypeId} {v : Value} {l : List UInt8} (h : Own byteC M0 w B e v l) : w.ownsRow B e 1 v l.length (Lib.byteCells l) := by
  obtain ⟨xs, ho, he⟩ := h
  have hx : xs = Lib.byteCells l := by
    have h1 : xs.length = l.length := by rw [he.1]; simp [byteC]
    apply List.ext_getElem
    · rw [h1]; simp [Lib.byteCells]
    · intro i h2 h3
      have hi : i < l.length := by omega
      have hr := he.2 i hi
      have hr' : (xs.drop (i * 1)).take 1 = [Value.int .u8 (l[i].toNat : Int)] := hr
      rw [Nat.mul_one] at hr'
      have h4 := congrArg (fun z => z[0]?) hr'
      simp only [List.getElem?_take, List.getElem?_drop, Nat.add_zero, List.getElem?_eq_getElem h2] at h4
      simp at h4
      rw [h4]
      simp [Lib.byteCells]
  exact hx ▸ ho
theorem appendRune_ok (B : Nat) (v : Value) (L : Str) (r : Int) (h0 : -2147483648 ≤ r) (h1 : r ≤ 2147483647) (w : World) (hown : Own byteC M0 w B 5 v L) (hlen : L.length + 4 ≤ 140737488355328) (hB : B ≤ w.heap.size) :
    Calls Tryz.prog 85 #[v, .int .i32 r] w fun e w' => ∃ (A : Option Addr) (c : Nat) (L' : Str), e = .returned (.slice A L'.length c) ∧ Hid (L' = L ++ Lib.encodeRune r) ∧ Own byteC M0 w' B 5 (.slice A L'.length c) L' ∧
      Hid (∀ b, b < w.heap.size → some b ≠ v.ownBlock → w'.heap[b]? = w.heap[b]?) ∧ Below B w w' := by
  refine (Tryz.utf8_AppendRune_plain B v L.length (Lib.byteCells L) r h0 h1 w (cells_own hown) hlen hB).mono ?_
  rintro e w' ⟨v', rfl, ho, o, hg⟩
  have hl : L.length + (Lib.runeCells r).length = (L ++ Lib.encodeRune r).length := by rw [List.length_append, Lib.runeCells_length]
  rw [← Lib.byteCells_encodeRune, ← Lib.byteCells_append] at ho
  rw [Lib.byteCells_encodeRune, hl] at ho
  have hO := own_cells ho
  obtain ⟨A, c, rfl, _⟩ := hO.shape
  refine ⟨A, c, _, rfl, Lib.hid rfl, hO, Lib.hid fun b hb hne => ?_, ?_⟩
  · exact (hg.block b (by simp; omega) hne).trans (Below.heap_alloc w o b hb)
  · exact ((Below.refl B w).alloc hB o).grown hg (by simp; omega) fun k hk => hown.base k hk
theorem drop_ne {s : Str} {p : Nat} (h : p < s.length) : s.drop p ≠ [] := by
  intro h0
  have := congrArg List.length h0
  rw [List.length_drop] at this
  simp at this
  omega
set_option maxHeartbeats 2000000 in
theorem stemLower_ok (s : Str) (hs : s.length ≤ 4000000) (w : World) (hT : TabsU w) : Calls Tryz.prog 48 #[.string (bs s)] w fun e w' => e = .returned (.string (bs (Sm.lower s))) ∧ Below w.heap.size w w' := by
  have hlen := Sm.lower_len s.length s (Nat.le_refl _)
  have HT := Lib.hid hT
  clear hT
  go_enter Tryz.func48, Tryz.ntmps48
  go_wp2
  go_loopw [3] (fun v wr => ∃ (pos : Nat) (A : Option Addr) (c : Nat) (L : Str), v = .slice A L.length c ∧ pos ≤ s.length ∧ wr.heap[w.heap.size]? = some (.stringIter (bs s) pos) ∧ Own byteC M0 wr (w.heap.size + 1) 5 (.slice A L.length c) L ∧ Hid (L ++ Sm.lower (s.drop pos) = Sm.lower s) ∧ Below w.heap.size w wr) (fun _ wr => s.length - wr.iterPos w.heap.size)
  case atStart =>
    refine ⟨0, none, 0, [], rfl, Nat.zero_le _, ?_, Own.nil _ _ _ _ _, Lib.hid (by simp), ?_⟩
    · exact heap_alloc_new w _
    · exact (Below.refl _ _).alloc (Nat.le_refl _) _
  case round =>
    obtain ⟨pos, A, c, L, rfl, hpos, hit, hown, hL, hb⟩ := hrel
    have hpp0 := Lib.hid (iterPos_of hit)
    by_cases hp : pos < s.length
    · have hne := drop_ne hp
      have hst := Sm.lower_step hne
      have hdl := Lib.decodeL_drop (bs s) pos
      rw [bs_toList] at hdl
      have hw1 := Lib.decodeL_width (s.drop pos)
      have hw2 := Sm.width_le hne
      have hr := Lib.decodeL_rune (s.drop pos)
      rw [List.length_drop] at hw2
      have hnx := fun ty => Lib.run_next_any_at (P := Tryz.prog) wr w.heap.size (bs s) pos ty hit (by rw [bs_size]; exact hp)
      rw [← hdl] at hnx
      rw [List.drop_drop] at hst
      obtain ⟨r, hrr⟩ : ∃ r, (Lib.decodeL (s.drop pos)).1 = r := ⟨_, rfl⟩
      obtain ⟨n, hnn⟩ : ∃ n, (Lib.decodeL (s.drop pos)).2 = n := ⟨_, rfl⟩
      rw [hrr] at hst hr hnx
      rw [hnn] at hst hw1 hw2 hnx
      have hrg := Lib.toLowerU_range r hr
      have hlc : (L ++ Lib.encodeRune (Lib.toLowerU (r : Int))) ++ Sm.lower (s.drop (pos + n)) = Sm.lower s := by rw [← hL.out, hst, List.append_assoc]; rfl
      have hll : L.length + (Lib.encodeRune (Lib.toLowerU (r : Int))).length ≤ 16000000 := by
        have := congrArg List.length hlc
        rw [List.length_append, List.length_append] at this
        omega
      have hla : L.length + 4 ≤ 140737488355328 := by omega
      have Hlc := Lib.hid hlc
      clear hlc hst hdl hrr hnn hne
      have hit2 := Lib.iterAt_heap wr w.heap.size (bs s) pos (pos + n) hit
      have hb2 := Lib.below_iterAt hb (Nat.le_refl _) (bs s) (pos + n)
      have hsz := hb.size
      have hlt := (Array.getElem?_eq_some_iff.1 hit).1
      have hsz2 := Lib.iterAt_size wr w.heap.size (bs s) (pos + n)
      have hown2 : Own byteC M0 (wr.iterAt w.heap.size (bs s) (pos + n)) (w.heap.size + 1) 5 (.slice A L.length c) L := own_cells ((cells_own hown).kept (row := some w.heap.size)
        ⟨rfl, rfl, rfl, by rw [hsz2]; exact Nat.le_refl _, fun k hk hne => Lib.iterAt_other _ _ _ _ _ (fun e => hne (by rw [e]))⟩ (.inr fun e => by have := hown.base _ e; omega))
      obtain ⟨W, hW⟩ : ∃ W, wr.iterAt w.heap.size (bs s) (pos + n) = W := ⟨_, rfl⟩
      rw [hW] at hnx hit2 hb2 hown2 hsz2
      have HW := Lib.hid hW
      clear hW hown hb hit
      have hT := HT.out.ext hb2
      have hlow := Tryz.unicode_ToLower_laid (r : Int) W hT.case
      have Hlow := Lib.hid hlow
      clear hlow hT
      go_wp2_with fail
      refine Hlow.out.mono ?_
      rintro e w1 ⟨rfl, q, hw1q⟩
      have hbq : Below W.heap.size W w1 := hw1q ▸ below_drewN' _ _ _
      have hown3 := hown2.ext hbq
      have hit3 := (hbq.block _ (by omega)).trans hit2
      have hb3 := hb2.trans (hbq.mono (by omega))
      have hsz3 := hbq.size
      clear hw1q hown2 hit2 hb2 hbq
      have happ := appendRune_ok (w.heap.size + 1) _ L (Lib.toLowerU (r : Int)) (by omega) (by omega) w1 hown3 hla (by omega)
      generalize Lib.toLowerU (r : Int) = z at happ Hlc hll ⊢
      have Happ := Lib.hid happ
      have hnb : some w.heap.size ≠ (Value.slice A L.length c).ownBlock := fun e => by have := hown3.base _ e.symm; omega
      clear happ hown3
      go_wp2_with fail
      refine Happ.out.mono ?_
      rintro e w2 ⟨A2, c2, L2, rfl, hL2, hown4, hold, hb4⟩
      have hit4 := (hold.out _ (by omega) hnb).trans hit3
      have hb5 := hb3.trans (hb4.mono (by omega))
      have hpp := iterPos_of hit4
      clear Happ hold hb4 hit3
      go_wp2
      go_roundw
      case rel => exact ⟨pos + n, A2, c2, L2, rfl, by omega, hit4, hown4, Lib.hid (by rw [hL2.out, Hlc.out]), hb5⟩
      case measure => rw [hpp, hpp0.out]; omega
    · have hnx := fun ty => Lib.run_next_end_at (P := Tryz.prog) wr w.heap.size (bs s) pos ty hit (by rw [bs_size]; exact hp)
      have hres : L = Sm.lower s := by rw [← hL.out, List.drop_eq_nil_of_le (by omega), Sm.lower_nil, List.append_nil]
      have hcv := run_convert_SlR (P := Tryz.prog) (dst := 9) Tryz.underlying121 Tryz.underlying5 Tryz.underlying9 hown.read0
      have Hres := Lib.hid hres
      clear hres
      go_wp2
      go_ret
      exact ⟨ret_str (by rw [Hres.out]), hb⟩
end Go.Proofs.YtngdfjlodblagaaGreatDoor
/-
  The reference's Lower and Words.
-/
namespace Go.Proofs.YtngdfjlodblagaaGreatDoor
open Go.RowKit
set_option linter.unusedVariables false
theorem encode_bs (z : Int) : Utf8.encode z = bs (Lib.encodeRune z) := by
  have hb : ∀ (a : Int) (b : Nat), a = (b : Int) → a.toNat.toUInt8 = UInt8.ofNat b := fun a b h => by subst h; simp
  unfold bs Lib.encodeRune
  by_cases h1 : 0 ≤ z ∧ z ≤ 127
  · rw [Lib.encodeRuneZ_one h1.1 h1.2]
    obtain ⟨c, rfl⟩ : ∃ c : Nat, z = (c : Int) := ⟨z.toNat, by omega⟩
    have hv : Utf8.valid (c : Int) = true := by simp [Utf8.valid]; omega
    simp [Utf8.encode, hv, show c < 128 by omega]
  · by_cases h2 : 128 ≤ z ∧ z ≤ 2047
    · rw [Lib.encodeRuneZ_two h2.1 h2.2]
      obtain ⟨c, rfl⟩ : ∃ c : Nat, z = (c : Int) := ⟨z.toNat, by omega⟩
      have hv : Utf8.valid (c : Int) = true := by simp [Utf8.valid]; omega
      simp only [Utf8.encode, hv, if_true, Int.toNat_natCast]
      rw [if_neg (by omega), if_pos (by omega)]
      simp only [List.map_cons, List.map_nil, hb (192 + (c : Int) / 64) (192 + c / 64) (by omega), hb (128 + (c : Int) % 64) (128 + c % 64) (by omega)]
    · by_cases h3 : (2048 ≤ z ∧ z < 55296) ∨ (57343 < z ∧ z ≤ 65535)
      · rw [Lib.encodeRuneZ_three h3]
        obtain ⟨c, rfl⟩ : ∃ c : Nat, z = (c : Int) := ⟨z.toNat, by omega⟩
        have hv : Utf8.valid (c : Int) = true := by simp [Utf8.valid]; omega
        simp only [Utf8.encode, hv, if_true, Int.toNat_natCast]
        rw [if_neg (by omega), if_neg (by omega), if_pos (by omega)]
        simp only [List.map_cons, List.map_nil, hb (224 + (c : Int) / 4096) (224 + c / 4096) (by omega), hb (128 + (c : Int) / 64 % 64) (128 + c / 64 % 64) (by omega), hb (128 + (c : Int) % 64) (128 + c % 64) (by omega)]
      · by_cases h4 : 65536 ≤ z ∧ z ≤ 1114111
        · rw [Lib.encodeRuneZ_four h4.1 h4.2]
          obtain ⟨c, rfl⟩ : ∃ c : Nat, z = (c : Int) := ⟨z.toNat, by omega⟩
          have hv : Utf8.valid (c : Int) = true := by simp [Utf8.valid]; omega
          simp only [Utf8.encode, hv, if_true, Int.toNat_natCast]
          rw [if_neg (by omega), if_neg (by omega), if_neg (by omega)]
          simp only [List.map_cons, List.map_nil, hb (240 + (c : Int) / 262144) (240 + c / 262144) (by omega), hb (128 + (c : Int) / 4096 % 64) (128 + c / 4096 % 64) (by omega), hb (128 + (c : Int) / 64 % 64) (128 + c / 64 % 64) (by omega), hb (128 + (c : Int) % 64) (128 + c % 64) (by omega)]
        · rw [Lib.encodeRuneZ_bad (by omega)]
          have hv : Utf8.valid z = false := by simp [Utf8.valid]; omega
          simp [Utf8.encode, hv, Utf8.runeError]
set_option maxHeartbeats 2000000 in
theorem refLower_ok (s : Str) (hs : s.length ≤ 4000000) (w : World) (hT : TabsU w) : Calls Tryz.prog 21 #[.string (bs s)] w fun e w' => e = .returned (.string (bs (Sm.lower s))) ∧ Below w.heap.size w w' := by
  have hlen := Sm.lower_len s.length s (Nat.le_refl _)
  have HT := Lib.hid hT
  clear hT
  obtain ⟨res, hres⟩ : ∃ r, Sm.lower s = r := ⟨_, rfl⟩
  rw [hres] at hlen ⊢
  have Hres := Lib.hid hres
  clear hres
  go_enter Tryz.func21, Tryz.ntmps21
  go_wp2
  go_loopw [0, 3] (fun t o wr => ∃ (l L : Str), t = .string (bs l) ∧ o = .string (bs L) ∧ l.length ≤ s.length ∧ Hid (L ++ Sm.lower l = res) ∧ Below w.heap.size w wr) (fun t _ _ => (strOf t).length)
  case atStart => exact ⟨s, [], rfl, rfl, Nat.le_refl _, Lib.hid (by rw [List.nil_append, Hres.out]), Below.refl _ _⟩
  case round =>
    obtain ⟨l, L, rfl, rfl, hl, hL, hb⟩ := hrel
    by_cases hne : l = []
    · subst hne
      have hr : res = L := by rw [← hL.out, Sm.lower_nil, List.append_nil]
      have Hr := Lib.hid hr
      clear hr
      go_wp2
      go_ret
      exact ⟨ret_str (by rw [Hr.out]), hb⟩
    · have hpos := List.length_pos_iff.2 hne
      have hst := Sm.lower_step hne
      have hw1 := Lib.decodeL_width l
      have hw2 := Sm.width_le hne
      have hr := Lib.decodeL_rune l
      have hdec := Tryz.utf8_DecodeRuneInString (bs l) wr (HT.out.ext hb).u8
      have hdg : Lib.decodeGo (bs l) = Lib.decodeL l := by
        unfold Lib.decodeGo
        rw [if_neg (by rw [bs_size]; omega)]
        rfl
      rw [hdg] at hdec
      obtain ⟨r, hrr⟩ : ∃ r, (Lib.decodeL l).1 = r := ⟨_, rfl⟩
      obtain ⟨n, hnn⟩ : ∃ n, (Lib.decodeL l).2 = n := ⟨_, rfl⟩
      rw [hrr] at hst hr hdec
      rw [hnn] at hst hw1 hw2 hdec
      have hlc : (L ++ Lib.encodeRune (Lib.toLowerU (r : Int))) ++ Sm.lower (l.drop n) = res := by rw [← hL.out, hst, List.append_assoc]; rfl
      have hll : L.length + (Lib.encodeRune (Lib.toLowerU (r : Int))).length ≤ 16000000 := by
        have := congrArg List.length hlc
        rw [List.length_append, List.length_append] at this
        omega
      have Hlc := Lib.hid hlc; have Hdec := Lib.hid hdec
      clear hlc hst hdg hrr hnn hdec
      have hd0 : decide ((0 : Int) < (l.length : Int)) = true := by simp; omega
      have hd1 : 0 < l.length := hpos
      have hlow := fun W hbb => Tryz.unicode_ToLower_laid (r : Int) W ((HT.out.ext hb).ext hbb).case
      obtain ⟨z, hz⟩ : ∃ z, Lib.toLowerU (r : Int) = z := ⟨_, rfl⟩
      rw [hz] at hlow Hlc hll
      have Hlow := Lib.hid hlow
      clear hlow hz
      have hcat : (L.length + (Lib.encodeRune z).length ≤ 9223372036854775807) = True := by simp; omega
      have henc := encode_bs z
      have hn0 : (0 : Int) ≤ (n : Int) := by omega
      have hn1 : (n : Int) ≤ (l.length : Int) := by omega
      go_wp2_with fail
      refine Hdec.out.mono ?_
      rintro e w1 ⟨rfl, hb1⟩
      go_wp2_with fail
      refine (Hlow.out w1 hb1).mono ?_
      rintro e w2 ⟨rfl, q, hq⟩
      have hb2 := (below2 hb hb1).trans (hq ▸ below_drewN' _ _ _)
      clear hq
      go_wp2
      go_roundw
      case rel => exact ⟨l.drop n, L ++ Lib.encodeRune z, by rw [List.take_of_length_le (by rw [List.length_drop]; exact Nat.le_refl _)], rfl, by rw [List.length_drop]; omega, Hlc, hb2⟩
      case measure => simp [strOf, bs]; omega
end Go.Proofs.YtngdfjlodblagaaGreatDoor
/-
  strings.FieldsFuncSeq at stem.words' predicate: the iterator.
-/
namespace Go.Proofs.YtngdfjlodblagaaGreatDoor
open Go.RowKit
set_option linter.unusedVariables false
/-- the tables lie, and no round turns them -/
def TabsS (S : Nat → Prop) (w : World) : Prop := ∃ w0, TabsU w0 ∧ Below w0.heap.size w0 w ∧ ∀ b, S b → w0.heap.size ≤ b
theorem TabsS.tabs {S : Nat → Prop} {w : World} (h : TabsS S w) : TabsU w := by
  obtain ⟨w0, h1, h2, _⟩ := h
  exact h1.ext h2
theorem TabsS.ext {S : Nat → Prop} {w w' : World} (h : TabsS S w) (hb : Below w.heap.size w w') : TabsS S w' := by
  obtain ⟨w0, h1, h2, h3⟩ := h
  exact ⟨w0, h1, h2.trans (hb.mono h2.size), h3⟩
theorem TabsS.chg {S S' : Nat → Prop} {w w' : World} (h : TabsS S w) (hc : Chg S S' w w') : TabsS S' w' := by
  obtain ⟨w0, h1, h2, h3⟩ := h
  refine ⟨w0, h1, ⟨hc.os.trans h2.os, hc.tape.trans h2.tape, hc.output.trans h2.output, Nat.le_trans h2.size hc.size, fun b hb => ?_⟩, fun b hb => ?_⟩
  · exact (hc.same b (by have := h2.size; omega) fun hS => by have := h3 b hS; omega).trans (h2.block b hb)
  · have h4 := h2.size
    rcases (hc.own b hb).2 with h | h
    · exact h3 b h
    · omega
theorem TabsU.s {S : Nat → Prop} {w : World} (h : TabsU w) (hS : ∀ b, S b → w.heap.size ≤ b) : TabsS S w := ⟨w, h, Below.refl _ _, hS⟩
theorem Blk.chg {S S' : Nat → Prop} {w w' : World} {g : Nat} {t : TypeId} {cs : Array Value} (h : Blk w g t cs) (hS : ¬ S g) (hc : Chg S S' w w') : Blk w' g t cs ∧ ¬ S' g :=
  ⟨h.keep (hc.same g h.lt hS), fun h' => (hc.own g h').2.elim hS fun h2 => by have := h.lt; omega⟩
/-- What the iterator reads: the text, the predicate, the tables. -/
def ffFP (B1 B2 : Nat) (s : Str) (S : Nat → Prop) (w : World) : Prop :=
  Blk w B1 9 #[.string (bs s)] ∧ ¬ S B1 ∧ Blk w B2 105 #[.func (.func 132) #[] #[]] ∧ ¬ S B2 ∧ TabsS S w
theorem ffFP.chg {B1 B2 : Nat} {s : Str} {S S' : Nat → Prop} {w w' : World} (h : ffFP B1 B2 s S w) (hc : Chg S S' w w') : ffFP B1 B2 s S' w' :=
  ⟨(h.1.chg h.2.1 hc).1, (h.1.chg h.2.1 hc).2, (h.2.2.1.chg h.2.2.2.1 hc).1, (h.2.2.1.chg h.2.2.2.1 hc).2, h.2.2.2.2.chg hc⟩
theorem ffFP.ext {B1 B2 : Nat} {s : Str} {S : Nat → Prop} {w w' : World} (h : ffFP B1 B2 s S w) (hb : Below w.heap.size w w') : ffFP B1 B2 s S w' :=
  ⟨h.1.ext hb, h.2.1, h.2.2.1.ext hb, h.2.2.2.1, h.2.2.2.2.ext hb⟩
/-- the word that is open: where it began -/
def openW (s : Str) (st : Option Nat) (pos : Nat) : Str := match st with | some a => (s.drop a).take (pos - a) | none => []
def startV (st : Option Nat) : Value := match st with | some a => .int .i64 (a : Int) | none => .int .i64 (-1)
theorem openW_grow (s : Str) (a pos n : Nat) (h : a ≤ pos) : openW s (some a) pos ++ (s.drop pos).take n = openW s (some a) (pos + n) := Lib.pieceU_grow s a pos n h
theorem openW_ne (s : Str) (a pos : Nat) (h : a < pos) (hp : pos ≤ s.length) : openW s (some a) pos ≠ [] := Lib.pieceU_ne s a pos h hp
def encW (x : Str) : Array Value := #[.string (bs x)]
theorem list_at {α : Type} {l : List α} {k : Nat} (hk : k ≤ l.length) {x : α} {t : List α} (h : l = l.take k ++ x :: t) : ∃ hk : k < l.length, l[k] = x ∧ l = l.take (k + 1) ++ t := by
  have hl : k < l.length := by
    have := congrArg List.length h
    rw [List.length_append, List.length_take, List.length_cons] at this
    omega
  have hx : l[k] = x := by
    have h1 := List.getElem_of_eq h hl
    rw [h1, List.getElem_append_right (by simp; omega)]
    simp [Nat.min_eq_left hk]
  refine ⟨hl, hx, ?_⟩
  rw [List.take_succ_eq_append_getElem hl, hx, List.append_assoc]
  exact h
set_option maxHeartbeats 4000000 in
theorem ff_iter (B1 B2 : Nat) (s : Str) (hs : s.length ≤ 4000000) :
    Iter Tryz.prog 159 #[.pointer (some ⟨B1, 0, none⟩), .pointer (some ⟨B2, 0, none⟩)] encW (Sm.rawWords s) (ffFP B1 B2 s) := by
  intro ll J Jx S W hFP hS hJ hJx hY h0
  refine callsIn_of_wp Tryz.func159 rfl trivial ?_ rfl
  simp only [Tryz.ntmps159, List.size_toArray, List.length_cons, List.length_nil, Nat.reduceAdd, Nat.reduceSub, Array.replicate_succ, Array.replicate_zero, List.push_toArray, List.append_toArray, List.nil_append, List.cons_append]
  have hF1 : Fence.wide.fn 57 := trivial
  have hF2 : Fence.wide.fn 132 := trivial
  have hF3 : Fence.wide.depth = none := rfl
  have hF4 : Fence.wide.round = none := rfl
  have HY := Lib.hid hY; clear hY
  have HJ := Lib.hid hJ; clear hJ
  have HJx := Lib.hid hJx; clear hJx
  have HS := Lib.hid hS; clear hS
  obtain ⟨R, hR⟩ : ∃ R, Sm.rawWords s = R := ⟨_, rfl⟩
  rw [hR] at HY ⊢
  have HR := Lib.hid hR; clear hR
  gi_wp2
  gi_loopw [4, 5] (fun st i wr => ∃ (k pos : Nat) (o : Option Nat) (T : Nat → Prop), i = .int .i64 (pos : Int) ∧ st = startV o ∧ J k T wr ∧ ffFP B1 B2 s T wr ∧ Hid (∀ b, T b → b < wr.heap.size) ∧ W.heap.size ≤ wr.heap.size ∧
      Hid (R = R.take k ++ Sm.wordsFrom (openW s o pos) (s.drop pos)) ∧ Hid (∀ a, o = some a → a < pos) ∧ pos ≤ s.length ∧ k ≤ R.length) (fun _ i _ => s.length - (intOf i).toNat)
  case atStart => exact ⟨0, 0, none, S, rfl, rfl, h0, hFP, HS, Nat.le_refl _, Lib.hid (by rw [← HR.out]; rfl), Lib.hid (fun a h => by cases h), by omega, by omega⟩
  case round =>
    obtain ⟨k, pos, o, T, rfl, rfl, hj, hfp, hT, hsz, hrec, ho, hp, hk⟩ := hrel
    obtain ⟨hc1, hz1, hs1⟩ := hfp.1.one
    obtain ⟨hc2, hz2, hs2⟩ := hfp.2.2.1.one
    by_cases hlt : pos < s.length
    · have hne := drop_ne hlt
      have hst := Sm.wordsFrom_step (cur := openW s o pos) hne
      have hw1 := Lib.decodeL_width (s.drop pos)
      have hw2 := Sm.width_le hne
      have hr := Lib.decodeL_rune (s.drop pos)
      rw [List.length_drop] at hw2
      rw [List.drop_drop] at hst
      have hdec := Tryz.utf8_DecodeRuneInString (bs (s.drop pos)) wr hfp.2.2.2.2.tabs.u8
      have hdg : Lib.decodeGo (bs (s.drop pos)) = Lib.decodeL (s.drop pos) := by
        unfold Lib.decodeGo
        rw [if_neg (by rw [bs_size, List.length_drop]; omega)]
        rfl
      rw [hdg] at hdec
      obtain ⟨r, hrr⟩ : ∃ r, (Lib.decodeL (s.drop pos)).1 = r := ⟨_, rfl⟩
      obtain ⟨n, hnn⟩ : ∃ n, (Lib.decodeL (s.drop pos)).2 = n := ⟨_, rfl⟩
      rw [hrr] at hst hr hdec
      rw [hnn] at hst hw1 hw2 hdec
      have hin := fun W hbb => notL_ok r hr W (hfp.2.2.2.2.tabs.ext hbb)
      obtain ⟨t, ht⟩ : ∃ t, Sm.isL r = t := ⟨_, rfl⟩
      rw [ht] at hin hst
      rw [hst] at hrec
      obtain ⟨q, hq⟩ : ∃ q, (s.drop pos).take (s.length - pos) = q := ⟨_, rfl⟩
      have hq2 : s.drop pos = q := by rw [← hq, List.take_of_length_le (by rw [List.length_drop]; exact Nat.le_refl _)]
      rw [hq2] at hdec
      have Hdec := Lib.hid hdec; have Hin := Lib.hid hin; have Hq2 := Lib.hid hq2
      clear hdec hin hst hdg hrr hnn ht hq2 hne
      have hp0 : (0 : Int) ≤ (pos : Int) := by omega
      have hp1 : (pos : Int) ≤ (s.length : Int) := by omega
      have hp2 : (pos : Int) < (s.length : Int) := by omega
      rcases o with _ | a
      all_goals
        dsimp only [startV]
        gi_wp2_with fail
        refine (callsIn_wide.2 Hdec.out).mono ?_
        rintro e w1 ⟨rfl, hb1⟩
        obtain ⟨hc3, hz3, hs3⟩ := (hfp.2.2.1.ext hb1).one
        gi_wp2_with fail
        refine (callsIn_wide.2 (Hin.out w1 hb1)).mono ?_
        rintro e w2 ⟨rfl, hb2⟩
        have hb12 := below2 hb1 hb2
        have hfp2 := hfp.ext hb12
        have hj2 := HJ.out _ _ _ _ hj (Kept.of_below hb12)
        have hsz2 : W.heap.size ≤ w2.heap.size := Nat.le_trans hsz hb12.size
        have hT2 : Hid (∀ b, T b → b < w2.heap.size) := Lib.hid fun b hb => by have := hT.out b hb; have := hb12.size; omega
        clear hb1 hb2 hc3 hz3 hs3 Hdec Hin hfp hj hsz hT hc1 hz1 hs1 hc2 hz2 hs2
      · cases t with
        | true =>
          gi_wp2
          go_roundw
          case rel => exact ⟨k, pos + n, some pos, T, by go_num, rfl, hj2, hfp2, hT2, hsz2, Lib.hid (by
            have h := hrec.out
            have e : openW s none pos ++ (s.drop pos).take n = openW s (some pos) (pos + n) := by simp [openW]
            rw [e] at h
            simpa using h), Lib.hid (fun a h => by cases h; omega), by omega, hk⟩
          case measure => simp [intOf]; omega
        | false =>
          gi_wp2
          go_roundw
          case rel => exact ⟨k, pos + n, none, T, by go_num, rfl, hj2, hfp2, hT2, hsz2, Lib.hid (by
            have h := hrec.out
            have e0 : openW s none pos = [] := rfl
            have e1 : openW s none (pos + n) = [] := rfl
            rw [e0] at h
            rw [e1]
            simpa using h), Lib.hid (fun a h => by cases h), by omega, hk⟩
          case measure => simp [intOf]; omega
      · have hap := ho.out a rfl
        cases t with
        | true =>
          have ha0 : decide ((a : Int) < 0) = false := by simp
          gi_wp2
          go_roundw
          case rel => exact ⟨k, pos + n, some a, T, by go_num, rfl, hj2, hfp2, hT2, hsz2, Lib.hid (by
            have h := hrec.out
            rw [openW_grow s a pos n (by omega)] at h
            simpa using h), Lib.hid (fun b h => by cases h; omega), by omega, hk⟩
          case measure => simp [intOf]; omega
        | false =>
          have hon := openW_ne s a pos hap hp
          have h := hrec.out
          simp only [Bool.false_eq_true, if_false, if_neg hon, List.singleton_append] at h
          obtain ⟨hk', hx, hr'⟩ := list_at hk h
          obtain ⟨x, hxx⟩ : ∃ x, (s.drop a).take (pos - a) = x := ⟨_, rfl⟩
          have hy := HY.out k hk' T w2 hj2 hsz2
          have hox : openW s (some a) pos = x := hxx
          rw [hx, hox] at hy
          have Hx := Lib.hid hx; have Hr' := Lib.hid hr'
          clear hx hr' h hon hox hrec
          obtain ⟨hc1, hz1, hs1⟩ := hfp2.1.one
          have ha1 : (0 : Int) ≤ (a : Int) := by omega
          have ha2 : (a : Int) ≤ (pos : Int) := by omega
          have ha3 : decide ((0 : Int) ≤ (a : Int)) = true := by simp
          obtain ⟨fn, tmps, assign, body, hyy, hRR⟩ := hy
          dsimp only [encW] at hyy
          gi_wp2_with fail
          refine hRR.mono ?_
          rintro e w4 ⟨T', hchg, hor4⟩
          obtain ⟨tt, rfl⟩ : ∃ tt, e = .returned (.bool tt) := hor4.elim (fun h => ⟨_, h.1⟩) (fun h => ⟨_, h.1⟩)
          have Hor4 := Lib.hid hor4
          clear hor4 hyy hRR hc1 hz1 hs1
          have hfp4 := hfp2.chg hchg
          have hsz4 : W.heap.size ≤ w4.heap.size := Nat.le_trans hsz2 hchg.size
          cases tt with
          | true =>
            have hj4 : J (k + 1) T' w4 := Hor4.out.elim (fun h => h.2) (fun h => by cases h.1)
            gi_wp2
            go_roundw
            case rel =>
              exact ⟨k + 1, pos + n, none, T', by go_num, rfl, hj4, hfp4, Lib.hid (fun b hb => (hchg.own b hb).1), hsz4, Hr', Lib.hid (fun a h => by cases h), by omega, hk'⟩
            case measure => simp [intOf]; omega
          | false =>
            have hx4 : Jx (k + 1) T' w4 := Hor4.out.elim (fun h => by cases h.1) (fun h => h.2)
            gi_wp2
            exact bodyPost_ret (results_none rfl _ _ _) rfl ⟨⟨_, rfl⟩, .inr ⟨k + 1, T', hx4⟩⟩
    · obtain rfl : pos = s.length := by omega
      rw [List.drop_length, Sm.wordsFrom_nil] at hrec
      rcases o with _ | a
      · have hkk : k = R.length := by
          have h := congrArg List.length hrec.out
          have e0 : openW s none s.length = [] := rfl
          rw [e0, if_pos rfl, List.append_nil, List.length_take] at h
          omega
        have Hkk := Lib.hid hkk
        clear hkk hrec
        dsimp only [startV]
        gi_wp2
        exact bodyPost_end (results_none rfl _ _ _) rfl ⟨⟨_, rfl⟩, .inl ⟨T, by rw [← Hkk.out]; exact hj⟩⟩
      · have hap := ho.out a rfl
        have hon := openW_ne s a s.length hap (Nat.le_refl _)
        have h := hrec.out
        rw [if_neg hon] at h
        obtain ⟨hk', hx, hr'⟩ := list_at hk h
        obtain ⟨x, hxx⟩ : ∃ x, (s.drop a).take (s.length - a) = x := ⟨_, rfl⟩
        have hy := HY.out k hk' T wr hj hsz
        have hox : openW s (some a) s.length = x := hxx
        rw [hx, hox] at hy
        have hkk : k + 1 = R.length := by
          have h := congrArg List.length hr'
          rw [List.append_nil, List.length_take] at h
          omega
        have Hkk := Lib.hid hkk
        clear hx hr' h hon hox hrec hkk
        have ha1 : (0 : Int) ≤ (a : Int) := by omega
        have ha2 : (a : Int) ≤ (s.length : Int) := by omega
        have ha3 : decide ((0 : Int) ≤ (a : Int)) = true := by simp
        obtain ⟨fn, tmps, assign, body, hyy, hRR⟩ := hy
        dsimp only [encW] at hyy
        dsimp only [startV]
        gi_wp2_with fail
        refine hRR.mono ?_
        rintro e w4 ⟨T', hchg, hor4⟩
        obtain ⟨tt, rfl⟩ : ∃ tt, e = .returned (.bool tt) := hor4.elim (fun h => ⟨_, h.1⟩) (fun h => ⟨_, h.1⟩)
        have Hor4 := Lib.hid hor4
        clear hor4 hyy hRR hc1 hz1 hs1
        gi_wp2
        refine bodyPost_end (results_none rfl _ _ _) rfl ⟨⟨_, rfl⟩, ?_⟩
        rcases Hor4.out with h | h
        · exact .inl ⟨T', by rw [← Hkk.out]; exact h.2⟩
        · exact .inr ⟨k + 1, T', h.2⟩
end Go.Proofs.YtngdfjlodblagaaGreatDoor
/-
  stem: a rule applied.
-/
namespace Go.Proofs.YtngdfjlodblagaaGreatDoor
open Go.RowKit
set_option linter.unusedVariables false

set_option maxHeartbeats 1000000 in
theorem apply_ok (M : Nat → Prop) (r : Sm.Rule) (v : Value) (s : Str) (w : World) (hv : SlR strC M w v r.bars) (hs : s.length ≤ 4000000) (hto : r.to.length ≤ 10) :
    Calls Tryz.prog 115 #[.agg #[.string (bs r.ending), .string (bs r.to), v], .string (bs s)] w fun e w' =>
      e = .returned (.tuple #[.string (bs (Sm.applied r s)), .bool (Sm.fits r s)]) ∧ Below w.heap.size w w' := by
  obtain ⟨A, c, rfl, _, hcm⟩ := hv.form
  have hn := hv.len_le
  unfold maxLen at hn
  have hc := Tryz.strings_CutSuffix (bs s) (bs r.ending)
  go_enter Tryz.func115, Tryz.ntmps115
  have hbw := (Below.refl w.heap.size w).alloc (Nat.le_refl _) (.cells #[.string (bs r.ending), .string (bs r.to), .slice A r.bars.length c] 147)
  have k1 := Blk.new w 147 #[.string (bs r.ending), .string (bs r.to), .slice A r.bars.length c]
  replace hv := hv.ext hbw
  obtain ⟨p10, p11, p12, _⟩ := k1.three
  go_wp2_with fail
  refine (hc _ (by rw [bs_size]; omega)).mono ?_
  rintro e w1 ⟨rfl, hw1⟩
  rw [bs_toList, bs_toList]
  rw [← hw1] at hbw k1 hv p10 p11 p12
  clear hc hw1 k1
  show _
  have hfr : (⟨(Lib.trimSuffix s r.ending).toArray⟩ : ByteArray) = bs (Lib.trimSuffix s r.ending) := rfl
  rw [hfr]
  clear hfr
  obtain ⟨ok, hok⟩ : ∃ b, Lib.hasSuffix s r.ending = b := ⟨_, rfl⟩
  rw [hok]
  cases ok with
  | false =>
    have hf : Sm.fits r s = false := by simp [Sm.fits, hok]
    have Hf := Lib.hid hf
    clear hf hok
    go_wp2
    all_goals refine bodyPost_ret (v := .tuple #[.string (bs (s)), .bool false]) (by simp [results, Tryz.results115, go_sem]) rfl ?_
    all_goals exact ⟨by rw [Hf.out, Sm.applied_not Hf.out], hbw⟩
  | true =>
    have htr : Lib.trimSuffix s r.ending = s.take (s.length - r.ending.length) := by unfold Lib.trimSuffix; rw [if_pos hok]
    have hle : r.ending.length ≤ s.length := by
      unfold Lib.hasSuffix at hok
      exact (List.isSuffixOf_iff_suffix.1 hok).length_le
    obtain ⟨fr, hfr⟩ : ∃ fr, Lib.trimSuffix s r.ending = fr := ⟨_, rfl⟩
    rw [hfr]
    have hfl : fr.length = s.length - r.ending.length := by rw [← hfr, htr, List.length_take]; omega
    by_cases h3 : r.ending.length + 3 ≤ s.length
    · have hlt : ((fr.length : Int) < 3) = False := by simp; omega
      have Hok := Lib.hid hok; have Htr := Lib.hid htr; have Hfr := Lib.hid hfr
      clear hok htr hfr
      go_wp2
      go_loop [28] (fun i => ∃ k : Nat, k ≤ r.bars.length ∧ i = .int .i64 k ∧ Hid (∀ (j : Nat) (hj : j < r.bars.length), j < k → Lib.hasSuffix s r.bars[j] = false)) (fun i => r.bars.length - (intOf i).toNat)
      case atStart => exact ⟨0, Nat.zero_le _, rfl, Lib.hid fun j _ h => absurd h (by omega)⟩
      case round =>
        obtain ⟨k, hk, rfl, hpre⟩ := hrel
        by_cases hlk : k < r.bars.length
        · obtain ⟨b, off, rfl, _, _, hcell, _⟩ := hv.strAt hlk
          have hc := Tryz.strings_HasSuffix (bs s) (bs r.bars[k])
          obtain ⟨x, hx⟩ : ∃ x, x = r.bars[k] := ⟨_, rfl⟩
          rw [← hx] at hcell hc
          have Hx := Lib.hid hx
          clear hx
          go_wp2_with fail
          refine (hc _ (by rw [bs_size]; omega)).mono ?_
          rintro e w2 ⟨rfl, rfl⟩
          rw [bs_toList, bs_toList]
          clear hc
          cases ht : Lib.hasSuffix s x with
          | true =>
            go_wp2
            refine bodyPost_ret (v := .tuple #[.string (bs (s)), .bool false]) (by simp [results, Tryz.results115, go_sem]) rfl ?_
            have hf : Sm.fits r s = false := by
              have := any_true r.bars (Lib.hasSuffix s) k hlk (by rw [← Hx.out]; exact ht)
              simp [Sm.fits, this]
            exact ⟨by rw [hf, Sm.applied_not hf], hbw⟩
          | false =>
            go_wp2
            go_round
            case rel => exact ⟨k + 1, by omega, by go_num, Lib.hid fun j hj hjk => by
              by_cases e : j = k
              · subst e; rw [← Hx.out]; exact ht
              · exact hpre.out j hj (by omega)⟩
            case measure => simp [intOf]; omega
        · have hcat : (fr.length + r.to.length ≤ 9223372036854775807) = True := by simp; omega
          go_wp2
          refine bodyPost_ret (v := .tuple #[.string (bs (fr ++ r.to)), .bool true]) (by simp [results, Tryz.results115, go_sem]) rfl ?_
          have hf : Sm.fits r s = true := by
            have := any_false r.bars (Lib.hasSuffix s) fun i hi => hpre.out i hi (by omega)
            simp [Sm.fits, this, Hok.out, h3]
          refine ⟨?_, hbw⟩
          rw [hf, Sm.applied_fits hf, Sm.cut, ← Htr.out, Hfr.out]
    · have hlt : ((fr.length : Int) < 3) = True := by simp; omega
      have hf : Sm.fits r s = false := by simp [Sm.fits]; intro _ h; omega
      have Hf := Lib.hid hf
      clear hf hok
      go_wp2
      all_goals refine bodyPost_ret (v := .tuple #[.string (bs (s)), .bool false]) (by simp [results, Tryz.results115, go_sem]) rfl ?_
      all_goals exact ⟨by rw [Hf.out, Sm.applied_not Hf.out], hbw⟩
end Go.Proofs.YtngdfjlodblagaaGreatDoor
/-
  stem: a step (printed by gen/smstep.py).
-/
namespace Go.Proofs.YtngdfjlodblagaaGreatDoor
open Go.RowKit
set_option linter.unusedVariables false
theorem lit_els (M : Nat → Prop) (w : World) : ∀ l : List Str, (∀ s ∈ l, s.length ≤ maxLen) → Els strC M w (l.map fun s => .string (bs s)) l
  | [], _ => Els.nil _ _ _
  | s :: l, h => (Els.single (C := strC) (cs := [.string (bs s)]) ⟨rfl, h s (by simp)⟩).append (lit_els M w l fun x hx => h x (by simp [hx]))
theorem lit_row (w : World) (l : List Str) (h : ∀ s ∈ l, s.length ≤ 1000) (hn : l.length ≤ 1000) : SlR strC M0 (w.alloc (.cells (l.map fun s => Value.string (bs s)).toArray 9)) (.slice (some ⟨w.heap.size, 0, none⟩) l.length l.length) l :=
  (Own.built (M := M0) (B := w.heap.size) 9 (lit_els _ w l fun s hs => by have := h s hs; unfold maxLen; omega) (Nat.le_refl _) (by unfold maxLen; omega)).read0
theorem rule_cells {w : World} {b B0 : Nat} (kB : Blk w b 147 #[.string ⟨#[105, 101, 115]⟩, .string ⟨#[105]⟩, .slice none 0 0, .string ⟨#[115, 115, 101, 115]⟩, .string ⟨#[115, 115]⟩, .slice none 0 0, .string ⟨#[110, 101, 115, 115]⟩, .string ⟨#[]⟩, .slice none 0 0, .string ⟨#[109, 101, 110, 116]⟩, .string ⟨#[]⟩, .slice none 0 0, .string ⟨#[105, 110, 103]⟩, .string ⟨#[]⟩, .slice none 0 0, .string ⟨#[101, 100, 108, 121]⟩, .string ⟨#[]⟩, .slice none 0 0, .string ⟨#[101, 100]⟩, .string ⟨#[]⟩, .slice none 0 0, .string ⟨#[108, 121]⟩, .string ⟨#[]⟩, .slice none 0 0, .string ⟨#[115]⟩, .string ⟨#[]⟩, .slice (some ⟨B0, 0, none⟩) 3 3, .string ⟨#[121]⟩, .string ⟨#[105]⟩, .slice none 0 0]) (k : Nat) (hk : k < 10) : ∃ (r : Sm.Rule) (v : Value), Sm.rules.drop k = r :: Sm.rules.drop (k + 1) ∧
    w.cell? ⟨b, k * 3, none⟩ = some (.string (bs r.ending)) ∧ w.cell? ⟨b, k * 3 + 1, none⟩ = some (.string (bs r.to)) ∧ w.cell? ⟨b, k * 3 + 2, none⟩ = some v ∧
    (v = .slice none 0 0 ∧ r.bars = [] ∨ v = .slice (some ⟨B0, 0, none⟩) 3 3 ∧ r.bars = [[115, 115], [117, 115], [105, 115]]) ∧ r.to.length ≤ 10 := by
  match k, hk with
  | 0, _ => exact ⟨_, _, rfl, kB.cell 0, kB.cell 1, kB.cell 2, .inl ⟨rfl, rfl⟩, by decide⟩
  | 1, _ => exact ⟨_, _, rfl, kB.cell 3, kB.cell 4, kB.cell 5, .inl ⟨rfl, rfl⟩, by decide⟩
  | 2, _ => exact ⟨_, _, rfl, kB.cell 6, kB.cell 7, kB.cell 8, .inl ⟨rfl, rfl⟩, by decide⟩
  | 3, _ => exact ⟨_, _, rfl, kB.cell 9, kB.cell 10, kB.cell 11, .inl ⟨rfl, rfl⟩, by decide⟩
  | 4, _ => exact ⟨_, _, rfl, kB.cell 12, kB.cell 13, kB.cell 14, .inl ⟨rfl, rfl⟩, by decide⟩
  | 5, _ => exact ⟨_, _, rfl, kB.cell 15, kB.cell 16, kB.cell 17, .inl ⟨rfl, rfl⟩, by decide⟩
  | 6, _ => exact ⟨_, _, rfl, kB.cell 18, kB.cell 19, kB.cell 20, .inl ⟨rfl, rfl⟩, by decide⟩
  | 7, _ => exact ⟨_, _, rfl, kB.cell 21, kB.cell 22, kB.cell 23, .inl ⟨rfl, rfl⟩, by decide⟩
  | 8, _ => exact ⟨_, _, rfl, kB.cell 24, kB.cell 25, kB.cell 26, .inr ⟨rfl, rfl⟩, by decide⟩
  | 9, _ => exact ⟨_, _, rfl, kB.cell 27, kB.cell 28, kB.cell 29, .inl ⟨rfl, rfl⟩, by decide⟩
theorem Sm.twice_of {s : List UInt8} {x y : UInt8} (h4 : 4 ≤ s.length) (hx : s[s.length - 1] = x) (hy : s[s.length - 2] = y) : Sm.twice s = ((x == y) && !(Sm.vowels.any (· == x))) := by
  have e1 : s[s.length - 1]? = some x := by rw [List.getElem?_eq_getElem (by omega), hx]
  have e2 : s[s.length - 2]? = some y := by rw [List.getElem?_eq_getElem (by omega), hy]
  simp [Sm.twice, e1, e2, h4, BEq.comm]
theorem Sm.index_hit {x : UInt8} (h : Sm.vowels.any (· == x) = true) : decide (Lib.indexByte [97, 101, 105, 111, 117, 108, 115, 122] x < 0) = false := by
  simp only [Sm.vowels, List.any_cons, List.any_nil, Bool.or_eq_true, beq_iff_eq, Bool.or_false] at h
  rcases h with h | h | h | h | h | h | h | h <;> (subst h; rfl)
theorem Sm.index_miss {x : UInt8} (h : Sm.vowels.any (· == x) = false) : decide (Lib.indexByte [97, 101, 105, 111, 117, 108, 115, 122] x < 0) = true := by
  simp only [Sm.vowels, List.any_cons, List.any_nil, Bool.or_eq_false_iff, beq_eq_false_iff_ne, Bool.or_false] at h
  simp [Lib.indexByte, h, Ne.symm]
set_option maxRecDepth 100000 in
set_option maxHeartbeats 8000000 in
theorem step_ok (s : Str) (w : World) (hs : s.length ≤ 4000000) :
    Calls Tryz.prog 84 #[.string (bs s)] w fun e w' => e = .returned (.string (bs (Sm.step s))) ∧ Below w.heap.size w w' := by
  have hbar : SlR strC M0 (w.alloc (.cells #[.string ⟨#[115, 115]⟩, .string ⟨#[117, 115]⟩, .string ⟨#[105, 115]⟩] 9)) (.slice (some ⟨w.heap.size, 0, none⟩) 3 3) [[115, 115], [117, 115], [105, 115]] := lit_row w [[115, 115], [117, 115], [105, 115]] (by decide) (by decide)
  obtain ⟨res, hres⟩ : ∃ r, Sm.step s = r := ⟨_, rfl⟩
  rw [hres]
  have Hres := Lib.hid hres
  clear hres
  have hbw := ((Below.refl w.heap.size w).alloc (Nat.le_refl _) (.cells #[.string ⟨#[115, 115]⟩, .string ⟨#[117, 115]⟩, .string ⟨#[105, 115]⟩] 9)).alloc (by simp) (.cells #[.string ⟨#[105, 101, 115]⟩, .string ⟨#[105]⟩, .slice none 0 0, .string ⟨#[115, 115, 101, 115]⟩, .string ⟨#[115, 115]⟩, .slice none 0 0, .string ⟨#[110, 101, 115, 115]⟩, .string ⟨#[]⟩, .slice none 0 0, .string ⟨#[109, 101, 110, 116]⟩, .string ⟨#[]⟩, .slice none 0 0, .string ⟨#[105, 110, 103]⟩, .string ⟨#[]⟩, .slice none 0 0, .string ⟨#[101, 100, 108, 121]⟩, .string ⟨#[]⟩, .slice none 0 0, .string ⟨#[101, 100]⟩, .string ⟨#[]⟩, .slice none 0 0, .string ⟨#[108, 121]⟩, .string ⟨#[]⟩, .slice none 0 0, .string ⟨#[115]⟩, .string ⟨#[]⟩, .slice (some ⟨w.heap.size, 0, none⟩) 3 3, .string ⟨#[121]⟩, .string ⟨#[105]⟩, .slice none 0 0] 147)
  have kB := Blk.new (w.alloc (.cells #[.string ⟨#[115, 115]⟩, .string ⟨#[117, 115]⟩, .string ⟨#[105, 115]⟩] 9)) 147 #[.string ⟨#[105, 101, 115]⟩, .string ⟨#[105]⟩, .slice none 0 0, .string ⟨#[115, 115, 101, 115]⟩, .string ⟨#[115, 115]⟩, .slice none 0 0, .string ⟨#[110, 101, 115, 115]⟩, .string ⟨#[]⟩, .slice none 0 0, .string ⟨#[109, 101, 110, 116]⟩, .string ⟨#[]⟩, .slice none 0 0, .string ⟨#[105, 110, 103]⟩, .string ⟨#[]⟩, .slice none 0 0, .string ⟨#[101, 100, 108, 121]⟩, .string ⟨#[]⟩, .slice none 0 0, .string ⟨#[101, 100]⟩, .string ⟨#[]⟩, .slice none 0 0, .string ⟨#[108, 121]⟩, .string ⟨#[]⟩, .slice none 0 0, .string ⟨#[115]⟩, .string ⟨#[]⟩, .slice (some ⟨w.heap.size, 0, none⟩) 3 3, .string ⟨#[121]⟩, .string ⟨#[105]⟩, .slice none 0 0]
  rw [show ∀ o, (w.alloc o).heap.size = w.heap.size + 1 from fun o => by simp] at kB
  replace hbar := hbar.ext (w' := _) ((Below.refl _ _).alloc (Nat.le_refl _) (.cells #[.string ⟨#[105, 101, 115]⟩, .string ⟨#[105]⟩, .slice none 0 0, .string ⟨#[115, 115, 101, 115]⟩, .string ⟨#[115, 115]⟩, .slice none 0 0, .string ⟨#[110, 101, 115, 115]⟩, .string ⟨#[]⟩, .slice none 0 0, .string ⟨#[109, 101, 110, 116]⟩, .string ⟨#[]⟩, .slice none 0 0, .string ⟨#[105, 110, 103]⟩, .string ⟨#[]⟩, .slice none 0 0, .string ⟨#[101, 100, 108, 121]⟩, .string ⟨#[]⟩, .slice none 0 0, .string ⟨#[101, 100]⟩, .string ⟨#[]⟩, .slice none 0 0, .string ⟨#[108, 121]⟩, .string ⟨#[]⟩, .slice none 0 0, .string ⟨#[115]⟩, .string ⟨#[]⟩, .slice (some ⟨w.heap.size, 0, none⟩) 3 3, .string ⟨#[121]⟩, .string ⟨#[105]⟩, .slice none 0 0] 147))
  go_enter Tryz.func84, Tryz.ntmps84
  go_wp2_with fail
  generalize hw1 : (w.alloc _).alloc _ = w1 at hbw kB hbar ⊢
  have Hw1 := Lib.hid hw1; clear hw1
  go_loopw [21] (fun i wr => ∃ k : Nat, k ≤ 10 ∧ i = .int .i64 k ∧ Hid (Sm.stepOf (Sm.rules.drop k) s = res) ∧ Below w1.heap.size w1 wr) (fun i _ => 10 - (intOf i).toNat)
  case atStart => exact ⟨0, Nat.zero_le _, rfl, Lib.hid Hres.out, Below.refl _ _⟩
  case round =>
    obtain ⟨k, hk, rfl, hst, hb⟩ := hrel
    by_cases hlt : k < 10
    · obtain ⟨r, v, hdr, c0, c1, c2, hvv, hto⟩ := rule_cells (kB.ext hb) k hlt
      have hbar1 := hbar.ext (hb.mono (Nat.le_refl _))
      have Hk := Lib.hid kB
      clear kB hbar
      have hsl : SlR strC M0 wr v r.bars := by
        rcases hvv with ⟨rfl, e⟩ | ⟨rfl, e⟩
        · rw [e]; exact SlR.nil _ _ _
        · rw [e]; exact hbar1
      clear hbar1
      have hsz := hb.size
      obtain ⟨A, n, c, rfl⟩ : ∃ A n c, v = .slice A n c := by
        rcases hvv with ⟨rfl, e⟩ | ⟨rfl, e⟩
        · exact ⟨_, _, _, rfl⟩
        · exact ⟨_, _, _, rfl⟩
      clear hvv
      have hba := (Below.refl w1.heap.size wr).alloc hsz (.cells #[.string (bs r.ending), .string (bs r.to), .slice A n c] 147)
      have hcall := apply_ok M0 r (.slice A n c) s _ (hsl.ext ((Below.refl wr.heap.size wr).alloc (Nat.le_refl _) (.cells #[.string (bs r.ending), .string (bs r.to), .slice A n c] 147))) hs hto
      clear hsl
      go_wp2_with fail
      refine hcall.mono ?_
      rintro e w2 ⟨rfl, hq⟩
      clear hcall
      have hb2 := hb.trans (hba.trans (hq.mono (Nat.le_trans hsz hba.size)))
      have hall := hbw.trans (hb2.mono hbw.size)
      clear hq hba c0 c1 c2
      obtain ⟨t, ht⟩ : ∃ t, Sm.fits r s = t := ⟨_, rfl⟩
      obtain ⟨ap, hap⟩ : ∃ a, Sm.applied r s = a := ⟨_, rfl⟩
      rw [ht, hap]
      have hres : res = if t then ap else Sm.stepOf (Sm.rules.drop (k + 1)) s := by
        rw [← hst.out, hdr, Sm.stepOf, ht, ← hap]
        cases t with
        | true => rw [if_pos rfl, if_pos rfl, Sm.applied_fits ht]
        | false => rw [if_neg (by simp), if_neg (by simp)]
      have Hap := Lib.hid hap; have Ht := Lib.hid ht; have Hdr := Lib.hid hdr; have Hr := Lib.hid hres
      clear hap ht hdr hres
      cases t with
      | true =>
        go_wp2
        go_ret
        exact ⟨by rw [Hr.out]; rfl, hall⟩
      | false =>
        go_wp2
        go_round
        case rel => exact ⟨k + 1, by omega, by go_num, Lib.hid (by rw [Hr.out]; rfl), hb2⟩
        case measure => simp [intOf]; omega
    · obtain rfl : k = 10 := by omega
      have htl : res = Sm.tail s := hst.out.symm
      have Htl := Lib.hid htl
      have hall := hbw.trans (hb.mono hbw.size)
      clear htl hst kB hbar hbw hb
      have hib := fun (c : UInt8) (W : World) => Tryz.strings_IndexByte (bs [97, 101, 105, 111, 117, 108, 115, 122]) (c.toNat : Int) W
      by_cases h4 : 4 ≤ s.length
      · have hd4 : decide (4 ≤ (s.length : Int)) = true := by simp; omega
        have hi1 : IntKind.i64.wrap ((s.length : Int) - 1) = (s.length : Int) - 1 := IntWalk.i64_in _ (by omega)
        have hi2 : IntKind.i64.wrap ((s.length : Int) - 2) = (s.length : Int) - 2 := IntWalk.i64_in _ (by omega)
        have hj1 : (0 : Int) ≤ (s.length : Int) - 1 := by omega
        have hj2 : (0 : Int) ≤ (s.length : Int) - 2 := by omega
        have hk1 : (1 : Int) ≤ (s.length : Int) := by omega
        have hk2 : (2 : Int) ≤ (s.length : Int) := by omega
        have hk3 : 1 ≤ s.length := by omega
        have hk4 : 2 ≤ s.length := by omega
        have hj3 : (s.length : Int) - 1 < (s.length : Int) := by omega
        have hj4 : (s.length : Int) - 2 < (s.length : Int) := by omega
        obtain ⟨x, hx⟩ : ∃ x, s[s.length - 1] = x := ⟨_, rfl⟩
        obtain ⟨y, hy⟩ : ∃ y, s[s.length - 2] = y := ⟨_, rfl⟩
        have hib := fun (n : Nat) => hib x (wr.drewN n)
        rw [bs_toList, show ((x.toNat : Int)).toNat.toUInt8 = x from by simp] at hib
        have htw := Sm.twice_of (s := s) h4 hx hy
        cases ht : ((x.toNat : Int) == (y.toNat : Int)) with
        | false =>
          have hxy : (x == y) = false := by
            rw [beq_eq_false_iff_ne] at ht ⊢
            exact fun e => ht (by rw [e])
          have hq : Sm.tail s = s := by rw [Sm.tail, htw, hxy]; rfl
          have Hq := Lib.hid hq
          clear hq hib htw hxy
          go_wp2
          go_quiet (fail)
          go_wp2
          go_ret
          exact ⟨ret_str (by rw [Htl.out, Hq.out]), hall.trans (below_drewN' _ _ _)⟩
        | true =>
          have hxy : (x == y) = true := by
            rw [beq_iff_eq] at ht ⊢
            exact UInt8.toNat_inj.1 (by omega)
          rw [hxy] at htw
          cases hv : (Sm.vowels.any (· == x)) with
          | true =>
            have hlt : decide (Lib.indexByte [97, 101, 105, 111, 117, 108, 115, 122] x < 0) = false := Sm.index_hit hv
            have hq : Sm.tail s = s := by rw [Sm.tail, htw, hv]; rfl
            obtain ⟨n, hn⟩ : ∃ n, Lib.indexByte [97, 101, 105, 111, 117, 108, 115, 122] x = n := ⟨_, rfl⟩
            rw [hn] at hlt hib
            have Hq := Lib.hid hq; have Hib := Lib.hid hib
            clear hq htw hxy hn hv hib
            go_wp2
            go_quiet ((go_at_call 116; exact Calls.quiet_of_same (Hib.out _)))
            go_wp2
            go_ret
            exact ⟨ret_str (by rw [Htl.out, Hq.out]), hall.trans (below_drewN' _ _ _)⟩
          | false =>
            have hlt : decide (Lib.indexByte [97, 101, 105, 111, 117, 108, 115, 122] x < 0) = true := Sm.index_miss hv
            have hq : Sm.tail s = s.take (s.length - 1) := by rw [Sm.tail, htw, hv]; rfl
            obtain ⟨n, hn⟩ : ∃ n, Lib.indexByte [97, 101, 105, 111, 117, 108, 115, 122] x = n := ⟨_, rfl⟩
            rw [hn] at hlt hib
            have Hq := Lib.hid hq; have Hib := Lib.hid hib
            clear hq htw hxy hn hv hib
            go_wp2
            go_quiet ((go_at_call 116; exact Calls.quiet_of_same (Hib.out _)))
            go_wp2
            go_ret
            exact ⟨ret_str (by rw [Htl.out, Hq.out]), hall.trans (below_drewN' _ _ _)⟩
      · have hd4 : decide (4 ≤ (s.length : Int)) = false := by simp; omega
        have hq : Sm.tail s = s := by simp [Sm.tail, Sm.twice, h4]
        have Hq := Lib.hid hq
        clear hq hib
        go_wp2
        go_quiet (fail)
        go_wp2
        go_ret
        exact ⟨ret_str (by rw [Htl.out, Hq.out]), hall.trans (below_drewN' _ _ _)⟩
end Go.Proofs.YtngdfjlodblagaaGreatDoor
/-
  Names, groups, grants and rights: plain Lean.
-/
namespace Go.Proofs.YtngdfjlodblagaaGreatDoor

/-! ### Names -/
def lowc (c : UInt8) : Bool := (decide (97 ≤ c) && decide (c ≤ 122)) || (decide (48 ≤ c) && decide (c ≤ 57)) || c == 45 || c == 95 || c == 46
def letc (c : UInt8) : Bool := (decide (97 ≤ c) && decide (c ≤ 122)) || (decide (65 ≤ c) && decide (c ≤ 90)) || (decide (48 ≤ c) && decide (c ≤ 57))
def bigc (c : UInt8) : Bool := letc c || c == 45 || c == 95 || c == 46
def upc (c : UInt8) : Bool := decide (65 ≤ c) && decide (c ≤ 90)
def lowerC (c : UInt8) : UInt8 := if upc c then c + 32 else c
def lowerF (s : Str) : Str := s.map lowerC
def userF (s : Str) : Bool := s.all lowc && (decide (1 ≤ s.length) && decide (s.length ≤ 60))
def nameF (s : Str) : Bool := !s.isEmpty && decide (s.length ≤ 60) && s.all bigc
def smallF (s : Str) : Bool := nameF s && lowerF s == s
theorem lowerC_ne (c : UInt8) (h : upc c = true) : lowerC c ≠ c := by
  rw [lowerC, if_pos h]
  intro e
  have := congrArg UInt8.toNat e
  simp [upc, UInt8.le_iff_toNat_le] at h
  rw [UInt8.toNat_add] at this
  have := c.toNat_lt
  simp at *
theorem low_big (c : UInt8) : lowc c = (bigc c && !upc c) := by
  have hc := c.toNat_lt
  rw [Bool.eq_iff_iff]
  simp only [lowc, bigc, letc, upc, Bool.or_eq_true, Bool.and_eq_true, decide_eq_true_eq, beq_iff_eq, Bool.not_eq_true', Bool.and_eq_false_iff, decide_eq_false_iff_not, UInt8.le_iff_toNat_le, ← UInt8.toNat_inj]
  simp only [UInt8.reduceToNat]
  omega
theorem lower_same (s : Str) : (lowerF s == s) = s.all fun c => !upc c := by
  induction s with
  | nil => rfl
  | cons c s ih =>
    have e : (lowerF (c :: s) == c :: s) = ((lowerC c == c) && (lowerF s == s)) := rfl
    rw [e, ih, List.all_cons]
    congr 1
    cases h : upc c with
    | true => simpa using lowerC_ne c h
    | false => simp [lowerC, h]
theorem small_user (s : Str) : smallF s = userF s := by
  have h : s.all lowc = (s.all bigc && s.all fun c => !upc c) := by
    induction s with
    | nil => rfl
    | cons c s ih => simp only [List.all_cons, ih, low_big]; cases bigc c <;> cases upc c <;> simp
  rw [smallF, nameF, lower_same, userF, h]
  cases s with
  | nil => rfl
  | cons c s => simp [Bool.and_comm, Bool.and_left_comm, Bool.and_assoc]
def hashF (s : Str) : Bool := match s with | [] => false | c :: t => c == 35 && userF t
def whoF (s : Str) : Bool := userF s || hashF s
/-- Without '#'. -/
def trimH (s : Str) : Str := match s with | [] => [] | c :: t => if c = 35 then t else c :: t
theorem who_trim (s : Str) : smallF (trimH s) = whoF s := by
  rw [small_user]
  cases s with
  | nil => rfl
  | cons c t =>
    by_cases h : c = 35
    · subst h
      simp [trimH, whoF, hashF, userF, lowc]
    · simp [trimH, whoF, hashF, h]

/-! ### The first that errs -/
def scanF (err : Nat → Option Int) (base : Int) (n : Nat) : Int × Int :=
  match (List.range n).find? fun i => (err i).isSome with
  | some i => ((err i).getD 0, base + i)
  | none => (0, 0)
theorem scan_hit {err : Nat → Option Int} {base : Int} {n i : Nat} {c : Int} (hi : i < n) (h0 : ∀ j, j < i → err j = none) (h : err i = some c) : scanF err base n = (c, base + i) := by
  have : (List.range n).find? (fun i => (err i).isSome) = some i := by
    rw [List.find?_range_eq_some]
    exact ⟨by simp [h], by simpa using hi, fun j hj => by simp [h0 j hj]⟩
  rw [scanF, this]
  simp [h]
theorem scan_none {err : Nat → Option Int} {base : Int} {n : Nat} (h0 : ∀ j, j < n → err j = none) : scanF err base n = (0, 0) := by
  have : (List.range n).find? (fun i => (err i).isSome) = none := by
    rw [List.find?_eq_none]
    intro j hj
    simp [h0 j (by simpa using hj)]
  rw [scanF, this]
theorem scan_code {err : Nat → Option Int} {base : Int} {n : Nat} (hc : ∀ i c, err i = some c → c ≠ 0) (h : (scanF err base n).1 = 0) : ∀ j, j < n → err j = none := by
  unfold scanF at h
  split at h
  · rename_i i hi
    exfalso
    have := List.find?_some hi
    cases he : err i with
    | none => simp [he] at this
    | some c => rw [he] at h; exact hc i c he h
  · rename_i hn
    intro j hj
    rw [List.find?_eq_none] at hn
    have := hn j (by simpa using hj)
    simpa using this

/-! ### Groups and grants -/
abbrev Group := Str × List Str
abbrev Grant := Str × Bool × Int
def grpErr (l : List Group) (i : Nat) : Option Int :=
  match l[i]? with
  | none => none
  | some g => if !userF g.1 then some 10 else if (l.take i).any (fun x => x.1 == g.1) then some 7 else if 300 < g.2.length then some 2 else if g.2.any (fun s => !userF s) then some 10 else none
def groupsF (l : List Group) : Int × Int := if 60 < l.length then (2, -1) else scanF (grpErr l) 0 l.length
/-- Grant a comes after b. -/
def afterF (a b : Grant) : Bool := ltS b.1 a.1 || (a.1 == b.1 && a.2.1 && !b.2.1)
def orderF (a b : Grant) : Int := let c := Lib.compareBytes a.1 b.1; if c ≠ 0 ∨ a.2.1 = b.2.1 then c else if a.2.1 then 1 else -1
def grantErr (l : List Grant) (i : Nat) : Option Int :=
  match l[i]? with
  | none => none
  | some g => if !whoF g.1 then some 10 else if g.2.2 < 1 ∨ 63 < g.2.2 then some 3 else if i = 0 then none else match l[i - 1]? with
    | none => none
    | some p => if !afterF g p then some 19 else none
def grantsF (l : List Grant) : Int × Int := if 60 < l.length then (2, -2) else scanF (grantErr l) 100 l.length

theorem order_after (a b : Grant) : 0 ≤ orderF a b ↔ afterF b a = false := by
  unfold orderF afterF
  rw [cmp_eqS]
  by_cases h1 : ltS a.1 b.1
  · simp [h1]
  · by_cases h2 : a.1 = b.1
    · have h1' : ltS a.1 a.1 = false := ltS_irrefl _
      simp only [← h2, h1', Bool.false_eq_true, if_false, if_true, ne_eq, not_true, false_or]
      cases a.2.1 <;> cases b.2.1 <;> simp
    · have h3 : ¬ b.1 = a.1 := fun e => h2 e.symm
      simp [h1, h2, h3]
theorem order_zero (a b : Grant) : orderF a b = 0 ↔ a.1 = b.1 ∧ a.2.1 = b.2.1 := by
  unfold orderF
  rw [cmp_eqS]
  by_cases h1 : ltS a.1 b.1
  · have := ltS_ne h1; simp [h1, this]
  · by_cases h2 : a.1 = b.1
    · simp only [h2, ltS_irrefl]
      cases a.2.1 <;> cases b.2.1 <;> simp
    · simp [h1, h2]
theorem order_neg (a b : Grant) : orderF a b < 0 ↔ afterF b a = true := by
  have := order_after a b
  cases h : afterF b a with
  | true => simp [h] at this; simp; omega
  | false => simp [h] at this; simp; omega
theorem after_irrefl (a : Grant) : afterF a a = false := by simp [afterF, ltS_irrefl]
theorem after_trans {a b c : Grant} (h : afterF a b = true) (k : afterF b c = true) : afterF a c = true := by
  simp only [afterF, Bool.or_eq_true, Bool.and_eq_true, beq_iff_eq, Bool.not_eq_true'] at h k ⊢
  rcases h with h | ⟨⟨h1, h2⟩, h3⟩
  · rcases k with k | ⟨⟨k1, k2⟩, k3⟩
    · exact .inl (ltS_trans k h)
    · exact .inl (k1 ▸ h)
  · rcases k with k | ⟨⟨k1, k2⟩, k3⟩
    · exact .inl (h1 ▸ k)
    · rw [h3] at k2; cases k2
theorem after_total (a b : Grant) : afterF a b = true ∨ (a.1 = b.1 ∧ a.2.1 = b.2.1) ∨ afterF b a = true := by
  simp only [afterF, Bool.or_eq_true, Bool.and_eq_true, beq_iff_eq, Bool.not_eq_true']
  rcases ltS_total a.1 b.1 with h | h | h
  · exact .inr (.inr (.inl h))
  · cases ha : a.2.1 <;> cases hb : b.2.1
    · exact .inr (.inl ⟨h, rfl⟩)
    · exact .inr (.inr (.inr ⟨⟨h.symm, rfl⟩, rfl⟩))
    · exact .inl (.inr ⟨⟨h, rfl⟩, rfl⟩)
    · exact .inr (.inl ⟨h, rfl⟩)
  · exact .inl (.inl h)
theorem after_asymm {a b : Grant} (h : afterF a b = true) : afterF b a = false := by
  cases k : afterF b a with
  | false => rfl
  | true => have := after_trans h k; rw [after_irrefl] at this; cases this

/-! ### Rights -/
def anyoneF : Str := [97, 110, 121, 111, 110, 101]
def isHash (s : Str) : Bool := match s with | [] => false | c :: _ => c == 35
def memberF (gs : List Group) (name user : Str) : Bool := gs.any fun x => x.1 == name && x.2.any (· == user)
def appliesF (gs : List Group) (who user : Str) : Bool := if isHash who then memberF gs (trimH who) user else (trimH who == anyoneF || trimH who == user)
def concernsF (gs : List Group) (who user : Str) : Bool := gs.any (fun x => (35 :: x.1 == who) && x.2.any (· == user)) || (who == user || who == anyoneF)
theorem user_nohash {u : Str} (h : userF u = true) : isHash u = false := by
  cases u with
  | nil => rfl
  | cons c t =>
    cases hc : (c == 35) with
    | false => simpa [isHash] using hc
    | true =>
      have : c = 35 := by simpa using hc
      subst this
      simp [userF, lowc] at h
theorem applies_concerns (gs : List Group) (who user : Str) (hu : userF user = true) : appliesF gs who user = concernsF gs who user := by
  have hn := user_nohash hu
  cases who with
  | nil =>
    simp [appliesF, concernsF, isHash, trimH, Bool.or_comm]
  | cons c t =>
    by_cases hc : c = 35
    · subst hc
      have h1 : ((35 :: t : Str) == user) = false := by
        cases user with
        | nil => rfl
        | cons d s => have : d ≠ 35 := by simpa [isHash] using hn
                      simp [Ne.symm this]
      have h2 : ((35 :: t : Str) == anyoneF) = false := by simp [anyoneF]
      simp only [appliesF, concernsF, isHash, trimH, beq_self_eq_true, if_true, h1, h2, Bool.or_false, memberF]
      congr 1
    · have h1 : isHash (c :: t) = false := by simpa [isHash] using hc
      have h2 : gs.any (fun x => (35 :: x.1 == c :: t) && x.2.any (· == user)) = false := by
        rw [List.any_eq_false]
        intro x _
        have : ((35 :: x.1 : Str) == c :: t) = false := by simp [Ne.symm hc]
        simp [this]
      have h3 : trimH (c :: t) = c :: t := by simp [trimH, hc]
      rw [appliesF, concernsF, h1, h2, h3]
      simp [Bool.or_comm]
/-- What is given, and what denied. -/
def givenF (gs : List Group) (user : Str) (l : List Grant) : Nat := l.foldl (fun n g => if appliesF gs g.1 user && !g.2.1 then n ||| g.2.2.toNat else n) 0
def deniedF (gs : List Group) (user : Str) (l : List Grant) : Nat := l.foldl (fun n g => if appliesF gs g.1 user && g.2.1 then n ||| g.2.2.toNat else n) 0
def andNot (a b : Nat) : Nat := a ^^^ (a &&& b)
def ofF (gs : List Group) (l : List Grant) (user : Str) : Nat := andNot (givenF gs user l) (deniedF gs user l)
theorem testBit_andNot (a b i : Nat) : (andNot a b).testBit i = (a.testBit i && !b.testBit i) := by
  rw [andNot, Nat.testBit_xor, Nat.testBit_and]
  cases a.testBit i <;> cases b.testBit i <;> rfl
theorem foldl_or_bit (p : Grant → Bool) (i : Nat) : ∀ (l : List Grant) (n : Nat), (l.foldl (fun n g => if p g then n ||| g.2.2.toNat else n) n).testBit i = (n.testBit i || l.any fun g => p g && g.2.2.toNat.testBit i)
  | [], n => by simp
  | g :: l, n => by
    rw [List.foldl_cons, foldl_or_bit p i l, List.any_cons]
    cases h : p g <;> simp [Nat.testBit_or, Bool.or_assoc]
theorem given_bit (gs : List Group) (user : Str) (l : List Grant) (i : Nat) : (givenF gs user l).testBit i = l.any fun g => (appliesF gs g.1 user && !g.2.1) && g.2.2.toNat.testBit i := by
  rw [givenF, foldl_or_bit (fun g => appliesF gs g.1 user && !g.2.1)]; simp
theorem denied_bit (gs : List Group) (user : Str) (l : List Grant) (i : Nat) : (deniedF gs user l).testBit i = l.any fun g => (appliesF gs g.1 user && g.2.1) && g.2.2.toNat.testBit i := by
  rw [deniedF, foldl_or_bit (fun g => appliesF gs g.1 user && g.2.1)]; simp
def Small64 (l : List Grant) : Prop := ∀ g ∈ l, 0 ≤ g.2.2 ∧ g.2.2 ≤ 63
theorem foldl_or_lt (p : Grant → Bool) : ∀ (l : List Grant) (n : Nat), n < 64 → Small64 l → l.foldl (fun n g => if p g then n ||| g.2.2.toNat else n) n < 64
  | [], n, h, _ => h
  | g :: l, n, h, hs => by
    rw [List.foldl_cons]
    refine foldl_or_lt p l _ ?_ fun x hx => hs x (List.mem_cons_of_mem _ hx)
    have := hs g List.mem_cons_self
    split
    · exact Nat.or_lt_two_pow (n := 6) h (by omega)
    · exact h
theorem ofF_lt (gs : List Group) (l : List Grant) (user : Str) (h : Small64 l) : ofF gs l user < 64 := by
  have h1 := foldl_or_lt (fun g => appliesF gs g.1 user && !g.2.1) l 0 (by omega) h
  exact Nat.xor_lt_two_pow (n := 6) h1 (Nat.lt_of_le_of_lt Nat.and_le_left h1)
/-- The reference's sum. -/
def bitsF (f : Nat → Bool) : Nat → Nat
  | 0 => 0
  | i + 1 => bitsF f i + if f i then 2 ^ i else 0
theorem bitsF_congr {f g : Nat → Bool} : ∀ n, (∀ i, i < n → f i = g i) → bitsF f n = bitsF g n
  | 0, _ => rfl
  | n + 1, h => by rw [bitsF, bitsF, bitsF_congr n fun i hi => h i (by omega), h n (by omega)]
theorem bitsF_self : ∀ n, n < 64 → bitsF (fun i => n.testBit i) 6 = n := by decide
def refBit (gs : List Group) (l : List Grant) (user : Str) (i : Nat) : Bool :=
  (l.any fun g => decide (g.2.2 / (2 ^ i : Int) % 2 = 1) && concernsF gs g.1 user && !g.2.1) && !(l.any fun g => decide (g.2.2 / (2 ^ i : Int) % 2 = 1) && concernsF gs g.1 user && g.2.1)
theorem bit_int (r : Int) (i : Nat) (h : 0 ≤ r) : decide (r / (2 ^ i : Int) % 2 = 1) = r.toNat.testBit i := by
  obtain ⟨n, rfl⟩ := Int.eq_ofNat_of_zero_le h
  rw [Int.toNat_natCast, Nat.testBit_eq_decide_div_mod_eq]
  congr 1
  have : ((n : Int) / (2 ^ i : Int)) = ((n / 2 ^ i : Nat) : Int) := by
    rw [Int.natCast_ediv]; simp
  rw [this]
  apply propext
  omega
theorem any_congr {α : Type} (l : List α) (p q : α → Bool) (h : ∀ x ∈ l, p x = q x) : l.any p = l.any q := by
  induction l with
  | nil => rfl
  | cons a l ih => rw [List.any_cons, List.any_cons, h a List.mem_cons_self, ih fun x hx => h x (List.mem_cons_of_mem _ hx)]
theorem rights_eq (gs : List Group) (l : List Grant) (user : Str) (hu : userF user = true) (hs : Small64 l) : bitsF (refBit gs l user) 6 = ofF gs l user := by
  rw [← bitsF_self (ofF gs l user) (ofF_lt gs l user hs)]
  refine bitsF_congr 6 fun i _ => ?_
  rw [ofF, testBit_andNot, given_bit, denied_bit, refBit]
  congr 1
  · refine any_congr l _ _ fun g hg => ?_
    rw [bit_int g.2.2 i (hs g hg).1, applies_concerns gs g.1 user hu]
    cases g.2.2.toNat.testBit i <;> simp
  · congr 1
    refine any_congr l _ _ fun g hg => ?_
    rw [bit_int g.2.2 i (hs g hg).1, applies_concerns gs g.1 user hu]
    cases g.2.2.toNat.testBit i <;> simp
end Go.Proofs.YtngdfjlodblagaaGreatDoor
/-
  Names: package basic and its reference, function by function.
-/
namespace Go.Proofs.YtngdfjlodblagaaGreatDoor
open Go.RowKit

theorem u8_le (a b : Nat) (c : UInt8) (h : c.toNat = b) : decide ((a : Int) ≤ (c.toNat : Int)) = decide (a ≤ b) := by rw [h]; simp
theorem letc_int (c : UInt8) : letc c = ((decide ((97 : Int) ≤ (c.toNat : Int)) && decide ((c.toNat : Int) ≤ 122)) || (decide ((65 : Int) ≤ (c.toNat : Int)) && decide ((c.toNat : Int) ≤ 90)) || (decide ((48 : Int) ≤ (c.toNat : Int)) && decide ((c.toNat : Int) ≤ 57))) := by
  rw [Bool.eq_iff_iff]
  simp only [letc, Bool.or_eq_true, Bool.and_eq_true, decide_eq_true_eq, UInt8.le_iff_toNat_le, UInt8.reduceToNat]
  omega

theorem all_true (s : Str) (p : UInt8 → Bool) (h : ∀ (i : Nat) (hi : i < s.length), p s[i] = true) : s.all p = true := by
  rw [List.all_eq_true]
  intro x hx
  obtain ⟨i, hi, rfl⟩ := List.mem_iff_getElem.1 hx
  exact h i hi
theorem all_false (s : Str) (p : UInt8 → Bool) (i : Nat) (hi : i < s.length) (h : p s[i] = false) : s.all p = false := by
  rw [Bool.eq_false_iff]
  intro e
  rw [List.all_eq_true] at e
  have := e _ (List.getElem_mem hi)
  rw [h] at this
  cases this

set_option maxHeartbeats 400000 in
theorem allB_ok (f : FuncId) (p : UInt8 → Bool) (eg : ∀ args w, (callFunc f args).run Tryz.prog w = .ok (.enter f args) w) (hf : ∀ (c : UInt8) (w : World), Calls Tryz.prog f #[.int .u8 (c.toNat : Int)] w fun e w' => e = .returned (.bool (p c)) ∧ w = w')
    (s : Str) (hs : s.length ≤ maxLen) (w : World) :
    Calls Tryz.prog 82 #[.string (bs s), .func (.func f) #[] #[]] w fun e w' => e = .returned (.bool (s.all p)) ∧ w = w' := by
  unfold maxLen at hs
  have Hf := Lib.hid hf
  clear hf
  go_enter Tryz.func82, Tryz.ntmps82
  go_wp2
  go_loop [8] (fun i => ∃ k : Nat, k ≤ s.length ∧ i = .int .i64 k ∧ Hid (∀ (j : Nat) (hj : j < s.length), j < k → p s[j] = true)) (fun i => s.length - (intOf i).toNat)
  case atStart => exact ⟨0, Nat.zero_le _, rfl, Lib.hid fun j _ h => absurd h (by omega)⟩
  case round =>
    obtain ⟨k, hk, rfl, hpre⟩ := hrel
    by_cases hlt : k < s.length
    · obtain ⟨t, ht⟩ : ∃ t, t = p s[k] := ⟨_, rfl⟩
      have hfc := (Hf.out s[k] w).mono fun e w' h => (⟨by rw [h.1, ht], h.2⟩ : e = .returned (.bool t) ∧ w = w')
      have Hfc := Lib.hid hfc
      have Ht := Lib.hid ht
      clear hfc ht
      go_wp2_with fail
      refine Hfc.out.mono ?_
      rintro e w1 ⟨rfl, rfl⟩
      cases t with
      | true =>
        go_wp2
        go_round
        case rel => exact ⟨k + 1, by omega, by go_num, Lib.hid fun j hj h => by
          by_cases e : j = k
          · subst e; exact Ht.out.symm
          · exact hpre.out j hj (by omega)⟩
        case measure => simp [intOf]; omega
      | false =>
        go_wp2
        go_ret
        exact ⟨by rw [all_false s p k hlt Ht.out.symm]; rfl, rfl⟩
    · go_wp2
      go_ret
      exact ⟨by rw [all_true s p fun i hi => hpre.out i hi (by omega)]; rfl, rfl⟩

theorem lowerC_nat (c : UInt8) : ((lowerC c).toNat : Int) = if 65 ≤ c.toNat ∧ c.toNat ≤ 90 then (c.toNat : Int) + 32 else (c.toNat : Int) := by
  have hc := c.toNat_lt
  unfold lowerC
  by_cases h : upc c = true
  · have h' : 65 ≤ c.toNat ∧ c.toNat ≤ 90 := by simpa [upc, UInt8.le_iff_toNat_le] using h
    rw [if_pos h, if_pos h', UInt8.toNat_add]
    simp
    omega
  · have h' : ¬ (65 ≤ c.toNat ∧ c.toNat ≤ 90) := by simpa [upc, UInt8.le_iff_toNat_le] using h
    rw [if_neg h, if_neg h']
/-- The bytes up to k in lower case. -/
def lowTo (s : Str) (k : Nat) : Str := (s.take k).map lowerC ++ s.drop k
theorem lowTo_len (s : Str) (k : Nat) : (lowTo s k).length = s.length := by simp [lowTo]; omega
theorem lowTo_zero (s : Str) : lowTo s 0 = s := by simp [lowTo]
theorem lowTo_all (s : Str) : lowTo s s.length = lowerF s := by simp [lowTo, lowerF]
theorem lowTo_get (s : Str) (k : Nat) (hk : k < s.length) : (lowTo s k)[k]'(by rw [lowTo_len]; exact hk) = s[k] := by
  simp [lowTo, Nat.min_eq_left (Nat.le_of_lt hk)]
theorem lowTo_succ (s : Str) (k : Nat) (hk : k < s.length) : lowTo s (k + 1) = (lowTo s k).set k (lowerC s[k]) := by
  have h1 : s.take (k + 1) = s.take k ++ [s[k]] := by rw [List.take_succ_eq_append_getElem hk]
  have h2 : s.drop k = s[k] :: s.drop (k + 1) := List.drop_eq_getElem_cons hk
  have h3 : ((s.take k).map lowerC).length = k := by simp; omega
  rw [lowTo, lowTo, h1, h2, List.map_append, List.set_append_right _ _ (by omega), h3, Nat.sub_self, List.set_cons_zero, List.append_assoc]
  rfl
theorem lowTo_same (s : Str) (k : Nat) (hk : k < s.length) (h : lowerC s[k] = s[k]) : lowTo s (k + 1) = lowTo s k := by
  rw [lowTo_succ s k hk, h]
  have := lowTo_get s k hk
  conv => lhs; rw [← this]
  exact List.set_getElem_self _
end Go.Proofs.YtngdfjlodblagaaGreatDoor
