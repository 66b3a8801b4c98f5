/-
  Contracts and plain facts, one after another: strings.FieldsFuncSeq at stem.words' predicate: the iterator; Lists of texts: their type's numbers; Texts; stem: a rule applied.
-/
import Derived.Test.YtfjpedgddgbelaaGreatDoorG2
import Derived.Test.YtfjpedgddgbelaaGreatDoorG7
import Derived.Test.YtfjpedgddgbelaaGreatDoorG5
import Derived.Test.YtfjpedgddgbelaaGreatDoorSmPure
import Derived.Test.YtfjpedgddgbelaaGreatDoorShelf
import Derived.Stop.RegionWithIn
import Derived.OwnWalkIn
import Derived.TacticsInMore
import Derived.LoopNIn
import Derived.LoopIn
import Derived.Deep.QuietTactic
import Derived.BigQuiet
namespace Go.Proofs.YtfjpedgddgbelaaGreatDoor
open Go.RowKit
set_option linter.unusedVariables false
/-- the tables lie, and no round turns them -/
def TabsS (S : Nat → Prop) (w : World) : Prop := ∃ w0, TabsU w0 ∧ Below w0.heap.size w0 w ∧ ∀ b, S b → w0.heap.size ≤ b
theorem TabsS.tabs {S : Nat → Prop} {w : World} (h : TabsS S w) : TabsU w := by
  obtain ⟨w0, h1, h2, _⟩ := h
  exact h1.ext h2
theorem TabsS.ext {S : Nat → Prop} {w w' : World} (h : TabsS S w) (hb : Below w.heap.size w w') : TabsS S w' := by
  obtain ⟨w0, h1, h2, h3⟩ := h
  exact ⟨w0, h1, h2.trans (hb.mono h2.size), h3⟩
theorem TabsS.chg {S S' : Nat → Prop} {w w' : World} (h : TabsS S w) (hc : Chg S S' w w') : TabsS S' w' := by
  obtain ⟨w0, h1, h2, h3⟩ := h
  refine ⟨w0, h1, ⟨hc.os.trans h2.os, hc.tape.trans h2.tape, hc.output.trans h2.output, Nat.le_trans h2.size hc.size, fun b hb => ?_⟩, fun b hb => ?_⟩
  · exact (hc.same b (by have := h2.size; omega) fun hS => by have := h3 b hS; omega).trans (h2.block b hb)
  · have h4 := h2.size
    rcases (hc.own b hb).2 with h | h
    · exact h3 b h
    · omega
theorem TabsU.s {S : Nat → Prop} {w : World} (h : TabsU w) (hS : ∀ b, S b → w.heap.size ≤ b) : TabsS S w := ⟨w, h, Below.refl _ _, hS⟩
theorem Blk.chg {S S' : Nat → Prop} {w w' : World} {g : Nat} {t : TypeId} {cs : Array Value} (h : Blk w g t cs) (hS : ¬ S g) (hc : Chg S S' w w') : Blk w' g t cs ∧ ¬ S' g :=
  ⟨h.keep (hc.same g h.lt hS), fun h' => (hc.own g h').2.elim hS fun h2 => by have := h.lt; omega⟩
/-- What the iterator reads: the text, the predicate, the tables. -/
def ffFP (B1 B2 : Nat) (s : Str) (S : Nat → Prop) (w : World) : Prop :=
  Blk w B1 9 #[.string (bs s)] ∧ ¬ S B1 ∧ Blk w B2 115 #[.func (.func 194) #[] #[]] ∧ ¬ S B2 ∧ TabsS S w
theorem ffFP.chg {B1 B2 : Nat} {s : Str} {S S' : Nat → Prop} {w w' : World} (h : ffFP B1 B2 s S w) (hc : Chg S S' w w') : ffFP B1 B2 s S' w' :=
  ⟨(h.1.chg h.2.1 hc).1, (h.1.chg h.2.1 hc).2, (h.2.2.1.chg h.2.2.2.1 hc).1, (h.2.2.1.chg h.2.2.2.1 hc).2, h.2.2.2.2.chg hc⟩
theorem ffFP.ext {B1 B2 : Nat} {s : Str} {S : Nat → Prop} {w w' : World} (h : ffFP B1 B2 s S w) (hb : Below w.heap.size w w') : ffFP B1 B2 s S w' :=
  ⟨h.1.ext hb, h.2.1, h.2.2.1.ext hb, h.2.2.2.1, h.2.2.2.2.ext hb⟩
/-- the word that is open: where it began -/
def openW (s : Str) (st : Option Nat) (pos : Nat) : Str := match st with | some a => (s.drop a).take (pos - a) | none => []
def startV (st : Option Nat) : Value := match st with | some a => .int .i64 (a : Int) | none => .int .i64 (-1)
theorem openW_grow (s : Str) (a pos n : Nat) (h : a ≤ pos) : openW s (some a) pos ++ (s.drop pos).take n = openW s (some a) (pos + n) := Lib.pieceU_grow s a pos n h
theorem openW_ne (s : Str) (a pos : Nat) (h : a < pos) (hp : pos ≤ s.length) : openW s (some a) pos ≠ [] := Lib.pieceU_ne s a pos h hp
def encW (x : Str) : Array Value := #[.string (bs x)]
theorem list_at {α : Type} {l : List α} {k : Nat} (hk : k ≤ l.length) {x : α} {t : List α} (h : l = l.take k ++ x :: t) : ∃ hk : k < l.length, l[k] = x ∧ l = l.take (k + 1) ++ t := by
  have hl : k < l.length := by
    have := congrArg List.length h
    rw [List.length_append, List.length_take, List.length_cons] at this
    omega
  have hx : l[k] = x := by
    have h1 := List.getElem_of_eq h hl
    rw [h1, List.getElem_append_right (by simp; omega)]
    simp [Nat.min_eq_left hk]
  refine ⟨hl, hx, ?_⟩
  rw [List.take_succ_eq_append_getElem hl, hx, List.append_assoc]
  exact h
set_option maxHeartbeats 4000000 in
theorem ff_iter (B1 B2 : Nat) (s : Str) (hs : s.length ≤ 4000000) :
    Iter Tryz.prog 240 #[.pointer (some ⟨B1, 0, none⟩), .pointer (some ⟨B2, 0, none⟩)] encW (Sm.rawWords s) (ffFP B1 B2 s) := by
  intro ll J Jx S W hFP hS hJ hJx hY h0
  refine callsIn_of_wp Tryz.func240 rfl trivial ?_ rfl
  simp only [Tryz.ntmps240, List.size_toArray, List.length_cons, List.length_nil, Nat.reduceAdd, Nat.reduceSub, Array.replicate_succ, Array.replicate_zero, List.push_toArray, List.append_toArray, List.nil_append, List.cons_append]
  have hF1 : Fence.wide.fn 76 := trivial
  have hF2 : Fence.wide.fn 194 := trivial
  have hF3 : Fence.wide.depth = none := rfl
  have hF4 : Fence.wide.round = none := rfl
  have HY := Lib.hid hY; clear hY
  have HJ := Lib.hid hJ; clear hJ
  have HJx := Lib.hid hJx; clear hJx
  have HS := Lib.hid hS; clear hS
  obtain ⟨R, hR⟩ : ∃ R, Sm.rawWords s = R := ⟨_, rfl⟩
  rw [hR] at HY ⊢
  have HR := Lib.hid hR; clear hR
  gi_wp2
  gi_loopw [4, 5] (fun st i wr => ∃ (k pos : Nat) (o : Option Nat) (T : Nat → Prop), i = .int .i64 (pos : Int) ∧ st = startV o ∧ J k T wr ∧ ffFP B1 B2 s T wr ∧ Hid (∀ b, T b → b < wr.heap.size) ∧ W.heap.size ≤ wr.heap.size ∧
      Hid (R = R.take k ++ Sm.wordsFrom (openW s o pos) (s.drop pos)) ∧ Hid (∀ a, o = some a → a < pos) ∧ pos ≤ s.length ∧ k ≤ R.length) (fun _ i _ => s.length - (intOf i).toNat)
  case atStart => exact ⟨0, 0, none, S, rfl, rfl, h0, hFP, HS, Nat.le_refl _, Lib.hid (by rw [← HR.out]; rfl), Lib.hid (fun a h => by cases h), by omega, by omega⟩
  case round =>
    obtain ⟨k, pos, o, T, rfl, rfl, hj, hfp, hT, hsz, hrec, ho, hp, hk⟩ := hrel
    obtain ⟨hc1, hz1, hs1⟩ := hfp.1.one
    obtain ⟨hc2, hz2, hs2⟩ := hfp.2.2.1.one
    by_cases hlt : pos < s.length
    · have hne := drop_ne hlt
      have hst := Sm.wordsFrom_step (cur := openW s o pos) hne
      have hw1 := Lib.decodeL_width (s.drop pos)
      have hw2 := Sm.width_le hne
      have hr := Lib.decodeL_rune (s.drop pos)
      rw [List.length_drop] at hw2
      rw [List.drop_drop] at hst
      have hdec := Tryz.utf8_DecodeRuneInString (bs (s.drop pos)) wr hfp.2.2.2.2.tabs.u8
      have hdg : Lib.decodeGo (bs (s.drop pos)) = Lib.decodeL (s.drop pos) := by
        unfold Lib.decodeGo
        rw [if_neg (by rw [bs_size, List.length_drop]; omega)]
        rfl
      rw [hdg] at hdec
      obtain ⟨r, hrr⟩ : ∃ r, (Lib.decodeL (s.drop pos)).1 = r := ⟨_, rfl⟩
      obtain ⟨n, hnn⟩ : ∃ n, (Lib.decodeL (s.drop pos)).2 = n := ⟨_, rfl⟩
      rw [hrr] at hst hr hdec
      rw [hnn] at hst hw1 hw2 hdec
      have hin := fun W hbb => notL_ok r hr W (hfp.2.2.2.2.tabs.ext hbb)
      obtain ⟨t, ht⟩ : ∃ t, Sm.isL r = t := ⟨_, rfl⟩
      rw [ht] at hin hst
      rw [hst] at hrec
      obtain ⟨q, hq⟩ : ∃ q, (s.drop pos).take (s.length - pos) = q := ⟨_, rfl⟩
      have hq2 : s.drop pos = q := by rw [← hq, List.take_of_length_le (by rw [List.length_drop]; exact Nat.le_refl _)]
      rw [hq2] at hdec
      have Hdec := Lib.hid hdec; have Hin := Lib.hid hin; have Hq2 := Lib.hid hq2
      clear hdec hin hst hdg hrr hnn ht hq2 hne
      have hp0 : (0 : Int) ≤ (pos : Int) := by omega
      have hp1 : (pos : Int) ≤ (s.length : Int) := by omega
      have hp2 : (pos : Int) < (s.length : Int) := by omega
      rcases o with _ | a
      all_goals
        dsimp only [startV]
        gi_wp2_with fail
        refine (callsIn_wide.2 Hdec.out).mono ?_
        rintro e w1 ⟨rfl, hb1⟩
        obtain ⟨hc3, hz3, hs3⟩ := (hfp.2.2.1.ext hb1).one
        gi_wp2_with fail
        refine (callsIn_wide.2 (Hin.out w1 hb1)).mono ?_
        rintro e w2 ⟨rfl, hb2⟩
        have hb12 := below2 hb1 hb2
        have hfp2 := hfp.ext hb12
        have hj2 := HJ.out _ _ _ _ hj (Kept.of_below hb12)
        have hsz2 : W.heap.size ≤ w2.heap.size := Nat.le_trans hsz hb12.size
        have hT2 : Hid (∀ b, T b → b < w2.heap.size) := Lib.hid fun b hb => by have := hT.out b hb; have := hb12.size; omega
        clear hb1 hb2 hc3 hz3 hs3 Hdec Hin hfp hj hsz hT hc1 hz1 hs1 hc2 hz2 hs2
      · cases t with
        | true =>
          gi_wp2
          go_roundw
          case rel => exact ⟨k, pos + n, some pos, T, by go_num, rfl, hj2, hfp2, hT2, hsz2, Lib.hid (by
            have h := hrec.out
            have e : openW s none pos ++ (s.drop pos).take n = openW s (some pos) (pos + n) := by simp [openW]
            rw [e] at h
            simpa using h), Lib.hid (fun a h => by cases h; omega), by omega, hk⟩
          case measure => simp [intOf]; omega
        | false =>
          gi_wp2
          go_roundw
          case rel => exact ⟨k, pos + n, none, T, by go_num, rfl, hj2, hfp2, hT2, hsz2, Lib.hid (by
            have h := hrec.out
            have e0 : openW s none pos = [] := rfl
            have e1 : openW s none (pos + n) = [] := rfl
            rw [e0] at h
            rw [e1]
            simpa using h), Lib.hid (fun a h => by cases h), by omega, hk⟩
          case measure => simp [intOf]; omega
      · have hap := ho.out a rfl
        cases t with
        | true =>
          have ha0 : decide ((a : Int) < 0) = false := by simp
          gi_wp2
          go_roundw
          case rel => exact ⟨k, pos + n, some a, T, by go_num, rfl, hj2, hfp2, hT2, hsz2, Lib.hid (by
            have h := hrec.out
            rw [openW_grow s a pos n (by omega)] at h
            simpa using h), Lib.hid (fun b h => by cases h; omega), by omega, hk⟩
          case measure => simp [intOf]; omega
        | false =>
          have hon := openW_ne s a pos hap hp
          have h := hrec.out
          simp only [Bool.false_eq_true, if_false, if_neg hon, List.singleton_append] at h
          obtain ⟨hk', hx, hr'⟩ := list_at hk h
          obtain ⟨x, hxx⟩ : ∃ x, (s.drop a).take (pos - a) = x := ⟨_, rfl⟩
          have hy := HY.out k hk' T w2 hj2 hsz2
          have hox : openW s (some a) pos = x := hxx
          rw [hx, hox] at hy
          have Hx := Lib.hid hx; have Hr' := Lib.hid hr'
          clear hx hr' h hon hox hrec
          obtain ⟨hc1, hz1, hs1⟩ := hfp2.1.one
          have ha1 : (0 : Int) ≤ (a : Int) := by omega
          have ha2 : (a : Int) ≤ (pos : Int) := by omega
          have ha3 : decide ((0 : Int) ≤ (a : Int)) = true := by simp
          obtain ⟨fn, tmps, assign, body, hyy, hRR⟩ := hy
          dsimp only [encW] at hyy
          gi_wp2_with fail
          refine hRR.mono ?_
          rintro e w4 ⟨T', hchg, hor4⟩
          obtain ⟨tt, rfl⟩ : ∃ tt, e = .returned (.bool tt) := hor4.elim (fun h => ⟨_, h.1⟩) (fun h => ⟨_, h.1⟩)
          have Hor4 := Lib.hid hor4
          clear hor4 hyy hRR hc1 hz1 hs1
          have hfp4 := hfp2.chg hchg
          have hsz4 : W.heap.size ≤ w4.heap.size := Nat.le_trans hsz2 hchg.size
          cases tt with
          | true =>
            have hj4 : J (k + 1) T' w4 := Hor4.out.elim (fun h => h.2) (fun h => by cases h.1)
            gi_wp2
            go_roundw
            case rel =>
              exact ⟨k + 1, pos + n, none, T', by go_num, rfl, hj4, hfp4, Lib.hid (fun b hb => (hchg.own b hb).1), hsz4, Hr', Lib.hid (fun a h => by cases h), by omega, hk'⟩
            case measure => simp [intOf]; omega
          | false =>
            have hx4 : Jx (k + 1) T' w4 := Hor4.out.elim (fun h => by cases h.1) (fun h => h.2)
            gi_wp2
            exact bodyPost_ret (results_none rfl _ _ _) rfl ⟨⟨_, rfl⟩, .inr ⟨k + 1, T', hx4⟩⟩
    · obtain rfl : pos = s.length := by omega
      rw [List.drop_length, Sm.wordsFrom_nil] at hrec
      rcases o with _ | a
      · have hkk : k = R.length := by
          have h := congrArg List.length hrec.out
          have e0 : openW s none s.length = [] := rfl
          rw [e0, if_pos rfl, List.append_nil, List.length_take] at h
          omega
        have Hkk := Lib.hid hkk
        clear hkk hrec
        dsimp only [startV]
        gi_wp2
        exact bodyPost_end (results_none rfl _ _ _) rfl ⟨⟨_, rfl⟩, .inl ⟨T, by rw [← Hkk.out]; exact hj⟩⟩
      · have hap := ho.out a rfl
        have hon := openW_ne s a s.length hap (Nat.le_refl _)
        have h := hrec.out
        rw [if_neg hon] at h
        obtain ⟨hk', hx, hr'⟩ := list_at hk h
        obtain ⟨x, hxx⟩ : ∃ x, (s.drop a).take (s.length - a) = x := ⟨_, rfl⟩
        have hy := HY.out k hk' T wr hj hsz
        have hox : openW s (some a) s.length = x := hxx
        rw [hx, hox] at hy
        have hkk : k + 1 = R.length := by
          have h := congrArg List.length hr'
          rw [List.append_nil, List.length_take] at h
          omega
        have Hkk := Lib.hid hkk
        clear hx hr' h hon hox hrec hkk
        have ha1 : (0 : Int) ≤ (a : Int) := by omega
        have ha2 : (a : Int) ≤ (s.length : Int) := by omega
        have ha3 : decide ((0 : Int) ≤ (a : Int)) = true := by simp
        obtain ⟨fn, tmps, assign, body, hyy, hRR⟩ := hy
        dsimp only [encW] at hyy
        dsimp only [startV]
        gi_wp2_with fail
        refine hRR.mono ?_
        rintro e w4 ⟨T', hchg, hor4⟩
        obtain ⟨tt, rfl⟩ : ∃ tt, e = .returned (.bool tt) := hor4.elim (fun h => ⟨_, h.1⟩) (fun h => ⟨_, h.1⟩)
        have Hor4 := Lib.hid hor4
        clear hor4 hyy hRR hc1 hz1 hs1
        gi_wp2
        refine bodyPost_end (results_none rfl _ _ _) rfl ⟨⟨_, rfl⟩, ?_⟩
        rcases Hor4.out with h | h
        · exact .inl ⟨T', by rw [← Hkk.out]; exact h.2⟩
        · exact .inr ⟨k + 1, T', h.2⟩
end Go.Proofs.YtfjpedgddgbelaaGreatDoor
namespace Go.Proofs.YtfjpedgddgbelaaGreatDoor
open Go.RowKit
theorem TStrs : SlT Tryz.prog 1 59 9 16 := SlT.mk' Tryz.underlying59 (by kernel_rfl : (Tryz.prog.info? 9).map (fun i => (i.zero, i.size, i.bytes)) = some (some (.string ⟨#[]⟩), 1, 16)) rfl
theorem oneStr : ∀ i z, Tryz.prog.info? 9 = some i → i.zero = some z → ∀ u ∈ z.cells.toList, u.oneCell' = true := by
  intro i z hi hz
  have h : (Tryz.prog.info? 9).map (fun i => i.zero) = some (some (.string ⟨#[]⟩)) := by kernel_rfl
  rw [hi] at h
  simp only [Option.map_some, Option.some.injEq] at h
  rw [hz] at h
  injection h with h
  subst h
  decide
theorem take_get {α : Type} (l : List α) (k : Nat) (h : k < l.length) : l.take (k + 1) = l.take k ++ [l[k]] := List.take_succ_eq_append_getElem h

theorem Own.flat {M M' : Nat → Prop} {w w' : World} {B : Nat} {e : TypeId} {v : Value} {l : List Str} (h : Own strC M w B e v l) (hk : ∀ b, v.ownBlock = some b → w'.heap[b]? = w.heap[b]?) : Own strC M' w' B e v l := by
  obtain ⟨xs, ho, he⟩ := h
  refine ⟨xs, ⟨ho.1, ?_⟩, ⟨he.1, fun i hi => he.2 i hi⟩⟩
  rcases ho.2 with hn | ⟨g, cap, cur, rfl, hb, hg, rest⟩
  · exact .inl hn
  · exact .inr ⟨g, cap, cur, rfl, hb, (hk g rfl).trans hg, rest⟩
def Apart (u v : Value) : Prop := ∀ b, u.ownBlock = some b → v.ownBlock ≠ some b
end Go.Proofs.YtfjpedgddgbelaaGreatDoor
namespace Go.Proofs.YtfjpedgddgbelaaGreatDoor
open Go.RowKit
set_option linter.unusedVariables false

set_option maxHeartbeats 1000000 in
theorem apply_ok (M : Nat → Prop) (r : Sm.Rule) (v : Value) (s : Str) (w : World) (hv : SlR strC M w v r.bars) (hs : s.length ≤ 4000000) (hto : r.to.length ≤ 10) :
    Calls Tryz.prog 162 #[.agg #[.string (bs r.ending), .string (bs r.to), v], .string (bs s)] w fun e w' =>
      e = .returned (.tuple #[.string (bs (Sm.applied r s)), .bool (Sm.fits r s)]) ∧ Below w.heap.size w w' := by
  obtain ⟨A, c, rfl, _, hcm⟩ := hv.form
  have hn := hv.len_le
  unfold maxLen at hn
  have hc := Tryz.strings_CutSuffix (bs s) (bs r.ending)
  go_enter Tryz.func162, Tryz.ntmps162
  have hbw := (Below.refl w.heap.size w).alloc (Nat.le_refl _) (.cells #[.string (bs r.ending), .string (bs r.to), .slice A r.bars.length c] 190)
  have k1 := Blk.new w 190 #[.string (bs r.ending), .string (bs r.to), .slice A r.bars.length c]
  replace hv := hv.ext hbw
  obtain ⟨p10, p11, p12, _⟩ := k1.three
  go_wp2_with fail
  refine (hc _ (by rw [bs_size]; omega)).mono ?_
  rintro e w1 ⟨rfl, hw1⟩
  rw [bs_toList, bs_toList]
  rw [← hw1] at hbw k1 hv p10 p11 p12
  clear hc hw1 k1
  show _
  have hfr : (⟨(Lib.trimSuffix s r.ending).toArray⟩ : ByteArray) = bs (Lib.trimSuffix s r.ending) := rfl
  rw [hfr]
  clear hfr
  obtain ⟨ok, hok⟩ : ∃ b, Lib.hasSuffix s r.ending = b := ⟨_, rfl⟩
  rw [hok]
  cases ok with
  | false =>
    have hf : Sm.fits r s = false := by simp [Sm.fits, hok]
    have Hf := Lib.hid hf
    clear hf hok
    go_wp2
    all_goals refine bodyPost_ret (v := .tuple #[.string (bs (s)), .bool false]) (by simp [results, Tryz.results162, go_sem]) rfl ?_
    all_goals exact ⟨by rw [Hf.out, Sm.applied_not Hf.out], hbw⟩
  | true =>
    have htr : Lib.trimSuffix s r.ending = s.take (s.length - r.ending.length) := by unfold Lib.trimSuffix; rw [if_pos hok]
    have hle : r.ending.length ≤ s.length := by
      unfold Lib.hasSuffix at hok
      exact (List.isSuffixOf_iff_suffix.1 hok).length_le
    obtain ⟨fr, hfr⟩ : ∃ fr, Lib.trimSuffix s r.ending = fr := ⟨_, rfl⟩
    rw [hfr]
    have hfl : fr.length = s.length - r.ending.length := by rw [← hfr, htr, List.length_take]; omega
    by_cases h3 : r.ending.length + 3 ≤ s.length
    · have hlt : ((fr.length : Int) < 3) = False := by simp; omega
      have Hok := Lib.hid hok; have Htr := Lib.hid htr; have Hfr := Lib.hid hfr
      clear hok htr hfr
      go_wp2
      go_loop [28] (fun i => ∃ k : Nat, k ≤ r.bars.length ∧ i = .int .i64 k ∧ Hid (∀ (j : Nat) (hj : j < r.bars.length), j < k → Lib.hasSuffix s r.bars[j] = false)) (fun i => r.bars.length - (intOf i).toNat)
      case atStart => exact ⟨0, Nat.zero_le _, rfl, Lib.hid fun j _ h => absurd h (by omega)⟩
      case round =>
        obtain ⟨k, hk, rfl, hpre⟩ := hrel
        by_cases hlk : k < r.bars.length
        · obtain ⟨b, off, rfl, _, _, hcell, _⟩ := hv.strAt hlk
          have hc := Tryz.strings_HasSuffix (bs s) (bs r.bars[k])
          obtain ⟨x, hx⟩ : ∃ x, x = r.bars[k] := ⟨_, rfl⟩
          rw [← hx] at hcell hc
          have Hx := Lib.hid hx
          clear hx
          go_wp2_with fail
          refine (hc _ (by rw [bs_size]; omega)).mono ?_
          rintro e w2 ⟨rfl, rfl⟩
          rw [bs_toList, bs_toList]
          clear hc
          cases ht : Lib.hasSuffix s x with
          | true =>
            go_wp2
            refine bodyPost_ret (v := .tuple #[.string (bs (s)), .bool false]) (by simp [results, Tryz.results162, go_sem]) rfl ?_
            have hf : Sm.fits r s = false := by
              have := any_true r.bars (Lib.hasSuffix s) k hlk (by rw [← Hx.out]; exact ht)
              simp [Sm.fits, this]
            exact ⟨by rw [hf, Sm.applied_not hf], hbw⟩
          | false =>
            go_wp2
            go_round
            case rel => exact ⟨k + 1, by omega, by go_num, Lib.hid fun j hj hjk => by
              by_cases e : j = k
              · subst e; rw [← Hx.out]; exact ht
              · exact hpre.out j hj (by omega)⟩
            case measure => simp [intOf]; omega
        · have hcat : (fr.length + r.to.length ≤ 9223372036854775807) = True := by simp; omega
          go_wp2
          refine bodyPost_ret (v := .tuple #[.string (bs (fr ++ r.to)), .bool true]) (by simp [results, Tryz.results162, go_sem]) rfl ?_
          have hf : Sm.fits r s = true := by
            have := any_false r.bars (Lib.hasSuffix s) fun i hi => hpre.out i hi (by omega)
            simp [Sm.fits, this, Hok.out, h3]
          refine ⟨?_, hbw⟩
          rw [hf, Sm.applied_fits hf, Sm.cut, ← Htr.out, Hfr.out]
    · have hlt : ((fr.length : Int) < 3) = True := by simp; omega
      have hf : Sm.fits r s = false := by simp [Sm.fits]; intro _ h; omega
      have Hf := Lib.hid hf
      clear hf hok
      go_wp2
      all_goals refine bodyPost_ret (v := .tuple #[.string (bs (s)), .bool false]) (by simp [results, Tryz.results162, go_sem]) rfl ?_
      all_goals exact ⟨by rw [Hf.out, Sm.applied_not Hf.out], hbw⟩
end Go.Proofs.YtfjpedgddgbelaaGreatDoor
