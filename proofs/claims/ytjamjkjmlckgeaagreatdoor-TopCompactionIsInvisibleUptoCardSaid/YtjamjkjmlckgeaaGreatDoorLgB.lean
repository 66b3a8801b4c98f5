/-
  The writer of records: items, numbers, messages.
-/
import Derived.Test.YtjamjkjmlckgeaaGreatDoorG17
namespace Go.Proofs.YtjamjkjmlckgeaaGreatDoor
open Go.RowKit
set_option linter.unusedVariables false

theorem below_growN (w : World) (k : Nat) (os : Array Obj) : Below w.heap.size w (Sort.grow (w.drewN k) os) :=
  ⟨rfl, rfl, rfl, by show w.heap.size ≤ (w.heap ++ os).size; simp, fun b hb => Sort.heap_grow_old (w.drewN k) os hb⟩
theorem Blk.kept0 {w w' : World} {k : Nat} {t : TypeId} {cs : Array Value} (h : Blk w k t cs) (hs : Lib.OthersKept 5 none w w') (ht : t ≠ 5) : Blk w' k t cs := hs k _ h (by simp) fun c fz e => by injection e with _ e; exact ht e
set_option maxRecDepth 100000 in
set_option maxHeartbeats 2000000 in
/-- an item, from what strconv.AppendInt does -/
theorem item_from (w : World) (B g : Nat) (v0 : Value) (L1 s : List UInt8) (hBg : B ≤ g) (kb : Blk w g 132 #[v0]) (hs : s.length ≤ 100000000) (hl : L1.length ≤ 100000000)
    (hap : Calls Tryz.prog 114 #[v0, .int .i64 (s.length : Int), .int .i64 10] w fun e w1 => ∃ v1, e = .returned v1 ∧ Own byteC M0 w1 B 5 v1 L1 ∧ Below B w w1 ∧ Lib.OthersKept 5 none w w1) :
    Calls Tryz.prog 96 #[.pointer (some ⟨g, 0, none⟩), .string (bs s)] w fun e w' => e = .returned (.tuple #[]) ∧ WrO w' B g (L1 ++ 58 :: s) ∧ Below B w w' ∧ Spared g w w' := by
  obtain ⟨c0, z0, hgl⟩ := kb.one
  have hBw : B ≤ w.heap.size := by omega
  have Hap := Lib.hid hap
  clear hap
  go_enter Tryz.func96, Tryz.ntmps96
  go_wp2_with (go_at_call 114; refine Hap.out.mono ?_; rintro e w1 ⟨v1, rfl, own1, hb1, hk1⟩; refine Hid.out ?_)
  obtain ⟨A1, c1, rfl, _, _⟩ := own1.shape
  have kb1 := kb.kept0 hk1 (by decide)
  have hz1 := hb1.size
  have hlit : SlR byteC (fun b => M0 b ∨ (Value.slice A1 L1.length c1).ownBlock = some b) (w1.alloc (.cells #[.int .u8 58] 5)) (.slice (some ⟨w1.heap.size, 0, none⟩) 1 1) [58] := SlR.built (C := byteC) (cs := [.int .u8 58]) 5 rfl fun x hx => hx.elim (fun h => h.elim) fun h => own1.lt x h
  have hal : Below w1.heap.size w1 (w1.alloc (.cells #[.int .u8 58] 5)) := (Below.refl _ _).alloc (Nat.le_refl _) _
  have own2 := own1.ext hal
  have kb2 := kb1.ext hal
  have hb2 : Below B w (w1.alloc (.cells #[.int .u8 58] 5)) := hb1.trans (hal.mono (by omega))
  have sp2 : Spared g w (w1.alloc (.cells #[.int .u8 58] 5)) := (Spared.none hk1).below hal
  have hBz : B ≤ (w1.alloc (.cells #[.int .u8 58] 5)).heap.size := by have := hal.size; omega
  clear kb1 own1 hal
  refine Lib.hid ?_
  go_wp2_with (at_builtin; refine wpList_append_Own byteC TBy rfl (.tmp 11) (.tmp 12) rfl rfl own2 rfl hlit ?a1 ?b1 hBz ?_)
  case a1 => simp only [List.length_cons, List.length_nil]; unfold maxLen; omega
  case b1 => simp only [List.length_cons, List.length_nil]; omega
  intro A3 c3 L3 w3 hL3 own3 hb3 hg3 hor3
  have kb3 := kb2.grown hg3 (fun e => own_ne_blk own2 kb2 (by decide) g e.symm rfl)
  have hb3' := hb2.trans hb3
  have sp3 : Spared g w w3 := sp2.grown hg3 (own_kind own2)
  have hl3 := Lib.hid (show L3.length = L1.length + 1 by rw [hL3.out, List.length_append]; rfl)
  have hz3 : B ≤ w3.heap.size := Nat.le_trans hBz hg3.size
  clear own2 kb2 hb2 sp2 hlit hb3 hg3 hor3
  go_wp2_with (at_builtin; refine wpList_appendStr uInfo Tryz.underlying29 Tryz.underlying9 rfl (.tmp 13) (.tmp 14) rfl rfl own3 (m := s) rfl ?a2 hz3 ?_)
  case a2 => have := hl3.out; omega
  intro A5 c5 L5 w5 hL5 own5 hb5 hg5
  have kb5 := kb3.grown hg5 (fun e => own_ne_blk own3 kb3 (by decide) g e.symm rfl)
  have hb5' := hb3'.trans hb5
  have sp5 : Spared g w w5 := sp3.grown hg5 (own_kind own3)
  obtain ⟨d0, d1, d2⟩ := kb5.one
  have hT : Turned g w5 (w5.setCell ⟨g, 0, none⟩ (.slice A5 L5.length c5)) := (Turned.refl g w5).set 0 _
  have kb6 : Blk (w5.setCell ⟨g, 0, none⟩ (.slice A5 L5.length c5)) g 132 #[.slice A5 L5.length c5] := by simpa using kb5.set_ 0 (.slice A5 L5.length c5)
  have own6 : Own byteC M0 (w5.setCell ⟨g, 0, none⟩ (.slice A5 L5.length c5)) B 5 (.slice A5 L5.length c5) L5 := own_flatM flat_byte (Own.turned (M := fun _ => True) (own_flatM flat_byte own5) hT trivial (own_ne_blk own5 kb5 (by decide)))
  have sp6 : Spared g w (w5.setCell ⟨g, 0, none⟩ (.slice A5 L5.length c5)) := Lib.OthersKept.setCell sp5 ⟨g, 0, none⟩ rfl _
  have hb6 := hb5'.trans (hT.rest B hBg)
  have HL : L5 = L1 ++ 58 :: s := by rw [hL5.out, hL3.out]; simp
  have HL5 := Lib.hid HL
  clear own3 kb3 hb3' sp3 hg5 kb5 own5 hb5 sp5 HL hT hL5
  go_wp2_with fail
  refine bodyPost_end (results_none rfl _ _ _) rfl ⟨rfl, ⟨hBg, _, kb6, ?_⟩, hb6, sp6⟩
  rw [← HL5.out]
  exact own6
theorem item_len2 (s : List UInt8) (h : s.length ≤ 100000000) : (Lib.itoa (s.length : Int)).length ≤ 21 := Lib.itoa_length_le _ (by omega) (by omega)
theorem item_own (n0 : Nat) (w : World) (B g : Nat) (l s : List UInt8) (hE : Env n0 w) (hn : n0 ≤ B) (hW : WrO w B g l) (hs : s.length ≤ 100000000) (hl : l.length ≤ 90000000) :
    Calls Tryz.prog 96 #[.pointer (some ⟨g, 0, none⟩), .string (bs s)] w fun e w' => e = .returned (.tuple #[]) ∧ WrO w' B g (l ++ Mb.item s) ∧ Below B w w' ∧ Spared g w w' := by
  obtain ⟨hBg, v, kb, own⟩ := hW
  have h1 := item_len2 s hs
  have h := item_from w B g v (l ++ Lib.itoa (s.length : Int)) s hBg kb hs (by rw [List.length_append]; omega) (appendInt_own s.length (by omega) own (Nat.le_trans hBg (Nat.le_of_lt kb.lt)) (by omega) (hE.tab hn))
  rw [List.append_assoc] at h
  exact h
theorem item_first (w : World) (B g : Nat) (c : UInt8) (s : List UInt8) (hW : WrC w B g c) (hs : s.length < 100) :
    Calls Tryz.prog 96 #[.pointer (some ⟨g, 0, none⟩), .string (bs s)] w fun e w' => e = .returned (.tuple #[]) ∧ WrO w' B g (c :: Mb.item s) ∧ Below B w w' ∧ Spared g w w' := by
  obtain ⟨hBg, q, hBq, hqg, hql, kb, hc⟩ := hW
  have hBw : B ≤ w.heap.size := Nat.le_trans hBg (Nat.le_of_lt kb.lt)
  have h1 := item_len2 s (by omega)
  have hi : Lib.itoa (s.length : Int) = Lib.decDigits s.length := by
    unfold Lib.itoa
    rw [if_neg (by omega), show ((s.length : Int)).toNat = s.length from Int.toNat_natCast _]
  rw [hi] at h1
  have h := item_from w B g _ (c :: Lib.decDigits s.length) s hBg kb (by omega) (by rw [List.length_cons]; omega) ((appendInt_full s.length hs q c hc).mono fun e w1 h => by
    obtain ⟨v1, he, ho, hb⟩ := h
    exact ⟨v1, he, own_lower ho hBw, hb.mono hBw, (Lib.OthersKept.refl _ _ w).below hb⟩)
  unfold Mb.item
  rw [hi]
  exact h
/-- either -/
def WrX (w : World) (B g : Nat) (l : List UInt8) : Prop := WrO w B g l ∨ ∃ c, l = [c] ∧ WrC w B g c
theorem item_x (n0 : Nat) (w : World) (B g : Nat) (l s : List UInt8) (hE : Env n0 w) (hn : n0 ≤ B) (hW : WrX w B g l) (hs : s.length < 100) (hl : l.length ≤ 90000000) :
    Calls Tryz.prog 96 #[.pointer (some ⟨g, 0, none⟩), .string (bs s)] w fun e w' => e = .returned (.tuple #[]) ∧ WrO w' B g (l ++ Mb.item s) ∧ Below B w w' ∧ Spared g w w' := by
  rcases hW with h | ⟨c, rfl, h⟩
  · exact item_own n0 w B g l s hE hn h (by omega) hl
  · exact item_first w B g c s h hs
theorem WrX.le {w : World} {B g : Nat} {l : List UInt8} (h : WrX w B g l) : B ≤ g := h.elim (fun h => h.1) fun ⟨_, _, h⟩ => h.1
theorem WrX.glt {w : World} {B g : Nat} {l : List UInt8} (h : WrX w B g l) : g < w.heap.size := h.elim (fun ⟨_, _, h, _⟩ => h.lt) fun ⟨_, _, _, _, _, _, _, h, _⟩ => h.lt
theorem WrX.ext {w w' : World} {B g : Nat} {l : List UInt8} (h : WrX w B g l) (hb : Below w.heap.size w w') : WrX w' B g l := by
  rcases h with ⟨h1, v, h2, h3⟩ | ⟨c, hc, h1, q, h2, h3, h4, h5, h6⟩
  · exact .inl ⟨h1, v, h2.ext hb, h3.ext hb⟩
  · exact .inr ⟨c, hc, h1, q, h2, h3, Nat.lt_of_lt_of_le h4 hb.size, h5.ext hb, (hb.cell (p := ⟨q, 0, none⟩) h4).trans h6⟩
theorem WrO.ext {w w' : World} {B g : Nat} {l : List UInt8} (h : WrO w B g l) (hb : Below w.heap.size w w') : WrO w' B g l := by
  obtain ⟨h1, v, h2, h3⟩ := h
  exact ⟨h1, v, h2.ext hb, h3.ext hb⟩
theorem flat_le {α β : Type} (f : α → List β) (l : List α) (k : Nat) : ((l.take k).flatMap f).length ≤ (l.flatMap f).length := by
  conv => rhs; rw [← List.take_append_drop k l, List.flatMap_append, List.length_append]
  omega
theorem flat_take1 {α β : Type} (f : α → List β) (l : List α) (k : Nat) (hk : k < l.length) : ((l.take k).flatMap f).length + (f l[k]).length ≤ (l.flatMap f).length := by
  have := flat_le f l (k + 1)
  rw [take_flat f l k hk, List.length_append] at this
  exact this
set_option maxRecDepth 100000 in
set_option maxHeartbeats 2000000 in
theorem numbers_ok (n0 : Nat) (w : World) (B g q : Nat) (l : List UInt8) (ns : List Int) (hE : Env n0 w) (hn : n0 ≤ B) (hW : WrX w B g l) (hq : Blk w q 3 (ns.map fun n => Value.int .i64 n).toArray) (hns : 0 < ns.length) (hnl : ns.length ≤ 1000) (hr : ∀ n ∈ ns, -9223372036854775808 ≤ n ∧ n ≤ 9223372036854775807) (hl : l.length + (Mb.numsB ns).length ≤ 90000000) :
    Calls Tryz.prog 62 #[.pointer (some ⟨g, 0, none⟩), .slice (some ⟨q, 0, none⟩) ns.length ns.length] w fun e w' => e = .returned (.tuple #[]) ∧ WrO w' B g (l ++ Mb.numsB ns) ∧ Below B w w' ∧ Spared g w w' := by
  have hqg : q ≠ g := fun e => by
    subst e
    rcases hW with ⟨_, v, h, _⟩ | ⟨_, _, _, _, _, _, _, h, _⟩
    · unfold Blk at h hq; rw [hq] at h; injection h with h; injection h with _ h; exact absurd h (by decide)
    · unfold Blk at h hq; rw [hq] at h; injection h with h; injection h with _ h; exact absurd h (by decide)
  have hBw : B ≤ w.heap.size := Nat.le_trans hW.le (Nat.le_of_lt hW.glt)
  go_enter Tryz.func62, Tryz.ntmps62
  go_wp2_with fail
  go_loopw [8] (fun i wr => ∃ k : Nat, k ≤ ns.length ∧ i = .int .i64 (k : Int) ∧ Hid (WrX wr B g (l ++ Mb.numsB (ns.take k)) ∧ (0 < k → WrO wr B g (l ++ Mb.numsB (ns.take k)))) ∧ Blk wr q 3 (ns.map fun n => Value.int .i64 n).toArray ∧ Below B w wr ∧ Hid (Spared g w wr)) (fun i _ => ns.length - (intOf i).toNat)
  case atStart => exact ⟨0, Nat.zero_le _, rfl, Lib.hid ⟨by simpa [Mb.numsB] using hW, fun h => absurd h (by omega)⟩, hq, Below.refl _ _, Lib.hid (Lib.OthersKept.refl _ _ _)⟩
  case round =>
    obtain ⟨k, hk, rfl, hX, hqr, hbr, hsr⟩ := hrel
    have hzr := hbr.size
    by_cases hlt : k < ns.length
    · have hcell : wr.cell? ⟨q, k, none⟩ = some (.int .i64 ns[k]) := by rw [hqr.cell]; simp [hlt]
      have hrk := hr _ (List.getElem_mem hlt)
      have htk := flat_take1 Mb.numb ns k hlt
      have hcat : Mb.numsB (ns.take (k + 1)) = Mb.numsB (ns.take k) ++ Mb.numb ns[k] := take_flat Mb.numb ns k hlt
      obtain ⟨n, hnn⟩ : ∃ n, n = ns[k] := ⟨_, rfl⟩
      rw [← hnn] at hcell hrk htk hcat
      have hil := Lib.itoa_length_le n hrk.1 hrk.2
      have Hit := Lib.hid (fun W (h : Lib.TabIs Tryz.prog W "internal/strconv.uint64pow10" .u64 Lib.pow10Tab) => Tryz.strconv_Itoa n hrk.1 hrk.2 W h)
      have hEr := hE.ext hbr hn
      have Hcat := Lib.hid hcat
      have Hlen := Lib.hid (show (l ++ Mb.numsB (ns.take k)).length ≤ 90000000 by
        rw [List.length_append]
        unfold Mb.numsB at hl ⊢
        omega)
      clear hcat htk hnn
      go_wp2_with (first
        | (go_at_call 97; refine (Hit.out wr hEr.1.here).mono ?_; rintro e w2 ⟨rfl, k2, os2, hw2⟩; have hb2 : Below wr.heap.size wr w2 := hw2 ▸ below_growN wr k2 os2; clear hw2; refine Hid.out ?_))
      refine Lib.hid ?_
      have hE2 := hEr.ext hb2 (by omega)
      have hX2 := hX.out.1.ext hb2
      have hb2' := hbr.trans (hb2.mono (by omega))
      have hs2 := hsr.out.below hb2
      have Hcall := Lib.hid (item_x n0 w2 B g _ (Lib.itoa n) hE2 hn hX2 (by omega) Hlen.out)
      have hq2 := hqr.ext hb2
      have hz2 := hb2.size
      clear hX hX2 hEr hE2 hb2 hbr hsr Hit hqr
      go_wp2_with (go_at_call 96; refine Hcall.out.mono ?_; rintro e w3 ⟨rfl, hO3, hb3, hs3⟩)
      go_roundw
      case rel =>
        have hO : WrO w3 B g (l ++ Mb.numsB (ns.take (k + 1))) := by
          rw [Hcat.out, ← List.append_assoc]
          exact hO3
        exact ⟨k + 1, by omega, by go_num, Lib.hid ⟨.inl hO, fun _ => hO⟩, hq2.spared hs3 hqg (by decide), hb2'.trans hb3, Lib.hid (Lib.OthersKept.trans hs2 hs3)⟩
      case measure => simp [intOf]; omega
    · have hO := hX.out.2 (by omega)
      rw [List.take_of_length_le (by omega)] at hO
      go_wp2_with fail
      refine bodyPost_end (results_none rfl _ _ _) rfl ⟨rfl, hO, hbr, hsr.out⟩
end Go.Proofs.YtjamjkjmlckgeaaGreatDoor
