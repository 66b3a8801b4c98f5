/-
  Contracts and plain facts, one after another: The plain laws of logs that the statements are made of; Logs of records of mailboxes; plain; The records of a mailbox; the record of a change behind a log.
-/
import Derived.Test.YtjamjkjmlckgeaaGreatDoorF17
import Derived.Test.YtjamjkjmlckgeaaGreatDoorF43
import Derived.Test.YtjamjkjmlckgeaaGreatDoorF12
import Derived.Test.YtjamjkjmlckgeaaGreatDoorF42
namespace Go.Proofs.YtjamjkjmlckgeaaGreatDoor

theorem endOf_nil : endOf [] = 0 := rfl
theorem recs_cut (l r : List UInt8) (k : Nat) (he : endOf (recs l) = l.length) (hr : r.length ≤ 20000) :
    recs (l ++ (storedF r).take k) = recs l ++ if r.length + 10 ≤ k then [(l.length, r)] else [] := by
  obtain ⟨h1, _⟩ := recs_links l
  rw [he] at h1
  have h2 : Links (l ++ (storedF r).take k) 0 (recs l) l.length := h1.local_ (by simp) (Nat.zero_le _) (by simp)
  have h3 := recAt_stored l r k hr
  by_cases hk : r.length + 10 ≤ k
  · rw [if_pos hk] at h3 ⊢
    have h4 := h2.snoc h3
    refine recs_of_links h4 (recAt_short ?_)
    have := storedF_len r
    rw [List.length_append, List.length_take]; omega
  · rw [if_neg hk] at h3 ⊢
    rw [List.append_nil]
    exact recs_of_links h2 h3
theorem recs_repair (l : List UInt8) : recs (l.take (endOf (recs l))) = recs l := by
  obtain ⟨h1, _⟩ := recs_links l
  have hle := endOf_le l
  have h2 : Links (l.take (endOf (recs l))) 0 (recs l) (endOf (recs l)) := h1.local_ (by rw [List.length_take]; omega) (Nat.zero_le _) (by rw [List.take_take, Nat.min_self])
  exact recs_of_links h2 (recAt_short (by rw [List.length_take]; omega))
theorem recs_none {l : List UInt8} (h : recAt l 0 = none) : recs l = [] := recAt_none h _

theorem set_split {α : Type} (l : List α) (i : Nat) (x : α) (h : i < l.length) : l = l.take i ++ l[i] :: l.drop (i + 1) ∧ l.set i x = l.take i ++ x :: l.drop (i + 1) := by
  refine ⟨by simp, ?_⟩
  rw [List.set_eq_take_append_cons_drop, if_pos h]
theorem changed_none (r : List UInt8) (at_ : Nat) (x : UInt8) (hr : r.length ≤ 20000) (h2 : 2 ≤ at_) (hat : at_ < (storedF r).length) (hx : x ≠ (storedF r)[at_]) :
    recAt ((storedF r).set at_ x) 0 = none := by
  cases h : recAt ((storedF r).set at_ x) 0 with
  | none => rfl
  | some r' =>
    exfalso
    have hsl := storedF_len r
    obtain ⟨k1, k2, k3⟩ := recAt_len h
    have hlen : r'.length = r.length := by
      have h' := h
      unfold recAt at h'
      rw [if_pos (by rw [List.length_set]; omega)] at h'
      have g0 : ((storedF r).set at_ x).getD 0 0 = u8 (r.length / 256) := by
        rw [List.getD, List.getElem?_set_ne (by omega)]; simp [storedF, headF]
      have g1 : ((storedF r).set at_ x).getD (0 + 1) 0 = u8 r.length := by
        rw [List.getD, List.getElem?_set_ne (by omega)]; simp [storedF, headF]
      rw [g0, g1] at h'
      dsimp only at h'
      rw [len_bytes hr] at h'
      split at h'
      · cases h'
      · split at h'
        · injection h' with h'
          rw [← h', List.length_drop, List.length_take, List.length_set, hsl]; omega
        · cases h'
    have hst : storedF r' = (storedF r).set at_ x := by
      have h' := h
      unfold recAt at h'
      split at h'
      · dsimp only at h'
        split at h'
        · cases h'
        · split at h'
          · rename_i hc
            injection h' with h'
            rw [h'] at hc
            rw [eq_of_beq hc, List.drop_zero, List.take_of_length_le]
            have e : r'.length = 256 * (((storedF r).set at_ x).getD 0 0).toNat + (((storedF r).set at_ x).getD (0 + 1) 0).toNat := by
              rw [← h', List.length_drop, List.length_take]; omega
            rw [← e, List.length_set, hsl]; omega
          · cases h'
      · cases h'
    have hh : (headF r).length = r.length + 2 := by simp [headF]
    have hh' : (headF r').length = r.length + 2 := by simp [headF, hlen]
    by_cases hlt : at_ < r.length + 2
    · have e1 : headF r' ++ tailF (sumF (headF r')) 8 = (headF r).set at_ x ++ tailF (sumF (headF r)) 8 := by
        rw [← List.set_append_left _ _ (by omega)]; exact hst
      obtain ⟨e2, e3⟩ := List.append_inj e1 (by simp [hh, hh'])
      have e4 := tailF_inj _ _ e3
      obtain ⟨s1, s2⟩ := set_split (headF r) at_ x (by omega)
      rw [e2, s2] at e4
      conv at e4 => rhs; rw [s1]
      have e5 := sumF_changed _ _ _ _ e4
      refine hx (e5.trans ?_)
      simp [storedF, List.getElem_append_left (show at_ < (headF r).length by omega)]
    · have e1 : headF r' ++ tailF (sumF (headF r')) 8 = headF r ++ (tailF (sumF (headF r)) 8).set (at_ - (headF r).length) x := by
        rw [← List.set_append_right _ _ (by omega)]; exact hst
      obtain ⟨e2, _⟩ := List.append_inj e1 (by simp [hh, hh'])
      have e3 : r' = r := by
        have := congrArg (List.drop 2) e2
        simpa [headF] using this
      subst e3
      refine hx ?_
      have := congrArg (fun l : List UInt8 => l[at_]?) hst
      simp only [List.getElem?_set_self hat, List.getElem?_eq_getElem hat, Option.some.injEq] at this
      exact this.symm

theorem xor_u8 (a m : UInt8) : (((a ^^^ m).toNat : Nat) : Int) = bits .xor .u8 (a.toNat : Int) (m.toNat : Int) := by
  have ha := a.toNat_lt
  have hm := m.toNat_lt
  unfold bits
  have h2 : (BitVec.ofInt 8 (a.toNat : Int) ^^^ BitVec.ofInt 8 (m.toNat : Int)).toNat = (a ^^^ m).toNat := by
    rw [BitVec.ofInt_natCast, BitVec.ofInt_natCast, BitVec.toNat_xor, BitVec.toNat_ofNat, BitVec.toNat_ofNat, Nat.mod_eq_of_lt (by omega), Nat.mod_eq_of_lt (by omega), UInt8.toNat_xor]
  have h3 : IntKind.u8.wrap (((a ^^^ m).toNat : Nat) : Int) = (((a ^^^ m).toNat : Nat) : Int) := by
    have := (a ^^^ m).toNat_lt
    rw [IntKind.wrap_u8]; omega
  exact ((congrArg (fun z : Nat => IntKind.u8.wrap (z : Int)) h2).trans h3).symm
theorem xor_ne (a m : UInt8) (hm : m ≠ 0) : a ^^^ m ≠ a := fun h => hm (by
  have := congrArg (fun z => a ^^^ z) h
  simpa [← UInt8.xor_assoc] using this)
end Go.Proofs.YtjamjkjmlckgeaaGreatDoor
namespace Go.Proofs.YtjamjkjmlckgeaaGreatDoor
namespace Mb
def logB (l : List Rc) : List UInt8 := l.flatMap fun r => storedF (rcB r)
theorem logB_len : ∀ l : List Rc, (logB l).length = logLen l
  | [] => rfl
  | r :: l => by
    have ih := logB_len l
    unfold logB logLen at ih ⊢
    rw [List.flatMap_cons, List.length_append, ih, storedF_len, List.map_cons, List.sum_cons]
theorem logB_snoc (l : List Rc) (r : Rc) : logB (l ++ [r]) = logB l ++ storedF (rcB r) := by
  unfold logB
  rw [List.flatMap_append, List.flatMap_cons, List.flatMap_nil, List.append_nil]
theorem recs_full (l r : List UInt8) (he : endOf (recs l) = l.length) (hr : r.length ≤ 20000) : recs (l ++ storedF r) = recs l ++ [(l.length, r)] := by
  have h := recs_cut l r (r.length + 10) he hr
  rw [if_pos (Nat.le_refl _), List.take_of_length_le (by rw [storedF_len]; exact Nat.le_refl _)] at h
  exact h
theorem logB_recsN : ∀ (n : Nat) (l : List Rc), l.length = n → (∀ r ∈ l, RcIn r) → (recs (logB l)).map (·.2) = l.map rcB ∧ endOf (recs (logB l)) = (logB l).length
  | 0, l, hn, _ => by
    have := List.length_eq_zero_iff.1 hn
    subst this
    have : recs (logB []) = [] := recs_none (recAt_short (by show (0 : Nat) < 0 + 10; omega))
    rw [this]
    exact ⟨rfl, rfl⟩
  | n + 1, l, hn, h => by
    obtain ⟨a, r, rfl⟩ : ∃ a r, l = a ++ [r] := by
      rcases List.eq_nil_or_concat l with rfl | ⟨a, r, e⟩
      · cases hn
      · exact ⟨a, r, by rw [e, List.concat_eq_append]⟩
    rw [List.length_append] at hn
    obtain ⟨h1, h2⟩ := logB_recsN n a (by simpa using hn) fun x hx => h x (List.mem_append_left _ hx)
    have h3 := rc_len (h r (List.mem_append_right _ (.head _)))
    rw [logB_snoc, recs_full _ _ h2 h3]
    constructor
    · rw [List.map_append, h1, List.map_append]
      rfl
    · rw [endOf_snoc, h2, List.length_append, storedF_len]
      omega
theorem logB_recs {l : List Rc} (h : ∀ r ∈ l, RcIn r) : (recs (logB l)).map (·.2) = l.map rcB ∧ endOf (recs (logB l)) = (logB l).length := logB_recsN l.length l rfl h
/-- an end that is no record changes nothing -/
theorem logB_torn {l : List Rc} (h : ∀ r ∈ l, RcIn r) (r : List UInt8) (k : Nat) (hr : r.length ≤ 20000) (hk : k < r.length + 10) : (recs (logB l ++ (storedF r).take k)).map (·.2) = l.map rcB := by
  obtain ⟨h1, h2⟩ := logB_recs h
  rw [recs_cut _ _ _ h2 hr, if_neg (by omega), List.append_nil, h1]
theorem torn9 : ([0, 9] : List UInt8) = (storedF (List.replicate 9 0)).take 2 := rfl
theorem torn7 : ([0, 7, 67] : List UInt8) = (storedF (67 :: List.replicate 6 0)).take 3 := rfl
theorem append_log {l : List Rc} {r : Rc} (h : ∀ x ∈ l, RcIn x) (hr : RcIn r) (hn : logLen (l ++ [r]) ≤ 400000) : appendF (logB l) (rcB r) = (logB (l ++ [r]), 0, 0) := by
  have h1 := (logB_recs h).2
  have h2 := rc_len hr
  have h3 := logB_len l
  have h4 : logLen (l ++ [r]) = logLen l + ((rcB r).length + 10) := by
    rw [logLen_append]
    unfold logLen
    simp
  unfold appendF
  rw [if_neg (by omega), if_neg (by omega), if_neg (by omega), if_neg (by omega), logB_snoc]
theorem read_log {l : List Rc} (h : ∀ x ∈ l, RcIn x) (hn : logLen l ≤ 400000) : readF (logB l) = (l.map rcB, (logB l).length, 0, 0) := by
  obtain ⟨h1, h2⟩ := logB_recs h
  have h3 := logB_len l
  unfold readF
  rw [if_neg (by omega), h1, h2]
theorem read_torn {l : List Rc} (h : ∀ x ∈ l, RcIn x) (t : List UInt8) (ht : t = [0, 9] ∨ t = [0, 7, 67]) (hn : logLen l ≤ 390000) : (readF (logB l ++ t)).1 = l.map rcB ∧ (readF (logB l ++ t)).2.2 = (0, 0) := by
  have h3 := logB_len l
  have h4 : t.length ≤ 3 := by rcases ht with rfl | rfl <;> decide
  have h5 : (recs (logB l ++ t)).map (·.2) = l.map rcB := by
    rcases ht with rfl | rfl
    · rw [torn9]; exact logB_torn h _ 2 (by decide) (by decide)
    · rw [torn7]; exact logB_torn h _ 3 (by decide) (by decide)
  unfold readF
  rw [if_neg (by rw [List.length_append]; omega)]
  exact ⟨h5, rfl⟩
end Mb
end Go.Proofs.YtjamjkjmlckgeaaGreatDoor
namespace Go.Proofs.YtjamjkjmlckgeaaGreatDoor
open Go.RowKit
set_option linter.unusedVariables false

theorem fld_size {l : List Mb.Fld} {x : Mb.Fld} (h : x ∈ l) : x.1.length + x.2.length + 4 ≤ Mb.sizeF l := by
  unfold Mb.sizeF
  induction l with
  | nil => cases h
  | cons y l ih =>
    rw [List.map_cons, List.sum_cons]
    rcases List.mem_cons.1 h with rfl | h
    · omega
    · have := ih h; omega
theorem msgSz_of {m : Mb.Msg} (h : Mb.MsgIn m) : MsgSz m := ⟨by have := h.1; omega, fun x hx => by have := fld_size hx; have := h.2; omega, by have := h.2; omega⟩
theorem list_in4 {a b c d : Int} (ha : Mb.i64 a) (hb : Mb.i64 b) (hc : Mb.i64 c) (hd : Mb.i64 d) : ∀ n ∈ [a, b, c, d], -9223372036854775808 ≤ n ∧ n ≤ 9223372036854775807 := by
  intro n hn
  simp only [List.mem_cons, List.not_mem_nil, or_false] at hn
  rcases hn with rfl | rfl | rfl | rfl
  · exact ha.big
  · exact hb.big
  · exact hc.big
  · exact hd.big
theorem list_in5 {a b c d e : Int} (ha : Mb.i64 a) (hb : Mb.i64 b) (hc : Mb.i64 c) (hd : Mb.i64 d) (he : Mb.i64 e) : ∀ n ∈ [a, b, c, d, e], -9223372036854775808 ≤ n ∧ n ≤ 9223372036854775807 := by
  intro n hn
  simp only [List.mem_cons, List.not_mem_nil, or_false] at hn
  rcases hn with rfl | rfl | rfl | rfl | rfl
  · exact ha.big
  · exact hb.big
  · exact hc.big
  · exact hd.big
  · exact he.big
theorem ofEnt_ok (n0 : Nat) (w : World) (c : Mb.Ent) (f b : Value) (hE : Env n0 w) (hn : n0 ≤ w.heap.size) (hf : SlR fldC M0 w f c.2.2.2.2.1) (hb : SlR byteC M0 w b c.2.2.2.2.2) (h : Mb.RcIn (.ent c)) :
    Calls Tryz.prog 46 #[entV c f b] w fun e w' => ∃ v, e = .returned v ∧ Own byteC M0 w' w.heap.size 5 v (Mb.entB c) ∧ Below w.heap.size w w' :=
  ofMessage_ok n0 w c f b hE hn hf hb (list_in4 h.1 h.2.1 h.2.2.1 h.2.2.2.1) (msgSz_of h.2.2.2.2) (by have := Mb.msgB_len h.2.2.2.2; omega)
theorem ofChg_ok (n0 : Nat) (w : World) (c : Mb.Chg) (f b : Value) (hE : Env n0 w) (hn : n0 ≤ w.heap.size) (hf : SlR fldC M0 w f c.2.2.2.2.2.1) (hb : SlR byteC M0 w b c.2.2.2.2.2.2) (h : Mb.RcIn (.chg c)) :
    Calls Tryz.prog 31 #[chgV c f b] w fun e w' => ∃ v, e = .returned v ∧ Own byteC M0 w' w.heap.size 5 v (Mb.chgB c) ∧ Below w.heap.size w w' :=
  ofChange_ok n0 w c f b hE hn hf hb (list_in5 h.1 h.2.1 h.2.2.1 h.2.2.2.1 h.2.2.2.2.1) (msgSz_of h.2.2.2.2.2) (by have := Mb.msgB_len h.2.2.2.2.2; omega)
theorem ofBox_ok (n0 : Nat) (w : World) (b : Mb.Box) (es gs : Value) (hE : Env n0 w) (hn : n0 ≤ w.heap.size) (hes : SlR entC M0 w es b.es) (hgs : SlR gnC M0 w gs b.gs) (h : Mb.RcIn (.head b.nu b.ns b.hz b.gs)) :
    Calls Tryz.prog 45 #[boxV b es gs] w fun e w' => ∃ v, e = .returned v ∧ Own byteC M0 w' w.heap.size 5 v (Mb.headB b) ∧ Below w.heap.size w w' :=
  ofHead_ok n0 w b es gs hE hn hes hgs (list_in4 h.1 h.2.1 h.2.2.1 ⟨by omega, by have := h.2.2.2.1; omega⟩) (fun x hx => h.2.2.2.2 x hx) (by have := h.2.2.2.1; omega)
set_option maxRecDepth 100000 in
set_option maxHeartbeats 4000000 in
theorem mrecords_ok (n0 : Nat) (w : World) (b : Mb.Box) (es gs : Value) (hE : Env n0 w) (hn : n0 ≤ w.heap.size) (hes : SlR entC M0 w es b.es) (hgs : SlR gnC M0 w gs b.gs) (hG : Mb.Good b) :
    Calls Tryz.prog 22 #[boxV b es gs] w fun e w' => ∃ v, e = .returned v ∧ Own (sliceC byteC) M0 w' w.heap.size 29 v (Mb.boxR b) ∧ Below w.heap.size w w' := by
  have hin := Mb.box_in hG
  have hle := hG.le
  have hof := fun W (h1 : Env n0 W) (h2 : n0 ≤ W.heap.size) (h3 : SlR entC M0 W es b.es) (h4 : SlR gnC M0 W gs b.gs) => ofBox_ok n0 W b es gs h1 h2 h3 h4 (hin _ (.head _))
  have hR : Mb.boxR b = Mb.headB b :: b.es.map Mb.entB := rfl
  obtain ⟨Ae, ce, rfl, hec, hem⟩ := hes.form
  obtain ⟨Ag, cg, rfl, hgc, hgm⟩ := hgs.form
  unfold boxV at hof ⊢
  obtain ⟨w0, g, hw0, hg, hsz0, k0, hb0⟩ := box1 w #[.int .i64 b.nu, .int .i64 b.ns, .int .i64 b.hz, .slice Ae b.es.length ce, .slice Ag b.gs.length cg] 26
  have Hof := Lib.hid (hof w0 (hE.ext hb0 hn) (by have := hb0.size; omega) (hes.ext hb0) (hgs.ext hb0))
  have he0 := hes.ext hb0
  have c0 := k0.cell 0; have c1 := k0.cell 1; have c2 := k0.cell 2; have c3 := k0.cell 3; have c4 := k0.cell 4
  have Hin := Lib.hid hin
  have HR := Lib.hid hR
  clear hof hin hR hes hgs hsz0
  go_enter Tryz.func22, Tryz.ntmps22
  go_wp2_with (go_at_call 45; refine Hof.out.mono ?_; rintro e w1 ⟨v1, rfl, own1, hb1⟩; refine Hid.out ?_)
  obtain ⟨A1, q1, rfl, _, _⟩ := own1.shape
  have hr1 : SlR byteC M0 w1 (.slice A1 (Mb.headB b).length q1) (Mb.headB b) := own1.read0
  have hel : Els (sliceC byteC) M0 w1 [.slice A1 (Mb.headB b).length q1] [Mb.headB b] := Els.single (C := sliceC byteC) ⟨_, rfl, hr1⟩
  obtain ⟨w2, g2, hw2, hg2, hsz2, k2, hb2⟩ := box1 w1 #[.slice A1 (Mb.headB b).length q1] 29
  have hb01 := below2 hb0 hb1
  have own2 : Own (sliceC byteC) M0 w2 w0.heap.size 29 (.slice (some ⟨g2, 0, none⟩) [Mb.headB b].length 1) [Mb.headB b] := by
    have h9 := Own.built (B := w0.heap.size) 29 hel hb1.size (by simp [maxLen])
    rw [← hw2, ← hg2]
    exact h9
  have hb02 := hb1.trans (hb2.mono hb1.size)
  have c3 := (k0.ext hb02).cell 3
  clear hel hr1 own1 k2 hsz2 Hof c0 c1 c2 c4 hb01 hb1 hb2
  refine Lib.hid ?_
  go_wp2_with fail
  go_loopw [3, 12] (fun o i wr => ∃ (k : Nat) (A : Option Addr) (c : Nat) (L : List (List UInt8)), k ≤ b.es.length ∧ i = .int .i64 (k : Int) ∧ o = .slice A L.length c ∧ Hid (L = Mb.headB b :: (b.es.take k).map Mb.entB) ∧ Own (sliceC byteC) M0 wr w0.heap.size 29 (.slice A L.length c) L ∧ Below w0.heap.size w0 wr) (fun _ i _ => b.es.length - (intOf i).toNat)
  case atStart => exact ⟨0, _, _, [Mb.headB b], Nat.zero_le _, rfl, rfl, Lib.hid (by simp), own2, hb02⟩
  case round =>
    obtain ⟨k, A, c, L, hk, rfl, rfl, hL, own, hbr⟩ := hrel
    clear c3
    have hzr := hbr.size
    by_cases hlt : k < b.es.length
    · obtain ⟨bb, off, Af, cf, Ab, cb, rfl, _, _, q0, q1, q2, q3, q4, q5, qf, qb⟩ := (he0.ext hbr).entAt hlt
      obtain ⟨wx, gx, hwx, hgx, hszx, kx, hbx⟩ := box1 wr #[.int .i64 b.es[k].1, .int .i64 b.es[k].2.1, .int .i64 b.es[k].2.2.1, .int .i64 b.es[k].2.2.2.1, .slice Af b.es[k].2.2.2.2.1.length cf, .slice Ab b.es[k].2.2.2.2.2.length cb] 65
      have hE1 : Env n0 wx := ((hE.ext hb0 hn).ext hbr (by have := hb0.size; omega)).ext hbx (by have := hb0.size; omega)
      have HM := Lib.hid (ofEnt_ok n0 wx b.es[k] _ _ hE1 (by have := hb0.size; have := hbx.size; omega) (qf.ext hbx) (qb.ext hbx) (Hin.out (.ent b.es[k]) (.tail _ (List.mem_map.2 ⟨_, List.getElem_mem hlt, rfl⟩))))
      have hcat : b.es.take (k + 1) = b.es.take k ++ [b.es[k]] := List.take_succ_eq_append_getElem hlt
      have Hcat := Lib.hid hcat
      have x0 := kx.cell 0; have x1 := kx.cell 1; have x2 := kx.cell 2; have x3 := kx.cell 3; have x4 := kx.cell 4; have x5 := kx.cell 5
      have ownx := own.ext hbx
      have hbwx := hbr.trans (hbx.mono hzr)
      unfold entV at HM
      obtain ⟨tx, htx⟩ : ∃ x, x = Mb.entB b.es[k] := ⟨_, rfl⟩
      rw [← htx] at HM
      have Htx := Lib.hid htx
      have hLl : L.length = k + 1 := by rw [hL.out, List.length_cons, List.length_map, List.length_take]; omega
      have HLl := Lib.hid hLl
      clear hcat own kx hszx htx hLl hE1
      go_wp2_with (first
        | (go_at_call 46; refine HM.out.mono ?_; rintro e w3 ⟨v3, rfl, own3, hb3⟩; refine Hid.out ?_))
      obtain ⟨A3, c3, rfl, _, _⟩ := own3.shape
      have ownL := ownx.ext hb3
      have hbw3 := hbwx.trans (hb3.mono (by have := hbx.size; omega))
      have hrd : (sliceC byteC).rd (fun x => M0 x ∨ (Value.slice A L.length c).ownBlock = some x) w3 [.slice A3 tx.length c3] tx := ⟨_, rfl, own_freeR free_byte own3 fun x hx => hx.elim (fun h => h.elim) fun h => ownx.lt x h⟩
      have hz3 : w0.heap.size ≤ w3.heap.size := hbw3.size
      clear own3 HM
      refine Lib.hid ?_
      go_wp2_with (at_builtin; refine wpList_push_Own (sliceC byteC) TBytess rfl (.tmp 16) (.tmp 19) rfl rfl ownL (cs := [.slice A3 tx.length c3]) (y := tx) rfl hrd (fun x hx => hx.elim) ?a1 ?b1 hz3 ?_)
      case a1 => have := HLl.out; unfold maxLen; omega
      case b1 => have := HLl.out; omega
      intro A4 c4 L4 w4 hL4 own4 hb4 hg4 hor4
      have HL4 := Lib.hid (show L4 = Mb.headB b :: (b.es.take (k + 1)).map Mb.entB by rw [hL4.out, hL.out, Hcat.out, Htx.out, List.map_append]; rfl)
      have hbw4 := hbw3.trans hb4
      clear ownL ownx hrd hL4 hg4 hor4 hb4
      go_wp2_with fail
      go_roundw
      case rel => exact ⟨k + 1, A4, c4, L4, by omega, by go_num, rfl, HL4, own4, hbw4⟩
      case measure => simp [intOf]; omega
    · have hL2 : L = Mb.boxR b := by rw [hL.out, HR.out, List.take_of_length_le (by omega)]
      have HL2 := Lib.hid hL2
      clear hL hL2
      go_wp2_with fail
      go_ret
      refine ⟨_, rfl, ?_, below2 hb0 hbr⟩
      rw [← HL2.out]
      exact own_lower own hb0.size
set_option maxRecDepth 100000 in
set_option maxHeartbeats 4000000 in
theorem mlog_ok (n0 : Nat) (w : World) (v : Value) (l : List UInt8) (c : Mb.Chg) (f bd : Value) (hE : Env n0 w) (hn : n0 ≤ w.heap.size) (hl : SlR byteC M0 w v l) (hf : SlR fldC M0 w f c.2.2.2.2.2.1) (hb : SlR byteC M0 w bd c.2.2.2.2.2.2) (hr : Mb.RcIn (.chg c)) (h0 : (Mb.chgF c).1 = 0) :
    Calls Tryz.prog 12 #[v, chgV c f bd] w fun e w' => ∃ u, e = .returned (.tuple #[u, .agg #[.int .i64 (appendF l (Mb.chgB c)).2.1, .int .i64 (appendF l (Mb.chgB c)).2.2]]) ∧ Own byteC M0 w' w.heap.size 5 u (appendF l (Mb.chgB c)).1 ∧ Below w.heap.size w w' := by
  have hm := hr.2.2.2.2.2
  have hch := fun W (h1 : SlR fldC M0 W f c.2.2.2.2.2.1) (h2 : SlR byteC M0 W bd c.2.2.2.2.2.2) => change_ok c f bd W h1 h2 (by have := hm.1; omega) (by have := hm.2; omega)
  rw [(Mb.chg_ok h0).1] at hch
  have hof := fun W (h1 : Env n0 W) (h2 : n0 ≤ W.heap.size) (h3 : SlR fldC M0 W f c.2.2.2.2.2.1) (h4 : SlR byteC M0 W bd c.2.2.2.2.2.2) => ofChg_ok n0 W c f bd h1 h2 h3 h4 hr
  obtain ⟨A, cl, rfl, hlc, hlm⟩ := hl.form
  obtain ⟨r1, hr1⟩ : ∃ x, x = (appendF l (Mb.chgB c)).2.1 := ⟨_, rfl⟩
  obtain ⟨r2, hr2⟩ : ∃ x, x = (appendF l (Mb.chgB c)).2.2 := ⟨_, rfl⟩
  obtain ⟨R, hR⟩ : ∃ x, x = (appendF l (Mb.chgB c)).1 := ⟨_, rfl⟩
  have hap := fun W u (h1 : SlR byteC M0 W (.slice A l.length cl) l) (h2 : SlR byteC M0 W u (Mb.chgB c)) => append_ok _ u l (Mb.chgB c) W h1 h2
  rw [← hr1, ← hr2, ← hR] at hap
  rw [← hr1, ← hr2, ← hR]
  obtain ⟨tx, htx⟩ : ∃ x, x = Mb.chgB c := ⟨_, rfl⟩
  rw [← htx] at hap hof
  have Hap := Lib.hid hap
  obtain ⟨Af, cf, rfl, hfc, hfm⟩ := hf.form
  obtain ⟨Ab, cb, rfl, hbc, hbm⟩ := hb.form
  obtain ⟨kd, ud, st, cr, tm, fl, bdl⟩ := c
  dsimp only at hf hb hch hof ⊢
  unfold chgV at hch hof ⊢
  obtain ⟨w0, g, g2, hw0, hg, hg2, hsz0, k0, k02, hb0⟩ := box2 w #[.int .i64 kd, .int .i64 ud, .int .i64 st, .int .i64 cr, .int .i64 tm, .slice Af fl.length cf, .slice Ab bdl.length cb] 47 #[.int .i64 0, .int .i64 0] 31
  have hgl : w.heap.size ≤ g2 := by omega
  have hE0 := hE.ext hb0 hn
  have hz0 := hb0.size
  have Hch := Lib.hid (hch w0 (hf.ext hb0) (hb.ext hb0)); have Hof := Lib.hid hof
  have c0 := k0.cell 0; have c1 := k0.cell 1; have c2 := k0.cell 2; have c3 := k0.cell 3; have c4 := k0.cell 4; have c5 := k0.cell 5; have c6 := k0.cell 6
  have hf0 := hf.ext hb0; have hb0' := hb.ext hb0; have hl0 := hl.ext hb0
  clear hap hch hof hr1 hr2 hR htx hsz0 hf hb hl h0 hr hm hE
  go_enter Tryz.func12, Tryz.ntmps12
  go_wp2_with (go_at_call 30; refine Hch.out.mono ?_; rintro e w1 ⟨rfl, hb1⟩; refine Hid.out ?_)
  have hz : ((0 : Int) != 0) = false := rfl
  have k5 := Blk.new w1 31 #[.int .i64 0, .int .i64 0]
  clear c0 c1 c2 c3 c4 c5 c6
  refine Lib.hid ?_
  go_wp2_with (go_at_call 21; refine (failed_ok _ _ _).mono ?_; rintro e w2 ⟨rfl, hb2⟩; refine Hid.out ?_)
  have hb2' := below2 hb1 (below_alloc hb2)
  have k2 := k0.ext hb2'
  have c0 := k2.cell 0; have c1 := k2.cell 1; have c2 := k2.cell 2; have c3 := k2.cell 3; have c4 := k2.cell 4; have c5 := k2.cell 5; have c6 := k2.cell 6
  have hz2 := hb2'.size
  have Ho := Lib.hid (Hof.out w2 (hE0.ext hb2' (by omega)) (by omega) (hf0.ext hb2') (hb0'.ext hb2'))
  clear Hof k5 k2 Hch
  refine Lib.hid ?_
  go_wp2_with (go_at_call 31; refine Ho.out.mono ?_; rintro e w3 ⟨v3, rfl, own3, hb3⟩; refine Hid.out ?_)
  have hb3' := below2 hb2' hb3
  have Ha := Lib.hid (Hap.out w3 v3 (hl0.ext hb3') own3.read0)
  obtain ⟨A3, c3', rfl, _, _⟩ := own3.shape
  clear Ho own3 c0 c1 c2 c3 c4 c5 c6 Hap
  refine Lib.hid ?_
  go_wp2_with (go_at_call 23; refine Ha.out.mono ?_; rintro e w4 ⟨u4, rfl, own4, hb4⟩; refine Hid.out ?_)
  have hb4' := below2 hb3' hb4
  have k4 := k02.ext hb4'
  obtain ⟨A4, c4', rfl, _, _⟩ := own4.shape
  obtain ⟨p0, p1, p2, p3, p4⟩ := k4.two
  obtain ⟨e0, e1⟩ := k4.put2 (.int .i64 r1) (.int .i64 r2)
  have own5 := own_put2 flat_byte own4 (fun b hb => own_ne_blk own4 k4 (by decide) b hb) (.int .i64 r1) (.int .i64 r2)
  have Hown := Lib.hid own5
  have hz4 := hb3'.size
  clear own4 own5 Ha
  refine Lib.hid ?_
  go_wp2_with fail
  refine bodyPost_ret (v := .tuple #[.slice A4 R.length c4', .agg #[.int .i64 r1, .int .i64 r2]]) (by simp [results, Tryz.results12, go_sem, e0, e1]) rfl ⟨_, rfl, own_lower Hown.out (by omega), below_set2 (below2 hb0 hb4') hgl _ _⟩
end Go.Proofs.YtjamjkjmlckgeaaGreatDoor
