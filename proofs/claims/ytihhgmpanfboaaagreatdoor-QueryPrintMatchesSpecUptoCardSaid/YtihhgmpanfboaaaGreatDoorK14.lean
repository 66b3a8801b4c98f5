/-
  Contracts and plain facts, one after another: The reader of queries: several, phrase; The reader of queries: phrase.
-/
import Derived.Test.YtihhgmpanfboaaaGreatDoorRd4
import Derived.Test.YtihhgmpanfboaaaGreatDoorK12
import Derived.Test.YtihhgmpanfboaaaGreatDoorK13
import Derived.Lib.Join
namespace Go.Proofs.YtihhgmpanfboaaaGreatDoor
open Go.RowKit
set_option linter.unusedVariables false
set_option maxRecDepth 100000 in
set_option maxHeartbeats 4000000 in
theorem several_ok (f : Nat) (M : Nat → Prop) (k : Int) (v : Value) (l : List Q) (w : World) (h : SlR (qF f) M w v l) (hl : l ≠ []) (hk : 0 ≤ k ∧ k ≤ 10) : Calls Tryz.prog 43 #[.int .i64 k, v] w fun e w' => ∃ v', e = .returned v' ∧ QAt f M w' v' (Q.several k l) ∧ Below w.heap.size w w' := by
  obtain ⟨A, c, rfl, _, _⟩ := h.form
  obtain ⟨W, g, hW, hg, hs, kr, hal⟩ := boxA w #[.int .i64 0, .string ⟨#[]⟩, .int .i64 0, .slice none 0 0] 24
  obtain ⟨r0, r1, r2, r3, _⟩ := kr.four
  have f0 := kr.frozen 0; have f1 := kr.frozen 1; have f2 := kr.frozen 2; have f3 := kr.frozen 3
  rw [← hW, ← hg] at r0 r1 r2 r3 f0 f1 f2 f3
  have HW := Lib.hid hW
  by_cases h1 : l.length = 1
  · obtain ⟨q, rfl⟩ := List.length_eq_one_iff.1 h1
    have h' := h.ext hal
    obtain ⟨b, off, e, A2, c2, rfl, rfl, hMb, hb, s0, s1, s2, s3, hqa⟩ := h.qAt (k := 0) (by simp)
    simp only [List.getElem_cons_zero, Nat.zero_mul, Nat.add_zero] at s0 s1 s2 s3 hqa
    have hsv : Q.several k [q] = q := rfl
    rw [hsv]
    replace s0 := (hal.cell hb).trans s0
    replace s1 := (hal.cell hb).trans s1
    replace s2 := (hal.cell hb).trans s2
    replace s3 := (hal.cell hb).trans s3
    rw [← hW] at s0 s1 s2 s3
    obtain ⟨W2, g2, hW2, hg2, hs2, k2, hal2⟩ := boxA w #[.int .i64 q.kind, .string (bs q.text), .int .i64 q.num, .slice A2 q.parts.length c2] 24
    have HW2 := Lib.hid hW2; have Hg2 := Lib.hid hg2
    have Hend := Lib.hid (And.intro (hqa.ext hal2) (And.intro k2 hal2))
    clear hqa h h' hl h1 hsv hW hg hs kr hal hW2 hg2 hs2 k2 hal2
    go_enter Tryz.func43, Tryz.ntmps43
    go_wp2_with fail
    rw [HW2.out, Hg2.out]
    obtain ⟨hq2, k2, hal2⟩ := Hend.out
    obtain ⟨z0, z1, z2, z3, _⟩ := k2.four
    exact bodyPost_ret (v := .agg #[.int .i64 q.kind, .string (bs q.text), .int .i64 q.num, .slice A2 q.parts.length c2]) (by simp [results, Tryz.results43, go_sem, z0, z1, z2, z3]) rfl ⟨_, rfl, hq2.mono (Nat.le_succ _), by rw [← Hg2.out]; exact hal2⟩
  · have hn1 : ((l.length : Int) == 1) = false := beq_eq_false_iff_ne.2 (by omega)
    have hsv : Q.several k l = .node k [] 0 l := by
      unfold Q.several
      match l, hl, h1 with
      | [], hl, _ => exact absurd rfl hl
      | [q], _, h1 => exact absurd rfl h1
      | a :: b :: r, _, _ => rfl
    rw [hsv]
    obtain ⟨W2, g2, hW2, hg2, hs2, k2, hal2⟩ := boxA w #[.int .i64 k, .string ⟨#[]⟩, .int .i64 0, .slice A l.length c] 24
    have hq : QAt f M W2 (.agg #[.int .i64 k, .string ⟨#[]⟩, .int .i64 0, .slice A l.length c]) (.node k [] 0 l) := ⟨A, c, rfl, by simp only [Q.kind_node]; omega, by simp [maxLen], by simp, h.ext hal2⟩
    have HW2 := Lib.hid hW2; have Hg2 := Lib.hid hg2
    have Hend := Lib.hid (And.intro hq (And.intro k2 hal2))
    clear hq h hl h1 hsv hW hg hs kr hal hW2 hg2 hs2 k2 hal2
    go_enter Tryz.func43, Tryz.ntmps43
    go_wp2_with fail
    rw [HW2.out, Hg2.out]
    obtain ⟨hq2, k2, hal2⟩ := Hend.out
    obtain ⟨z0, z1, z2, z3, _⟩ := k2.four
    exact bodyPost_ret (v := .agg #[.int .i64 k, .string ⟨#[]⟩, .int .i64 0, .slice A l.length c]) (by simp [results, Tryz.results43, go_sem, z0, z1, z2, z3]) rfl ⟨_, rfl, hq2, by rw [← Hg2.out]; exact hal2⟩
end Go.Proofs.YtihhgmpanfboaaaGreatDoor
namespace Go.Proofs.YtihhgmpanfboaaaGreatDoor
open Go.RowKit
set_option linter.unusedVariables false
theorem skipS_le (r : Str) : (Q.skipS r).length ≤ r.length := by
  unfold Q.skipS
  exact (List.dropWhile_suffix _).length_le
theorem skipS_suf (r : Str) : Q.skipS r <:+ r := List.dropWhile_suffix _
theorem wordS_suf (r : Str) : (Q.wordS r).2 <:+ r := ⟨_, (wordS_split r.length r (Nat.le_refl _)).symm⟩
theorem wordS_lens (r : Str) : (Q.wordS r).1.length + (Q.wordS r).2.length = r.length := by
  have h := congrArg List.length (wordS_split r.length r (Nat.le_refl _))
  rw [List.length_append] at h
  exact h.symm
theorem phraseS_more : ∀ (n : Nat) (r : Str), r.length < n → Q.phraseS n r = Q.phraseS (r.length + 1) r
  | 0, r, h => absurd h (Nat.not_lt_zero _)
  | n + 1, r, h => by
    rw [Q.phraseS, Q.phraseS]
    split
    · rfl
    · rename_i hne
      have h1 := wordS_lens (Q.skipS r)
      have h2 := skipS_le r
      have h3 := List.length_pos_iff.2 hne
      rw [phraseS_more n _ (by omega)]
      have : ∀ m, (Q.wordS (Q.skipS r)).2.length < m → m ≤ n → Q.phraseS m (Q.wordS (Q.skipS r)).2 = Q.phraseS ((Q.wordS (Q.skipS r)).2.length + 1) (Q.wordS (Q.skipS r)).2 := fun m hm hmn => phraseS_more m _ hm
      rw [this r.length (by omega) (by omega)]
termination_by n _ => n
def phr (r : Str) : List Str × Str := Q.phraseS (r.length + 1) r
theorem phr_end {r : Str} (h : (Q.wordS (Q.skipS r)).1 = []) : phr r = ([], Q.skipS r) := by
  unfold phr; rw [Q.phraseS, if_pos h]
theorem phr_more {r : Str} (h : (Q.wordS (Q.skipS r)).1 ≠ []) : phr r = (Sm.lower (Q.wordS (Q.skipS r)).1 :: (phr (Q.wordS (Q.skipS r)).2).1, (phr (Q.wordS (Q.skipS r)).2).2) := by
  have h1 := wordS_lens (Q.skipS r)
  have h2 := skipS_le r
  have h3 := List.length_pos_iff.2 h
  unfold phr
  rw [Q.phraseS, if_neg h, phraseS_more r.length _ (by omega)]
theorem join_same (sep : Str) : ∀ l : List Str, Lib.join l sep = Q.join sep l
  | [] => rfl
  | [a] => by simp [Lib.join, Q.join, List.intercalate]
  | a :: b :: l => by
    have ih := join_same sep (b :: l)
    unfold Lib.join at ih ⊢
    rw [List.intercalate, List.intersperse, List.flatten_cons, List.flatten_cons]
    unfold Q.join at ih ⊢
    rw [List.intercalate] at ih
    rw [ih]
    all_goals simp
theorem join_len (sep : Str) : ∀ l : List Str, (Q.join sep l).length ≤ (l.map fun a => a.length + sep.length).sum
  | [] => by simp [Q.join]
  | a :: l => by
    have h : ∀ l : List Str, (l.flatMap fun b => sep ++ b).length ≤ (l.map fun a => a.length + sep.length).sum := by
      intro l
      induction l with
      | nil => simp
      | cons b l ih => simp only [List.flatMap_cons, List.length_append, List.map_cons, List.sum_cons]; omega
    unfold Q.join
    rw [List.length_append, List.map_cons, List.sum_cons]
    have := h l
    omega
theorem lower_none {s : Str} (h : Sm.lower s = []) : s = [] := by
  refine Decidable.byContradiction fun hne => ?_
  rw [Sm.lower_step hne] at h
  have h1 := (Sm.lowC_len (Lib.decodeL s).1).1
  rw [(List.append_eq_nil_iff.1 h).1] at h1
  simp at h1
/-- a text's row is kept where another block alone has turned -/
theorem Own.but {w w' : World} {B g : Nat} {e : TypeId} {v : Value} {l : List Str} (h : Own strC M0 w B e v l) (hb : But g w w') (hg : g < B) : Own strC M0 w' B e v l :=
  h.flat fun b hv => hb.block b (h.lt b hv) (by have := h.base b hv; omega)
theorem But.under2 {g B : Nat} {w0 w w' : World} (h : But g w0 w) (hb : Below B w w') (hB : w0.heap.size ≤ B) : But g w0 w' :=
  ⟨hb.os.trans h.os, hb.tape.trans h.tape, hb.output.trans h.output, Nat.le_trans h.size hb.size, fun k hk hn => (hb.block k (by omega)).trans (h.block k hk hn)⟩
theorem Rd.under {w w' : World} {g B : Nat} {s r : Str} (h : Rd w g s r) (hb : Below B w w') (hg : g < B) : Rd w' g s r := ⟨(hb.block g hg).trans h.1, h.2⟩
theorem map_bs (L : List Str) : (L.map bs).map (·.data.toList) = L := by
  rw [List.map_map]
  have : ((fun x : ByteArray => x.data.toList) ∘ bs) = id := by funext l; simp [bs]
  rw [this, List.map_id]
theorem joinL_ok (sep : Str) (M : Nat → Prop) (A : Option Addr) (c : Nat) (L : List Str) (w : World) (h : SlR strC M w (.slice A L.length c) L) (hl : (Q.join sep L).length ≤ 140737488355328) (hn : L.length ≤ 140737488355328) :
    Calls Tryz.prog 34 #[.slice A L.length c, .string (bs sep)] w fun e w' => e = .returned (.string (bs (Q.join sep L))) ∧ Below w.heap.size w w' := by
  by_cases h0 : L = []
  · subst h0
    refine (Tryz.strings_Join_none A c (bs sep) w).mono ?_
    rintro e w' ⟨rfl, rfl⟩
    exact ⟨rfl, Below.refl _ _⟩
  · have hp := List.length_pos_iff.2 h0
    obtain ⟨b, off, rfl, _, hb, _, _⟩ := h.strAt hp
    have hmap := map_bs L
    have hc : L.length ≤ c := by
      obtain ⟨A', c', he, h1, _⟩ := h.form
      injection he with _ _ e3
      omega
    have hj := Tryz.strings_Join b off c (L.map bs) (bs sep) w (fun j x hx => by
      rw [List.getElem?_map] at hx
      obtain ⟨y, hy, rfl⟩ := Option.map_eq_some_iff.1 hx
      obtain ⟨hj, rfl⟩ := List.getElem?_eq_some_iff.1 hy
      obtain ⟨b2, o2, he, _, _, hc, _⟩ := h.strAt hj
      injection he with he
      injection he with e1 e2
      subst e1 e2
      exact hc) hb (by rw [List.length_map]; exact hn) (by rw [List.length_map]; exact hc) (by rw [hmap, show (bs sep).data.toList = sep by simp [bs], join_same]; exact hl)
    rw [List.length_map, hmap, show (bs sep).data.toList = sep by simp [bs], join_same] at hj
    exact hj
/-- a result of four cells, stored -/
theorem put4 {w : World} {g : Nat} {t : TypeId} {a b c d : Value} (h : Blk w g t #[a, b, c, d]) (a' b' c' d' : Value) :
    Blk ((((w.setCell ⟨g, 0, none⟩ a').setCell ⟨g, 1, none⟩ b').setCell ⟨g, 2, none⟩ c').setCell ⟨g, 3, none⟩ d') g t #[a', b', c', d'] := by
  simpa using (((h.set_ 0 a').set_ 1 b').set_ 2 c').set_ 3 d'
theorem But.put4 {g gR : Nat} {a w : World} (h : But g a w) (hp : a.heap.size ≤ gR) (x y z u : Value) : But g a ((((w.setCell ⟨gR, 0, none⟩ x).setCell ⟨gR, 1, none⟩ y).setCell ⟨gR, 2, none⟩ z).setCell ⟨gR, 3, none⟩ u) :=
  (((h.put (p := ⟨gR, 0, none⟩) hp x).put (p := ⟨gR, 1, none⟩) hp y).put (p := ⟨gR, 2, none⟩) hp z).put (p := ⟨gR, 3, none⟩) hp u
theorem keep4 {w : World} {gR b : Nat} (x y z u : Value) (h : b ≠ gR) : ((((w.setCell ⟨gR, 0, none⟩ x).setCell ⟨gR, 1, none⟩ y).setCell ⟨gR, 2, none⟩ z).setCell ⟨gR, 3, none⟩ u).heap[b]? = w.heap[b]? := by
  rw [heap_set_ne _ _ _ h, heap_set_ne _ _ _ h, heap_set_ne _ _ _ h, heap_set_ne _ _ _ h]
theorem sum_bound (k B : Nat) : ∀ (L : List Str), (∀ x ∈ L, x.length ≤ B) → (L.map fun a => a.length + k).sum ≤ L.length * (B + k)
  | [], _ => by simp
  | a :: l, h => by
    have h1 := h a (.head _)
    have h2 := sum_bound k B l fun x hx => h x (.tail _ hx)
    rw [List.map_cons, List.sum_cons, List.length_cons, Nat.add_mul, Nat.one_mul]
    omega
/-- what a part of the reader does, by what the plain parser says -/
def ResAt (g : Nat) (s : Str) (w : World) (res : Q.Res) (e : Ending) (w' : World) : Prop :=
  match res with
  | .ok q u => ∃ f v, e = .returned v ∧ QAt f (fun b => b < w.heap.size) w' v q ∧ Rd w' g s u ∧ But g w w'
  | .err u => e = .panicked (thrown (s.length - u.length)) ∧ But g w w' ∧ u <:+ s
theorem quotedS_eq (t : Str) : Q.quotedS t = if (phr t).2.head? = some 34 ∧ (phr t).1 ≠ [] then .ok (.node 4 (Q.join [32] (phr t).1) 0 []) (phr t).2.tail else .err (phr t).2 := rfl
set_option maxRecDepth 100000 in
set_option maxHeartbeats 8000000 in
theorem rphrase_ok (w0 : World) (hT : TabsU w0) (g : Nat) (hg : w0.heap.size ≤ g) (s r : Str) (w : World) (hr : Rd w g s r) (hs : s.length ≤ 4000) (hb0 : Below w0.heap.size w0 w) : Calls Tryz.prog 81 #[.pointer (some ⟨g, 0, none⟩)] w (ResAt g s w (Q.quotedS r)) := by
  rw [quotedS_eq]
  obtain ⟨⟨pa, pb⟩, hp⟩ : ∃ x, phr r = x := ⟨_, rfl⟩
  rw [hp]
  dsimp only
  have hrl := hr.2.length_le
  obtain ⟨W, gR, hW, hgR, hsR, kr, hal⟩ := boxA w #[.int .i64 0, .string ⟨#[]⟩, .int .i64 0, .slice none 0 0] 24
  have hgw : g < w.heap.size := hr.1.two.2.2.2.2
  have HW := Lib.hid hW; have HgR := Lib.hid hgR
  have Hk := Lib.hid kr
  have Hr := Lib.hid (hr.ext hal); have Hb0 := Lib.hid (hb0.trans (hal.mono hb0.size)); have Hal := Lib.hid hal; have Hp := Lib.hid hp; have HT := Lib.hid hT
  have hgB : g < W.heap.size := by omega
  have hgn : gR ≠ g := by omega
  have hWs : w.heap.size ≤ W.heap.size := hal.size
  clear hp hW hgR hsR kr hal hr hb0 hT
  obtain ⟨R, hR⟩ : ∃ R, (if pb.head? = some 34 ∧ pa ≠ [] then Q.Res.ok (.node 4 (Q.join [32] pa) 0 []) pb.tail else Q.Res.err pb) = R := ⟨_, rfl⟩
  rw [hR]
  have HR := Lib.hid hR
  clear hR
  go_enter Tryz.func81, Tryz.ntmps81
  go_wp2_with fail
  rw [HW.out, HgR.out]
  go_loopw [3] (fun ov wr => ∃ (r' : Str) (A : Option Addr) (c : Nat) (L : List Str), ov = .slice A L.length c ∧ Hid (pa = L ++ (phr r').1 ∧ pb = (phr r').2) ∧ (∀ x ∈ L, x.length ≤ 16000) ∧ L.length + r'.length ≤ r.length ∧ Own strC M0 wr W.heap.size 9 (.slice A L.length c) L ∧ Rd wr g s r' ∧ But g W wr) (fun _ wr => s.length - (intOf ((wr.cell? ⟨g, 1, none⟩).getD undef)).toNat)
  case atStart => exact ⟨r, none, 0, [], rfl, Lib.hid ⟨by rw [Hp.out]; rfl, by rw [Hp.out]⟩, (fun _ h => (by cases h)), (by simp), Own.nil _ _ _ _ _, Hr.out, But.refl _ _⟩
  case round =>
    obtain ⟨r', A, c, L, rfl, hph, hLx, hLl, own, hr', hbt⟩ := hrel
    obtain ⟨wo, rfl⟩ : ∃ W, W = wr := ⟨_, rfl⟩
    have hsp := spaces_ok g s r' wo hr' hs
    have hsk := skipS_le r'
    have hc0 := hr'.1.two.2.1
    have hr'l := hr'.2.length_le
    have Hsp := Lib.hid hsp; have Hc0 := Lib.hid hc0; have Hbt := Lib.hid hbt
    clear hsp hc0 hr' hbt
    go_wp2_with fail
    refine Hsp.out.mono ?_
    rintro e w1 ⟨rfl, hr1, hbt1⟩
    have own1 := own.but hbt1 hgB
    have hbt01 := Hbt.out.trans hbt1
    have hwd := rword_ok w0 HT.out g hg s (Q.skipS r') w1 hr1 hs (hbt01.below Hb0.out hg)
    have hwl := wordS_lens (Q.skipS r')
    obtain ⟨⟨xa, xb⟩, hx⟩ : ∃ x, Q.wordS (Q.skipS r') = x := ⟨_, rfl⟩
    have hend := @phr_end r'
    have hmore := @phr_more r'
    have hws := wordS_split (Q.skipS r').length (Q.skipS r') (Nat.le_refl _)
    rw [hx] at hwd hwl hend hmore hws
    dsimp only at hwd hwl hend hmore hws
    have Hws := Lib.hid hws
    clear hws
    have hll := Sm.lower_len xa.length xa (Nat.le_refl _)
    have Hwd := Lib.hid hwd; have Hbt01 := Lib.hid hbt01; have Hend := Lib.hid hend; have Hmore := Lib.hid hmore
    clear hwd hbt01 hend hmore hx own hr1 Hsp hbt1
    go_wp2_with fail
    refine Hwd.out.mono ?_
    rintro e w2 ⟨rfl, hr2, hbt2⟩
    have own2 := own1.but hbt2 hgB
    have hbt02 := Hbt01.out.trans hbt2
    have Hbt02 := Lib.hid hbt02
    have hc2 := hr2.1.two.2.1
    have Hc2 := Lib.hid hc2; have Hr2 := Lib.hid hr2
    clear hbt02 hbt2 own1 Hwd hc2 hr2
    by_cases hxe : xa = []
    · subst hxe
      have hpe := Hend.out rfl
      have hpk := hph.out
      rw [hpe] at hpk
      have hpaL : L = pa := by rw [hpk.1, List.append_nil]
      have hpbL : Q.skipS r' = pb := hpk.2.symm
      subst hpaL hpbL
      have hxb : xb = Q.skipS r' := by
        have h1 := Hws.out
        simpa using h1.symm
      subst hxb
      have hw0 : (Sm.lower ([] : Str) == []) = true := rfl
      obtain ⟨x, hx0⟩ : ∃ x, (Q.skipS r').headD 0 = x := ⟨_, rfl⟩
      have hpk2 := peek_ok g s _ w2 Hr2.out.1 (by omega) hs
      rw [suf_byte Hr2.out.2, hx0] at hpk2
      have Hpk := Lib.hid hpk2; have Hx0 := Lib.hid hx0
      have hL48 : L.length ≤ 4000 := by omega
      clear hpk hpe hpk2 hx0 Hend Hmore hll hwl
      go_wp2_with fail
      refine Hpk.out.mono ?_
      rintro e w3 ⟨rfl, hb3⟩
      have own3 := own2.ext hb3
      have hr3 := Hr2.out.ext hb3
      have hbt3 := Hbt02.out.trans (But.of_below g hb3)
      obtain ⟨r0, r1, r2, r3, _⟩ := hr3.1.two
      have Hr3 := Lib.hid hr3; have Hbt3 := Lib.hid hbt3
      have hall : But g w w3 := (But.of_below g Hal.out).trans hbt3
      have Hall := Lib.hid hall
      clear hr3 hbt3 hb3 own2 Hpk hall
      by_cases h34 : x = 34
      · subst h34
        have hx34 : (((34 : UInt8).toNat : Int) != 34) = false := rfl
        obtain ⟨t, ht⟩ : ∃ t, Q.skipS r' = 34 :: t := by
          have h1 := Hx0.out
          cases hq : Q.skipS r' with
          | nil => rw [hq] at h1; cases h1
          | cons y t => rw [hq, List.headD_cons] at h1; rw [h1]; exact ⟨t, rfl⟩
        rw [ht] at Hr3 HR r1
        by_cases hl0 : L = []
        · subst hl0
          have hR : Q.Res.err (34 :: t) = R := by rw [← HR.out, if_neg (fun h => h.2 rfl)]
          have HR2 := Lib.hid hR
          clear hR
          go_wp2_with fail
          refine (fail_ok _ w3).mono ?_
          rintro e w4 ⟨rfl, rfl⟩
          go_wp2_with fail
          refine ⟨rfl, ?_⟩
          rw [← HR2.out]
          exact ⟨rfl, Hall.out, Hr3.out.2⟩
        · have hl1 : ((L.length : Int) == 0) = false := beq_eq_false_iff_ne.2 (by have := List.length_pos_iff.2 hl0; omega)
          have hR : Q.Res.ok (.node 4 (Q.join [32] L) 0 []) t = R := by rw [← HR.out, if_pos ⟨rfl, hl0⟩]; rfl
          have hnd := need_yes g s 34 t w3 Hr3.out hs (by decide)
          have HR2 := Lib.hid hR; have Hnd := Lib.hid hnd
          clear hR hnd hl0
          go_wp2_with fail
          refine Hnd.out.mono ?_
          rintro e w4 ⟨rfl, hr4, hbt4⟩
          have own4 := own3.but hbt4 hgB
          have hjl : (Q.join [32] L).length ≤ 140737488355328 := by
            have h1 := join_len [32] L
            have h2 := sum_bound ([32] : Str).length 16000 L hLx
            have h3 : L.length * (16000 + ([32] : Str).length) ≤ 4000 * 16001 := Nat.mul_le_mul hL48 (Nat.le_refl _)
            omega
          have hjn := joinL_ok [32] M0 A c L w4 own4.read0 hjl (by omega)
          have hall4 : But g W w4 := Hbt3.out.trans hbt4
          have k4 := hall4.blk Hk.out hgn
          have Hjn := Lib.hid hjn; have Hr4 := Lib.hid hr4; have Ha4 := Lib.hid hall4; have Hk4 := Lib.hid k4
          obtain ⟨js, hjs⟩ : ∃ js, Q.join [32] L = js := ⟨_, rfl⟩
          rw [hjs] at hjl Hjn HR2
          clear hjn hr4 hall4 hbt4 k4 own3 own4 r0 r1 r2 r3 hjs
          go_wp2_with fail
          refine Hjn.out.mono ?_
          rintro e w5 ⟨rfl, hb5⟩
          have k5 := Hk4.out.ext hb5
          have hr5 := Hr4.out.ext hb5
          have ha5 := Ha4.out.trans (But.of_below g hb5)
          obtain ⟨z0, z1, z2, z3, hz⟩ := k5.four
          have f0 := k5.frozen 0; have f1 := k5.frozen 1; have f2 := k5.frozen 2; have f3 := k5.frozen 3
          have Hk5 := Lib.hid k5; have Hr5 := Lib.hid hr5; have Ha5 := Lib.hid ha5
          clear k5 hr5 ha5 hb5 Hjn
          go_wp2_with fail
          obtain ⟨W9, hW9⟩ : ∃ W9, (((w5.setCell ⟨gR, 0, none⟩ (.int .i64 4)).setCell ⟨gR, 1, none⟩ (.string (bs js))).setCell ⟨gR, 2, none⟩ (.int .i64 0)).setCell ⟨gR, 3, none⟩ (.slice none 0 0) = W9 := ⟨_, rfl⟩
          have k9 := put4 Hk5.out (.int .i64 4) (.string (bs js)) (.int .i64 0) (.slice none 0 0)
          rw [hW9] at k9 ⊢
          obtain ⟨y0, y1, y2, y3, _⟩ := k9.four
          refine bodyPost_ret (v := .agg #[.int .i64 4, .string (bs js), .int .i64 0, .slice none 0 0]) (by simp [results, Tryz.results81, go_sem, y0, y1, y2, y3]) rfl ?_
          rw [← HR2.out]
          have hgw5 : w.heap.size ≤ gR := by rw [HgR.out]; exact Nat.le_refl _
          have hb9 : But g w W9 := by rw [← hW9]; exact ((But.of_below g Hal.out).trans Ha5.out).put4 hgw5 _ _ _ _
          have hr9 : Rd W9 g s t := ⟨by show W9.heap[g]? = _; rw [← hW9, keep4 _ _ _ _ hgn.symm]; exact Hr5.out.1, Hr5.out.2⟩
          exact ⟨0, _, rfl, ⟨none, 0, rfl, by simp, by simp only [Q.text_node, maxLen]; omega, by simp, SlR.nil _ _ _⟩, hr9, hb9⟩
      · have hx34 : ((x.toNat : Int) != 34) = true := by
          have : x.toNat ≠ 34 := fun e => h34 (UInt8.toNat_inj.1 e)
          simp; omega
        have hR : Q.Res.err (Q.skipS r') = R := by
          rw [← HR.out, if_neg]
          rintro ⟨h1, _⟩
          refine h34 ?_
          rw [← Hx0.out]
          cases hq : Q.skipS r' with
          | nil => rw [hq] at h1; cases h1
          | cons y t => rw [hq] at h1; simpa using h1
        have HR2 := Lib.hid hR
        clear hR
        go_wp2_with fail
        refine (fail_ok _ w3).mono ?_
        rintro e w4 ⟨rfl, rfl⟩
        go_wp2_with fail
        refine ⟨rfl, ?_⟩
        rw [← HR2.out]
        exact ⟨rfl, Hall.out, Hr3.out.2⟩
    · have hle : Sm.lower xa ≠ [] := fun e => hxe (lower_none e)
      have hlx : (Sm.lower xa == []) = false := by simpa using hle
      have hpos := List.length_pos_iff.2 hxe
      have hm := Hmore.out hxe
      obtain ⟨lx, hlx2⟩ : ∃ l, Sm.lower xa = l := ⟨_, rfl⟩
      rw [hlx2] at hm hlx hll ⊢
      have Hm := Lib.hid hm
      have hB2 := Hbt02.out.size
      clear hm hle hxe hlx2
      go_wp2_with (at_builtin; refine wpList_push_Own strC (M := M0) (B := W.heap.size) TStrs rfl (.tmp 11) (.tmp 13) rfl rfl own2 rfl (cs := [.string (bs lx)]) (y := lx) ⟨rfl, by unfold maxLen; omega⟩ (fun _ h => h.elim) ?a1 ?b1 hB2 ?_)
      case a1 => unfold maxLen; omega
      case b1 => omega
      intro A4 c4 L4 w4 hL4 own4 hb4 _ _
      have hr4 := Hr2.out.under hb4 hgB
      have hc4 := hr4.1.two.2.1
      have Hc4 := Lib.hid hc4; have Hr4 := Lib.hid hr4
      have hl4 : L4.length = L.length + 1 := by rw [hL4.out, List.length_append]; rfl
      clear hc4 hr4
      go_wp2
      go_roundw
      case rel => exact ⟨xb, A4, c4, L4, rfl, Lib.hid ⟨by rw [hph.out.1, Hm.out, hL4.out]; simp, by rw [hph.out.2, Hm.out]⟩, fun x hx => by
        rw [hL4.out] at hx
        rcases List.mem_append.1 hx with h | h
        · exact hLx x h
        · rw [List.mem_singleton.1 h]; omega, by omega, own4, Hr4.out, Hbt02.out.under2 hb4 (Nat.le_refl _)⟩
      case measure =>
        rw [Hc0.out, Hc4.out]
        simp only [Option.getD_some, intOf]
        omega
end Go.Proofs.YtihhgmpanfboaaaGreatDoor
