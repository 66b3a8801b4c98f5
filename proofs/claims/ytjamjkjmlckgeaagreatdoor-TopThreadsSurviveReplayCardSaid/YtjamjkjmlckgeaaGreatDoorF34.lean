/-
  Contracts and plain facts, one after another: The iterator of shown; Two rows that grow side by side, under a range over a function.
-/
import Derived.Test.YtjamjkjmlckgeaaGreatDoorF33
namespace Go.Proofs.YtjamjkjmlckgeaaGreatDoor
open Go.RowKit
set_option linter.unusedVariables false
theorem TInts : SlT Tryz.prog 1 54 3 8 := SlT.mk' Tryz.underlying54 (by kernel_rfl : (Tryz.prog.info? 3).map (fun i => (i.zero, i.size, i.bytes)) = some (some (.int .i64 0), 1, 8)) rfl
/-- what the iterator reads -/
def shFP (B : Nat) (A : Option Addr) (c : Nat) (l : List Letter) (S : Nat → Prop) (w : World) : Prop :=
  Blk w B 57 #[.slice A l.length c] ∧ ¬ S B ∧ SlR letterC S w (.slice A l.length c) l
set_option maxRecDepth 100000 in
set_option maxHeartbeats 4000000 in
theorem shown_iter (l : List Letter) (hd : Distinct l) (hn : l.length ≤ 1000000) (B : Nat) (A : Option Addr) (c : Nat) :
    Iter Tryz.prog 73 #[.pointer (some ⟨B, 0, none⟩)] encP (Th.shownA l (-1) 0) (shFP B A c l) := by
  intro ll J Jx S W hFP hS hJ hJx hY h0
  refine callsIn_of_wp Tryz.func73 rfl trivial ((wpIn_wide (n := 0)).2 ?_) rfl
  simp only [Tryz.ntmps73, List.size_toArray, List.length_cons, List.length_nil, Nat.reduceAdd, Nat.reduceSub, Array.replicate_succ, Array.replicate_zero, List.push_toArray, List.append_toArray, List.nil_append, List.cons_append]
  have HY := Lib.hid hY; clear hY
  have HJ := Lib.hid hJ; clear hJ
  have HJx := Lib.hid hJx; clear hJx
  have HS := Lib.hid hS; clear hS
  obtain ⟨hB, hBS, hlt⟩ := hFP
  have hBW := hB.lt
  obtain ⟨cB, zB, sB⟩ := hB.one
  have hpc := fun W' (hb : Below W.heap.size W W') => parents_ok (.slice A l.length c) l W' (hlt.zero.ext hb) (by omega)
  have Hpc := Lib.hid hpc
  clear hpc
  have hmm := @run_makeMap Tryz.prog
  obtain ⟨W1, hW1⟩ : ∃ W1, ((W.alloc (.cells #[.func (.yield ll) #[] #[]] 145)).alloc (.map #[] 0)).alloc (.cells #[.map (some (W.heap.size + 1))] 146) = W1 := ⟨_, rfl⟩
  have hs1 : W1.heap.size = W.heap.size + 3 := by rw [← hW1]; simp
  have hb1 : Below W.heap.size W W1 := by
    rw [← hW1]
    exact (((Below.refl _ W).alloc (Nat.le_refl _) _).alloc (by simp) _).alloc (by simp; omega) _
  have k2 : Blk W1 W.heap.size 145 #[.func (.yield ll) #[] #[]] := hW1 ▸ ((Blk.new W _ _).alloc _).alloc _
  have k3 : Blk W1 (W.heap.size + 2) 146 #[.map (some (W.heap.size + 1))] := hW1 ▸ (by have := Blk.new ((W.alloc (.cells #[.func (.yield ll) #[] #[]] 145)).alloc (.map #[] 0)) 146 #[.map (some (W.heap.size + 1))]; simpa using this)
  have m1 : MapAt (.int .i64) intK W1 (W.heap.size + 1) (fun _ => none) := hW1 ▸ (by
    have h1 := MapAt.made (d := .int .i64) (enc := intK) (W.alloc (.cells #[.func (.yield ll) #[] #[]] 145)) intK_inj intK_key
    rw [World.size_alloc] at h1
    exact h1.ext ((Below.refl _ _).alloc (Nat.le_refl _) _))
  have cB1 := (hB.ext hb1).one.1
  rw [← hW1] at cB1
  have HW1 := Lib.hid hW1
  clear hW1
  go_wp2_with fail
  clear hmm cB1
  rw [HW1.out]
  refine (Hpc.out _ hb1).mono ?_
  rintro e W2 ⟨PA, Pc, P, rfl, hP, hPo, hb2⟩
  clear HW1 Hpc
  obtain ⟨q3, hq3⟩ : ∃ q3, W.heap.size + 1 + 1 = q3 := ⟨_, rfl⟩
  rw [hq3]
  rw [show W.heap.size + 2 = q3 from hq3] at k3
  obtain ⟨bm, hbm⟩ : ∃ bm, W.heap.size + 1 = bm := ⟨_, rfl⟩
  rw [hbm] at k3 m1 ⊢
  obtain ⟨q2, hq2⟩ : ∃ q2, W.heap.size = q2 := ⟨_, rfl⟩
  rw [hq2] at k2 ⊢
  have k2 := k2.ext hb2
  have k3 := k3.ext hb2
  have m1 := m1.ext hb2
  have hb2W := hb1.trans (hb2.mono hb1.size)
  have hPl : P.length = l.length := by rw [hP.out]; unfold Th.parentsF; simp
  have hPb : ∀ j (hj : j < P.length), -1 ≤ P[j] ∧ P[j] < 4000000 := fun j hj => by
    have hjl : j < l.length := by omega
    have h1 : P[j] = Th.parentOf l l[j] := by
      have h2 := hP.out
      subst h2
      simp [Th.parentsF]
    rw [h1]
    rw [← parTo_all]
    rcases parTo_last l l[j] l[j].2.1.length (Nat.le_refl _) with ⟨h1, _⟩ | ⟨r, k, hr, _, h2, h3, _⟩
    · rw [h1]; omega
    · obtain ⟨hk, _⟩ := (refTo_hits hd l[j] r k hr).1 h2
      rw [h3]; omega
  have hBz : W2.heap.size ≥ W1.heap.size := hb2.size
  have HPb := Lib.hid hPb
  have Hq : Hid (q2 = W.heap.size ∧ bm = q2 + 1 ∧ q3 = q2 + 2 ∧ q2 + 3 ≤ W1.heap.size ∧ W1.heap.size ≤ W2.heap.size) := Lib.hid (by omega)
  rw [hPl] at hPo ⊢
  have HPl := Lib.hid hPl
  clear hPb hb1 hs1 hb2 hq3 hbm hq2 hBz hPl cB zB sB
  go_wp2
  go_loopw [11] (fun i wr => ∃ (k : Nat) (m : Int → Option Value), i = .int .i64 (k : Int) ∧ k ≤ l.length ∧ W2.grownBy wr (some bm) ∧ MapAt (.int .i64) intK wr bm m ∧ KidRows P k W2.heap.size wr m) (fun i _ => l.length - (intOf i).toNat)
  case atStart => exact ⟨0, _, rfl, Nat.zero_le _, World.grownBy.refl _ _, m1, KidRows.start _ _ _⟩
  case round =>
    obtain ⟨k, m, rfl, hk, hgr, hm, hrows⟩ := hrel
    have k3 := k3.keep (hgr.block _ k3.lt (fun e => by injection e with e; have := Hq.out; omega))
    by_cases hkl : k < l.length
    · have hkP : k < P.length := by rw [HPl.out]; exact hkl
      have hPk := HPb.out k hkP
      have hs : P[k]? = some P[k] := List.getElem?_eq_getElem hkP
      have hPo := hPo.flatI (M' := M0) (fun b hb => hgr.block b (hPo.lt b hb) (fun e => by injection e with e; have := hPo.base b hb; have := Hq.out; omega))
      obtain ⟨gP, offP, hA, _, _, hcx⟩ := hPo.read0.intAt (k := k) hkP
      subst hA
      obtain ⟨s, hsv⟩ : ∃ s, P[k] = s := ⟨_, rfl⟩
      rw [hsv] at hs hPk hcx
      obtain ⟨hcx, _, _⟩ := hcx
      have hkk : (k : Int) < (l.length : Int) := by omega
      have hk0 : (0 : Int) ≤ (k : Int) := by omega
      have hkw : IntKind.i64.wrap (k : Int) = (k : Int) := IntWalk.i64_in _ (by omega)
      obtain ⟨e3, z3, s3⟩ := k3.one
      have hown := hrows.own s
      have hcnt : ((Th.kidsTo P k s).map fun (j : Nat) => (j : Int)).length ≤ k := by
        rw [List.length_map]
        exact kidsTo_len P k s
      have Hcnt := Lib.hid hcnt
      have Hs := Lib.hid hs
      have Hbelow : Hid (bm < W2.heap.size ∧ W2.heap.size ≤ wr.heap.size) := Lib.hid ⟨by have := Hq.out; omega, hgr.size⟩
      clear hsv hcnt hs
      go_wp2
      clear hcx
      obtain ⟨v0, hv0⟩ : ∃ v0, rowOf m s = v0 := ⟨_, rfl⟩
      have hlr := look_row hm s
      rw [hv0] at hlr hown
      have hm' := hm.ext (below_drewN' wr.heap.size wr 1)
      have hlr' := look_row hm' s
      rw [hv0] at hlr'
      have Hv0 := Lib.hid hv0
      have Hown := Lib.hid hown
      have Hm := Lib.hid hm'
      clear hv0 hown hm hm' hlr
      have hS : wr.drew.cell? ⟨q3, 0, none⟩ = some (.map (some bm)) ∧ (Instr.lookup 146 (.map (some bm)) (.int .i64 s) false).run Tryz.prog wr.drew = .ok v0 wr.drew := ⟨e3, hlr'⟩
      clear e3 hlr'
      refine wp_region_D (fun W' => W'.cell? ⟨q3, 0, none⟩ = some (.map (some bm)) ∧ (Instr.lookup 146 (.map (some bm)) (.int .i64 s) false).run Tryz.prog W' = .ok v0 W') (fun j => j == 8) (by kernel_rfl) ?_
      refine anyD_light (i := 0) (v := .map (some bm)) rfl (by kernel_rfl) (by kernel_rfl) (by kernel_rfl) (by kernel_rfl) (by kernel_rfl) (fun _ _ _ h => h) (.inl ⟨rfl, fun W' hW' => by simp [go_sem, hW'.1, execOp]⟩) hS ?_
      refine anyD_light (i := 1) (v := .int .i64 s) rfl (by kernel_rfl) (by kernel_rfl) (by kernel_rfl) (by kernel_rfl) (by kernel_rfl) (fun _ _ _ h => h) (.inl ⟨rfl, fun W' hW' => by simp [go_sem, execOp]⟩) hS ?_
      refine anyD_light (i := 2) (v := .map (some bm)) rfl (by kernel_rfl) (by kernel_rfl) (by kernel_rfl) (by kernel_rfl) (by kernel_rfl) (fun _ _ _ h => h) (.inl ⟨rfl, fun W' hW' => by simp [go_sem, hW'.1, execOp]⟩) hS ?_
      refine anyD_light (i := 3) (v := .int .i64 s) rfl (by kernel_rfl) (by kernel_rfl) (by kernel_rfl) (by kernel_rfl) (by kernel_rfl) (fun _ _ _ h => h) (.inl ⟨rfl, fun W' hW' => by simp [go_sem, execOp]⟩) hS ?_
      refine anyD_light (i := 4) (v := v0) rfl (by kernel_rfl) (by kernel_rfl) (by kernel_rfl) (by kernel_rfl) (by kernel_rfl) (fun _ _ _ h => h) (.inl ⟨rfl, fun W' hW' => by simp [go_sem, execOp, hW'.2]⟩) hS ?_
      refine anyD_light (i := 5) (v := .int .i64 (k : Int)) rfl (by kernel_rfl) (by kernel_rfl) (by kernel_rfl) (by kernel_rfl) (by kernel_rfl) (fun _ _ _ h => h) (.inl ⟨rfl, fun W' hW' => by simp [go_sem, execOp]⟩) hS ?_
      refine anyD_one (i := 6) (by kernel_rfl) rfl rfl (fun K hK => ?_)
      have HK := Lib.hid hK
      clear hK
      unfold Oper.wp
      go_simp
      have hal := (Below.refl wr.heap.size wr.drew).alloc (Nat.le_refl _) (.cells #[.int .i64 (k : Int)] 3)
      have hS6 : (wr.drew.alloc (.cells #[.int .i64 (k : Int)] 3)).cell? ⟨q3, 0, none⟩ = some (.map (some bm)) ∧ (Instr.lookup 146 (.map (some bm)) (.int .i64 s) false).run Tryz.prog (wr.drew.alloc (.cells #[.int .i64 (k : Int)] 3)) = .ok v0 (wr.drew.alloc (.cells #[.int .i64 (k : Int)] 3)) :=
        ⟨((k3.drewN 1).alloc _).one.1, by have := look_row (Hm.out.ext hal) s; rw [Hv0.out] at this; exact this⟩
      have halw : (wr.alloc (.cells #[.int .i64 (k : Int)] 3)).drew = wr.drew.alloc (.cells #[.int .i64 (k : Int)] 3) := rfl
      rw [halw]
      refine HK.out _ _ (fun _ => hS6) ?_
      clear HK hS hS6
      refine anyD_one (i := 7) (by kernel_rfl) rfl rfl (fun K hK => ?_)
      have HK := Lib.hid hK
      clear hK
      have hBw : W2.heap.size ≤ wr.heap.size := Hbelow.out.2
      refine wp_push_Own intC (w := wr.drew) (M := M0) (B := W2.heap.size) (v := v0) (l := (Th.kidsTo P k s).map fun (j : Nat) => (j : Int)) (cs := [.int .i64 (k : Int)]) (y := (k : Int)) TInts (.tmp 20) (.tmp 22) rfl rfl (Hown.out.ext (below_drewN' _ _ 1)) rfl ⟨rfl, by omega, by omega⟩ (fun b hb => hb.elim) (by have := Hcnt.out; simp only [maxLen]; omega) (by have := Hcnt.out; omega) hBw ?_
      intro A3 c3 L3 W3 hL3 hown3 hbl3 hgr3 hor3
      have hm3 : MapAt (.int .i64) intK W3 bm m := Hm.out.keep (hgr3.block _ Hm.out.lt fun e => by have := Hown.out.base bm e.symm; have := Hbelow.out.1; omega)
      have k33 : Blk W3 q3 146 #[.map (some bm)] := (k3.drewN 1).keep (hgr3.block _ (k3.drewN 1).lt fun e => by have := Hown.out.base q3 e.symm; have := Hq.out; omega)
      have hS7 : W3.cell? ⟨q3, 0, none⟩ = some (.map (some bm)) ∧ (Instr.lookup 146 (.map (some bm)) (.int .i64 s) false).run Tryz.prog W3 = .ok v0 W3 := ⟨k33.one.1, by have := look_row hm3 s; rw [Hv0.out] at this; exact this⟩
      refine HK.out _ _ (fun _ => hS7) ?_
      clear HK hS7
      obtain ⟨W4, hrun4, hm4, hgr4, hsz4⟩ := hm3.upd Tryz.underlying146 Tryz.underlying3 s (.slice A3 L3.length c3)
      unfold intK at hrun4
      refine anyD_one (i := 8) (by kernel_rfl) rfl rfl (fun K hK => ?_)
      have HK := Lib.hid hK
      clear hK
      unfold Oper.wp
      go_simp
      refine HK.out _ _ (fun h => by cases h) ?_
      clear HK
      refine anyD_done (by kernel_rfl) ?_ _
      have hgrw : W2.grownBy W4 (some bm) := by
        refine ⟨hgr4.os.trans (hgr3.os.trans hgr.os), hgr4.tape.trans (hgr3.tape.trans hgr.tape), hgr4.output.trans (hgr3.output.trans hgr.output), Nat.le_trans hgr.size (Nat.le_trans hgr3.size hgr4.size), fun b hb hne => ?_⟩
        exact (hgr4.block b (Nat.lt_of_lt_of_le hb (Nat.le_trans hgr.size hgr3.size)) hne).trans ((hgr3.block b (Nat.lt_of_lt_of_le hb hgr.size) fun e => by have := Hown.out.base b e.symm; omega).trans (hgr.block b hb hne))
      have hrows4 : KidRows P (k + 1) W2.heap.size W4 (updM m s (.slice A3 L3.length c3)) := by
        refine (hrows.ext (below_drewN' _ _ 1)).step Hs.out (by rw [Hv0.out]; exact hgr3) hL3.out hown3 ?_ hgr4 Hbelow.out.1
        rcases hor3 with e | e
        · exact .inl (by rw [Hv0.out]; exact e)
        · exact .inr ⟨_, e, Nat.le_succ _⟩
      clear hrun4 hm3 k33 hgr3 hgr4 hown3 hL3 hbl3 hor3 hrows hgr k3 hPo
      go_wp2
      go_roundw
      case rel => exact ⟨k + 1, _, by go_num, by omega, hgrw, hm4, hrows4⟩
      case measure => simp [intOf]; omega
    · obtain rfl : k = l.length := by omega
      have hst : ∀ (a : Addr) (f : Fn) (b cs : Array Value) (mo : Mode) (W : World), (store a (.func f b cs) mo).run Tryz.prog W = stored Tryz.prog W a (.func f b cs) mo := fun a f b cs mo W => run_store _ W a _ mo rfl
      have k6 := Blk.new wr 145 #[.nilFunc]
      obtain ⟨c6, z6, s6⟩ := k6.one
      have k7 := Blk.new wr 145 #[.func (.func 74) #[] #[.pointer (some ⟨q3, 0, none⟩), .pointer (some ⟨B, 0, none⟩), .pointer (some ⟨q2, 0, none⟩), .pointer (some ⟨wr.heap.size, 0, none⟩)]]
      have hc7 := k7.one.1
      have hPe := hP.out
      subst hPe
      have hbW : ∀ b, b < W.heap.size → wr.heap[b]? = W.heap[b]? := fun b hb => (hgr.block b (Nat.lt_of_lt_of_le hb hb2W.size) (fun e => by injection e with e; have := Hq.out; omega)).trans (hb2W.block b hb)
      have hwz : W2.heap.size ≤ wr.heap.size := hgr.size
      have hwz2 : W.heap.size ≤ W2.heap.size := hb2W.size
      have hal : Below wr.heap.size wr (wr.alloc (.cells #[.func (.func 74) #[] #[.pointer (some ⟨q3, 0, none⟩), .pointer (some ⟨B, 0, none⟩), .pointer (some ⟨q2, 0, none⟩), .pointer (some ⟨wr.heap.size, 0, none⟩)]] 145)) := (Below.refl _ _).alloc (Nat.le_refl _) _
      obtain ⟨W5, hW5⟩ : ∃ W5, wr.alloc (.cells #[.func (.func 74) #[] #[.pointer (some ⟨q3, 0, none⟩), .pointer (some ⟨B, 0, none⟩), .pointer (some ⟨q2, 0, none⟩), .pointer (some ⟨wr.heap.size, 0, none⟩)]] 145) = W5 := ⟨_, rfl⟩
      rw [hW5] at k7 hal
      have hs5 : W5.heap.size = wr.heap.size + 1 := by rw [← hW5]; simp
      have hvs : VS ⟨B, q2, q3, wr.heap.size, bm, W2.heap.size⟩ l A c ll m S (Th.kids l) W5 := {
        bz := Nat.le_trans hwz hal.size
        b1 := (hB.keep (hbW _ hBW)).ext hal
        b2 := (k2.keep (hgr.block _ k2.lt (fun e => by injection e with e; have := Hq.out; omega))).ext hal
        b3 := k3.ext hal
        b6 := k7
        mp := hm.ext hal
        lt := ((((hlt.sub (M' := fun b => S b ∨ W.heap.size ≤ b) fun b hb hor => hor.elim id fun h => by omega).keep (fun b hb _ => hbW b hb) (Nat.le_trans hwz2 hwz))).ext hal).sub fun b _ hor => hor.imp id fun h => Nat.le_trans hwz2 h
        fix := fun b hb hSb => by
          have h1 := HS.out b hSb
          have h2 := Hq.out
          rcases hb with e | e | e | e | e
          · subst e; exact hBS hSb
          all_goals (dsimp only at e; omega)
        bnd := fun b hSb => by have := HS.out b hSb; omega
        miss := hrows.miss
        row := (hrows.ext hal).row
        far := fun s v b hms hv => by
          have hne : Th.kidsTo (Th.parentsF l) l.length s ≠ [] := fun e => by rw [hrows.miss s e] at hms; cases hms
          obtain ⟨v', h1, h2⟩ := hrows.row s hne
          rw [hms] at h1
          injection h1 with h1
          subst h1
          have h3 := h2.base b hv
          have h4 := h2.lt b hv
          have h5 := Hq.out
          refine ⟨fun hSb => by have := HS.out b hSb; omega, fun hb => ?_⟩
          rcases hb with e | e | e | e | e <;> (dsimp only at e; omega)
        apart := hrows.apart
        perm := fun s => List.Perm.refl _ }
      have hj : J 0 S W5 := HJ.out _ _ _ _ h0 ⟨hal.os.trans (hgr.os.trans hb2W.os), hal.tape.trans (hgr.tape.trans hb2W.tape), hal.output.trans (hgr.output.trans hb2W.output), by omega, fun b hb _ => (hal.block b (by omega)).trans (hbW b hb)⟩
      have hvis := visit_ok l hd (by omega) ⟨B, q2, q3, wr.heap.size, bm, W2.heap.size⟩ A c ll m (Th.shownA l (-1) 0) J Jx W.heap.size hwz2 (by show B < W2.heap.size; omega) HJ.out HJx.out HY.out (l.length + 1) (-1) 0 0 S (Th.kids l) W5 (.inl ⟨by omega, by omega⟩) (by omega) (by omega) (by omega) hvs hj ⟨[], by simp⟩
      have HW5 := Lib.hid hW5
      have Hvis := Lib.hid hvis
      clear hvis hW5 hvs hj k7 hal hs5
      go_wp2_with fail
      rw [HW5.out]
      refine (callsIn_wide.1 Hvis.out).mono ?_
      rintro e w9 ⟨S', ct', _, _, hor⟩
      have hor' : (∃ tt, e = .returned (.bool tt)) ∧ ((∃ S', J (Th.shownA l (-1) 0).length S' w9) ∨ ∃ k S', Jx k S' w9) := by
        rcases hor with ⟨rfl, h⟩ | ⟨rfl, k', h⟩
        · exact ⟨⟨_, rfl⟩, .inl ⟨S', by rw [Nat.zero_add] at h; exact h⟩⟩
        · exact ⟨⟨_, rfl⟩, .inr ⟨k', S', h⟩⟩
      obtain ⟨⟨tt, rfl⟩, hfin⟩ := hor'
      have Hfin := Lib.hid hfin
      clear hor hfin
      go_wp2
      exact bodyPost_end (results_none rfl _ _ _) rfl ⟨⟨_, rfl⟩, Hfin.out⟩
end Go.Proofs.YtjamjkjmlckgeaaGreatDoor
namespace Go.Proofs.YtjamjkjmlckgeaaGreatDoor
open Go.RowKit
set_option linter.unusedVariables false
section
variable {P : Program} {ops : Array Oper} {md : Region.Mode} {Q : Exit → Act → World → Prop} {S : World → Prop} {D : Nat → Bool}
theorem anyD_two {i j fuel : Nat} {oi oj : Oper} {listed : Array Bool} {a : Act} {w : World} (hr : Region.ready md ops listed = [i, j]) (hoi : ops[i]? = some oi) (hgi : oi.guard = none) (hoj : ops[j]? = some oj) (hgj : oj.guard = none)
    (hi : ∀ K : Act → World → Prop, (∀ a w, (D i = false → S w) → anyD P md ops Q S D fuel (listed.setIfInBounds i true) a w → K a w) → oi.wp P a w K Q)
    (hj : ∀ K : Act → World → Prop, (∀ a w, (D j = false → S w) → anyD P md ops Q S D fuel (listed.setIfInBounds j true) a w → K a w) → oj.wp P a w K Q) : anyD P md ops Q S D (fuel + 1) listed a w := by
  refine ⟨fun h0 => absurd (hr ▸ h0) (by simp), fun k hk => ?_⟩
  rw [hr] at hk
  have hk2 : k = i ∨ k = j := by simpa using hk
  rcases hk2 with rfl | rfl
  · unfold wpOp
    rw [hoi]
    have hw : Region.wanted oi (yielded ops a.tmps) = true := by simp [Region.wanted, hgi]
    simp only [hw, if_true]
    exact .inl (hi _ fun a w h1 h2 => ⟨h1, h2⟩)
  · unfold wpOp
    rw [hoj]
    have hw : Region.wanted oj (yielded ops a.tmps) = true := by simp [Region.wanted, hgj]
    simp only [hw, if_true]
    exact .inl (hj _ fun a w h1 h2 => ⟨h1, h2⟩)
theorem anyD_mono {D' : Nat → Bool} (hD : ∀ i, D' i = true → D i = true) : ∀ (fuel : Nat) (listed : Array Bool) (a : Act) (w : World), anyD P md ops Q S D' fuel listed a w → anyD P md ops Q S D fuel listed a w
  | 0, _, _, _, h => h
  | fuel + 1, _, _, _, h => ⟨h.1, fun i hi => wpOp_mono (fun a' w' h' => ⟨fun hf => h'.1 (by cases hh : D' i with | false => rfl | true => rw [hD i hh] at hf; cases hf), anyD_mono hD fuel _ a' w' h'.2⟩) (h.2 i hi)⟩
end
/-- where the places lie, and what may be turned -/
structure OP where
  S : Nat → Prop
  W : World
  w : World
  r2 : Nat
  r3 : Nat
  r4 : Nat
  B : Nat
/-- two rows: u1, u2 in the cells, v1, v2 what they are now -/
structure OS (X : OP) (u1 u2 v1 v2 : Value) (L1 L2 : List Int) (V : World) : Prop where
  q1 : Blk V X.r2 54 #[u1]
  q2 : Blk V X.r3 54 #[u2]
  q4 : Blk V X.r4 31 #[.int .i64 0, .int .i64 0]
  o1 : Own intC M0 V (X.B + 1) 3 v1 L1
  o2 : Own intC M0 V (X.B + 1) 3 v2 L2
  p1 : ∀ b, v1.ownBlock = some b → X.S b ∨ X.W.heap.size ≤ b
  p2 : ∀ b, v2.ownBlock = some b → X.S b ∨ X.W.heap.size ≤ b
  pa : ∀ b, v1.ownBlock = some b → v2.ownBlock ≠ some b
  os : V.os = X.W.os
  tape : V.tape = X.W.tape
  output : V.output = X.W.output
  size : X.W.heap.size ≤ V.heap.size
  same : ∀ b, b < X.W.heap.size → ¬ X.S b → V.heap[b]? = X.W.heap[b]?
  bw : Below X.w.heap.size X.w V
  rr : X.w.heap.size ≤ X.r2 ∧ X.r2 < X.r3 ∧ X.r3 < X.r4 ∧ X.r4 < X.B
  s2 : X.S X.r2
  s3 : X.S X.r3
section
variable {X : OP} {u1 u2 v1 v2 v' : Value} {L1 L2 L' : List Int} {V V' : World}
theorem OS.S (h : OS X u1 u2 v1 v2 L1 L2 V) : V.cell? ⟨X.r2, 0, none⟩ = some u1 ∧ V.cell? ⟨X.r3, 0, none⟩ = some u2 := ⟨h.q1.one.1, h.q2.one.1⟩
theorem OS.Z (h : OS X u1 u2 v1 v2 L1 L2 V) : V.cell? ⟨X.r2, 0, none⟩ = some u1 ∧ V.frozen? ⟨X.r2, 0, none⟩ = false ∧ V.cell? ⟨X.r3, 0, none⟩ = some u2 ∧ V.frozen? ⟨X.r3, 0, none⟩ = false := ⟨h.q1.one.1, h.q1.one.2.1, h.q2.one.1, h.q2.one.2.1⟩
theorem OS.ext (h : OS X u1 u2 v1 v2 L1 L2 V) (hb : Below V.heap.size V V') : OS X u1 u2 v1 v2 L1 L2 V' :=
  { h with
    q1 := h.q1.ext hb, q2 := h.q2.ext hb, q4 := h.q4.ext hb, o1 := h.o1.ext hb, o2 := h.o2.ext hb, os := hb.os.trans h.os, tape := hb.tape.trans h.tape, output := hb.output.trans h.output, size := Nat.le_trans h.size hb.size, same := fun b hlt hS => (hb.block b (Nat.lt_of_lt_of_le hlt h.size)).trans (h.same b hlt hS)
    bw := h.bw.trans (hb.mono h.bw.size) }
theorem OS.app1 (h : OS X u1 u2 v1 v2 L1 L2 V) (ho : Own intC M0 V' (X.B + 1) 3 v' L') (hg : V.grownBy V' v1.ownBlock) (hor : v'.ownBlock = v1.ownBlock ∨ v'.ownBlock = some V.heap.size) : OS X u1 u2 v' v2 L' L2 V' := by
  have hbase : ∀ b, v1.ownBlock = some b → X.B + 1 ≤ b := h.o1.base
  have hne : ∀ r, r ≤ X.B → some r ≠ v1.ownBlock := fun r hr e => by have := hbase r e.symm; omega
  obtain ⟨r1, r2, r3, r4⟩ := h.rr
  exact { h with
    q1 := h.q1.grown hg (hne _ (by omega))
    q2 := h.q2.grown hg (hne _ (by omega))
    q4 := h.q4.grown hg (hne _ (by omega))
    o1 := ho
    o2 := h.o2.flatI fun b hb => hg.block b (h.o2.lt b hb) fun e => h.pa b e.symm hb
    p1 := fun b hb => by
      rcases hor with e | e
      · exact h.p1 b (e ▸ hb)
      · rw [e] at hb; injection hb with hb; subst hb; exact .inr h.size
    pa := fun b hb hb2 => by
      rcases hor with e | e
      · exact h.pa b (e ▸ hb) hb2
      · rw [e] at hb; injection hb with hb; subst hb; have := h.o2.lt _ hb2; omega
    os := hg.os.trans h.os, tape := hg.tape.trans h.tape, output := hg.output.trans h.output, size := Nat.le_trans h.size hg.size
    same := fun b hlt hS => (hg.block b (Nat.lt_of_lt_of_le hlt h.size) fun e => by
      rcases h.p1 b e.symm with h1 | h1
      · exact hS h1
      · omega).trans (h.same b hlt hS)
    bw := h.bw.grown hg h.bw.size fun b hb => by have := hbase b hb; omega }
theorem OS.app2 (h : OS X u1 u2 v1 v2 L1 L2 V) (ho : Own intC M0 V' (X.B + 1) 3 v' L') (hg : V.grownBy V' v2.ownBlock) (hor : v'.ownBlock = v2.ownBlock ∨ v'.ownBlock = some V.heap.size) : OS X u1 u2 v1 v' L1 L' V' := by
  have hbase : ∀ b, v2.ownBlock = some b → X.B + 1 ≤ b := h.o2.base
  have hne : ∀ r, r ≤ X.B → some r ≠ v2.ownBlock := fun r hr e => by have := hbase r e.symm; omega
  obtain ⟨r1, r2, r3, r4⟩ := h.rr
  exact { h with
    q1 := h.q1.grown hg (hne _ (by omega))
    q2 := h.q2.grown hg (hne _ (by omega))
    q4 := h.q4.grown hg (hne _ (by omega))
    o2 := ho
    o1 := h.o1.flatI fun b hb => hg.block b (h.o1.lt b hb) fun e => h.pa b hb e.symm
    p2 := fun b hb => by
      rcases hor with e | e
      · exact h.p2 b (e ▸ hb)
      · rw [e] at hb; injection hb with hb; subst hb; exact .inr h.size
    pa := fun b hb hb2 => by
      rcases hor with e | e
      · exact h.pa b hb (e ▸ hb2)
      · rw [e] at hb2; injection hb2 with hb2; subst hb2; have := h.o1.lt _ hb; omega
    os := hg.os.trans h.os, tape := hg.tape.trans h.tape, output := hg.output.trans h.output, size := Nat.le_trans h.size hg.size
    same := fun b hlt hS => (hg.block b (Nat.lt_of_lt_of_le hlt h.size) fun e => by
      rcases h.p2 b e.symm with h1 | h1
      · exact hS h1
      · omega).trans (h.same b hlt hS)
    bw := h.bw.grown hg h.bw.size fun b hb => by have := hbase b hb; omega }
theorem OS.set1 (h : OS X u1 u2 v1 v2 L1 L2 V) : OS X v1 u2 v1 v2 L1 L2 (V.setCell ⟨X.r2, 0, none⟩ v1) := by
  obtain ⟨r1, r2, r3, r4⟩ := h.rr
  exact { h with
    q1 := by have := h.q1.set_ 0 v1; simpa using this
    q2 := h.q2.far (by show X.r3 ≠ X.r2; omega) _
    q4 := h.q4.far (by show X.r4 ≠ X.r2; omega) _
    o1 := h.o1.flatI fun b hb => Below.heap_setCell _ _ _ _ (by have := h.o1.base b hb; show b ≠ X.r2; omega)
    o2 := h.o2.flatI fun b hb => Below.heap_setCell _ _ _ _ (by have := h.o2.base b hb; show b ≠ X.r2; omega)
    os := h.os, tape := h.tape, output := h.output, size := by simpa using h.size
    same := fun b hlt hS => (Below.heap_setCell _ _ _ _ (fun e => hS (by rw [e]; exact h.s2))).trans (h.same b hlt hS)
    bw := Below.setCell h.bw (by show X.w.heap.size ≤ X.r2; omega) _ }
theorem OS.set2 (h : OS X u1 u2 v1 v2 L1 L2 V) : OS X u1 v2 v1 v2 L1 L2 (V.setCell ⟨X.r3, 0, none⟩ v2) := by
  obtain ⟨r1, r2, r3, r4⟩ := h.rr
  exact { h with
    q2 := by have := h.q2.set_ 0 v2; simpa using this
    q1 := h.q1.far (by show X.r2 ≠ X.r3; omega) _
    q4 := h.q4.far (by show X.r4 ≠ X.r3; omega) _
    o1 := h.o1.flatI fun b hb => Below.heap_setCell _ _ _ _ (by have := h.o1.base b hb; show b ≠ X.r3; omega)
    o2 := h.o2.flatI fun b hb => Below.heap_setCell _ _ _ _ (by have := h.o2.base b hb; show b ≠ X.r3; omega)
    os := h.os, tape := h.tape, output := h.output, size := by simpa using h.size
    same := fun b hlt hS => (Below.heap_setCell _ _ _ _ (fun e => hS (by rw [e]; exact h.s3))).trans (h.same b hlt hS)
    bw := Below.setCell h.bw (by show X.w.heap.size ≤ X.r3; omega) _ }
/-- what is turned behind a round -/
def OP.S' (X : OP) (V : World) (b : Nat) : Prop := X.S b ∨ (X.W.heap.size ≤ b ∧ b < V.heap.size)
theorem OS.chg (h : OS X u1 u2 v1 v2 L1 L2 V) (hlt : ∀ b, X.S b → b < X.W.heap.size) : Chg X.S (X.S' V) X.W V :=
  ⟨h.os, h.tape, h.output, h.size, h.same, fun b hb => hb.elim (fun h1 => ⟨Nat.lt_of_lt_of_le (hlt b h1) h.size, .inl h1⟩) (fun h1 => ⟨h1.2, .inr h1.1⟩)⟩
theorem OS.p1' (h : OS X u1 u2 v1 v2 L1 L2 V) (b : Nat) (hb : v1.ownBlock = some b) : X.S' V b := (h.p1 b hb).imp id fun h1 => ⟨h1, h.o1.lt b hb⟩
theorem OS.p2' (h : OS X u1 u2 v1 v2 L1 L2 V) (b : Nat) (hb : v2.ownBlock = some b) : X.S' V b := (h.p2 b hb).imp id fun h1 => ⟨h1, h.o2.lt b hb⟩
end
end Go.Proofs.YtjamjkjmlckgeaaGreatDoor
