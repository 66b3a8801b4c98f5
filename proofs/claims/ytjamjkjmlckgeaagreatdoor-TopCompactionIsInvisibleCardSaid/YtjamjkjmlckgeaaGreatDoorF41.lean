/-
  mailbox.apply.
-/
import Derived.Test.YtjamjkjmlckgeaaGreatDoorF15
namespace Go.Proofs.YtjamjkjmlckgeaaGreatDoor
open Go.RowKit
set_option linter.unusedVariables false

theorem Turned.frozen0 {g k : Nat} {w W : World} {t : TypeId} {cs : Array Value} (h : Turned g w W) (hk : Blk w k t cs) (hne : k ≠ g) : W.frozen? ⟨k, 0, none⟩ = false := (hk.turned h hne).frozen 0
theorem Turned.frozen1 {g k : Nat} {w W : World} {t : TypeId} {cs : Array Value} (h : Turned g w W) (hk : Blk w k t cs) (hne : k ≠ g) : W.frozen? ⟨k, 1, none⟩ = false := (hk.turned h hne).frozen 1
/-- a mailbox and a fault are stored as results -/
theorem res7 {w : World} {g4 g5 : Nat} {t4 t5 : TypeId} {x0 x1 x2 x3 x4 y0 y1 : Value} (k4 : Blk w g4 t4 #[x0, x1, x2, x3, x4]) (k5 : Blk w g5 t5 #[y0, y1]) (hne : g4 ≠ g5) (a b c d e p q : Value) :
    (((put5 w g4 a b c d e).setCell ⟨g5, 0, none⟩ p).setCell ⟨g5, 1, none⟩ q).cell? ⟨g4, 0, none⟩ = some a ∧ (((put5 w g4 a b c d e).setCell ⟨g5, 0, none⟩ p).setCell ⟨g5, 1, none⟩ q).cell? ⟨g4, 1, none⟩ = some b ∧ (((put5 w g4 a b c d e).setCell ⟨g5, 0, none⟩ p).setCell ⟨g5, 1, none⟩ q).cell? ⟨g4, 2, none⟩ = some c ∧ (((put5 w g4 a b c d e).setCell ⟨g5, 0, none⟩ p).setCell ⟨g5, 1, none⟩ q).cell? ⟨g4, 3, none⟩ = some d ∧ (((put5 w g4 a b c d e).setCell ⟨g5, 0, none⟩ p).setCell ⟨g5, 1, none⟩ q).cell? ⟨g4, 4, none⟩ = some e ∧
    (((put5 w g4 a b c d e).setCell ⟨g5, 0, none⟩ p).setCell ⟨g5, 1, none⟩ q).cell? ⟨g5, 0, none⟩ = some p ∧ (((put5 w g4 a b c d e).setCell ⟨g5, 0, none⟩ p).setCell ⟨g5, 1, none⟩ q).cell? ⟨g5, 1, none⟩ = some q ∧
    (∀ B, B ≤ g4 → B ≤ g5 → Below B w (((put5 w g4 a b c d e).setCell ⟨g5, 0, none⟩ p).setCell ⟨g5, 1, none⟩ q)) ∧ (∃ W, Turned g4 w W ∧ Turned g5 W (((put5 w g4 a b c d e).setCell ⟨g5, 0, none⟩ p).setCell ⟨g5, 1, none⟩ q)) := by
  have hT1 := put5_turned w g4 a b c d e
  have hT2 : Turned g5 (put5 w g4 a b c d e) (((put5 w g4 a b c d e).setCell ⟨g5, 0, none⟩ p).setCell ⟨g5, 1, none⟩ q) := ((Turned.refl g5 _).set 0 p).set 1 q
  have k1 := (k4.of5 a b c d e).turned hT2 hne
  have k2 : Blk (((put5 w g4 a b c d e).setCell ⟨g5, 0, none⟩ p).setCell ⟨g5, 1, none⟩ q) g5 t5 #[p, q] := by simpa using ((k5.turned hT1 hne.symm).set_ 0 p).set_ 1 q
  exact ⟨k1.cell 0, k1.cell 1, k1.cell 2, k1.cell 3, k1.cell 4, k2.cell 0, k2.cell 1, fun B h1 h2 => (hT1.rest B h1).trans (hT2.rest B h2), _, hT1, hT2⟩
theorem own_two {α : Type} {C : Codec α} {M : Nat → Prop} {w W : World} {B : Nat} {e : TypeId} {v : Value} {l : List α} {g4 g5 : Nat} (h : Own C M w B e v l) (hT : ∃ W1, Turned g4 w W1 ∧ Turned g5 W1 W) (h4 : M g4) (h5 : M g5) (h6 : ∀ x, v.ownBlock = some x → x ≠ g4) (h7 : ∀ x, v.ownBlock = some x → x ≠ g5) : Own C M W B e v l := by
  obtain ⟨W1, a, b⟩ := hT
  exact (h.turned a h4 h6).turned b h5 h7
theorem applF_eq (b : Mb.Box) (kd ud st cl tm : Int) (fl : List Mb.Fld) (bd : List UInt8) : Mb.applF b (kd, ud, st, cl, tm, fl, bd) = (if (Mb.chgF (kd, ud, st, cl, tm, fl, bd)).1 ≠ 0 then (Mb.emptyB, (Mb.chgF (kd, ud, st, cl, tm, fl, bd)).1, (Mb.chgF (kd, ud, st, cl, tm, fl, bd)).2)
    else if (b.ns == 1000000 || ((kd == 1) && b.nu == 1000000)) = true then (Mb.emptyB, 1, -3) else if ((kd == 1) && ((b.es.length : Int) == 200)) = true then (Mb.emptyB, 2, -1) else if (!(kd == 1) && decide (Mb.findI b.es ud < 0)) = true then (Mb.emptyB, 6, -9)
    else (if kd = 1 then Mb.addC b (kd, ud, st, cl, tm, fl, bd) else if kd = 2 then Mb.flagC b (kd, ud, st, cl, tm, fl, bd) (Mb.findI b.es ud).toNat else Mb.remC b (Mb.findI b.es ud).toNat, 0, 0)) := by
  have hl : ((b.es.length : Int) == 200) = (b.es.length == 200) := by
    rw [Bool.eq_iff_iff]
    simp only [beq_iff_eq]
    omega
  rw [hl]
  unfold Mb.applF
  simp only [Bool.or_eq_true, Bool.and_eq_true, Bool.not_eq_true', beq_iff_eq, beq_eq_false_iff_ne, decide_eq_true_eq, ne_eq]
theorem findI_at {es : List Mb.Ent} {u : Int} {i : Nat} (h : Mb.findI es u = (i : Int)) : ∃ hi : i < es.length, es[i].1 = u := by
  obtain ⟨h1, h2⟩ := Mb.findI_get (es := es) (u := u) (by omega)
  have h3 : (Mb.findI es u).toNat = i := by omega
  subst h3
  exact ⟨h1, h2⟩
theorem flagC_eq {b : Mb.Box} {c : Mb.Chg} {i : Nat} (hi : i < b.es.length) : Mb.flagC b c i = if Mb.mixF b.es[i].2.2.1 c.2.2.2.1 c.2.2.1 ≠ b.es[i].2.2.1 then ⟨b.nu, b.ns + 1, b.hz, b.es.set i (b.es[i].1, b.ns, Mb.mixF b.es[i].2.2.1 c.2.2.2.1 c.2.2.1, b.es[i].2.2.2), b.gs⟩ else b := by
  unfold Mb.flagC
  dsimp only
  rw [Mb.gD _ hi]
theorem andNot64 : ∀ a b : Fin 64, bits .andNot .i64 (a.val : Int) (b.val : Int) = ((a.val &&& (63 - b.val) : Nat) : Int) := by decide +kernel
theorem or64 : ∀ a b : Fin 64, bits .or .i64 (a.val : Int) (b.val : Int) = ((a.val ||| b.val : Nat) : Int) := by decide +kernel
theorem mix_i64 (f c s : Int) (hf : 0 ≤ f ∧ f ≤ 63) (hc : 0 ≤ c ∧ c ≤ 63) (hs : 0 ≤ s ∧ s ≤ 63) : bits .or .i64 (bits .andNot .i64 f c) s = Mb.mixF f c s := by
  obtain ⟨f, rfl⟩ : ∃ n : Nat, f = (n : Int) := ⟨f.toNat, by omega⟩
  obtain ⟨c, rfl⟩ : ∃ n : Nat, c = (n : Int) := ⟨c.toNat, by omega⟩
  obtain ⟨s, rfl⟩ : ∃ n : Nat, s = (n : Int) := ⟨s.toNat, by omega⟩
  have h1 := andNot64 ⟨f, by omega⟩ ⟨c, by omega⟩
  dsimp only at h1
  have h2 : f &&& (63 - c) < 64 := Nat.lt_of_le_of_lt Nat.and_le_left (by omega)
  have h3 := or64 ⟨f &&& (63 - c), h2⟩ ⟨s, by omega⟩
  dsimp only at h3
  rw [h1, h3]
  rfl
set_option maxRecDepth 100000 in
set_option maxHeartbeats 16000000 in
theorem apply_ok (M : Nat → Prop) (b : Mb.Box) (c : Mb.Chg) (es gs f bd : Value) (w : World) (hM : ∀ x, M x → x < w.heap.size) (he : SlR entC M w es b.es) (hg : SlR gnC M w gs b.gs) (hf : SlR fldC M0 w f c.2.2.2.2.2.1) (hb : SlR byteC M0 w bd c.2.2.2.2.2.2) (hfl : c.2.2.2.2.2.1.length ≤ 4398046511104) (hlen : c.2.2.2.2.2.2.length ≤ 140737488355328) (hG : Mb.Good b) (hgl : ¬ c.1 = 1 → b.gs.length < 400) :
    Calls Tryz.prog 29 #[boxV b es gs, chgV c f bd] w fun e w' => ∃ es' gs', e = .returned (.tuple #[boxV (Mb.applF b c).1 es' gs', .agg #[.int .i64 (Mb.applF b c).2.1, .int .i64 (Mb.applF b c).2.2]]) ∧ Own entC (fun x => M x ∨ gs'.ownBlock = some x) w' w.heap.size 65 es' (Mb.applF b c).1.es ∧ Own gnC M w' w.heap.size 82 gs' (Mb.applF b c).1.gs ∧ Below w.heap.size w w' := by
  have Hgl := Lib.hid hgl
  clear hgl
  unfold chgV
  obtain ⟨kd, ud, st, cl, tm, fl, bdl⟩ := c
  dsimp only at hf hb hfl hlen ⊢
  obtain ⟨⟨rb, r1, r2⟩, hr⟩ : ∃ r, r = Mb.applF b (kd, ud, st, cl, tm, fl, bdl) := ⟨_, rfl⟩
  rw [← hr]
  dsimp only
  have HE := hr.trans (applF_eq b kd ud st cl tm fl bdl)
  clear hr
  have hch := fun W (h1 : SlR fldC M0 W f fl) (h2 : SlR byteC M0 W bd bdl) => change_ok (kd, ud, st, cl, tm, fl, bdl) f bd W h1 h2 hfl (by dsimp only; omega)
  have hfi := fun W (h1 : SlR entC M0 W es b.es) (h2 : SlR gnC M0 W gs b.gs) => find_ok b es gs ud W h1 h2
  have hcp := fun W (Mx : Nat → Prop) (h0 : ∀ x, Mx x → x < W.heap.size) (h1 : SlR entC Mx W es b.es) (h2 : SlR gnC Mx W gs b.gs) => copy_ok Mx b es gs W h0 h1 h2 (by have := hG.le; omega) (by have := hG.lg; omega) (fun e he => by have h5 := (Mb.msg_ok (hG.es e he).2.2.2.2); omega)
  have hcm := fun W (h1 : SlR fldC M0 W f fl) (h2 : SlR byteC M0 W bd bdl) => copyMsg_ok f bd (fl, bdl) W h1 h2
  obtain ⟨Ae, ce, rfl, hec, hem⟩ := he.form
  obtain ⟨Ag, cg, rfl, hgc, hgm⟩ := hg.form
  obtain ⟨Af, cf, rfl, hfc, hfm⟩ := hf.form
  obtain ⟨Ab, cb, rfl, hbc, hbm⟩ := hb.form
  unfold boxV at hfi hcp ⊢
  unfold chgV at hch
  dsimp only at hch hcm
  obtain ⟨⟨v1, v2⟩, hv⟩ : ∃ v, v = Mb.chgF (kd, ud, st, cl, tm, fl, bdl) := ⟨_, rfl⟩
  rw [← hv] at hch HE
  dsimp only at hch HE
  obtain ⟨fi, hfiE⟩ : ∃ t, t = Mb.findI b.es ud := ⟨_, rfl⟩
  rw [← hfiE] at hfi HE
  have Hch := Lib.hid hch; have Hfi := Lib.hid hfi; have Hcp := Lib.hid hcp; have Hcm := Lib.hid hcm
  have hok := fun h => Mb.chg_ok (c := (kd, ud, st, cl, tm, fl, bdl)) h
  rw [← hv] at hok
  dsimp only at hok
  have Hok := Lib.hid hok
  clear hch hfi hcp hcm hv hok
  obtain ⟨wa, g2, g3, hwa, hg2, hg3, hsza, ka, kb, hba⟩ := box2 w #[.int .i64 b.nu, .int .i64 b.ns, .int .i64 b.hz, .slice Ae b.es.length ce, .slice Ag b.gs.length cg] 26 #[.int .i64 kd, .int .i64 ud, .int .i64 st, .int .i64 cl, .int .i64 tm, .slice Af fl.length cf, .slice Ab bdl.length cb] 47
  obtain ⟨w0, g4, g5, hw0, hg4, hg5, hsz0, k4, k5, hbb⟩ := box2 wa #[.int .i64 0, .int .i64 0, .int .i64 0, .slice none 0 0, .slice none 0 0] 26 #[.int .i64 0, .int .i64 0] 31
  have k2 := ka.ext hbb; have k3 := kb.ext hbb; have hb0 := below2 hba hbb
  have hne45 : g4 ≠ g5 := by omega
  have hgl4 : w.heap.size ≤ g4 := by omega
  have hgl5 : w.heap.size ≤ g5 := by omega
  have hg34 : g3 < g4 := by omega
  have hg23 : g2 < g3 := by omega
  have hg50 : g5 < w0.heap.size := k5.lt
  clear hsza hsz0 ka kb
  have he0 := he.zero.ext hb0; have hg0 := hg.zero.ext hb0; have hf0 := hf.ext hb0; have hb0d := hb.ext hb0
  obtain ⟨c0, c1, c2, c3, c4⟩ := (⟨k2.cell 0, k2.cell 1, k2.cell 2, k2.cell 3, k2.cell 4⟩ : _ ∧ _ ∧ _ ∧ _ ∧ _)
  obtain ⟨d0, d1, d2, d3, d4, d5, d6⟩ := (⟨k3.cell 0, k3.cell 1, k3.cell 2, k3.cell 3, k3.cell 4, k3.cell 5, k3.cell 6⟩ : _ ∧ _ ∧ _ ∧ _ ∧ _ ∧ _ ∧ _)
  go_enter Tryz.func29, Tryz.ntmps29
  go_wp2_with fail
  refine (Hch.out w0 hf0 hb0d).mono ?_
  rintro e w1 ⟨rfl, hb1⟩
  obtain ⟨w2, g6, hw2, hg6, hsz2, k6, hb2⟩ := box1 w1 #[.int .i64 v1, .int .i64 v2] 31
  have hb2' := below2 hb1 hb2
  have hg6' : w0.heap.size ≤ g6 := by have := hb1.size; omega
  obtain ⟨q0, q1, _, _, _⟩ := k6.two
  clear hsz2 c0 c1 c2 c3 c4 d0 d1 d2 d3 d4 d5 d6 Hch
  go_wp2_with fail
  refine (failed_ok v1 v2 w2).mono ?_
  rintro e w3 ⟨rfl, hb3⟩
  have hb3' := below2 hb2' hb3
  by_cases hv1 : v1 = 0
  · subst hv1
    have hok := Hok.out rfl
    obtain ⟨hv2, hkd, hst, hcl, htm, hadd, hnadd⟩ := hok
    replace HE := HE.trans (if_neg (fun h => h rfl))
    have hz : ((0 : Int) != 0) = false := rfl
    clear hv2 q0 q1
    have k2W := k2.ext hb3'; have k3W := k3.ext hb3'
    have c0 := k2W.cell 0; have c1 := k2W.cell 1; have c2 := k2W.cell 2; have c3 := k2W.cell 3; have c4 := k2W.cell 4
    have d0 := k3W.cell 0; have d1 := k3W.cell 1; have d2 := k3W.cell 2; have d3 := k3W.cell 3; have d4 := k3W.cell 4; have d5 := k3W.cell 5; have d6 := k3W.cell 6
    go_wp2_with fail
    refine (Hfi.out w3 (he0.ext hb3') (hg0.ext hb3')).mono ?_
    rintro e w4 ⟨rfl, hb4a⟩
    have hb4 := below2 hb3' hb4a
    clear hz
    clear k2W k3W c0 c1 c2 c3 c4 d0 d1 d2 d3 d4 d5 d6
    have k2W := k2.ext hb4; have k3W := k3.ext hb4
    have c0 := k2W.cell 0; have c1 := k2W.cell 1; have c2 := k2W.cell 2; have c3 := k2W.cell 3; have c4 := k2W.cell 4
    have d0 := k3W.cell 0; have d1 := k3W.cell 1; have d2 := k3W.cell 2; have d3 := k3W.cell 3; have d4 := k3W.cell 4; have d5 := k3W.cell 5; have d6 := k3W.cell 6
    obtain ⟨nsb, hnsb⟩ : ∃ t, (b.ns == 1000000) = t := ⟨_, rfl⟩
    rw [hnsb] at HE
    have hgns := hG.ns; have hgnu := hG.nu; have hgle := hG.le
    by_cases h1 : kd = 1
    · subst h1
      have hz1 : ((1 : Int) == 1) = true := rfl
      have hmsg := (hadd rfl).2
      obtain ⟨hm60, _, hmsz⟩ := Mb.msg_ok hmsg
      dsimp only at hm60 hmsz
      have hcmb : fl.length ≤ 1000000 := by omega
      obtain ⟨nub, hnub⟩ : ∃ t, (b.nu == 1000000) = t := ⟨_, rfl⟩
      obtain ⟨lb, hlb⟩ : ∃ t, ((b.es.length : Int) == 200) = t := ⟨_, rfl⟩
      rw [hnub, hlb, hz1] at HE
      cases nsb with
      | true =>
        have e9 : b.ns = 1000000 := by simpa using hnsb
        clear hnsb
        rw [e9] at c0 c1 c2 c3 c4
        clear e9
        have HE2 := Lib.hid (show (rb, r1, r2) = (Mb.emptyB, 1, (-3)) from HE)
        clear HE
        obtain ⟨rfl, rfl, rfl⟩ : rb = Mb.emptyB ∧ r1 = 1 ∧ r2 = (-3) := by have := HE2.out; injection this with a b; injection b with b c; exact ⟨a, b, c⟩
        clear HE2
        go_wp2_with (go_at_call 27; refine (fault_ok _ _ _).mono ?_; rintro e w5 ⟨rfl, hb5⟩; refine Hid.out ?_)
        have hb5' := below2 hb4 hb5
        have k4W := k4.ext hb5'; have k5W := k5.ext hb5'
        obtain ⟨z0, z1, z2, z3, z4, y0, y1, hbZ, hTz⟩ := res7 k4W k5W hne45 (.int .i64 0) (.int .i64 0) (.int .i64 0) (.slice none 0 0) (.slice none 0 0) (.int .i64 1) (.int .i64 (-3))
        have x0 := k4W.frozen 0; have x1 := k4W.frozen 1; have x2 := k4W.frozen 2; have x3 := k4W.frozen 3; have x4 := k4W.frozen 4; have xl := k4W.lt
        have m0 := k4W.cell 0; have m1 := k4W.cell 1; have m2 := k4W.cell 2; have m3 := k4W.cell 3; have m4 := k4W.cell 4
        have n0 := (k5W.turned (put5_turned w5 g4 (.int .i64 0) (.int .i64 0) (.int .i64 0) (.slice none 0 0) (.slice none 0 0)) hne45.symm).cell 0; have n1 := (k5W.turned (put5_turned w5 g4 (.int .i64 0) (.int .i64 0) (.int .i64 0) (.slice none 0 0) (.slice none 0 0)) hne45.symm).cell 1
        obtain ⟨_, _, u0, u1, ul⟩ := k5W.two
        have u0b := (put5_turned w5 g4 (.int .i64 0) (.int .i64 0) (.int .i64 0) (.slice none 0 0) (.slice none 0 0)).frozen0 k5W hne45.symm; have u1b := (put5_turned w5 g4 (.int .i64 0) (.int .i64 0) (.int .i64 0) (.slice none 0 0) (.slice none 0 0)).frozen1 k5W hne45.symm
        unfold put5 at *
        refine Lib.hid ?_
        go_wp2_with fail
        refine bodyPost_ret (v := .tuple #[.agg #[.int .i64 0, .int .i64 0, .int .i64 0, .slice none 0 0, .slice none 0 0], .agg #[.int .i64 1, .int .i64 (-3)]]) (by simp [results, Tryz.results29, go_sem, z0, z1, z2, z3, z4, y0, y1]) rfl ⟨_, _, rfl, ?_, ?_, ?_⟩
        · exact Own.nil _ _ _ _ _
        · exact Own.nil _ _ _ _ _
        · exact (below2 hb0 hb5').trans (hbZ _ (by omega) (by omega))
      | false =>
        cases nub with
        | true =>
          have e9 : b.nu = 1000000 := by simpa using hnub
          clear hnub
          rw [e9] at c0 c1 c2 c3 c4
          clear e9
          have HE2 := Lib.hid (show (rb, r1, r2) = (Mb.emptyB, 1, (-3)) from HE)
          clear HE
          obtain ⟨rfl, rfl, rfl⟩ : rb = Mb.emptyB ∧ r1 = 1 ∧ r2 = (-3) := by have := HE2.out; injection this with a b; injection b with b c; exact ⟨a, b, c⟩
          clear HE2
          go_wp2_with (go_at_call 27; refine (fault_ok _ _ _).mono ?_; rintro e w5 ⟨rfl, hb5⟩; refine Hid.out ?_)
          have hb5' := below2 hb4 hb5
          have k4W := k4.ext hb5'; have k5W := k5.ext hb5'
          obtain ⟨z0, z1, z2, z3, z4, y0, y1, hbZ, hTz⟩ := res7 k4W k5W hne45 (.int .i64 0) (.int .i64 0) (.int .i64 0) (.slice none 0 0) (.slice none 0 0) (.int .i64 1) (.int .i64 (-3))
          have x0 := k4W.frozen 0; have x1 := k4W.frozen 1; have x2 := k4W.frozen 2; have x3 := k4W.frozen 3; have x4 := k4W.frozen 4; have xl := k4W.lt
          have m0 := k4W.cell 0; have m1 := k4W.cell 1; have m2 := k4W.cell 2; have m3 := k4W.cell 3; have m4 := k4W.cell 4
          have n0 := (k5W.turned (put5_turned w5 g4 (.int .i64 0) (.int .i64 0) (.int .i64 0) (.slice none 0 0) (.slice none 0 0)) hne45.symm).cell 0; have n1 := (k5W.turned (put5_turned w5 g4 (.int .i64 0) (.int .i64 0) (.int .i64 0) (.slice none 0 0) (.slice none 0 0)) hne45.symm).cell 1
          obtain ⟨_, _, u0, u1, ul⟩ := k5W.two
          have u0b := (put5_turned w5 g4 (.int .i64 0) (.int .i64 0) (.int .i64 0) (.slice none 0 0) (.slice none 0 0)).frozen0 k5W hne45.symm; have u1b := (put5_turned w5 g4 (.int .i64 0) (.int .i64 0) (.int .i64 0) (.slice none 0 0) (.slice none 0 0)).frozen1 k5W hne45.symm
          unfold put5 at *
          refine Lib.hid ?_
          go_wp2_with fail
          refine bodyPost_ret (v := .tuple #[.agg #[.int .i64 0, .int .i64 0, .int .i64 0, .slice none 0 0, .slice none 0 0], .agg #[.int .i64 1, .int .i64 (-3)]]) (by simp [results, Tryz.results29, go_sem, z0, z1, z2, z3, z4, y0, y1]) rfl ⟨_, _, rfl, ?_, ?_, ?_⟩
          · exact Own.nil _ _ _ _ _
          · exact Own.nil _ _ _ _ _
          · exact (below2 hb0 hb5').trans (hbZ _ (by omega) (by omega))
        | false =>
          cases lb with
          | true =>
            have e9 : b.es.length = 200 := by (have h9 : (b.es.length : Int) = 200 := by simpa using hlb); omega
            clear hlb
            rw [e9] at c0 c1 c2 c3 c4
            clear e9
            have HE2 := Lib.hid (show (rb, r1, r2) = (Mb.emptyB, 2, (-1)) from HE)
            clear HE
            obtain ⟨rfl, rfl, rfl⟩ : rb = Mb.emptyB ∧ r1 = 2 ∧ r2 = (-1) := by have := HE2.out; injection this with a b; injection b with b c; exact ⟨a, b, c⟩
            clear HE2
            go_wp2_with (go_at_call 27; refine (fault_ok _ _ _).mono ?_; rintro e w5 ⟨rfl, hb5⟩; refine Hid.out ?_)
            have hb5' := below2 hb4 hb5
            have k4W := k4.ext hb5'; have k5W := k5.ext hb5'
            obtain ⟨z0, z1, z2, z3, z4, y0, y1, hbZ, hTz⟩ := res7 k4W k5W hne45 (.int .i64 0) (.int .i64 0) (.int .i64 0) (.slice none 0 0) (.slice none 0 0) (.int .i64 2) (.int .i64 (-1))
            have x0 := k4W.frozen 0; have x1 := k4W.frozen 1; have x2 := k4W.frozen 2; have x3 := k4W.frozen 3; have x4 := k4W.frozen 4; have xl := k4W.lt
            have m0 := k4W.cell 0; have m1 := k4W.cell 1; have m2 := k4W.cell 2; have m3 := k4W.cell 3; have m4 := k4W.cell 4
            have n0 := (k5W.turned (put5_turned w5 g4 (.int .i64 0) (.int .i64 0) (.int .i64 0) (.slice none 0 0) (.slice none 0 0)) hne45.symm).cell 0; have n1 := (k5W.turned (put5_turned w5 g4 (.int .i64 0) (.int .i64 0) (.int .i64 0) (.slice none 0 0) (.slice none 0 0)) hne45.symm).cell 1
            obtain ⟨_, _, u0, u1, ul⟩ := k5W.two
            have u0b := (put5_turned w5 g4 (.int .i64 0) (.int .i64 0) (.int .i64 0) (.slice none 0 0) (.slice none 0 0)).frozen0 k5W hne45.symm; have u1b := (put5_turned w5 g4 (.int .i64 0) (.int .i64 0) (.int .i64 0) (.slice none 0 0) (.slice none 0 0)).frozen1 k5W hne45.symm
            unfold put5 at *
            refine Lib.hid ?_
            go_wp2_with fail
            refine bodyPost_ret (v := .tuple #[.agg #[.int .i64 0, .int .i64 0, .int .i64 0, .slice none 0 0, .slice none 0 0], .agg #[.int .i64 2, .int .i64 (-1)]]) (by simp [results, Tryz.results29, go_sem, z0, z1, z2, z3, z4, y0, y1]) rfl ⟨_, _, rfl, ?_, ?_, ?_⟩
            · exact Own.nil _ _ _ _ _
            · exact Own.nil _ _ _ _ _
            · exact (below2 hb0 hb5').trans (hbZ _ (by omega) (by omega))
          | false =>
            have HE2 := Lib.hid (show (rb, r1, r2) = (Mb.addC b (1, ud, st, cl, tm, fl, bdl), 0, 0) from HE)
            clear HE
            obtain ⟨rfl, rfl, rfl⟩ : rb = Mb.addC b (1, ud, st, cl, tm, fl, bdl) ∧ r1 = 0 ∧ r2 = 0 := by have := HE2.out; injection this with a b; injection b with b c; exact ⟨a, b, c⟩
            clear HE2
            have hl200 : b.es.length < 200 := by
              have h9 : ¬ (b.es.length : Int) = 200 := by simpa using hlb
              omega
            have hCMf := fun W => Hcm.out W
            clear Hok Hcm
            obtain ⟨M1, hM1⟩ : ∃ M1 : Nat → Prop, M1 = fun x => M x ∨ x = g4 ∨ x = g5 := ⟨_, rfl⟩
            have hMg4 : M1 g4 := by rw [hM1]; exact .inr (.inl rfl)
            have hMg5 : M1 g5 := by rw [hM1]; exact .inr (.inr rfl)
            have hM1M : ∀ x, M x → M1 x := fun x hx => by rw [hM1]; exact .inl hx
            have hM1lt : ∀ x, M1 x → x < w0.heap.size := by
              intro x hx
              rw [hM1] at hx
              have := hb0.size
              rcases hx with hx | hx | hx
              · have := hM x hx; omega
              · omega
              · omega
            have hbw4 := below2 hb0 hb4
            have hs4 := hb4.size; have hs0 := hb0.size
            have hsub : ∀ x, x < w.heap.size → M1 x → M x := fun x hx h => by
              rw [hM1] at h
              rcases h with h | h | h
              · exact h
              · omega
              · omega
            have heM : SlR entC M1 w4 (.slice Ae b.es.length ce) b.es := (he.sub hsub).ext hbw4
            have hgM : SlR gnC M1 w4 (.slice Ag b.gs.length cg) b.gs := (hg.sub hsub).ext hbw4
            have hcpw := Hcp.out w4 M1 (fun x hx => Nat.lt_of_lt_of_le (hM1lt x hx) hs4) heM hgM
            have Hcpw := Lib.hid hcpw
            clear hcpw hM1 heM hgM Hcp Hfi
            go_wp2_with fail
            refine Hcpw.out.mono ?_
            rintro e w5 ⟨esv, gsv, rfl, oE, oG, hb5⟩
            obtain ⟨Aes, ces, rfl, _, _⟩ := oE.shape
            obtain ⟨Ags, cgs, rfl, _, _⟩ := oG.shape
            obtain ⟨w6, g9, hw6, hg9, hsz6, k9, hb6⟩ := box1 w5 #[.int .i64 b.nu, .int .i64 b.ns, .int .i64 b.hz, .slice Aes b.es.length ces, .slice Ags b.gs.length cgs] 75
            have hb6' := below2 hb4 (below2 hb5 hb6)
            have hs5 := hb5.size; have hs6 := hb6.size
            obtain ⟨M2, hM2⟩ : ∃ M2 : Nat → Prop, M2 = fun x => M1 x ∨ x = g9 := ⟨_, rfl⟩
            have hM2g : M2 g9 := by rw [hM2]; exact .inr rfl
            have hM21 : ∀ x, M1 x → M2 x := fun x hx => by rw [hM2]; exact .inl hx
            have hM2lt : ∀ x, M2 x → x < w6.heap.size := fun x hx => by
              rw [hM2] at hx
              rcases hx with hx | hx
              · have := hM1lt x hx; omega
              · omega
            have hM2c : ∀ x, M2 x → x ≠ g9 → x < w0.heap.size := fun x hx hn => by
              rw [hM2] at hx
              rcases hx with hx | hx
              · exact hM1lt x hx
              · exact absurd hx hn
            have oE6 : Own entC (fun x => M2 x ∨ (Value.slice Ags b.gs.length cgs).ownBlock = some x) w6 w4.heap.size 65 (.slice Aes b.es.length ces) b.es := (own_sub oE fun x hx h => h.imp (fun h => by
              rw [hM2] at h
              rcases h with h | h
              · exact h
              · omega) id).ext hb6
            have oG6 : Own gnC M2 w6 w4.heap.size 82 (.slice Ags b.gs.length cgs) b.gs := own_freeM free_gn (oG.ext hb6)
            have hBw : w.heap.size ≤ w4.heap.size := by omega
            have hg9l : w4.heap.size ≤ g9 := by omega
            have hne9 : g9 ≠ g3 ∧ g9 ≠ g4 ∧ g9 ≠ g5 ∧ g9 ≠ g2 := by omega
            clear oE oG hM2 hsz6 Hcpw
            clear k2W k3W c0 c1 c2 c3 c4 d0 d1 d2 d3 d4 d5 d6
            have k2W := k2.ext hb6'; have k3W := k3.ext hb6'
            have c0 := k2W.cell 0; have c1 := k2W.cell 1; have c2 := k2W.cell 2; have c3 := k2W.cell 3; have c4 := k2W.cell 4
            have d0 := k3W.cell 0; have d1 := k3W.cell 1; have d2 := k3W.cell 2; have d3 := k3W.cell 3; have d4 := k3W.cell 4; have d5 := k3W.cell 5; have d6 := k3W.cell 6
            have s0 := k9.cell 0; have s1 := k9.cell 1; have s2 := k9.cell 2; have s3 := k9.cell 3; have s4 := k9.cell 4
            have hfM : SlR fldC (MB M0 w.heap.size) w6 (.slice Af fl.length cf) fl := (hf.toMB.ext hb0).ext hb6'
            have hbM : SlR byteC (MB M0 w.heap.size) w6 (.slice Ab bdl.length cb) bdl := (hb.toMB.ext hb0).ext hb6'
            have hMB9 : MB M0 w.heap.size g9 := .inr (by omega)
            have Hcm := Lib.hid hCMf
            clear hCMf
            have HS := Lib.hid (show ∀ W, Below w6.heap.size w6 W → W.cell? ⟨g9, 3, none⟩ = some (.slice Aes b.es.length ces) ∧ W.cell? ⟨g9, 0, none⟩ = some (.int .i64 b.nu) ∧ W.cell? ⟨g3, 2, none⟩ = some (.int .i64 st) ∧ W.cell? ⟨g3, 4, none⟩ = some (.int .i64 tm) ∧ W.cell? ⟨g3, 5, none⟩ = some (.slice Af fl.length cf) ∧ W.cell? ⟨g3, 6, none⟩ = some (.slice Ab bdl.length cb) from fun W hW => (⟨(k9.ext hW).cell 3, (k9.ext hW).cell 0, (k3W.ext hW).cell 2, (k3W.ext hW).cell 4, (k3W.ext hW).cell 5, (k3W.ext hW).cell 6⟩ : _ ∧ _ ∧ _ ∧ _ ∧ _ ∧ _))
            go_wp2_with fail
            refine wp_region_D (fun W => W.cell? ⟨g9, 3, none⟩ = some (.slice Aes b.es.length ces) ∧ W.cell? ⟨g9, 0, none⟩ = some (.int .i64 b.nu) ∧ W.cell? ⟨g3, 2, none⟩ = some (.int .i64 st) ∧ W.cell? ⟨g3, 4, none⟩ = some (.int .i64 tm) ∧ W.cell? ⟨g3, 5, none⟩ = some (.slice Af fl.length cf) ∧ W.cell? ⟨g3, 6, none⟩ = some (.slice Ab bdl.length cb)) (fun j => j == 23 || j == 24 || j == 25 || j == 26) (by kernel_rfl) ?_
            change anyD _ _ _ _ _ _ _ _ _ (w6.drewN 1)
            have hbV := below_drewN' w6.heap.size w6 1
            generalize w6.drewN 1 = V0 at hbV ⊢
            have hS := HS.out V0 hbV
            (refine anyD_light (i := 0) (v := ?_) rfl (by kernel_rfl) (by kernel_rfl) (by kernel_rfl) (by kernel_rfl) (by kernel_rfl) (fun _ _ _ h => h) (.inl ⟨by kernel_rfl, fun W9 hW9 => ?_⟩) hS ?_; rotate_left; · (obtain ⟨hw0, hw1, hw2, hw3, hw4, hw5⟩ := hW9; go_simp; rfl))
            (refine anyD_light (i := 1) (v := ?_) rfl (by kernel_rfl) (by kernel_rfl) (by kernel_rfl) (by kernel_rfl) (by kernel_rfl) (fun _ _ _ h => h) (.inl ⟨by kernel_rfl, fun W9 hW9 => ?_⟩) hS ?_; rotate_left; · (obtain ⟨hw0, hw1, hw2, hw3, hw4, hw5⟩ := hW9; go_simp; rfl))
            (refine anyD_light (i := 2) (v := ?_) rfl (by kernel_rfl) (by kernel_rfl) (by kernel_rfl) (by kernel_rfl) (by kernel_rfl) (fun _ _ _ h => h) (.inl ⟨by kernel_rfl, fun W9 hW9 => ?_⟩) hS ?_; rotate_left; · (obtain ⟨hw0, hw1, hw2, hw3, hw4, hw5⟩ := hW9; go_simp; rfl))
            (refine anyD_light (i := 3) (v := ?_) rfl (by kernel_rfl) (by kernel_rfl) (by kernel_rfl) (by kernel_rfl) (by kernel_rfl) (fun _ _ _ h => h) (.inl ⟨by kernel_rfl, fun W9 hW9 => ?_⟩) hS ?_; rotate_left; · (obtain ⟨hw0, hw1, hw2, hw3, hw4, hw5⟩ := hW9; go_simp; rfl))
            (refine anyD_light (i := 4) (v := ?_) rfl (by kernel_rfl) (by kernel_rfl) (by kernel_rfl) (by kernel_rfl) (by kernel_rfl) (fun _ _ _ h => h) (.inl ⟨by kernel_rfl, fun W9 hW9 => ?_⟩) hS ?_; rotate_left; · (obtain ⟨hw0, hw1, hw2, hw3, hw4, hw5⟩ := hW9; go_simp; rfl))
            (refine anyD_light (i := 5) (v := ?_) rfl (by kernel_rfl) (by kernel_rfl) (by kernel_rfl) (by kernel_rfl) (by kernel_rfl) (fun _ _ _ h => h) (.inl ⟨by kernel_rfl, fun W9 hW9 => ?_⟩) hS ?_; rotate_left; · (obtain ⟨hw0, hw1, hw2, hw3, hw4, hw5⟩ := hW9; go_simp; rfl))
            go_simp
            (refine anyD_light (i := 6) (v := ?_) rfl (by kernel_rfl) (by kernel_rfl) (by kernel_rfl) (by kernel_rfl) (by kernel_rfl) (fun _ _ _ h => h) (.inl ⟨by kernel_rfl, fun W9 hW9 => ?_⟩) hS ?_; rotate_left; · (obtain ⟨hw0, hw1, hw2, hw3, hw4, hw5⟩ := hW9; go_simp; rfl))
            (refine anyD_light (i := 7) (v := ?_) rfl (by kernel_rfl) (by kernel_rfl) (by kernel_rfl) (by kernel_rfl) (by kernel_rfl) (fun _ _ _ h => h) (.inl ⟨by kernel_rfl, fun W9 hW9 => ?_⟩) hS ?_; rotate_left; · (obtain ⟨hw0, hw1, hw2, hw3, hw4, hw5⟩ := hW9; go_simp; rfl))
            (refine anyD_light (i := 8) (v := ?_) rfl (by kernel_rfl) (by kernel_rfl) (by kernel_rfl) (by kernel_rfl) (by kernel_rfl) (fun _ _ _ h => h) (.inl ⟨by kernel_rfl, fun W9 hW9 => ?_⟩) hS ?_; rotate_left; · (obtain ⟨hw0, hw1, hw2, hw3, hw4, hw5⟩ := hW9; go_simp; rfl))
            (refine anyD_light (i := 9) (v := ?_) rfl (by kernel_rfl) (by kernel_rfl) (by kernel_rfl) (by kernel_rfl) (by kernel_rfl) (fun _ _ _ h => h) (.inl ⟨by kernel_rfl, fun W9 hW9 => ?_⟩) hS ?_; rotate_left; · (obtain ⟨hw0, hw1, hw2, hw3, hw4, hw5⟩ := hW9; go_simp; rfl))
            (refine anyD_light (i := 10) (v := ?_) rfl (by kernel_rfl) (by kernel_rfl) (by kernel_rfl) (by kernel_rfl) (by kernel_rfl) (fun _ _ _ h => h) (.inl ⟨by kernel_rfl, fun W9 hW9 => ?_⟩) hS ?_; rotate_left; · (obtain ⟨hw0, hw1, hw2, hw3, hw4, hw5⟩ := hW9; go_simp; rfl))
            (refine anyD_light (i := 11) (v := ?_) rfl (by kernel_rfl) (by kernel_rfl) (by kernel_rfl) (by kernel_rfl) (by kernel_rfl) (fun _ _ _ h => h) (.inl ⟨by kernel_rfl, fun W9 hW9 => ?_⟩) hS ?_; rotate_left; · (obtain ⟨hw0, hw1, hw2, hw3, hw4, hw5⟩ := hW9; go_simp; rfl))
            go_simp
            (refine anyD_light (i := 13) (v := ?_) rfl (by kernel_rfl) (by kernel_rfl) (by kernel_rfl) (by kernel_rfl) (by kernel_rfl) (fun _ _ _ h => h) (.inl ⟨by kernel_rfl, fun W9 hW9 => ?_⟩) hS ?_; rotate_left; · (obtain ⟨hw0, hw1, hw2, hw3, hw4, hw5⟩ := hW9; go_simp; rfl))
            (refine anyD_light (i := 14) (v := ?_) rfl (by kernel_rfl) (by kernel_rfl) (by kernel_rfl) (by kernel_rfl) (by kernel_rfl) (fun _ _ _ h => h) (.inl ⟨by kernel_rfl, fun W9 hW9 => ?_⟩) hS ?_; rotate_left; · (obtain ⟨hw0, hw1, hw2, hw3, hw4, hw5⟩ := hW9; go_simp; rfl))
            (refine anyD_light (i := 15) (v := ?_) rfl (by kernel_rfl) (by kernel_rfl) (by kernel_rfl) (by kernel_rfl) (by kernel_rfl) (fun _ _ _ h => h) (.inl ⟨by kernel_rfl, fun W9 hW9 => ?_⟩) hS ?_; rotate_left; · (obtain ⟨hw0, hw1, hw2, hw3, hw4, hw5⟩ := hW9; go_simp; rfl))
            (refine anyD_light (i := 16) (v := ?_) rfl (by kernel_rfl) (by kernel_rfl) (by kernel_rfl) (by kernel_rfl) (by kernel_rfl) (fun _ _ _ h => h) (.inl ⟨by kernel_rfl, fun W9 hW9 => ?_⟩) hS ?_; rotate_left; · (obtain ⟨hw0, hw1, hw2, hw3, hw4, hw5⟩ := hW9; go_simp; rfl))
            (refine anyD_light (i := 17) (v := ?_) rfl (by kernel_rfl) (by kernel_rfl) (by kernel_rfl) (by kernel_rfl) (by kernel_rfl) (fun _ _ _ h => h) (.inl ⟨by kernel_rfl, fun W9 hW9 => ?_⟩) hS ?_; rotate_left; · (obtain ⟨hw0, hw1, hw2, hw3, hw4, hw5⟩ := hW9; go_simp; rfl))
            (refine anyD_light (i := 18) (v := ?_) rfl (by kernel_rfl) (by kernel_rfl) (by kernel_rfl) (by kernel_rfl) (by kernel_rfl) (fun _ _ _ h => h) (.inl ⟨by kernel_rfl, fun W9 hW9 => ?_⟩) hS ?_; rotate_left; · (obtain ⟨hw0, hw1, hw2, hw3, hw4, hw5⟩ := hW9; go_simp; rfl))
            go_simp
            go_simp
            refine anyD_one (i := 12) (by kernel_rfl) rfl rfl (fun K hK => ?_)
            have HK := Lib.hid hK
            clear hK
            clear hS
            unfold Oper.wp
            go_simp
            refine (next_ok g9 _ _ _ _ _ b.ns (by omega) V0 (k9.ext hbV)).mono ?_
            rintro e V1 ⟨rfl, hV1⟩
            have hT1 : Turned g9 V0 V1 := by rw [hV1]; exact (Turned.refl g9 V0).set 1 _
            have kb1 : Blk V1 g9 75 #[.int .i64 b.nu, .int .i64 (b.ns + 1), .int .i64 b.hz, .slice Aes b.es.length ces, .slice Ags b.gs.length cgs] := by rw [hV1]; simpa using (k9.ext hbV).set_ 1 (.int .i64 (b.ns + 1))
            have k31 := (k3W.ext hbV).turned hT1 (Ne.symm hne9.1)
            have oE1 := (oE6.ext hbV).turned hT1 (.inl hM2g) (own_ne_blk oE6 k9 (by decide))
            have oG1 := (oG6.ext hbV).turned hT1 hM2g (own_ne_blk oG6 k9 (by decide))
            have hfM1 := (hfM.ext hbV).turned hT1 hMB9; have hbM1 := (hbM.ext hbV).turned hT1 hMB9
            have hB1 : Below w0.heap.size w0 V1 := (below2 hb6' hbV).trans (hT1.rest _ (by omega))
            have hz1s : w6.heap.size ≤ V1.heap.size := by have h1 := hbV.size; have h2 := hT1.size; omega
            clear hV1 hT1
            have hS := (⟨kb1.cell 3, kb1.cell 0, k31.cell 2, k31.cell 4, k31.cell 5, k31.cell 6⟩ : _ ∧ _ ∧ _ ∧ _ ∧ _ ∧ _)
            refine HK.out _ _ (fun _ => hS) ?_
            clear HK
            go_simp
            refine anyD_one (i := 19) (by kernel_rfl) rfl rfl (fun K hK => ?_)
            have HK := Lib.hid hK
            clear hK
            clear hS
            unfold Oper.wp
            go_simp
            refine (Hcm.out V1 hfM1.zero hbM1.zero (by omega) (by omega)).mono ?_
            rintro e V2 ⟨vf, vb, rfl, ownf, ownb, hb2m⟩
            obtain ⟨Afn, cfn, rfl, _, _⟩ := ownf.shape
            obtain ⟨Abn, cbn, rfl, _, _⟩ := ownb.shape
            have kb2 := kb1.ext hb2m
            have k32 := k31.ext hb2m
            have oE2 := oE1.ext hb2m
            have oG2 := oG1.ext hb2m
            have hB2 := below2 hB1 hb2m
            have hz2 := hb2m.size
            have hS := (⟨kb2.cell 3, kb2.cell 0, k32.cell 2, k32.cell 4, k32.cell 5, k32.cell 6⟩ : _ ∧ _ ∧ _ ∧ _ ∧ _ ∧ _)
            refine HK.out _ _ (fun _ => hS) ?_
            clear HK
            (refine anyD_light (i := 20) (v := ?_) rfl (by kernel_rfl) (by kernel_rfl) (by kernel_rfl) (by kernel_rfl) (by kernel_rfl) (fun _ _ _ h => h) (.inl ⟨by kernel_rfl, fun W9 hW9 => ?_⟩) hS ?_; rotate_left; · (obtain ⟨hw0, hw1, hw2, hw3, hw4, hw5⟩ := hW9; go_simp; rfl))
            go_simp
            refine anyD_one (i := 21) (by kernel_rfl) rfl rfl (fun K hK => ?_)
            have HK := Lib.hid hK
            clear hK
            clear hS
            unfold Oper.wp
            go_simp
            have hrd : entC.rd (fun x => (fun x => M2 x ∨ (Value.slice Ags b.gs.length cgs).ownBlock = some x) x ∨ (Value.slice Aes b.es.length ces).ownBlock = some x) V2 [.int .i64 b.nu, .int .i64 b.ns, .int .i64 st, .int .i64 tm, .slice Afn fl.length cfn, .slice Abn bdl.length cbn] (b.nu, b.ns, st, tm, fl, bdl) := by
              have hlt : ∀ x, (((fun x => M2 x ∨ (Value.slice Ags b.gs.length cgs).ownBlock = some x) x) ∨ (Value.slice Aes b.es.length ces).ownBlock = some x) → x < V1.heap.size := fun x hx => by
                rcases hx with (hx | hx) | hx
                · have := hM2lt x hx; omega
                · exact oG1.lt x hx
                · exact oE1.lt x hx
              exact ⟨_, _, rfl, ⟨rfl, by dsimp only; omega⟩, _, _, rfl, ⟨rfl, by dsimp only; omega⟩, _, _, rfl, ⟨rfl, by dsimp only; omega⟩, _, _, rfl, ⟨rfl, by dsimp only; omega⟩, _, _, rfl, ⟨_, rfl, own_freeR free_fld ownf hlt⟩, ⟨_, rfl, own_freeR free_byte ownb hlt⟩⟩
            have xr : SlR entC (fun x => (fun x => M2 x ∨ (Value.slice Ags b.gs.length cgs).ownBlock = some x) x ∨ (Value.slice Aes b.es.length ces).ownBlock = some x) (V2.alloc (.cells #[.int .i64 b.nu, .int .i64 b.ns, .int .i64 st, .int .i64 tm, .slice Afn fl.length cfn, .slice Abn bdl.length cbn] 65)) (.slice (some ⟨V2.heap.size, 0, none⟩) 1 1) [(b.nu, b.ns, st, tm, fl, bdl)] := SlR.built (C := entC) 65 hrd fun x hx => by
              rcases hx with (hx | hx) | hx
              · have := hM2lt x hx; omega
              · exact oG2.lt x hx
              · exact oE2.lt x hx
            have hal : Below V2.heap.size V2 (V2.alloc (.cells #[.int .i64 b.nu, .int .i64 b.ns, .int .i64 st, .int .i64 tm, .slice Afn fl.length cfn, .slice Abn bdl.length cbn] 65)) := (Below.refl _ _).alloc (Nat.le_refl _) _
            generalize hV3 : V2.alloc (.cells #[.int .i64 b.nu, .int .i64 b.ns, .int .i64 st, .int .i64 tm, .slice Afn fl.length cfn, .slice Abn bdl.length cbn] 65) = V3 at xr hal ⊢
            have kb3 := kb2.ext hal
            have k33 := k32.ext hal
            have oE3 := oE2.ext hal
            have oG3 := oG2.ext hal
            have hB3 := below2 hB2 hal
            have hz3 := hal.size
            have hS := (⟨kb3.cell 3, kb3.cell 0, k33.cell 2, k33.cell 4, k33.cell 5, k33.cell 6⟩ : _ ∧ _ ∧ _ ∧ _ ∧ _ ∧ _)
            refine HK.out _ _ (fun _ => hS) ?_
            clear HK
            go_simp
            refine anyD_one (i := 22) (by kernel_rfl) rfl rfl (fun K hK => ?_)
            have HK := Lib.hid hK
            clear hK
            clear hS
            refine wp_append_Own entC (M := (fun x => M2 x ∨ (Value.slice Ags b.gs.length cgs).ownBlock = some x)) (v := .slice Aes b.es.length ces) (l := b.es) (l' := [(b.nu, b.ns, st, tm, fl, bdl)]) TEnts (.tmp 73) (.tmp 89) rfl rfl oE3 rfl xr (by simp only [maxLen, List.length_cons, List.length_nil]; omega) (by simp only [List.length_cons, List.length_nil]; omega) (by omega) ?_
            intro A4 c4x L4 V4 hL4 oE4 hbl4 hgr4 hor4
            have oG4 := own_grownF free_gn oG3 hgr4 (fun x hx e => own_apart oE3 oG3 (by decide) x hx e)
            have kb4 := kb3.grown hgr4 (fun e => own_ne_blk oE3 kb3 (by decide) g9 e.symm rfl)
            have k34 := k33.grown hgr4 (fun e => by have h1 := oE3.base g3 e.symm; omega)
            have hB4 : Below w0.heap.size w0 V4 := hB3.trans (hbl4.mono (by omega))
            have hz4 := hgr4.size
            clear oE3 oG3 oE2 oG2 oE1 oG1 xr hV3 hrd hfM1 hbM1
            have hS := (⟨kb4.cell 3, kb4.cell 0, k34.cell 2, k34.cell 4, k34.cell 5, k34.cell 6⟩ : _ ∧ _ ∧ _ ∧ _ ∧ _ ∧ _)
            refine HK.out _ _ (fun _ => hS) ?_
            clear HK
            (refine anyD_light (i := 23) (v := ?_) rfl (by kernel_rfl) (by kernel_rfl) (by kernel_rfl) (by kernel_rfl) (by kernel_rfl) (fun _ _ _ h => h) (.inl ⟨by kernel_rfl, fun W9 hW9 => ?_⟩) hS ?_; rotate_left; · (obtain ⟨hw0, hw1, hw2, hw3, hw4, hw5⟩ := hW9; go_simp; rfl))
            go_simp
            refine anyD_one (i := 24) (by kernel_rfl) rfl rfl (fun K hK => ?_)
            have HK := Lib.hid hK
            clear hK
            unfold Oper.wp
            go_simp
            refine HK.out _ _ (fun h => by cases h) ?_
            clear HK
            go_simp
            refine anyD_one (i := 25) (by kernel_rfl) rfl rfl (fun K hK => ?_)
            have HK := Lib.hid hK
            clear hK
            unfold Oper.wp
            go_simp
            refine HK.out _ _ (fun h => by cases h) ?_
            clear HK
            go_simp
            refine anyD_one (i := 26) (by kernel_rfl) rfl rfl (fun K hK => ?_)
            have HK := Lib.hid hK
            clear hK
            have x3 := kb4.frozen 3; have xl := kb4.lt; have y3 := kb4.cell 3
            unfold Oper.wp
            go_simp
            refine HK.out _ _ (fun h => by cases h) ?_
            clear HK
            go_simp
            refine anyD_done (by kernel_rfl) ?_ _
            have hT5 : Turned g9 V4 (V4.setCell ⟨g9, 3, none⟩ (.slice A4 L4.length c4x)) := (Turned.refl g9 V4).set 3 _
            have kb5 : Blk (V4.setCell ⟨g9, 3, none⟩ (.slice A4 L4.length c4x)) g9 75 #[.int .i64 b.nu, .int .i64 (b.ns + 1), .int .i64 b.hz, .slice A4 L4.length c4x, .slice Ags b.gs.length cgs] := by simpa using kb4.set_ 3 (.slice A4 L4.length c4x)
            generalize V4.setCell ⟨g9, 3, none⟩ (.slice A4 L4.length c4x) = V5 at hT5 kb5 ⊢
            have oE5 := oE4.turned hT5 (.inl hM2g) (own_ne_blk oE4 kb4 (by decide))
            have oG5 := oG4.turned hT5 hM2g (own_ne_blk oG4 kb4 (by decide))
            have hB5 := hB4.trans (hT5.rest _ (by omega))
            have hz5 := hT5.size
            have t0 := kb5.cell 0; have t1 := kb5.frozen 0; have t2 := kb5.lt
            have hT6 : Turned g9 V5 (V5.setCell ⟨g9, 0, none⟩ (.int .i64 (b.nu + 1))) := (Turned.refl g9 V5).set 0 _
            have kb6 : Blk (V5.setCell ⟨g9, 0, none⟩ (.int .i64 (b.nu + 1))) g9 75 #[.int .i64 (b.nu + 1), .int .i64 (b.ns + 1), .int .i64 b.hz, .slice A4 L4.length c4x, .slice Ags b.gs.length cgs] := by simpa using kb5.set_ 0 (.int .i64 (b.nu + 1))
            generalize hV6 : V5.setCell ⟨g9, 0, none⟩ (.int .i64 (b.nu + 1)) = V6 at hT6 kb6
            have oE7 := oE5.turned hT6 (.inl hM2g) (own_ne_blk oE5 kb5 (by decide))
            have oG7 := oG5.turned hT6 hM2g (own_ne_blk oG5 kb5 (by decide))
            have hB6 := hB5.trans (hT6.rest _ (by omega))
            have hL4b : L4 = b.es ++ [(b.nu, b.ns, st, tm, fl, bdl)] := hL4.out
            have HL4 := Lib.hid hL4b
            clear hL4b oE4 oG4 kb4 k34 hbl4 hgr4 hor4 hT5 hT6 oE5 oG5 kb1 kb2 kb3 k31 k32 k33 HS hS
            clear k2W k3W c0 c1 c2 c3 c4 d0 d1 d2 d3 d4 d5 d6
            have hapE4 : ∀ x, (Value.slice A4 L4.length c4x).ownBlock = some x → x ≠ g4 := fun x hx => by have h1 := oE7.base x hx; omega
            have hapE5 : ∀ x, (Value.slice A4 L4.length c4x).ownBlock = some x → x ≠ g5 := fun x hx => by have h1 := oE7.base x hx; omega
            have hapG4 : ∀ x, (Value.slice Ags b.gs.length cgs).ownBlock = some x → x ≠ g4 := fun x hx => by have h1 := oG7.base x hx; omega
            have hapG5 : ∀ x, (Value.slice Ags b.gs.length cgs).ownBlock = some x → x ≠ g5 := fun x hx => by have h1 := oG7.base x hx; omega
            have oE8 : Own entC (fun x => M1 x ∨ (Value.slice Ags b.gs.length cgs).ownBlock = some x) V6 w4.heap.size 65 (.slice A4 L4.length c4x) (Mb.addC b (1, ud, st, cl, tm, fl, bdl)).es := by
              have h9 := own_sub (M' := fun x => M1 x ∨ (Value.slice Ags b.gs.length cgs).ownBlock = some x) oE7 fun x _ hx => hx.imp (hM21 x) id
              rw [HL4.out] at h9 ⊢
              exact h9
            have oG8 := own_sub (M' := M1) oG7 fun x _ hx => hM21 x hx
            have HS := Lib.hid (show ∀ W, Below V6.heap.size V6 W → W.cell? ⟨g9, 0, none⟩ = some (.int .i64 (b.nu + 1)) ∧ W.cell? ⟨g9, 1, none⟩ = some (.int .i64 (b.ns + 1)) ∧ W.cell? ⟨g9, 2, none⟩ = some (.int .i64 b.hz) ∧ W.cell? ⟨g9, 3, none⟩ = some (.slice A4 L4.length c4x) ∧ W.cell? ⟨g9, 4, none⟩ = some (.slice Ags b.gs.length cgs) from fun W hW => ⟨(kb6.ext hW).cell 0, (kb6.ext hW).cell 1, (kb6.ext hW).cell 2, (kb6.ext hW).cell 3, (kb6.ext hW).cell 4⟩)
            go_wp2_with fail
            refine wp_region_D (fun W => W.cell? ⟨g9, 0, none⟩ = some (.int .i64 (b.nu + 1)) ∧ W.cell? ⟨g9, 1, none⟩ = some (.int .i64 (b.ns + 1)) ∧ W.cell? ⟨g9, 2, none⟩ = some (.int .i64 b.hz) ∧ W.cell? ⟨g9, 3, none⟩ = some (.slice A4 L4.length c4x) ∧ W.cell? ⟨g9, 4, none⟩ = some (.slice Ags b.gs.length cgs)) (fun j => j == 5 || j == 6) (by kernel_rfl) ?_
            change anyD _ _ _ _ _ _ _ _ _ (V6.drewN 1)
            have hbV := below_drewN' V6.heap.size V6 1
            generalize V6.drewN 1 = V0 at hbV ⊢
            have hS := HS.out V0 hbV
            (refine anyD_light (i := 0) (v := ?_) rfl (by kernel_rfl) (by kernel_rfl) (by kernel_rfl) (by kernel_rfl) (by kernel_rfl) (fun _ _ _ h => h) (.inl ⟨by kernel_rfl, fun W9 hW9 => ?_⟩) hS ?_; rotate_left; · (obtain ⟨hw0, hw1, hw2, hw3, hw4⟩ := hW9; go_simp; rfl))
            (refine anyD_light (i := 1) (v := ?_) rfl (by kernel_rfl) (by kernel_rfl) (by kernel_rfl) (by kernel_rfl) (by kernel_rfl) (fun _ _ _ h => h) (.inl ⟨by kernel_rfl, fun W9 hW9 => ?_⟩) hS ?_; rotate_left; · (obtain ⟨hw0, hw1, hw2, hw3, hw4⟩ := hW9; go_simp; rfl))
            (refine anyD_light (i := 2) (v := ?_) rfl (by kernel_rfl) (by kernel_rfl) (by kernel_rfl) (by kernel_rfl) (by kernel_rfl) (fun _ _ _ h => h) (.inl ⟨by kernel_rfl, fun W9 hW9 => ?_⟩) hS ?_; rotate_left; · (obtain ⟨hw0, hw1, hw2, hw3, hw4⟩ := hW9; go_simp; rfl))
            (refine anyD_light (i := 3) (v := ?_) rfl (by kernel_rfl) (by kernel_rfl) (by kernel_rfl) (by kernel_rfl) (by kernel_rfl) (fun _ _ _ h => h) (.inl ⟨by kernel_rfl, fun W9 hW9 => ?_⟩) hS ?_; rotate_left; · (obtain ⟨hw0, hw1, hw2, hw3, hw4⟩ := hW9; go_simp; rfl))
            go_simp
            refine anyD_one (i := 4) (by kernel_rfl) rfl rfl (fun K hK => ?_)
            have HK := Lib.hid hK
            clear hK
            clear hS
            unfold Oper.wp
            go_simp
            refine (none_ok V0).mono ?_
            rintro e V1 ⟨rfl, hb1⟩
            have hb1' := below2 hbV hb1
            have hS := HS.out V1 hb1'
            refine HK.out _ _ (fun _ => hS) ?_
            clear HK
            go_simp
            refine anyD_one (i := 5) (by kernel_rfl) rfl rfl (fun K hK => ?_)
            have HK := Lib.hid hK
            clear hK
            have hbR := below2 hB6 hb1'
            have k4W := k4.ext hbR; have k5W := k5.ext hbR
            obtain ⟨z0, z1, z2, z3, z4, y0, y1, hbZ, hTz⟩ := res7 k4W k5W hne45 (.int .i64 (b.nu + 1)) (.int .i64 (b.ns + 1)) (.int .i64 b.hz) (.slice A4 L4.length c4x) (.slice Ags b.gs.length cgs) (.int .i64 0) (.int .i64 0)
            have x0 := k4W.frozen 0; have x1 := k4W.frozen 1; have x2 := k4W.frozen 2; have x3 := k4W.frozen 3; have x4 := k4W.frozen 4; have xl := k4W.lt
            have m0 := k4W.cell 0; have m1 := k4W.cell 1; have m2 := k4W.cell 2; have m3 := k4W.cell 3; have m4 := k4W.cell 4
            have n0 := (k5W.turned (put5_turned V1 g4 (.int .i64 (b.nu + 1)) (.int .i64 (b.ns + 1)) (.int .i64 b.hz) (.slice A4 L4.length c4x) (.slice Ags b.gs.length cgs)) hne45.symm).cell 0; have n1 := (k5W.turned (put5_turned V1 g4 (.int .i64 (b.nu + 1)) (.int .i64 (b.ns + 1)) (.int .i64 b.hz) (.slice A4 L4.length c4x) (.slice Ags b.gs.length cgs)) hne45.symm).cell 1
            obtain ⟨_, _, u0, u1, ul⟩ := k5W.two
            have u0b := (put5_turned V1 g4 (.int .i64 (b.nu + 1)) (.int .i64 (b.ns + 1)) (.int .i64 b.hz) (.slice A4 L4.length c4x) (.slice Ags b.gs.length cgs)).frozen0 k5W hne45.symm; have u1b := (put5_turned V1 g4 (.int .i64 (b.nu + 1)) (.int .i64 (b.ns + 1)) (.int .i64 b.hz) (.slice A4 L4.length c4x) (.slice Ags b.gs.length cgs)).frozen1 k5W hne45.symm
            skip
            unfold put5 at *
            unfold Oper.wp
            go_simp
            refine HK.out _ _ (fun h => by cases h) ?_
            clear HK
            go_simp
            refine anyD_one (i := 6) (by kernel_rfl) rfl rfl (fun K hK => ?_)
            have HK := Lib.hid hK
            clear hK
            unfold Oper.wp
            go_simp
            refine HK.out _ _ (fun h => by cases h) ?_
            clear HK
            go_simp
            refine anyD_done (by kernel_rfl) ?_ _
            go_wp2_with fail
            refine bodyPost_ret (v := .tuple #[.agg #[.int .i64 (b.nu + 1), .int .i64 (b.ns + 1), .int .i64 b.hz, .slice A4 L4.length c4x, .slice Ags b.gs.length cgs], .agg #[.int .i64 0, .int .i64 0]]) (by simp [results, Tryz.results29, go_sem, z0, z1, z2, z3, z4, y0, y1]) rfl ⟨_, _, rfl, ?_, ?_, ?_⟩
            · first | exact own_lower (own_sub ((own_two (oE8.ext hb1') hTz (.inl hMg4) (.inl hMg5) (fun x hx => hapE4 x hx) (fun x hx => hapE5 x hx))) fun x _ hx => hx.imp (hM1M x) id) hBw | (rw [← hg2]; exact own_lower (own_sub ((own_two (oE8.ext hb1') hTz (.inl hMg4) (.inl hMg5) (fun x hx => hapE4 x hx) (fun x hx => hapE5 x hx))) fun x _ hx => hx.imp (hM1M x) id) hBw)
            · first | exact own_lower (own_sub (own_two (oG8.ext hb1') hTz hMg4 hMg5 (fun x hx => hapG4 x hx) (fun x hx => hapG5 x hx)) fun x _ hx => hM1M x hx) hBw | (rw [← hg2]; exact own_lower (own_sub (own_two (oG8.ext hb1') hTz hMg4 hMg5 (fun x hx => hapG4 x hx) (fun x hx => hapG5 x hx)) fun x _ hx => hM1M x hx) hBw)
            · first | exact (below2 hb0 hbR).trans (hbZ _ (by omega) (by omega)) | (rw [← hg2]; exact (below2 hb0 hbR).trans (hbZ _ (by omega) (by omega)))
    · by_cases h2 : kd = 2
      · subst h2
        have hz1 : ((2 : Int) == 1) = false := rfl
        obtain ⟨fb, hfb⟩ : ∃ t, decide (fi < 0) = t := ⟨_, rfl⟩
        rw [hfb, hz1] at HE
        cases nsb with
        | true =>
          have e9 : b.ns = 1000000 := by simpa using hnsb
          clear hnsb
          rw [e9] at c0 c1 c2 c3 c4
          clear e9
          have HE2 := Lib.hid (show (rb, r1, r2) = (Mb.emptyB, 1, (-3)) from HE)
          clear HE
          obtain ⟨rfl, rfl, rfl⟩ : rb = Mb.emptyB ∧ r1 = 1 ∧ r2 = (-3) := by have := HE2.out; injection this with a b; injection b with b c; exact ⟨a, b, c⟩
          clear HE2
          go_wp2_with (go_at_call 27; refine (fault_ok _ _ _).mono ?_; rintro e w5 ⟨rfl, hb5⟩; refine Hid.out ?_)
          have hb5' := below2 hb4 hb5
          have k4W := k4.ext hb5'; have k5W := k5.ext hb5'
          obtain ⟨z0, z1, z2, z3, z4, y0, y1, hbZ, hTz⟩ := res7 k4W k5W hne45 (.int .i64 0) (.int .i64 0) (.int .i64 0) (.slice none 0 0) (.slice none 0 0) (.int .i64 1) (.int .i64 (-3))
          have x0 := k4W.frozen 0; have x1 := k4W.frozen 1; have x2 := k4W.frozen 2; have x3 := k4W.frozen 3; have x4 := k4W.frozen 4; have xl := k4W.lt
          have m0 := k4W.cell 0; have m1 := k4W.cell 1; have m2 := k4W.cell 2; have m3 := k4W.cell 3; have m4 := k4W.cell 4
          have n0 := (k5W.turned (put5_turned w5 g4 (.int .i64 0) (.int .i64 0) (.int .i64 0) (.slice none 0 0) (.slice none 0 0)) hne45.symm).cell 0; have n1 := (k5W.turned (put5_turned w5 g4 (.int .i64 0) (.int .i64 0) (.int .i64 0) (.slice none 0 0) (.slice none 0 0)) hne45.symm).cell 1
          obtain ⟨_, _, u0, u1, ul⟩ := k5W.two
          have u0b := (put5_turned w5 g4 (.int .i64 0) (.int .i64 0) (.int .i64 0) (.slice none 0 0) (.slice none 0 0)).frozen0 k5W hne45.symm; have u1b := (put5_turned w5 g4 (.int .i64 0) (.int .i64 0) (.int .i64 0) (.slice none 0 0) (.slice none 0 0)).frozen1 k5W hne45.symm
          unfold put5 at *
          refine Lib.hid ?_
          go_wp2_with fail
          refine bodyPost_ret (v := .tuple #[.agg #[.int .i64 0, .int .i64 0, .int .i64 0, .slice none 0 0, .slice none 0 0], .agg #[.int .i64 1, .int .i64 (-3)]]) (by simp [results, Tryz.results29, go_sem, z0, z1, z2, z3, z4, y0, y1]) rfl ⟨_, _, rfl, ?_, ?_, ?_⟩
          · exact Own.nil _ _ _ _ _
          · exact Own.nil _ _ _ _ _
          · exact (below2 hb0 hb5').trans (hbZ _ (by omega) (by omega))
        | false =>
          cases fb with
          | true =>
            clear hfiE
            have HE2 := Lib.hid (show (rb, r1, r2) = (Mb.emptyB, 6, (-9)) from HE)
            clear HE
            obtain ⟨rfl, rfl, rfl⟩ : rb = Mb.emptyB ∧ r1 = 6 ∧ r2 = (-9) := by have := HE2.out; injection this with a b; injection b with b c; exact ⟨a, b, c⟩
            clear HE2
            go_wp2_with (go_at_call 27; refine (fault_ok _ _ _).mono ?_; rintro e w5 ⟨rfl, hb5⟩; refine Hid.out ?_)
            have hb5' := below2 hb4 hb5
            have k4W := k4.ext hb5'; have k5W := k5.ext hb5'
            obtain ⟨z0, z1, z2, z3, z4, y0, y1, hbZ, hTz⟩ := res7 k4W k5W hne45 (.int .i64 0) (.int .i64 0) (.int .i64 0) (.slice none 0 0) (.slice none 0 0) (.int .i64 6) (.int .i64 (-9))
            have x0 := k4W.frozen 0; have x1 := k4W.frozen 1; have x2 := k4W.frozen 2; have x3 := k4W.frozen 3; have x4 := k4W.frozen 4; have xl := k4W.lt
            have m0 := k4W.cell 0; have m1 := k4W.cell 1; have m2 := k4W.cell 2; have m3 := k4W.cell 3; have m4 := k4W.cell 4
            have n0 := (k5W.turned (put5_turned w5 g4 (.int .i64 0) (.int .i64 0) (.int .i64 0) (.slice none 0 0) (.slice none 0 0)) hne45.symm).cell 0; have n1 := (k5W.turned (put5_turned w5 g4 (.int .i64 0) (.int .i64 0) (.int .i64 0) (.slice none 0 0) (.slice none 0 0)) hne45.symm).cell 1
            obtain ⟨_, _, u0, u1, ul⟩ := k5W.two
            have u0b := (put5_turned w5 g4 (.int .i64 0) (.int .i64 0) (.int .i64 0) (.slice none 0 0) (.slice none 0 0)).frozen0 k5W hne45.symm; have u1b := (put5_turned w5 g4 (.int .i64 0) (.int .i64 0) (.int .i64 0) (.slice none 0 0) (.slice none 0 0)).frozen1 k5W hne45.symm
            unfold put5 at *
            refine Lib.hid ?_
            go_wp2_with fail
            refine bodyPost_ret (v := .tuple #[.agg #[.int .i64 0, .int .i64 0, .int .i64 0, .slice none 0 0, .slice none 0 0], .agg #[.int .i64 6, .int .i64 (-9)]]) (by simp [results, Tryz.results29, go_sem, z0, z1, z2, z3, z4, y0, y1]) rfl ⟨_, _, rfl, ?_, ?_, ?_⟩
            · exact Own.nil _ _ _ _ _
            · exact Own.nil _ _ _ _ _
            · exact (below2 hb0 hb5').trans (hbZ _ (by omega) (by omega))
          | false =>
            have HE2 := Lib.hid (show (rb, r1, r2) = (Mb.flagC b (2, ud, st, cl, tm, fl, bdl) fi.toNat, 0, 0) from HE)
            clear HE
            have hfn : ¬ fi < 0 := by simpa using hfb
            obtain ⟨i, rfl⟩ : ∃ i : Nat, fi = (i : Int) := ⟨fi.toNat, by omega⟩
            obtain ⟨hil, hiu⟩ := findI_at hfiE.symm
            have hti : (i : Int).toNat = i := rfl
            rw [hti] at HE2
            clear hfb hfn Hok Hcm hiu hfiE hti
            have hns1 : ¬ b.ns = 1000000 := by simpa using hnsb
            obtain ⟨M1, hM1⟩ : ∃ M1 : Nat → Prop, M1 = fun x => M x ∨ x = g4 ∨ x = g5 := ⟨_, rfl⟩
            have hMg4 : M1 g4 := by rw [hM1]; exact .inr (.inl rfl)
            have hMg5 : M1 g5 := by rw [hM1]; exact .inr (.inr rfl)
            have hM1M : ∀ x, M x → M1 x := fun x hx => by rw [hM1]; exact .inl hx
            have hM1lt : ∀ x, M1 x → x < w0.heap.size := by
              intro x hx
              rw [hM1] at hx
              have := hb0.size
              rcases hx with hx | hx | hx
              · have := hM x hx; omega
              · omega
              · omega
            have hbw4 := below2 hb0 hb4
            have hs4 := hb4.size; have hs0 := hb0.size
            have hsub : ∀ x, x < w.heap.size → M1 x → M x := fun x hx h => by
              rw [hM1] at h
              rcases h with h | h | h
              · exact h
              · omega
              · omega
            have heM : SlR entC M1 w4 (.slice Ae b.es.length ce) b.es := (he.sub hsub).ext hbw4
            have hgM : SlR gnC M1 w4 (.slice Ag b.gs.length cg) b.gs := (hg.sub hsub).ext hbw4
            have hcpw := Hcp.out w4 M1 (fun x hx => Nat.lt_of_lt_of_le (hM1lt x hx) hs4) heM hgM
            have Hcpw := Lib.hid hcpw
            clear hcpw hM1 heM hgM Hcp Hfi
            go_wp2_with fail
            refine Hcpw.out.mono ?_
            rintro e w5 ⟨esv, gsv, rfl, oE, oG, hb5⟩
            obtain ⟨Aes, ces, rfl, _, _⟩ := oE.shape
            obtain ⟨Ags, cgs, rfl, _, _⟩ := oG.shape
            obtain ⟨w6, g9, hw6, hg9, hsz6, k9, hb6⟩ := box1 w5 #[.int .i64 b.nu, .int .i64 b.ns, .int .i64 b.hz, .slice Aes b.es.length ces, .slice Ags b.gs.length cgs] 75
            have hb6' := below2 hb4 (below2 hb5 hb6)
            have hs5 := hb5.size; have hs6 := hb6.size
            obtain ⟨M2, hM2⟩ : ∃ M2 : Nat → Prop, M2 = fun x => M1 x ∨ x = g9 := ⟨_, rfl⟩
            have hM2g : M2 g9 := by rw [hM2]; exact .inr rfl
            have hM21 : ∀ x, M1 x → M2 x := fun x hx => by rw [hM2]; exact .inl hx
            have hM2lt : ∀ x, M2 x → x < w6.heap.size := fun x hx => by
              rw [hM2] at hx
              rcases hx with hx | hx
              · have := hM1lt x hx; omega
              · omega
            have hM2c : ∀ x, M2 x → x ≠ g9 → x < w0.heap.size := fun x hx hn => by
              rw [hM2] at hx
              rcases hx with hx | hx
              · exact hM1lt x hx
              · exact absurd hx hn
            have oE6 : Own entC (fun x => M2 x ∨ (Value.slice Ags b.gs.length cgs).ownBlock = some x) w6 w4.heap.size 65 (.slice Aes b.es.length ces) b.es := (own_sub oE fun x hx h => h.imp (fun h => by
              rw [hM2] at h
              rcases h with h | h
              · exact h
              · omega) id).ext hb6
            have oG6 : Own gnC M2 w6 w4.heap.size 82 (.slice Ags b.gs.length cgs) b.gs := own_freeM free_gn (oG.ext hb6)
            have hBw : w.heap.size ≤ w4.heap.size := by omega
            have hg9l : w4.heap.size ≤ g9 := by omega
            have hne9 : g9 ≠ g3 ∧ g9 ≠ g4 ∧ g9 ≠ g5 ∧ g9 ≠ g2 := by omega
            clear oE oG hM2 hsz6 Hcpw
            clear k2W k3W c0 c1 c2 c3 c4 d0 d1 d2 d3 d4 d5 d6
            have k2W := k2.ext hb6'; have k3W := k3.ext hb6'
            have c0 := k2W.cell 0; have c1 := k2W.cell 1; have c2 := k2W.cell 2; have c3 := k2W.cell 3; have c4 := k2W.cell 4
            have d0 := k3W.cell 0; have d1 := k3W.cell 1; have d2 := k3W.cell 2; have d3 := k3W.cell 3; have d4 := k3W.cell 4; have d5 := k3W.cell 5; have d6 := k3W.cell 6
            have s0 := k9.cell 0; have s1 := k9.cell 1; have s2 := k9.cell 2; have s3 := k9.cell 3; have s4 := k9.cell 4
            have hMq : ∀ x, (Value.slice Aes b.es.length ces).ownBlock = some x → ¬ M2 x := fun x hx hm => by
              have h1 := oE6.base x hx
              have h2 := hM2c x hm (own_ne_blk oE6 k9 (by decide) x hx)
              omega
            have hes := hG.es _ (List.getElem_mem hil)
            obtain ⟨q, cq, cur, hq, hqc, hqm, hq0, hqb, hqs⟩ := oE6.blk (by omega)
            injection hq with hq1 _ hq2
            subst hq1 hq2
            have hre : SlR entC (fun x => M2 x ∨ (Value.slice Ags b.gs.length cgs).ownBlock = some x) w6 (.slice (some ⟨q, 0, none⟩) b.es.length ces) b.es := oE6.read fun x hx hm => hm.elim (hMq x hx) fun h => own_apart oG6 oE6 (by decide) x hx h
            obtain ⟨be, off, Afe, cfe, Abe, cbe, hA, _, _, q0, q1, q2, _, _, _, _, _⟩ := hre.entAt hil
            cases hA
            rw [Nat.zero_add] at q0 q1 q2
            have hfc := flagC_eq (b := b) (c := (2, ud, st, cl, tm, fl, bdl)) hil
            dsimp only at hfc
            have hmx := mix_i64 b.es[i].2.2.1 cl st hes.2.2.1 hcl hst
            have hmxb := Mb.mixF_le (f := b.es[i].2.2.1) (c := cl) hst
            obtain ⟨en, hen⟩ : ∃ x, x = b.es[i] := ⟨_, rfl⟩
            rw [← hen] at q0 q1 q2 hfc hmx hmxb
            obtain ⟨eu, es1, ef, et, em⟩ := en
            dsimp only at q0 q1 q2 hfc hmx hmxb
            obtain ⟨nf, hnf⟩ : ∃ x, x = Mb.mixF ef cl st := ⟨_, rfl⟩
            rw [← hnf] at hfc hmx hmxb
            have hqlt : q < w6.heap.size := hqb.lt
            have hii : (i : Int) < (b.es.length : Int) := by omega
            have hHS := Lib.hid (show ∀ W, Below w6.heap.size w6 W → W.cell? ⟨q, i * 6 + 2, none⟩ = some (.int .i64 ef) ∧ W.cell? ⟨q, i * 6 + 1, none⟩ = some (.int .i64 es1) from fun W hW => ⟨(hW.cell (p := ⟨q, i * 6 + 2, none⟩) hqlt).trans q2, (hW.cell (p := ⟨q, i * 6 + 1, none⟩) hqlt).trans q1⟩)
            have Hen := Lib.hid hen
            have Hfc := Lib.hid hfc
            clear hen hnf hfc hre hqs q0 q1
            go_wp2_with fail
            go_quiet (fail)
            generalize hVq : w6.drewN nq = V0
            have hbV0 : Below w6.heap.size w6 V0 := by rw [← hVq]; exact below_drewN' _ _ _
            clear hVq
            clear k2W k3W c0 c1 c2 c3 c4 d0 d1 d2 d3 d4 d5 d6
            have hB0 := below2 hb6' hbV0
            have kV := k9.ext hbV0
            have hqV := hqb.ext hbV0
            have oEV := oE6.ext hbV0
            have oGV := oG6.ext hbV0
            have hzV := hbV0.size
            clear s0 s1 s2 s3 s4 q2
            obtain ⟨p2, p1⟩ := hHS.out V0 hbV0
            have k2W := k2.ext hB0; have k3W := k3.ext hB0
            have c0 := k2W.cell 0; have c1 := k2W.cell 1; have c2 := k2W.cell 2; have c3 := k2W.cell 3; have c4 := k2W.cell 4
            have d0 := k3W.cell 0; have d1 := k3W.cell 1; have d2 := k3W.cell 2; have d3 := k3W.cell 3; have d4 := k3W.cell 4; have d5 := k3W.cell 5; have d6 := k3W.cell 6
            have s0 := kV.cell 0; have s1 := kV.cell 1; have s2 := kV.cell 2; have s3 := kV.cell 3; have s4 := kV.cell 4
            by_cases hch : nf = ef
            · have hchb : (nf != ef) = false := by simpa using hch
              have hfl1 : Mb.flagC b (2, ud, st, cl, tm, fl, bdl) i = b := by rw [Hfc.out, if_neg (fun h => h hch)]
              obtain ⟨rfl, rfl, rfl⟩ : rb = b ∧ r1 = 0 ∧ r2 = 0 := by have := HE2.out; rw [hfl1] at this; injection this with a b; injection b with b c; exact ⟨a, b, c⟩
              clear HE2 hfl1 hch Hfc
              have hapE4 : ∀ x, (Value.slice (some ⟨q, 0, none⟩) rb.es.length ces).ownBlock = some x → x ≠ g4 := fun x hx => by have h1 := oEV.base x hx; omega
              have hapE5 : ∀ x, (Value.slice (some ⟨q, 0, none⟩) rb.es.length ces).ownBlock = some x → x ≠ g5 := fun x hx => by have h1 := oEV.base x hx; omega
              have hapG4 : ∀ x, (Value.slice Ags rb.gs.length cgs).ownBlock = some x → x ≠ g4 := fun x hx => by have h1 := oGV.base x hx; omega
              have hapG5 : ∀ x, (Value.slice Ags rb.gs.length cgs).ownBlock = some x → x ≠ g5 := fun x hx => by have h1 := oGV.base x hx; omega
              have oE8 := own_sub (M' := fun x => M1 x ∨ (Value.slice Ags rb.gs.length cgs).ownBlock = some x) oEV fun x _ hx => hx.imp (hM21 x) id
              have oG8 := own_sub (M' := M1) oGV fun x _ hx => hM21 x hx
              have HS := Lib.hid (show ∀ W, Below V0.heap.size V0 W → W.cell? ⟨g9, 0, none⟩ = some (.int .i64 rb.nu) ∧ W.cell? ⟨g9, 1, none⟩ = some (.int .i64 rb.ns) ∧ W.cell? ⟨g9, 2, none⟩ = some (.int .i64 rb.hz) ∧ W.cell? ⟨g9, 3, none⟩ = some (.slice (some ⟨q, 0, none⟩) rb.es.length ces) ∧ W.cell? ⟨g9, 4, none⟩ = some (.slice Ags rb.gs.length cgs) from fun W hW => ⟨(kV.ext hW).cell 0, (kV.ext hW).cell 1, (kV.ext hW).cell 2, (kV.ext hW).cell 3, (kV.ext hW).cell 4⟩)
              go_wp2_with fail
              refine wp_region_D (fun W => W.cell? ⟨g9, 0, none⟩ = some (.int .i64 rb.nu) ∧ W.cell? ⟨g9, 1, none⟩ = some (.int .i64 rb.ns) ∧ W.cell? ⟨g9, 2, none⟩ = some (.int .i64 rb.hz) ∧ W.cell? ⟨g9, 3, none⟩ = some (.slice (some ⟨q, 0, none⟩) rb.es.length ces) ∧ W.cell? ⟨g9, 4, none⟩ = some (.slice Ags rb.gs.length cgs)) (fun j => j == 5 || j == 6) (by kernel_rfl) ?_
              change anyD _ _ _ _ _ _ _ _ _ (V0.drewN 1)
              have hbV := below_drewN' V0.heap.size V0 1
              generalize V0.drewN 1 = V0 at hbV ⊢
              have hS := HS.out V0 hbV
              (refine anyD_light (i := 0) (v := ?_) rfl (by kernel_rfl) (by kernel_rfl) (by kernel_rfl) (by kernel_rfl) (by kernel_rfl) (fun _ _ _ h => h) (.inl ⟨by kernel_rfl, fun W9 hW9 => ?_⟩) hS ?_; rotate_left; · (obtain ⟨hw0, hw1, hw2, hw3, hw4⟩ := hW9; go_simp; rfl))
              (refine anyD_light (i := 1) (v := ?_) rfl (by kernel_rfl) (by kernel_rfl) (by kernel_rfl) (by kernel_rfl) (by kernel_rfl) (fun _ _ _ h => h) (.inl ⟨by kernel_rfl, fun W9 hW9 => ?_⟩) hS ?_; rotate_left; · (obtain ⟨hw0, hw1, hw2, hw3, hw4⟩ := hW9; go_simp; rfl))
              (refine anyD_light (i := 2) (v := ?_) rfl (by kernel_rfl) (by kernel_rfl) (by kernel_rfl) (by kernel_rfl) (by kernel_rfl) (fun _ _ _ h => h) (.inl ⟨by kernel_rfl, fun W9 hW9 => ?_⟩) hS ?_; rotate_left; · (obtain ⟨hw0, hw1, hw2, hw3, hw4⟩ := hW9; go_simp; rfl))
              (refine anyD_light (i := 3) (v := ?_) rfl (by kernel_rfl) (by kernel_rfl) (by kernel_rfl) (by kernel_rfl) (by kernel_rfl) (fun _ _ _ h => h) (.inl ⟨by kernel_rfl, fun W9 hW9 => ?_⟩) hS ?_; rotate_left; · (obtain ⟨hw0, hw1, hw2, hw3, hw4⟩ := hW9; go_simp; rfl))
              go_simp
              refine anyD_one (i := 4) (by kernel_rfl) rfl rfl (fun K hK => ?_)
              have HK := Lib.hid hK
              clear hK
              clear hS
              unfold Oper.wp
              go_simp
              refine (none_ok V0).mono ?_
              rintro e V1 ⟨rfl, hb1⟩
              have hb1' := below2 hbV hb1
              have hS := HS.out V1 hb1'
              refine HK.out _ _ (fun _ => hS) ?_
              clear HK
              go_simp
              refine anyD_one (i := 5) (by kernel_rfl) rfl rfl (fun K hK => ?_)
              have HK := Lib.hid hK
              clear hK
              have hbR := below2 hB0 hb1'
              have k4W := k4.ext hbR; have k5W := k5.ext hbR
              obtain ⟨z0, z1, z2, z3, z4, y0, y1, hbZ, hTz⟩ := res7 k4W k5W hne45 (.int .i64 rb.nu) (.int .i64 rb.ns) (.int .i64 rb.hz) (.slice (some ⟨q, 0, none⟩) rb.es.length ces) (.slice Ags rb.gs.length cgs) (.int .i64 0) (.int .i64 0)
              have x0 := k4W.frozen 0; have x1 := k4W.frozen 1; have x2 := k4W.frozen 2; have x3 := k4W.frozen 3; have x4 := k4W.frozen 4; have xl := k4W.lt
              have m0 := k4W.cell 0; have m1 := k4W.cell 1; have m2 := k4W.cell 2; have m3 := k4W.cell 3; have m4 := k4W.cell 4
              have n0 := (k5W.turned (put5_turned V1 g4 (.int .i64 rb.nu) (.int .i64 rb.ns) (.int .i64 rb.hz) (.slice (some ⟨q, 0, none⟩) rb.es.length ces) (.slice Ags rb.gs.length cgs)) hne45.symm).cell 0; have n1 := (k5W.turned (put5_turned V1 g4 (.int .i64 rb.nu) (.int .i64 rb.ns) (.int .i64 rb.hz) (.slice (some ⟨q, 0, none⟩) rb.es.length ces) (.slice Ags rb.gs.length cgs)) hne45.symm).cell 1
              obtain ⟨_, _, u0, u1, ul⟩ := k5W.two
              have u0b := (put5_turned V1 g4 (.int .i64 rb.nu) (.int .i64 rb.ns) (.int .i64 rb.hz) (.slice (some ⟨q, 0, none⟩) rb.es.length ces) (.slice Ags rb.gs.length cgs)).frozen0 k5W hne45.symm; have u1b := (put5_turned V1 g4 (.int .i64 rb.nu) (.int .i64 rb.ns) (.int .i64 rb.hz) (.slice (some ⟨q, 0, none⟩) rb.es.length ces) (.slice Ags rb.gs.length cgs)).frozen1 k5W hne45.symm
              skip
              unfold put5 at *
              unfold Oper.wp
              go_simp
              refine HK.out _ _ (fun h => by cases h) ?_
              clear HK
              go_simp
              refine anyD_one (i := 6) (by kernel_rfl) rfl rfl (fun K hK => ?_)
              have HK := Lib.hid hK
              clear hK
              unfold Oper.wp
              go_simp
              refine HK.out _ _ (fun h => by cases h) ?_
              clear HK
              go_simp
              refine anyD_done (by kernel_rfl) ?_ _
              go_wp2_with fail
              refine bodyPost_ret (v := .tuple #[.agg #[.int .i64 rb.nu, .int .i64 rb.ns, .int .i64 rb.hz, .slice (some ⟨q, 0, none⟩) rb.es.length ces, .slice Ags rb.gs.length cgs], .agg #[.int .i64 0, .int .i64 0]]) (by simp [results, Tryz.results29, go_sem, z0, z1, z2, z3, z4, y0, y1]) rfl ⟨_, _, rfl, ?_, ?_, ?_⟩
              · first | exact own_lower (own_sub ((own_two (oE8.ext hb1') hTz (.inl hMg4) (.inl hMg5) (fun x hx => hapE4 x hx) (fun x hx => hapE5 x hx))) fun x _ hx => hx.imp (hM1M x) id) hBw | (rw [← hg2]; exact own_lower (own_sub ((own_two (oE8.ext hb1') hTz (.inl hMg4) (.inl hMg5) (fun x hx => hapE4 x hx) (fun x hx => hapE5 x hx))) fun x _ hx => hx.imp (hM1M x) id) hBw)
              · first | exact own_lower (own_sub (own_two (oG8.ext hb1') hTz hMg4 hMg5 (fun x hx => hapG4 x hx) (fun x hx => hapG5 x hx)) fun x _ hx => hM1M x hx) hBw | (rw [← hg2]; exact own_lower (own_sub (own_two (oG8.ext hb1') hTz hMg4 hMg5 (fun x hx => hapG4 x hx) (fun x hx => hapG5 x hx)) fun x _ hx => hM1M x hx) hBw)
              · first | exact (below2 hb0 hbR).trans (hbZ _ (by omega) (by omega)) | (rw [← hg2]; exact (below2 hb0 hbR).trans (hbZ _ (by omega) (by omega)))
            · have hchb : (nf != ef) = true := by simpa using hch
              have hfl1 : Mb.flagC b (2, ud, st, cl, tm, fl, bdl) i = ⟨b.nu, b.ns + 1, b.hz, b.es.set i (eu, b.ns, nf, et, em), b.gs⟩ := by rw [Hfc.out, if_pos hch]
              have HE3 := Lib.hid (HE2.out.trans (by rw [hfl1]) : (rb, r1, r2) = ((⟨b.nu, b.ns + 1, b.hz, b.es.set i (eu, b.ns, nf, et, em), b.gs⟩ : Mb.Box), 0, 0))
              obtain ⟨rfl, rfl, rfl⟩ : rb = (⟨b.nu, b.ns + 1, b.hz, b.es.set i (eu, b.ns, nf, et, em), b.gs⟩ : Mb.Box) ∧ r1 = 0 ∧ r2 = 0 := by have := HE3.out; injection this with a b; injection b with b c; exact ⟨a, b, c⟩
              clear HE2 HE3 hfl1 hch Hfc
              have HS := Lib.hid (show ∀ W, Below V0.heap.size V0 W → W.cell? ⟨g9, 3, none⟩ = some (.slice (some ⟨q, 0, none⟩) b.es.length ces) from fun W hW => (kV.ext hW).cell 3)
              go_wp2_with fail
              refine wp_region_D (fun W => W.cell? ⟨g9, 3, none⟩ = some (.slice (some ⟨q, 0, none⟩) b.es.length ces)) (fun j => j == 18 || j == 19 || j == 20) (by kernel_rfl) ?_
              change anyD _ _ _ _ _ _ _ _ _ (V0.drewN 1)
              have hbV := below_drewN' V0.heap.size V0 1
              generalize V0.drewN 1 = V1 at hbV ⊢
              have hS := HS.out V1 hbV
              (refine anyD_light (i := 0) (v := ?_) rfl (by kernel_rfl) (by kernel_rfl) (by kernel_rfl) (by kernel_rfl) (by kernel_rfl) (fun _ _ _ h => h) (.inl ⟨by kernel_rfl, fun W9 hW9 => ?_⟩) hS ?_; rotate_left; · (have hw0 := hW9; go_simp; rfl))
              (refine anyD_light (i := 1) (v := ?_) rfl (by kernel_rfl) (by kernel_rfl) (by kernel_rfl) (by kernel_rfl) (by kernel_rfl) (fun _ _ _ h => h) (.inl ⟨by kernel_rfl, fun W9 hW9 => ?_⟩) hS ?_; rotate_left; · (have hw0 := hW9; go_simp; rfl))
              (refine anyD_light (i := 2) (v := ?_) rfl (by kernel_rfl) (by kernel_rfl) (by kernel_rfl) (by kernel_rfl) (by kernel_rfl) (fun _ _ _ h => h) (.inl ⟨by kernel_rfl, fun W9 hW9 => ?_⟩) hS ?_; rotate_left; · (have hw0 := hW9; go_simp; rfl))
              (refine anyD_light (i := 3) (v := ?_) rfl (by kernel_rfl) (by kernel_rfl) (by kernel_rfl) (by kernel_rfl) (by kernel_rfl) (fun _ _ _ h => h) (.inl ⟨by kernel_rfl, fun W9 hW9 => ?_⟩) hS ?_; rotate_left; · (have hw0 := hW9; go_simp; rfl))
              (refine anyD_light (i := 4) (v := ?_) rfl (by kernel_rfl) (by kernel_rfl) (by kernel_rfl) (by kernel_rfl) (by kernel_rfl) (fun _ _ _ h => h) (.inl ⟨by kernel_rfl, fun W9 hW9 => ?_⟩) hS ?_; rotate_left; · (have hw0 := hW9; go_simp; rfl))
              (refine anyD_light (i := 5) (v := ?_) rfl (by kernel_rfl) (by kernel_rfl) (by kernel_rfl) (by kernel_rfl) (by kernel_rfl) (fun _ _ _ h => h) (.inl ⟨by kernel_rfl, fun W9 hW9 => ?_⟩) hS ?_; rotate_left; · (have hw0 := hW9; go_simp; rfl))
              go_simp
              (refine anyD_light (i := 6) (v := ?_) rfl (by kernel_rfl) (by kernel_rfl) (by kernel_rfl) (by kernel_rfl) (by kernel_rfl) (fun _ _ _ h => h) (.inl ⟨by kernel_rfl, fun W9 hW9 => ?_⟩) hS ?_; rotate_left; · (have hw0 := hW9; go_simp; rfl))
              (refine anyD_light (i := 7) (v := ?_) rfl (by kernel_rfl) (by kernel_rfl) (by kernel_rfl) (by kernel_rfl) (by kernel_rfl) (fun _ _ _ h => h) (.inl ⟨by kernel_rfl, fun W9 hW9 => ?_⟩) hS ?_; rotate_left; · (have hw0 := hW9; go_simp; rfl))
              (refine anyD_light (i := 8) (v := ?_) rfl (by kernel_rfl) (by kernel_rfl) (by kernel_rfl) (by kernel_rfl) (by kernel_rfl) (fun _ _ _ h => h) (.inl ⟨by kernel_rfl, fun W9 hW9 => ?_⟩) hS ?_; rotate_left; · (have hw0 := hW9; go_simp; rfl))
              (refine anyD_light (i := 9) (v := ?_) rfl (by kernel_rfl) (by kernel_rfl) (by kernel_rfl) (by kernel_rfl) (by kernel_rfl) (fun _ _ _ h => h) (.inl ⟨by kernel_rfl, fun W9 hW9 => ?_⟩) hS ?_; rotate_left; · (have hw0 := hW9; go_simp; rfl))
              (refine anyD_light (i := 10) (v := ?_) rfl (by kernel_rfl) (by kernel_rfl) (by kernel_rfl) (by kernel_rfl) (by kernel_rfl) (fun _ _ _ h => h) (.inl ⟨by kernel_rfl, fun W9 hW9 => ?_⟩) hS ?_; rotate_left; · (have hw0 := hW9; go_simp; rfl))
              (refine anyD_light (i := 11) (v := ?_) rfl (by kernel_rfl) (by kernel_rfl) (by kernel_rfl) (by kernel_rfl) (by kernel_rfl) (fun _ _ _ h => h) (.inl ⟨by kernel_rfl, fun W9 hW9 => ?_⟩) hS ?_; rotate_left; · (have hw0 := hW9; go_simp; rfl))
              go_simp
              (refine anyD_light (i := 12) (v := ?_) rfl (by kernel_rfl) (by kernel_rfl) (by kernel_rfl) (by kernel_rfl) (by kernel_rfl) (fun _ _ _ h => h) (.inl ⟨by kernel_rfl, fun W9 hW9 => ?_⟩) hS ?_; rotate_left; · (have hw0 := hW9; go_simp; rfl))
              (refine anyD_light (i := 13) (v := ?_) rfl (by kernel_rfl) (by kernel_rfl) (by kernel_rfl) (by kernel_rfl) (by kernel_rfl) (fun _ _ _ h => h) (.inl ⟨by kernel_rfl, fun W9 hW9 => ?_⟩) hS ?_; rotate_left; · (have hw0 := hW9; go_simp; rfl))
              go_simp
              refine anyD_one (i := 14) (by kernel_rfl) rfl rfl (fun K hK => ?_)
              have HK := Lib.hid hK
              clear hK
              clear hS
              unfold Oper.wp
              go_simp
              refine (next_ok g9 _ _ _ _ _ b.ns (by omega) V1 (kV.ext hbV)).mono ?_
              rintro e V2 ⟨rfl, hV2⟩
              have hT1 : Turned g9 V1 V2 := by rw [hV2]; exact (Turned.refl g9 V1).set 1 _
              have kb1 : Blk V2 g9 75 #[.int .i64 b.nu, .int .i64 (b.ns + 1), .int .i64 b.hz, .slice (some ⟨q, 0, none⟩) b.es.length ces, .slice Ags b.gs.length cgs] := by rw [hV2]; simpa using (kV.ext hbV).set_ 1 (.int .i64 (b.ns + 1))
              have oE1 := (oEV.ext hbV).turned hT1 (.inl hM2g) (own_ne_blk oEV kV (by decide))
              have oG1 := (oGV.ext hbV).turned hT1 hM2g (own_ne_blk oGV kV (by decide))
              have hq1 := (hqV.ext hbV).turned hT1 (own_ne_blk oEV kV (by decide) q rfl)
              have x2 := hq1.frozen (i * 6 + 2); have x1 := hq1.frozen (i * 6 + 1); have xl := hq1.lt
              have pp2 := (hT1.cell ⟨q, i * 6 + 2, none⟩ (own_ne_blk oEV kV (by decide) q rfl)).trans ((hbV.cell (p := ⟨q, i * 6 + 2, none⟩) hqV.lt).trans p2)
              have pp1 := (hT1.cell ⟨q, i * 6 + 1, none⟩ (own_ne_blk oEV kV (by decide) q rfl)).trans ((hbV.cell (p := ⟨q, i * 6 + 1, none⟩) hqV.lt).trans p1)
              have hB1 : Below w0.heap.size w0 V2 := (below2 hB0 hbV).trans (hT1.rest _ (by omega))
              have hz1s : w6.heap.size ≤ V2.heap.size := by have h1 := hbV.size; have h2 := hT1.size; omega
              clear hV2 hT1
              have hS := kb1.cell 3
              refine HK.out _ _ (fun _ => hS) ?_
              clear HK
              (refine anyD_light (i := 15) (v := ?_) rfl (by kernel_rfl) (by kernel_rfl) (by kernel_rfl) (by kernel_rfl) (by kernel_rfl) (fun _ _ _ h => h) (.inl ⟨by kernel_rfl, fun W9 hW9 => ?_⟩) hS ?_; rotate_left; · (have hw0 := hW9; go_simp; rfl))
              (refine anyD_light (i := 16) (v := ?_) rfl (by kernel_rfl) (by kernel_rfl) (by kernel_rfl) (by kernel_rfl) (by kernel_rfl) (fun _ _ _ h => h) (.inl ⟨by kernel_rfl, fun W9 hW9 => ?_⟩) hS ?_; rotate_left; · (have hw0 := hW9; go_simp; rfl))
              go_simp
              refine anyD_one (i := 17) (by kernel_rfl) rfl rfl (fun K hK => ?_)
              have HK := Lib.hid hK
              clear hK
              clear hS
              unfold Oper.wp
              go_simp
              have e1 := own_putC (C := entC) oE1 hil (j := 2) (by decide) (u := .int .i64 nf) (a := (eu, es1, nf, et, em)) (fun cs h => entC_put2 nf (by omega) cs (by rw [← Hen.out] at h; exact h))
              have hT2 : Turned q V2 (V2.setCell ⟨q, i * 6 + 2, none⟩ (.int .i64 nf)) := (Turned.refl q V2).set _ _
              have y1 := pp1
              have x1b := (hq1.set_ (i * 6 + 2) (.int .i64 nf)).frozen (i * 6 + 1)
              have xlb := (hq1.set_ (i * 6 + 2) (.int .i64 nf)).lt
              have y1b : (V2.setCell ⟨q, i * 6 + 2, none⟩ (.int .i64 nf)).cell? ⟨q, i * 6 + 1, none⟩ = some (.int .i64 es1) := (World.cell?_setCell_other _ _ _ _ (by intro e; injection e with _ e; omega)).trans pp1
              have kb2 := kb1.turned hT2 (fun e => own_ne_blk oE1 kb1 (by decide) q rfl e.symm)
              change Own entC _ (V2.setCell ⟨q, i * 6 + 2, none⟩ (.int .i64 nf)) _ _ _ _ at e1
              have hlq : (b.es.set i (eu, es1, nf, et, em)).length = b.es.length := List.length_set
              generalize hV3 : V2.setCell ⟨q, i * 6 + 2, none⟩ (.int .i64 nf) = V3 at e1 hT2 kb2 x1b xlb y1b ⊢
              have hS := kb2.cell 3
              refine HK.out _ _ (fun _ => hS) ?_
              clear HK
              (refine anyD_light (i := 18) (v := ?_) rfl (by kernel_rfl) (by kernel_rfl) (by kernel_rfl) (by kernel_rfl) (by kernel_rfl) (fun _ _ _ h => h) (.inl ⟨by kernel_rfl, fun W9 hW9 => ?_⟩) hS ?_; rotate_left; · (have hw0 := hW9; go_simp; rfl))
              go_simp
              refine anyD_one (i := 19) (by kernel_rfl) rfl rfl (fun K hK => ?_)
              have HK := Lib.hid hK
              clear hK
              unfold Oper.wp
              go_simp
              refine HK.out _ _ (fun h => by cases h) ?_
              clear HK
              go_simp
              refine anyD_one (i := 20) (by kernel_rfl) rfl rfl (fun K hK => ?_)
              have HK := Lib.hid hK
              clear hK
              have t0 := kb2.cell 3
              unfold Oper.wp
              go_simp
              refine HK.out _ _ (fun h => by cases h) ?_
              clear HK
              go_simp
              refine anyD_done (by kernel_rfl) ?_ _
              have e2 := own_putC (C := entC) e1 (k := i) (by rw [hlq]; exact hil) (j := 1) (by decide) (u := .int .i64 b.ns) (a := (eu, b.ns, nf, et, em)) (fun cs h => entC_put1 b.ns (by omega) cs (by rw [List.getElem_set_self] at h; exact h))
              rw [List.set_set] at e2
              change Own entC _ (V3.setCell ⟨q, i * 6 + 1, none⟩ (.int .i64 b.ns)) _ _ _ _ at e2
              have hT3 : Turned q V2 (V3.setCell ⟨q, i * 6 + 1, none⟩ (.int .i64 b.ns)) := hT2.set _ _
              have kb6 := kb1.turned hT3 (fun e => own_ne_blk oE1 kb1 (by decide) q rfl e.symm)
              generalize V3.setCell ⟨q, i * 6 + 1, none⟩ (.int .i64 b.ns) = V6 at e2 hT3 kb6 ⊢
              have oG7 : Own gnC M2 V6 w4.heap.size 82 (.slice Ags b.gs.length cgs) b.gs := own_freeM free_gn (Own.turned (M := fun _ => True) (own_freeM free_gn oG1) hT3 trivial fun x hx e => by
                subst e
                exact own_apart oE1 oG1 (by decide) x hx rfl)
              have oE7 := e2
              have hB6 : Below w0.heap.size w0 V6 := hB1.trans (hT3.rest _ (by omega))
              clear e1 e2 hT2 hT3 kb1 kb2 oE1 oG1 HS hS hV3 pp1 pp2 y1 y1b
              clear k2W k3W c0 c1 c2 c3 c4 d0 d1 d2 d3 d4 d5 d6
              have hlq2 : (b.es.set i (eu, b.ns, nf, et, em)).length = b.es.length := List.length_set
              have hapE4 : ∀ x, (Value.slice (some ⟨q, 0, none⟩) b.es.length ces).ownBlock = some x → x ≠ g4 := fun x hx => by have h1 := oE7.base x hx; omega
              have hapE5 : ∀ x, (Value.slice (some ⟨q, 0, none⟩) b.es.length ces).ownBlock = some x → x ≠ g5 := fun x hx => by have h1 := oE7.base x hx; omega
              have hapG4 : ∀ x, (Value.slice Ags b.gs.length cgs).ownBlock = some x → x ≠ g4 := fun x hx => by have h1 := oG7.base x hx; omega
              have hapG5 : ∀ x, (Value.slice Ags b.gs.length cgs).ownBlock = some x → x ≠ g5 := fun x hx => by have h1 := oG7.base x hx; omega
              have oE8 := own_sub (M' := fun x => M1 x ∨ (Value.slice Ags b.gs.length cgs).ownBlock = some x) oE7 fun x _ hx => hx.imp (hM21 x) id
              have oG8 := own_sub (M' := M1) oG7 fun x _ hx => hM21 x hx
              have HS := Lib.hid (show ∀ W, Below V6.heap.size V6 W → W.cell? ⟨g9, 0, none⟩ = some (.int .i64 b.nu) ∧ W.cell? ⟨g9, 1, none⟩ = some (.int .i64 (b.ns + 1)) ∧ W.cell? ⟨g9, 2, none⟩ = some (.int .i64 b.hz) ∧ W.cell? ⟨g9, 3, none⟩ = some (.slice (some ⟨q, 0, none⟩) b.es.length ces) ∧ W.cell? ⟨g9, 4, none⟩ = some (.slice Ags b.gs.length cgs) from fun W hW => ⟨(kb6.ext hW).cell 0, (kb6.ext hW).cell 1, (kb6.ext hW).cell 2, (kb6.ext hW).cell 3, (kb6.ext hW).cell 4⟩)
              go_wp2_with fail
              refine wp_region_D (fun W => W.cell? ⟨g9, 0, none⟩ = some (.int .i64 b.nu) ∧ W.cell? ⟨g9, 1, none⟩ = some (.int .i64 (b.ns + 1)) ∧ W.cell? ⟨g9, 2, none⟩ = some (.int .i64 b.hz) ∧ W.cell? ⟨g9, 3, none⟩ = some (.slice (some ⟨q, 0, none⟩) b.es.length ces) ∧ W.cell? ⟨g9, 4, none⟩ = some (.slice Ags b.gs.length cgs)) (fun j => j == 5 || j == 6) (by kernel_rfl) ?_
              change anyD _ _ _ _ _ _ _ _ _ (V6.drewN 1)
              have hbV := below_drewN' V6.heap.size V6 1
              generalize V6.drewN 1 = V0 at hbV ⊢
              have hS := HS.out V0 hbV
              (refine anyD_light (i := 0) (v := ?_) rfl (by kernel_rfl) (by kernel_rfl) (by kernel_rfl) (by kernel_rfl) (by kernel_rfl) (fun _ _ _ h => h) (.inl ⟨by kernel_rfl, fun W9 hW9 => ?_⟩) hS ?_; rotate_left; · (obtain ⟨hw0, hw1, hw2, hw3, hw4⟩ := hW9; go_simp; rfl))
              (refine anyD_light (i := 1) (v := ?_) rfl (by kernel_rfl) (by kernel_rfl) (by kernel_rfl) (by kernel_rfl) (by kernel_rfl) (fun _ _ _ h => h) (.inl ⟨by kernel_rfl, fun W9 hW9 => ?_⟩) hS ?_; rotate_left; · (obtain ⟨hw0, hw1, hw2, hw3, hw4⟩ := hW9; go_simp; rfl))
              (refine anyD_light (i := 2) (v := ?_) rfl (by kernel_rfl) (by kernel_rfl) (by kernel_rfl) (by kernel_rfl) (by kernel_rfl) (fun _ _ _ h => h) (.inl ⟨by kernel_rfl, fun W9 hW9 => ?_⟩) hS ?_; rotate_left; · (obtain ⟨hw0, hw1, hw2, hw3, hw4⟩ := hW9; go_simp; rfl))
              (refine anyD_light (i := 3) (v := ?_) rfl (by kernel_rfl) (by kernel_rfl) (by kernel_rfl) (by kernel_rfl) (by kernel_rfl) (fun _ _ _ h => h) (.inl ⟨by kernel_rfl, fun W9 hW9 => ?_⟩) hS ?_; rotate_left; · (obtain ⟨hw0, hw1, hw2, hw3, hw4⟩ := hW9; go_simp; rfl))
              go_simp
              refine anyD_one (i := 4) (by kernel_rfl) rfl rfl (fun K hK => ?_)
              have HK := Lib.hid hK
              clear hK
              clear hS
              unfold Oper.wp
              go_simp
              refine (none_ok V0).mono ?_
              rintro e V1 ⟨rfl, hb1⟩
              have hb1' := below2 hbV hb1
              have hS := HS.out V1 hb1'
              refine HK.out _ _ (fun _ => hS) ?_
              clear HK
              go_simp
              refine anyD_one (i := 5) (by kernel_rfl) rfl rfl (fun K hK => ?_)
              have HK := Lib.hid hK
              clear hK
              have hbR := below2 hB6 hb1'
              have k4W := k4.ext hbR; have k5W := k5.ext hbR
              obtain ⟨z0, z1, z2, z3, z4, y0, y1, hbZ, hTz⟩ := res7 k4W k5W hne45 (.int .i64 b.nu) (.int .i64 (b.ns + 1)) (.int .i64 b.hz) (.slice (some ⟨q, 0, none⟩) b.es.length ces) (.slice Ags b.gs.length cgs) (.int .i64 0) (.int .i64 0)
              have x0 := k4W.frozen 0; have x1 := k4W.frozen 1; have x2 := k4W.frozen 2; have x3 := k4W.frozen 3; have x4 := k4W.frozen 4; have xl := k4W.lt
              have m0 := k4W.cell 0; have m1 := k4W.cell 1; have m2 := k4W.cell 2; have m3 := k4W.cell 3; have m4 := k4W.cell 4
              have n0 := (k5W.turned (put5_turned V1 g4 (.int .i64 b.nu) (.int .i64 (b.ns + 1)) (.int .i64 b.hz) (.slice (some ⟨q, 0, none⟩) b.es.length ces) (.slice Ags b.gs.length cgs)) hne45.symm).cell 0; have n1 := (k5W.turned (put5_turned V1 g4 (.int .i64 b.nu) (.int .i64 (b.ns + 1)) (.int .i64 b.hz) (.slice (some ⟨q, 0, none⟩) b.es.length ces) (.slice Ags b.gs.length cgs)) hne45.symm).cell 1
              obtain ⟨_, _, u0, u1, ul⟩ := k5W.two
              have u0b := (put5_turned V1 g4 (.int .i64 b.nu) (.int .i64 (b.ns + 1)) (.int .i64 b.hz) (.slice (some ⟨q, 0, none⟩) b.es.length ces) (.slice Ags b.gs.length cgs)).frozen0 k5W hne45.symm; have u1b := (put5_turned V1 g4 (.int .i64 b.nu) (.int .i64 (b.ns + 1)) (.int .i64 b.hz) (.slice (some ⟨q, 0, none⟩) b.es.length ces) (.slice Ags b.gs.length cgs)).frozen1 k5W hne45.symm
              skip
              unfold put5 at *
              unfold Oper.wp
              go_simp
              refine HK.out _ _ (fun h => by cases h) ?_
              clear HK
              go_simp
              refine anyD_one (i := 6) (by kernel_rfl) rfl rfl (fun K hK => ?_)
              have HK := Lib.hid hK
              clear hK
              unfold Oper.wp
              go_simp
              refine HK.out _ _ (fun h => by cases h) ?_
              clear HK
              go_simp
              refine anyD_done (by kernel_rfl) ?_ _
              go_wp2_with fail
              refine bodyPost_ret (v := .tuple #[.agg #[.int .i64 b.nu, .int .i64 (b.ns + 1), .int .i64 b.hz, .slice (some ⟨q, 0, none⟩) b.es.length ces, .slice Ags b.gs.length cgs], .agg #[.int .i64 0, .int .i64 0]]) (by simp [results, Tryz.results29, go_sem, z0, z1, z2, z3, z4, y0, y1]) rfl ⟨_, _, rfl, ?_, ?_, ?_⟩
              · first | exact own_lower (own_sub ((own_two (oE8.ext hb1') hTz (.inl hMg4) (.inl hMg5) (fun x hx => hapE4 x hx) (fun x hx => hapE5 x hx))) fun x _ hx => hx.imp (hM1M x) id) hBw | (rw [← hg2]; exact own_lower (own_sub ((own_two (oE8.ext hb1') hTz (.inl hMg4) (.inl hMg5) (fun x hx => hapE4 x hx) (fun x hx => hapE5 x hx))) fun x _ hx => hx.imp (hM1M x) id) hBw)
              · first | exact own_lower (own_sub (own_two (oG8.ext hb1') hTz hMg4 hMg5 (fun x hx => hapG4 x hx) (fun x hx => hapG5 x hx)) fun x _ hx => hM1M x hx) hBw | (rw [← hg2]; exact own_lower (own_sub (own_two (oG8.ext hb1') hTz hMg4 hMg5 (fun x hx => hapG4 x hx) (fun x hx => hapG5 x hx)) fun x _ hx => hM1M x hx) hBw)
              · first | exact (below2 hb0 hbR).trans (hbZ _ (by omega) (by omega)) | (rw [← hg2]; exact (below2 hb0 hbR).trans (hbZ _ (by omega) (by omega)))
      · obtain rfl : kd = 3 := by omega
        have hz1 : ((3 : Int) == 1) = false := rfl
        obtain ⟨fb, hfb⟩ : ∃ t, decide (fi < 0) = t := ⟨_, rfl⟩
        rw [hfb, hz1] at HE
        cases nsb with
        | true =>
          have e9 : b.ns = 1000000 := by simpa using hnsb
          clear hnsb
          rw [e9] at c0 c1 c2 c3 c4
          clear e9
          have HE2 := Lib.hid (show (rb, r1, r2) = (Mb.emptyB, 1, (-3)) from HE)
          clear HE
          obtain ⟨rfl, rfl, rfl⟩ : rb = Mb.emptyB ∧ r1 = 1 ∧ r2 = (-3) := by have := HE2.out; injection this with a b; injection b with b c; exact ⟨a, b, c⟩
          clear HE2
          go_wp2_with (go_at_call 27; refine (fault_ok _ _ _).mono ?_; rintro e w5 ⟨rfl, hb5⟩; refine Hid.out ?_)
          have hb5' := below2 hb4 hb5
          have k4W := k4.ext hb5'; have k5W := k5.ext hb5'
          obtain ⟨z0, z1, z2, z3, z4, y0, y1, hbZ, hTz⟩ := res7 k4W k5W hne45 (.int .i64 0) (.int .i64 0) (.int .i64 0) (.slice none 0 0) (.slice none 0 0) (.int .i64 1) (.int .i64 (-3))
          have x0 := k4W.frozen 0; have x1 := k4W.frozen 1; have x2 := k4W.frozen 2; have x3 := k4W.frozen 3; have x4 := k4W.frozen 4; have xl := k4W.lt
          have m0 := k4W.cell 0; have m1 := k4W.cell 1; have m2 := k4W.cell 2; have m3 := k4W.cell 3; have m4 := k4W.cell 4
          have n0 := (k5W.turned (put5_turned w5 g4 (.int .i64 0) (.int .i64 0) (.int .i64 0) (.slice none 0 0) (.slice none 0 0)) hne45.symm).cell 0; have n1 := (k5W.turned (put5_turned w5 g4 (.int .i64 0) (.int .i64 0) (.int .i64 0) (.slice none 0 0) (.slice none 0 0)) hne45.symm).cell 1
          obtain ⟨_, _, u0, u1, ul⟩ := k5W.two
          have u0b := (put5_turned w5 g4 (.int .i64 0) (.int .i64 0) (.int .i64 0) (.slice none 0 0) (.slice none 0 0)).frozen0 k5W hne45.symm; have u1b := (put5_turned w5 g4 (.int .i64 0) (.int .i64 0) (.int .i64 0) (.slice none 0 0) (.slice none 0 0)).frozen1 k5W hne45.symm
          unfold put5 at *
          refine Lib.hid ?_
          go_wp2_with fail
          refine bodyPost_ret (v := .tuple #[.agg #[.int .i64 0, .int .i64 0, .int .i64 0, .slice none 0 0, .slice none 0 0], .agg #[.int .i64 1, .int .i64 (-3)]]) (by simp [results, Tryz.results29, go_sem, z0, z1, z2, z3, z4, y0, y1]) rfl ⟨_, _, rfl, ?_, ?_, ?_⟩
          · exact Own.nil _ _ _ _ _
          · exact Own.nil _ _ _ _ _
          · exact (below2 hb0 hb5').trans (hbZ _ (by omega) (by omega))
        | false =>
          cases fb with
          | true =>
            clear hfiE
            have HE2 := Lib.hid (show (rb, r1, r2) = (Mb.emptyB, 6, (-9)) from HE)
            clear HE
            obtain ⟨rfl, rfl, rfl⟩ : rb = Mb.emptyB ∧ r1 = 6 ∧ r2 = (-9) := by have := HE2.out; injection this with a b; injection b with b c; exact ⟨a, b, c⟩
            clear HE2
            go_wp2_with (go_at_call 27; refine (fault_ok _ _ _).mono ?_; rintro e w5 ⟨rfl, hb5⟩; refine Hid.out ?_)
            have hb5' := below2 hb4 hb5
            have k4W := k4.ext hb5'; have k5W := k5.ext hb5'
            obtain ⟨z0, z1, z2, z3, z4, y0, y1, hbZ, hTz⟩ := res7 k4W k5W hne45 (.int .i64 0) (.int .i64 0) (.int .i64 0) (.slice none 0 0) (.slice none 0 0) (.int .i64 6) (.int .i64 (-9))
            have x0 := k4W.frozen 0; have x1 := k4W.frozen 1; have x2 := k4W.frozen 2; have x3 := k4W.frozen 3; have x4 := k4W.frozen 4; have xl := k4W.lt
            have m0 := k4W.cell 0; have m1 := k4W.cell 1; have m2 := k4W.cell 2; have m3 := k4W.cell 3; have m4 := k4W.cell 4
            have n0 := (k5W.turned (put5_turned w5 g4 (.int .i64 0) (.int .i64 0) (.int .i64 0) (.slice none 0 0) (.slice none 0 0)) hne45.symm).cell 0; have n1 := (k5W.turned (put5_turned w5 g4 (.int .i64 0) (.int .i64 0) (.int .i64 0) (.slice none 0 0) (.slice none 0 0)) hne45.symm).cell 1
            obtain ⟨_, _, u0, u1, ul⟩ := k5W.two
            have u0b := (put5_turned w5 g4 (.int .i64 0) (.int .i64 0) (.int .i64 0) (.slice none 0 0) (.slice none 0 0)).frozen0 k5W hne45.symm; have u1b := (put5_turned w5 g4 (.int .i64 0) (.int .i64 0) (.int .i64 0) (.slice none 0 0) (.slice none 0 0)).frozen1 k5W hne45.symm
            unfold put5 at *
            refine Lib.hid ?_
            go_wp2_with fail
            refine bodyPost_ret (v := .tuple #[.agg #[.int .i64 0, .int .i64 0, .int .i64 0, .slice none 0 0, .slice none 0 0], .agg #[.int .i64 6, .int .i64 (-9)]]) (by simp [results, Tryz.results29, go_sem, z0, z1, z2, z3, z4, y0, y1]) rfl ⟨_, _, rfl, ?_, ?_, ?_⟩
            · exact Own.nil _ _ _ _ _
            · exact Own.nil _ _ _ _ _
            · exact (below2 hb0 hb5').trans (hbZ _ (by omega) (by omega))
          | false =>
            have HE2 := Lib.hid (show (rb, r1, r2) = (Mb.remC b fi.toNat, 0, 0) from HE)
            clear HE
            have hfn : ¬ fi < 0 := by simpa using hfb
            obtain ⟨i, rfl⟩ : ∃ i : Nat, fi = (i : Int) := ⟨fi.toNat, by omega⟩
            obtain ⟨hil, hiu⟩ := findI_at hfiE.symm
            have hti : (i : Int).toNat = i := rfl
            rw [hti] at HE2
            clear hfb hfn Hok Hcm hiu hfiE hti
            have hns1 : ¬ b.ns = 1000000 := by simpa using hnsb
            obtain ⟨M1, hM1⟩ : ∃ M1 : Nat → Prop, M1 = fun x => M x ∨ x = g4 ∨ x = g5 := ⟨_, rfl⟩
            have hMg4 : M1 g4 := by rw [hM1]; exact .inr (.inl rfl)
            have hMg5 : M1 g5 := by rw [hM1]; exact .inr (.inr rfl)
            have hM1M : ∀ x, M x → M1 x := fun x hx => by rw [hM1]; exact .inl hx
            have hM1lt : ∀ x, M1 x → x < w0.heap.size := by
              intro x hx
              rw [hM1] at hx
              have := hb0.size
              rcases hx with hx | hx | hx
              · have := hM x hx; omega
              · omega
              · omega
            have hbw4 := below2 hb0 hb4
            have hs4 := hb4.size; have hs0 := hb0.size
            have hsub : ∀ x, x < w.heap.size → M1 x → M x := fun x hx h => by
              rw [hM1] at h
              rcases h with h | h | h
              · exact h
              · omega
              · omega
            have heM : SlR entC M1 w4 (.slice Ae b.es.length ce) b.es := (he.sub hsub).ext hbw4
            have hgM : SlR gnC M1 w4 (.slice Ag b.gs.length cg) b.gs := (hg.sub hsub).ext hbw4
            have hcpw := Hcp.out w4 M1 (fun x hx => Nat.lt_of_lt_of_le (hM1lt x hx) hs4) heM hgM
            have Hcpw := Lib.hid hcpw
            clear hcpw hM1 heM hgM Hcp Hfi
            go_wp2_with fail
            refine Hcpw.out.mono ?_
            rintro e w5 ⟨esv, gsv, rfl, oE, oG, hb5⟩
            obtain ⟨Aes, ces, rfl, _, _⟩ := oE.shape
            obtain ⟨Ags, cgs, rfl, _, _⟩ := oG.shape
            obtain ⟨w6, g9, hw6, hg9, hsz6, k9, hb6⟩ := box1 w5 #[.int .i64 b.nu, .int .i64 b.ns, .int .i64 b.hz, .slice Aes b.es.length ces, .slice Ags b.gs.length cgs] 75
            have hb6' := below2 hb4 (below2 hb5 hb6)
            have hs5 := hb5.size; have hs6 := hb6.size
            obtain ⟨M2, hM2⟩ : ∃ M2 : Nat → Prop, M2 = fun x => M1 x ∨ x = g9 := ⟨_, rfl⟩
            have hM2g : M2 g9 := by rw [hM2]; exact .inr rfl
            have hM21 : ∀ x, M1 x → M2 x := fun x hx => by rw [hM2]; exact .inl hx
            have hM2lt : ∀ x, M2 x → x < w6.heap.size := fun x hx => by
              rw [hM2] at hx
              rcases hx with hx | hx
              · have := hM1lt x hx; omega
              · omega
            have hM2c : ∀ x, M2 x → x ≠ g9 → x < w0.heap.size := fun x hx hn => by
              rw [hM2] at hx
              rcases hx with hx | hx
              · exact hM1lt x hx
              · exact absurd hx hn
            have oE6 : Own entC (fun x => M2 x ∨ (Value.slice Ags b.gs.length cgs).ownBlock = some x) w6 w4.heap.size 65 (.slice Aes b.es.length ces) b.es := (own_sub oE fun x hx h => h.imp (fun h => by
              rw [hM2] at h
              rcases h with h | h
              · exact h
              · omega) id).ext hb6
            have oG6 : Own gnC M2 w6 w4.heap.size 82 (.slice Ags b.gs.length cgs) b.gs := own_freeM free_gn (oG.ext hb6)
            have hBw : w.heap.size ≤ w4.heap.size := by omega
            have hg9l : w4.heap.size ≤ g9 := by omega
            have hne9 : g9 ≠ g3 ∧ g9 ≠ g4 ∧ g9 ≠ g5 ∧ g9 ≠ g2 := by omega
            clear oE oG hM2 hsz6 Hcpw
            clear k2W k3W c0 c1 c2 c3 c4 d0 d1 d2 d3 d4 d5 d6
            have k2W := k2.ext hb6'; have k3W := k3.ext hb6'
            have c0 := k2W.cell 0; have c1 := k2W.cell 1; have c2 := k2W.cell 2; have c3 := k2W.cell 3; have c4 := k2W.cell 4
            have d0 := k3W.cell 0; have d1 := k3W.cell 1; have d2 := k3W.cell 2; have d3 := k3W.cell 3; have d4 := k3W.cell 4; have d5 := k3W.cell 5; have d6 := k3W.cell 6
            have s0 := k9.cell 0; have s1 := k9.cell 1; have s2 := k9.cell 2; have s3 := k9.cell 3; have s4 := k9.cell 4
            have hMq : ∀ x, (Value.slice Aes b.es.length ces).ownBlock = some x → ¬ M2 x := fun x hx hm => by
              have h1 := oE6.base x hx
              have h2 := hM2c x hm (own_ne_blk oE6 k9 (by decide) x hx)
              omega
            obtain ⟨rfl, rfl, rfl⟩ : rb = Mb.remC b i ∧ r1 = 0 ∧ r2 = 0 := by have := HE2.out; injection this with a b; injection b with b c; exact ⟨a, b, c⟩
            clear HE2
            have hrm := remove_ok M2 b _ _ i g9 w4.heap.size w6 k9 hM2g hM2lt oE6 oG6 hMq hg9l hil hgle (Hgl.out (by show ¬ (3 : Int) = 1; omega)) (by omega) (fun j hj => by have := (hG.es _ (List.getElem_mem hj)).1; omega)
            have Hrm := Lib.hid hrm
            clear hrm hMq
            go_wp2_with fail
            refine Hrm.out.mono ?_
            rintro e V6 ⟨rfl, esn, gsn, kb6, oE7, oG7, hB6a⟩
            obtain ⟨A4, c4x, rfl, _, _⟩ := oE7.shape
            obtain ⟨A5, c5x, rfl, _, _⟩ := oG7.shape
            have hB6 : Below w0.heap.size w0 V6 := hb6'.trans (hB6a.mono hs4)
            clear Hrm
            clear k2W k3W c0 c1 c2 c3 c4 d0 d1 d2 d3 d4 d5 d6
            have hapE4 : ∀ x, (Value.slice A4 (Mb.remC b i).es.length c4x).ownBlock = some x → x ≠ g4 := fun x hx => by have h1 := oE7.base x hx; omega
            have hapE5 : ∀ x, (Value.slice A4 (Mb.remC b i).es.length c4x).ownBlock = some x → x ≠ g5 := fun x hx => by have h1 := oE7.base x hx; omega
            have hapG4 : ∀ x, (Value.slice A5 (Mb.remC b i).gs.length c5x).ownBlock = some x → x ≠ g4 := fun x hx => by have h1 := oG7.base x hx; omega
            have hapG5 : ∀ x, (Value.slice A5 (Mb.remC b i).gs.length c5x).ownBlock = some x → x ≠ g5 := fun x hx => by have h1 := oG7.base x hx; omega
            have oE8 := own_sub (M' := fun x => M1 x ∨ (Value.slice A5 (Mb.remC b i).gs.length c5x).ownBlock = some x) oE7 fun x _ hx => hx.imp (hM21 x) id
            have oG8 := own_sub (M' := M1) oG7 fun x _ hx => hM21 x hx
            have HS := Lib.hid (show ∀ W, Below V6.heap.size V6 W → W.cell? ⟨g9, 0, none⟩ = some (.int .i64 (Mb.remC b i).nu) ∧ W.cell? ⟨g9, 1, none⟩ = some (.int .i64 (Mb.remC b i).ns) ∧ W.cell? ⟨g9, 2, none⟩ = some (.int .i64 (Mb.remC b i).hz) ∧ W.cell? ⟨g9, 3, none⟩ = some (.slice A4 (Mb.remC b i).es.length c4x) ∧ W.cell? ⟨g9, 4, none⟩ = some (.slice A5 (Mb.remC b i).gs.length c5x) from fun W hW => ⟨(kb6.ext hW).cell 0, (kb6.ext hW).cell 1, (kb6.ext hW).cell 2, (kb6.ext hW).cell 3, (kb6.ext hW).cell 4⟩)
            go_wp2_with fail
            refine wp_region_D (fun W => W.cell? ⟨g9, 0, none⟩ = some (.int .i64 (Mb.remC b i).nu) ∧ W.cell? ⟨g9, 1, none⟩ = some (.int .i64 (Mb.remC b i).ns) ∧ W.cell? ⟨g9, 2, none⟩ = some (.int .i64 (Mb.remC b i).hz) ∧ W.cell? ⟨g9, 3, none⟩ = some (.slice A4 (Mb.remC b i).es.length c4x) ∧ W.cell? ⟨g9, 4, none⟩ = some (.slice A5 (Mb.remC b i).gs.length c5x)) (fun j => j == 5 || j == 6) (by kernel_rfl) ?_
            change anyD _ _ _ _ _ _ _ _ _ (V6.drewN 1)
            have hbV := below_drewN' V6.heap.size V6 1
            generalize V6.drewN 1 = V0 at hbV ⊢
            have hS := HS.out V0 hbV
            (refine anyD_light (i := 0) (v := ?_) rfl (by kernel_rfl) (by kernel_rfl) (by kernel_rfl) (by kernel_rfl) (by kernel_rfl) (fun _ _ _ h => h) (.inl ⟨by kernel_rfl, fun W9 hW9 => ?_⟩) hS ?_; rotate_left; · (obtain ⟨hw0, hw1, hw2, hw3, hw4⟩ := hW9; go_simp; rfl))
            (refine anyD_light (i := 1) (v := ?_) rfl (by kernel_rfl) (by kernel_rfl) (by kernel_rfl) (by kernel_rfl) (by kernel_rfl) (fun _ _ _ h => h) (.inl ⟨by kernel_rfl, fun W9 hW9 => ?_⟩) hS ?_; rotate_left; · (obtain ⟨hw0, hw1, hw2, hw3, hw4⟩ := hW9; go_simp; rfl))
            (refine anyD_light (i := 2) (v := ?_) rfl (by kernel_rfl) (by kernel_rfl) (by kernel_rfl) (by kernel_rfl) (by kernel_rfl) (fun _ _ _ h => h) (.inl ⟨by kernel_rfl, fun W9 hW9 => ?_⟩) hS ?_; rotate_left; · (obtain ⟨hw0, hw1, hw2, hw3, hw4⟩ := hW9; go_simp; rfl))
            (refine anyD_light (i := 3) (v := ?_) rfl (by kernel_rfl) (by kernel_rfl) (by kernel_rfl) (by kernel_rfl) (by kernel_rfl) (fun _ _ _ h => h) (.inl ⟨by kernel_rfl, fun W9 hW9 => ?_⟩) hS ?_; rotate_left; · (obtain ⟨hw0, hw1, hw2, hw3, hw4⟩ := hW9; go_simp; rfl))
            go_simp
            refine anyD_one (i := 4) (by kernel_rfl) rfl rfl (fun K hK => ?_)
            have HK := Lib.hid hK
            clear hK
            clear hS
            unfold Oper.wp
            go_simp
            refine (none_ok V0).mono ?_
            rintro e V1 ⟨rfl, hb1⟩
            have hb1' := below2 hbV hb1
            have hS := HS.out V1 hb1'
            refine HK.out _ _ (fun _ => hS) ?_
            clear HK
            go_simp
            refine anyD_one (i := 5) (by kernel_rfl) rfl rfl (fun K hK => ?_)
            have HK := Lib.hid hK
            clear hK
            have hbR := below2 hB6 hb1'
            have k4W := k4.ext hbR; have k5W := k5.ext hbR
            obtain ⟨z0, z1, z2, z3, z4, y0, y1, hbZ, hTz⟩ := res7 k4W k5W hne45 (.int .i64 (Mb.remC b i).nu) (.int .i64 (Mb.remC b i).ns) (.int .i64 (Mb.remC b i).hz) (.slice A4 (Mb.remC b i).es.length c4x) (.slice A5 (Mb.remC b i).gs.length c5x) (.int .i64 0) (.int .i64 0)
            have x0 := k4W.frozen 0; have x1 := k4W.frozen 1; have x2 := k4W.frozen 2; have x3 := k4W.frozen 3; have x4 := k4W.frozen 4; have xl := k4W.lt
            have m0 := k4W.cell 0; have m1 := k4W.cell 1; have m2 := k4W.cell 2; have m3 := k4W.cell 3; have m4 := k4W.cell 4
            have n0 := (k5W.turned (put5_turned V1 g4 (.int .i64 (Mb.remC b i).nu) (.int .i64 (Mb.remC b i).ns) (.int .i64 (Mb.remC b i).hz) (.slice A4 (Mb.remC b i).es.length c4x) (.slice A5 (Mb.remC b i).gs.length c5x)) hne45.symm).cell 0; have n1 := (k5W.turned (put5_turned V1 g4 (.int .i64 (Mb.remC b i).nu) (.int .i64 (Mb.remC b i).ns) (.int .i64 (Mb.remC b i).hz) (.slice A4 (Mb.remC b i).es.length c4x) (.slice A5 (Mb.remC b i).gs.length c5x)) hne45.symm).cell 1
            obtain ⟨_, _, u0, u1, ul⟩ := k5W.two
            have u0b := (put5_turned V1 g4 (.int .i64 (Mb.remC b i).nu) (.int .i64 (Mb.remC b i).ns) (.int .i64 (Mb.remC b i).hz) (.slice A4 (Mb.remC b i).es.length c4x) (.slice A5 (Mb.remC b i).gs.length c5x)).frozen0 k5W hne45.symm; have u1b := (put5_turned V1 g4 (.int .i64 (Mb.remC b i).nu) (.int .i64 (Mb.remC b i).ns) (.int .i64 (Mb.remC b i).hz) (.slice A4 (Mb.remC b i).es.length c4x) (.slice A5 (Mb.remC b i).gs.length c5x)).frozen1 k5W hne45.symm
            skip
            unfold put5 at *
            unfold Oper.wp
            go_simp
            refine HK.out _ _ (fun h => by cases h) ?_
            clear HK
            go_simp
            refine anyD_one (i := 6) (by kernel_rfl) rfl rfl (fun K hK => ?_)
            have HK := Lib.hid hK
            clear hK
            unfold Oper.wp
            go_simp
            refine HK.out _ _ (fun h => by cases h) ?_
            clear HK
            go_simp
            refine anyD_done (by kernel_rfl) ?_ _
            go_wp2_with fail
            refine bodyPost_ret (v := .tuple #[.agg #[.int .i64 (Mb.remC b i).nu, .int .i64 (Mb.remC b i).ns, .int .i64 (Mb.remC b i).hz, .slice A4 (Mb.remC b i).es.length c4x, .slice A5 (Mb.remC b i).gs.length c5x], .agg #[.int .i64 0, .int .i64 0]]) (by simp [results, Tryz.results29, go_sem, z0, z1, z2, z3, z4, y0, y1]) rfl ⟨_, _, rfl, ?_, ?_, ?_⟩
            · first | exact own_lower (own_sub ((own_two (oE8.ext hb1') hTz (.inl hMg4) (.inl hMg5) (fun x hx => hapE4 x hx) (fun x hx => hapE5 x hx))) fun x _ hx => hx.imp (hM1M x) id) hBw | (rw [← hg2]; exact own_lower (own_sub ((own_two (oE8.ext hb1') hTz (.inl hMg4) (.inl hMg5) (fun x hx => hapE4 x hx) (fun x hx => hapE5 x hx))) fun x _ hx => hx.imp (hM1M x) id) hBw)
            · first | exact own_lower (own_sub (own_two (oG8.ext hb1') hTz hMg4 hMg5 (fun x hx => hapG4 x hx) (fun x hx => hapG5 x hx)) fun x _ hx => hM1M x hx) hBw | (rw [← hg2]; exact own_lower (own_sub (own_two (oG8.ext hb1') hTz hMg4 hMg5 (fun x hx => hapG4 x hx) (fun x hx => hapG5 x hx)) fun x _ hx => hM1M x hx) hBw)
            · first | exact (below2 hb0 hbR).trans (hbZ _ (by omega) (by omega)) | (rw [← hg2]; exact (below2 hb0 hbR).trans (hbZ _ (by omega) (by omega)))
  · have hz : (v1 != 0) = true := by simpa using hv1
    replace HE := HE.trans (if_pos hv1)
    obtain ⟨rfl, rfl, rfl⟩ : rb = Mb.emptyB ∧ r1 = v1 ∧ r2 = v2 := by injection HE with a b; injection b with b c; exact ⟨a, b, c⟩
    clear HE hv1 q0 q1
    have HS := Lib.hid (show ∀ W, Below w2.heap.size w2 W → W.cell? ⟨g6, 0, none⟩ = some (.int .i64 r1) ∧ W.cell? ⟨g6, 1, none⟩ = some (.int .i64 r2) from fun W hW => ⟨(k6.ext hW).cell 0, (k6.ext hW).cell 1⟩)
    go_wp2_with fail
    refine wp_region_D (fun W => W.cell? ⟨g6, 0, none⟩ = some (.int .i64 r1) ∧ W.cell? ⟨g6, 1, none⟩ = some (.int .i64 r2)) (fun j => j == 3) (by kernel_rfl) ?_
    change anyD _ _ _ _ _ _ _ _ _ (w3.drewN 1)
    have hbV := below_drewN' w3.heap.size w3 1
    generalize w3.drewN 1 = V1 at hbV ⊢
    have hbR := below2 hb3' hbV
    have hS := HS.out V1 (below2 hb3 hbV)
    (refine anyD_light (i := 0) (v := ?_) rfl (by kernel_rfl) (by kernel_rfl) (by kernel_rfl) (by kernel_rfl) (by kernel_rfl) (fun _ _ _ h => h) (.inl ⟨by kernel_rfl, fun W9 hW9 => ?_⟩) hS ?_; rotate_left; · (obtain ⟨hw0, hw1⟩ := hW9; go_simp; rfl))
    (refine anyD_light (i := 1) (v := ?_) rfl (by kernel_rfl) (by kernel_rfl) (by kernel_rfl) (by kernel_rfl) (by kernel_rfl) (fun _ _ _ h => h) (.inl ⟨by kernel_rfl, fun W9 hW9 => ?_⟩) hS ?_; rotate_left; · (obtain ⟨hw0, hw1⟩ := hW9; go_simp; rfl))
    go_simp
    refine anyD_one (i := 2) (by kernel_rfl) rfl rfl (fun K hK => ?_)
    have HK := Lib.hid hK
    clear hK
    clear hS
    have k4W := k4.ext hbR; have k5W := k5.ext hbR
    obtain ⟨z0, z1, z2, z3, z4, y0, y1, hbZ, hTz⟩ := res7 k4W k5W hne45 (.int .i64 0) (.int .i64 0) (.int .i64 0) (.slice none 0 0) (.slice none 0 0) (.int .i64 r1) (.int .i64 r2)
    have x0 := k4W.frozen 0; have x1 := k4W.frozen 1; have x2 := k4W.frozen 2; have x3 := k4W.frozen 3; have x4 := k4W.frozen 4; have xl := k4W.lt
    have m0 := k4W.cell 0; have m1 := k4W.cell 1; have m2 := k4W.cell 2; have m3 := k4W.cell 3; have m4 := k4W.cell 4
    have n0 := (k5W.turned (put5_turned V1 g4 (.int .i64 0) (.int .i64 0) (.int .i64 0) (.slice none 0 0) (.slice none 0 0)) hne45.symm).cell 0; have n1 := (k5W.turned (put5_turned V1 g4 (.int .i64 0) (.int .i64 0) (.int .i64 0) (.slice none 0 0) (.slice none 0 0)) hne45.symm).cell 1
    obtain ⟨_, _, u0, u1, ul⟩ := k5W.two
    have u0b := (put5_turned V1 g4 (.int .i64 0) (.int .i64 0) (.int .i64 0) (.slice none 0 0) (.slice none 0 0)).frozen0 k5W hne45.symm; have u1b := (put5_turned V1 g4 (.int .i64 0) (.int .i64 0) (.int .i64 0) (.slice none 0 0) (.slice none 0 0)).frozen1 k5W hne45.symm
    have k6b := ((k6.ext (below2 hb3 hbV)).turned (put5_turned V1 g4 (.int .i64 0) (.int .i64 0) (.int .i64 0) (.slice none 0 0) (.slice none 0 0)) (by omega))
    have hS3 := (⟨k6b.cell 0, k6b.cell 1⟩ : _ ∧ _)
    unfold put5 at *
    unfold Oper.wp
    go_simp
    refine HK.out _ _ (fun _ => hS3) ?_
    clear HK
    have hS := hS3
    go_simp
    refine anyD_one (i := 3) (by kernel_rfl) rfl rfl (fun K hK => ?_)
    have HK := Lib.hid hK
    clear hK
    unfold Oper.wp
    go_simp
    refine HK.out _ _ (fun h => by cases h) ?_
    clear HK
    go_simp
    refine anyD_done (by kernel_rfl) ?_ _
    go_wp2_with fail
    refine bodyPost_ret (v := .tuple #[.agg #[.int .i64 0, .int .i64 0, .int .i64 0, .slice none 0 0, .slice none 0 0], .agg #[.int .i64 r1, .int .i64 r2]]) (by simp [results, Tryz.results29, go_sem, z0, z1, z2, z3, z4, y0, y1]) rfl ⟨_, _, rfl, ?_, ?_, ?_⟩
    · exact Own.nil _ _ _ _ _
    · exact Own.nil _ _ _ _ _
    · exact (below2 hb0 hbR).trans (hbZ _ (by omega) (by omega))
end Go.Proofs.YtjamjkjmlckgeaaGreatDoor
