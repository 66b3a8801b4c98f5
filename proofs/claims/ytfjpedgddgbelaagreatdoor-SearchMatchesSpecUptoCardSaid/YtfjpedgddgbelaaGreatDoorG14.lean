/-
  Contracts and plain facts, one after another: index.duplicate; append(s[:i], make(S, m)...) where s has no room: a new row. No program is named here.
-/
import Derived.Test.YtfjpedgddgbelaaGreatDoorG13
import Derived.Test.YtfjpedgddgbelaaGreatDoorG5
namespace Go.Proofs.YtfjpedgddgbelaaGreatDoor
open Go.RowKit
set_option linter.unusedVariables false
/-- what holds behind some rounds of duplicate -/
structure DupAt (o : Nat → Owner) (B : Nat) (l : List Ix.Term) (raw : List (Str × Value)) (v : Value) (W : World) (k : Nat) (X : List RTerm) : Prop where
  len : X.length = k
  plain : X.map pt = l.take k
  row : Own rtC M0 W B 43 v (X.map rt ++ raw.drop k)
  mine : ∀ b, v.ownBlock = some b → o b = .top
  posts : ∀ t ∈ X, PostsAt ixT o W B t.1 t.2.1 t.2.2
  low : ∀ b, b < B → o b = .no
  fresh : ∀ b, W.heap.size ≤ b → o b = .no
theorem DupAt.start {B : Nat} {l : List Ix.Term} {raw : List (Str × Value)} {v : Value} {W : World} (own : Own rtC M0 W B 43 v raw) : DupAt (own1 (fun _ => .no) v .top) B l raw v W 0 [] :=
  ⟨rfl, rfl, own, fun b hb => own1_self hb, fun t ht => (by cases ht), fun b hb => own1_other fun e => by have := own.base b e; omega, fun b hb => own1_other fun e => by have := own.lt b e; omega⟩
theorem DupAt.ext {o : Nat → Owner} {B : Nat} {l : List Ix.Term} {raw : List (Str × Value)} {v : Value} {W W' : World} {k : Nat} {X : List RTerm} (h : DupAt o B l raw v W k X) (hb : Below W.heap.size W W') : DupAt o B l raw v W' k X :=
  ⟨h.len, h.plain, h.row.ext hb, h.mine, fun t ht => (h.posts t ht).move (fun b hlt _ => hb.block b hlt) fun _ _ => rfl, h.low, fun b hb' => h.fresh b (Nat.le_trans hb.size hb')⟩
/-- a block that is no part of it turns -/
theorem DupAt.other {o : Nat → Owner} {B : Nat} {l : List Ix.Term} {raw : List (Str × Value)} {v : Value} {W : World} {k : Nat} {X : List RTerm} (h : DupAt o B l raw v W k X) {g : Nat} (hg : o g = .no) (i : Nat) (u : Value) : DupAt o B l raw v (W.setCell ⟨g, i, none⟩ u) k X :=
  ⟨h.len, h.plain, h.row.flatC flatC_rt fun b hb => heap_set_ne _ _ _ fun e => (by have := h.mine b hb; rw [e, hg] at this; cases this), h.mine,
    fun t ht => (h.posts t ht).move (fun b hlt ho => heap_set_ne _ _ _ fun e => (by rw [e, hg] at ho; rcases ho with ho | ⟨_, ho⟩ <;> cases ho)) fun _ _ => rfl, h.low, fun b hb' => h.fresh b (by simpa using hb')⟩
theorem DupAt.cell {o : Nat → Owner} {B : Nat} {l : List Ix.Term} {raw : List (Str × Value)} {v : Value} {W : World} {k : Nat} {X : List RTerm} (h : DupAt o B l raw v W k X) (hrl : raw.length = l.length) (hk : k < raw.length) :
    ∃ g c, v = .slice (some ⟨g, 0, none⟩) l.length c ∧ B ≤ g ∧ g < W.heap.size ∧ W.cell? ⟨g, k * 2 + 1, none⟩ = some raw[k].2 ∧ ∀ j, W.frozen? ⟨g, j, none⟩ = false := by
  have hP' : (X.map rt).length = k := by rw [List.length_map]; exact h.len
  have hkl : k < (X.map rt ++ raw.drop k).length := by rw [len_mid _ _ _ hP' (by omega)]; exact hk
  obtain ⟨g, c, hv, _, _, h3, h4, _, h6, _, _, h7⟩ := h.row.rtAt hkl
  rw [get_mid (X.map rt) raw k hP' hk hkl] at h6
  exact ⟨g, c, by rw [hv, len_mid _ _ _ hP' (by omega), hrl], h3, h4, h6, h7⟩
theorem DupAt.step {o o2 : Nat → Owner} {B : Nat} {l : List Ix.Term} {raw : List (Str × Value)} {v u : Value} {W W2 : World} {k g n c : Nat} {X : List RTerm} {ps : List RPost} (h : DupAt o B l raw v W k X) (hk : k < raw.length) (hkl : k < l.length) (hr : raw[k].1 = l[k].1)
    (hv : v = .slice (some ⟨g, 0, none⟩) n c) (hb : Below W.heap.size W W2) (hBW : B ≤ W.heap.size) (hu : PostsAt ixT o2 W2 W.heap.size l[k].1 u ps) (hps : ps.map pp = l[k].2) (ho : ∀ b, b < W.heap.size → o2 b = o b) (hf : ∀ b, W2.heap.size ≤ b → o2 b = .no) :
    DupAt o2 B l raw v (W2.setCell ⟨g, k * 2 + 1, none⟩ u) (k + 1) (X ++ [(raw[k].1, u, ps)]) := by
  have hP' : (X.map rt).length = k := by rw [List.length_map]; exact h.len
  have hkm : k < (X.map rt ++ raw.drop k).length := by rw [len_mid _ _ _ hP' (by omega)]; exact hk
  have hgb := slice_block hv
  have hog := h.mine g hgb
  have hgl := h.row.lt g hgb
  have own2 := h.row.ext hb
  rw [hv] at own2
  have h3 := own2.putT hkm (own_oneCell hu.row)
  rw [get_mid (X.map rt) raw k hP' hk hkm, set_mid (X.map rt) raw k hP' hk] at h3
  have hsz : (W2.setCell ⟨g, k * 2 + 1, none⟩ u).heap.size = W2.heap.size := by simp
  refine ⟨by simp [h.len], ?_, ?_, fun b hb' => ?_, fun t ht => ?_, fun b hb' => ?_, fun b hb' => ?_⟩
  · rw [List.map_append, h.plain, List.take_succ_eq_append_getElem hkl, List.map_singleton]
    congr 2
    show (raw[k].1, ps.map pp) = l[k]
    rw [hr, hps]
  · rw [List.map_append, hv]
    exact h3
  · rw [ho b (h.row.lt b hb')]
    exact h.mine b hb'
  · rcases List.mem_append.1 ht with ht | ht
    · refine (h.posts t ht).move (fun b hlt hob => ?_) ho
      rw [heap_set_ne _ _ _ fun e => by rw [e, hog] at hob; rcases hob with hob | ⟨_, hob⟩ <;> cases hob]
      exact hb.block b hlt
    · obtain rfl := List.mem_singleton.1 ht
      show PostsAt ixT o2 _ B raw[k].1 u ps
      rw [hr]
      have hm := hu.move (o' := o2) (w' := W2.setCell ⟨g, k * 2 + 1, none⟩ u) (fun b hlt hob => heap_set_ne _ _ _ fun e => by
        rw [e, ho g hgl, hog] at hob
        rcases hob with hob | ⟨_, hob⟩ <;> cases hob) fun _ _ => rfl
      exact ⟨hm.row.lower hBW, hm.mine, fun p hp => ⟨(hm.pl p hp).1.lower hBW, (hm.pl p hp).2⟩⟩
  · rw [ho b (by omega)]
    exact h.low b hb'
  · rw [hsz] at hb'
    exact hf b hb'
theorem DupAt.done {o : Nat → Owner} {B : Nat} {l : List Ix.Term} {raw : List (Str × Value)} {v : Value} {W : World} {k : Nat} {X : List RTerm} (h : DupAt o B l raw v W k X) (hk : k = l.length) (hrl : raw.length = l.length) : TreeAt ixT o W B v X ∧ X.map pt = l := by
  have h1 := h.row
  rw [List.drop_of_length_le (by omega), List.append_nil] at h1
  exact ⟨⟨h1, h.mine, h.posts, h.fresh⟩, by rw [h.plain, hk, List.take_length]⟩
/-- bounds under which an index is copied -/
structure Small (ids : List Int) (ts : List Ix.Term) : Prop where
  ids : ids.length ≤ 1000000
  terms : ts.length ≤ 1000000
  posts : ∀ t ∈ ts, t.2.length ≤ 1000000 ∧ ∀ p ∈ t.2, p.2.length ≤ 1000001
set_option maxRecDepth 20000 in
set_option maxHeartbeats 4000000 in
theorem duplicate_ok (a b : Value) (ids : List Int) (ts : List Ix.Term) (w : World) (h0 : SlR intC M0 w a ids) (h1 : SlR termC M0 w b ts) (hsm : Small ids ts) : Calls Tryz.prog 56 #[.agg #[a, b]] w fun e w' =>
    ∃ (a' b' : Value) (o : Nat → Owner) (X : List RTerm), e = .returned (.agg #[a', b']) ∧ Own intC M0 w' w.heap.size 3 a' ids ∧ (∀ g, a'.ownBlock = some g → o g = .no) ∧ TreeAt ixT o w' w.heap.size b' X ∧ X.map pt = ts ∧ (∀ g, g < w.heap.size → o g = .no) ∧ Below w.heap.size w w' := by
  obtain ⟨A0, c0, rfl, _, _⟩ := h0.form
  obtain ⟨A1, c1, rfl, _, _⟩ := h1.form
  obtain ⟨raw, hrl, hraw, hri⟩ := h1.raw
  obtain ⟨W, hW, hs, hal, kb, kf⟩ := two_new w (.slice A0 ids.length c0) (.slice A1 ts.length c1) 25 (.slice none 0 0) (.slice none 0 0) 25
  obtain ⟨g0, hg0⟩ : ∃ g, w.heap.size = g := ⟨_, rfl⟩
  obtain ⟨g1, hg1⟩ : ∃ g, w.heap.size + 1 = g := ⟨_, rfl⟩
  rw [hg1] at kf
  rw [hg0] at kb
  have Hs : Hid (w.heap.size = g0 ∧ g1 = g0 + 1 ∧ W.heap.size = g0 + 2) := Lib.hid (by omega)
  have hcI := fun W' (hb : Below W.heap.size W W') => cloneInt_ok M0 (.slice A0 ids.length c0) ids W' ((h0.ext hal).ext hb) (by have := hsm.ids; omega)
  have hcT := fun W' (hb : Below W.heap.size W W') => cloneTerm_ok M0 (.slice A1 ts.length c1) raw W' ((hraw.ext hal).ext hb) (by have := hsm.terms; omega)
  have HcI := Lib.hid hcI; have HcT := Lib.hid hcT; have HW := Lib.hid hW; have Hri := Lib.hid hri; have Hrl := Lib.hid hrl; have Hsm := Lib.hid hsm; have Hg := Lib.hid (And.intro hg0 hg1)
  have hSS : ∀ W', Below W.heap.size W W' → W'.cell? ⟨g0, 0, none⟩ = some (.slice A0 ids.length c0) ∧ W'.cell? ⟨g0, 1, none⟩ = some (.slice A1 ts.length c1) := fun W' hb => ⟨(kb.ext hb).two.1, (kb.ext hb).two.2.1⟩
  have HS := Lib.hid hSS
  have hS := HS.out _ (below_drewN' W.heap.size W 1)
  clear hcI hcT hrl hri hraw hsm hSS hW hs
  go_enter Tryz.func56, Tryz.ntmps56
  go_wp2
  rw [HW.out]
  have hg2 : g0 + 1 = g1 := by omega
  rw [hg2]
  clear HW Hg hg0 hg1 hg2
  refine wp_region_D (fun W => W.cell? ⟨g0, 0, none⟩ = some (.slice A0 ids.length c0) ∧ W.cell? ⟨g0, 1, none⟩ = some (.slice A1 ts.length c1)) (fun j => j == 7 || j == 8 || j == 9) (by kernel_rfl) ?_
  (refine anyD_light (i := 0) (v := ?_) rfl (by kernel_rfl) (by kernel_rfl) (by kernel_rfl) (by kernel_rfl) (by kernel_rfl) (fun _ _ _ h => h) (.inl ⟨by kernel_rfl, fun W9 hW9 => ?_⟩) hS ?_; rotate_left; · (obtain ⟨hw0, hw1⟩ := hW9; go_simp; rfl))
  (refine anyD_light (i := 1) (v := ?_) rfl (by kernel_rfl) (by kernel_rfl) (by kernel_rfl) (by kernel_rfl) (by kernel_rfl) (fun _ _ _ h => h) (.inl ⟨by kernel_rfl, fun W9 hW9 => ?_⟩) hS ?_; rotate_left; · (obtain ⟨hw0, hw1⟩ := hW9; go_simp; rfl))
  (refine anyD_light (i := 3) (v := ?_) rfl (by kernel_rfl) (by kernel_rfl) (by kernel_rfl) (by kernel_rfl) (by kernel_rfl) (fun _ _ _ h => h) (.inl ⟨by kernel_rfl, fun W9 hW9 => ?_⟩) hS ?_; rotate_left; · (obtain ⟨hw0, hw1⟩ := hW9; go_simp; rfl))
  (refine anyD_light (i := 4) (v := ?_) rfl (by kernel_rfl) (by kernel_rfl) (by kernel_rfl) (by kernel_rfl) (by kernel_rfl) (fun _ _ _ h => h) (.inl ⟨by kernel_rfl, fun W9 hW9 => ?_⟩) hS ?_; rotate_left; · (obtain ⟨hw0, hw1⟩ := hW9; go_simp; rfl))
  go_simp
  refine anyD_one (i := 2) (by kernel_rfl) rfl rfl (fun K hK => ?_)
  have HK := Lib.hid hK
  clear hK
  unfold Oper.wp
  go_simp
  refine (HcI.out _ (below_drewN' W.heap.size W 1)).mono ?_
  rintro e w2 ⟨a2, rfl, hoa, hb2⟩
  have hb12 : Below W.heap.size W w2 := (below_drewN' W.heap.size W 1).trans hb2
  obtain ⟨Aa, ca, rfl, _, _⟩ := hoa.shape
  have HoL : Hid (∀ b, (Value.slice Aa ids.length ca).ownBlock = some b → b < w2.heap.size) := Lib.hid hoa.lt
  clear hS
  have hS := HS.out _ hb12
  refine HK.out _ _ (fun _ => hS) ?_
  clear HK
  (refine anyD_light (i := 6) (v := ?_) rfl (by kernel_rfl) (by kernel_rfl) (by kernel_rfl) (by kernel_rfl) (by kernel_rfl) (fun _ _ _ h => h) (.inl ⟨by kernel_rfl, fun W9 hW9 => ?_⟩) hS ?_; rotate_left; · (obtain ⟨hw0, hw1⟩ := hW9; go_simp; rfl))
  go_simp
  refine anyD_one (i := 5) (by kernel_rfl) rfl rfl (fun K hK => ?_)
  have HK := Lib.hid hK
  clear hK
  unfold Oper.wp
  go_simp
  refine (HcT.out _ hb12).mono ?_
  rintro e w3 ⟨b2, rfl, hob, hb3⟩
  have hb13 : Below W.heap.size W w3 := hb12.trans (hb3.mono hb12.size)
  obtain ⟨Ab, cb, rfl, _, _⟩ := hob.shape
  clear hS
  have hS := HS.out _ hb13
  refine HK.out _ _ (fun _ => hS) ?_
  clear HK
  have hoa := hoa.ext hb3
  have kb3 := kb.ext hb13
  have kf3 := kf.ext hb13
  have hsz2 : W.heap.size ≤ w2.heap.size := hb12.size
  have hsz3 : w2.heap.size ≤ w3.heap.size := hb3.size
  rw [Hrl.out] at hob ⊢
  obtain ⟨_, _, e0, e1, _⟩ := kb3.two
  clear hS
  go_simp
  refine anyD_one (i := 7) (by kernel_rfl) rfl rfl (fun K hK => ?_)
  have HK := Lib.hid hK
  clear hK
  unfold Oper.wp
  go_simp
  refine HK.out _ _ (fun h => by cases h) ?_
  clear HK
  go_simp
  refine anyD_one (i := 8) (by kernel_rfl) rfl rfl (fun K hK => ?_)
  have HK := Lib.hid hK
  clear hK
  unfold Oper.wp
  go_simp
  refine HK.out _ _ (fun h => by cases h) ?_
  clear HK
  go_simp
  refine anyD_one (i := 9) (by kernel_rfl) rfl rfl (fun K hK => ?_)
  have HK := Lib.hid hK
  clear hK
  unfold Oper.wp
  go_simp
  refine HK.out _ _ (fun h => by cases h) ?_
  clear HK
  go_simp
  refine anyD_done (by kernel_rfl) ?_ _
  obtain ⟨W4, hW4⟩ : ∃ W4, (w3.setCell ⟨g0, 0, none⟩ (.slice Aa ids.length ca)).setCell ⟨g0, 1, none⟩ (.slice Ab ts.length cb) = W4 := ⟨_, rfl⟩
  have kb4 : Blk W4 g0 25 #[.slice Aa ids.length ca, .slice Ab ts.length cb] := hW4 ▸ ((kb3.set_ 0 _).set_ 1 _)
  have kf4 : Blk W4 g1 25 #[.slice none 0 0, .slice none 0 0] := hW4 ▸ ((kf3.far (by have := Hs.out; show g1 ≠ g0; omega) _).far (by have := Hs.out; show g1 ≠ g0; omega) _)
  have hoB := hoa.base
  have hoL := hoa.lt
  have hobB := hob.base
  have hsd : (W.drewN 1).heap.size = W.heap.size := rfl
  have hoa4 : Own intC M0 W4 W.heap.size 3 (.slice Aa ids.length ca) ids := by
    rw [← hW4]
    exact hoa.flatC flatC_int fun b hb => by
      have h5 := hoB b hb
      have h6 := Hs.out
      rw [heap_set_ne _ _ _ (by omega), heap_set_ne _ _ _ (by omega)]
  have hob4a : Own rtC M0 W4 w2.heap.size 43 (.slice Ab ts.length cb) raw := by
    rw [← hW4]
    exact hob.flatC flatC_rt fun b hb => by
      have h5 := hobB b hb
      have h6 := Hs.out
      rw [heap_set_ne _ _ _ (by omega), heap_set_ne _ _ _ (by omega)]
  have hob4 := hob4a.lower hsz2
  have hbw4 : Below w.heap.size w W4 := by
    rw [← hW4]
    exact Below.setCell (p := ⟨g0, 1, none⟩) (Below.setCell (p := ⟨g0, 0, none⟩) (hal.trans (hb13.mono hal.size)) (by have := Hs.out; show w.heap.size ≤ g0; omega) _) (by have := Hs.out; show w.heap.size ≤ g0; omega) _
  have hd0 := DupAt.start (l := ts) hob4
  have hano : ∀ g, (Value.slice Aa ids.length ca).ownBlock = some g → own1 (fun _ => .no) (Value.slice Ab ts.length cb) .top g = .no := fun g hg => own1_other fun e => by
    have h5 := hoa.lt g hg
    have h6 := hobB g e
    have h8 : g < w2.heap.size := HoL.out g hg
    omega
  have Hd0 := Lib.hid hd0; have Ha0 := Lib.hid (And.intro hoa4 hano)
  rw [hW4]
  clear hW4 kb3 kf3 hoa hob hoB hoL hobB hoa4 hob4 hob4a hd0 hano hb2 hb12 hb3 hb13 e0 e1 hsz2 hsz3 hsd kb kf HS HcI HcT HoL
  obtain ⟨t0, t1, _, _, _⟩ := kb4.two
  go_wp2
  clear t0 t1
  go_loopw [15] (fun iv wr => ∃ (k : Nat) (X : List RTerm) (o : Nat → Owner), k ≤ ts.length ∧ iv = .int .i64 (k : Int) ∧ Hid (DupAt o W.heap.size ts raw (.slice Ab ts.length cb) wr k X) ∧ Hid (Own intC M0 wr W.heap.size 3 (.slice Aa ids.length ca) ids ∧ ∀ g, (Value.slice Aa ids.length ca).ownBlock = some g → o g = .no) ∧
    Blk wr g0 25 #[.slice Aa ids.length ca, .slice Ab ts.length cb] ∧ Blk wr g1 25 #[.slice none 0 0, .slice none 0 0] ∧ Below w.heap.size w wr) (fun iv _ => ts.length - (intOf iv).toNat)
  case atStart => exact ⟨0, [], _, Nat.zero_le _, rfl, Hd0, Ha0, kb4, kf4, hbw4⟩
  case round =>
    clear kb4 kf4 hbw4 Hd0 Ha0
    obtain ⟨k, X, o, hk, rfl, hd, ha, kb, kf, hbr⟩ := hrel
    obtain ⟨t0, t1, t2, t3, _⟩ := kb.two
    have hgw := kf.lt
    by_cases hlt : k < ts.length
    · have hkr : k < raw.length := by rw [Hrl.out]; exact hlt
      obtain ⟨g, c, hv, hBg, hgl, x1, hfz⟩ := hd.out.cell Hrl.out hkr
      injection hv with hv1 hv2 hv3
      subst hv1 hv3
      obtain ⟨hr1, hr2⟩ := Hri.out k hkr hlt
      have hpb := Hsm.out.posts _ (List.getElem_mem hlt)
      have hcp := copied_ok o ts[k].1 raw[k].2 ts[k].2 (wr.drewN 1) ((hr2.ext hbr).ext (below_drewN' wr.heap.size wr 1)) (by omega) hpb.2 hd.out.fresh
      obtain ⟨pv, hpv⟩ : ∃ p, raw[k].2 = p := ⟨_, rfl⟩
      rw [hpv] at x1 hcp
      have Hcp := Lib.hid hcp; have Hfz := Lib.hid hfz; have Hg := Lib.hid (And.intro hBg hgl); have Hr1 := Lib.hid hr1
      have hSS : ∀ W', Below wr.heap.size wr W' → W'.cell? ⟨g0, 1, none⟩ = some (.slice (some ⟨g, 0, none⟩) ts.length cb) ∧ W'.cell? ⟨g, k * 2 + 1, none⟩ = some pv := fun W' hb => ⟨cell_ext hb t1, cell_ext hb x1⟩
      have HS := Lib.hid hSS
      have hS := HS.out _ (below_drewN' wr.heap.size wr 1)
      have hkil : (k : Int) < (ts.length : Int) := by omega
      have hki0 : (0 : Int) ≤ (k : Int) := by omega
      have hkm := Hsm.out.terms
      have hkiw : IntKind.i64.wrap (k : Int) = (k : Int) := IntWalk.i64_in _ (by omega)
      clear hcp hfz hSS hr1 hr2 hpb hpv hv2 t0 t1 t2 t3 x1 hBg hgl
      go_wp2
      refine wp_region_D (fun W => W.cell? ⟨g0, 1, none⟩ = some (.slice (some ⟨g, 0, none⟩) ts.length cb) ∧ W.cell? ⟨g, k * 2 + 1, none⟩ = some pv) (fun j => j == 11 || j == 12) (by kernel_rfl) ?_
      (refine anyD_light (i := 0) (v := ?_) rfl (by kernel_rfl) (by kernel_rfl) (by kernel_rfl) (by kernel_rfl) (by kernel_rfl) (fun _ _ _ h => h) (.inl ⟨by kernel_rfl, fun W9 hW9 => ?_⟩) hS ?_; rotate_left; · (obtain ⟨hw0, hw1⟩ := hW9; go_simp; rfl))
      (refine anyD_light (i := 1) (v := ?_) rfl (by kernel_rfl) (by kernel_rfl) (by kernel_rfl) (by kernel_rfl) (by kernel_rfl) (fun _ _ _ h => h) (.inl ⟨by kernel_rfl, fun W9 hW9 => ?_⟩) hS ?_; rotate_left; · (obtain ⟨hw0, hw1⟩ := hW9; go_simp; rfl))
      (refine anyD_light (i := 2) (v := ?_) rfl (by kernel_rfl) (by kernel_rfl) (by kernel_rfl) (by kernel_rfl) (by kernel_rfl) (fun _ _ _ h => h) (.inl ⟨by kernel_rfl, fun W9 hW9 => ?_⟩) hS ?_; rotate_left; · (obtain ⟨hw0, hw1⟩ := hW9; go_simp; rfl))
      (refine anyD_light (i := 3) (v := ?_) rfl (by kernel_rfl) (by kernel_rfl) (by kernel_rfl) (by kernel_rfl) (by kernel_rfl) (fun _ _ _ h => h) (.inl ⟨by kernel_rfl, fun W9 hW9 => ?_⟩) hS ?_; rotate_left; · (obtain ⟨hw0, hw1⟩ := hW9; go_simp; rfl))
      (refine anyD_light (i := 4) (v := ?_) rfl (by kernel_rfl) (by kernel_rfl) (by kernel_rfl) (by kernel_rfl) (by kernel_rfl) (fun _ _ _ h => h) (.inl ⟨by kernel_rfl, fun W9 hW9 => ?_⟩) hS ?_; rotate_left; · (obtain ⟨hw0, hw1⟩ := hW9; go_simp; rfl))
      (refine anyD_light (i := 5) (v := ?_) rfl (by kernel_rfl) (by kernel_rfl) (by kernel_rfl) (by kernel_rfl) (by kernel_rfl) (fun _ _ _ h => h) (.inl ⟨by kernel_rfl, fun W9 hW9 => ?_⟩) hS ?_; rotate_left; · (obtain ⟨hw0, hw1⟩ := hW9; go_simp; rfl))
      go_simp
      (refine anyD_light (i := 6) (v := ?_) rfl (by kernel_rfl) (by kernel_rfl) (by kernel_rfl) (by kernel_rfl) (by kernel_rfl) (fun _ _ _ h => h) (.inl ⟨by kernel_rfl, fun W9 hW9 => ?_⟩) hS ?_; rotate_left; · (obtain ⟨hw0, hw1⟩ := hW9; go_simp; rfl))
      (refine anyD_light (i := 7) (v := ?_) rfl (by kernel_rfl) (by kernel_rfl) (by kernel_rfl) (by kernel_rfl) (by kernel_rfl) (fun _ _ _ h => h) (.inl ⟨by kernel_rfl, fun W9 hW9 => ?_⟩) hS ?_; rotate_left; · (obtain ⟨hw0, hw1⟩ := hW9; go_simp; rfl))
      (refine anyD_light (i := 8) (v := ?_) rfl (by kernel_rfl) (by kernel_rfl) (by kernel_rfl) (by kernel_rfl) (by kernel_rfl) (fun _ _ _ h => h) (.inl ⟨by kernel_rfl, fun W9 hW9 => ?_⟩) hS ?_; rotate_left; · (obtain ⟨hw0, hw1⟩ := hW9; go_simp; rfl))
      go_simp
      refine anyD_one (i := 9) (by kernel_rfl) rfl rfl (fun K hK => ?_)
      have HK := Lib.hid hK
      clear hK
      unfold Oper.wp
      go_simp
      refine (Hcp.out).mono ?_
      rintro e w2 ⟨u, o2, ps, rfl, hpo, hps, hol, hof, hb2⟩
      have hb12 : Below wr.heap.size wr w2 := (below_drewN' wr.heap.size wr 1).trans hb2
      obtain ⟨Au, cu, hu0, _, _⟩ := hpo.row.shape
      rw [List.length_map] at hu0
      subst hu0
      clear hS
      have hS := HS.out _ hb12
      refine HK.out _ _ (fun _ => hS) ?_
      clear HK
      have hfz2 : w2.frozen? ⟨g, k * 2 + 1, none⟩ = false := by
        have := Hfz.out (k * 2 + 1)
        rw [← this]
        exact frozen_ext hb12 Hg.out.2 _
      obtain ⟨_, x9⟩ := hS
      have hS : w2.cell? ⟨g0, 1, none⟩ = some (.slice (some ⟨g, 0, none⟩) ts.length cb) ∧ w2.cell? ⟨g, k * 2 + 1, none⟩ = some pv := HS.out _ hb12
      (refine anyD_light (i := 10) (v := ?_) rfl (by kernel_rfl) (by kernel_rfl) (by kernel_rfl) (by kernel_rfl) (by kernel_rfl) (fun _ _ _ h => h) (.inl ⟨by kernel_rfl, fun W9 hW9 => ?_⟩) hS ?_; rotate_left; · (obtain ⟨hw0, hw1⟩ := hW9; go_simp; rfl))
      (refine anyD_light (i := 11) (v := ?_) rfl (by kernel_rfl) (by kernel_rfl) (by kernel_rfl) (by kernel_rfl) (by kernel_rfl) (fun _ _ _ h => h) (.inl ⟨by kernel_rfl, fun W9 hW9 => ?_⟩) hS ?_; rotate_left; · (obtain ⟨hw0, hw1⟩ := hW9; go_simp; rfl))
      go_simp
      refine anyD_one (i := 12) (by kernel_rfl) rfl rfl (fun K hK => ?_)
      have HK := Lib.hid hK
      clear hK
      unfold Oper.wp
      go_simp
      refine HK.out _ _ (fun h => by cases h) ?_
      clear HK
      go_simp
      refine anyD_done (by kernel_rfl) ?_ _
      have hd2 := hd.out.step (W2 := w2) hkr hlt Hr1.out rfl hb12 (by have := Hs.out; omega) hpo hps hol hof
      have hog := hd.out.mine g rfl
      have hgn : ∀ b, o b = .no → b ≠ g := fun b hb e => by rw [e, hog] at hb; cases hb
      have hlow := hd.out.low
      have ha2 : Hid (Own intC M0 (w2.setCell ⟨g, k * 2 + 1, none⟩ (.slice Au ps.length cu)) W.heap.size 3 (.slice Aa ids.length ca) ids ∧ ∀ b, (Value.slice Aa ids.length ca).ownBlock = some b → o2 b = .no) := Lib.hid ⟨ha.out.1.flatC flatC_int fun b hb => by
        rw [heap_set_ne _ _ _ (hgn b (ha.out.2 b hb))]
        exact hb12.block b (ha.out.1.lt b hb), fun b hb => by rw [hol b (ha.out.1.lt b hb)]; exact ha.out.2 b hb⟩
      have kb2 := (kb.ext hb12).far (p := ⟨g, k * 2 + 1, none⟩) (hgn g0 (hlow g0 (by have := Hs.out; omega))) (.slice Au ps.length cu)
      have kf2 := (kf.ext hb12).far (p := ⟨g, k * 2 + 1, none⟩) (hgn g1 (hlow g1 (by have := Hs.out; omega))) (.slice Au ps.length cu)
      have hbr2 := (hbr.trans (hb12.mono hbr.size)).setCell (p := ⟨g, k * 2 + 1, none⟩) (by have := Hg.out.1; have := Hs.out; show w.heap.size ≤ g; omega) (.slice Au ps.length cu)
      have Hd2 := Lib.hid hd2
      clear hd2 hd ha hpo hps hol hof hb2 hb12 hfz2 hS x9 hog hgn hlow kb kf hbr HS Hcp Hfz
      go_wp2
      go_roundw
      case rel => exact ⟨k + 1, _, o2, by omega, by go_num, Hd2, ha2, kb2, kf2, hbr2⟩
      case measure => simp [intOf]; omega
    · obtain rfl : k = ts.length := by omega
      obtain ⟨hT, hX⟩ := hd.out.done rfl Hrl.out
      obtain ⟨f0, f1, f2, f3, _⟩ := kf.two
      have hlow := hd.out.low
      have HT := Lib.hid (And.intro hT (And.intro hX hlow))
      clear hT hX hlow hd
      go_wp2
      obtain ⟨e0, e1⟩ := kf.put2 (.slice Aa ids.length ca) (.slice Ab ts.length cb)
      refine bodyPost_ret (v := .agg #[.slice Aa ids.length ca, .slice Ab ts.length cb]) (by simp [results, Tryz.results56, go_sem, e0, e1]) rfl ?_
      obtain ⟨hT, hX, hlow⟩ := HT.out
      have hn1 : o g1 = .no := hlow g1 (by have := Hs.out; omega)
      have two : ∀ b, b ≠ g1 → ((wr.setCell ⟨g1, 0, none⟩ (.slice Aa ids.length ca)).setCell ⟨g1, 1, none⟩ (.slice Ab ts.length cb)).heap[b]? = wr.heap[b]? := fun b hb => by rw [heap_set_ne _ _ _ hb, heap_set_ne _ _ _ hb]
      have hT2 := (hT.lower (B' := w.heap.size) (by have := Hs.out; omega)).move (o' := o) (w' := (wr.setCell ⟨g1, 0, none⟩ (.slice Aa ids.length ca)).setCell ⟨g1, 1, none⟩ (.slice Ab ts.length cb)) (fun b _ _ hb => two b fun e => hb (e ▸ hn1)) (fun _ _ => rfl) (fun b hb => hT.fresh b (by simpa using hb))
      exact ⟨_, _, o, X, rfl, (ha.out.1.flatC flatC_int fun b hb => two b fun e => (by have := ha.out.1.base b hb; have := Hs.out; omega)).lower (by have := Hs.out; omega), ha.out.2, hT2, hX, fun b hb => hlow b (by have := Hs.out; omega), below_set2 hbr (by have := Hs.out; omega) _ _⟩
end Go.Proofs.YtfjpedgddgbelaaGreatDoor
namespace Go.Proofs.YtfjpedgddgbelaaGreatDoor
open Go.RowKit
theorem run_append_zeros {P : Program} {w : World} {k bytes : Nat} {t e tn : TypeId} {kn : IntKind} (T : SlT P k t e bytes) (hk : 0 < k) (htn : P.underlying tn = some (.int kn)) (g o n c m : Nat) (olds : List Value) (hol : olds.length = n * k)
    (hold : ∀ (j : Nat) (u : Value), olds[j]? = some u → w.cell? ((⟨g, o, none⟩ : Addr).add j) = some u) (h0 : 0 < m) (hg : c < n + m) (hmax : n + m ≤ maxLen) (hb : (n + m) * bytes ≤ 140737488355328) :
    ∃ C cu, n + m ≤ C ∧ C ≤ maxLen ∧ cu.size = C * k ∧ cu.toList.take (n * k) = olds ∧ ∀ ty kq,
      (Builtin.append_ #[t, tn] ty #[.slice (some ⟨g, o, none⟩) n c, .int kq m]).run P w = .ok (.slice (some ⟨w.heap.size, 0, none⟩) (n + m) C) (w.drew.alloc (.cells cu e)) := by
  obtain ⟨i, z, hi, hz, h1, h2, h3⟩ := T.hi
  have hge := grownCap_ge w (n + m) c e
  refine ⟨grownCap w (n + m) c e, olds.toArray ++ Builtin.zeroCells z.cells m ++ Builtin.zeroCells z.cells (grownCap w (n + m) c e - (n + m)), hge, grownCap_le_maxLen w _ _ _ hmax, ?_, ?_, fun ty kq => ?_⟩
  · rw [Array.size_append, Array.size_append, size_zeroCells, size_zeroCells, List.size_toArray, hol, h3, ← Nat.add_mul, ← Nat.add_mul]
    congr 1; omega
  · simp only [Array.toList_append, List.append_assoc]
    rw [List.take_append_of_le_length (by omega), List.take_of_length_le (by omega)]
  · refine Lib.run_append_grow_zeros w t tn ty e i z kq kn T.ht htn hi hz _ n c olds (run_firstCells_some (w := w.drew) i.size n _ _ _ olds (by rw [h1]; exact hol) hold) m h0 (by omega) hg (by simp only [maxLen] at hmax; omega) ?_ (growslice_fits hg (by rw [h2]; exact hb))
    rw [h2]
    have : m * bytes ≤ (n + m) * bytes := Nat.mul_le_mul_right _ (by omega)
    omega
/-- What grows by one block alone, and by writes to it. -/
theorem grownBy_new {w W : World} {o : Obj} (h : W = w.drew.alloc o) : W.os = w.os ∧ W.tape = w.tape ∧ W.output = w.output ∧ w.heap.size ≤ W.heap.size ∧ ∀ k, k < w.heap.size → W.heap[k]? = w.heap[k]? := by
  subst h
  exact ⟨rfl, rfl, rfl, by show w.heap.size ≤ (w.heap.push o).size; simp, fun k hk => heap_alloc_old w.drew o hk⟩
end Go.Proofs.YtfjpedgddgbelaaGreatDoor
