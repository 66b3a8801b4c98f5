/-
  Contracts and plain facts, one after another: index.Validate; What the indexes' rows take; stem.Lower; Lists of texts: HasText; The reference's Lower and Words.
-/
import Derived.Test.YtfjpedgddgbelaaGreatDoorIxB
import Derived.Test.YtfjpedgddgbelaaGreatDoorG1
import Derived.Test.YtfjpedgddgbelaaGreatDoorG2
import Derived.Test.YtfjpedgddgbelaaGreatDoorG4
import Derived.Shelf.Strings.CaseAny
import Derived.Lib.OthersKept
import Derived.IntWalk
import Derived.Outline
namespace Go.Proofs.YtfjpedgddgbelaaGreatDoor
open Go.RowKit
set_option linter.unusedVariables false
/-- the sizes that the walk needs -/
def SzIx (ts : List Ix.Term) : Prop := ∀ t ∈ ts, t.2.length ≤ 4398046511104
theorem faultGo_at (x : Ix.Idx) (k : Nat) (hk : k < x.2.length) : Ix.faultGo x (x.2.length - k) k = if Ix.termErr x.1 x.2 k = 0 then Ix.faultGo x (x.2.length - (k + 1)) (k + 1) else (Ix.termErr x.1 x.2 k, (k : Int)) := by
  obtain ⟨f, hf⟩ : ∃ f, x.2.length - k = f + 1 := ⟨x.2.length - k - 1, by omega⟩
  rw [hf, Ix.faultGo, show x.2.length - (k + 1) = f by omega]
theorem two_new (w : World) (a b : Value) (t : TypeId) (u v : Value) (t' : TypeId) : ∃ W, (w.alloc (.cells #[a, b] t)).alloc (.cells #[u, v] t') = W ∧ W.heap.size = w.heap.size + 2 ∧ Below w.heap.size w W ∧ Blk W w.heap.size t #[a, b] ∧ Blk W (w.heap.size + 1) t' #[u, v] := by
  refine ⟨_, rfl, by simp, ((Below.refl _ _).alloc (Nat.le_refl _) _).alloc (by simp) _, (Blk.new w _ _).alloc _, ?_⟩
  have := Blk.new (w.alloc (.cells #[a, b] t)) t' #[u, v]
  simpa using this
set_option maxRecDepth 20000 in
set_option maxHeartbeats 4000000 in
theorem validate_ok (a b : Value) (ids : List Int) (ts : List Ix.Term) (w : World) (h0 : SlR intC M0 w a ids) (h1 : SlR termC M0 w b ts) (hsz : SzIx ts) :
    Calls Tryz.prog 20 #[.agg #[a, b]] w fun e w' => e = .returned (.agg #[.int .i64 (Ix.indexF (ids, ts)).1, .int .i64 (Ix.indexF (ids, ts)).2]) ∧ Below w.heap.size w w' := by
  obtain ⟨A0, c0, rfl, _, _⟩ := h0.form
  obtain ⟨A1, c1, rfl, _, _⟩ := h1.form
  obtain ⟨hl01, hl02⟩ := h0.lenM
  obtain ⟨hl11, hl12⟩ := h1.lenM
  obtain ⟨W, hW, hs, hal, kb, kf⟩ := two_new w (.slice A0 ids.length c0) (.slice A1 ts.length c1) 25 (.int .i64 0) (.int .i64 0) 27
  have hF : Ix.indexF (ids, ts) = if 300 < ids.length then (2, -1) else if Ix.rising ids 1 = false then (19, -1) else if 1000000 < ts.length then (2, -2) else Ix.faultGo (ids, ts) ts.length 0 := rfl
  have HF := Lib.hid hF
  have hfc := fun a b W => fault_ok a b W
  have hno := fun W => none_ok W
  have Hfc := Lib.hid hfc; have Hno := Lib.hid hno
  obtain ⟨g, hg⟩ : ∃ g, w.heap.size + 1 = g := ⟨_, rfl⟩
  have Hg : Hid (w.heap.size ≤ g) := Lib.hid (by omega)
  have HW := Lib.hid hW; have Hs := Lib.hid (And.intro hs hg)
  have q := kb.two
  obtain ⟨q0, q1, _, _, _⟩ := q
  rw [← hW] at q0 q1
  rw [hg] at kf
  clear hF hfc hno hW hs hg
  -- what a fault leaves
  have fin : ∀ (x y : Int) (W1 : World) (r : Ix.indexF (ids, ts) = (x, y)), Blk W1 g 27 #[.int .i64 0, .int .i64 0] → Below w.heap.size w W1 → True := fun _ _ _ _ _ _ => trivial
  clear fin
  by_cases h300 : 300 < ids.length
  · have hq : Ix.indexF (ids, ts) = (2, -1) := by rw [HF.out, if_pos h300]
    rw [hq]
    have hd : decide ((300 : Int) < (ids.length : Int)) = true := by simp; omega
    clear hq
    go_enter Tryz.func20, Tryz.ntmps20
    go_wp2_with fail
    rw [HW.out, Hs.out.2]
    refine (Hfc.out 2 (-1) _).mono ?_
    rintro e w1 ⟨rfl, hb⟩
    have k1 := kf.ext hb
    have hbw := hal.trans (hb.mono hal.size)
    obtain ⟨c0, c1, z0, z1, hlt⟩ := k1.two
    clear q0 q1
    go_wp2
    obtain ⟨e0, e1⟩ := k1.put2 (.int .i64 2) (.int .i64 (-1))
    exact bodyPost_ret (v := .agg #[.int .i64 2, .int .i64 (-1)]) (by simp [results, Tryz.results20, go_sem, e0, e1]) rfl ⟨rfl, below_set2 hbw Hg.out _ _⟩
  have hd300 : decide ((300 : Int) < (ids.length : Int)) = false := by simp; omega
  have hris := rising_ok M0 _ ids 1 W (h0.ext hal)
  by_cases hr : Ix.rising ids 1 = false
  · have hq : Ix.indexF (ids, ts) = (19, -1) := by rw [HF.out, if_neg h300, if_pos hr]
    rw [hq]
    rw [hr] at hris
    have Hris := Lib.hid hris
    clear hq hris hr
    go_enter Tryz.func20, Tryz.ntmps20
    go_wp2_with fail
    rw [HW.out, Hs.out.2]
    refine Hris.out.mono ?_
    rintro e w1 ⟨rfl, rfl⟩
    clear q0 q1
    go_wp2_with fail
    refine (Hfc.out 19 (-1) _).mono ?_
    rintro e w1 ⟨rfl, hb⟩
    have k1 := kf.ext hb
    have hbw := hal.trans (hb.mono hal.size)
    obtain ⟨c0, c1, z0, z1, hlt⟩ := k1.two
    go_wp2
    obtain ⟨e0, e1⟩ := k1.put2 (.int .i64 19) (.int .i64 (-1))
    exact bodyPost_ret (v := .agg #[.int .i64 19, .int .i64 (-1)]) (by simp [results, Tryz.results20, go_sem, e0, e1]) rfl ⟨rfl, below_set2 hbw Hg.out _ _⟩
  have hr' : Ix.rising ids 1 = true := by simpa using hr
  have hsrt := ((Ix.rising_iff _ _).1 hr').1
  rw [hr'] at hris
  have Hris := Lib.hid hris; have Hsrt := Lib.hid hsrt
  clear hris hsrt
  obtain ⟨t0, t1, _, _, _⟩ := kb.two
  by_cases hm : 1000000 < ts.length
  · have hq : Ix.indexF (ids, ts) = (2, -2) := by rw [HF.out, if_neg h300, if_neg hr, if_pos hm]
    rw [hq]
    have hd : decide ((1000000 : Int) < (ts.length : Int)) = true := by simp; omega
    clear hq hr hr'
    go_enter Tryz.func20, Tryz.ntmps20
    go_wp2_with fail
    rw [HW.out, Hs.out.2]
    refine Hris.out.mono ?_
    rintro e w1 ⟨rfl, rfl⟩
    clear q0 q1
    go_wp2_with fail
    refine (Hfc.out 2 (-2) _).mono ?_
    rintro e w1 ⟨rfl, hb⟩
    have k1 := kf.ext hb
    have hbw := hal.trans (hb.mono hal.size)
    obtain ⟨c0, c1, z0, z1, hlt⟩ := k1.two
    go_wp2
    obtain ⟨e0, e1⟩ := k1.put2 (.int .i64 2) (.int .i64 (-2))
    exact bodyPost_ret (v := .agg #[.int .i64 2, .int .i64 (-2)]) (by simp [results, Tryz.results20, go_sem, e0, e1]) rfl ⟨rfl, below_set2 hbw Hg.out _ _⟩
  have hdm : decide ((1000000 : Int) < (ts.length : Int)) = false := by simp; omega
  obtain ⟨fa, fb, hfab⟩ : ∃ fa fb, Ix.faultGo (ids, ts) ts.length 0 = (fa, fb) := ⟨_, _, rfl⟩
  have hq : Ix.indexF (ids, ts) = (fa, fb) := by rw [HF.out, if_neg h300, if_neg hr, if_neg hm, hfab]
  rw [hq]
  have Hst : Hid (Ix.faultGo (ids, ts) (ts.length - 0) 0 = (fa, fb)) := Lib.hid hfab
  have hbr := Below.refl W.heap.size W
  clear hq hfab hr hr' HF
  go_enter Tryz.func20, Tryz.ntmps20
  go_wp2_with fail
  rw [HW.out, Hs.out.2]
  refine Hris.out.mono ?_
  rintro e w1 ⟨rfl, rfl⟩
  clear q0 q1
  go_wp2
  clear t0 t1
  go_loopw [26] (fun iv wr => ∃ k : Nat, k ≤ ts.length ∧ iv = .int .i64 (k : Int) ∧ Hid (Ix.faultGo (ids, ts) (ts.length - k) k = (fa, fb)) ∧ Below W.heap.size W wr) (fun iv _ => ts.length - (intOf iv).toNat)
  case atStart => exact ⟨0, Nat.zero_le _, rfl, Hst, hbr⟩
  case round =>
    clear hbr
    obtain ⟨k, hk, rfl, hst, hbr⟩ := hrel
    obtain ⟨t0, t1, _, _, _⟩ := (kb.ext hbr).two
    have kf := kf.ext hbr
    have hbw := hal.trans (hbr.mono hal.size)
    by_cases hlt : k < ts.length
    · have hgo := faultGo_at (ids, ts) k hlt
      have htm := term_ok (.slice A0 ids.length c0) (.slice A1 ts.length c1) ids ts k wr ((h0.ext hal).ext hbr) ((h1.ext hal).ext hbr) hlt Hsrt.out (by omega) (hsz _ (List.getElem_mem hlt))
      rw [hst.out] at hgo
      dsimp only at hgo
      obtain ⟨ec, hec⟩ : ∃ ec, Ix.termErr ids ts k = ec := ⟨_, rfl⟩
      rw [hec] at hgo htm
      have Htm := Lib.hid htm; have Hgo := Lib.hid hgo
      clear htm hgo hec hst
      have hkw : IntKind.i64.wrap (k : Int) = (k : Int) := IntWalk.i64_in _ (by omega)
      go_wp2_with fail
      refine Htm.out.mono ?_
      rintro e w2 ⟨rfl, hb2⟩
      have kf := kf.ext hb2
      have hbr := hbr.trans (hb2.mono hbr.size)
      have hbw := hbw.trans (hb2.mono hbw.size)
      clear t0 t1 Htm hb2
      by_cases he : ec = 0
      · have hst2 : Hid (Ix.faultGo (ids, ts) (ts.length - (k + 1)) (k + 1) = (fa, fb)) := Lib.hid (by rw [Hgo.out, if_pos he])
        subst he
        clear Hgo
        go_wp2
        go_roundw
        case rel => exact ⟨k + 1, by omega, by go_num, hst2, hbr⟩
        case measure => simp [intOf]; omega
      · have hfe := Hgo.out
        rw [if_neg he] at hfe
        injection hfe with e1 e2
        subst e1 e2
        have heb : (fa != 0) = true := by simpa using he
        clear Hgo he
        go_wp2_with fail
        refine (Hfc.out fa (k : Int) _).mono ?_
        rintro e w1 ⟨rfl, hb⟩
        have k1 := kf.ext hb
        have hbw := hbw.trans (hb.mono hbw.size)
        obtain ⟨c0, c1, z0, z1, hlt⟩ := k1.two
        go_wp2
        obtain ⟨e0, e1⟩ := k1.put2 (.int .i64 fa) (.int .i64 (k : Int))
        exact bodyPost_ret (v := .agg #[.int .i64 fa, .int .i64 (k : Int)]) (by simp [results, Tryz.results20, go_sem, e0, e1]) rfl ⟨rfl, below_set2 hbw Hg.out _ _⟩
    · obtain rfl : k = ts.length := by omega
      have hst2 := hst.out
      rw [Nat.sub_self, Ix.faultGo] at hst2
      injection hst2 with e1 e2
      subst e1 e2
      clear hst
      go_wp2_with fail
      refine (Hno.out _).mono ?_
      rintro e w1 ⟨rfl, hb⟩
      have k1 := kf.ext hb
      have hbw := hbw.trans (hb.mono hbw.size)
      obtain ⟨c0, c1, z0, z1, hlt⟩ := k1.two
      clear t0 t1
      go_wp2
      obtain ⟨e0, e1⟩ := k1.put2 (.int .i64 0) (.int .i64 0)
      exact bodyPost_ret (v := .agg #[.int .i64 0, .int .i64 0]) (by simp [results, Tryz.results20, go_sem, e0, e1]) rfl ⟨rfl, below_set2 hbw Hg.out _ _⟩
end Go.Proofs.YtfjpedgddgbelaaGreatDoor
namespace Go.Proofs.YtfjpedgddgbelaaGreatDoor
open Go.ChangeShapes Go.WideShapes Go.ChangeAt Go.RowKit
theorem rInt : ReadsS Tryz.prog 3 intC (fun _ => 1) (fun _ => True) := (reads_int Tryz.underlying3 (by kernel_rfl)).sized
def szInts (l : List Int) : Prop := l.length * Tryz.prog.bytesOf 3 ≤ reachBytes ∧ ∀ a ∈ l, True
def bkInts (l : List Int) : Nat := 1 + (l.map fun _ => 1).sum
theorem rInts : ReadsS Tryz.prog 22 (sliceC intC) bkInts szInts := readsS_slice rInt Tryz.underlying22 (by kernel_rfl)
def szPost (p : Ix.Post) : Prop := True ∧ szInts p.2
def bkPost (p : Ix.Post) : Nat := 1 + bkInts p.2
theorem rPost : ReadsS Tryz.prog 96 postC bkPost szPost := by
  refine readsS_struct2 (C := intC) (D := sliceC intC) (φ := fun _ => True) (ψ := szInts) (bc := fun _ => 1) (bd := bkInts) ?_ ?_ Tryz.underlying96 (by kernel_rfl) rfl rfl
  · exact rInt
  · exact rInts
def szPosts (l : List Ix.Post) : Prop := l.length * Tryz.prog.bytesOf 96 ≤ reachBytes ∧ ∀ a ∈ l, szPost a
def bkPosts (l : List Ix.Post) : Nat := 1 + (l.map bkPost).sum
theorem rPosts : ReadsS Tryz.prog 31 (sliceC postC) bkPosts szPosts := readsS_slice rPost Tryz.underlying31 (by kernel_rfl)
def szStr (s : Str) : Prop := s.length ≤ reachBytes
def bkStr (s : Str) : Nat := s.length + 1
theorem rStr : ReadsS Tryz.prog 9 strC bkStr szStr := readsS_string Tryz.underlying9 (by kernel_rfl)
def szTerm (t : Ix.Term) : Prop := szStr t.1 ∧ szPosts t.2
def bkTerm (t : Ix.Term) : Nat := bkStr t.1 + bkPosts t.2
theorem rTerm : ReadsS Tryz.prog 43 termC bkTerm szTerm := by
  refine readsS_struct2 (C := strC) (D := sliceC postC) (φ := szStr) (ψ := szPosts) (bc := bkStr) (bd := bkPosts) ?_ ?_ Tryz.underlying43 (by kernel_rfl) rfl rfl
  · exact rStr
  · exact rPosts
def szTerms (l : List Ix.Term) : Prop := l.length * Tryz.prog.bytesOf 43 ≤ reachBytes ∧ ∀ a ∈ l, szTerm a
def bkTerms (l : List Ix.Term) : Nat := 1 + (l.map bkTerm).sum
theorem rTerms : ReadsS Tryz.prog 23 (sliceC termC) bkTerms szTerms := readsS_slice rTerm Tryz.underlying23 (by kernel_rfl)
def idxC : Codec Ix.Idx := pairC (sliceC intC) (sliceC termC)
def szIdx (x : Ix.Idx) : Prop := szInts x.1 ∧ szTerms x.2
def bkIdx (x : Ix.Idx) : Nat := bkInts x.1 + bkTerms x.2
theorem rIdx : ReadsS Tryz.prog 25 idxC bkIdx szIdx := by
  refine readsS_struct2 (C := sliceC intC) (D := sliceC termC) (φ := szInts) (ψ := szTerms) (bc := bkInts) (bd := bkTerms) ?_ ?_ Tryz.underlying25 (by kernel_rfl) rfl rfl
  · exact rInts
  · exact rTerms
theorem szIdx_sz {x : Ix.Idx} (h : szIdx x) : SzIx x.2 := fun t ht => by
  have h1 := (h.2.2 t ht).2.1
  rw [(by kernel_rfl : Tryz.prog.bytesOf 96 = 32)] at h1
  unfold reachBytes at h1
  omega
theorem idx_of_rd {M : Nat → Prop} {w : World} {a : Array Value} {x : Ix.Idx} (h : idxC.rd M w (Value.agg a).cells.toList x) : ∃ u v, Value.agg a = .agg #[u, v] ∧ SlR intC M w u x.1 ∧ SlR termC M w v x.2 := by
  obtain ⟨c, d, e, ⟨u, rfl, hu⟩, v, rfl, hv⟩ := h
  refine ⟨u, v, ?_, hu, hv⟩
  have h1 : a.toList = [u, v] := e
  rw [← Array.toArray_toList (xs := a), h1]
end Go.Proofs.YtfjpedgddgbelaaGreatDoor
namespace Go.Proofs.YtfjpedgddgbelaaGreatDoor
open Go.RowKit
set_option linter.unusedVariables false
theorem own_cells {w : World} {B : Nat} {e : TypeId} {v : Value} {l : List UInt8} (h : w.ownsRow B e 1 v l.length (Lib.byteCells l)) : Own byteC M0 w B e v l :=
  ⟨_, h, lit_bytes _ _ l⟩
theorem cells_own {w : World} {B : Nat} {e : TypeId} {v : Value} {l : List UInt8} (h : Own byteC M0 w B e v l) : w.ownsRow B e 1 v l.length (Lib.byteCells l) := by
  obtain ⟨xs, ho, he⟩ := h
  have hx : xs = Lib.byteCells l := by
    have h1 : xs.length = l.length := by rw [he.1]; simp [byteC]
    apply List.ext_getElem
    · rw [h1]; simp [Lib.byteCells]
    · intro i h2 h3
      have hi : i < l.length := by omega
      have hr := he.2 i hi
      have hr' : (xs.drop (i * 1)).take 1 = [Value.int .u8 (l[i].toNat : Int)] := hr
      rw [Nat.mul_one] at hr'
      have h4 := congrArg (fun z => z[0]?) hr'
      simp only [List.getElem?_take, List.getElem?_drop, Nat.add_zero, List.getElem?_eq_getElem h2] at h4
      simp at h4
      rw [h4]
      simp [Lib.byteCells]
  exact hx ▸ ho
theorem appendRune_ok (B : Nat) (v : Value) (L : Str) (r : Int) (h0 : -2147483648 ≤ r) (h1 : r ≤ 2147483647) (w : World) (hown : Own byteC M0 w B 5 v L) (hlen : L.length + 4 ≤ 140737488355328) (hB : B ≤ w.heap.size) :
    Calls Tryz.prog 121 #[v, .int .i32 r] w fun e w' => ∃ (A : Option Addr) (c : Nat) (L' : Str), e = .returned (.slice A L'.length c) ∧ Hid (L' = L ++ Lib.encodeRune r) ∧ Own byteC M0 w' B 5 (.slice A L'.length c) L' ∧
      Hid (∀ b, b < w.heap.size → some b ≠ v.ownBlock → w'.heap[b]? = w.heap[b]?) ∧ Below B w w' := by
  refine (Tryz.utf8_AppendRune_plain B v L.length (Lib.byteCells L) r h0 h1 w (cells_own hown) hlen hB).mono ?_
  rintro e w' ⟨v', rfl, ho, o, hg⟩
  have hl : L.length + (Lib.runeCells r).length = (L ++ Lib.encodeRune r).length := by rw [List.length_append, Lib.runeCells_length]
  rw [← Lib.byteCells_encodeRune, ← Lib.byteCells_append] at ho
  rw [Lib.byteCells_encodeRune, hl] at ho
  have hO := own_cells ho
  obtain ⟨A, c, rfl, _⟩ := hO.shape
  refine ⟨A, c, _, rfl, Lib.hid rfl, hO, Lib.hid fun b hb hne => ?_, ?_⟩
  · exact (hg.block b (by simp; omega) hne).trans (Below.heap_alloc w o b hb)
  · exact ((Below.refl B w).alloc hB o).grown hg (by simp; omega) fun k hk => hown.base k hk
theorem drop_ne {s : Str} {p : Nat} (h : p < s.length) : s.drop p ≠ [] := by
  intro h0
  have := congrArg List.length h0
  rw [List.length_drop] at this
  simp at this
  omega
set_option maxHeartbeats 2000000 in
theorem stemLower_ok (s : Str) (hs : s.length ≤ 4000000) (w : World) (hT : TabsU w) : Calls Tryz.prog 67 #[.string (bs s)] w fun e w' => e = .returned (.string (bs (Sm.lower s))) ∧ Below w.heap.size w w' := by
  have hlen := Sm.lower_len s.length s (Nat.le_refl _)
  have HT := Lib.hid hT
  clear hT
  go_enter Tryz.func67, Tryz.ntmps67
  go_wp2
  go_loopw [3] (fun v wr => ∃ (pos : Nat) (A : Option Addr) (c : Nat) (L : Str), v = .slice A L.length c ∧ pos ≤ s.length ∧ wr.heap[w.heap.size]? = some (.stringIter (bs s) pos) ∧ Own byteC M0 wr (w.heap.size + 1) 5 (.slice A L.length c) L ∧ Hid (L ++ Sm.lower (s.drop pos) = Sm.lower s) ∧ Below w.heap.size w wr) (fun _ wr => s.length - wr.iterPos w.heap.size)
  case atStart =>
    refine ⟨0, none, 0, [], rfl, Nat.zero_le _, ?_, Own.nil _ _ _ _ _, Lib.hid (by simp), ?_⟩
    · exact heap_alloc_new w _
    · exact (Below.refl _ _).alloc (Nat.le_refl _) _
  case round =>
    obtain ⟨pos, A, c, L, rfl, hpos, hit, hown, hL, hb⟩ := hrel
    have hpp0 := Lib.hid (iterPos_of hit)
    by_cases hp : pos < s.length
    · have hne := drop_ne hp
      have hst := Sm.lower_step hne
      have hdl := Lib.decodeL_drop (bs s) pos
      rw [bs_toList] at hdl
      have hw1 := Lib.decodeL_width (s.drop pos)
      have hw2 := Sm.width_le hne
      have hr := Lib.decodeL_rune (s.drop pos)
      rw [List.length_drop] at hw2
      have hnx := fun ty => Lib.run_next_any_at (P := Tryz.prog) wr w.heap.size (bs s) pos ty hit (by rw [bs_size]; exact hp)
      rw [← hdl] at hnx
      rw [List.drop_drop] at hst
      obtain ⟨r, hrr⟩ : ∃ r, (Lib.decodeL (s.drop pos)).1 = r := ⟨_, rfl⟩
      obtain ⟨n, hnn⟩ : ∃ n, (Lib.decodeL (s.drop pos)).2 = n := ⟨_, rfl⟩
      rw [hrr] at hst hr hnx
      rw [hnn] at hst hw1 hw2 hnx
      have hrg := Lib.toLowerU_range r hr
      have hlc : (L ++ Lib.encodeRune (Lib.toLowerU (r : Int))) ++ Sm.lower (s.drop (pos + n)) = Sm.lower s := by rw [← hL.out, hst, List.append_assoc]; rfl
      have hll : L.length + (Lib.encodeRune (Lib.toLowerU (r : Int))).length ≤ 16000000 := by
        have := congrArg List.length hlc
        rw [List.length_append, List.length_append] at this
        omega
      have hla : L.length + 4 ≤ 140737488355328 := by omega
      have Hlc := Lib.hid hlc
      clear hlc hst hdl hrr hnn hne
      have hit2 := Lib.iterAt_heap wr w.heap.size (bs s) pos (pos + n) hit
      have hb2 := Lib.below_iterAt hb (Nat.le_refl _) (bs s) (pos + n)
      have hsz := hb.size
      have hlt := (Array.getElem?_eq_some_iff.1 hit).1
      have hsz2 := Lib.iterAt_size wr w.heap.size (bs s) (pos + n)
      have hown2 : Own byteC M0 (wr.iterAt w.heap.size (bs s) (pos + n)) (w.heap.size + 1) 5 (.slice A L.length c) L := own_cells ((cells_own hown).kept (row := some w.heap.size)
        ⟨rfl, rfl, rfl, by rw [hsz2]; exact Nat.le_refl _, fun k hk hne => Lib.iterAt_other _ _ _ _ _ (fun e => hne (by rw [e]))⟩ (.inr fun e => by have := hown.base _ e; omega))
      obtain ⟨W, hW⟩ : ∃ W, wr.iterAt w.heap.size (bs s) (pos + n) = W := ⟨_, rfl⟩
      rw [hW] at hnx hit2 hb2 hown2 hsz2
      have HW := Lib.hid hW
      clear hW hown hb hit
      have hT := HT.out.ext hb2
      have hlow := Tryz.unicode_ToLower_laid (r : Int) W hT.case
      have Hlow := Lib.hid hlow
      clear hlow hT
      go_wp2_with fail
      refine Hlow.out.mono ?_
      rintro e w1 ⟨rfl, q, hw1q⟩
      have hbq : Below W.heap.size W w1 := hw1q ▸ below_drewN' _ _ _
      have hown3 := hown2.ext hbq
      have hit3 := (hbq.block _ (by omega)).trans hit2
      have hb3 := hb2.trans (hbq.mono (by omega))
      have hsz3 := hbq.size
      clear hw1q hown2 hit2 hb2 hbq
      have happ := appendRune_ok (w.heap.size + 1) _ L (Lib.toLowerU (r : Int)) (by omega) (by omega) w1 hown3 hla (by omega)
      generalize Lib.toLowerU (r : Int) = z at happ Hlc hll ⊢
      have Happ := Lib.hid happ
      have hnb : some w.heap.size ≠ (Value.slice A L.length c).ownBlock := fun e => by have := hown3.base _ e.symm; omega
      clear happ hown3
      go_wp2_with fail
      refine Happ.out.mono ?_
      rintro e w2 ⟨A2, c2, L2, rfl, hL2, hown4, hold, hb4⟩
      have hit4 := (hold.out _ (by omega) hnb).trans hit3
      have hb5 := hb3.trans (hb4.mono (by omega))
      have hpp := iterPos_of hit4
      clear Happ hold hb4 hit3
      go_wp2
      go_roundw
      case rel => exact ⟨pos + n, A2, c2, L2, rfl, by omega, hit4, hown4, Lib.hid (by rw [hL2.out, Hlc.out]), hb5⟩
      case measure => rw [hpp, hpp0.out]; omega
    · have hnx := fun ty => Lib.run_next_end_at (P := Tryz.prog) wr w.heap.size (bs s) pos ty hit (by rw [bs_size]; exact hp)
      have hres : L = Sm.lower s := by rw [← hL.out, List.drop_eq_nil_of_le (by omega), Sm.lower_nil, List.append_nil]
      have hcv := run_convert_SlR (P := Tryz.prog) (dst := 9) Tryz.underlying154 Tryz.underlying5 Tryz.underlying9 hown.read0
      have Hres := Lib.hid hres
      clear hres
      go_wp2
      go_ret
      exact ⟨ret_str (by rw [Hres.out]), hb⟩
end Go.Proofs.YtfjpedgddgbelaaGreatDoor
namespace Go.Proofs.YtfjpedgddgbelaaGreatDoor
open Go.RowKit

def strOf : Value → Str
  | .string b => b.data.toList
  | _ => []
theorem anyL_true {α : Type} (s : List α) (p : α → Bool) (i : Nat) (hi : i < s.length) (h : p s[i] = true) : s.any p = true := by
  rw [List.any_eq_true]
  exact ⟨_, List.getElem_mem hi, h⟩
theorem any_true (s : List Str) (p : Str → Bool) (i : Nat) (hi : i < s.length) (h : p s[i] = true) : s.any p = true := by
  rw [List.any_eq_true]
  exact ⟨_, List.getElem_mem hi, h⟩
theorem any_false {α : Type} (s : List α) (p : α → Bool) (h : ∀ (i : Nat) (hi : i < s.length), p s[i] = false) : s.any p = false := by
  rw [List.any_eq_false]
  intro x hx
  obtain ⟨i, hi, rfl⟩ := List.mem_iff_getElem.1 hx
  rw [h i hi]; simp

set_option maxHeartbeats 400000 in
theorem hasText_ok (M : Nat → Prop) (v : Value) (l : List Str) (s : Str) (w : World) (h : SlR strC M w v l) : Calls Tryz.prog 73 #[v, .string (bs s)] w fun e w' => e = .returned (.bool (l.any (· == s))) ∧ w = w' := by
  obtain ⟨A, c, rfl, _, hcm⟩ := h.form
  have hn := h.len_le
  unfold maxLen at hn
  go_enter Tryz.func73, Tryz.ntmps73
  go_wp2
  go_loop [5] (fun i => ∃ k : Nat, k ≤ l.length ∧ i = .int .i64 k ∧ Hid (∀ (j : Nat) (hj : j < l.length), j < k → (l[j] == s) = false)) (fun i => l.length - (intOf i).toNat)
  case atStart => exact ⟨0, Nat.zero_le _, rfl, Lib.hid fun j _ h => absurd h (by omega)⟩
  case round =>
    obtain ⟨k, hk, rfl, hpre⟩ := hrel
    by_cases hlt : k < l.length
    · obtain ⟨b, off, rfl, _, _, hcell, _⟩ := h.strAt hlt
      obtain ⟨x, hx⟩ : ∃ x, x = l[k] := ⟨_, rfl⟩
      rw [← hx] at hcell
      have Hx := Lib.hid hx
      clear hx
      cases ht : (x == s) with
      | true =>
        go_wp2
        go_ret
        exact ⟨ret_bool (by rw [any_true l (· == s) k hlt (by rw [← Hx.out]; exact ht)]), rfl⟩
      | false =>
        go_wp2
        go_round
        case rel => exact ⟨k + 1, by omega, by go_num, Lib.hid fun j hj hjk => by
          by_cases e : j = k
          · subst e; rw [← Hx.out]; exact ht
          · exact hpre.out j hj (by omega)⟩
        case measure => simp [intOf]; omega
    · go_wp2
      go_ret
      exact ⟨ret_bool (by rw [any_false l (· == s) fun i hi => hpre.out i hi (by omega)]), rfl⟩
end Go.Proofs.YtfjpedgddgbelaaGreatDoor
namespace Go.Proofs.YtfjpedgddgbelaaGreatDoor
open Go.RowKit
set_option linter.unusedVariables false
theorem encode_bs (z : Int) : Utf8.encode z = bs (Lib.encodeRune z) := by
  have hb : ∀ (a : Int) (b : Nat), a = (b : Int) → a.toNat.toUInt8 = UInt8.ofNat b := fun a b h => by subst h; simp
  unfold bs Lib.encodeRune
  by_cases h1 : 0 ≤ z ∧ z ≤ 127
  · rw [Lib.encodeRuneZ_one h1.1 h1.2]
    obtain ⟨c, rfl⟩ : ∃ c : Nat, z = (c : Int) := ⟨z.toNat, by omega⟩
    have hv : Utf8.valid (c : Int) = true := by simp [Utf8.valid]; omega
    simp [Utf8.encode, hv, show c < 128 by omega]
  · by_cases h2 : 128 ≤ z ∧ z ≤ 2047
    · rw [Lib.encodeRuneZ_two h2.1 h2.2]
      obtain ⟨c, rfl⟩ : ∃ c : Nat, z = (c : Int) := ⟨z.toNat, by omega⟩
      have hv : Utf8.valid (c : Int) = true := by simp [Utf8.valid]; omega
      simp only [Utf8.encode, hv, if_true, Int.toNat_natCast]
      rw [if_neg (by omega), if_pos (by omega)]
      simp only [List.map_cons, List.map_nil, hb (192 + (c : Int) / 64) (192 + c / 64) (by omega), hb (128 + (c : Int) % 64) (128 + c % 64) (by omega)]
    · by_cases h3 : (2048 ≤ z ∧ z < 55296) ∨ (57343 < z ∧ z ≤ 65535)
      · rw [Lib.encodeRuneZ_three h3]
        obtain ⟨c, rfl⟩ : ∃ c : Nat, z = (c : Int) := ⟨z.toNat, by omega⟩
        have hv : Utf8.valid (c : Int) = true := by simp [Utf8.valid]; omega
        simp only [Utf8.encode, hv, if_true, Int.toNat_natCast]
        rw [if_neg (by omega), if_neg (by omega), if_pos (by omega)]
        simp only [List.map_cons, List.map_nil, hb (224 + (c : Int) / 4096) (224 + c / 4096) (by omega), hb (128 + (c : Int) / 64 % 64) (128 + c / 64 % 64) (by omega), hb (128 + (c : Int) % 64) (128 + c % 64) (by omega)]
      · by_cases h4 : 65536 ≤ z ∧ z ≤ 1114111
        · rw [Lib.encodeRuneZ_four h4.1 h4.2]
          obtain ⟨c, rfl⟩ : ∃ c : Nat, z = (c : Int) := ⟨z.toNat, by omega⟩
          have hv : Utf8.valid (c : Int) = true := by simp [Utf8.valid]; omega
          simp only [Utf8.encode, hv, if_true, Int.toNat_natCast]
          rw [if_neg (by omega), if_neg (by omega), if_neg (by omega)]
          simp only [List.map_cons, List.map_nil, hb (240 + (c : Int) / 262144) (240 + c / 262144) (by omega), hb (128 + (c : Int) / 4096 % 64) (128 + c / 4096 % 64) (by omega), hb (128 + (c : Int) / 64 % 64) (128 + c / 64 % 64) (by omega), hb (128 + (c : Int) % 64) (128 + c % 64) (by omega)]
        · rw [Lib.encodeRuneZ_bad (by omega)]
          have hv : Utf8.valid z = false := by simp [Utf8.valid]; omega
          simp [Utf8.encode, hv, Utf8.runeError]
set_option maxHeartbeats 2000000 in
theorem refLower_ok (s : Str) (hs : s.length ≤ 4000000) (w : World) (hT : TabsU w) : Calls Tryz.prog 27 #[.string (bs s)] w fun e w' => e = .returned (.string (bs (Sm.lower s))) ∧ Below w.heap.size w w' := by
  have hlen := Sm.lower_len s.length s (Nat.le_refl _)
  have HT := Lib.hid hT
  clear hT
  obtain ⟨res, hres⟩ : ∃ r, Sm.lower s = r := ⟨_, rfl⟩
  rw [hres] at hlen ⊢
  have Hres := Lib.hid hres
  clear hres
  go_enter Tryz.func27, Tryz.ntmps27
  go_wp2
  go_loopw [0, 3] (fun t o wr => ∃ (l L : Str), t = .string (bs l) ∧ o = .string (bs L) ∧ l.length ≤ s.length ∧ Hid (L ++ Sm.lower l = res) ∧ Below w.heap.size w wr) (fun t _ _ => (strOf t).length)
  case atStart => exact ⟨s, [], rfl, rfl, Nat.le_refl _, Lib.hid (by rw [List.nil_append, Hres.out]), Below.refl _ _⟩
  case round =>
    obtain ⟨l, L, rfl, rfl, hl, hL, hb⟩ := hrel
    by_cases hne : l = []
    · subst hne
      have hr : res = L := by rw [← hL.out, Sm.lower_nil, List.append_nil]
      have Hr := Lib.hid hr
      clear hr
      go_wp2
      go_ret
      exact ⟨ret_str (by rw [Hr.out]), hb⟩
    · have hpos := List.length_pos_iff.2 hne
      have hst := Sm.lower_step hne
      have hw1 := Lib.decodeL_width l
      have hw2 := Sm.width_le hne
      have hr := Lib.decodeL_rune l
      have hdec := Tryz.utf8_DecodeRuneInString (bs l) wr (HT.out.ext hb).u8
      have hdg : Lib.decodeGo (bs l) = Lib.decodeL l := by
        unfold Lib.decodeGo
        rw [if_neg (by rw [bs_size]; omega)]
        rfl
      rw [hdg] at hdec
      obtain ⟨r, hrr⟩ : ∃ r, (Lib.decodeL l).1 = r := ⟨_, rfl⟩
      obtain ⟨n, hnn⟩ : ∃ n, (Lib.decodeL l).2 = n := ⟨_, rfl⟩
      rw [hrr] at hst hr hdec
      rw [hnn] at hst hw1 hw2 hdec
      have hlc : (L ++ Lib.encodeRune (Lib.toLowerU (r : Int))) ++ Sm.lower (l.drop n) = res := by rw [← hL.out, hst, List.append_assoc]; rfl
      have hll : L.length + (Lib.encodeRune (Lib.toLowerU (r : Int))).length ≤ 16000000 := by
        have := congrArg List.length hlc
        rw [List.length_append, List.length_append] at this
        omega
      have Hlc := Lib.hid hlc; have Hdec := Lib.hid hdec
      clear hlc hst hdg hrr hnn hdec
      have hd0 : decide ((0 : Int) < (l.length : Int)) = true := by simp; omega
      have hd1 : 0 < l.length := hpos
      have hlow := fun W hbb => Tryz.unicode_ToLower_laid (r : Int) W ((HT.out.ext hb).ext hbb).case
      obtain ⟨z, hz⟩ : ∃ z, Lib.toLowerU (r : Int) = z := ⟨_, rfl⟩
      rw [hz] at hlow Hlc hll
      have Hlow := Lib.hid hlow
      clear hlow hz
      have hcat : (L.length + (Lib.encodeRune z).length ≤ 9223372036854775807) = True := by simp; omega
      have henc := encode_bs z
      have hn0 : (0 : Int) ≤ (n : Int) := by omega
      have hn1 : (n : Int) ≤ (l.length : Int) := by omega
      go_wp2_with fail
      refine Hdec.out.mono ?_
      rintro e w1 ⟨rfl, hb1⟩
      go_wp2_with fail
      refine (Hlow.out w1 hb1).mono ?_
      rintro e w2 ⟨rfl, q, hq⟩
      have hb2 := (below2 hb hb1).trans (hq ▸ below_drewN' _ _ _)
      clear hq
      go_wp2
      go_roundw
      case rel => exact ⟨l.drop n, L ++ Lib.encodeRune z, by rw [List.take_of_length_le (by rw [List.length_drop]; exact Nat.le_refl _)], rfl, by rw [List.length_drop]; omega, Hlc, hb2⟩
      case measure => simp [strOf, bs]; omega
end Go.Proofs.YtfjpedgddgbelaaGreatDoor
