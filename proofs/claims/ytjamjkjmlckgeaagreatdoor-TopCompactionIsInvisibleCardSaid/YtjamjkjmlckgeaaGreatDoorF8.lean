/-
  Contracts and plain facts, one after another: Boxes under names; the stores of two cells. No program is named here; The lines of a field; Rows of the call's own: a lower base; the stores into another block. No program is named here; The lines of a field: a good one.
-/
import Derived.Test.YtjamjkjmlckgeaaGreatDoorF36
import Derived.Test.YtjamjkjmlckgeaaGreatDoorF6
import Derived.Test.YtjamjkjmlckgeaaGreatDoorF2
import Derived.Lib.AppendStr
namespace Go.Proofs.YtjamjkjmlckgeaaGreatDoor
open Go.RowKit
set_option linter.unusedVariables false
/-- one box, two boxes: under names -/
theorem box1 (w : World) (cs : Array Value) (t : TypeId) : ∃ W g, w.alloc (.cells cs t) = W ∧ w.heap.size = g ∧ W.heap.size = g + 1 ∧ Blk W g t cs ∧ Below w.heap.size w W := ⟨_, _, rfl, rfl, by simp, Blk.new w t _, (Below.refl _ _).alloc (Nat.le_refl _) _⟩
theorem box2 (w : World) (cs : Array Value) (t : TypeId) (ds : Array Value) (t' : TypeId) : ∃ W g h, (w.alloc (.cells cs t)).alloc (.cells ds t') = W ∧ w.heap.size = g ∧ g + 1 = h ∧ W.heap.size = h + 1 ∧ Blk W g t cs ∧ Blk W h t' ds ∧ Below w.heap.size w W := by
  refine ⟨_, _, _, rfl, rfl, rfl, by simp, (Blk.new w t cs).alloc _, ?_, ((Below.refl _ _).alloc (Nat.le_refl _) _).alloc (by simp) _⟩
  have := Blk.new (w.alloc (.cells cs t)) t' ds
  rw [World.size_alloc] at this
  exact this
theorem put2 {w : World} {g7 : Nat} {t' : TypeId} {u v : Value} (h7 : Blk w g7 t' #[u, v]) (c d : Value) {W : World} (hW : (w.setCell ⟨g7, 0, none⟩ c).setCell ⟨g7, 1, none⟩ d = W) : Blk W g7 t' #[c, d] ∧ ∀ b, b ≠ g7 → W.heap[b]? = w.heap[b]? := by
  subst hW
  exact ⟨(h7.set_ 0 c).set_ 1 d, fun b h2 => by rw [heap_set_ne _ _ _ h2, heap_set_ne _ _ _ h2]⟩
theorem below_put2 {w w1 W : World} {g7 : Nat} (hb : Below w.heap.size w w1) (h7 : w.heap.size ≤ g7) (c d : Value) (hW : (w1.setCell ⟨g7, 0, none⟩ c).setCell ⟨g7, 1, none⟩ d = W) : Below w.heap.size w W := by
  subst hW
  exact (hb.setCell (p := ⟨g7, 0, none⟩) h7 _).setCell (p := ⟨g7, 1, none⟩) h7 _
end Go.Proofs.YtjamjkjmlckgeaaGreatDoor
namespace Go.Proofs.YtjamjkjmlckgeaaGreatDoor
open Go.RowKit

set_option maxHeartbeats 1000000 in
theorem fold_bad (n v : Str) (hn : n.length ≤ maxLen) (_hv : v.length ≤ maxLen) (w : World) (c : Int) (hc : (Mb.nameF n = false ∧ c = 10) ∨ (Mb.nameF n = true ∧ 4000 < v.length ∧ c = 1) ∨ (Mb.nameF n = true ∧ v.length ≤ 4000 ∧ Mb.valueF v = false ∧ c = 11)) :
    Calls Tryz.prog 107 #[.string (bs n), .string (bs v)] w fun e w' => e = .returned (.tuple #[.slice none 0 0, .agg #[.int .i64 c, .int .i64 (-1)]]) ∧ Below w.heap.size w w' := by
  have hnm := fname_ok n hn
  rcases hc with ⟨h1, rfl⟩ | ⟨h1, h2, rfl⟩ | ⟨h1, h2, h3, rfl⟩
  · rw [h1] at hnm
    have Hnm := Lib.hid hnm
    clear hnm h1
    go_enter Tryz.func107, Tryz.ntmps107
    go_wp2_with (first
      | (go_at_call 129; refine (Hnm.out _).mono ?_; rintro e w1 ⟨rfl, rfl⟩)
      | (go_at_call 27; refine (fault_ok _ _ _).mono ?_; rintro e w2 ⟨rfl, hb2⟩; have k2 := (Blk.new w 31 #[.int .i64 0, .int .i64 0]).ext hb2; have hbw2 := below_alloc hb2; obtain ⟨c0, c1, z0, z1, s1⟩ := k2.two; obtain ⟨e0, e1⟩ := k2.put2 (.int .i64 10) (.int .i64 (-1))))
    refine bodyPost_ret (v := .tuple #[.slice none 0 0, .agg #[.int .i64 10, .int .i64 (-1)]]) (by simp [results, Tryz.results107, go_sem, e0, e1]) rfl ⟨rfl, ?_⟩
    exact below_set2 hbw2 (Nat.le_refl _) _ _
  · rw [h1] at hnm
    have Hnm := Lib.hid hnm
    clear hnm h1
    go_enter Tryz.func107, Tryz.ntmps107
    go_wp2_with (first
      | (go_at_call 129; refine (Hnm.out _).mono ?_; rintro e w1 ⟨rfl, rfl⟩)
      | (go_at_call 27; refine (fault_ok _ _ _).mono ?_; rintro e w2 ⟨rfl, hb2⟩; have k2 := (Blk.new w 31 #[.int .i64 0, .int .i64 0]).ext hb2; have hbw2 := below_alloc hb2; obtain ⟨c0, c1, z0, z1, s1⟩ := k2.two; obtain ⟨e0, e1⟩ := k2.put2 (.int .i64 1) (.int .i64 (-1))))
    refine bodyPost_ret (v := .tuple #[.slice none 0 0, .agg #[.int .i64 1, .int .i64 (-1)]]) (by simp [results, Tryz.results107, go_sem, e0, e1]) rfl ⟨rfl, ?_⟩
    exact below_set2 hbw2 (Nat.le_refl _) _ _
  · have hvl := value_ok v h2
    rw [h1] at hnm
    rw [h3] at hvl
    have Hnm := Lib.hid hnm
    have Hvl := Lib.hid hvl
    clear hnm hvl h1 h3
    go_enter Tryz.func107, Tryz.ntmps107
    go_wp2_with (first
      | (go_at_call 129; refine (Hnm.out _).mono ?_; rintro e w1 ⟨rfl, rfl⟩)
      | (go_at_call 130; refine (Hvl.out _).mono ?_; rintro e w1 ⟨rfl, hb1⟩; have k1 := (Blk.new w 31 #[.int .i64 0, .int .i64 0]).ext hb1; have hbw1 := below_alloc hb1)
      | (go_at_call 27; refine (fault_ok _ _ _).mono ?_; rintro e w2 ⟨rfl, hb2⟩; have k2 := k1.ext hb2; have hbw2 := below2 hbw1 hb2; obtain ⟨c0, c1, z0, z1, s1⟩ := k2.two; obtain ⟨e0, e1⟩ := k2.put2 (.int .i64 11) (.int .i64 (-1))))
    refine bodyPost_ret (v := .tuple #[.slice none 0 0, .agg #[.int .i64 11, .int .i64 (-1)]]) (by simp [results, Tryz.results107, go_sem, e0, e1]) rfl ⟨rfl, ?_⟩
    exact below_set2 hbw2 (Nat.le_refl _) _ _
end Go.Proofs.YtjamjkjmlckgeaaGreatDoor
namespace Go.Proofs.YtjamjkjmlckgeaaGreatDoor
open Go.RowKit
variable {α : Type} {C : Codec α} {M : Nat → Prop} {w w' : World} {B B' : Nat} {e : TypeId} {v : Value} {l : List α}
theorem own_lower (h : Own C M w B e v l) (hB : B' ≤ B) : Own C M w B' e v l := by
  obtain ⟨xs, ho, he⟩ := h
  refine ⟨xs, ⟨ho.1, ?_⟩, he⟩
  rcases ho.2 with ⟨rfl, h0⟩ | ⟨g, cap, cur, rfl, hb, r⟩
  · exact .inl ⟨rfl, h0⟩
  · exact .inr ⟨g, cap, cur, rfl, Nat.le_trans hB hb, r⟩
theorem own_flatM (hF : C.Flat) {M' : Nat → Prop} (h : Own C M w B e v l) : Own C M' w B e v l := by
  obtain ⟨xs, ho, he⟩ := h
  exact ⟨xs, ho, he.1, fun i hi => hF.2 _ _ _ _ _ _ (he.2 i hi)⟩
theorem own_put2 (hF : C.Flat) (h : Own C M w B e v l) {g : Nat} (hg : ∀ b, v.ownBlock = some b → b ≠ g) (a b : Value) : Own C M ((w.setCell ⟨g, 0, none⟩ a).setCell ⟨g, 1, none⟩ b) B e v l := by
  have h1 : Own C (fun b => b = g) w B e v l := own_flatM hF h
  have h2 : Own C (fun b => b = g) ((w.setCell ⟨g, 0, none⟩ a).setCell ⟨g, 1, none⟩ b) B e v l :=
    h1.keep (fun k _ hk => by
      have hne : k ≠ g := hk.elim id fun ho => hg k ho
      rw [heap_set_ne _ _ _ hne, heap_set_ne _ _ _ hne]) (by simp) fun k hk => hg k hk
  exact own_flatM hF h2
/-- bytes: what appending a text to them does -/
theorem wpList_appendStr {P : Program} {ops : Array Oper} {rest : List Oper} {o : Oper} {a : Act} {Q : Exit → Act → World → Prop} {M : Nat → Prop} {w : World} {B : Nat} {t u e : TypeId} {v : Value} {l m : List UInt8}
    (hi : (P.info? e).map (fun i => (i.zero, i.size, i.bytes)) = some (some (.int .u8 0), 1, 1)) (ht : P.underlying t = some (.slice e)) (hu : P.underlying u = some .string)
    (hgd : Region.wanted o (yielded ops a.tmps) = true) (s x : Operand)
    (ho : o.op = .call { callee := .builtin .append, args := #[s, x], argTypes := #[t, u] })
    (hs : a.eval s = v) (hown : Own byteC M w B e v l) (hx : a.eval x = .string (bs m))
    (h63 : l.length + m.length ≤ 140737488355328) (hbase : B ≤ w.heap.size)
    (h : ∀ A' c' L w', Hid (L = l ++ m) → Own byteC M w' B e (.slice A' L.length c') L → Below B w w' → w.grownBy w' v.ownBlock → wpList P ops Q rest (a.put o.dst (.slice A' L.length c')) w') : wpList P ops Q (o :: rest) a w := by
  obtain ⟨i, hi, h1, h2, h3⟩ := info_parts hi
  have hbase' := hown.base
  obtain ⟨xs, hox, hxs⟩ := hown
  have hz : (bs m).size = m.length := by simp [bs, ByteArray.size]
  obtain ⟨v', w', hrun, h5, h6, _⟩ := Lib.run_append_own_string (P := P) w B t u o.type e i ht hu hi h1 h2 h3 v l.length xs hox (bs m) (by rw [hz]; unfold maxLen; omega) (by rw [hz]; exact h63) hbase
  have h7 : Own byteC M w' B e v' (l ++ m) := by
    refine ⟨xs ++ Lib.strCells (bs m), ?_, ?_⟩
    · rw [List.length_append, ← hz]; exact h5
    · have e1 : Els byteC (fun b => M b ∨ v'.ownBlock = some b) w' xs l := ⟨hxs.1, fun i hi => flat_byte.2 _ _ _ _ _ _ (hxs.2 i hi)⟩
      exact e1.append (lit_bytes _ w' m)
  obtain ⟨A', c', rfl, _⟩ := h7.shape
  refine wpList_step fun K hK => ?_
  rw [if_pos hgd]
  unfold Oper.wp execOp
  simp only [ho, resolve, invoke, builtin, Sem.run_bind, Sem.run_pure, Result.andThen_ok, List.map_toArray, List.map_cons, List.map_nil, hs, hx, hrun]
  exact hK _ _ (h A' c' _ w' (Lib.hid rfl) h7 ((Below.refl _ _).grown h6 hbase fun k hk => hbase' k hk) h6)
/-- rows of elements of different types lie in different blocks -/
theorem own_apart {β : Type} {D : Codec β} {M' : Nat → Prop} {e' : TypeId} {v' : Value} {l' : List β} (h : Own C M w B e v l) (h' : Own D M' w B' e' v' l') (hne : e ≠ e') : ∀ b, v'.ownBlock = some b → v.ownBlock ≠ some b := by
  obtain ⟨xs, ho, _⟩ := h
  obtain ⟨ys, ho', _⟩ := h'
  intro b hb hb2
  rcases ho.2 with ⟨rfl, _⟩ | ⟨g, cap, cur, rfl, _, hg, _⟩
  · cases hb2
  · rcases ho'.2 with ⟨rfl, _⟩ | ⟨g', cap', cur', rfl, _, hg', _⟩
    · cases hb
    · have e1 : g = b := Option.some.inj hb2
      have e2 : g' = b := Option.some.inj hb
      subst e1 e2
      rw [hg] at hg'
      injection hg' with hg'
      injection hg' with _ h2 _
      exact hne h2
/-- a row stands while another one grows -/
theorem own_grown (hF : C.Flat) (h : Own C M w B e v l) {row : Option Nat} (hg : w.grownBy w' row) (hap : ∀ b, v.ownBlock = some b → row ≠ some b) : Own C M w' B e v l := by
  have h1 : Own C (fun b => row = some b) w B e v l := own_flatM hF h
  have h2 : Own C (fun b => row = some b) w' B e v l :=
    h1.keep (fun k hk hor => hg.block k hk fun e => hor.elim (fun hn => hn e.symm) fun ho => hap k ho e.symm) hg.size fun k hk => hap k hk
  exact own_flatM hF h2
end Go.Proofs.YtjamjkjmlckgeaaGreatDoor
namespace Go.Proofs.YtjamjkjmlckgeaaGreatDoor
open Go.RowKit
set_option linter.unusedVariables false

theorem pointGo_lt {s : Str} : ∀ (f i b : Nat), b < s.length → Mb.pointGo s f i b < s.length
  | 0, _, _, h => h
  | f + 1, i, b, h => by
    unfold Mb.pointGo
    split
    · rename_i hi
      split
      · exact pointGo_lt f _ _ h
      · split
        · exact h
        · exact pointGo_lt f _ _ hi
    · exact h
theorem pointF_lt {s : Str} (k : Nat) (h : 0 < s.length) : Mb.pointF s k < s.length := pointGo_lt _ _ _ h
theorem foldGo_stop {s : Str} {k : Nat} (h : s.length ≤ 78 ∨ Mb.pointF s k = 0) : ∀ f, Mb.foldGo f s k = [s]
  | 0 => rfl
  | f + 1 => by
    unfold Mb.foldGo
    rcases h with h | h
    · rw [if_pos h]
    · split
      · rfl
      · rfl
theorem foldGo_go {s : Str} {k f : Nat} (h : ¬ s.length ≤ 78) (h2 : ¬ Mb.pointF s k = 0) : Mb.foldGo (f + 1) s k = s.take (Mb.pointF s k) :: Mb.foldGo f (s.drop (Mb.pointF s k)) 0 := by
  rw [Mb.foldGo, if_neg h, if_neg h2]
theorem longAt_pre : ∀ (l : List Str) (k : Nat) (i : Int) (hk : k < l.length), 998 < l[k].length → (∀ (j : Nat) (hj : j < l.length), j < k → l[j].length ≤ 998) → Mb.longAt l i = (1, i + (k : Int))
  | [], _, _, hk, _, _ => absurd hk (by simp)
  | x :: l, 0, i, _, h, _ => by
    unfold Mb.longAt
    rw [if_pos (show 998 < x.length from h)]
    simp
  | x :: l, k + 1, i, hk, h, hp => by
    unfold Mb.longAt
    have h0 := hp 0 (by simp) (by omega)
    rw [if_neg (by simpa using h0), longAt_pre l k (i + 1) (by simpa using hk) (by simpa using h) fun j hj hjk => hp (j + 1) (by simpa using hj) (by omega)]
    congr 1
    omega
theorem longAt_hit (l : List Str) (k : Nat) (hk : k < l.length) (h : 998 < l[k].length) (hp : ∀ (j : Nat) (hj : j < l.length), j < k → l[j].length ≤ 998) : Mb.longAt l 0 = (1, (k : Int)) := by
  rw [longAt_pre l k 0 hk h hp, Int.zero_add]
theorem longAt_no : ∀ (l : List Str) (i : Int), (∀ (j : Nat) (hj : j < l.length), l[j].length ≤ 998) → Mb.longAt l i = (0, 0)
  | [], _, _ => rfl
  | x :: l, i, h => by
    unfold Mb.longAt
    have h0 := h 0 (by simp)
    rw [if_neg (by simpa using h0)]
    exact longAt_no l _ fun j hj => h (j + 1) (by simpa using hj)
theorem longAt_none (l : List Str) (h : ∀ (j : Nat) (hj : j < l.length), l[j].length ≤ 998) : Mb.longAt l 0 = (0, 0) := longAt_no l 0 h
set_option maxRecDepth 100000 in
set_option maxHeartbeats 4000000 in
theorem fold_good (n v : Str) (h1 : Mb.nameF n = true) (hn : n.length ≤ 60) (h2 : v.length ≤ 4000) (h3 : Mb.valueF v = true) (w : World) :
    Calls Tryz.prog 107 #[.string (bs n), .string (bs v)] w fun e w' => ∃ u, e = .returned (.tuple #[u, .agg #[.int .i64 (Mb.foldF n v).2.1, .int .i64 (Mb.foldF n v).2.2]]) ∧ Own strC M0 w' w.heap.size 9 u (Mb.foldF n v).1 ∧ Below w.heap.size w w' := by
  have hF : Mb.foldF n v = if (Mb.longAt (Mb.linesF n v) 0).1 ≠ 0 then ([], Mb.longAt (Mb.linesF n v) 0) else (Mb.linesF n v, 0, 0) := by
    unfold Mb.foldF
    rw [h1, h3, if_neg (by simp), if_neg (by omega), if_neg (by simp)]
  have hnm := fname_ok n (by unfold maxLen; omega)
  have hvl := value_ok v h2
  rw [h1] at hnm
  rw [h3] at hvl
  have Hnm := Lib.hid hnm
  have Hvl := Lib.hid hvl
  have HF := Lib.hid hF
  clear hnm hvl h1 h3 hF
  obtain ⟨r0, hr0⟩ : ∃ r0, r0 = n ++ 58 :: 32 :: v := ⟨_, rfl⟩
  have hr0l : r0.length ≤ 4062 := by rw [hr0]; simp; omega
  have hr1 : n.length + 2 ≤ r0.length := by rw [hr0]; simp only [List.length_append, List.length_cons]; omega
  have HL0 := Lib.hid (show Mb.linesF n v = Mb.foldGo r0.length r0 (n.length + 2) by
    unfold Mb.linesF
    rw [← hr0, show n.length + 2 + v.length = r0.length by rw [hr0]; simp; omega])
  go_enter Tryz.func107, Tryz.ntmps107
  go_wp2_with (first
    | (go_at_call 129; refine (Hnm.out _).mono ?_; rintro e w1 ⟨rfl, rfl⟩)
    | (go_at_call 130; refine (Hvl.out _).mono ?_; rintro e w1 ⟨rfl, hb1⟩; have k1 := (Blk.new w 31 #[.int .i64 0, .int .i64 0]).ext hb1; have hbw1 := below_alloc hb1))
  have hcat : bs n ++ (⟨#[58, 32]⟩ : ByteArray) ++ bs v = bs r0 := by
    rw [hr0]
    apply ByteArray.ext
    apply Array.ext'
    simp [bs]
  have HC := Lib.hid hcat
  clear hcat hr0
  go_loopw [6, 7, 8] (fun ra fa oa wr => ∃ (r : Str) (fr fu : Nat) (A : Option Addr) (c : Nat) (L : List Str), ra = .string (bs r) ∧ fa = .int .i64 (fr : Int) ∧ oa = .slice A L.length c ∧ fr ≤ r.length ∧ r.length ≤ fu ∧ L.length + r.length ≤ 4062 ∧ Hid (Mb.linesF n v = L ++ Mb.foldGo fu r fr) ∧ Own strC M0 wr (w.heap.size + 1) 9 (.slice A L.length c) L ∧ Below w.heap.size w wr ∧ Blk wr w.heap.size 31 #[.int .i64 0, .int .i64 0]) (fun ra _ _ _ => match ra with | .string s => s.size | _ => 0)
  case atStart => exact ⟨r0, n.length + 2, r0.length, none, 0, [], by rw [HC.out], by go_num, rfl, hr1, Nat.le_refl _, by simpa using hr0l, Lib.hid (by rw [HL0.out]; rfl), Own.nil _ _ _ _ _, hbw1, k1⟩
  case round =>
    obtain ⟨r, fr, fu, A, c, L, rfl, rfl, rfl, hfr, hfu, hlr, hL, own, hb, k1⟩ := hrel
    have hsz : w.heap.size + 1 ≤ wr.heap.size := k1.lt
    have hpo := point_ok r fr (by unfold maxLen; omega) hfr
    by_cases h78 : r.length ≤ 78
    · have HS := Lib.hid (show Mb.foldGo fu r fr = [r] from foldGo_stop (.inl h78) fu)
      go_wp2_with (at_builtin; refine wpList_push_Own strC (M := M0) (B := w.heap.size + 1) TStrs rfl (.tmp 51) (.tmp 53) rfl rfl own rfl (cs := [.string (bs r)]) (y := r) ⟨rfl, by unfold maxLen; omega⟩ (fun _ h => h.elim) ?a1 ?b1 hsz ?_)
      case a1 => unfold maxLen; omega
      case b1 => omega
      intro A4 c4 L4 w4 hL4 own4 hb4 _ _
      have HL5 := Lib.hid (show L4 = Mb.linesF n v from (hL4.out.trans (by rw [hL.out, HS.out])).trans rfl)
      have hl5 : L4.length ≤ 4200 := by rw [hL4.out, List.length_append]; simp only [List.length_cons, List.length_nil]; omega
      have hb5 := hb.trans (hb4.mono (Nat.le_succ _))
      have k5 := k1.keep (hb4.block _ (Nat.lt_succ_self _))
      clear hL4 own hb4 hb k1
      go_wp2_with fail
      go_loop [57] (fun i => ∃ k : Nat, k ≤ L4.length ∧ i = .int .i64 (k : Int) ∧ Hid (∀ (j : Nat) (hj : j < L4.length), j < k → L4[j].length ≤ 998)) (fun i => L4.length - (intOf i).toNat)
      case atStart => exact ⟨0, Nat.zero_le _, rfl, Lib.hid fun j _ h => absurd h (by omega)⟩
      case round =>
        obtain ⟨k, hk, rfl, hpre⟩ := hrel
        obtain ⟨c0, c1, z0, z1, s1⟩ := k5.two
        by_cases hlt : k < L4.length
        · obtain ⟨b, off, rfl, q1, q2, hcell⟩ := own4.read0.strAt hlt
          by_cases hbig : 998 < L4[k].length
          · have Hx := Lib.hid (show Mb.longAt L4 0 = (1, (k : Int)) from longAt_hit L4 k hlt hbig hpre.out)
            go_wp2_with (go_at_call 27; refine (fault_ok _ _ _).mono ?_; rintro e w6 ⟨rfl, hb6⟩; have k6 := k5.ext hb6; obtain ⟨d0, d1, y0, y1, s2⟩ := k6.two; obtain ⟨e0, e1⟩ := k6.put2 (.int .i64 1) (.int .i64 (k : Int)))
            refine bodyPost_ret (v := .tuple #[.slice none 0 0, .agg #[.int .i64 1, .int .i64 (k : Int)]]) (by simp [results, Tryz.results107, go_sem, e0, e1]) rfl ⟨.slice none 0 0, ?_, ?_, ?_⟩
            · rw [HF.out, ← HL5.out, Hx.out]; rfl
            · rw [HF.out, ← HL5.out, Hx.out]; exact Own.nil _ _ _ _ _
            · exact below_set2 (hb5.trans (hb6.mono hb5.size)) (Nat.le_refl _) _ _
          · have Hnb := Lib.hid (show L4[k].length ≤ 998 by omega)
            go_wp2
            go_round
            case rel => exact ⟨k + 1, by omega, by go_num, Lib.hid fun j hj h => by
              by_cases e : j = k
              · subst e; exact Hnb.out
              · exact hpre.out j hj (by omega)⟩
            case measure => simp [intOf]; omega
        · have Hx := Lib.hid (show Mb.longAt L4 0 = (0, 0) from longAt_none L4 fun j hj => hpre.out j hj (by omega))
          go_wp2_with (go_at_call 24; refine (none_ok _).mono ?_; rintro e w6 ⟨rfl, hb6⟩; have k6 := k5.ext hb6; have own6 := own4.ext hb6; obtain ⟨d0, d1, y0, y1, s2⟩ := k6.two; obtain ⟨e0, e1⟩ := k6.put2 (.int .i64 0) (.int .i64 0))
          refine bodyPost_ret (v := .tuple #[.slice A4 L4.length c4, .agg #[.int .i64 0, .int .i64 0]]) (by simp [results, Tryz.results107, go_sem, e0, e1]) rfl ⟨.slice A4 L4.length c4, ?_, ?_, ?_⟩
          · rw [HF.out, ← HL5.out, Hx.out]; rfl
          · rw [HF.out, ← HL5.out, Hx.out]
            exact own_put2 flat_str (own_lower own6 (Nat.le_succ _)) (fun bb hbb => by have := own6.base bb hbb; omega) _ _
          · exact below_set2 (hb5.trans (hb6.mono hb5.size)) (Nat.le_refl _) _ _
    · obtain ⟨q, hq⟩ : ∃ q, q = Mb.pointF r fr := ⟨_, rfl⟩
      rw [← hq] at hpo
      have Hpo := Lib.hid hpo
      clear hpo
      by_cases hq0 : q = 0
      · have HS := Lib.hid (show Mb.foldGo fu r fr = [r] from foldGo_stop (.inr (by rw [← hq]; exact hq0)) fu)
        subst hq0
        clear hq
        go_wp2_with fail
        refine (Hpo.out _).mono ?_
        rintro e w2 ⟨rfl, rfl⟩
        go_wp2_with (at_builtin; refine wpList_push_Own strC (M := M0) (B := w.heap.size + 1) TStrs rfl (.tmp 51) (.tmp 53) rfl rfl own rfl (cs := [.string (bs r)]) (y := r) ⟨rfl, by unfold maxLen; omega⟩ (fun _ h => h.elim) ?a1 ?b1 hsz ?_)
        case a1 => unfold maxLen; omega
        case b1 => omega
        intro A4 c4 L4 w4 hL4 own4 hb4 _ _
        have HL5 := Lib.hid (show L4 = Mb.linesF n v from (hL4.out.trans (by rw [hL.out, HS.out])).trans rfl)
        have hl5 : L4.length ≤ 4200 := by rw [hL4.out, List.length_append]; simp only [List.length_cons, List.length_nil]; omega
        have hb5 := hb.trans (hb4.mono (Nat.le_succ _))
        have k5 := k1.keep (hb4.block _ (Nat.lt_succ_self _))
        clear hL4 own hb4 hb k1
        go_wp2_with fail
        go_loop [57] (fun i => ∃ k : Nat, k ≤ L4.length ∧ i = .int .i64 (k : Int) ∧ Hid (∀ (j : Nat) (hj : j < L4.length), j < k → L4[j].length ≤ 998)) (fun i => L4.length - (intOf i).toNat)
        case atStart => exact ⟨0, Nat.zero_le _, rfl, Lib.hid fun j _ h => absurd h (by omega)⟩
        case round =>
          obtain ⟨k, hk, rfl, hpre⟩ := hrel
          obtain ⟨c0, c1, z0, z1, s1⟩ := k5.two
          by_cases hlt : k < L4.length
          · obtain ⟨b, off, rfl, q1, q2, hcell⟩ := own4.read0.strAt hlt
            by_cases hbig : 998 < L4[k].length
            · have Hx := Lib.hid (show Mb.longAt L4 0 = (1, (k : Int)) from longAt_hit L4 k hlt hbig hpre.out)
              go_wp2_with (go_at_call 27; refine (fault_ok _ _ _).mono ?_; rintro e w6 ⟨rfl, hb6⟩; have k6 := k5.ext hb6; obtain ⟨d0, d1, y0, y1, s2⟩ := k6.two; obtain ⟨e0, e1⟩ := k6.put2 (.int .i64 1) (.int .i64 (k : Int)))
              refine bodyPost_ret (v := .tuple #[.slice none 0 0, .agg #[.int .i64 1, .int .i64 (k : Int)]]) (by simp [results, Tryz.results107, go_sem, e0, e1]) rfl ⟨.slice none 0 0, ?_, ?_, ?_⟩
              · rw [HF.out, ← HL5.out, Hx.out]; rfl
              · rw [HF.out, ← HL5.out, Hx.out]; exact Own.nil _ _ _ _ _
              · exact below_set2 (hb5.trans (hb6.mono hb5.size)) (Nat.le_refl _) _ _
            · have Hnb := Lib.hid (show L4[k].length ≤ 998 by omega)
              go_wp2
              go_round
              case rel => exact ⟨k + 1, by omega, by go_num, Lib.hid fun j hj h => by
                by_cases e : j = k
                · subst e; exact Hnb.out
                · exact hpre.out j hj (by omega)⟩
              case measure => simp [intOf]; omega
          · have Hx := Lib.hid (show Mb.longAt L4 0 = (0, 0) from longAt_none L4 fun j hj => hpre.out j hj (by omega))
            go_wp2_with (go_at_call 24; refine (none_ok _).mono ?_; rintro e w6 ⟨rfl, hb6⟩; have k6 := k5.ext hb6; have own6 := own4.ext hb6; obtain ⟨d0, d1, y0, y1, s2⟩ := k6.two; obtain ⟨e0, e1⟩ := k6.put2 (.int .i64 0) (.int .i64 0))
            refine bodyPost_ret (v := .tuple #[.slice A4 L4.length c4, .agg #[.int .i64 0, .int .i64 0]]) (by simp [results, Tryz.results107, go_sem, e0, e1]) rfl ⟨.slice A4 L4.length c4, ?_, ?_, ?_⟩
            · rw [HF.out, ← HL5.out, Hx.out]; rfl
            · rw [HF.out, ← HL5.out, Hx.out]
              exact own_put2 flat_str (own_lower own6 (Nat.le_succ _)) (fun bb hbb => by have := own6.base bb hbb; omega) _ _
            · exact below_set2 (hb5.trans (hb6.mono hb5.size)) (Nat.le_refl _) _ _
      · have hqlt : q < r.length := hq ▸ pointF_lt fr (by omega)
        obtain ⟨fu, rfl⟩ : ∃ f', fu = f' + 1 := ⟨fu - 1, by omega⟩
        have HS := Lib.hid (show Mb.foldGo (fu + 1) r fr = r.take q :: Mb.foldGo fu (r.drop q) 0 by rw [foldGo_go h78 (by rw [← hq]; exact hq0), ← hq])
        have hqn : ((q : Int) == 0) = false := by simpa using hq0
        have hq1 : 0 < q := Nat.pos_of_ne_zero hq0
        have htd : (r.drop q).take (r.length - q) = r.drop q := List.take_of_length_le (by rw [List.length_drop]; exact Nat.le_refl _)
        have Htd := Lib.hid htd
        clear hq htd hq0
        go_wp2_with fail
        refine (Hpo.out _).mono ?_
        rintro e w2 ⟨rfl, rfl⟩
        go_wp2_with (at_builtin; refine wpList_push_Own strC (M := M0) (B := w.heap.size + 1) TStrs rfl (.tmp 42) (.tmp 46) rfl rfl own rfl (cs := [.string (bs (r.take q))]) (y := r.take q) ⟨rfl, by rw [List.length_take]; unfold maxLen; omega⟩ (fun _ h => h.elim) ?a1 ?b1 hsz ?_)
        case a1 => unfold maxLen; omega
        case b1 => omega
        intro A4 c4 L4 w4 hL4 own4 hb4 _ _
        have hb5 := hb.trans (hb4.mono (Nat.le_succ _))
        have k5 := k1.keep (hb4.block _ (Nat.lt_succ_self _))
        have HL5 := Lib.hid (show Mb.linesF n v = L4 ++ Mb.foldGo fu ((r.drop q).take (r.length - q)) 0 by rw [hL.out, HS.out, hL4.out, Htd.out, List.append_assoc]; rfl)
        have hl5 : L4.length = L.length + 1 := by rw [hL4.out, List.length_append]; rfl
        have Hl5 := Lib.hid hl5
        clear hl5 hL4 own hb4 hb k1
        go_wp2
        go_roundw
        case rel => exact ⟨_, 0, fu, A4, c4, L4, rfl, rfl, rfl, Nat.zero_le _, by rw [Htd.out, List.length_drop]; omega, by rw [Htd.out, Hl5.out, List.length_drop]; omega, HL5, own4, hb5, k5⟩
        case measure => simp; omega
theorem foldF_bad1 {n v : Str} (h : Mb.nameF n = false) : Mb.foldF n v = ([], 10, -1) := by unfold Mb.foldF; rw [if_pos h]
theorem foldF_bad2 {n v : Str} (h : Mb.nameF n = true) (h2 : 4000 < v.length) : Mb.foldF n v = ([], 1, -1) := by unfold Mb.foldF; rw [if_neg (by rw [h]; simp), if_pos h2]
theorem foldF_bad3 {n v : Str} (h : Mb.nameF n = true) (h2 : ¬ 4000 < v.length) (h3 : Mb.valueF v = false) : Mb.foldF n v = ([], 11, -1) := by unfold Mb.foldF; rw [if_neg (by rw [h]; simp), if_neg h2, if_pos h3]
theorem nameF_len {n : Str} (h : Mb.nameF n = true) : n.length ≤ 60 := by
  unfold Mb.nameF at h
  simp only [Bool.and_eq_true, decide_eq_true_eq] at h
  exact h.2.1
theorem fold_ok (n v : Str) (hn : n.length ≤ maxLen) (hv : v.length ≤ maxLen) (w : World) :
    Calls Tryz.prog 107 #[.string (bs n), .string (bs v)] w fun e w' => ∃ u, e = .returned (.tuple #[u, .agg #[.int .i64 (Mb.foldF n v).2.1, .int .i64 (Mb.foldF n v).2.2]]) ∧ Own strC M0 w' w.heap.size 9 u (Mb.foldF n v).1 ∧ Below w.heap.size w w' := by
  cases h1 : Mb.nameF n with
  | false =>
    rw [foldF_bad1 h1]
    exact (fold_bad n v hn hv w 10 (.inl ⟨h1, rfl⟩)).mono fun e w' ⟨he, hb⟩ => ⟨_, he, Own.nil _ _ _ _ _, hb⟩
  | true =>
    by_cases h2 : 4000 < v.length
    · rw [foldF_bad2 h1 h2]
      exact (fold_bad n v hn hv w 1 (.inr (.inl ⟨h1, h2, rfl⟩))).mono fun e w' ⟨he, hb⟩ => ⟨_, he, Own.nil _ _ _ _ _, hb⟩
    · cases h3 : Mb.valueF v with
      | false =>
        rw [foldF_bad3 h1 h2 h3]
        exact (fold_bad n v hn hv w 11 (.inr (.inr ⟨h1, by omega, h3, rfl⟩))).mono fun e w' ⟨he, hb⟩ => ⟨_, he, Own.nil _ _ _ _ _, hb⟩
      | true => exact fold_good n v h1 (nameF_len h1) (by omega) h3 w
end Go.Proofs.YtjamjkjmlckgeaaGreatDoor
