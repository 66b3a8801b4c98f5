/-
  folders.Rename.
-/
import Derived.Test.YtinmpjhmbciapaaDoorFoD
namespace Go.Proofs.YtinmpjhmbciapaaDoor
open Go.RowKit

theorem Own.flat {M M' : Nat → Prop} {w w' : World} {B : Nat} {e : TypeId} {v : Value} {l : List Str} (h : Own strC M w B e v l) (hk : ∀ b, v.ownBlock = some b → w'.heap[b]? = w.heap[b]?) : Own strC M' w' B e v l := by
  obtain ⟨xs, ho, he⟩ := h
  refine ⟨xs, ⟨ho.1, ?_⟩, ⟨he.1, fun i hi => he.2 i hi⟩⟩
  rcases ho.2 with hn | ⟨g, cap, cur, rfl, hb, hg, rest⟩
  · exact .inl hn
  · exact .inr ⟨g, cap, cur, rfl, hb, (hk g rfl).trans hg, rest⟩
def Apart (u v : Value) : Prop := ∀ b, u.ownBlock = some b → v.ownBlock ≠ some b
theorem Apart.symm {u v : Value} (h : Apart u v) : Apart v u := fun b h1 h2 => h b h2 h1
theorem kept_snoc (l : List Str) (f : Str) (k : Nat) (hk : k < l.length) : keptF (l.take (k + 1)) f = if inB l[k] f then keptF (l.take k) f else keptF (l.take k) f ++ [l[k]] := by
  unfold keptF
  rw [List.take_succ_eq_append_getElem hk, List.filter_append]
  cases h : inB l[k] f <;> simp [h]
theorem moved_snoc (l : List Str) (f t : Str) (k : Nat) (hk : k < l.length) : movedF (l.take (k + 1)) f t = if inB l[k] f then movedF (l.take k) f t ++ [t ++ l[k].drop f.length] else movedF (l.take k) f t := by
  unfold movedF
  rw [List.take_succ_eq_append_getElem hk, List.filter_append]
  cases h : inB l[k] f <;> simp [h]
theorem inB_len {s f : Str} (h : inB s f = true) : f.length ≤ s.length := by
  rcases (inB_iff s f).1 h with rfl | ⟨r, rfl⟩
  · exact Nat.le_refl _
  · simp
theorem chain_len : ∀ (n : Nat) (s : Str), (chain n s).length ≤ n
  | 0, _ => Nat.le_refl _
  | n + 1, s => by
    rw [chain]
    split
    · simp
    · rw [List.length_cons]; have := chain_len n (aboveF s); omega
theorem insS_len (s : Str) : ∀ l, (insS l s).length ≤ l.length + 1
  | [] => by simp [insS]
  | a :: l => by
    rw [insS]
    split
    · rw [List.length_cons, List.length_cons]; have := insS_len s l; omega
    · split <;> simp
theorem foldl_len : ∀ (m l : List Str), (m.foldl insS l).length ≤ l.length + m.length
  | [], l => by simp
  | a :: m, l => by
    rw [List.foldl_cons]
    have h1 := foldl_len m (insS l a)
    have h2 := insS_len a l
    rw [List.length_cons]; omega
theorem with_len (l : List Str) (s : Str) : (withF l s).length ≤ l.length + s.length := by
  have h1 := foldl_len (ancF s) l
  have h2 := chain_len s.length s
  unfold withF
  unfold ancF at h1 ⊢
  omega
theorem with_snoc (m b : List Str) (k : Nat) (hk : k < m.length) : (m.take (k + 1)).foldl withF b = withF ((m.take k).foldl withF b) m[k] := by
  rw [List.take_succ_eq_append_getElem hk, List.foldl_append]; rfl
theorem all_snoc (m : List Str) (p : Str → Bool) (k : Nat) (hk : k < m.length) : (m.take (k + 1)).all p = ((m.take k).all p && p m[k]) := by
  rw [List.take_succ_eq_append_getElem hk, List.all_append]; simp

set_option maxRecDepth 100000 in
set_option maxHeartbeats 16000000 in
theorem rename_ok' (v : Value) (l : List Str) (f t : Str) (w : World) (h : SlR strC M0 w v l) (hz : ∀ s ∈ l, s.length ≤ 4000000) (hfl : f.length ≤ 4000000) (htl : t.length ≤ 4000000) : Calls Tryd.prog 23 #[v, .string (bs f), .string (bs t)] w fun e w' =>
    ∃ v', e = .returned (.tuple #[v', .agg #[.int .i64 (renameF l f t).2.1, .int .i64 (renameF l f t).2.2]]) ∧ SlR strC M0 w' v' (renameF l f t).1 ∧ Below w.heap.size w w' := by
  obtain ⟨A, c, rfl, _, _⟩ := h.form
  obtain ⟨hlc, hcm⟩ := h.lenM
  obtain ⟨⟨g1, g2⟩, hg⟩ : ∃ f, foldersF l = f := ⟨_, rfl⟩
  have hL := fun w' (hb : Below w.heap.size w w') => validate_ok _ l w' (h.ext hb) hz
  rw [hg] at hL
  have HL := Lib.hid hL; have Hg := Lib.hid hg; have Hh := Lib.hid h
  clear hL hg h
  have kf := Blk.new w 24 #[.int .i64 0, .int .i64 0]
  have b0 := (Below.refl w.heap.size w).alloc (Nat.le_refl _) (.cells #[.int .i64 0, .int .i64 0] 24)
  go_enter Tryd.func23, Tryd.ntmps23
  go_wp2_with fail
  refine (HL.out _ b0).mono ?_
  rintro e w1 ⟨rfl, hb1⟩
  have kf1 := kf.ext hb1
  have b1 := b0.trans (hb1.mono b0.size)
  have ke1 := Blk.new w1 24 #[.int .i64 g1, .int .i64 g2]
  go_wp2_with fail
  refine (failed_ok _ _ _).mono ?_
  rintro e w2 ⟨rfl, hb2⟩
  have kf2 := (kf1.alloc _).ext hb2
  have ke2 := ke1.ext hb2
  have b2 := (b1.alloc b1.size _).trans (hb2.mono (b1.alloc b1.size _).size)
  clear kf kf1 ke1 b0 b1 hb1 hb2
  by_cases hg0 : g1 = 0
  · subst hg0
    clear ke2
    have hv := valid_of_folders (l := l) (by rw [Hg.out])
    have HV := Lib.hid hv
    have hvl := hv.len
    clear hv
    have hgz : (foldersF l).1 = 0 := by rw [Hg.out]
    have Hgz := Lib.hid hgz
    clear hgz
    have hhs := has_ok l f _ w2 (Hh.out.ext b2) (by omega) HV.out.sorted
    obtain ⟨t1, ht1⟩ : ∃ t, decide (f ∈ l) = t := ⟨_, rfl⟩
    rw [ht1] at hhs
    have Ht1 := Lib.hid ht1
    clear ht1
    go_wp2_with fail
    refine hhs.mono ?_
    rintro e w3 ⟨rfl, rfl⟩
    clear hhs
    cases t1 with
    | false =>
      have hr2 : renameF l f t = ([], 6, -3) := by rw [renameF, if_neg (by simp [Hgz.out]), if_pos (by simpa using Ht1.out)]
      have Hr2 := Lib.hid hr2
      clear hr2
      go_wp2_with fail
      refine (fault_ok _ _ _).mono ?_
      rintro e w9 ⟨rfl, hb9⟩
      have k9 := kf2.ext hb9
      obtain ⟨c0, c1, z0, z1, s1⟩ := k9.two
      obtain ⟨e0, e1⟩ := k9.put2 (.int .i64 6) (.int .i64 (-3))
      have b9 := b2.trans (hb9.mono b2.size)
      go_wp2
      exact bodyPost_ret (v := .tuple #[.slice none 0 0, .agg #[.int .i64 6, .int .i64 (-3)]]) (by simp [results, Tryd.results23, go_sem, e0, e1]) rfl ⟨_, by rw [Hr2.out], by rw [Hr2.out]; exact SlR.nil _ _ _, below_set2 b9 (Nat.le_refl _) _ _⟩
    | true =>
      have hmem : f ∈ l := by simpa using Ht1.out
      have hfl2 : f.length ≤ 500 := path_len (HV.out.path f hmem)
      have Hmem := Lib.hid hmem
      clear hmem
      cases hib : (f == ([105, 110, 98, 111, 120] : List UInt8)) with
      | true =>
        have hr2 : renameF l f t = ([], 8, -3) := by rw [renameF, if_neg (by simp [Hgz.out]), if_neg (by rw [Classical.not_not]; exact Hmem.out), if_pos (show f = inboxF from beq_iff_eq.1 hib)]
        have Hr2 := Lib.hid hr2
        clear hr2
        go_wp2_with fail
        refine (fault_ok _ _ _).mono ?_
        rintro e w9 ⟨rfl, hb9⟩
        have k9 := kf2.ext hb9
        obtain ⟨c0, c1, z0, z1, s1⟩ := k9.two
        obtain ⟨e0, e1⟩ := k9.put2 (.int .i64 8) (.int .i64 (-3))
        have b9 := b2.trans (hb9.mono b2.size)
        go_wp2
        exact bodyPost_ret (v := .tuple #[.slice none 0 0, .agg #[.int .i64 8, .int .i64 (-3)]]) (by simp [results, Tryd.results23, go_sem, e0, e1]) rfl ⟨_, by rw [Hr2.out], by rw [Hr2.out]; exact SlR.nil _ _ _, below_set2 b9 (Nat.le_refl _) _ _⟩
      | false =>
        have hni : f ≠ inboxF := fun e => by rw [e] at hib; exact absurd hib (by decide)
        have Hni := Lib.hid hni
        have hpt := path_ok t htl w2
        obtain ⟨t2, ht2⟩ : ∃ b, pathF t = b := ⟨_, rfl⟩
        rw [ht2] at hpt
        have Ht2 := Lib.hid ht2
        clear ht2 hni
        go_wp2_with fail
        refine hpt.mono ?_
        rintro e w3 ⟨rfl, hb3⟩
        have kf3 := kf2.ext hb3
        have b3 := b2.trans (hb3.mono b2.size)
        clear hpt kf2 b2 hb3
        cases t2 with
        | false =>
          have hr2 : renameF l f t = ([], 10, -4) := by rw [renameF, if_neg (by simp [Hgz.out]), if_neg (by rw [Classical.not_not]; exact Hmem.out), if_neg Hni.out, if_pos Ht2.out]
          have Hr2 := Lib.hid hr2
          clear hr2
          go_wp2_with fail
          refine (fault_ok _ _ _).mono ?_
          rintro e w9 ⟨rfl, hb9⟩
          have k9 := kf3.ext hb9
          obtain ⟨c0, c1, z0, z1, s1⟩ := k9.two
          obtain ⟨e0, e1⟩ := k9.put2 (.int .i64 10) (.int .i64 (-4))
          have b9 := b3.trans (hb9.mono b3.size)
          go_wp2
          exact bodyPost_ret (v := .tuple #[.slice none 0 0, .agg #[.int .i64 10, .int .i64 (-4)]]) (by simp [results, Tryd.results23, go_sem, e0, e1]) rfl ⟨_, by rw [Hr2.out], by rw [Hr2.out]; exact SlR.nil _ _ _, below_set2 b9 (Nat.le_refl _) _ _⟩
        | true =>
          have htl2 : t.length ≤ 500 := path_len Ht2.out
          have hbl := below_ok t f hfl w3
          obtain ⟨t3, ht3⟩ : ∃ b, (t == f) = b := ⟨_, rfl⟩
          obtain ⟨t4, ht4⟩ : ∃ b, belowF t f = b := ⟨_, rfl⟩
          rw [ht4] at hbl
          have hin : inB t f = (t3 || t4) := by unfold inB; rw [ht3, ht4]
          have Hin := Lib.hid hin
          clear hin ht4
          cases t3 with
          | true =>
            have hr2 : renameF l f t = ([], 14, -4) := by rw [renameF, if_neg (by simp [Hgz.out]), if_neg (by rw [Classical.not_not]; exact Hmem.out), if_neg Hni.out, if_neg (by simp [Ht2.out]), if_pos (by rw [Hin.out]; rfl)]
            have Hr2 := Lib.hid hr2
            clear hr2
            go_wp2_with fail
            refine (fault_ok _ _ _).mono ?_
            rintro e w9 ⟨rfl, hb9⟩
            have k9 := kf3.ext hb9
            obtain ⟨c0, c1, z0, z1, s1⟩ := k9.two
            obtain ⟨e0, e1⟩ := k9.put2 (.int .i64 14) (.int .i64 (-4))
            have b9 := b3.trans (hb9.mono b3.size)
            go_wp2
            exact bodyPost_ret (v := .tuple #[.slice none 0 0, .agg #[.int .i64 14, .int .i64 (-4)]]) (by simp [results, Tryd.results23, go_sem, e0, e1]) rfl ⟨_, by rw [Hr2.out], by rw [Hr2.out]; exact SlR.nil _ _ _, below_set2 b9 (Nat.le_refl _) _ _⟩
          | false =>
            go_wp2_with fail
            refine hbl.mono ?_
            rintro e w4 ⟨rfl, rfl⟩
            clear hbl
            cases t4 with
            | true =>
              have hr2 : renameF l f t = ([], 14, -4) := by rw [renameF, if_neg (by simp [Hgz.out]), if_neg (by rw [Classical.not_not]; exact Hmem.out), if_neg Hni.out, if_neg (by simp [Ht2.out]), if_pos (by rw [Hin.out]; rfl)]
              have Hr2 := Lib.hid hr2
              clear hr2
              go_wp2_with fail
              refine (fault_ok _ _ _).mono ?_
              rintro e w9 ⟨rfl, hb9⟩
              have k9 := kf3.ext hb9
              obtain ⟨c0, c1, z0, z1, s1⟩ := k9.two
              obtain ⟨e0, e1⟩ := k9.put2 (.int .i64 14) (.int .i64 (-4))
              have b9 := b3.trans (hb9.mono b3.size)
              go_wp2
              exact bodyPost_ret (v := .tuple #[.slice none 0 0, .agg #[.int .i64 14, .int .i64 (-4)]]) (by simp [results, Tryd.results23, go_sem, e0, e1]) rfl ⟨_, by rw [Hr2.out], by rw [Hr2.out]; exact SlR.nil _ _ _, below_set2 b9 (Nat.le_refl _) _ _⟩
            | false =>
              have hhs := has_ok l t _ w3 (Hh.out.ext b3) (by omega) HV.out.sorted
              obtain ⟨t5, ht5⟩ : ∃ b, decide (t ∈ l) = b := ⟨_, rfl⟩
              rw [ht5] at hhs
              have Ht5 := Lib.hid ht5
              clear ht5
              go_wp2_with fail
              refine hhs.mono ?_
              rintro e w4 ⟨rfl, rfl⟩
              clear hhs
              cases t5 with
              | true =>
                have hr2 : renameF l f t = ([], 7, -4) := by rw [renameF, if_neg (by simp [Hgz.out]), if_neg (by rw [Classical.not_not]; exact Hmem.out), if_neg Hni.out, if_neg (by simp [Ht2.out]), if_neg (by rw [Hin.out]; simp), if_pos (by simpa using Ht5.out)]
                have Hr2 := Lib.hid hr2
                clear hr2
                go_wp2_with fail
                refine (fault_ok _ _ _).mono ?_
                rintro e w9 ⟨rfl, hb9⟩
                have k9 := kf3.ext hb9
                obtain ⟨c0, c1, z0, z1, s1⟩ := k9.two
                obtain ⟨e0, e1⟩ := k9.put2 (.int .i64 7) (.int .i64 (-4))
                have b9 := b3.trans (hb9.mono b3.size)
                go_wp2
                exact bodyPost_ret (v := .tuple #[.slice none 0 0, .agg #[.int .i64 7, .int .i64 (-4)]]) (by simp [results, Tryd.results23, go_sem, e0, e1]) rfl ⟨_, by rw [Hr2.out], by rw [Hr2.out]; exact SlR.nil _ _ _, below_set2 b9 (Nat.le_refl _) _ _⟩
              | false =>
                have hrn : renameF l f t = if (movedF l f t).all pathF = false then ([], 10, -4) else fewF ((movedF l f t).foldl withF (keptF l f)) := by
                  rw [renameF, if_neg (by simp [Hgz.out]), if_neg (by rw [Classical.not_not]; exact Hmem.out), if_neg Hni.out, if_neg (by simp [Ht2.out]), if_neg (by rw [Hin.out]; simp), if_neg (by simpa using Ht5.out)]
                have Hrn := Lib.hid hrn
                clear hrn ht3 hib
                have hfB := kf3.lt
                have hB3 := b3.size
                go_wp2
                go_loopw [9, 10, 12, 51] (fun ov mv _ ii wr => ∃ (k : Nat) (A1 : Option Addr) (c1 : Nat) (O : List Str) (A2 : Option Addr) (c2 : Nat) (Mv : List Str), k ≤ l.length ∧ ii = .int .i64 k ∧ ov = .slice A1 O.length c1 ∧ mv = .slice A2 Mv.length c2 ∧ Hid (O = keptF (l.take k) f) ∧ Hid (Mv = movedF (l.take k) f t) ∧ O.length ≤ k ∧ Mv.length ≤ k ∧ Hid (Own strC M0 wr w3.heap.size 9 (.slice A1 O.length c1) O) ∧ Hid (Own strC M0 wr w3.heap.size 9 (.slice A2 Mv.length c2) Mv) ∧ Hid (Apart (.slice A1 O.length c1) (.slice A2 Mv.length c2)) ∧ Below w3.heap.size w3 wr) (fun _ _ _ ii _ => l.length - (intOf ii).toNat)
                case atStart => exact ⟨0, none, 0, [], none, 0, [], Nat.zero_le _, rfl, rfl, rfl, Lib.hid rfl, Lib.hid rfl, Nat.le_refl _, Nat.le_refl _, Lib.hid (Own.nil _ _ _ _ _), Lib.hid (Own.nil _ _ _ _ _), Lib.hid (fun b h => by cases h), Below.refl _ _⟩
                case round =>
                  obtain ⟨k, A1, c1, O, A2, c2, Mv, hk, rfl, rfl, rfl, hO, hMv, hOl, hMl, howO, howM, hap, hbr⟩ := hrel
                  have hsz := hbr.size
                  by_cases hlt : k < l.length
                  · obtain ⟨b, off, rfl, _, _, q0, _⟩ := ((Hh.out.ext b3).ext hbr).strAt hlt
                    obtain ⟨s, hx⟩ : ∃ x, x = l[k] := ⟨_, rfl⟩
                    have hks := kept_snoc l f k hlt
                    have hms := moved_snoc l f t k hlt
                    have hsl : s.length ≤ 500 := by rw [hx]; exact path_len (HV.out.path _ (List.getElem_mem hlt))
                    rw [← hx] at q0 hks hms
                    have hbl := below_ok s f hfl wr
                    obtain ⟨t6, ht6⟩ : ∃ b, (s == f) = b := ⟨_, rfl⟩
                    obtain ⟨t7, ht7⟩ : ∃ b, belowF s f = b := ⟨_, rfl⟩
                    rw [ht7] at hbl
                    have hin : inB s f = (t6 || t7) := by unfold inB; rw [ht6, ht7]
                    rw [hin] at hks hms
                    have Hks := Lib.hid hks; have Hms := Lib.hid hms; have Hin2 := Lib.hid hin
                    clear hks hms hx ht7 hin
                    have hi1 : (k : Int) < (l.length : Int) := by omega
                    cases t6 with
                    | true =>
                      have hfs : f.length ≤ s.length := inB_len (by rw [Hin2.out]; rfl)
                      have hdt : List.take (s.length - f.length) (List.drop f.length s) = List.drop f.length s := List.take_of_length_le (by rw [List.length_drop]; exact Nat.le_refl _)
                      have hdl : (List.drop f.length s).length = s.length - f.length := List.length_drop
                      obtain ⟨D, hD⟩ : ∃ D, D = List.drop f.length s := ⟨_, rfl⟩
                      rw [← hD] at hdt hdl
                      have HD := Lib.hid hD; have Hdl := Lib.hid hdl
                      clear hD hdl
                      have hDs : D.length ≤ 500 := by rw [Hdl.out]; omega
                      have hdt2 : List.take (s.length - f.length) (List.drop f.length s) = D := by rw [← HD.out]; exact hdt
                      clear hdt
                      go_wp2_with (at_builtin; refine wpList_push_Own strC (M := M0) (B := w3.heap.size) TStrs rfl (.tmp 68) (.tmp 75) rfl rfl howM.out rfl (cs := [.string (bs (t ++ D))]) (y := t ++ D) ⟨rfl, by unfold maxLen; rw [List.length_append]; omega⟩ (fun _ h => h.elim) ?a1 ?b1 hsz ?_)
                      case a1 => simp only [maxLen]; omega
                      case b1 => omega
                      intro A9 c9 L9 w9 hL9 hown9 hbl9 hgr9 hob9
                      have hov9 : Own strC M0 w9 w3.heap.size 9 (.slice A1 O.length c1) O := howO.out.flat fun b hb => hgr9.block b (howO.out.lt b hb) fun e => hap.out b hb e.symm
                      have hap9 : Apart (.slice A1 O.length c1) (.slice A9 L9.length c9) := fun b h1 h2 => by
                        rcases hob9 with e | e
                        · exact hap.out b h1 (e ▸ h2)
                        · rw [e] at h2; injection h2 with h2; have := howO.out.lt b h1; omega
                      have hO9 : Hid (O = keptF (l.take (k + 1)) f) := Lib.hid (by rw [Hks.out, hO.out]; rfl)
                      have hM9 : Hid (L9 = movedF (l.take (k + 1)) f t) := Lib.hid (by rw [hL9.out, Hms.out, hMv.out, HD.out]; rfl)
                      have hl9 : L9.length ≤ k + 1 := by rw [hL9.out, List.length_append, List.length_singleton]; omega
                      have Hown9 := Lib.hid hown9; have Hov9 := Lib.hid hov9; have Hap9 := Lib.hid hap9
                      clear hown9 hov9 hap9 hgr9 hob9 hdt2
                      go_wp2
                      go_roundw
                      case rel => exact ⟨k + 1, A1, c1, O, A9, c9, L9, by omega, by go_num, rfl, rfl, hO9, hM9, by omega, hl9, Hov9, Hown9, Hap9, hbr.trans hbl9⟩
                      case measure => simp [intOf]; omega
                    | false =>
                      go_wp2_with fail
                      refine hbl.mono ?_
                      rintro e w5 ⟨rfl, rfl⟩
                      clear hbl
                      cases t7 with
                      | true =>
                        have hfs : f.length ≤ s.length := inB_len (by rw [Hin2.out]; rfl)
                        have hdt : List.take (s.length - f.length) (List.drop f.length s) = List.drop f.length s := List.take_of_length_le (by rw [List.length_drop]; exact Nat.le_refl _)
                        have hdl : (List.drop f.length s).length = s.length - f.length := List.length_drop
                        obtain ⟨D, hD⟩ : ∃ D, D = List.drop f.length s := ⟨_, rfl⟩
                        rw [← hD] at hdt hdl
                        have HD := Lib.hid hD; have Hdl := Lib.hid hdl
                        clear hD hdl
                        have hDs : D.length ≤ 500 := by rw [Hdl.out]; omega
                        have hdt2 : List.take (s.length - f.length) (List.drop f.length s) = D := by rw [← HD.out]; exact hdt
                        clear hdt
                        go_wp2_with (at_builtin; refine wpList_push_Own strC (M := M0) (B := w3.heap.size) TStrs rfl (.tmp 68) (.tmp 75) rfl rfl howM.out rfl (cs := [.string (bs (t ++ D))]) (y := t ++ D) ⟨rfl, by unfold maxLen; rw [List.length_append]; omega⟩ (fun _ h => h.elim) ?a2 ?b2 hsz ?_)
                        case a2 => simp only [maxLen]; omega
                        case b2 => omega
                        intro A9 c9 L9 w9 hL9 hown9 hbl9 hgr9 hob9
                        have hov9 : Own strC M0 w9 w3.heap.size 9 (.slice A1 O.length c1) O := howO.out.flat fun b hb => hgr9.block b (howO.out.lt b hb) fun e => hap.out b hb e.symm
                        have hap9 : Apart (.slice A1 O.length c1) (.slice A9 L9.length c9) := fun b h1 h2 => by
                          rcases hob9 with e | e
                          · exact hap.out b h1 (e ▸ h2)
                          · rw [e] at h2; injection h2 with h2; have := howO.out.lt b h1; omega
                        have hO9 : Hid (O = keptF (l.take (k + 1)) f) := Lib.hid (by rw [Hks.out, hO.out]; rfl)
                        have hM9 : Hid (L9 = movedF (l.take (k + 1)) f t) := Lib.hid (by rw [hL9.out, Hms.out, hMv.out, HD.out]; rfl)
                        have hl9 : L9.length ≤ k + 1 := by rw [hL9.out, List.length_append, List.length_singleton]; omega
                        have Hown9 := Lib.hid hown9; have Hov9 := Lib.hid hov9; have Hap9 := Lib.hid hap9
                        clear hown9 hov9 hap9 hgr9 hob9 hdt2
                        go_wp2
                        go_roundw
                        case rel => exact ⟨k + 1, A1, c1, O, A9, c9, L9, by omega, by go_num, rfl, rfl, hO9, hM9, by omega, hl9, Hov9, Hown9, Hap9, hbr.trans hbl9⟩
                        case measure => simp [intOf]; omega
                      | false =>
                        go_wp2_with (at_builtin; refine wpList_push_Own strC (M := M0) (B := w3.heap.size) TStrs rfl (.tmp 64) (.tmp 66) rfl rfl howO.out rfl (cs := [.string (bs s)]) (y := s) ⟨rfl, by unfold maxLen; omega⟩ (fun _ h => h.elim) ?a3 ?b3x hsz ?_)
                        case a3 => simp only [maxLen]; omega
                        case b3x => omega
                        intro A9 c9 L9 w9 hL9 hown9 hbl9 hgr9 hob9
                        have hmv9 : Own strC M0 w9 w3.heap.size 9 (.slice A2 Mv.length c2) Mv := howM.out.flat fun b hb => hgr9.block b (howM.out.lt b hb) fun e => hap.out b e.symm hb
                        have hap9 : Apart (.slice A9 L9.length c9) (.slice A2 Mv.length c2) := fun b h1 h2 => by
                          rcases hob9 with e | e
                          · exact hap.out b (e ▸ h1) h2
                          · rw [e] at h1; injection h1 with h1; have := howM.out.lt b h2; omega
                        have hO9 : Hid (L9 = keptF (l.take (k + 1)) f) := Lib.hid (by rw [hL9.out, Hks.out, hO.out]; rfl)
                        have hM9 : Hid (Mv = movedF (l.take (k + 1)) f t) := Lib.hid (by rw [Hms.out, hMv.out]; rfl)
                        have hl9 : L9.length ≤ k + 1 := by rw [hL9.out, List.length_append, List.length_singleton]; omega
                        have Hown9 := Lib.hid hown9; have Hmv9 := Lib.hid hmv9; have Hap9 := Lib.hid hap9
                        clear hown9 hmv9 hap9 hgr9 hob9
                        go_wp2
                        go_roundw
                        case rel => exact ⟨k + 1, A9, c9, L9, A2, c2, Mv, by omega, by go_num, rfl, rfl, hO9, hM9, hl9, by omega, Hown9, Hmv9, Hap9, hbr.trans hbl9⟩
                        case measure => simp [intOf]; omega
                  · obtain rfl : k = l.length := by omega
                    have hOe : O = keptF l f := by rw [hO.out, List.take_length]
                    have hMe : Mv = movedF l f t := by rw [hMv.out, List.take_length]
                    have HOe := Lib.hid hOe; have HMe := Lib.hid hMe
                    clear hOe hMe hO hMv
                    have kf4 := kf3.ext (hbr.mono (Nat.le_refl _))
                    have b4 := b3.trans (hbr.mono b3.size)
                    rw [← HOe.out, ← HMe.out] at Hrn
                    have hsO : SortedS O := by rw [HOe.out]; exact List.Pairwise.filter _ HV.out.sorted
                    have hmz : ∀ y ∈ Mv, y.length ≤ 1000 := fun y hy => by
                      rw [HMe.out, mem_moved] at hy
                      obtain ⟨s, hs1, hs2, rfl⟩ := hy
                      have := path_len (HV.out.path s hs1)
                      rw [List.length_append, List.length_drop]; omega
                    have HsO := Lib.hid hsO; have Hmz := Lib.hid hmz
                    clear hsO hmz HOe HMe hlt hk
                    have hvlM : Mv.length ≤ 100 := by omega
                    have hvlO : O.length ≤ 100 := by omega
                    clear hOl hMl
                    go_wp2
                    go_loopw [9, 13, 80] (fun ov _ ii wx => ∃ (k : Nat) (A9 : Option Addr) (c9 : Nat) (L9 : List Str), k ≤ Mv.length ∧ ii = .int .i64 k ∧ ov = .slice A9 L9.length c9 ∧ Hid (L9 = (Mv.take k).foldl withF O) ∧ Hid ((Mv.take k).all pathF = true) ∧ L9.length ≤ O.length + 500 * k ∧ Hid (SortedS L9) ∧ Hid (Own strC M0 wx w3.heap.size 9 (.slice A9 L9.length c9) L9) ∧ Hid (Own strC M0 wx w3.heap.size 9 (.slice A2 Mv.length c2) Mv) ∧ Hid (Apart (.slice A9 L9.length c9) (.slice A2 Mv.length c2)) ∧ Below w3.heap.size w3 wx) (fun _ _ ii _ => Mv.length - (intOf ii).toNat)
                    case atStart => exact ⟨0, A1, c1, O, Nat.zero_le _, rfl, rfl, Lib.hid rfl, Lib.hid rfl, by omega, HsO, howO, howM, hap, hbr⟩
                    case round =>
                      clear howO howM hap hbr hsz kf4 b4 HsO
                      obtain ⟨k, A9, c9, L9, hk, rfl, rfl, hL9, hall, hlen9, hsL, how9, howM, hap, hbr⟩ := hrel
                      have hsz := hbr.size
                      have kf4 := kf3.ext (hbr.mono (Nat.le_refl _))
                      have b4 := b3.trans (hbr.mono b3.size)
                      by_cases hlt : k < Mv.length
                      · have hrM := howM.out.read0
                        obtain ⟨b, off, hA2, _, hbl, q0, _⟩ := hrM.strAt hlt
                        subst hA2
                        obtain ⟨m, hx⟩ : ∃ x, x = Mv[k] := ⟨_, rfl⟩
                        have hml : m.length ≤ 1000 := by rw [hx]; exact Hmz.out _ (List.getElem_mem hlt)
                        have hws := with_snoc Mv O k hlt
                        have has := all_snoc Mv pathF k hlt
                        rw [← hx] at q0 hws has
                        rw [← hL9.out] at hws
                        rw [hall.out] at has
                        have hpt := path_ok m (by omega) wr
                        obtain ⟨t6, ht6⟩ : ∃ b, pathF m = b := ⟨_, rfl⟩
                        rw [ht6] at hpt has
                        have hmm : m ∈ Mv := by rw [hx]; exact List.getElem_mem hlt
                        have Hws := Lib.hid hws; have Has := Lib.hid has; have Ht6 := Lib.hid ht6; have Hmm := Lib.hid hmm
                        clear hws has hx ht6 hrM hmm
                        have hi1 : (k : Int) < (Mv.length : Int) := by omega
                        go_wp2_with fail
                        refine hpt.mono ?_
                        rintro e w5 ⟨rfl, hb5⟩
                        have kf5 := kf4.ext hb5
                        have b5 := b4.trans (hb5.mono b4.size)
                        have hbr5 := hbr.trans (hb5.mono hbr.size)
                        have how5 := how9.out.ext hb5
                        have howM5 := howM.out.ext hb5
                        have q1 := (hb5.cell (p := ⟨b, off + k, none⟩) hbl).trans q0
                        clear hpt kf4 b4 hb5 q0
                        cases t6 with
                        | false =>
                          have hr2 : renameF l f t = ([], 10, -4) := by
                            rw [Hrn.out, if_pos]
                            rw [Bool.eq_false_iff, Ne, List.all_eq_true]
                            intro hq
                            have := hq m Hmm.out
                            rw [Ht6.out] at this; cases this
                          have Hr2 := Lib.hid hr2
                          clear hr2
                          go_wp2_with fail
                          refine (fault_ok _ _ _).mono ?_
                          rintro e w9 ⟨rfl, hb9⟩
                          have k9 := kf5.ext hb9
                          obtain ⟨c0, c1, z0, z1, s1⟩ := k9.two
                          obtain ⟨e0, e1⟩ := k9.put2 (.int .i64 10) (.int .i64 (-4))
                          have b9 := b5.trans (hb9.mono b5.size)
                          go_wp2
                          exact bodyPost_ret (v := .tuple #[.slice none 0 0, .agg #[.int .i64 10, .int .i64 (-4)]]) (by simp [results, Tryd.results23, go_sem, e0, e1]) rfl ⟨_, by rw [Hr2.out], by rw [Hr2.out]; exact SlR.nil _ _ _, below_set2 b9 (Nat.le_refl _) _ _⟩
                        | true =>
                          have hml2 := path_len Ht6.out
                          have hwt := with_ok M0 (.slice A9 L9.length c9) L9 m w3.heap.size w5 how5 hsL.out (by omega) (by omega) hbr5.size (fun b h => h.elim) (fun b _ h => h)
                          have Hwt := Lib.hid hwt
                          clear hwt
                          go_wp2_with fail
                          refine Hwt.out.mono ?_
                          rintro e w6 ⟨v6, rfl, how6, hg6, hor6⟩
                          have hM6 : Own strC M0 w6 w3.heap.size 9 (.slice (some ⟨b, off, none⟩) Mv.length c2) Mv := howM5.flat fun b hb => hg6.block b (howM5.lt b hb) fun e => hap.out b e.symm hb
                          have hap6 : Apart v6 (.slice (some ⟨b, off, none⟩) Mv.length c2) := fun b h1 h2 => by
                            rcases hor6 with e | ⟨b', e, hb'⟩
                            · exact hap.out b (e ▸ h1) h2
                            · rw [e] at h1; injection h1 with h1; have := howM5.lt b h2; omega
                          have hbr6 : Below w3.heap.size w3 w6 := hbr5.grown hg6 hbr5.size fun b hb => how5.base b hb
                          have hlen6 : (withF L9 m).length ≤ O.length + 500 * (k + 1) := by have := with_len L9 m; omega
                          obtain ⟨A6, c6, rfl, _, _⟩ := how6.shape
                          have How6 := Lib.hid how6; have HM6 := Lib.hid hM6; have Hap6 := Lib.hid hap6
                          clear how6 hM6 hap6 hg6 hor6 how5 howM5 kf5 b5 hbr5 q1
                          go_wp2
                          go_roundw
                          case rel => exact ⟨k + 1, A6, c6, withF L9 m, by omega, by go_num, rfl, Lib.hid Hws.out.symm, Lib.hid (by rw [Has.out]; rfl), hlen6, Lib.hid (sorted_withF m hsL.out), How6, HM6, Hap6, hbr6⟩
                          case measure => simp [intOf]; omega
                      · obtain rfl : k = Mv.length := by omega
                        have hal : Mv.all pathF = true := by have := hall.out; rwa [List.take_length] at this
                        have hLe : L9 = Mv.foldl withF O := by rw [hL9.out, List.take_length]
                        have hr2 : renameF l f t = fewF L9 := by rw [Hrn.out, if_neg (by rw [hal]; simp), hLe]
                        obtain ⟨⟨q1, q2, q3⟩, hq⟩ : ∃ q, fewF L9 = q := ⟨_, rfl⟩
                        rw [hq] at hr2
                        have Hr2 := Lib.hid hr2; have Hq := Lib.hid hq
                        have hfw := few_ok' (fun b => b = w.heap.size) L9 _ wr ((how9.out.flat (M' := fun b => b = w.heap.size) fun _ _ => rfl).readB (fun b (e : b = w.heap.size) => by omega))
                        rw [Hq.out] at hfw
                        have Hfw := Lib.hid hfw
                        clear hr2 hq hal hLe hall hL9 hfw hap howM how9
                        go_wp2_with fail
                        refine Hfw.out.mono ?_
                        rintro e w7 ⟨v7, rfl, hr7, hb7⟩
                        have k9 := kf4.ext hb7
                        obtain ⟨c0, c1, z0, z1, s1⟩ := k9.two
                        obtain ⟨e0, e1⟩ := k9.put2 (.int .i64 q2) (.int .i64 q3)
                        have b9 := b4.trans (hb7.mono b4.size)
                        have hs9 := (hr7.set2 (g := w.heap.size) rfl (.int .i64 q2) (.int .i64 q3)).zero
                        obtain ⟨A7, c7, rfl, _, _⟩ := hr7.form
                        clear hr7
                        go_wp2
                        exact bodyPost_ret (v := .tuple #[.slice A7 q1.length c7, .agg #[.int .i64 q2, .int .i64 q3]]) (by simp [results, Tryd.results23, go_sem, e0, e1]) rfl ⟨_, by rw [Hr2.out], by rw [Hr2.out]; exact hs9, below_set2 b9 (Nat.le_refl _) _ _⟩
  · have hr2 : renameF l f t = ([], g1, g2) := by rw [renameF, Hg.out, if_pos hg0]
    have hfb : (g1 != 0) = true := by simpa using hg0
    have Hr2 := Lib.hid hr2
    clear hr2
    obtain ⟨c0, c1, z0, z1, s1⟩ := kf2.two
    obtain ⟨d0, d1, y0, y1, s2⟩ := ke2.two
    go_wp2
    go_region
    all_goals go_wp2
    all_goals
      obtain ⟨e0, e1⟩ := kf2.put2 (.int .i64 g1) (.int .i64 g2)
      refine bodyPost_ret (v := .tuple #[.slice none 0 0, .agg #[.int .i64 g1, .int .i64 g2]]) (by simp [results, Tryd.results23, go_sem, e0, e1]) rfl ⟨_, by rw [Hr2.out], by rw [Hr2.out]; exact SlR.nil _ _ _, ?_⟩
      exact below_drew (below_set2 b2 (Nat.le_refl _) _ _)
end Go.Proofs.YtinmpjhmbciapaaDoor
