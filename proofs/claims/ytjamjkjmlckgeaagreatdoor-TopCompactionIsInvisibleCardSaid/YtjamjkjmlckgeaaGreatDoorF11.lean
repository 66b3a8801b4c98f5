/-
  Contracts and plain facts, one after another: Entries of a mailbox in memory; mailbox.Find; Removals of a mailbox in memory; slices.ContainsFunc on them; slices.Clone of rows of fields, removals, entries, and of what clients have seen; A region that draws: where several operations are ready, each is taken in its turn.
-/
import Derived.Test.YtjamjkjmlckgeaaGreatDoorF10
import Derived.Test.YtjamjkjmlckgeaaGreatDoorF4
namespace Go.Proofs.YtjamjkjmlckgeaaGreatDoor
open Go.RowKit

/-- the value of an entry whose message lies so -/
def entV (e : Mb.Ent) (f b : Value) : Value := .agg #[.int .i64 e.1, .int .i64 e.2.1, .int .i64 e.2.2.1, .int .i64 e.2.2.2.1, f, b]
theorem SlR.entAt {M : Nat → Prop} {w : World} {A : Option Addr} {n c : Nat} {l : List Mb.Ent} (h : SlR entC M w (.slice A n c) l) {k : Nat} (hk : k < l.length) :
    ∃ b off Af cf Ab cb, A = some ⟨b, off, none⟩ ∧ ¬ M b ∧ b < w.heap.size ∧ w.cell? ⟨b, off + k * 6, none⟩ = some (.int .i64 l[k].1) ∧ w.cell? ⟨b, off + k * 6 + 1, none⟩ = some (.int .i64 l[k].2.1) ∧ w.cell? ⟨b, off + k * 6 + 2, none⟩ = some (.int .i64 l[k].2.2.1) ∧ w.cell? ⟨b, off + k * 6 + 3, none⟩ = some (.int .i64 l[k].2.2.2.1) ∧ w.cell? ⟨b, off + k * 6 + 4, none⟩ = some (.slice Af l[k].2.2.2.2.1.length cf) ∧ w.cell? ⟨b, off + k * 6 + 5, none⟩ = some (.slice Ab l[k].2.2.2.2.2.length cb) ∧
      SlR fldC M w (.slice Af l[k].2.2.2.2.1.length cf) l[k].2.2.2.2.1 ∧ SlR byteC M w (.slice Ab l[k].2.2.2.2.2.length cb) l[k].2.2.2.2.2 := by
  obtain ⟨b, off, cs, rfl, hM, hb, hr, hc⟩ := h.at_ hk
  obtain ⟨c1, d1, rfl, ⟨rfl, _⟩, c2, d2, rfl, ⟨rfl, _⟩, c3, d3, rfl, ⟨rfl, _⟩, c4, d4, rfl, ⟨rfl, _⟩, c5, d5, rfl, ⟨v5, rfl, h5⟩, ⟨v6, rfl, h6⟩⟩ := hr
  obtain ⟨Af, cf, rfl, _⟩ := h5.form
  obtain ⟨Ab, cb, rfl, _⟩ := h6.form
  exact ⟨b, off, Af, cf, Ab, cb, rfl, hM, hb, hc 0 _ rfl, hc 1 _ rfl, hc 2 _ rfl, hc 3 _ rfl, hc 4 _ rfl, hc 5 _ rfl, h5, h6⟩
theorem find1_ok (u : Int) (bc : Nat) (a1 a2 a3 a4 : Int) (Af Ab : Option Addr) (nf cf nb cb : Nat) (w : World) (hc : w.cell? ⟨bc, 0, none⟩ = some (.int .i64 u)) (hl : bc < w.heap.size) : Calls Tryz.prog 90 #[.agg #[.int .i64 a1, .int .i64 a2, .int .i64 a3, .int .i64 a4, .slice Af nf cf, .slice Ab nb cb], .pointer (some ⟨bc, 0, none⟩)] w fun e w' => e = .returned (.bool (a1 == u)) ∧ Below w.heap.size w w' := by
  go_enter Tryz.func90, Tryz.ntmps90
  go_wp2
  go_ret
  exact ⟨rfl, (Below.refl _ _).alloc (Nat.le_refl _) _⟩
theorem findIdx_at {l : List Mb.Ent} {u : Int} {k : Nat} (hk : k < l.length) (h : l[k].1 = u) (hp : ∀ (j : Nat) (hj : j < l.length), j < k → l[j].1 ≠ u) : Mb.findI l u = (k : Int) := by
  unfold Mb.findI
  have : l.findIdx? (fun e => e.1 == u) = some k := by
    rw [List.findIdx?_eq_some_iff_getElem]
    exact ⟨hk, by simpa using h, fun j hj => by simpa using hp j (by omega) hj⟩
  rw [this]
theorem findIdx_no {l : List Mb.Ent} {u : Int} (hp : ∀ (j : Nat) (hj : j < l.length), l[j].1 ≠ u) : Mb.findI l u = -1 := by
  unfold Mb.findI
  have : l.findIdx? (fun e => e.1 == u) = none := by
    rw [List.findIdx?_eq_none_iff]
    intro x hx
    obtain ⟨j, hj, rfl⟩ := List.getElem_of_mem hx
    simpa using hp j hj
  rw [this]
set_option maxRecDepth 100000 in
set_option maxHeartbeats 2000000 in
theorem indexFuncS_ok (u : Int) (bc : Nat) (v : Value) (l : List Mb.Ent) (w : World) (h : SlR entC M0 w v l) (hc : w.cell? ⟨bc, 0, none⟩ = some (.int .i64 u)) (hl : bc < w.heap.size) : Calls Tryz.prog 89 #[v, .func (.func 90) #[] #[.pointer (some ⟨bc, 0, none⟩)]] w fun e w' => e = .returned (.int .i64 (Mb.findI l u)) ∧ Below w.heap.size w w' := by
  obtain ⟨A, c, rfl, hlc, hcm⟩ := h.form
  have hlm := h.len_le
  unfold maxLen at hlm hcm
  have eg : ∀ args w, (callFunc 90 args).run Tryz.prog w = .ok (.enter 90 args) w := enters_of Tryz.func90 (by kernel_rfl) rfl
  go_enter Tryz.func89, Tryz.ntmps89
  go_wp2
  go_loopw [8] (fun i wr => ∃ k : Nat, k ≤ l.length ∧ i = .int .i64 (k : Int) ∧ Below w.heap.size w wr ∧ Hid (∀ (j : Nat) (hj : j < l.length), j < k → l[j].1 ≠ u)) (fun i _ => l.length - (intOf i).toNat)
  case atStart => exact ⟨0, Nat.zero_le _, rfl, Below.refl _ _, Lib.hid fun j _ hj => absurd hj (by omega)⟩
  case round =>
    obtain ⟨k, hk, rfl, hb, hpre⟩ := hrel
    have hc2 : wr.cell? ⟨bc, 0, none⟩ = some (.int .i64 u) := (hb.cell hl).trans hc
    have hl2 : bc < wr.heap.size := Nat.lt_of_lt_of_le hl hb.size
    by_cases hlt : k < l.length
    · obtain ⟨b, off, Af, cf, Ab, cb, rfl, _, _, q0, q1, q2, q3, q4, q5, _, _⟩ := (h.ext hb).entAt hlt
      obtain ⟨t, ht⟩ : ∃ t, (l[k].1 == u) = t := ⟨_, rfl⟩
      have hf := (find1_ok u bc l[k].1 l[k].2.1 l[k].2.2.1 l[k].2.2.2.1 Af Ab l[k].2.2.2.2.1.length cf l[k].2.2.2.2.2.length cb wr hc2 hl2).mono fun e w' hh => (⟨by rw [hh.1, ht], hh.2⟩ : e = .returned (.bool t) ∧ Below wr.heap.size wr w')
      have Hf := Lib.hid hf
      have Ht := Lib.hid ht
      clear hf ht
      go_wp2_with fail
      refine Hf.out.mono ?_
      rintro e w1 ⟨rfl, hb1⟩
      have hb2 := below2 hb hb1
      cases t with
      | true =>
        have HE := Lib.hid (findIdx_at hlt (by simpa using Ht.out) hpre.out)
        go_wp2
        go_ret
        exact ⟨by rw [HE.out] <;> rfl, hb2⟩
      | false =>
        go_wp2
        go_roundw
        case rel => exact ⟨k + 1, by omega, by go_num, hb2, Lib.hid fun j hj h => by
          by_cases e : j = k
          · subst e; simpa using Ht.out
          · exact hpre.out j hj (by omega)⟩
        case measure => simp [intOf]; omega
    · have HE := Lib.hid (findIdx_no (l := l) (u := u) fun j hj => hpre.out j hj (by omega))
      go_wp2
      go_ret
      exact ⟨by rw [HE.out] <;> rfl, hb⟩
/-- the value of a mailbox whose rows are so -/
def boxV (b : Mb.Box) (es gs : Value) : Value := .agg #[.int .i64 b.nu, .int .i64 b.ns, .int .i64 b.hz, es, gs]
theorem find_ok (b : Mb.Box) (es gs : Value) (u : Int) (w : World) (he : SlR entC M0 w es b.es) (hg : SlR gnC M0 w gs b.gs) : Calls Tryz.prog 57 #[boxV b es gs, .int .i64 u] w fun e w' => e = .returned (.int .i64 (Mb.findI b.es u)) ∧ Below w.heap.size w w' := by
  obtain ⟨Ae, ce, rfl, _, _⟩ := he.form
  obtain ⟨Ag, cg, rfl, _, _⟩ := hg.form
  unfold boxV
  obtain ⟨w0, g, g2, hw0, hg0, hg2, hsz0, k0, k02, hb0⟩ := box2 w #[.int .i64 b.nu, .int .i64 b.ns, .int .i64 b.hz, .slice Ae b.es.length ce, .slice Ag b.gs.length cg] 26 #[.int .i64 u] 3
  have hc := k02.one
  have hlt := k02.lt
  have H := Lib.hid (indexFuncS_ok u g2 _ b.es w0 (he.ext hb0) hc.1 hlt)
  have q3 := k0.cell 3
  obtain ⟨d0, d1, d2⟩ := hc
  clear hsz0
  go_enter Tryz.func57, Tryz.ntmps57
  go_wp2_with fail
  refine H.out.mono ?_
  rintro e w1 ⟨rfl, hb1⟩
  go_wp2
  go_ret
  exact ⟨rfl, below2 hb0 hb1⟩
end Go.Proofs.YtjamjkjmlckgeaaGreatDoor
namespace Go.Proofs.YtjamjkjmlckgeaaGreatDoor
open Go.RowKit

theorem SlR.gnAt {M : Nat → Prop} {w : World} {A : Option Addr} {n c : Nat} {l : List Mb.Gn} (h : SlR gnC M w (.slice A n c) l) {k : Nat} (hk : k < l.length) :
    ∃ b off, A = some ⟨b, off, none⟩ ∧ ¬ M b ∧ b < w.heap.size ∧ w.cell? ⟨b, off + k * 2, none⟩ = some (.int .i64 l[k].1) ∧ w.cell? ⟨b, off + k * 2 + 1, none⟩ = some (.int .i64 l[k].2) := by
  obtain ⟨b, off, cs, rfl, hM, hb, hr, hc⟩ := h.at_ hk
  obtain ⟨c1, d1, rfl, ⟨rfl, _⟩, ⟨rfl, _⟩⟩ := hr
  exact ⟨b, off, rfl, hM, hb, hc 0 _ rfl, hc 1 _ rfl⟩
theorem gone1_ok (u u2 : Int) (bc : Nat) (a1 a2 : Int) (w : World) (hc : Blk w bc 82 #[.int .i64 u, .int .i64 u2]) : Calls Tryz.prog 81 #[.agg #[.int .i64 a1, .int .i64 a2], .pointer (some ⟨bc, 0, none⟩)] w fun e w' => e = .returned (.bool (a1 == u)) ∧ Below w.heap.size w w' := by
  obtain ⟨c0, c1, z0, z1, hl⟩ := hc.two
  go_enter Tryz.func81, Tryz.ntmps81
  go_wp2
  go_ret
  exact ⟨rfl, (Below.refl _ _).alloc (Nat.le_refl _) _⟩
set_option maxRecDepth 100000 in
set_option maxHeartbeats 2000000 in
theorem indexFuncG_ok (M : Nat → Prop) (u u2 : Int) (bc : Nat) (v : Value) (l : List Mb.Gn) (w : World) (h : SlR gnC M w v l) (hc : Blk w bc 82 #[.int .i64 u, .int .i64 u2]) : Calls Tryz.prog 109 #[v, .func (.func 81) #[] #[.pointer (some ⟨bc, 0, none⟩)]] w fun e w' => ∃ i : Int, e = .returned (.int .i64 i) ∧ decide (0 ≤ i) = (l.any fun x => x.1 == u) ∧ Below w.heap.size w w' := by
  obtain ⟨A, c, rfl, hlc, hcm⟩ := h.form
  have hlm := h.len_le
  unfold maxLen at hlm hcm
  have eg : ∀ args w, (callFunc 81 args).run Tryz.prog w = .ok (.enter 81 args) w := enters_of Tryz.func81 (by kernel_rfl) rfl
  go_enter Tryz.func109, Tryz.ntmps109
  go_wp2
  go_loopw [8] (fun i wr => ∃ k : Nat, k ≤ l.length ∧ i = .int .i64 (k : Int) ∧ Below w.heap.size w wr ∧ Hid (∀ (j : Nat) (hj : j < l.length), j < k → l[j].1 ≠ u)) (fun i _ => l.length - (intOf i).toNat)
  case atStart => exact ⟨0, Nat.zero_le _, rfl, Below.refl _ _, Lib.hid fun j _ hj => absurd hj (by omega)⟩
  case round =>
    obtain ⟨k, hk, rfl, hb, hpre⟩ := hrel
    have hc2 := hc.ext hb
    by_cases hlt : k < l.length
    · obtain ⟨b, off, rfl, _, _, q0, q1⟩ := (h.ext hb).gnAt hlt
      obtain ⟨t, ht⟩ : ∃ t, (l[k].1 == u) = t := ⟨_, rfl⟩
      have hf := (gone1_ok u u2 bc l[k].1 l[k].2 wr hc2).mono fun e w' hh => (⟨by rw [hh.1, ht], hh.2⟩ : e = .returned (.bool t) ∧ Below wr.heap.size wr w')
      have Hf := Lib.hid hf
      have Ht := Lib.hid ht
      clear hf ht
      go_wp2_with fail
      refine Hf.out.mono ?_
      rintro e w1 ⟨rfl, hb1⟩
      have hb2 := below2 hb hb1
      cases t with
      | true =>
        have HE := Lib.hid (show (l.any fun x => x.1 == u) = true from List.any_eq_true.2 ⟨l[k], List.getElem_mem hlt, Ht.out⟩)
        go_wp2
        go_ret
        exact ⟨_, rfl, by rw [HE.out]; exact decide_eq_true (by omega), hb2⟩
      | false =>
        go_wp2
        go_roundw
        case rel => exact ⟨k + 1, by omega, by go_num, hb2, Lib.hid fun j hj h => by
          by_cases e : j = k
          · subst e; simpa using Ht.out
          · exact hpre.out j hj (by omega)⟩
        case measure => simp [intOf]; omega
    · have HE := Lib.hid (show (l.any fun x => x.1 == u) = false by
        rw [List.any_eq_false]
        intro x hx
        obtain ⟨j, hj, rfl⟩ := List.getElem_of_mem hx
        simpa using hpre.out j hj (by omega))
      go_wp2
      go_ret
      exact ⟨_, rfl, by rw [HE.out]; rfl, hb⟩
theorem containsGn_ok (M : Nat → Prop) (u u2 : Int) (bc : Nat) (v : Value) (l : List Mb.Gn) (w : World) (h : SlR gnC M w v l) (hc : Blk w bc 82 #[.int .i64 u, .int .i64 u2]) : Calls Tryz.prog 82 #[v, .func (.func 81) #[] #[.pointer (some ⟨bc, 0, none⟩)]] w fun e w' => e = .returned (.bool (l.any fun x => x.1 == u)) ∧ Below w.heap.size w w' := by
  have H := Lib.hid (indexFuncG_ok M u u2 bc v l w h hc)
  obtain ⟨A, c, rfl, _, _⟩ := h.form
  clear h hc
  go_enter Tryz.func82, Tryz.ntmps82
  go_wp2_with fail
  refine H.out.mono ?_
  rintro e w1 ⟨i, rfl, hd, hb⟩
  have Hd := Lib.hid hd
  clear hd
  go_wp2
  go_ret
  exact ⟨ret_bool (by simpa using Hd.out), hb⟩
end Go.Proofs.YtjamjkjmlckgeaaGreatDoor
namespace Go.Proofs.YtjamjkjmlckgeaaGreatDoor
open Go.RowKit

theorem TFlds : SlT Tryz.prog 2 43 108 32 := SlT.mk' Tryz.underlying43 (by kernel_rfl : (Tryz.prog.info? 108).map (fun i => (i.zero, i.size, i.bytes)) = some (some (.agg #[.string ⟨#[]⟩, .string ⟨#[]⟩]), 2, 32)) rfl
theorem cloneFld_ok (M : Nat → Prop) (v : Value) (l : List Mb.Fld) (w : World) (h : SlR fldC M w v l) (hn : l.length ≤ 1000000) : Calls Tryz.prog 93 #[v] w fun e w' =>
    ∃ v', e = .returned v' ∧ Own fldC M w' w.heap.size 108 v' l ∧ Below w.heap.size w w' := by
  obtain ⟨A, c, rfl, _, _⟩ := h.form
  have hnil := fun w => Lib.run_eql_slice_nil (P := Tryz.prog) w 43 108 A l.length c 0 0 Tryz.underlying43
  rcases A with _ | ad
  · go_enter Tryz.func93, Tryz.ntmps93
    go_wp2
    go_ret
    obtain rfl : l = [] := List.eq_nil_of_length_eq_zero (Nat.eq_zero_of_not_pos fun h0 => by obtain ⟨_, _, _, h', _⟩ := h.at_ h0; cases h')
    exact ⟨_, rfl, Own.nil _ _ _ _ _, Below.refl _ _⟩
  · go_enter Tryz.func93, Tryz.ntmps93
    go_wp2_with (at_builtin; refine wpList_append_Own fldC (M := M) (B := w.heap.size) (l := []) (l' := l) TFlds rfl (.tmp 5) (.tmp 6) rfl rfl (Own.built (cs := []) _ (Els.nil _ _ _) (Nat.le_refl _) (Nat.zero_le _)) rfl ?_ ?_ ?_ ?_ ?_)
    case refine_1 =>
      refine (h.sub fun b hb hor => ?_).ext ((Below.refl _ _).alloc (Nat.le_refl _) _)
      rcases hor with h' | h'
      · exact h'
      · have h2 : w.heap.size = b := by simpa [Act.eval, Value.ownBlock] using h'
        omega
    case refine_2 => simp [maxLen]; omega
    case refine_3 => simp; omega
    case refine_4 => simp
    case refine_5 =>
      intro A' c' L w' hL hown _ hg hor
      obtain rfl : L = l := by simpa using hL.out
      go_wp2
      go_ret
      refine ⟨_, rfl, hown, ((Below.refl _ _).alloc (Nat.le_refl _) _).grown hg (by simp) fun k hk => ?_⟩
      simp [Value.ownBlock] at hk; omega
theorem TGns : SlT Tryz.prog 2 24 82 16 := SlT.mk' Tryz.underlying24 (by kernel_rfl : (Tryz.prog.info? 82).map (fun i => (i.zero, i.size, i.bytes)) = some (some (.agg #[.int .i64 0, .int .i64 0]), 2, 16)) rfl
theorem cloneGn_ok (M : Nat → Prop) (v : Value) (l : List Mb.Gn) (w : World) (h : SlR gnC M w v l) (hn : l.length ≤ 1000000) : Calls Tryz.prog 92 #[v] w fun e w' =>
    ∃ v', e = .returned v' ∧ Own gnC M w' w.heap.size 82 v' l ∧ Below w.heap.size w w' := by
  obtain ⟨A, c, rfl, _, _⟩ := h.form
  have hnil := fun w => Lib.run_eql_slice_nil (P := Tryz.prog) w 24 82 A l.length c 0 0 Tryz.underlying24
  rcases A with _ | ad
  · go_enter Tryz.func92, Tryz.ntmps92
    go_wp2
    go_ret
    obtain rfl : l = [] := List.eq_nil_of_length_eq_zero (Nat.eq_zero_of_not_pos fun h0 => by obtain ⟨_, _, _, h', _⟩ := h.at_ h0; cases h')
    exact ⟨_, rfl, Own.nil _ _ _ _ _, Below.refl _ _⟩
  · go_enter Tryz.func92, Tryz.ntmps92
    go_wp2_with (at_builtin; refine wpList_append_Own gnC (M := M) (B := w.heap.size) (l := []) (l' := l) TGns rfl (.tmp 5) (.tmp 6) rfl rfl (Own.built (cs := []) _ (Els.nil _ _ _) (Nat.le_refl _) (Nat.zero_le _)) rfl ?_ ?_ ?_ ?_ ?_)
    case refine_1 =>
      refine (h.sub fun b hb hor => ?_).ext ((Below.refl _ _).alloc (Nat.le_refl _) _)
      rcases hor with h' | h'
      · exact h'
      · have h2 : w.heap.size = b := by simpa [Act.eval, Value.ownBlock] using h'
        omega
    case refine_2 => simp [maxLen]; omega
    case refine_3 => simp; omega
    case refine_4 => simp
    case refine_5 =>
      intro A' c' L w' hL hown _ hg hor
      obtain rfl : L = l := by simpa using hL.out
      go_wp2
      go_ret
      refine ⟨_, rfl, hown, ((Below.refl _ _).alloc (Nat.le_refl _) _).grown hg (by simp) fun k hk => ?_⟩
      simp [Value.ownBlock] at hk; omega
theorem TEnts : SlT Tryz.prog 6 23 65 80 := SlT.mk' Tryz.underlying23 (by kernel_rfl : (Tryz.prog.info? 65).map (fun i => (i.zero, i.size, i.bytes)) = some (some (.agg #[.int .i64 0, .int .i64 0, .int .i64 0, .int .i64 0, .slice none 0 0, .slice none 0 0]), 6, 80)) rfl
theorem cloneEnt_ok (M : Nat → Prop) (v : Value) (l : List Mb.Ent) (w : World) (h : SlR entC M w v l) (hn : l.length ≤ 1000000) : Calls Tryz.prog 91 #[v] w fun e w' =>
    ∃ v', e = .returned v' ∧ Own entC M w' w.heap.size 65 v' l ∧ Below w.heap.size w w' := by
  obtain ⟨A, c, rfl, _, _⟩ := h.form
  have hnil := fun w => Lib.run_eql_slice_nil (P := Tryz.prog) w 23 65 A l.length c 0 0 Tryz.underlying23
  rcases A with _ | ad
  · go_enter Tryz.func91, Tryz.ntmps91
    go_wp2
    go_ret
    obtain rfl : l = [] := List.eq_nil_of_length_eq_zero (Nat.eq_zero_of_not_pos fun h0 => by obtain ⟨_, _, _, h', _⟩ := h.at_ h0; cases h')
    exact ⟨_, rfl, Own.nil _ _ _ _ _, Below.refl _ _⟩
  · go_enter Tryz.func91, Tryz.ntmps91
    go_wp2_with (at_builtin; refine wpList_append_Own entC (M := M) (B := w.heap.size) (l := []) (l' := l) TEnts rfl (.tmp 5) (.tmp 6) rfl rfl (Own.built (cs := []) _ (Els.nil _ _ _) (Nat.le_refl _) (Nat.zero_le _)) rfl ?_ ?_ ?_ ?_ ?_)
    case refine_1 =>
      refine (h.sub fun b hb hor => ?_).ext ((Below.refl _ _).alloc (Nat.le_refl _) _)
      rcases hor with h' | h'
      · exact h'
      · have h2 : w.heap.size = b := by simpa [Act.eval, Value.ownBlock] using h'
        omega
    case refine_2 => simp [maxLen]; omega
    case refine_3 => simp; omega
    case refine_4 => simp
    case refine_5 =>
      intro A' c' L w' hL hown _ hg hor
      obtain rfl : L = l := by simpa using hL.out
      go_wp2
      go_ret
      refine ⟨_, rfl, hown, ((Below.refl _ _).alloc (Nat.le_refl _) _).grown hg (by simp) fun k hk => ?_⟩
      simp [Value.ownBlock] at hk; omega
theorem TSns : SlT Tryz.prog 2 38 84 16 := SlT.mk' Tryz.underlying38 (by kernel_rfl : (Tryz.prog.info? 84).map (fun i => (i.zero, i.size, i.bytes)) = some (some (.agg #[.int .i64 0, .int .i64 0]), 2, 16)) rfl
theorem cloneSn_ok (M : Nat → Prop) (v : Value) (l : List Mb.Gn) (w : World) (h : SlR gnC M w v l) (hn : l.length ≤ 1000000) : Calls Tryz.prog 65 #[v] w fun e w' =>
    ∃ v', e = .returned v' ∧ Own gnC M w' w.heap.size 84 v' l ∧ Below w.heap.size w w' := by
  obtain ⟨A, c, rfl, _, _⟩ := h.form
  have hnil := fun w => Lib.run_eql_slice_nil (P := Tryz.prog) w 38 84 A l.length c 0 0 Tryz.underlying38
  rcases A with _ | ad
  · go_enter Tryz.func65, Tryz.ntmps65
    go_wp2
    go_ret
    obtain rfl : l = [] := List.eq_nil_of_length_eq_zero (Nat.eq_zero_of_not_pos fun h0 => by obtain ⟨_, _, _, h', _⟩ := h.at_ h0; cases h')
    exact ⟨_, rfl, Own.nil _ _ _ _ _, Below.refl _ _⟩
  · go_enter Tryz.func65, Tryz.ntmps65
    go_wp2_with (at_builtin; refine wpList_append_Own gnC (M := M) (B := w.heap.size) (l := []) (l' := l) TSns rfl (.tmp 5) (.tmp 6) rfl rfl (Own.built (cs := []) _ (Els.nil _ _ _) (Nat.le_refl _) (Nat.zero_le _)) rfl ?_ ?_ ?_ ?_ ?_)
    case refine_1 =>
      refine (h.sub fun b hb hor => ?_).ext ((Below.refl _ _).alloc (Nat.le_refl _) _)
      rcases hor with h' | h'
      · exact h'
      · have h2 : w.heap.size = b := by simpa [Act.eval, Value.ownBlock] using h'
        omega
    case refine_2 => simp [maxLen]; omega
    case refine_3 => simp; omega
    case refine_4 => simp
    case refine_5 =>
      intro A' c' L w' hL hown _ hg hor
      obtain rfl : L = l := by simpa using hL.out
      go_wp2
      go_ret
      refine ⟨_, rfl, hown, ((Below.refl _ _).alloc (Nat.le_refl _) _).grown hg (by simp) fun k hk => ?_⟩
      simp [Value.ownBlock] at hk; omega
end Go.Proofs.YtjamjkjmlckgeaaGreatDoor
namespace Go.Proofs.YtjamjkjmlckgeaaGreatDoor
open Go.RowKit
section
variable {P : Program} {Q : Exit → Act → World → Prop} {ops : Array Oper} {md : Region.Mode} {S : World → Prop} {D : Nat → Bool}
theorem anyD_pick {fuel : Nat} {listed : Array Bool} {a : Act} {w : World} (l : List Nat) (hr : Region.ready md ops listed = l) (hne : l ≠ [])
    (h : ∀ j ∈ l, ∃ o, ops[j]? = some o ∧ o.guard = none ∧ ∀ K : Act → World → Prop, (∀ a w, (D j = false → S w) → anyD P md ops Q S D fuel (listed.setIfInBounds j true) a w → K a w) → o.wp P a w K Q) : anyD P md ops Q S D (fuel + 1) listed a w := by
  refine ⟨fun h0 => absurd (hr ▸ h0) hne, fun j hj => ?_⟩
  rw [hr] at hj
  obtain ⟨o, ho, hg, hk⟩ := h j hj
  unfold wpOp
  rw [ho]
  have hw : Region.wanted o (yielded ops a.tmps) = true := by simp [Region.wanted, hg]
  simp only [hw, if_true]
  exact .inl (hk _ fun a w h1 h2 => ⟨h1, h2⟩)
end
end Go.Proofs.YtjamjkjmlckgeaaGreatDoor
