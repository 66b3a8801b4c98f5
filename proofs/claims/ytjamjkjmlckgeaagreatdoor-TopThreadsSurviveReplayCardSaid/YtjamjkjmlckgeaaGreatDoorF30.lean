/-
  Contracts and plain facts, one after another: The reference's In; The reference's LettersFault; threads.parents.
-/
import Derived.Test.YtjamjkjmlckgeaaGreatDoorF1
import Derived.Test.YtjamjkjmlckgeaaGreatDoorF55
import Derived.Test.YtjamjkjmlckgeaaGreatDoorF6
import Derived.Deep.QuietTactic
import Derived.BigQuiet
import Derived.Deep.RegionHeld3
import Derived.IntWalk
namespace Go.Proofs.YtjamjkjmlckgeaaGreatDoor
open Go.RowKit

end Go.Proofs.YtjamjkjmlckgeaaGreatDoor
namespace Go.Proofs.YtjamjkjmlckgeaaGreatDoor
open Go.RowKit
set_option linter.unusedVariables false
end Go.Proofs.YtjamjkjmlckgeaaGreatDoor
namespace Go.Proofs.YtjamjkjmlckgeaaGreatDoor
open Go.RowKit
set_option linter.unusedVariables false
theorem lastOf_snoc (x : Letter) (r : Str) : ∀ l : List Letter, Th.lastOf (l ++ [x]) r = if x.1 == r then some l.length else Th.lastOf l r
  | [] => by simp [Th.lastOf]
  | y :: l => by
    rw [List.cons_append, Th.lastOf, lastOf_snoc x r l, Th.lastOf]
    cases h : x.1 == r with
    | true => simp
    | false => simp
theorem lastOf_lt (r : Str) : ∀ (l : List Letter) (k : Nat), Th.lastOf l r = some k → k < l.length
  | [], k, h => by cases h
  | y :: l, k, h => by
    rw [Th.lastOf] at h
    cases hl : Th.lastOf l r with
    | some j =>
      rw [hl] at h
      injection h with h
      have := lastOf_lt r l j hl
      simp; omega
    | none =>
      rw [hl] at h
      simp only at h
      split at h
      · injection h with h; simp; omega
      · cases h
def atM (l : List Letter) (k : Nat) (s : Str) : Option Value := (Th.lastOf (l.take k) s).map fun i => .int .i64 (i : Int)
theorem atM_succ (l : List Letter) (k : Nat) (hk : k < l.length) : updM (atM l k) l[k].1 (.int .i64 (k : Int)) = atM l (k + 1) := by
  funext s
  unfold updM atM
  rw [List.take_succ_eq_append_getElem hk, lastOf_snoc]
  have hl : (l.take k).length = k := by rw [List.length_take]; omega
  by_cases h : s = l[k].1
  · rw [if_pos h]; subst h; simp [hl]
  · rw [if_neg h]
    have : (l[k].1 == s) = false := by simpa using fun e => h e.symm
    simp [this]
theorem zero_int (w : World) : (zeroValue 3).run Tryz.prog w = .ok (.int .i64 0) w := by kernel_rfl
theorem make_ints (B n : Nat) (w : World) (hn : n ≤ 4000000) (hB : B ≤ w.heap.size) : ∃ w1, (Instr.makeSlice 54 (.int .i64 (n : Int)) (.int .i64 (n : Int))).run Tryz.prog w = .ok (.slice (some ⟨w.heap.size, 0, none⟩) n n) w1 ∧
    Own intC M0 w1 B 3 (.slice (some ⟨w.heap.size, 0, none⟩) n n) (List.replicate n 0) ∧ Below w.heap.size w w1 ∧ w.heap.size < w1.heap.size := by
  obtain ⟨i, hi, hz, h1, h2⟩ := info_parts (by kernel_rfl : (Tryz.prog.info? 3).map (fun i => (i.zero, i.size, i.bytes)) = some (some (.int .i64 0), 1, 8))
  obtain ⟨w1, hmk, hown, hgr⟩ := run_makeSlice_full (P := Tryz.prog) (w := w) B 54 3 i (.int .i64 0) 1 Tryz.underlying54 hi hz h1 .i64 .i64 n (by omega) (by rw [h2]; omega) (by unfold maxLen; omega) hB
  rw [Nat.mul_one, show madeCells (Value.int .i64 0).cells n = madeCells #[.int .i64 0] n from rfl, toList_madeCells_one] at hown
  have how : Own intC M0 w1 B 3 (.slice (some ⟨w.heap.size, 0, none⟩) n n) (List.replicate n 0) := by
    refine ⟨List.replicate n (.int .i64 0), by rw [List.length_replicate]; exact hown, by simp [intC], fun j hj => ?_⟩
    have hj' : j < n := by simpa using hj
    rw [List.getElem_replicate, List.drop_replicate, List.take_replicate]
    have : min intC.n (n - j * intC.n) = 1 := by show min 1 (n - j * 1) = 1; omega
    rw [this]
    exact ⟨rfl, by omega, by omega⟩
  exact ⟨w1, hmk, how, (Below.refl _ _).grown hgr (Nat.le_refl _) (fun b h => by cases h), how.lt _ rfl⟩
theorem look_at {w : World} {b : Nat} {l : List Letter} {k : Nat} (h : MapAt .string strK w b (atM l k)) (s : Str) (ty : TypeId) (hty : ty = 154) :
    (Instr.lookup ty (.map (some b)) (.string (bs s)) true).run Tryz.prog w = .ok (.tuple #[.int .i64 (((Th.lastOf (l.take k) s).getD 0 : Nat) : Int), .bool (Th.lastOf (l.take k) s).isSome]) w := by
  subst hty
  cases hm : Th.lastOf (l.take k) s with
  | some i => exact h.look_some Tryz.underlying154 Tryz.underlying9 (k := s) (v := .int .i64 (i : Int)) (by unfold atM; rw [hm]; rfl) true
  | none => exact h.look_none Tryz.underlying154 Tryz.underlying9 (zero_int w) (k := s) (by unfold atM; rw [hm]; rfl) true
theorem cell_ext {w w' : World} (hb : Below w.heap.size w w') {a : Addr} {v : Value} (h : w.cell? a = some v) : w'.cell? a = some v := (hb.cell (World.block_lt_of_cell? w a h)).trans h
/-- a row under way -/
def Row (l : List Letter) (k : Nat) (L : List Int) : Prop := L.length = l.length ∧ ∀ (j : Nat) (hj : j < l.length), j < k → L[j]? = some (Th.parentOf l l[j])
theorem Row.set {l : List Letter} {k : Nat} {L : List Int} (h : Row l k L) (p : Int) : Row l k (L.set k p) := ⟨by rw [List.length_set, h.1], fun j hj hjk => by rw [List.getElem?_set_ne (by omega)]; exact h.2 j hj hjk⟩
theorem Row.next {l : List Letter} {k : Nat} {L : List Int} (h : Row l k L) (hk : k < l.length) : Row l (k + 1) (L.set k (Th.parentOf l l[k])) := ⟨by rw [List.length_set, h.1], fun j hj hjk => by
  by_cases e : j = k
  · subst e; rw [List.getElem?_set_self (by rw [h.1]; exact hk)]
  · rw [List.getElem?_set_ne (by omega)]; exact h.2 j hj (by omega)⟩
theorem Row.all {l : List Letter} {L : List Int} (h : Row l l.length L) : L = Th.parentsF l := by
  unfold Th.parentsF
  apply List.ext_getElem?
  intro j
  by_cases hj : j < l.length
  · rw [h.2 j hj hj, List.getElem?_map, List.getElem?_eq_getElem hj]; rfl
  · rw [List.getElem?_eq_none (by rw [h.1]; omega), List.getElem?_eq_none (by simp; omega)]
/-- the parent by the first j references -/
def parTo (l : List Letter) (x : Letter) (j : Nat) : Int := (x.2.1.take j).foldl (fun p r => Th.pickO (Th.refTo l x r) p) (-1)
theorem parTo_succ (l : List Letter) (x : Letter) (j : Nat) (hj : j < x.2.1.length) : parTo l x (j + 1) = Th.pickO (Th.refTo l x x.2.1[j]) (parTo l x j) := by
  unfold parTo
  rw [List.take_succ_eq_append_getElem hj, List.foldl_append]
  rfl
theorem parTo_all (l : List Letter) (x : Letter) : parTo l x x.2.1.length = Th.parentOf l x := by unfold parTo Th.parentOf; rw [List.take_length]
theorem refTo_eq (l : List Letter) (x : Letter) (r : Str) : Th.refTo l x r = match Th.lastOf l r with
  | some k => if (l[k]?.map fun y => Th.earlier y x) = some true then some k else none
  | none => none := rfl
set_option maxRecDepth 100000 in
set_option maxHeartbeats 4000000 in
theorem parents_ok (v : Value) (l : List Letter) (w : World) (h : SlR letterC M0 w v l) (hn : l.length ≤ 4000000) : Calls Tryz.prog 44 #[v] w fun e w' => ∃ (A : Option Addr) (c : Nat) (L : List Int), e = .returned (.slice A L.length c) ∧ Hid (L = Th.parentsF l) ∧ Own intC M0 w' w.heap.size 3 (.slice A L.length c) L ∧ Below w.heap.size w w' := by
  obtain ⟨A, c, rfl, _, _⟩ := h.form
  obtain ⟨hlc, hcm⟩ := h.lenM
  have m0 : MapAt .string strK (w.alloc (.map #[] 0)) w.heap.size (atM l 0) := by
    have := MapAt.made (d := .string) (enc := strK) w strK_inj strK_key
    have e : atM l 0 = fun _ => none := by funext s; simp [atM, Th.lastOf]
    rw [e]
    exact this
  have hbw0 : Below w.heap.size w (w.alloc (.map #[] 0)) := (Below.refl _ _).alloc (Nat.le_refl _) _
  have hmm := @run_makeMap Tryz.prog
  go_enter Tryz.func44, Tryz.ntmps44
  go_wp2
  go_loopw [16] (fun i wr => ∃ k : Nat, k ≤ l.length ∧ i = .int .i64 k ∧ MapAt .string strK wr w.heap.size (atM l k) ∧ Below w.heap.size w wr) (fun i _ => l.length - (intOf i).toNat)
  case atStart => exact ⟨0, Nat.zero_le _, rfl, m0, hbw0⟩
  case round =>
    obtain ⟨k, hk, rfl, mk, hb⟩ := hrel
    clear m0 hbw0
    by_cases hlt : k < l.length
    · obtain ⟨bb, off, A2, c2, rfl, _, _, p0, p1, p2, hil, hrs, ht1, ht2⟩ := (h.ext hb).letterAt hlt
      have hsu := atM_succ l k hlt
      obtain ⟨x, hx⟩ : ∃ x, l[k] = x := ⟨_, rfl⟩
      rw [hx] at p0 p1 p2 hsu
      obtain ⟨id, rs, ta⟩ := x
      dsimp only at p0 p1 p2 hsu
      have hbx0 := (Below.refl wr.heap.size wr).alloc (Nat.le_refl _) (.cells #[.string (bs id), .slice A2 rs.length c2, .int .i64 ta] 101)
      have hbx := hb.trans (hbx0.mono hb.size)
      have mk := mk.ext hbx0
      obtain ⟨w5, hrun5, mk5, hgr5, hsz5⟩ := mk.upd Tryz.underlying154 Tryz.underlying9 id (.int .i64 (k : Int))
      rw [hsu] at mk5
      unfold strK at hrun5
      clear hsu hx hrs hil
      go_wp2
      go_roundw
      case rel => exact ⟨k + 1, by omega, by go_num, mk5, hbx.grown hgr5 hbx.size (fun z hz => by injection hz with hz; omega)⟩
      case measure => simp [intOf]; omega
    · obtain rfl : k = l.length := by omega
      obtain ⟨wm, hmk, hown, hbm, hltm⟩ := make_ints w.heap.size l.length wr hn hb.size
      have hmap := mk.ext hbm
      have hbw := hb.trans (hbm.mono hb.size)
      obtain ⟨g, hg⟩ : ∃ g, g = wr.heap.size := ⟨_, rfl⟩
      rw [← hg] at hmk hown hltm
      have hgm : w.heap.size < g := by have := mk.lt; omega
      have hrow : Row l 0 (List.replicate l.length 0) := ⟨by simp, fun j _ h => absurd h (by omega)⟩
      have Hg := Lib.hid hg
      clear hbm mk hb hg
      go_wp2
      clear hmk
      go_loopw [31] (fun i wr => ∃ (k : Nat) (L : List Int), k ≤ l.length ∧ i = .int .i64 k ∧ Hid (Row l k L) ∧ Own intC M0 wr w.heap.size 3 (.slice (some ⟨g, 0, none⟩) l.length l.length) L ∧ MapAt .string strK wr w.heap.size (atM l l.length) ∧ Below w.heap.size w wr) (fun i _ => l.length - (intOf i).toNat)
      case atStart => exact ⟨0, _, Nat.zero_le _, rfl, Lib.hid hrow, hown, hmap, hbw⟩
      case round =>
        obtain ⟨k, L, hk, rfl, hR, how, mk, hb⟩ := hrel
        clear hown hmap hbw hltm
        by_cases hlt : k < l.length
        · obtain ⟨bb, off, A2, c2, rfl, _, _, p0, p1, p2, hil, hrs, ht1, ht2⟩ := h.letterAt hlt
          have hnx := fun (L : List Int) (hL : Row l k L) => hL.next hlt
          obtain ⟨x, hx⟩ : ∃ x, l[k] = x := ⟨_, rfl⟩
          rw [hx] at p0 p1 p2 hrs hnx
          have hpz : parTo l x 0 = -1 := rfl
          have hpa := parTo_all l x
          have hps := fun j hj => parTo_succ l x j hj
          obtain ⟨id, rs, ta⟩ := x
          dsimp only at p0 p1 p2 hrs hpa hps
          obtain ⟨hlr, hcr⟩ := hrs.lenM
          have q0 := cell_ext hb p0
          have q1 := cell_ext hb p1
          have q2 := cell_ext hb p2
          have hglt := how.lt g rfl
          have hbx0 := (Below.refl wr.heap.size wr).alloc (Nat.le_refl _) (.cells #[.string (bs id), .slice A2 rs.length c2, .int .i64 ta] 101)
          have hbx := hb.trans (hbx0.mono hb.size)
          obtain ⟨g', c', cur, hv, _, _, hBg, hblk, _⟩ := how.blk (by rw [hR.out.1]; omega)
          injection hv with hv1 hv2 hv3
          injection hv1 with hv1
          injection hv1 with hv1 hv4
          subst hv1
          have hcell : ∃ u, wr.cell? ⟨g, k, none⟩ = some u := by
            obtain ⟨_, _, he, _, _, hc, _⟩ := how.read0.intAt (k := k) (by rw [hR.out.1]; exact hlt)
            injection he with he
            injection he with he1 he2
            subst he1 he2
            rw [Nat.zero_add] at hc
            exact ⟨_, hc⟩
          obtain ⟨u0, hcell0⟩ := hcell
          have hcell := cell_ext hbx0 hcell0
          have hfz := (hblk.ext hbx0).frozen k
          have hput0 := how.put1 rfl (k := k) (by rw [hR.out.1]; exact hlt) (u := .int .i64 (-1)) (a := -1) ⟨rfl, by omega, by omega⟩
          have hsz1 : (wr.setCell ⟨g, k, none⟩ (.int .i64 (-1))).heap.size = wr.heap.size := by simp
          have hb2 : Below (wr.setCell ⟨g, k, none⟩ (.int .i64 (-1))).heap.size (wr.setCell ⟨g, k, none⟩ (.int .i64 (-1))) ((wr.setCell ⟨g, k, none⟩ (.int .i64 (-1))).alloc (.cells #[.string (bs id), .slice A2 rs.length c2, .int .i64 ta] 101)) := (Below.refl _ _).alloc (Nat.le_refl _) _
          have hput := hput0.ext hb2
          have mk1 := (mk.far (p := ⟨g, k, none⟩) (by show w.heap.size ≠ g; omega) (.int .i64 (-1))).ext hb2
          have kx1 := Blk.new (wr.setCell ⟨g, k, none⟩ (.int .i64 (-1))) 101 #[.string (bs id), .slice A2 rs.length c2, .int .i64 ta]
          rw [hsz1] at kx1
          have hb1 := (hb.setCell (p := ⟨g, k, none⟩) (by show w.heap.size ≤ g; omega) (.int .i64 (-1))).trans (hb2.mono (by rw [hsz1]; exact hb.size))
          obtain ⟨x0, x1, x2, _, _, _, _⟩ := kx1.three
          have Hcell := Lib.hid hcell
          have Hx := Lib.hid hx; have Hnx := Lib.hid hnx; have Hpz := Lib.hid hpz; have Hpa := Lib.hid hpa; have Hps := Lib.hid hps
          clear hx hnx hpz hpa hps hv4 hv2 hv3 how mk hbx0 hblk hb hput0 hb2 hsz1 hcell0
          go_wp2
          generalize World.alloc (World.setCell _ _ _) _ = W1 at kx1 mk1 hb1 hput x0 x1 x2 ⊢
          clear hcell Hcell hfz
          obtain ⟨bx, hbxe⟩ : ∃ bx, wr.heap.size = bx := ⟨_, rfl⟩
          rw [hbxe] at kx1 x0 x1 x2 hglt ⊢
          clear hbx hbxe q0 q1 q2
          go_loopw [42] (fun i wz => ∃ (j : Nat) (L2 : List Int), j ≤ rs.length ∧ i = .int .i64 j ∧ Hid (L2 = L.set k (parTo l (id, rs, ta) j)) ∧ Own intC M0 wz w.heap.size 3 (.slice (some ⟨g, 0, none⟩) l.length l.length) L2 ∧ MapAt .string strK wz w.heap.size (atM l l.length) ∧ Blk wz bx 101 #[.string (bs id), .slice A2 rs.length c2, .int .i64 ta] ∧ Below w.heap.size w wz) (fun i _ => rs.length - (intOf i).toNat)
          case atStart => exact ⟨0, L.set k (-1), Nat.zero_le _, rfl, Lib.hid (by rw [Hpz.out]), hput, mk1, kx1, hb1⟩
          case round =>
            obtain ⟨j, L2, hj, rfl, hL2, how, mkz, kz, hbz⟩ := hrel
            clear x0 x1 x2 kx1 mk1 hb1 hput
            by_cases hjl : j < rs.length
            · obtain ⟨b3, off3, rfl, _, _, hc3, _⟩ := (hrs.ext hbz).strAt hjl
              have hstep := Hps.out j hjl
              obtain ⟨r, hr⟩ : ∃ r, rs[j] = r := ⟨_, rfl⟩
              rw [hr] at hc3 hstep
              have hlk := look_at mkz r _ rfl
              rw [List.take_length] at hlk
              rw [refTo_eq] at hstep
              cases hlo : Th.lastOf l r with
              | none =>
                rw [hlo] at hlk hstep
                have Hlk := Lib.hid hlk; have Hst := Lib.hid hstep
                clear hlk hstep hr hlo
                have hlk := Hlk.out
                simp only [Option.getD_none, Option.isSome_none] at hlk
                go_wp2
                go_quiet (fail)
                go_wp2
                go_roundw
                case rel => exact ⟨j + 1, L2, by omega, by go_num, Lib.hid (by rw [hL2.out, Hst.out]; rfl), how.ext (below_drewN' _ _ _), mkz.ext (below_drewN' _ _ _), kz.ext (below_drewN' _ _ _), hbz.trans (below_drewN' _ _ _)⟩
                case measure => simp [intOf]; omega
              | some kk =>
                have hkl := lastOf_lt r l kk hlo
                obtain ⟨bb2, off2, A3, c3, hA, _, _, r0, r1, r2, _, _, _, _⟩ := (h.ext hbz).letterAt hkl
                injection hA with hA
                injection hA with hA1 hA2
                subst hA1 hA2
                rw [hlo] at hlk hstep
                have hge : l[kk]? = some l[kk] := List.getElem?_eq_getElem hkl
                dsimp only at hstep
                rw [hge, Option.map_some] at hstep
                obtain ⟨y, hy⟩ : ∃ y, l[kk] = y := ⟨_, rfl⟩
                rw [hy] at r0 r1 r2 hstep
                obtain ⟨yi, yr, yt⟩ := y
                dsimp only at r0 r1 r2
                have hoc := fun W => order_ok (yi, yr, yt) (id, rs, ta) (.slice A3 yr.length c3) (.slice (some ⟨b3, off3, none⟩) rs.length c2) W
                obtain ⟨o, ho⟩ : ∃ o, Th.ordF (yi, yr, yt) (id, rs, ta) = o := ⟨_, rfl⟩
                have hol := Th.ord_lt (yi, yr, yt) (id, rs, ta)
                rw [ho] at hoc hol
                rw [← hol] at hstep
                unfold letV at hoc
                dsimp only at hoc
                have hS : ∀ W, Below wr.heap.size wr W → W.cell? ⟨bb, off + kk * 3, none⟩ = some (.string (bs yi)) ∧ W.cell? ⟨bb, off + kk * 3 + 1, none⟩ = some (.slice A3 yr.length c3) ∧ W.cell? ⟨bb, off + kk * 3 + 2, none⟩ = some (.int .i64 yt) ∧ W.cell? ⟨bx, 0, none⟩ = some (.string (bs id)) ∧ W.cell? ⟨bx, 1, none⟩ = some (.slice (some ⟨b3, off3, none⟩) rs.length c2) ∧ W.cell? ⟨bx, 2, none⟩ = some (.int .i64 ta) := fun W hW => by
                  obtain ⟨x0, x1, x2, _, _, _, _⟩ := (kz.ext hW).three
                  exact ⟨cell_ext hW r0, cell_ext hW r1, cell_ext hW r2, x0, x1, x2⟩
                have HS := Lib.hid hS
                have hS0 := HS.out _ (below_drewN' wr.heap.size wr 1)
                have hltl : (kk : Int) < (l.length : Int) := by omega
                have hk0 : (0 : Int) ≤ (kk : Int) := by omega
                have hkw : IntKind.i64.wrap (kk : Int) = (kk : Int) := IntWalk.i64_in _ (by omega)
                have Hoc := Lib.hid hoc; have Hst := Lib.hid hstep
                simp only [Option.getD_some, Option.isSome_some] at hlk
                clear hoc hstep hr hlo hge hy ho hol hS
                go_wp2
                go_region_held3 (fun W => W.cell? ⟨bb, off + kk * 3, none⟩ = some (.string (bs yi)) ∧ W.cell? ⟨bb, off + kk * 3 + 1, none⟩ = some (.slice A3 yr.length c3) ∧ W.cell? ⟨bb, off + kk * 3 + 2, none⟩ = some (.int .i64 yt) ∧ W.cell? ⟨bx, 0, none⟩ = some (.string (bs id)) ∧ W.cell? ⟨bx, 1, none⟩ = some (.slice (some ⟨b3, off3, none⟩) rs.length c2) ∧ W.cell? ⟨bx, 2, none⟩ = some (.int .i64 ta)) (first | exact hS0 | exact hS2) ((go_at_call 77; refine (Hoc.out _).mono ?_; rintro e w2 ⟨rfl, hb2⟩; have hb12 : Below wr.heap.size wr w2 := Below.trans (below_drewN' wr.heap.size wr 1) hb2; have hS2 := HS.out _ hb12))
                have hw2 := how.ext hb12
                have mk2 := mkz.ext hb12
                have kx2 := kz.ext hb12
                have hbw2 := hbz.trans (hb12.mono hbz.size)
                have hL2l : L2.length = l.length := by rw [hL2.out, List.length_set]; exact hR.out.1
                by_cases ho : o < 0
                · have hst := Hst.out
                  rw [decide_eq_true ho] at hst
                  simp only [if_true] at hst
                  have hpk : parTo l (id, rs, ta) (j + 1) = (kk : Int) := hst
                  have Hpk := Lib.hid hpk
                  obtain ⟨g', c', cur, hv, _, _, hBg, hblk, _⟩ := hw2.blk (by rw [hL2l]; omega)
                  injection hv with hv1 hv2 hv3
                  injection hv1 with hv1
                  injection hv1 with hv1 hv4
                  subst hv1
                  have hcell : ∃ u, w2.cell? ⟨g, k, none⟩ = some u := by
                    obtain ⟨_, _, he, _, _, hc, _⟩ := hw2.read0.intAt (k := k) (by rw [hL2l]; exact hlt)
                    injection he with he
                    injection he with he1 he2
                    subst he1 he2
                    rw [Nat.zero_add] at hc
                    exact ⟨_, hc⟩
                  obtain ⟨u0, hcell⟩ := hcell
                  have hfz := hblk.frozen k
                  have hput := hw2.put1 rfl (k := k) (by rw [hL2l]; exact hlt) (u := .int .i64 (kk : Int)) (a := (kk : Int)) ⟨rfl, by omega, by omega⟩
                  have mk3 := mk2.far (p := ⟨g, k, none⟩) (by show w.heap.size ≠ g; omega) (.int .i64 (kk : Int))
                  have kx3 := kx2.far (p := ⟨g, k, none⟩) (by show bx ≠ g; omega) (.int .i64 (kk : Int))
                  have hbw3 := hbw2.setCell (p := ⟨g, k, none⟩) (by show w.heap.size ≤ g; omega) (.int .i64 (kk : Int))
                  clear hst hpk hblk hw2 mk2 kx2 hv2 hv3 hv4 hS0
                  have hlss : decide (o < 0) = true := decide_eq_true ho
                  go_wp2
                  go_roundw
                  case rel => exact ⟨j + 1, L2.set k (kk : Int), by omega, by go_num, Lib.hid (by rw [hL2.out, Hpk.out, List.set_set]), hput, mk3, kx3, hbw3⟩
                  case measure => simp [intOf]; omega
                · have hst := Hst.out
                  rw [decide_eq_false ho] at hst
                  have hpk : parTo l (id, rs, ta) (j + 1) = parTo l (id, rs, ta) j := by rw [hst]; rfl
                  have Hpk := Lib.hid hpk
                  have hlss : decide (o < 0) = false := decide_eq_false ho
                  clear hst hpk hS0
                  go_wp2
                  go_roundw
                  case rel => exact ⟨j + 1, L2, by omega, by go_num, Lib.hid (by rw [hL2.out, Hpk.out]), hw2, mk2, kx2, hbw2⟩
                  case measure => simp [intOf]; omega
            · obtain rfl : j = rs.length := by omega
              have hnext := Hnx.out L hR.out
              rw [← Hpa.out, ← hL2.out] at hnext
              have Hnext := Lib.hid hnext
              clear hnext
              go_wp2
              go_roundw
              case rel => exact ⟨k + 1, L2, by omega, by go_num, Hnext, how, mkz, hbz⟩
              case measure => simp [intOf]; omega
        · obtain rfl : k = l.length := by omega
          have hL := Row.all hR.out
          have hll := hR.out.1
          have HL := Lib.hid hL; have Hll := Lib.hid hll
          clear hL hll
          go_wp2
          go_ret
          exact ⟨some ⟨g, 0, none⟩, l.length, L, by rw [Hll.out]; rfl, HL, by rw [Hll.out]; exact how, hb⟩
end Go.Proofs.YtjamjkjmlckgeaaGreatDoor
