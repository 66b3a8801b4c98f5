/-
  threads.Validate.
-/
import Derived.Test.YtjamjkjmlckgeaaGreatDoorF29
import Derived.Test.YtjamjkjmlckgeaaGreatDoorF6
namespace Go.Proofs.YtjamjkjmlckgeaaGreatDoor
open Go.RowKit
set_option linter.unusedVariables false
def letterC : Codec Letter := pairC strC (pairC (sliceC strC) intC)
theorem SlR.letterAt {M : Nat → Prop} {w : World} {A : Option Addr} {n c : Nat} {l : List Letter} (h : SlR letterC M w (.slice A n c) l) {k : Nat} (hk : k < l.length) :
    ∃ b off A2 c2, A = some ⟨b, off, none⟩ ∧ ¬ M b ∧ b < w.heap.size ∧ w.cell? ⟨b, off + k * 3, none⟩ = some (.string (bs l[k].1)) ∧ w.cell? ⟨b, off + k * 3 + 1, none⟩ = some (.slice A2 l[k].2.1.length c2) ∧ w.cell? ⟨b, off + k * 3 + 2, none⟩ = some (.int .i64 l[k].2.2) ∧
      l[k].1.length ≤ maxLen ∧ SlR strC M w (.slice A2 l[k].2.1.length c2) l[k].2.1 ∧ -9223372036854775808 ≤ l[k].2.2 ∧ l[k].2.2 ≤ 9223372036854775807 := by
  obtain ⟨b, off, cs, rfl, hM, hb, ⟨c1, d1, rfl, ⟨rfl, h1⟩, ⟨c2, d2, rfl, ⟨v, rfl, hv⟩, ⟨rfl, h3⟩⟩⟩, hc⟩ := h.at_ hk
  obtain ⟨A2, c2, rfl, _⟩ := hv.form
  exact ⟨b, off, A2, c2, rfl, hM, hb, hc 0 _ rfl, hc 1 _ rfl, hc 2 _ rfl, h1, hv, h3⟩
theorem time_ok (t : Int) (w : World) : Calls Tryz.prog 41 #[.int .i64 t] w fun e w' => e = .returned (.bool (decide (-68719476736 ≤ t) && decide (t ≤ 68719476736))) ∧ w = w' := by
  by_cases h1 : -68719476736 ≤ t
  all_goals
    go_enter Tryz.func41, Tryz.ntmps41
    go_wp2
    go_ret
    exact ⟨ret_bool (by first | (simp; done) | (simp [h1]; done) | (simp; omega)), rfl⟩
def strK (s : Str) : Value := .string (bs s)
def seenM (l : List Letter) (k : Nat) (s : Str) : Option Value := if (l.take k).any (fun y => y.1 == s) then some (.bool true) else none
theorem seenM_succ (l : List Letter) (k : Nat) (hk : k < l.length) : updM (seenM l k) l[k].1 (.bool true) = seenM l (k + 1) := by
  funext s
  unfold updM seenM
  rw [List.take_succ_eq_append_getElem hk, List.any_append]
  by_cases h : s = l[k].1
  · rw [if_pos h]; subst h; simp
  · rw [if_neg h]
    have : (l[k].1 == s) = false := by simpa using fun e => h e.symm
    simp only [List.any_cons, List.any_nil, this, Bool.or_false]
theorem strK_inj (a b : Str) (h : strK a = strK b) : a = b := by
  unfold strK at h
  injection h with h
  exact bs_inj.1 h
theorem strK_key (a : Str) : Go.MapKept.IsKey .string (strK a) := by simp [strK, Go.MapKept.IsKey]
theorem zero_bool (w : World) : (zeroValue 4).run Tryz.prog w = .ok (.bool false) w := by kernel_rfl
theorem look_seen {w : World} {b : Nat} {l : List Letter} {k : Nat} (h : MapAt .string strK w b (seenM l k)) (s : Str) (ty : TypeId) (hty : ty = 144) :
    (Instr.lookup ty (.map (some b)) (.string (bs s)) false).run Tryz.prog w = .ok (.bool ((l.take k).any fun y => y.1 == s)) w := by
  subst hty
  cases hm : (l.take k).any fun y => y.1 == s with
  | true => exact h.look_some Tryz.underlying144 Tryz.underlying9 (k := s) (v := .bool true) (by unfold seenM; rw [if_pos hm]) false
  | false => exact h.look_none Tryz.underlying144 Tryz.underlying9 (zero_bool w) (k := s) (by unfold seenM; rw [hm]; rfl) false
theorem fault_at {l : List Letter} : ∀ (f k : Nat), k + f = l.length → k < l.length → Th.faultGo l f k = if Th.errOf (l.take k) (l[k]?.getD ([], [], 0)) = 0 then Th.faultGo l (f - 1) (k + 1) else (Th.errOf (l.take k) (l[k]?.getD ([], [], 0)), (k : Int))
  | 0, k, h, hk => by omega
  | f + 1, k, h, hk => by
    rw [Th.faultGo, List.getElem?_eq_getElem hk]
    rfl
set_option maxHeartbeats 4000000 in
theorem tvalidate_ok (v : Value) (l : List Letter) (w : World) (h : SlR letterC M0 w v l) : Calls Tryz.prog 37 #[v] w fun e w' => e = .returned (.agg #[.int .i64 (Th.lettersF l).1, .int .i64 (Th.lettersF l).2]) ∧ Below w.heap.size w w' := by
  obtain ⟨A, c, rfl, _, _⟩ := h.form
  obtain ⟨hlc, hcm⟩ := h.lenM
  have hfc := fun a b W => fault_ok a b W
  have Hfc := Lib.hid hfc
  clear hfc
  by_cases h300 : 300 < l.length
  · have hq : Th.lettersF l = (2, -1) := by unfold Th.lettersF; rw [if_pos h300]
    rw [hq]
    clear hq
    have hd : decide ((300 : Int) < (l.length : Int)) = true := by simp; omega
    go_enter Tryz.func37, Tryz.ntmps37
    go_wp2_with fail
    refine (Hfc.out 2 (-1) _).mono ?_
    rintro e w1 ⟨rfl, hb⟩
    have k1 := (Blk.new w 31 #[.int .i64 0, .int .i64 0]).ext hb
    have hbw := below_alloc hb
    obtain ⟨c0, c1, z0, z1, hlt⟩ := k1.two
    go_wp2
    obtain ⟨e0, e1⟩ := k1.put2 (.int .i64 2) (.int .i64 (-1))
    refine bodyPost_ret (v := .agg #[.int .i64 2, .int .i64 (-1)]) (by simp [results, Tryz.results37, go_sem, e0, e1]) rfl ⟨rfl, below_set2 hbw (Nat.le_refl _) _ _⟩
  · have hd : decide ((300 : Int) < (l.length : Int)) = false := by simp; omega
    obtain ⟨a, ha⟩ : ∃ a, (Th.lettersF l).1 = a := ⟨_, rfl⟩
    obtain ⟨b, hb⟩ : ∃ b, (Th.lettersF l).2 = b := ⟨_, rfl⟩
    have hF : Th.faultGo l l.length 0 = (a, b) := by
      have : Th.lettersF l = Th.faultGo l l.length 0 := by unfold Th.lettersF; rw [if_neg h300]
      rw [← this, ← ha, ← hb]
    rw [ha, hb]
    have HF := Lib.hid hF
    clear hF ha hb
    have hbw0 : Below w.heap.size w ((w.alloc (.cells #[.int .i64 0, .int .i64 0] 31)).alloc (.map #[] 0)) := ((Below.refl _ _).alloc (Nat.le_refl _) _).alloc (by simp) _
    have k0 := (Blk.new w 31 #[.int .i64 0, .int .i64 0]).alloc (.map #[] 0)
    have m0 : MapAt .string strK ((w.alloc (.cells #[.int .i64 0, .int .i64 0] 31)).alloc (.map #[] 0)) (w.heap.size + 1) (seenM l 0) := by
      have := MapAt.made (d := .string) (enc := strK) (w.alloc (.cells #[.int .i64 0, .int .i64 0] 31)) strK_inj strK_key
      have e : seenM l 0 = fun _ => none := by funext s; simp [seenM]
      rw [e]
      simpa using this
    have hmm := @run_makeMap Tryz.prog
    go_enter Tryz.func37, Tryz.ntmps37
    go_wp2
    go_loopw [13] (fun i wr => ∃ k : Nat, k ≤ l.length ∧ i = .int .i64 k ∧ Hid (Th.faultGo l (l.length - k) k = (a, b)) ∧ MapAt .string strK wr (w.heap.size + 1) (seenM l k) ∧ Blk wr w.heap.size 31 #[.int .i64 0, .int .i64 0] ∧ Below w.heap.size w wr) (fun i _ => l.length - (intOf i).toNat)
    case atStart => exact ⟨0, Nat.zero_le _, rfl, HF, m0, k0, hbw0⟩
    case round =>
      obtain ⟨k, hk, rfl, hst, mk, q0, hb⟩ := hrel
      clear m0 k0 hbw0
      by_cases hlt : k < l.length
      · obtain ⟨bb, off, A2, c2, rfl, _, _, p0, p1, p2, hil, hrs, ht1, ht2⟩ := (h.ext hb).letterAt hlt
        have hgo := fault_at (l := l) (l.length - k) k (by omega) hlt
        rw [hst.out, List.getElem?_eq_getElem hlt, Option.getD_some] at hgo
        have hsu := seenM_succ l k hlt
        obtain ⟨hl2, hm2⟩ := hrs.lenM
        obtain ⟨x, hx⟩ : ∃ x, l[k] = x := ⟨_, rfl⟩
        rw [hx] at p0 p1 p2 hil ht1 ht2 hgo hsu hl2
        obtain ⟨id, rs, ta⟩ := x
        dsimp only at p0 p1 p2 hil ht1 ht2 hsu hl2
        obtain ⟨ec, hec⟩ : ∃ ec, Th.errOf (l.take k) (id, rs, ta) = ec := ⟨_, rfl⟩
        rw [hec] at hgo
        unfold Th.errOf at hec
        dsimp only at hec
        have htm := fun W => time_ok ta W
        obtain ⟨Bx, hBx⟩ : ∃ B : Array Value, B = #[.string (bs id), .slice A2 rs.length c2, .int .i64 ta] := ⟨_, rfl⟩
        have hbx0 := (Below.refl wr.heap.size wr).alloc (Nat.le_refl _) (.cells #[.string (bs id), .slice A2 rs.length c2, .int .i64 ta] 101)
        have hbx := hb.trans (hbx0.mono hb.size)
        have q0 := q0.ext hbx0
        have mk := mk.ext hbx0
        have hlk := fun ty hty => look_seen mk id ty hty
        obtain ⟨sn, hsn⟩ : ∃ sn, ((l.take k).any fun y => y.1 == id) = sn := ⟨_, rfl⟩
        rw [hsn] at hlk hec
        have hlk2 := hlk _ rfl
        have hup := fun vv => mk.upd Tryz.underlying144 Tryz.underlying9 id vv
        obtain ⟨w5, hrun5, mk5, hgr5, hsz5⟩ := hup (.bool true)
        rw [hsu] at mk5
        have Hst := Lib.hid hgo.symm; have Hlk := Lib.hid hlk2; have Hrun5 := Lib.hid hrun5
        clear hlk hlk2 hup hrun5 hsn hsu hBx hgo hx hst
        by_cases he1 : id = []
        · subst he1
          have Hec : Hid (ec = 10) := Lib.hid (by rw [← hec]; simp)
          clear hec htm
          go_wp2_with fail
          refine (Hfc.out 10 (k : Int) _).mono ?_
          rintro e w2 ⟨rfl, hb2⟩
          have q1 := q0.ext hb2
          have hbw2 := hbx.trans (hb2.mono hbx.size)
          obtain ⟨c0, c1, z0, z1, hlt0⟩ := q1.two
          go_wp2
          obtain ⟨e0, e1⟩ := q1.put2 (.int .i64 10) (.int .i64 (k : Int))
          have hres := Hst.out
          rw [Hec.out] at hres
          have hres2 : a = 10 ∧ b = (k : Int) := by simpa using hres.symm
          obtain ⟨rfl, rfl⟩ := hres2
          exact bodyPost_ret (v := .agg #[.int .i64 10, .int .i64 (k : Int)]) (by simp [results, Tryz.results37, go_sem, e0, e1]) rfl ⟨rfl, below_set2 hbw2 (Nat.le_refl _) _ _⟩
        · have hne : id.isEmpty = false := by simpa using he1
          have hne2 : (id == []) = false := by simpa using he1
          by_cases he2 : 200 < id.length
          · have hd2 : decide ((200 : Int) < (id.length : Int)) = true := by simp; omega
            have Hec : Hid (ec = 10) := Lib.hid (by rw [← hec, if_pos (.inr he2)])
            clear hec htm
            go_wp2_with fail
            refine (Hfc.out 10 (k : Int) _).mono ?_
            rintro e w2 ⟨rfl, hb2⟩
            have q1 := q0.ext hb2
            have hbw2 := hbx.trans (hb2.mono hbx.size)
            obtain ⟨c0, c1, z0, z1, hlt0⟩ := q1.two
            go_wp2
            obtain ⟨e0, e1⟩ := q1.put2 (.int .i64 10) (.int .i64 (k : Int))
            have hres := Hst.out
            rw [Hec.out] at hres
            have hres2 : a = 10 ∧ b = (k : Int) := by simpa using hres.symm
            obtain ⟨rfl, rfl⟩ := hres2
            exact bodyPost_ret (v := .agg #[.int .i64 10, .int .i64 (k : Int)]) (by simp [results, Tryz.results37, go_sem, e0, e1]) rfl ⟨rfl, below_set2 hbw2 (Nat.le_refl _) _ _⟩
          · have hd2 : decide ((200 : Int) < (id.length : Int)) = false := by simp; omega
            rw [if_neg (by simp [he1]; omega)] at hec
            by_cases he3 : -68719476736 ≤ ta ∧ ta ≤ 68719476736
            · have htb : (decide (-68719476736 ≤ ta) && decide (ta ≤ 68719476736)) = true := by simp [he3]
              rw [if_neg (by simp [he3])] at hec
              have htm2 := fun W => (htm W).mono fun e w' hh => (⟨by rw [hh.1, htb], hh.2⟩ : e = .returned (.bool true) ∧ W = w')
              have Htm := Lib.hid htm2
              clear htm htm2 htb
              by_cases he4 : 30 < rs.length
              · have hd4 : decide ((30 : Int) < (rs.length : Int)) = true := by simp; omega
                have Hec : Hid (ec = 2) := Lib.hid (by rw [← hec, if_pos he4])
                clear hec
                go_wp2_with fail
                refine (Htm.out _).mono ?_
                rintro e w9 ⟨rfl, rfl⟩
                go_wp2_with fail
                refine (Hfc.out 2 (k : Int) _).mono ?_
                rintro e w2 ⟨rfl, hb2⟩
                have q1 := q0.ext hb2
                have hbw2 := hbx.trans (hb2.mono hbx.size)
                obtain ⟨c0, c1, z0, z1, hlt0⟩ := q1.two
                go_wp2
                obtain ⟨e0, e1⟩ := q1.put2 (.int .i64 2) (.int .i64 (k : Int))
                have hres := Hst.out
                rw [Hec.out] at hres
                have hres2 : a = 2 ∧ b = (k : Int) := by simpa using hres.symm
                obtain ⟨rfl, rfl⟩ := hres2
                exact bodyPost_ret (v := .agg #[.int .i64 2, .int .i64 (k : Int)]) (by simp [results, Tryz.results37, go_sem, e0, e1]) rfl ⟨rfl, below_set2 hbw2 (Nat.le_refl _) _ _⟩
              · have hd4 : decide ((30 : Int) < (rs.length : Int)) = false := by simp; omega
                rw [if_neg he4] at hec
                cases sn with
                | true =>
                  have Hec : Hid (ec = 7) := Lib.hid (by rw [← hec]; simp)
                  clear hec
                  have hlk := Hlk.out
                  go_wp2_with fail
                  refine (Htm.out _).mono ?_
                  rintro e w9 ⟨rfl, rfl⟩
                  go_wp2_with fail
                  refine (Hfc.out 7 (k : Int) _).mono ?_
                  rintro e w2 ⟨rfl, hb2⟩
                  have q1 := q0.ext hb2
                  have hbw2 := hbx.trans (hb2.mono hbx.size)
                  obtain ⟨c0, c1, z0, z1, hlt0⟩ := q1.two
                  go_wp2
                  obtain ⟨e0, e1⟩ := q1.put2 (.int .i64 7) (.int .i64 (k : Int))
                  have hres := Hst.out
                  rw [Hec.out] at hres
                  have hres2 : a = 7 ∧ b = (k : Int) := by simpa using hres.symm
                  obtain ⟨rfl, rfl⟩ := hres2
                  exact bodyPost_ret (v := .agg #[.int .i64 7, .int .i64 (k : Int)]) (by simp [results, Tryz.results37, go_sem, e0, e1]) rfl ⟨rfl, below_set2 hbw2 (Nat.le_refl _) _ _⟩
                | false =>
                  have Hec : Hid (ec = 0) := Lib.hid (by rw [← hec]; simp)
                  clear hec
                  have hlk := Hlk.out
                  have hrun := Hrun5.out
                  unfold strK at hrun
                  go_wp2_with fail
                  refine (Htm.out _).mono ?_
                  rintro e w9 ⟨rfl, rfl⟩
                  go_wp2
                  go_roundw
                  case rel =>
                    have hst2 := Hst.out
                    rw [if_pos Hec.out, show l.length - k - 1 = l.length - (k + 1) by omega] at hst2
                    exact ⟨k + 1, by omega, by go_num, Lib.hid hst2, mk5, q0.grown hgr5 (fun e => by injection e with e; omega), hbx.grown hgr5 hbx.size (fun z hz => by injection hz with hz; omega)⟩
                  case measure => simp [intOf]; omega
            · have htb : (decide (-68719476736 ≤ ta) && decide (ta ≤ 68719476736)) = false := by simp; omega
              have Hec : Hid (ec = 3) := Lib.hid (by rw [← hec, if_pos he3])
              have htm2 := fun W => (htm W).mono fun e w' hh => (⟨by rw [hh.1, htb], hh.2⟩ : e = .returned (.bool false) ∧ W = w')
              have Htm := Lib.hid htm2
              clear htm htm2 htb hec
              go_wp2_with fail
              refine (Htm.out _).mono ?_
              rintro e w9 ⟨rfl, rfl⟩
              go_wp2_with fail
              refine (Hfc.out 3 (k : Int) _).mono ?_
              rintro e w2 ⟨rfl, hb2⟩
              have q1 := q0.ext hb2
              have hbw2 := hbx.trans (hb2.mono hbx.size)
              obtain ⟨c0, c1, z0, z1, hlt0⟩ := q1.two
              go_wp2
              obtain ⟨e0, e1⟩ := q1.put2 (.int .i64 3) (.int .i64 (k : Int))
              have hres := Hst.out
              rw [Hec.out] at hres
              have hres2 : a = 3 ∧ b = (k : Int) := by simpa using hres.symm
              obtain ⟨rfl, rfl⟩ := hres2
              exact bodyPost_ret (v := .agg #[.int .i64 3, .int .i64 (k : Int)]) (by simp [results, Tryz.results37, go_sem, e0, e1]) rfl ⟨rfl, below_set2 hbw2 (Nat.le_refl _) _ _⟩
      · have hkk : l.length - k = 0 := by omega
        have hst2 := hst.out
        rw [hkk] at hst2
        have hab : a = 0 ∧ b = 0 := by
          have : ((0 : Int), (0 : Int)) = (a, b) := hst2
          injection this with h1 h2
          exact ⟨h1.symm, h2.symm⟩
        obtain ⟨rfl, rfl⟩ := hab
        clear hst hst2 hkk HF
        go_wp2_with fail
        refine (none_ok _).mono ?_
        rintro e w2 ⟨rfl, hb2⟩
        have q1 := q0.ext hb2
        have hbw2 := hb.trans (hb2.mono hb.size)
        obtain ⟨c0, c1, z0, z1, hlt0⟩ := q1.two
        go_wp2
        obtain ⟨e0, e1⟩ := q1.put2 (.int .i64 0) (.int .i64 0)
        exact bodyPost_ret (v := .agg #[.int .i64 0, .int .i64 0]) (by simp [results, Tryz.results37, go_sem, e0, e1]) rfl ⟨rfl, below_set2 hbw2 (Nat.le_refl _) _ _⟩
end Go.Proofs.YtjamjkjmlckgeaaGreatDoor
