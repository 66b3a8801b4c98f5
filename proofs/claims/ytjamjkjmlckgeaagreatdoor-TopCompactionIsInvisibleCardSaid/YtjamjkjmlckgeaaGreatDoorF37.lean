/-
  A message as bytes.
-/
import Derived.Test.YtjamjkjmlckgeaaGreatDoorF9
import Derived.Test.YtjamjkjmlckgeaaGreatDoorF8
namespace Go.Proofs.YtjamjkjmlckgeaaGreatDoor
open Go.RowKit

def lineB (x : Mb.Fld) : List UInt8 := (Mb.foldF x.1 x.2).1.flatMap fun s => s ++ [13, 10]
theorem uInfo : (Tryz.prog.info? 5).map (fun i => (i.zero, i.size, i.bytes)) = some (some (.int .u8 0), 1, 1) := by kernel_rfl
theorem TBy : SlT Tryz.prog byteC.n 29 5 1 := SlT.mk' Tryz.underlying29 uInfo rfl
theorem flat_take_le (ls : List Str) (j : Nat) : ((ls.take j).flatMap fun s => s ++ [13, 10]).length ≤ (ls.flatMap fun s => s ++ [(13 : UInt8), 10]).length := by
  conv => rhs; rw [← List.take_append_drop j ls, List.flatMap_append, List.length_append]
  omega
theorem take_flat {α β : Type} (g : α → List β) (l : List α) (k : Nat) (hk : k < l.length) : (l.take (k + 1)).flatMap g = (l.take k).flatMap g ++ g l[k] := by
  rw [List.take_succ_eq_append_getElem hk, List.flatMap_append, List.flatMap_cons, List.flatMap_nil, List.append_nil]
set_option maxRecDepth 100000 in
set_option maxHeartbeats 4000000 in
theorem write_ok (f b : Value) (m : Mb.Msg) (w : World) (hf : SlR fldC M0 w f m.1) (hb : SlR byteC M0 w b m.2) (h60 : m.1.length ≤ 60) (hsz : ∀ x ∈ m.1, (lineB x).length ≤ 20000) (hlen : m.2.length ≤ 140737488355328) :
    Calls Tryz.prog 79 #[.agg #[f, b]] w fun e w' => ∃ (A : Option Addr) (c : Nat) (L : List UInt8), e = .returned (.slice A L.length c) ∧ Hid (L = Mb.writeF m) ∧ Own byteC M0 w' w.heap.size 5 (.slice A L.length c) L ∧ Below w.heap.size w w' := by
  obtain ⟨l, bd⟩ := m
  dsimp only at hf hb h60 hsz hlen
  obtain ⟨Af, cf, rfl, hlf, _⟩ := hf.form
  obtain ⟨Ab, cb, rfl, hlb, _⟩ := hb.form
  obtain ⟨w0, g, hw0, hg, hsz0, k0, hb0⟩ := box1 w #[.slice Af l.length cf, .slice Ab bd.length cb] 45
  have hf0 := hf.ext hb0
  obtain ⟨c0, c1, z0, z1, s1⟩ := k0.two
  clear hsz0
  go_enter Tryz.func79, Tryz.ntmps79
  go_wp2_with fail
  go_loopw [3, 13] (fun o i wr => ∃ (k : Nat) (A : Option Addr) (c : Nat) (L : List UInt8), k ≤ l.length ∧ i = .int .i64 (k : Int) ∧ o = .slice A L.length c ∧ Hid (L = (l.take k).flatMap lineB) ∧ L.length ≤ 20000 * k ∧ Own byteC M0 wr w0.heap.size 5 (.slice A L.length c) L ∧ Below w0.heap.size w0 wr) (fun _ i _ => l.length - (intOf i).toNat)
  case atStart => exact ⟨0, none, 0, [], Nat.zero_le _, rfl, rfl, Lib.hid rfl, Nat.zero_le _, Own.nil _ _ _ _ _, Below.refl _ _⟩
  case round =>
    obtain ⟨k, A, c, L, hk, rfl, rfl, hL, hLl, own, hbr⟩ := hrel
    by_cases hlt : k < l.length
    · obtain ⟨b9, off, rfl, _, _, q0, q1, m1, m2⟩ := (hf0.ext hbr).fldAt hlt
      obtain ⟨n1, hn1⟩ : ∃ x, x = l[k].1 := ⟨_, rfl⟩
      obtain ⟨n2, hn2⟩ : ∃ x, x = l[k].2 := ⟨_, rfl⟩
      rw [← hn1] at q0 m1
      rw [← hn2] at q1 m2
      obtain ⟨ls, hls⟩ : ∃ x, x = (Mb.foldF n1 n2).1 := ⟨_, rfl⟩
      have hfo := fun W => fold_ok n1 n2 m1 m2 W
      rw [← hls] at hfo
      have Hfo := Lib.hid hfo
      have Hli := Lib.hid (show lineB l[k] = ls.flatMap fun s => s ++ [13, 10] by rw [hls, hn1, hn2]; rfl)
      have hlk := hsz _ (List.getElem_mem hlt)
      have Hlk := Lib.hid hlk
      clear hfo hls hn1 hn2 m1 m2 hlk
      go_wp2_with fail
      refine (Hfo.out _).mono ?_
      rintro e w3 ⟨u, rfl, ownu, hb3⟩
      obtain ⟨Au, cu, rfl, _, _⟩ := ownu.shape
      have hlsm := ownu.len_le
      unfold maxLen at hlsm
      have hb3' := below2 hbr (below_alloc hb3)
      obtain ⟨wo, rfl⟩ : ∃ W0, W0 = wr := ⟨_, rfl⟩
      obtain ⟨w4, g4, hw4, hg4, hsz4, k4, hb4⟩ := box1 w3 #[.int .i64 (Mb.foldF n1 n2).2.1, .int .i64 (Mb.foldF n1 n2).2.2] 31
      have hb4' := below2 hb3' hb4
      have own4 := (own.ext (below_alloc hb3)).ext hb4
      have ownu4 := ownu.ext hb4
      have Hfl := Lib.hid (fun j => flat_take_le ls j)
      clear own ownu k4
      go_wp2_with fail
      go_loopw [3, 27] (fun o i wr => ∃ (j : Nat) (A : Option Addr) (c : Nat) (L2 : List UInt8), j ≤ ls.length ∧ i = .int .i64 (j : Int) ∧ o = .slice A L2.length c ∧ Hid (L2 = L ++ (ls.take j).flatMap fun s => s ++ [13, 10]) ∧ Own byteC M0 wr w0.heap.size 5 (.slice A L2.length c) L2 ∧ Own strC M0 wr 0 9 (.slice Au ls.length cu) ls ∧ Below w0.heap.size w0 wr) (fun _ i _ => ls.length - (intOf i).toNat)
      case atStart => exact ⟨0, A, c, L, Nat.zero_le _, rfl, rfl, Lib.hid (by simp), own4, own_lower ownu4 (Nat.zero_le _), hb4'⟩
      case round =>
        obtain ⟨j, A2, c2, L2, hj, rfl, rfl, hL2, own2, ownu2, hb2⟩ := hrel
        by_cases hjl : j < ls.length
        · obtain ⟨bu, offu, rfl, _, _, qs, ms⟩ := ownu2.read0.strAt hjl
          obtain ⟨x, hx⟩ : ∃ x, x = ls[j] := ⟨_, rfl⟩
          rw [← hx] at qs ms
          have htk := Lib.hid (show (ls.take (j + 1)).flatMap (fun s => s ++ [(13 : UInt8), 10]) = (ls.take j).flatMap (fun s => s ++ [13, 10]) ++ (x ++ [13, 10]) by rw [hx]; exact take_flat _ ls j hjl)
          have hbl := Lib.hid (show L2.length + x.length + 2 ≤ 1240000 by
            have h1 := Hfl.out (j + 1)
            rw [htk.out, ← Hli.out, List.length_append, List.length_append] at h1
            rw [hL2.out, List.length_append]
            have h2 := Hlk.out
            simp only [List.length_cons, List.length_nil] at h1
            omega)
          have hszb := hb2.size
          clear hx ms
          go_wp2_with (at_builtin; refine wpList_appendStr uInfo Tryz.underlying29 Tryz.underlying9 rfl (.tmp 31) (.tmp 32) rfl rfl own2 (m := x) rfl ?a1 hszb ?_)
          case a1 => have := hbl.out; omega
          intro A5 c5 L5 w5 hL5 own5 hb5 hg5
          have ownu5 := own_grown flat_str ownu2 hg5 (own_apart own2 ownu2 (by decide))
          have hlit : SlR byteC (fun b => M0 b ∨ (Value.slice A5 L5.length c5).ownBlock = some b) (w5.alloc (.cells #[.int .u8 13, .int .u8 10] 5)) (.slice (some ⟨w5.heap.size, 0, none⟩) 2 2) [13, 10] :=
            (Own.built (M := fun b => M0 b ∨ (Value.slice A5 L5.length c5).ownBlock = some b) (B := w5.heap.size) (C := byteC) 5 (cs := [.int .u8 13, .int .u8 10]) (l := [13, 10]) (lit_bytes _ _ [13, 10]) (Nat.le_refl _) (by simp [maxLen])).read fun bb hbb hor => by
              have e : w5.heap.size = bb := Option.some.inj hbb
              subst e
              exact hor.elim id fun ho => absurd (own5.lt _ ho) (by omega)
          have hal : Below w5.heap.size w5 (w5.alloc (.cells #[.int .u8 13, .int .u8 10] 5)) := (Below.refl _ _).alloc (Nat.le_refl _) _
          have own6 := own5.ext hal
          have ownu6 := ownu5.ext hal
          have hb6 := hb2.trans (hb5.trans (hal.mono (Nat.le_trans hszb (hg5.size))))
          have hl5 := Lib.hid (show L5.length = L2.length + x.length by rw [hL5.out, List.length_append])
          clear own5 ownu5 own2 ownu2 hb5 hg5
          go_wp2_with (at_builtin; refine wpList_append_Own byteC TBy rfl (.tmp 33) (.tmp 34) rfl rfl own6 rfl hlit ?a2 ?b2 hb6.size ?_)
          case a2 => have := hbl.out; have := hl5.out; simp only [List.length_cons, List.length_nil]; unfold maxLen; omega
          case b2 => have := hbl.out; have := hl5.out; simp only [List.length_cons, List.length_nil]; omega
          intro A7 c7 L7 w7 hL7 own7 hb7 hg7 _
          have ownu7 := own_grown flat_str ownu6 hg7 (own_apart own6 ownu6 (by decide))
          have hb8 := hb6.trans hb7
          have HL7 := Lib.hid (show L7 = L ++ (ls.take (j + 1)).flatMap fun s => s ++ [13, 10] by rw [hL7.out, hL5.out, hL2.out, htk.out]; simp [List.append_assoc])
          clear own6 ownu6 hlit hal hg7 hb7 hL7 hL5 hbl hl5 htk
          go_wp2
          go_roundw
          case rel => exact ⟨j + 1, A7, c7, L7, by omega, by go_num, rfl, HL7, own7, ownu7, hb8⟩
          case measure => simp [intOf]; omega
        · have HL2 := Lib.hid (show L2 = (l.take (k + 1)).flatMap lineB by
            rw [hL2.out, List.take_of_length_le (by omega), ← Hli.out, hL.out, take_flat lineB l k hlt])
          have hbl := Lib.hid (show L2.length ≤ 20000 * (k + 1) by
            rw [hL2.out, List.length_append]
            have h1 := Hfl.out j
            rw [← Hli.out] at h1
            have := Hlk.out
            omega)
          clear ownu2 hL2
          go_wp2
          go_roundw
          case rel => exact ⟨k + 1, A2, c2, L2, by omega, by go_num, rfl, HL2, hbl.out, own2, hb2⟩
          case measure => simp [intOf]; omega
    · have HL2 := Lib.hid (show L = l.flatMap lineB by rw [hL.out, List.take_of_length_le (by omega)])
      have kg := k0.ext hbr
      have hbx := hb.ext (hb0.trans (hbr.mono hb0.size))
      clear hL
      have hbm := (hb.toMB).ext (hb0.trans (hbr.mono hb0.size))
      have hLs := Lib.hid hLl
      have hgs : w.heap.size ≤ w0.heap.size := hb0.size
      have HS := Lib.hid (show ∀ W, Below w0.heap.size w0 W → W.cell? ⟨g, 1, none⟩ = some (.slice Ab bd.length cb) from fun W hW => (k0.ext hW).two.2.1)
      clear hbx kg hLl
      go_wp2_with fail
      refine wp_region_D (fun W => W.cell? ⟨g, 1, none⟩ = some (.slice Ab bd.length cb)) (fun _ => false) (by kernel_rfl) ?_
      change anyD _ _ _ _ _ _ _ _ _ (wr.drewN 1)
      have hbV : Below w0.heap.size w0 (wr.drewN 1) := hbr.trans ((below_drewN' wr.heap.size wr 1).mono hbr.size)
      have own1 := own.ext (below_drewN' wr.heap.size wr 1)
      have hbm1 := hbm.drewN 1
      generalize wr.drewN 1 = V0 at hbV own1 hbm1 ⊢
      have hS := HS.out V0 hbV
      clear own hbm hbr
      (refine anyD_light (i := 0) (v := ?_) rfl (by kernel_rfl) (by kernel_rfl) (by kernel_rfl) (by kernel_rfl) (by kernel_rfl) (fun _ _ _ h => h) (.inl ⟨by kernel_rfl, fun W9 hW9 => ?_⟩) hS ?_; rotate_left; · (have hw0 := hW9; go_simp; rfl))
      (refine anyD_light (i := 3) (v := ?_) rfl (by kernel_rfl) (by kernel_rfl) (by kernel_rfl) (by kernel_rfl) (by kernel_rfl) (fun _ _ _ h => h) (.inl ⟨by kernel_rfl, fun W9 hW9 => ?_⟩) hS ?_; rotate_left; · (have hw0 := hW9; go_simp; rfl))
      (refine anyD_light (i := 4) (v := ?_) rfl (by kernel_rfl) (by kernel_rfl) (by kernel_rfl) (by kernel_rfl) (by kernel_rfl) (fun _ _ _ h => h) (.inl ⟨by kernel_rfl, fun W9 hW9 => ?_⟩) hS ?_; rotate_left; · (have hw0 := hW9; go_simp; rfl))
      go_simp
      refine anyD_one (i := 1) (by kernel_rfl) rfl rfl (fun K hK => ?_)
      have HK := Lib.hid hK
      clear hK hS
      unfold Oper.wp
      go_simp
      generalize hV : World.alloc V0 (.cells #[.int .u8 13, .int .u8 10] 5) = V1
      have hal : Below V0.heap.size V0 V1 := by rw [← hV]; exact (Below.refl _ _).alloc (Nat.le_refl _) _
      have hb2 := hbV.trans (hal.mono hbV.size)
      have xr : SlR byteC (fun b => M0 b ∨ (Value.slice A L.length c).ownBlock = some b) V1 (.slice (some ⟨V0.heap.size, 0, none⟩) 2 2) [13, 10] := by
        rw [← hV]
        exact (Own.built (M := fun b => M0 b ∨ (Value.slice A L.length c).ownBlock = some b) (B := V0.heap.size) (C := byteC) 5 (cs := [.int .u8 13, .int .u8 10]) (l := [13, 10]) (lit_bytes _ _ [13, 10]) (Nat.le_refl _) (by simp [maxLen])).read fun bb hbb hor => by
          have e : V0.heap.size = bb := Option.some.inj hbb
          subst e
          exact hor.elim id fun ho => absurd (own1.lt _ ho) (by omega)
      have own2 := own1.ext hal
      have hbm2 := hbm1.ext hal
      clear own1 hbm1 hV hal
      have hS := HS.out V1 hb2
      refine HK.out _ _ (fun _ => hS) ?_
      clear HK
      go_simp
      refine anyD_one (i := 2) (by kernel_rfl) rfl rfl (fun K hK => ?_)
      have HK := Lib.hid hK
      clear hK hS
      refine wp_append_Own byteC (M := M0) (v := .slice A L.length c) (l := L) (l' := [13, 10]) TBy (.tmp 38) (.tmp 39) rfl rfl own2 rfl xr (by have := hLs.out; simp only [maxLen, List.length_cons, List.length_nil]; omega) (by have := hLs.out; simp only [List.length_cons, List.length_nil]; omega) hb2.size ?_
      intro A4 c4 L4 V4 hL4 own4 hbl4 hgr4 hor4
      have hb4 := hb2.trans hbl4
      have HlL4 := Lib.hid (show L4.length = L.length + 2 by rw [hL4.out, List.length_append]; rfl)
      have xb : SlR byteC (fun b => M0 b ∨ (Value.slice A4 L4.length c4).ownBlock = some b) V4 (.slice Ab bd.length cb) bd := by
        have h1 : SlR byteC (fun b => w.heap.size ≤ b) w (.slice Ab bd.length cb) bd := hb.toMB.sub fun b _ h => .inr h
        exact (h1.ext (hb0.trans (hb4.mono hb0.size))).sub fun b _ hor => hor.elim (fun h => h.elim) fun h => Nat.le_trans hgs (own4.base b h)
      clear own2 xr hbl4 hgr4 hor4 hbm2
      have hS := HS.out V4 hb4
      refine HK.out _ _ (fun _ => hS) ?_
      clear HK
      go_simp
      refine anyD_one (i := 5) (by kernel_rfl) rfl rfl (fun K hK => ?_)
      have HK := Lib.hid hK
      clear hK hS
      refine wp_append_bytesW (M := M0) (v := .slice A4 L4.length c4) (l := L4) (l' := bd) TBy (.tmp 40) (.tmp 42) rfl rfl own4 rfl xb (by have := hLs.out; have := HlL4.out; unfold maxLen; omega) (by have := hLs.out; have := HlL4.out; omega) hb4.size ?_
      intro A5 c5 L5 V5 hL5 own5 hbl5 hgr5
      have hb5 := hb4.trans hbl5
      have HL5 := Lib.hid (show L5 = Mb.writeF (l, bd) by rw [hL5.out, hL4.out, HL2.out]; unfold Mb.writeF lineB; simp [List.append_assoc])
      clear own4 xb hbl5 hgr5
      have hS := HS.out V5 hb5
      refine HK.out _ _ (fun _ => hS) ?_
      clear HK
      go_simp
      (refine anyD_light (i := 6) (v := ?_) rfl (by kernel_rfl) (by kernel_rfl) (by kernel_rfl) (by kernel_rfl) (by kernel_rfl) (fun _ _ _ h => h) (.inl ⟨by kernel_rfl, fun W9 hW9 => ?_⟩) hS ?_; rotate_left; · (have hw0 := hW9; go_simp; rfl))
      go_simp
      refine anyD_done (by kernel_rfl) ?_ _
      clear hS
      go_wp2
      go_ret
      exact ⟨A5, c5, L5, rfl, HL5, own_lower own5 hgs, hb0.trans (hb5.mono hgs)⟩
end Go.Proofs.YtjamjkjmlckgeaaGreatDoor
