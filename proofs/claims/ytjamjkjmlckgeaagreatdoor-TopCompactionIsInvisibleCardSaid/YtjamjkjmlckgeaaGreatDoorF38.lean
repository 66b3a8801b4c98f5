/-
  Package records and its reference, function by function: what each call returns and that nothing that was there has turned.
-/
import Derived.Test.YtjamjkjmlckgeaaGreatDoorF35
import Derived.Test.YtjamjkjmlckgeaaGreatDoorRows
import Derived.Deep.QuietTactic
import Derived.BigQuiet
import Derived.Deep.RegionHeld3
import Derived.StillTailTactics
namespace Go.Proofs.YtjamjkjmlckgeaaGreatDoor
open Go.RowKit

theorem TBytes : SlT Tryz.prog byteC.n 29 5 1 := SlT.mk' Tryz.underlying29 (by kernel_rfl : (Tryz.prog.info? 5).map (fun i => (i.zero, i.size, i.bytes)) = some (some (.int .u8 0), 1, 1)) rfl
theorem TBytess : SlT Tryz.prog (sliceC byteC).n 67 29 24 := SlT.mk' Tryz.underlying67 (by kernel_rfl : (Tryz.prog.info? 29).map (fun i => (i.zero, i.size, i.bytes)) = some (some (.slice none 0 0), 1, 24)) rfl

/-! ### Sums -/
def sumStep (x : UInt64) (c : UInt8) : UInt64 := 1099511628211 * (x ^^^ c.toUInt64)
def sumFold (l : List UInt8) : UInt64 := l.foldl sumStep 14695981039346656037
def sumF (l : List UInt8) : UInt64 := sumFold l ^^^ (sumFold l >>> 32)
theorem sumFold_snoc (l : List UInt8) (c : UInt8) : sumFold (l ++ [c]) = sumStep (sumFold l) c := by simp [sumFold]
theorem take_snoc_get {α : Type} (l : List α) (k : Nat) (h : k < l.length) : l.take (k + 1) = l.take k ++ [l[k]] := by
  rw [List.take_succ_eq_append_getElem h]
theorem xor_u64 (s : UInt64) (c : UInt8) : bits .xor .u64 (s.toNat : Int) (IntKind.u64.wrap (c.toNat : Int)) = ((s ^^^ c.toUInt64).toNat : Int) := by
  have h1 : IntKind.u64.wrap (c.toNat : Int) = (c.toNat : Int) := by rw [IntKind.wrap_u64]; have := c.toNat_lt; omega
  rw [h1, bits_xor_u64_nat _ _ s.toNat_lt (by have := c.toNat_lt; omega), UInt64.toNat_xor, UInt8.toNat_toUInt64]
theorem sumStep_walk (s : UInt64) (c : UInt8) : IntKind.u64.wrap (1099511628211 * bits .xor .u64 (s.toNat : Int) (IntKind.u64.wrap (c.toNat : Int))) = ((sumStep s c).toNat : Int) := by
  rw [xor_u64, IntKind.wrap_u64, sumStep, UInt64.toNat_mul]
  show (1099511628211 * (((s ^^^ c.toUInt64).toNat : Nat) : Int)) % 18446744073709551616 = _
  rw [show (UInt64.toNat 1099511628211) = 1099511628211 from rfl]
  omega
theorem sumStep_walk' (s : UInt64) (c : UInt8) : IntKind.u64.wrap (bits .xor .u64 (s.toNat : Int) (IntKind.u64.wrap (c.toNat : Int)) * 1099511628211) = ((sumStep s c).toNat : Int) := by
  rw [Int.mul_comm, sumStep_walk]

theorem SlR.byte {M : Nat → Prop} {w : World} {l : List UInt8} {A : Option Addr} {n c : Nat} (h : SlR byteC M w (.slice A n c) l) {k : Nat} (hk : k < l.length) :
    ∃ b off, A = some ⟨b, off, none⟩ ∧ ¬ M b ∧ b < w.heap.size ∧ w.cell? ⟨b, off + k, none⟩ = some (.int .u8 (l[k].toNat : Int)) := by
  obtain ⟨b, off, cs, rfl, hM, hb, hr, hc⟩ := h.at_ hk
  refine ⟨b, off, rfl, hM, hb, ?_⟩
  have := hc 0 (.int .u8 (l[k].toNat : Int)) (by have : cs = _ := hr; rw [this]; rfl)
  simpa [byteC] using this

theorem ret_u64 {a b : Int} (h : a = b) : Ending.returned (.int .u64 a) = .returned (.int .u64 b) := by rw [h]
theorem sumEnd_walk (l : List UInt8) : bits .xor .u64 ((sumFold l).toNat : Int) (((sumFold l).toNat : Int) / 4294967296) = ((sumF l).toNat : Int) := by
  have h := xorShift_u64 (sumFold l).toNat 4294967296 (sumFold l).toNat_lt
  rw [show ((4294967296 : Nat) : Int) = 4294967296 from rfl] at h
  rw [h, sumF, UInt64.toNat_xor, UInt64.toNat_shiftRight, show (UInt64.toNat 32) % 64 = 32 from rfl, Nat.shiftRight_eq_div_pow]

theorem sumEnd_walk' (l : List UInt8) : bits .xor .u64 ((sumFold l).toNat : Int) (IntKind.u64.wrap (((sumFold l).toNat : Int) / 4294967296)) = ((sumF l).toNat : Int) := by
  rw [← sumEnd_walk, IntKind.wrap_u64]
  congr 1
  have := (sumFold l).toNat_lt
  omega

set_option maxHeartbeats 400000 in
theorem sum_ok (M : Nat → Prop) (v : Value) (l : List UInt8) (w : World) (h : SlR byteC M w v l) (hn : l.length ≤ maxLen) :
    Calls Tryz.prog 84 #[v] w fun e w' => e = .returned (.int .u64 ((sumF l).toNat : Int)) ∧ w = w' := by
  obtain ⟨A, c, rfl, _, _⟩ := h.form
  unfold maxLen at hn
  go_enter Tryz.func84, Tryz.ntmps84
  go_wp2
  go_loop [3, 8] (fun x i => ∃ k : Nat, k ≤ l.length ∧ i = .int .i64 k ∧ x = .int .u64 ((sumFold (l.take k)).toNat : Int)) (fun _ i => l.length - (intOf i).toNat)
  case atStart => exact ⟨0, Nat.zero_le _, rfl, (show _ = Value.int .u64 ((sumFold []).toNat : Int) from rfl)⟩
  case round =>
    obtain ⟨k, hk, rfl, rfl⟩ := hrel
    by_cases hlt : k < l.length
    · obtain ⟨b, off, rfl, _, _, hcell⟩ := h.byte hlt
      have HS := Lib.hid (take_snoc_get l k hlt)
      go_wp2
      go_round
      case rel => exact ⟨k + 1, by omega, by go_num, by rw [HS.out, sumFold_snoc, sumStep_walk]⟩
      case measure => simp [intOf]; omega
    · have he : k = l.length := by omega
      subst he
      go_wp2
      go_ret
      exact ⟨ret_u64 (sumEnd_walk l), rfl⟩

/-! ### Faults -/
theorem none_ok (w : World) : Calls Tryz.prog 24 #[] w fun e w' => e = .returned (.agg #[.int .i64 0, .int .i64 0]) ∧ Below w.heap.size w w' := by
  go_enter Tryz.func24, Tryz.ntmps24
  go_wp2
  exact bodyPost_ret (v := .agg #[.int .i64 0, .int .i64 0]) (by simp [results, Tryz.results24, go_sem]) rfl ⟨rfl, (Below.refl _ _).alloc (Nat.le_refl _) _⟩
theorem fault_ok (a b : Int) (w : World) : Calls Tryz.prog 27 #[.int .i64 a, .int .i64 b] w fun e w' => e = .returned (.agg #[.int .i64 a, .int .i64 b]) ∧ Below w.heap.size w w' := by
  go_enter Tryz.func27, Tryz.ntmps27
  go_wp2
  exact bodyPost_ret (v := .agg #[.int .i64 a, .int .i64 b]) (by simp [results, Tryz.results27, go_sem]) rfl ⟨rfl, (Below.refl _ _).alloc (Nat.le_refl _) _⟩
theorem failed_ok (a b : Int) (w : World) : Calls Tryz.prog 21 #[.agg #[.int .i64 a, .int .i64 b]] w fun e w' => e = .returned (.bool (a != 0)) ∧ Below w.heap.size w w' := by
  go_enter Tryz.func21, Tryz.ntmps21
  go_wp2
  go_ret
  exact ⟨rfl, (Below.refl _ _).alloc (Nat.le_refl _) _⟩
theorem valid_ok (M : Nat → Prop) (v : Value) (l : List UInt8) (w : World) (h : SlR byteC M w v l) : Calls Tryz.prog 47 #[v] w fun e w' =>
    e = .returned (.agg #[.int .i64 (if 400000 < l.length then 1 else 0), .int .i64 (if 400000 < l.length then -1 else 0)]) ∧ Below w.heap.size w w' := by
  obtain ⟨A, c, rfl, _, _⟩ := h.form
  by_cases hl : 400000 < l.length
  all_goals
    go_enter Tryz.func47, Tryz.ntmps47
    go_wp2_with (first | (go_at_call 27; refine (fault_ok _ _ _).mono ?_; rintro e w1 ⟨rfl, hb1⟩; obtain ⟨c0, c1, z0, z1, s1⟩ := two_kept hb1) | (go_at_call 24; refine (none_ok _).mono ?_; rintro e w1 ⟨rfl, hb1⟩; obtain ⟨c0, c1, z0, z1, s1⟩ := two_kept hb1))
    refine bodyPost_ret (v := .agg #[.int .i64 _, .int .i64 _]) (by simp [results, Tryz.results47, go_sem, c1, World.cell?_setCell_other, World.cell?_setCell_same (h := c0)]) rfl ⟨rfl, ((below_alloc hb1).setCell (by simp) _).setCell (by simp) _⟩

theorem same_ok (M : Nat → Prop) (v v' : Value) (l l' : List UInt8) (w : World) (h : SlR byteC M w v l) (h' : SlR byteC M w v' l') : Calls Tryz.prog 56 #[v, v'] w fun e w' =>
    e = .returned (.bool (l == l')) ∧ w = w' := by
  obtain ⟨A, c, rfl, _, _⟩ := h.form
  obtain ⟨A', c', rfl, _, _⟩ := h'.form
  have k1 := run_convert_SlR (P := Tryz.prog) (src := 29) (dst := 9) Tryz.underlying29 Tryz.underlying5 Tryz.underlying9 h
  have k2 := run_convert_SlR (P := Tryz.prog) (src := 29) (dst := 9) Tryz.underlying29 Tryz.underlying5 Tryz.underlying9 h'
  go_enter Tryz.func56, Tryz.ntmps56
  go_wp2
  go_ret
  exact ⟨by simp, rfl⟩

theorem clone_bytes_ok (M : Nat → Prop) (v : Value) (l : List UInt8) (w : World) (h : SlR byteC M w v l) (hn : l.length ≤ 1000000000) : Calls Tryz.prog 52 #[v] w fun e w' =>
    ∃ v', e = .returned v' ∧ Own byteC M w' w.heap.size 5 v' l ∧ Below w.heap.size w w' := by
  obtain ⟨A, c, rfl, _, _⟩ := h.form
  have hnil := fun w => Lib.run_eql_slice_nil (P := Tryz.prog) w 29 5 A l.length c 0 0 Tryz.underlying29
  rcases A with _ | ad
  · go_enter Tryz.func52, Tryz.ntmps52
    go_wp2
    go_ret
    obtain rfl : l = [] := List.eq_nil_of_length_eq_zero (Nat.eq_zero_of_not_pos fun h0 => by obtain ⟨_, _, _, h', _⟩ := h.at_ h0; cases h')
    exact ⟨_, rfl, Own.nil _ _ _ _ _, Below.refl _ _⟩
  · go_enter Tryz.func52, Tryz.ntmps52
    go_wp2_with (at_builtin; refine wpList_append_Own byteC (M := M) (B := w.heap.size) (l := []) (l' := l) TBytes rfl (.tmp 5) (.tmp 6) rfl rfl (Own.built (cs := []) _ (Els.nil _ _ _) (Nat.le_refl _) (Nat.zero_le _)) rfl ?_ ?_ ?_ ?_ ?_)
    case refine_1 =>
      refine (h.sub fun b hb hor => ?_).ext ((Below.refl _ _).alloc (Nat.le_refl _) _)
      rcases hor with h' | h'
      · exact h'
      · have h2 : w.heap.size = b := by simpa [Act.eval, Value.ownBlock] using h'
        omega
    case refine_2 => simp [maxLen]; omega
    case refine_3 => simp; omega
    case refine_4 => simp
    case refine_5 =>
      intro A' c' L w' hL hown _ hg hor
      obtain rfl : L = l := by simpa using hL.out
      go_wp2
      go_ret
      refine ⟨_, rfl, hown, ((Below.refl _ _).alloc (Nat.le_refl _) _).grown hg (by simp) fun k hk => ?_⟩
      simp [Value.ownBlock] at hk; omega

theorem equal_bytes_ok (M : Nat → Prop) (v v' : Value) (l l' : List UInt8) (w : World) (h : SlR byteC M w v l) (h' : SlR byteC M w v' l') (hn : l.length ≤ maxLen) (hn' : l'.length ≤ maxLen) : Calls Tryz.prog 86 #[v, v'] w fun e w' =>
    e = .returned (.bool (l == l')) ∧ ∃ n, w' = w.drewN n := by
  obtain ⟨A, c, rfl, _, _⟩ := h.form
  obtain ⟨A', c', rfl, _, _⟩ := h'.form
  unfold maxLen at hn hn'
  by_cases hl : l.length = l'.length
  · have hl' : ((l.length : Int) != (l'.length : Int)) = false := by simp [hl]
    go_enter Tryz.func86, Tryz.ntmps86
    go_wp2
    go_loopw [13] (fun i wr => ∃ k : Nat, k ≤ l.length ∧ i = .int .i64 k ∧ l.take k = l'.take k ∧ ∃ n, wr = w.drewN n) (fun i _ => l.length - (intOf i).toNat)
    case atStart => exact ⟨0, Nat.zero_le _, rfl, rfl, 0, rfl⟩
    case round =>
      obtain ⟨k, hk, rfl, hpre, n, rfl⟩ := hrel
      by_cases hlt : k < l.length
      · obtain ⟨b, off, rfl, _, _, hcell⟩ := h.byte hlt
        obtain ⟨b', off', rfl, _, _, hcell'⟩ := h'.byte (show k < l'.length by omega)
        go_wp2
        go_quiet (fail)
        by_cases hb : l[k] = l'[k]'(by omega)
        · have hbb : (((l[k].toNat : Nat) : Int) != ((l'[k]'(by omega)).toNat : Int)) = false := by simp [hb]
          go_wp2
          go_roundw
          case rel => exact ⟨k + 1, by omega, by go_num, by rw [take_snoc_get l k hlt, take_snoc_get l' k (by omega), hpre, hb], _, rfl⟩
          case measure => simp [intOf]; omega
        · have hne : (((l[k].toNat : Nat) : Int) != ((l'[k]'(by omega)).toNat : Int)) = true := by
            have h3 : l[k].toNat ≠ (l'[k]'(by omega)).toNat := fun e => hb (UInt8.toNat_inj.1 e)
            simp; omega
          go_wp2
          go_ret
          refine ⟨?_, n + nq, World.drewN_drewN ..⟩
          have hff : (l == l') = false := by
            simp only [beq_eq_false_iff_ne, ne_eq]
            intro e; subst e; exact hb rfl
          rw [hff]; rfl
      · have he : k = l.length := by omega
        subst he
        go_wp2
        go_ret
        refine ⟨?_, _, rfl⟩
        have htt : (l == l') = true := by
          simp only [beq_iff_eq]
          rw [List.take_of_length_le (Nat.le_refl _), List.take_of_length_le (by omega)] at hpre
          exact hpre
        rw [htt]; rfl
  · have hl' : ((l.length : Int) != (l'.length : Int)) = true := by simp; omega
    go_enter Tryz.func86, Tryz.ntmps86
    go_wp2
    go_ret
    refine ⟨?_, 0, rfl⟩
    have hne : (l == l') = false := by simp; intro h; exact hl (by rw [h])
    rw [hne]; rfl

/-! ### A record as it is stored -/
def u8 (n : Nat) : UInt8 := UInt8.ofNat n
def headF (r : List UInt8) : List UInt8 := u8 (r.length / 256) :: u8 r.length :: r
def tailF (s : UInt64) (k : Nat) : List UInt8 := (List.range k).map fun i => u8 (s.toNat / 2 ^ (56 - 8 * i))
def storedF (r : List UInt8) : List UInt8 := headF r ++ tailF (sumF (headF r)) 8

theorem u8_walk (n : Nat) : ((u8 n).toNat : Int) = (n : Int) % 256 := by
  rw [u8, UInt8.toNat_ofNat']
  omega
theorem tailF_succ (s : UInt64) (k : Nat) : tailF s (k + 1) = tailF s k ++ [u8 (s.toNat / 2 ^ (56 - 8 * k))] := by
  simp [tailF, List.range_succ]
theorem byte_rd (M : Nat → Prop) (w : World) (x : Int) (b : UInt8) (h : x = (b.toNat : Int)) : byteC.rd M w [.int .u8 x] b := by subst h; rfl
theorem bytes2_els (M : Nat → Prop) (w : World) (x y : Int) (a b : UInt8) (h1 : x = (a.toNat : Int)) (h2 : y = (b.toNat : Int)) : Els byteC M w [.int .u8 x, .int .u8 y] [a, b] :=
  (Els.single (byte_rd M w x a h1)).append (Els.single (byte_rd M w y b h2))
/-- A world's own row, and a slice that was there. -/
theorem SlR.besideOwn {α : Type} {C : Codec α} {M : Nat → Prop} {w : World} {x v : Value} {l : List α} {B : Nat} (h : SlR C M w x l) (hB : w.heap.size ≤ B) (hv : v.ownBlock = some B) {w' : World} (hb : Below w.heap.size w w') :
    SlR C (fun b => M b ∨ v.ownBlock = some b) w' x l :=
  (h.sub fun b hlt hor => hor.elim id fun h' => by rw [hv] at h'; injection h' with h'; omega).ext hb

set_option maxHeartbeats 1000000 in
theorem stored_ok (M : Nat → Prop) (v : Value) (l : List UInt8) (w : World) (hM : ∀ b, M b → b < w.heap.size) (h : SlR byteC M w v l) (hn : l.length ≤ 1000000000) : Calls Tryz.prog 50 #[v] w fun e w' =>
    ∃ v', e = .returned v' ∧ Own byteC M w' w.heap.size 5 v' (storedF l) ∧ Below w.heap.size w w' := by
  obtain ⟨A, c, rfl, _, _⟩ := h.form
  have hown0 := Own.built (M := M) (w := w) (B := w.heap.size) 5 (bytes2_els M w ((l.length : Int) / 256 % 256) ((l.length : Int) % 256) (u8 (l.length / 256)) (u8 l.length) (by rw [u8_walk]; omega) (by rw [u8_walk])) (Nat.le_refl _) (by simp [maxLen])
  have hr0 : SlR byteC (fun b => M b ∨ (Value.slice (some ⟨w.heap.size, 0, none⟩) 2 2).ownBlock = some b) (w.alloc (.cells #[.int .u8 ((l.length : Int) / 256 % 256), .int .u8 ((l.length : Int) % 256)] 5)) (.slice A l.length c) l :=
    h.besideOwn (Nat.le_refl _) rfl ((Below.refl _ _).alloc (Nat.le_refl _) _)
  go_enter Tryz.func50, Tryz.ntmps50
  go_wp2_with (at_builtin; refine wpList_append_Own byteC (M := M) (B := w.heap.size) (l := [u8 (l.length / 256), u8 l.length]) (l' := l) TBytes rfl (.tmp 14) (.tmp 15) rfl (v := .slice (some ⟨w.heap.size, 0, none⟩) 2 2) rfl (by exact hown0) rfl (by exact hr0) ?c1 ?c2 ?c3 ?_)
  case c1 => simp [maxLen]; omega
  case c2 => simp; omega
  case c3 => simp
  intro A1 c1 L w1 hL hown1 hbl1 hg1 hor1
  have hb1 : Below w.heap.size w w1 := ((Below.refl _ _).alloc (Nat.le_refl _) _).trans hbl1
  have hlen : L.length = l.length + 2 := by rw [hL.out]; simp
  have Hlen := Lib.hid hlen; clear hlen
  go_wp2_with (go_at_call 84; refine (sum_ok M _ L _ (hown1.readB hM) (by rw [Hlen.out]; simp [maxLen]; omega)).mono ?_; rintro e w' ⟨rfl, rfl⟩)
  go_loopw [4, 6] (fun o i wr => ∃ (k : Nat) (L' : List UInt8) (A' : Option Addr) (c' : Nat), k ≤ 8 ∧ i = .int .i64 (56 - 8 * (k : Int)) ∧ Hid (L' = L ++ tailF (sumF L) k) ∧ o = .slice A' L'.length c' ∧ Own byteC M wr w.heap.size 5 (.slice A' L'.length c') L' ∧ Below w.heap.size w wr) (fun _ i _ => ((intOf i) + 8).toNat)
  case atStart => exact ⟨0, L, A1, c1, by omega, rfl, Lib.hid (by simp [tailF]), rfl, hown1, hb1⟩
  case round =>
    obtain ⟨k, L', A', c', hk, rfl, hL', rfl, hown', hb'⟩ := hrel
    have Hlen' : Hid (L'.length = l.length + 2 + k) := Lib.hid (by rw [hL'.out, List.length_append, Hlen.out]; simp [tailF])
    by_cases hlt : k < 8
    · have hrd : byteC.rd (fun b => M b ∨ (Value.slice A' L'.length c').ownBlock = some b) wr [.int .u8 (((sumF L).toNat : Int) / 2 ^ (56 - 8 * k) % 256)] (u8 ((sumF L).toNat / 2 ^ (56 - 8 * k))) := byte_rd _ _ _ _ (by rw [u8_walk]; simp)
      go_wp2_with (at_builtin; refine wpList_push_Own byteC (M := M) (B := w.heap.size) TBytes rfl (.tmp 23) (.tmp 28) rfl rfl hown' rfl hrd ?c1 ?c2 ?c3 hb'.size ?_)
      case c1 => intro b hb; have := hM b hb; have := hb'.size; omega
      case c2 => rw [Hlen'.out]; simp [maxLen]; omega
      case c3 => rw [Hlen'.out]; omega
      intro A2 c2 L2 w2 hL2 hown2 hbl2 _ _
      go_wp2
      go_roundw
      case rel => exact ⟨k + 1, L2, A2, c2, by omega, by go_num, Lib.hid (by rw [hL2.out, hL'.out, tailF_succ, List.append_assoc]), rfl, hown2, hb'.trans hbl2⟩
      case measure => simp [intOf]; omega
    · obtain rfl : k = 8 := by omega
      go_wp2
      go_ret
      obtain rfl : L' = storedF l := by rw [hL'.out, hL.out]; rfl
      exact ⟨_, rfl, hown', hb'⟩

def dOf (k : Nat) : Int := if k < 8 then ((2 ^ (56 - 8 * k) : Nat) : Int) else 0
theorem dOf_pos (k : Nat) (h : k < 8) : 0 < dOf k := by
  rw [dOf, if_pos h]
  have := Nat.pow_pos (n := 56 - 8 * k) (show 0 < 2 by omega)
  omega
theorem dOf_le (k : Nat) : dOf k < 18446744073709551616 := by
  unfold dOf
  split
  · have := Nat.pow_le_pow_right (show 0 < 2 by omega) (show 56 - 8 * k ≤ 56 by omega)
    omega
  · omega

theorem dOf_succ (k : Nat) (h : k < 8) : dOf k / 256 = dOf (k + 1) := by
  unfold dOf
  rw [if_pos h]
  split
  · rw [show 56 - 8 * k = (56 - 8 * (k + 1)) + 8 by omega, Nat.pow_add]
    omega
  · obtain rfl : k = 7 := by omega
    rfl
theorem framed_byte (s : UInt64) (k : Nat) (h : k < 8) : (IntKind.u64.wrap ((s.toNat : Int) / dOf k)).tmod 256 % 256 = ((u8 (s.toNat / 2 ^ (56 - 8 * k))).toNat : Int) := by
  rw [u8_walk, IntKind.wrap_u64, dOf, if_pos h]
  have h1 : ((s.toNat : Int) / ((2 ^ (56 - 8 * k) : Nat) : Int)) = ((s.toNat / 2 ^ (56 - 8 * k) : Nat) : Int) := rfl
  have h2 : s.toNat / 2 ^ (56 - 8 * k) ≤ s.toNat := Nat.div_le_self _ _
  have h3 := s.toNat_lt
  rw [h1]
  generalize s.toNat / 2 ^ (56 - 8 * k) = x at *
  rw [tmod_of_emod]
  omega

end Go.Proofs.YtjamjkjmlckgeaaGreatDoor
