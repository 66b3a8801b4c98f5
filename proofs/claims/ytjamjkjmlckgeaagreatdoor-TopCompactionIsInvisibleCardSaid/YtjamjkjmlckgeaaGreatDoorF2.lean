/-
  Contracts and plain facts, one after another: A store into a slice of the call's own. No program is named here; Names: package basic and its reference, function by function; Messages and mailboxes: what the checks answer; what a record's text is; plain.
-/
import Derived.Test.YtjamjkjmlckgeaaGreatDoorF35
import Derived.Test.YtjamjkjmlckgeaaGreatDoorF1
import Derived.Laws.IdiomStrings
import Derived.Outline
import Derived.Shelf.RegionOpen
import Derived.RangeFuncCalls
import Derived.Lib.ItoaNum
import Derived.Lib.ItoaLen
import Derived.Lib.Atoi
namespace Go.Proofs.YtjamjkjmlckgeaaGreatDoor
open Go.RowKit

theorem Own.blk {α : Type} {C : Codec α} {M : Nat → Prop} {w : World} {B : Nat} {e : TypeId} {v : Value} {l : List α} (h : Own C M w B e v l) (h0 : 0 < l.length) :
    ∃ g c cur, v = .slice (some ⟨g, 0, none⟩) l.length c ∧ l.length ≤ c ∧ c ≤ maxLen ∧ B ≤ g ∧ Blk w g e cur ∧ cur.size = c * C.n := by
  obtain ⟨xs, ho, _⟩ := h
  rcases ho.2 with ⟨rfl, h1⟩ | ⟨g, cap, cur, rfl, hb, hg, h1, h2, h3, _⟩
  · omega
  · exact ⟨g, cap, cur, rfl, h1, h2, hb, hg, h3⟩
/-- One cell of an element of one cell is turned. -/
theorem Own.put1 {α : Type} {C : Codec α} {M : Nat → Prop} {w : World} {B : Nat} {e : TypeId} {l : List α} {g n c : Nat} (hC : C.n = 1) (h : Own C M w B e (.slice (some ⟨g, 0, none⟩) n c) l) {k : Nat} (hk : k < l.length) {u : Value} {a : α}
    (hr : C.rd (fun b => M b ∨ b = g) w [u] a) : Own C M (w.setCell ⟨g, k, none⟩ u) B e (.slice (some ⟨g, 0, none⟩) n c) (l.set k a) := by
  obtain ⟨xs, ho, he⟩ := h
  have hxl : xs.length = l.length := by rw [he.1, hC, Nat.mul_one]
  rcases ho with ⟨hl, ⟨hv, _⟩ | ⟨g', cap, cur, hv, hb, hblk, h1, h2, hsz, htk⟩⟩
  · cases hv
  · injection hv with hv1 hv2 hv3
    injection hv1 with hv1
    injection hv1 with hv1
    subst hv1 hv2 hv3
    have hkc : k < cur.size := by rw [hsz, hC]; omega
    refine ⟨xs.set k u, ⟨by rw [List.length_set, List.length_set, hl], .inr ⟨g, c, cur.setIfInBounds k u, by rw [List.length_set], hb, ?_, by rw [List.length_set]; exact h1, h2, by rw [Array.size_setIfInBounds, hsz], ?_⟩⟩, ?_⟩
    · simp [World.setCell, Array.getElem?_modify, hblk]
    · rw [Array.toList_setIfInBounds, List.take_set, List.length_set, htk]
    · refine ⟨by rw [List.length_set, List.length_set, he.1], fun i hi => ?_⟩
      rw [List.length_set] at hi
      have keep : ∀ (cs : List Value) (x : α), C.rd (fun b => M b ∨ b = g) w cs x → C.rd (fun b => M b ∨ (Value.slice (some ⟨g, 0, none⟩) l.length c).ownBlock = some b) (w.setCell ⟨g, k, none⟩ u) cs x := fun cs x hx => by
        have h3 := C.keep (w' := w.setCell ⟨g, k, none⟩ u) hx (fun b _ hn => Below.heap_setCell w ⟨g, k, none⟩ u b fun e => hn (.inr e)) (by simp)
        exact C.sub h3 fun b _ hor => hor.imp id fun ho => by simp only [Value.ownBlock, Option.some.injEq] at ho; exact ho.symm
      by_cases hik : i = k
      · subst hik
        rw [List.getElem_set_self]
        have : ((xs.set i u).drop (i * C.n)).take C.n = [u] := by
          apply List.ext_getElem?
          intro j
          rw [hC]
          simp only [List.getElem?_take, List.getElem?_drop, Nat.mul_one]
          rcases j with _ | j
          · simp [List.getElem?_set_self (show i < xs.length by omega)]
          · simp
        rw [this]
        exact keep _ _ hr
      · rw [List.getElem_set_ne (by omega)]
        have : ((xs.set k u).drop (i * C.n)).take C.n = (xs.drop (i * C.n)).take C.n := by
          apply List.ext_getElem?
          intro j
          rw [hC]
          simp only [List.getElem?_take, List.getElem?_drop, Nat.mul_one]
          split
          · rw [List.getElem?_set_ne (by omega)]
          · rfl
        rw [this]
        refine keep _ _ (C.sub (he.2 i hi) fun b _ hor => hor.imp id fun e => by rw [e]; rfl)
/-- A codec of one cell that leads nowhere. -/
def Codec.Flat {α : Type} (C : Codec α) : Prop := C.n = 1 ∧ ∀ (M M' : Nat → Prop) (w w' : World) (cs : List Value) (a : α), C.rd M w cs a → C.rd M' w' cs a
theorem flat_byte : byteC.Flat := ⟨rfl, fun _ _ _ _ _ _ h => h⟩
theorem flat_int : intC.Flat := ⟨rfl, fun _ _ _ _ _ _ h => h⟩
theorem flat_bool : boolC.Flat := ⟨rfl, fun _ _ _ _ _ _ h => h⟩
theorem flat_str : strC.Flat := ⟨rfl, fun _ _ _ _ _ _ h => h⟩
/-- A store into a slice whose elements lead nowhere. -/
theorem SlR.set1 {α : Type} {C : Codec α} (hF : C.Flat) {M : Nat → Prop} {w : World} {l : List α} {b off n c k : Nat} (h : SlR C M w (.slice (some ⟨b, off, none⟩) n c) l) (hk : k < l.length) {u : Value} {a : α} (hu : C.rd M w [u] a) :
    SlR C M (w.setCell ⟨b, off + k, none⟩ u) (.slice (some ⟨b, off, none⟩) n c) (l.set k a) := by
  obtain ⟨A, n', c', xs, hv, rfl, hc, hm, he, ha⟩ := h
  injection hv with e1 e2 e3
  subst e1 e2 e3
  obtain ⟨hC, hfl⟩ := hF
  have hxl : xs.length = l.length := by rw [he.1, hC, Nat.mul_one]
  refine ⟨_, _, _, xs.set k u, rfl, by rw [List.length_set], hc, hm, ⟨by rw [List.length_set, List.length_set, he.1], fun i hi => ?_⟩, fun h0 => ?_⟩
  · rw [List.length_set] at hi
    refine hfl M M w _ _ _ ?_
    by_cases hik : i = k
    · subst hik
      rw [List.getElem_set_self]
      have : ((xs.set i u).drop (i * C.n)).take C.n = [u] := by
        apply List.ext_getElem?
        intro j
        rw [hC]
        simp only [List.getElem?_take, List.getElem?_drop, Nat.mul_one]
        rcases j with _ | j
        · simp [List.getElem?_set_self (show i < xs.length by omega)]
        · simp
      rw [this]
      exact hu
    · rw [List.getElem_set_ne (by omega)]
      have : ((xs.set k u).drop (i * C.n)).take C.n = (xs.drop (i * C.n)).take C.n := by
        apply List.ext_getElem?
        intro j
        rw [hC]
        simp only [List.getElem?_take, List.getElem?_drop, Nat.mul_one]
        split
        · rw [List.getElem?_set_ne (by omega)]
        · rfl
      rw [this]
      exact he.2 i hi
  · obtain ⟨b', off', hA, hM, hb, hcell⟩ := ha h0
    cases hA
    refine ⟨b, off, rfl, hM, by simpa using hb, fun j v hv => ?_⟩
    by_cases hjk : j = k
    · subst hjk
      rw [List.getElem?_set_self (by omega)] at hv
      injection hv with hv
      subst hv
      obtain ⟨v0, hv0⟩ : ∃ v0, xs[j]? = some v0 := ⟨_, List.getElem?_eq_getElem (show j < xs.length by omega)⟩
      exact World.cell?_setCell_same _ _ _ (hcell j v0 hv0)
    · rw [List.getElem?_set_ne (by omega)] at hv
      exact (World.cell?_setCell_other _ _ _ _ (by intro e; injection e with _ e; omega)).trans (hcell j v hv)
/-- A block with a mark. -/
def BlkM (w : World) (g : Nat) (t : TypeId) (n : Nat) : Prop := ∃ cs : Array Value, w.heap[g]? = some (.cells cs t (n, n + 1))
theorem BlkM.frozen {w : World} {g : Nat} {t : TypeId} {n i : Nat} (h : BlkM w g t n) (hi : i < n) : w.frozen? ⟨g, i, none⟩ = false := by
  obtain ⟨cs, h⟩ := h
  simp only [World.frozen?, h]
  simp; omega
theorem BlkM.set {w : World} {g : Nat} {t : TypeId} {n : Nat} (h : BlkM w g t n) (i : Nat) (u : Value) : BlkM (w.setCell ⟨g, i, none⟩ u) g t n := by
  obtain ⟨cs, h⟩ := h
  exact ⟨cs.setIfInBounds i u, by simp [World.setCell, Array.getElem?_modify, h]⟩
theorem BlkM.lt {w : World} {g : Nat} {t : TypeId} {n : Nat} (h : BlkM w g t n) : g < w.heap.size := by
  obtain ⟨cs, h⟩ := h
  exact (Array.getElem?_eq_some_iff.1 h).1
theorem lit_bytes (M : Nat → Prop) (w : World) : ∀ l : List UInt8, Els byteC M w (l.map fun b => .int .u8 (b.toNat : Int)) l
  | [] => Els.nil _ _ _
  | b :: l => (Els.single (C := byteC) (cs := [.int .u8 (b.toNat : Int)]) rfl).append (lit_bytes M w l)
/-- '[]byte(s)': what it leaves. -/
theorem run_bytes_of {P : Program} (w : World) (src dst e : TypeId) (s : List UInt8) (hn : s.length ≤ maxLen) (hs : P.underlying src = some .string) (hd : P.underlying dst = some (.slice e)) (he : P.underlying e = some (.int .u8)) :
    ∃ c w', (convert src dst (.string (bs s))).run P w = .ok (.slice (some ⟨w.heap.size, 0, none⟩) s.length c) w' ∧ s.length ≤ c ∧ c ≤ maxLen ∧ SlR byteC M0 w' (.slice (some ⟨w.heap.size, 0, none⟩) s.length c) s ∧ (∃ m, s.length ≤ m ∧ BlkM w' w.heap.size e m) ∧ Below w.heap.size w w' := by
  have h1 := run_bytes_of_string (P := P) w src dst e (bs s) hs hd he
  rw [bs_size] at h1
  have hge := grownCap_ge w s.length 0 e
  have hle := grownCap_le_maxLen w s.length 0 e (by simpa using hn)
  have hrow : bytesRow (bs s) (grownCap w s.length 0 e) = (s.map fun b => Value.int .u8 (b.toNat : Int)).toArray ++ Array.replicate (grownCap w s.length 0 e - s.length) (.int .u8 0) := by
    simp [bytesRow, bs, ByteArray.size]
  have hlen : (bytesRow (bs s) (grownCap w s.length 0 e)).size = grownCap w s.length 0 e := by rw [hrow]; simp; omega
  refine ⟨_, _, h1, hge, hle, ?_, ⟨(bytesRow (bs s) (grownCap w s.length 0 e)).size, by rw [hlen]; exact hge, ⟨_, heap_alloc_new _ _⟩⟩, ((Below.refl _ w).trans (below_drewN' _ w 1)).alloc (Nat.le_refl _) _⟩
  refine ⟨_, _, _, s.map fun b => Value.int .u8 (b.toNat : Int), rfl, rfl, hge, hle, lit_bytes _ _ s, fun _ => ⟨_, 0, rfl, fun h => h, by simp, fun j u hu => ?_⟩⟩
  rw [Nat.zero_add]
  have hb : (w.drew.alloc (.cells (bytesRow (bs s) (grownCap w s.length 0 e)) e ((bytesRow (bs s) (grownCap w s.length 0 e)).size, (bytesRow (bs s) (grownCap w s.length 0 e)).size + 1))).heap[w.heap.size]? = some _ := heap_alloc_new w.drew _
  simp only [World.cell?, hb]
  rw [hrow]
  have hj : j < s.length := by have := (List.getElem?_eq_some_iff.1 hu).1; simpa using this
  simpa [Array.getElem?_append, hj] using hu
/-! ### Elements, read -/
section
variable {M : Nat → Prop} {w : World} {A : Option Addr} {n c : Nat}
theorem SlR.byteAt {l : List UInt8} (h : SlR byteC M w (.slice A n c) l) {k : Nat} (hk : k < l.length) :
    ∃ b off, A = some ⟨b, off, none⟩ ∧ ¬ M b ∧ b < w.heap.size ∧ w.cell? ⟨b, off + k, none⟩ = some (.int .u8 (l[k].toNat : Int)) := by
  obtain ⟨b, off, cs, rfl, hM, hb, hr, hc⟩ := h.at_ hk
  refine ⟨b, off, rfl, hM, hb, ?_⟩
  have := hc 0 (.int .u8 (l[k].toNat : Int)) (by have : cs = _ := hr; rw [this]; rfl)
  simpa [byteC] using this
theorem SlR.strAt {l : List (List UInt8)} (h : SlR strC M w (.slice A n c) l) {k : Nat} (hk : k < l.length) :
    ∃ b off, A = some ⟨b, off, none⟩ ∧ ¬ M b ∧ b < w.heap.size ∧ w.cell? ⟨b, off + k, none⟩ = some (.string (bs l[k])) ∧ l[k].length ≤ maxLen := by
  obtain ⟨b, off, cs, rfl, hM, hb, hr, hc⟩ := h.at_ hk
  refine ⟨b, off, rfl, hM, hb, ?_, hr.2⟩
  have := hc 0 (.string (bs l[k])) (by have : cs = _ := hr.1; rw [this]; rfl)
  simpa [strC] using this
theorem SlR.intAt {l : List Int} (h : SlR intC M w (.slice A n c) l) {k : Nat} (hk : k < l.length) :
    ∃ b off, A = some ⟨b, off, none⟩ ∧ ¬ M b ∧ b < w.heap.size ∧ w.cell? ⟨b, off + k, none⟩ = some (.int .i64 l[k]) ∧ -9223372036854775808 ≤ l[k] ∧ l[k] ≤ 9223372036854775807 := by
  obtain ⟨b, off, cs, rfl, hM, hb, hr, hc⟩ := h.at_ hk
  refine ⟨b, off, rfl, hM, hb, ?_, hr.2⟩
  have := hc 0 (.int .i64 l[k]) (by have : cs = _ := hr.1; rw [this]; rfl)
  simpa [intC] using this
theorem SlR.sliceAt {α : Type} {C : Codec α} {l : List (List α)} (h : SlR (sliceC C) M w (.slice A n c) l) {k : Nat} (hk : k < l.length) :
    ∃ b off A2 c2, A = some ⟨b, off, none⟩ ∧ ¬ M b ∧ b < w.heap.size ∧ w.cell? ⟨b, off + k, none⟩ = some (.slice A2 (l[k]).length c2) ∧ SlR C M w (.slice A2 (l[k]).length c2) l[k] := by
  obtain ⟨b, off, cs, rfl, hM, hb, ⟨v, rfl, hv⟩, hc⟩ := h.at_ hk
  obtain ⟨A2, c2, rfl, _⟩ := hv.form
  refine ⟨b, off, A2, c2, rfl, hM, hb, ?_, hv⟩
  have := hc 0 _ rfl
  simpa [sliceC] using this
/-- The first z elements. -/
theorem SlR.firsts {α : Type} {C : Codec α} {l : List α} (h : SlR C M w (.slice A n c) l) {z : Nat} (hz : z ≤ l.length) : SlR C M w (.slice A z c) (l.take z) := by
  obtain ⟨A', n', c', xs, hv, rfl, hc, hm, he, ha⟩ := h
  injection hv with e1 e2 e3
  subst e1 e2 e3
  have hlen : (l.take z).length = z := by simp [Nat.min_eq_left hz]
  refine ⟨A, z, c, xs.take (z * C.n), rfl, hlen.symm, by omega, hm, he.take z, ?_⟩
  intro h0
  obtain ⟨b, off, hA, hM, hb, hcell⟩ := ha (by omega)
  refine ⟨b, off, hA, hM, hb, fun j u hu => hcell j u ?_⟩
  rw [List.getElem?_take] at hu
  split at hu
  · exact hu
  · cases hu
end
end Go.Proofs.YtjamjkjmlckgeaaGreatDoor
namespace Go.Proofs.YtjamjkjmlckgeaaGreatDoor
open Go.RowKit

theorem u8_le (a b : Nat) (c : UInt8) (h : c.toNat = b) : decide ((a : Int) ≤ (c.toNat : Int)) = decide (a ≤ b) := by rw [h]; simp
theorem letc_int (c : UInt8) : letc c = ((decide ((97 : Int) ≤ (c.toNat : Int)) && decide ((c.toNat : Int) ≤ 122)) || (decide ((65 : Int) ≤ (c.toNat : Int)) && decide ((c.toNat : Int) ≤ 90)) || (decide ((48 : Int) ≤ (c.toNat : Int)) && decide ((c.toNat : Int) ≤ 57))) := by
  rw [Bool.eq_iff_iff]
  simp only [letc, Bool.or_eq_true, Bool.and_eq_true, decide_eq_true_eq, UInt8.le_iff_toNat_le, UInt8.reduceToNat]
  omega

theorem all_true (s : Str) (p : UInt8 → Bool) (h : ∀ (i : Nat) (hi : i < s.length), p s[i] = true) : s.all p = true := by
  rw [List.all_eq_true]
  intro x hx
  obtain ⟨i, hi, rfl⟩ := List.mem_iff_getElem.1 hx
  exact h i hi
theorem all_false (s : Str) (p : UInt8 → Bool) (i : Nat) (hi : i < s.length) (h : p s[i] = false) : s.all p = false := by
  rw [Bool.eq_false_iff]
  intro e
  rw [List.all_eq_true] at e
  have := e _ (List.getElem_mem hi)
  rw [h] at this
  cases this

set_option maxHeartbeats 400000 in
theorem allB_ok (f : FuncId) (p : UInt8 → Bool) (eg : ∀ args w, (callFunc f args).run Tryz.prog w = .ok (.enter f args) w) (hf : ∀ (c : UInt8) (w : World), Calls Tryz.prog f #[.int .u8 (c.toNat : Int)] w fun e w' => e = .returned (.bool (p c)) ∧ w = w')
    (s : Str) (hs : s.length ≤ maxLen) (w : World) :
    Calls Tryz.prog 147 #[.string (bs s), .func (.func f) #[] #[]] w fun e w' => e = .returned (.bool (s.all p)) ∧ w = w' := by
  unfold maxLen at hs
  have Hf := Lib.hid hf
  clear hf
  go_enter Tryz.func147, Tryz.ntmps147
  go_wp2
  go_loop [8] (fun i => ∃ k : Nat, k ≤ s.length ∧ i = .int .i64 k ∧ Hid (∀ (j : Nat) (hj : j < s.length), j < k → p s[j] = true)) (fun i => s.length - (intOf i).toNat)
  case atStart => exact ⟨0, Nat.zero_le _, rfl, Lib.hid fun j _ h => absurd h (by omega)⟩
  case round =>
    obtain ⟨k, hk, rfl, hpre⟩ := hrel
    by_cases hlt : k < s.length
    · obtain ⟨t, ht⟩ : ∃ t, t = p s[k] := ⟨_, rfl⟩
      have hfc := (Hf.out s[k] w).mono fun e w' h => (⟨by rw [h.1, ht], h.2⟩ : e = .returned (.bool t) ∧ w = w')
      have Hfc := Lib.hid hfc
      have Ht := Lib.hid ht
      clear hfc ht
      go_wp2_with fail
      refine Hfc.out.mono ?_
      rintro e w1 ⟨rfl, rfl⟩
      cases t with
      | true =>
        go_wp2
        go_round
        case rel => exact ⟨k + 1, by omega, by go_num, Lib.hid fun j hj h => by
          by_cases e : j = k
          · subst e; exact Ht.out.symm
          · exact hpre.out j hj (by omega)⟩
        case measure => simp [intOf]; omega
      | false =>
        go_wp2
        go_ret
        exact ⟨by rw [all_false s p k hlt Ht.out.symm]; rfl, rfl⟩
    · go_wp2
      go_ret
      exact ⟨by rw [all_true s p fun i hi => hpre.out i hi (by omega)]; rfl, rfl⟩

theorem lowerC_nat (c : UInt8) : ((lowerC c).toNat : Int) = if 65 ≤ c.toNat ∧ c.toNat ≤ 90 then (c.toNat : Int) + 32 else (c.toNat : Int) := by
  have hc := c.toNat_lt
  unfold lowerC
  by_cases h : upc c = true
  · have h' : 65 ≤ c.toNat ∧ c.toNat ≤ 90 := by simpa [upc, UInt8.le_iff_toNat_le] using h
    rw [if_pos h, if_pos h', UInt8.toNat_add]
    simp
    omega
  · have h' : ¬ (65 ≤ c.toNat ∧ c.toNat ≤ 90) := by simpa [upc, UInt8.le_iff_toNat_le] using h
    rw [if_neg h, if_neg h']
/-- The bytes up to k in lower case. -/
def lowTo (s : Str) (k : Nat) : Str := (s.take k).map lowerC ++ s.drop k
theorem lowTo_len (s : Str) (k : Nat) : (lowTo s k).length = s.length := by simp [lowTo]; omega
theorem lowTo_zero (s : Str) : lowTo s 0 = s := by simp [lowTo]
theorem lowTo_all (s : Str) : lowTo s s.length = lowerF s := by simp [lowTo, lowerF]
theorem lowTo_get (s : Str) (k : Nat) (hk : k < s.length) : (lowTo s k)[k]'(by rw [lowTo_len]; exact hk) = s[k] := by
  simp [lowTo, Nat.min_eq_left (Nat.le_of_lt hk)]
theorem lowTo_succ (s : Str) (k : Nat) (hk : k < s.length) : lowTo s (k + 1) = (lowTo s k).set k (lowerC s[k]) := by
  have h1 : s.take (k + 1) = s.take k ++ [s[k]] := by rw [List.take_succ_eq_append_getElem hk]
  have h2 : s.drop k = s[k] :: s.drop (k + 1) := List.drop_eq_getElem_cons hk
  have h3 : ((s.take k).map lowerC).length = k := by simp; omega
  rw [lowTo, lowTo, h1, h2, List.map_append, List.set_append_right _ _ (by omega), h3, Nat.sub_self, List.set_cons_zero, List.append_assoc]
  rfl
theorem lowTo_same (s : Str) (k : Nat) (hk : k < s.length) (h : lowerC s[k] = s[k]) : lowTo s (k + 1) = lowTo s k := by
  rw [lowTo_succ s k hk, h]
  have := lowTo_get s k hk
  conv => lhs; rw [← this]
  exact List.set_getElem_self _
end Go.Proofs.YtjamjkjmlckgeaaGreatDoor
namespace Go.Proofs.YtjamjkjmlckgeaaGreatDoor
set_option linter.unusedVariables false
namespace Mb
abbrev Fld := Str × Str
abbrev Msg := List Fld × List UInt8
/-- uid, seq, flags, the instant, the message -/
abbrev Ent := Int × Int × Int × Int × Msg
abbrev Gn := Int × Int
structure Box where
  nu : Int
  ns : Int
  hz : Int
  es : List Ent
  gs : List Gn
/-- kind, uid, set, clear, the instant, the message -/
abbrev Chg := Int × Int × Int × Int × Int × Msg
/-! ### a field's lines -/
def blank (c : UInt8) : Bool := c == 32 || c == 9
def nameF (s : Str) : Bool := !(s == []) && (decide (s.length ≤ 60) && s.all fun c => (decide (33 ≤ c.toNat) && decide (c.toNat ≤ 126)) && !(c == 58))
def endsF (s : Str) : Bool := s.any fun c => c == 13 || (c == 10 || c == 0)
def valueF (s : Str) : Bool := !endsF s && (s == [] || (!blank (s.headD 0) && !blank (s.getLastD 0)))
/-- where the next line ends: f places are left, from i on, best so far -/
def pointGo (s : Str) : Nat → Nat → Nat → Nat
  | 0, _, best => best
  | f + 1, i, best => if i < s.length then
      (if !blank (s.getD i 0) || blank (s.getD (i - 1) 0) then pointGo s f (i + 1) best
       else if 0 < best ∧ 78 < i then best
       else pointGo s f (i + 1) i)
    else best
def pointF (s : Str) (from_ : Nat) : Nat := pointGo s s.length (max from_ 1) 0
/-- the lines of a text -/
def foldGo : Nat → Str → Nat → List Str
  | 0, s, _ => [s]
  | f + 1, s, from_ => if s.length ≤ 78 then [s] else if pointF s from_ = 0 then [s] else s.take (pointF s from_) :: foldGo f (s.drop (pointF s from_)) 0
def longAt : List Str → Int → Int × Int
  | [], _ => (0, 0)
  | s :: l, i => if 998 < s.length then (1, i) else longAt l (i + 1)
def linesF (n v : Str) : List Str := foldGo (n.length + 2 + v.length) (n ++ 58 :: 32 :: v) (n.length + 2)
def foldF (n v : Str) : List Str × Int × Int :=
  if nameF n = false then ([], 10, -1) else if 4000 < v.length then ([], 1, -1) else if valueF v = false then ([], 11, -1)
  else if (longAt (linesF n v) 0).1 ≠ 0 then ([], longAt (linesF n v) 0) else (linesF n v, 0, 0)
/-! ### a message -/
def writeF (m : Msg) : List UInt8 := (m.1.flatMap fun x => (foldF x.1 x.2).1.flatMap fun s => s ++ [13, 10]) ++ 13 :: 10 :: m.2
def fieldsErr : List Fld → Int → Int × Int
  | [], _ => (0, 0)
  | x :: l, i => if (foldF x.1 x.2).2.1 ≠ 0 then ((foldF x.1 x.2).2.1, i) else fieldsErr l (i + 1)
def headerF (l : List Fld) : Int × Int := if 60 < l.length then (2, -1) else fieldsErr l 0
/-- the code of the first byte of a body that is not permitted -/
def bodyGo : List UInt8 → Nat → Int
  | [], _ => 0
  | [c], k => if c = 13 ∨ c = 10 then 11 else if 998 < k + 1 then 1 else 0
  | c :: d :: r, k => if c = 13 ∧ d = 10 then bodyGo r 0 else if c = 13 ∨ c = 10 then 11 else if 998 < k + 1 then 1 else bodyGo (d :: r) (k + 1)
def bodyF (b : List UInt8) : Int := bodyGo b 0
def msgF (m : Msg) : Int × Int :=
  if (headerF m.1).1 ≠ 0 then headerF m.1 else if 12000 < (writeF m).length then (1, -4) else if bodyF m.2 = 11 then (11, -5) else if bodyF m.2 = 1 then (1, -6) else (0, 0)
/-! ### a mailbox -/
def findI (es : List Ent) (uid : Int) : Int := match es.findIdx? (fun e => e.1 == uid) with | some k => (k : Int) | none => -1
def entErr (b : Box) (i : Nat) : Int :=
  let e := b.es.getD i (0, 0, 0, 0, [], [])
  if ¬ (1 ≤ e.1 ∧ e.1 ≤ b.nu - 1) ∨ ¬ (1 ≤ e.2.1 ∧ e.2.1 ≤ b.ns - 1) ∨ ¬ (0 ≤ e.2.2.1 ∧ e.2.2.1 ≤ 63) ∨ ¬ (-68719476736 ≤ e.2.2.2.1 ∧ e.2.2.2.1 ≤ 68719476736) then 3
  else if 0 < i ∧ e.1 ≤ (b.es.getD (i - 1) (0, 0, 0, 0, [], [])).1 then 19 else (msgF e.2.2.2.2).1
def goneErr (b : Box) (k : Nat) : Int :=
  let g := b.gs.getD k (0, 0)
  if ¬ (1 ≤ g.1 ∧ g.1 ≤ b.nu - 1) ∨ ¬ (b.hz + 1 ≤ g.2 ∧ g.2 ≤ b.ns - 1) then 3
  else if 0 < k ∧ g.2 ≤ (b.gs.getD (k - 1) (0, 0)).2 then 19
  else if ((b.gs.take k).any fun x => x.1 == g.1) = true ∨ 0 ≤ findI b.es g.1 then 7 else 0
/-- the first error of places k, k + 1, .. (f of them) -/
def errGo (p : Nat → Int) (off : Int) : Nat → Nat → Int × Int
  | 0, _ => (0, 0)
  | f + 1, k => if p k ≠ 0 then (p k, off + (k : Int)) else errGo p off f (k + 1)
def boxF (b : Box) : Int × Int :=
  if 200 < b.es.length then (2, -1) else if 400 < b.gs.length then (2, -2)
  else if ¬ (1 ≤ b.nu ∧ b.nu ≤ 1000000) ∨ ¬ (1 ≤ b.ns ∧ b.ns ≤ 1000000) ∨ ¬ (0 ≤ b.hz ∧ b.hz ≤ b.ns - 1) then (3, -3)
  else if (errGo (entErr b) 0 b.es.length 0).1 ≠ 0 then errGo (entErr b) 0 b.es.length 0
  else errGo (goneErr b) 1000 b.gs.length 0
def newB : Box := ⟨1, 1, 0, [], []⟩
def chgF (c : Chg) : Int × Int :=
  let content := decide (0 < c.2.2.2.2.2.1.length + c.2.2.2.2.2.2.length)
  let unused := if c.1 = 1 then (c.2.1 != 0 || c.2.2.2.1 != 0) else if c.1 = 2 then (c.2.2.2.2.1 != 0 || content) else (c.2.2.2.2.1 != 0 || content || (c.2.2.1 != 0 || c.2.2.2.1 != 0))
  if ¬ (c.1 = 1 ∨ c.1 = 2 ∨ c.1 = 3) then (4, -5) else if unused then (5, -5)
  else if ¬ (0 ≤ c.2.2.1 ∧ c.2.2.1 ≤ 63) ∨ ¬ (0 ≤ c.2.2.2.1 ∧ c.2.2.2.1 ≤ 63) ∨ ¬ (-68719476736 ≤ c.2.2.2.2.1 ∧ c.2.2.2.2.1 ≤ 68719476736) then (3, -5)
  else if c.1 = 1 ∧ (msgF c.2.2.2.2.2).1 ≠ 0 then ((msgF c.2.2.2.2.2).1, -6) else (0, 0)

/-! ### the text of a record -/
def item (s : Str) : Str := Lib.itoa (s.length : Int) ++ 58 :: s
def numb (n : Int) : Str := item (Lib.itoa n)
def numsB (l : List Int) : Str := l.flatMap numb
def fldB (x : Fld) : Str := item x.1 ++ item x.2
def msgB (m : Msg) : Str := numb (m.1.length : Int) ++ (m.1.flatMap fldB ++ item m.2)
def chgB (c : Chg) : Str := 67 :: (numsB [c.1, c.2.1, c.2.2.1, c.2.2.2.1, c.2.2.2.2.1] ++ msgB c.2.2.2.2.2)
def headB (b : Box) : Str := 77 :: (numsB [b.nu, b.ns, b.hz, (b.gs.length : Int)] ++ b.gs.flatMap fun g => numsB [g.1, g.2])
def entB (e : Ent) : Str := 69 :: (numsB [e.1, e.2.1, e.2.2.1, e.2.2.2.1] ++ msgB e.2.2.2.2)
def boxR (b : Box) : List Str := headB b :: b.es.map entB
/-! ### numbers -/
theorem digit_dg (u : Nat) (h : u < 10) : Lib.digitVal (UInt8.ofNat (48 + u)) = some u := by
  have : ∀ i : Fin 10, Lib.digitVal (UInt8.ofNat (48 + i.val)) = some i.val := by decide
  exact this ⟨u, h⟩
theorem decFrom_append : ∀ (a b : List UInt8) (acc : Nat), Lib.decFrom acc (a ++ b) = (Lib.decFrom acc a).bind fun n => Lib.decFrom n b
  | [], b, acc => rfl
  | c :: a, b, acc => by
    rw [List.cons_append, Lib.decFrom, Lib.decFrom]
    cases Lib.digitVal c with
    | none => rfl
    | some d => exact decFrom_append a b _
theorem decFrom_dec (u : Nat) : ∃ k, 1 ≤ k ∧ ∀ acc, Lib.decFrom acc (Lib.decDigits u) = some (acc * k + u) := by
  induction u using Nat.strongRecOn with
  | _ u ih =>
    by_cases h : u < 10
    · refine ⟨10, by omega, fun acc => ?_⟩
      rw [Lib.decDigits, dif_pos h, Lib.decFrom, digit_dg u h]
      rfl
    · obtain ⟨k, hk, hd⟩ := ih (u / 10) (by omega)
      refine ⟨k * 10, by omega, fun acc => ?_⟩
      rw [Lib.decDigits, dif_neg h, decFrom_append, hd]
      show Lib.decFrom (acc * k + u / 10) [UInt8.ofNat (48 + u % 10)] = _
      rw [Lib.decFrom, digit_dg (u % 10) (by omega)]
      show some ((acc * k + u / 10) * 10 + u % 10) = _
      congr 1
      rw [Nat.add_mul, Nat.mul_assoc]
      omega
theorem dec_ne (u : Nat) : Lib.decDigits u ≠ [] := by
  have := Lib.decDigits_length u
  have h := Lib.nDigits_pos u
  intro e
  rw [e] at this
  simp at this
  omega
theorem dec_nat (u : Nat) : Lib.decNat (Lib.decDigits u) = some u := by
  unfold Lib.decNat
  rw [if_neg (by simpa using dec_ne u)]
  obtain ⟨k, _, hd⟩ := decFrom_dec u
  rw [hd]
  simp
theorem dec_head (u : Nat) : ∃ d r, d < 10 ∧ Lib.decDigits u = UInt8.ofNat (48 + d) :: r := by
  induction u using Nat.strongRecOn with
  | _ u ih =>
    by_cases h : u < 10
    · exact ⟨u, [], h, by rw [Lib.decDigits, dif_pos h]⟩
    · obtain ⟨d, r, hd, e⟩ := ih (u / 10) (by omega)
      exact ⟨d, r ++ [UInt8.ofNat (48 + u % 10)], hd, by rw [Lib.decDigits, dif_neg h, e]; rfl⟩
theorem dg_no (d : Nat) (h : d < 10) : (UInt8.ofNat (48 + d) == 45) = false ∧ (UInt8.ofNat (48 + d) == 43) = false ∧ UInt8.ofNat (48 + d) ≠ 58 := by
  have : ∀ i : Fin 10, (UInt8.ofNat (48 + i.val) == 45) = false ∧ (UInt8.ofNat (48 + i.val) == 43) = false ∧ UInt8.ofNat (48 + i.val) ≠ 58 := by decide
  exact this ⟨d, h⟩
theorem atoi_itoa (n : Int) : Lib.atoi (Lib.itoa n) = some n := by
  unfold Lib.itoa
  split
  · rename_i h
    rw [Lib.atoi, if_pos (by rfl), dec_nat]
    simp only [Option.map_some]
    congr 1
    omega
  · rename_i h
    obtain ⟨d, r, hd, e⟩ := dec_head n.toNat
    have h1 := dg_no d hd
    have h2 := dec_nat n.toNat
    rw [e] at h2 ⊢
    rw [Lib.atoi, if_neg (by simpa using h1.1), if_neg (by simpa using h1.2.1), h2]
    simp only [Option.map_some]
    congr 1
    omega
theorem dec_colon (u : Nat) : (58 : UInt8) ∉ Lib.decDigits u := by
  induction u using Nat.strongRecOn with
  | _ u ih =>
    by_cases h : u < 10
    · rw [Lib.decDigits, dif_pos h]
      simp only [List.mem_singleton]
      exact fun e => (dg_no u h).2.2 e.symm
    · rw [Lib.decDigits, dif_neg h, List.mem_append]
      rintro (h1 | h1)
      · exact ih (u / 10) (by omega) h1
      · rw [List.mem_singleton] at h1
        exact (dg_no (u % 10) (by omega)).2.2 h1.symm
theorem itoa_colon (n : Int) : (58 : UInt8) ∉ Lib.itoa n := by
  unfold Lib.itoa
  split
  · simp only [List.mem_cons, not_or]
    exact ⟨by decide, dec_colon _⟩
  · exact dec_colon _
theorem nDigits_le : ∀ (k u : Nat), 1 ≤ k → u < 10 ^ k → Lib.nDigits u ≤ k
  | 0, u, h, _ => absurd h (by omega)
  | 1, u, _, h => by rw [Lib.nDigits_small (by simpa using h)]; exact Nat.le_refl _
  | k + 2, u, _, h => by
    by_cases h1 : u < 10
    · rw [Lib.nDigits_small h1]; omega
    · rw [Lib.nDigits_big h1]
      have := nDigits_le (k + 1) (u / 10) (by omega) (by rw [Nat.pow_succ] at h; omega)
      omega
theorem itoa_nat_len {u k : Nat} (hk : 1 ≤ k) (h : u < 10 ^ k) : (Lib.itoa (u : Int)).length ≤ k := by
  unfold Lib.itoa
  rw [if_neg (by omega), show ((u : Int)).toNat = u from Int.toNat_natCast u, Lib.decDigits_length]
  exact nDigits_le k u hk h
theorem item_len {s : Str} (h : s.length < 100000) : (item s).length ≤ s.length + 6 := by
  unfold item
  rw [List.length_append, List.length_cons]
  have := itoa_nat_len (u := s.length) (k := 5) (by omega) (by omega)
  omega
theorem numb_len {n : Int} (h0 : -9223372036854775808 ≤ n) (h1 : n ≤ 9223372036854775807) : (numb n).length ≤ 24 := by
  unfold numb item
  have h2 := Lib.itoa_length_le n h0 h1
  rw [List.length_append, List.length_cons]
  have := itoa_nat_len (u := (Lib.itoa n).length) (k := 2) (by omega) (by omega)
  omega
/-! ### how long a valid message's text is -/
theorem foldGo_sum : ∀ (f : Nat) (s : Str) (k : Nat), ((foldGo f s k).map List.length).sum = s.length
  | 0, s, k => by simp [foldGo]
  | f + 1, s, k => by
    unfold foldGo
    split
    · simp
    · split
      · simp
      · rw [List.map_cons, List.sum_cons, foldGo_sum f]
        simp only [List.length_take, List.length_drop]
        omega
theorem foldGo_ne : ∀ (f : Nat) (s : Str) (k : Nat), 1 ≤ (foldGo f s k).length
  | 0, s, k => by simp [foldGo]
  | f + 1, s, k => by
    unfold foldGo
    split
    · simp
    · split <;> simp
theorem foldF_ok {n v : Str} (h : (foldF n v).2.1 = 0) : (foldF n v).1 = linesF n v ∧ nameF n = true ∧ v.length ≤ 4000 ∧ valueF v = true := by
  unfold foldF at h ⊢
  split at h
  · cases h
  · rename_i h1
    split at h
    · cases h
    · rename_i h2
      split at h
      · cases h
      · rename_i h3
        split at h
        · rename_i h4; exact absurd h h4
        · rename_i h4
          rw [if_neg h1, if_neg h2, if_neg h3, if_neg h4]
          exact ⟨rfl, by simpa using h1, by omega, by simpa using h3⟩
theorem lines_bytes : ∀ l : List Str, (l.flatMap fun s => s ++ [13, 10]).length = (l.map List.length).sum + 2 * l.length
  | [] => rfl
  | s :: l => by
    rw [List.flatMap_cons, List.length_append, lines_bytes l, List.map_cons, List.sum_cons, List.length_cons, List.length_append]
    simp only [List.length_cons, List.length_nil]
    omega
def sizeF (l : List Fld) : Nat := (l.map fun x => x.1.length + x.2.length + 4).sum
theorem fields_ok : ∀ (l : List Fld) (i : Int), (fieldsErr l i).1 = 0 → ∀ x ∈ l, (foldF x.1 x.2).2.1 = 0
  | [], _, _, x, hx => by cases hx
  | y :: l, i, h, x, hx => by
    unfold fieldsErr at h
    split at h
    · rename_i h1; exact absurd h h1
    · rename_i h1
      rcases List.mem_cons.1 hx with rfl | hx
      · simpa using h1
      · exact fields_ok l _ h x hx
theorem write_size (b : List UInt8) : ∀ l : List Fld, (∀ x ∈ l, (foldF x.1 x.2).2.1 = 0) → sizeF l ≤ (l.flatMap fun x => (foldF x.1 x.2).1.flatMap fun s => s ++ [13, 10]).length
  | [], _ => Nat.zero_le _
  | x :: l, h => by
    have ih := write_size b l fun y hy => h y (.tail _ hy)
    obtain ⟨h1, _⟩ := foldF_ok (h x (.head _))
    unfold sizeF at ih ⊢
    rw [List.map_cons, List.sum_cons, List.flatMap_cons, List.length_append, lines_bytes, h1]
    have h2 := foldGo_sum (x.1.length + 2 + x.2.length) (x.1 ++ 58 :: 32 :: x.2) (x.1.length + 2)
    have h3 := foldGo_ne (x.1.length + 2 + x.2.length) (x.1 ++ 58 :: 32 :: x.2) (x.1.length + 2)
    unfold linesF
    simp only [List.length_append, List.length_cons] at h2
    omega
theorem msg_ok {m : Msg} (h : (msgF m).1 = 0) : m.1.length ≤ 60 ∧ (∀ x ∈ m.1, (foldF x.1 x.2).2.1 = 0) ∧ sizeF m.1 + 2 + m.2.length ≤ 12000 := by
  unfold msgF at h
  split at h
  · rename_i h1; exact absurd h h1
  · rename_i h1
    split at h
    · cases h
    · rename_i h2
      have h3 : (headerF m.1).1 = 0 := by simpa using h1
      unfold headerF at h3
      split at h3
      · cases h3
      · rename_i h4
        have h5 := fields_ok m.1 0 h3
        refine ⟨by omega, h5, ?_⟩
        have h6 := write_size m.2 m.1 h5
        unfold writeF at h2
        rw [List.length_append, List.length_cons, List.length_cons] at h2
        omega
theorem msg_zero {m : Msg} (h : (msgF m).1 = 0) : msgF m = (0, 0) := by
  unfold msgF at h ⊢
  split at h
  · rename_i h1; exact absurd h h1
  · rename_i h1
    rw [if_neg h1]
    split at h
    · cases h
    · rename_i h2
      rw [if_neg h2]
      split at h
      · cases h
      · rename_i h3
        rw [if_neg h3]
        split at h
        · cases h
        · rename_i h4
          rw [if_neg h4]
theorem flds_len : ∀ l : List Fld, (∀ x ∈ l, x.1.length < 100000 ∧ x.2.length < 100000) → (l.flatMap fldB).length ≤ sizeF l + 8 * l.length
  | [], _ => by simp [sizeF]
  | x :: l, h => by
    have ih := flds_len l fun y hy => h y (.tail _ hy)
    obtain ⟨a, b⟩ := h x (.head _)
    have h1 := item_len a
    have h2 := item_len b
    unfold sizeF at ih ⊢
    unfold fldB
    rw [List.flatMap_cons, List.length_append, List.map_cons, List.sum_cons, List.length_cons, List.length_append]
    unfold fldB at ih
    omega
theorem msgB_len {m : Msg} (h : m.1.length ≤ 60 ∧ sizeF m.1 + 2 + m.2.length ≤ 12000) : (msgB m).length ≤ 12520 := by
  have hx : ∀ x ∈ m.1, x.1.length < 100000 ∧ x.2.length < 100000 := fun x hx => by
    have h1 : x.1.length + x.2.length + 4 ≤ sizeF m.1 := by
      unfold sizeF
      have : ∀ (l : List Fld), x ∈ l → x.1.length + x.2.length + 4 ≤ (l.map fun x => x.1.length + x.2.length + 4).sum := by
        intro l
        induction l with
        | nil => intro h; cases h
        | cons y l ih =>
          intro h
          rw [List.map_cons, List.sum_cons]
          rcases List.mem_cons.1 h with rfl | h
          · omega
          · have := ih h; omega
      exact this m.1 hx
    omega
  have h1 := flds_len m.1 hx
  have h2 := item_len (s := m.2) (by omega)
  have h3 := numb_len (n := (m.1.length : Int)) (by omega) (by omega)
  unfold msgB
  rw [List.length_append, List.length_append]
  omega
theorem nums_len : ∀ l : List Int, (∀ n ∈ l, -9223372036854775808 ≤ n ∧ n ≤ 9223372036854775807) → (numsB l).length ≤ 24 * l.length
  | [], _ => Nat.zero_le _
  | n :: l, h => by
    have ih := nums_len l fun y hy => h y (.tail _ hy)
    have h1 := numb_len (h n (.head _)).1 (h n (.head _)).2
    unfold numsB at ih ⊢
    rw [List.flatMap_cons, List.length_append, List.length_cons]
    omega
end Mb
end Go.Proofs.YtjamjkjmlckgeaaGreatDoor
