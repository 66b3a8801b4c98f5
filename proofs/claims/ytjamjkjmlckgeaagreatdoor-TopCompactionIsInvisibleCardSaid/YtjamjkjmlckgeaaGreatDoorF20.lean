/-
  Contracts and plain facts, one after another: Items read: bytes.Cut at a colon, basic.Number; The reader of records: items, numbers.
-/
import Derived.Test.YtjamjkjmlckgeaaGreatDoorF19
namespace Go.Proofs.YtjamjkjmlckgeaaGreatDoor
open Go.RowKit
set_option linter.unusedVariables false

theorem index_colon : ∀ (d x : List UInt8), (58 : UInt8) ∉ d → Lib.index (d ++ 58 :: x) [58] = (d.length : Int)
  | [], x, _ => by simp [Lib.index, List.isPrefixOf]
  | a :: d, x, h => by
    have h1 : (58 : UInt8) ∉ d := fun h2 => h (.tail _ h2)
    have h2 : ¬ (58 : UInt8) = a := fun e => h (by rw [e]; exact .head _)
    have ih := index_colon d x h1
    rw [List.cons_append, Lib.index, ih]
    rw [if_neg (by simp [List.isPrefixOf, h2]), if_neg (by simp), List.length_cons]
    omega
theorem bytesOf_nats (l : List UInt8) : Lib.bytesOf (l.map fun b => (b.toNat : Int)) = l := by
  unfold Lib.bytesOf
  rw [List.map_map]
  conv => rhs; rw [← List.map_id l]
  exact List.map_congr_left fun b _ => by simp
theorem SlR.toBytesIn {M : Nat → Prop} {w : World} {A : Option Addr} {n c : Nat} {l : List UInt8} (h : SlR byteC M w (.slice A n c) l) : Lib.BytesIn w A l.length (l.map fun b => (b.toNat : Int)) := by
  intro hn
  obtain ⟨b, off, hA, _, _, _⟩ := h.byteAt hn
  refine ⟨b, off, hA, fun i hi => ?_⟩
  obtain ⟨b2, off2, hA2, _, _, hc⟩ := h.byteAt hi
  rw [hA] at hA2
  cases hA2
  rw [hc]
  simp [List.getD, hi]
/-- bytes.Cut at the first colon -/
theorem cut_ok (M : Nat → Prop) (n0 : Nat) (w : World) (A : Option Addr) (c q : Nat) (d x : List UInt8) (hE : Env n0 w) (h : SlR byteC M w (.slice A (d ++ 58 :: x).length c) (d ++ 58 :: x)) (hd : (58 : UInt8) ∉ d) (hl : (d ++ 58 :: x).length ≤ 1000000000) (hq : w.cell? ⟨q, 0, none⟩ = some (.int .u8 58)) :
    Calls Tryz.prog 112 #[.slice A (d ++ 58 :: x).length c, .slice (some ⟨q, 0, none⟩) 1 1] w fun e w' => ∃ b2 o2 c2, e = .returned (.tuple #[.slice A d.length c, .slice (some ⟨b2, o2, none⟩) x.length c2, .bool true]) ∧ SlR byteC M w' (.slice A d.length c) d ∧ SlR byteC M w' (.slice (some ⟨b2, o2, none⟩) x.length c2) x ∧ ∃ k, w' = w.drewN k := by
  obtain ⟨m, hm⟩ := hE.2
  have hfm := h.form
  have hc1 : (d ++ 58 :: x).length ≤ c := by
    obtain ⟨A', c', he, h1, _⟩ := hfm
    injection he with _ _ h3
    omega
  have hlen : (d ++ 58 :: x).length = d.length + 1 + x.length := by rw [List.length_append, List.length_cons]; omega
  have hb := h.toBytesIn
  have hA : A = none → c = 0 := fun e => by
    obtain ⟨b, off, hA, _⟩ := h.byteAt (k := 0) (by omega)
    rw [e] at hA
    cases hA
  refine (Tryz.bytes_Cut_all A (some ⟨q, 0, none⟩) (d ++ 58 :: x).length c 1 1 ((d ++ 58 :: x).map fun b => (b.toNat : Int)) [58] m w (by simp) rfl (fun y hy => by
    obtain ⟨b, _, rfl⟩ := List.mem_map.1 hy
    have := b.toNat_lt
    omega) (fun y hy => by
    rw [List.mem_singleton] at hy
    subst hy
    omega) hb (fun _ => ⟨q, 0, rfl, fun i hi => by
    obtain rfl : i = 0 := by omega
    simpa using hq⟩) hA hc1 (by omega) (by omega) (hm w (Below.refl _ _))).mono ?_
  rintro e w' ⟨rfl, k, rfl⟩
  have hi : Lib.index (Lib.bytesOf ((d ++ 58 :: x).map fun b => (b.toNat : Int))) (Lib.bytesOf [58]) = (d.length : Int) := by
    rw [bytesOf_nats]
    exact index_colon d x hd
  rw [hi]
  unfold Lib.cutV
  rw [if_pos (by omega), show ((d.length : Int)).toNat = d.length from Int.toNat_natCast _]
  unfold Lib.fromV
  have hd1 := (h.drewN k).firsts (z := d.length) (by omega)
  rw [List.take_left] at hd1
  have hx1 := (h.drewN k).cut (lo := d.length + 1) (hi := (d ++ 58 :: x).length) (by omega) (Nat.le_refl _)
  rw [List.take_length, show (d ++ 58 :: x).drop (d.length + 1) = x by rw [← List.drop_drop, List.drop_left]; rfl, show (d ++ 58 :: x).length - (d.length + 1) = x.length by omega, show (d.length + 1) * byteC.n = d.length + 1 from Nat.mul_one _] at hx1
  obtain ⟨bb, off, rfl, _⟩ := h.byteAt (k := 0) (by omega)
  by_cases hcl : c = d.length + 1
  · rw [if_pos hcl] at hx1 ⊢
    exact ⟨bb, off, _, by rw [show (d ++ 58 :: x).length - (d.length + 1) = x.length by omega], hd1, hx1, k, rfl⟩
  · rw [if_neg hcl] at hx1 ⊢
    simp only [Option.map_some, Addr.add_lit] at hx1 ⊢
    exact ⟨bb, _, _, by rw [show (d ++ 58 :: x).length - (d.length + 1) = x.length by omega], hd1, hx1, k, rfl⟩
theorem itoa_nat (n : Nat) : Lib.itoa (n : Int) = Lib.decDigits n := by
  unfold Lib.itoa
  rw [if_neg (by omega), show ((n : Int)).toNat = n from Int.toNat_natCast _]
theorem atoi_dec (n : Nat) : Lib.atoi (Lib.decDigits n) = some (n : Int) := by
  rw [← itoa_nat]
  exact Mb.atoi_itoa _
theorem dec_short (n : Nat) (h : n ≤ 1000000000) : (Lib.decDigits n).length ≤ 10 := by
  rw [Lib.decDigits_length]
  exact Mb.nDigits_le 10 n (by omega) (by omega)
theorem bytesWorld_below (w : World) (s : ByteArray) : Below w.heap.size w (Lib.bytesWorld w 5 s) :=
  ⟨rfl, rfl, rfl, by rw [Lib.bytesWorld_size]; omega, fun b hb => Lib.bytesWorld_at_old w 5 s b hb⟩
set_option maxHeartbeats 2000000 in
theorem bnumber_ok (n0 : Nat) (w : World) (n m : Nat) (hE : Env n0 w) (hn : n0 ≤ w.heap.size) (hnm : n ≤ m) (hm : m ≤ 1000000000) :
    Calls Tryz.prog 113 #[.string (bs (Lib.decDigits n)), .int .i64 (m : Int)] w fun e w' => e = .returned (.tuple #[.int .i64 (n : Int), .bool true]) ∧ Below w.heap.size w w' := by
  have hs := dec_short n (by omega)
  have hat := Tryz.strconv_Atoi (bs (Lib.decDigits n)) (n : Int) (by rw [bs_size]; omega) (by rw [bs_toList]; exact atoi_dec n) w
  have hit := fun W (h : Lib.TabIs Tryz.prog W "internal/strconv.uint64pow10" .u64 Lib.pow10Tab) => Tryz.strconv_Itoa (n : Int) (by omega) (by omega) W h
  rw [itoa_nat] at hit
  have Hat := Lib.hid hat; have Hit := Lib.hid hit
  have h1 : ¬ (n : Int) < 0 := by omega
  have h2 : ¬ (m : Int) < (n : Int) := by omega
  have hb : (bs (Lib.decDigits n) == bs (Lib.decDigits n)) = true := by rw [bs_beq]; simp
  clear hat hit hs
  go_enter Tryz.func113, Tryz.ntmps113
  go_wp2_with (go_at_call 87; refine Hat.out.mono ?_; rintro e w1 ⟨rfl, t, hw1⟩; have hb1 : Below w.heap.size w w1 := hw1 ▸ bytesWorld_below w t; clear hw1; refine Hid.out ?_)
  have hE1 := hE.ext hb1 hn
  refine Lib.hid ?_
  go_wp2_with (go_at_call 97; refine (Hit.out w1 hE1.1.here).mono ?_; rintro e w2 ⟨rfl, k2, os2, hw2⟩; have hb2 : Below w1.heap.size w1 w2 := hw2 ▸ below_growN w1 k2 os2; clear hw2)
  exact bodyPost_ret (v := .tuple #[.int .i64 (n : Int), .bool true]) (by simp [results, Tryz.results113, go_sem]) rfl ⟨rfl, below2 hb1 hb2⟩
end Go.Proofs.YtjamjkjmlckgeaaGreatDoor
namespace Go.Proofs.YtjamjkjmlckgeaaGreatDoor
open Go.RowKit
set_option linter.unusedVariables false

/-- block g has turned, and there may be new ones -/
structure TurnedN (g : Nat) (w W : World) : Prop where
  block : ∀ b, b < w.heap.size → b ≠ g → W.heap[b]? = w.heap[b]?
  size : w.heap.size ≤ W.heap.size
  rest : ∀ B, B ≤ g → B ≤ w.heap.size → Below B w W
section
variable {α : Type} {C : Codec α} {M M' : Nat → Prop} {w W W' : World} {B g : Nat} {e : TypeId} {v : Value} {l : List α}
theorem TurnedN.of (hb : Below w.heap.size w W) (hT : Turned g W W') : TurnedN g w W' := ⟨fun b h1 h2 => (hT.block b h2).trans (hb.block b h1), by have := hb.size; have := hT.size; omega, fun B h1 h2 => (hb.mono h2).trans (hT.rest B h1)⟩
theorem TurnedN.below (hT : TurnedN g w W) (hb : Below W.heap.size W W') : TurnedN g w W' := ⟨fun b h1 h2 => (hb.block b (Nat.lt_of_lt_of_le h1 hT.size)).trans (hT.block b h1 h2), Nat.le_trans hT.size hb.size, fun B h1 h2 => (hT.rest B h1 h2).trans (hb.mono (Nat.le_trans h2 hT.size))⟩
theorem TurnedN.fromBelow (hb : Below w.heap.size w W) : TurnedN g w W := .of hb (Turned.refl g W)
theorem TurnedN.trans (h : TurnedN g w W) (h' : TurnedN g W W') : TurnedN g w W' := ⟨fun b h1 h2 => (h'.block b (Nat.lt_of_lt_of_le h1 h.size) h2).trans (h.block b h1 h2), Nat.le_trans h.size h'.size, fun B h1 h2 => (h.rest B h1 h2).trans (h'.rest B h1 (Nat.le_trans h2 h.size))⟩
theorem SlR.turnedN (h : SlR C M w v l) (hT : TurnedN g w W) (hg : M g) : SlR C M W v l := h.keep (fun b hb hn => hT.block b hb fun e => hn (e ▸ hg)) hT.size
theorem Blk.turnedN {k : Nat} {t : TypeId} {cs : Array Value} (h : Blk w k t cs) (hT : TurnedN g w W) (hk : k ≠ g) : Blk W k t cs := h.keep (hT.block k h.lt hk)
theorem Own.turnedN (h : Own C M w B e v l) (hT : TurnedN g w W) (hg : M g) (hv : ∀ b, v.ownBlock = some b → b ≠ g) : Own C M W B e v l := by
  have h1 : Own C (fun b => M b ∧ v.ownBlock ≠ some b) w B e v l := by
    obtain ⟨xs, ho, he⟩ := h
    exact ⟨xs, ho, he.sub fun b _ hor => hor.elim (fun h => .inl h.1) .inr⟩
  have h2 : Own C (fun b => M b ∧ v.ownBlock ≠ some b) W B e v l := h1.keep (fun b hb hor => hT.block b hb fun e => by
    subst e
    rcases hor with h | h
    · exact h ⟨hg, fun h' => hv b h' rfl⟩
    · exact hv b h rfl) hT.size fun b hb hm => hm.2 hb
  obtain ⟨xs, ho, he⟩ := h2
  exact ⟨xs, ho, he.sub fun b _ hor => by
    by_cases hb : v.ownBlock = some b
    · exact .inr hb
    · exact hor.elim (fun h => .inl ⟨h, hb⟩) .inr⟩
theorem cell_turnedN (hT : TurnedN g w W) (p : Addr) (hl : p.block < w.heap.size) (hp : p.block ≠ g) : W.cell? p = w.cell? p := World.cell?_of_block (hT.block _ hl hp)
end
/-- what is left to read: r -/
def RdAt (M : Nat → Prop) (w : World) (g : Nat) (r : List UInt8) : Prop := M g ∧ ∃ A c, Blk w g 120 #[.slice A r.length c, .bool false] ∧ SlR byteC M w (.slice A r.length c) r
theorem RdAt.lt {M : Nat → Prop} {w : World} {g : Nat} {r : List UInt8} (h : RdAt M w g r) : g < w.heap.size := by obtain ⟨_, _, _, h, _⟩ := h; exact h.lt
theorem RdAt.ext {M : Nat → Prop} {w w' : World} {g : Nat} {r : List UInt8} (h : RdAt M w g r) (hb : Below w.heap.size w w') : RdAt M w' g r := by
  obtain ⟨h1, A, c, h2, h3⟩ := h
  exact ⟨h1, A, c, h2.ext hb, h3.ext hb⟩
theorem RdAt.turned {M : Nat → Prop} {w w' : World} {g k : Nat} {r : List UInt8} (h : RdAt M w g r) (hT : Turned k w w') (hk : M k) (hne : g ≠ k) : RdAt M w' g r := by
  obtain ⟨h1, A, c, h2, h3⟩ := h
  exact ⟨h1, A, c, h2.turned hT hne, h3.turned hT hk⟩
set_option maxRecDepth 100000 in
set_option maxHeartbeats 4000000 in
theorem item_rd (M : Nat → Prop) (n0 : Nat) (w : World) (g : Nat) (s r : List UInt8) (hE : Env n0 w) (hng : n0 ≤ g) (hR : RdAt M w g (Mb.item s ++ r)) (hl : (Mb.item s ++ r).length ≤ 100000000) :
    Calls Tryz.prog 88 #[.pointer (some ⟨g, 0, none⟩)] w fun e w' => e = .returned (.string (bs s)) ∧ RdAt M w' g r ∧ TurnedN g w w' := by
  have hitem : Mb.item s ++ r = Lib.decDigits s.length ++ 58 :: (s ++ r) := by
    unfold Mb.item
    rw [itoa_nat, List.append_assoc]
    rfl
  rw [hitem] at hR hl
  obtain ⟨hMg, A, c, kb, hsl⟩ := hR
  have hgl := kb.lt
  have hcol := Mb.dec_colon s.length
  obtain ⟨d, hd⟩ : ∃ x, x = Lib.decDigits s.length := ⟨_, rfl⟩
  rw [← hd] at hsl kb hl hcol
  have hsr : (s ++ r).length = s.length + r.length := List.length_append
  obtain ⟨x, hx⟩ : ∃ x, x = s ++ r := ⟨_, rfl⟩
  rw [← hx] at hsl kb hl hsr
  obtain ⟨T, hT⟩ : ∃ T, T = d ++ 58 :: x := ⟨_, rfl⟩
  have hTl : T.length = d.length + 1 + x.length := by rw [hT, List.length_append, List.length_cons]; omega
  have hlx : T.length ≤ 100000000 := by rw [hT]; exact hl
  obtain ⟨c0, c1, z0, z1, _⟩ := kb.two
  have kc := fun (w : World) (C : Array Value) (n c : Nat) => Lib.run_convert_bytes_const (P := Tryz.prog) w 29 5 C n c Tryz.underlying29 Tryz.underlying5
  obtain ⟨w1, q, hw1, hq1, hsz1, hc1, hb1⟩ : ∃ W q, w.alloc (.cells #[.int .u8 58] 5 (1, 2)) = W ∧ w.heap.size = q ∧ W.heap.size = q + 1 ∧ W.cell? ⟨q, 0, none⟩ = some (.int .u8 58) ∧ Below w.heap.size w W := ⟨_, _, rfl, rfl, by simp, World.cell?_alloc_mark _ _ _ _ 0, (Below.refl _ _).alloc (Nat.le_refl _) _⟩
  have hcv : (convert 29 29 (.slice (some ⟨q, 0, none⟩) 1 1)).run Tryz.prog (w.alloc (.cells #[.int .u8 58] 5)) = .ok (.slice (some ⟨q, 0, none⟩) 1 1) w1 := by rw [← hq1, ← hw1]; exact kc w _ 1 1
  have hE1 := hE.ext hb1 (by omega)
  have hcut := cut_ok M n0 w1 A c q d x hE1 (hsl.ext hb1) hcol (by omega) hc1
  rw [← hT] at hcut c0
  have Hcut := Lib.hid hcut
  have hnum := fun W (h : Env n0 W) (h2 : n0 ≤ W.heap.size) => bnumber_ok n0 W s.length x.length h h2 (by omega) (by omega)
  rw [← hd] at hnum
  have Hnum := Lib.hid hnum
  have k1 := kb.ext hb1
  have Hxr := Lib.hid hx
  have Hrl := Lib.hid hsr
  clear hcut hnum kb kc hd hl hT hx hitem hsl hcol hsr hTl hlx
  go_enter Tryz.func88, Tryz.ntmps88
  go_wp2_with fail
  refine Hcut.out.mono ?_
  rintro e w2 ⟨b2, o2, c2, rfl, hsd, hsx, kd, hw2⟩
  have hb2 : Below w1.heap.size w1 w2 := by
    rw [hw2]
    exact below_drewN' _ _ _
  clear hw2
  refine Hid.out ?_
  have hcd := run_convert_SlR (P := Tryz.prog) Tryz.underlying29 Tryz.underlying5 Tryz.underlying9 hsd
  have hE2 := hE1.ext hb2 (by omega)
  have hz2 := hb2.size
  have HN := Lib.hid (Hnum.out w2 hE2 (by omega))
  have k2 := k1.ext hb2
  clear Hcut Hnum hcv hw1 k1 hsd
  refine Lib.hid ?_
  go_wp2_with (go_at_call 113; refine HN.out.mono ?_; rintro e w3 ⟨rfl, hb3⟩; refine Hid.out ?_)
  have k3 := k2.ext hb3
  have hb13 := below2 hb1 (below2 hb2 hb3)
  obtain ⟨c0, c1, z0, z1, _⟩ := k3.two
  have hsx3 := hsx.ext hb3
  have hxc : x.length ≤ c2 ∧ c2 ≤ maxLen := by
    obtain ⟨A', c', he, h1, h2⟩ := hsx3.form
    injection he with _ _ h3
    subst h3
    exact ⟨h1, h2⟩
  obtain ⟨hxc1, hxc2⟩ := hxc
  unfold maxLen at hxc2
  have hsle : s.length ≤ x.length := by have := Hrl.out; omega
  have hdrop : x.drop s.length = r := by rw [Hxr.out, List.drop_left]
  have htake : x.take s.length = s := by rw [Hxr.out, List.take_left]
  have hrl : x.length - s.length = r.length := by have := Hrl.out; omega
  have hcut2 := hsx3.cut (lo := s.length) (hi := x.length) hsle (Nat.le_refl _)
  rw [List.take_length, hdrop, hrl, show s.length * byteC.n = s.length from Nat.mul_one _] at hcut2
  have Hrl2 := Lib.hid hrl
  have Htk := Lib.hid htake
  have hfin : ∀ b o n' c', n' = r.length → c' = c2 - s.length → SlR byteC M w3 (.slice (some ⟨b, o, none⟩) r.length (c2 - s.length)) r →
      ((convert 29 9 (.slice (some ⟨b2, o2, none⟩) s.length c2)).run Tryz.prog (w3.setCell ⟨g, 0, none⟩ (.slice (some ⟨b, o, none⟩) n' c')) = .ok (.string (bs s)) (w3.setCell ⟨g, 0, none⟩ (.slice (some ⟨b, o, none⟩) n' c'))) ∧ RdAt M (w3.setCell ⟨g, 0, none⟩ (.slice (some ⟨b, o, none⟩) n' c')) g r ∧ TurnedN g w (w3.setCell ⟨g, 0, none⟩ (.slice (some ⟨b, o, none⟩) n' c')) := by
    intro b o n' c' hn' hc' h1
    subst hn' hc'
    have hT1 : Turned g w3 (w3.setCell ⟨g, 0, none⟩ (.slice (some ⟨b, o, none⟩) r.length (c2 - s.length))) := (Turned.refl g w3).set 0 _
    refine ⟨?_, ⟨hMg, _, _, by simpa using k3.set_ 0 _, h1.turned hT1 hMg⟩, TurnedN.of hb13 hT1⟩
    have h2 := (hsx3.turned hT1 hMg).firsts (z := s.length) hsle
    rw [htake] at h2
    exact run_convert_SlR Tryz.underlying29 Tryz.underlying5 Tryz.underlying9 h2
  have Hfin := Lib.hid hfin
  have hsi : (s.length : Int) ≤ (x.length : Int) := by omega
  have hxi : (x.length : Int) ≤ (c2 : Int) := by omega
  have hsc : s.length ≤ c2 := by omega
  clear hcd hfin hdrop htake hb2 hb3 HN k2 hsx hsx3 hrl hb1
  by_cases hcs : c2 = s.length
  · rw [if_pos hcs] at hcut2
    subst hcs
    obtain ⟨hv1, hv2, hv3⟩ := Hfin.out b2 o2 0 0 (by have := Hrl2.out; omega) (by omega) hcut2
    have H2 := Lib.hid hv2; have H3 := Lib.hid hv3
    clear hv2 hv3 hcut2
    refine Lib.hid ?_
    go_wp2_with fail
    go_ret
    exact ⟨rfl, H2.out, H3.out⟩
  · rw [if_neg hcs] at hcut2
    simp only [Option.map_some, Addr.add_lit] at hcut2
    obtain ⟨hv1, hv2, hv3⟩ := Hfin.out b2 (o2 + s.length) (x.length - s.length) (c2 - s.length) Hrl2.out rfl hcut2
    have H2 := Lib.hid hv2; have H3 := Lib.hid hv3
    clear hv2 hv3 hcut2
    refine Lib.hid ?_
    go_wp2_with fail
    go_ret
    exact ⟨rfl, H2.out, H3.out⟩
end Go.Proofs.YtjamjkjmlckgeaaGreatDoor
