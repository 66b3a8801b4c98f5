/-
  folders.Match.
-/
import Derived.Test.YtinmpjhmbciapaaDoorFoE
namespace Go.Proofs.YtinmpjhmbciapaaDoor
open Go.RowKit

/-- One place of the next row: c: the pattern's byte, x: the name's byte there (if there is one), b: the row's place, d: the row's next place, e: the next row's next place. -/
def stepV (c : UInt8) (x : Option UInt8) (b d e : Bool) : Bool :=
  match x with
  | none => if c = 42 ∨ c = 37 then b else false
  | some x => if c = 42 then b || e else if c = 37 then b || (x != 47 && e) else x == c && d
/-- The last m places of the next row. -/
def sufF (c : UInt8) (name : Str) (can : List Bool) : Nat → List Bool
  | 0 => []
  | m + 1 => stepV c (name[name.length - m]?) (can.getD (name.length - m) false) (can.getD (name.length - m + 1) false) ((sufF c name can m).getD 0 false) :: sufF c name can m
theorem suf_len (c : UInt8) (name : Str) (can : List Bool) : ∀ m, (sufF c name can m).length = m
  | 0 => rfl
  | m + 1 => by rw [sufF, List.length_cons, suf_len c name can m]
def rowF (name : Str) : Str → List Bool
  | [] => List.replicate name.length false ++ [true]
  | c :: t => sufF c name (rowF name t) (name.length + 1)
theorem row_len (name : Str) : ∀ p, (rowF name p).length = name.length + 1
  | [] => by simp [rowF]
  | c :: t => suf_len _ _ _ _
def matchF (pattern name : Str) : Bool := (rowF name pattern).getD 0 false
theorem SlR.boolAt {M : Nat → Prop} {w : World} {A : Option Addr} {n c : Nat} {l : List Bool} (h : SlR boolC M w (.slice A n c) l) {k : Nat} (hk : k < l.length) : ∃ b off, A = some ⟨b, off, none⟩ ∧ b < w.heap.size ∧ w.cell? ⟨b, off + k, none⟩ = some (.bool l[k]) := by
  obtain ⟨b, off, cs, rfl, _, hb, hr, hc⟩ := h.at_ hk
  have hr' : cs = [.bool l[k]] := hr
  subst hr'
  have := hc 0 _ rfl
  exact ⟨b, off, rfl, hb, by simpa [boolC] using this⟩
theorem Own.boolCell {w : World} {B g n c : Nat} {e : TypeId} {l : List Bool} (h : Own boolC M0 w B e (.slice (some ⟨g, 0, none⟩) n c) l) {k : Nat} {b : Bool} (hk : l[k]? = some b) : w.cell? ⟨g, k, none⟩ = some (.bool b) := by
  obtain ⟨hkl, rfl⟩ := List.getElem?_eq_some_iff.1 hk
  obtain ⟨b', off, he, _, hc⟩ := h.read0.boolAt hkl
  injection he with he
  injection he with e1 e2
  subst e1 e2
  rw [Nat.zero_add] at hc
  exact hc
theorem Own.flatB {M M' : Nat → Prop} {w w' : World} {B : Nat} {e : TypeId} {v : Value} {l : List Bool} (h : Own boolC M w B e v l) (hk : ∀ b, v.ownBlock = some b → w'.heap[b]? = w.heap[b]?) : Own boolC M' w' B e v l := by
  obtain ⟨xs, ho, he⟩ := h
  refine ⟨xs, ⟨ho.1, ?_⟩, ⟨he.1, fun i hi => he.2 i hi⟩⟩
  rcases ho.2 with hn | ⟨g, cap, cur, rfl, hb, hg, rest⟩
  · exact .inl hn
  · exact .inr ⟨g, cap, cur, rfl, hb, (hk g rfl).trans hg, rest⟩
/-- A row of Booleans made anew. -/
theorem make_bools (B n : Nat) (w : World) (hn : n ≤ 4000000) (hB : B ≤ w.heap.size) : ∃ w1, (Instr.makeSlice 73 (.int .i64 ((n : Int) + 1)) (.int .i64 ((n : Int) + 1))).run Tryd.prog w = .ok (.slice (some ⟨w.heap.size, 0, none⟩) (n + 1) (n + 1)) w1 ∧
    Own boolC M0 w1 B 4 (.slice (some ⟨w.heap.size, 0, none⟩) (n + 1) (n + 1)) (List.replicate (n + 1) false) ∧ Below w.heap.size w w1 ∧ w.heap.size < w1.heap.size := by
  obtain ⟨i, hi, hz, h1, h2⟩ := info_parts (by kernel_rfl : (Tryd.prog.info? 4).map (fun i => (i.zero, i.size, i.bytes)) = some (some (.bool false), 1, 1))
  obtain ⟨w1, hmk, hown, hgr⟩ := run_makeSlice_full (P := Tryd.prog) (w := w) B 73 4 i (.bool false) 1 Tryd.underlying73 hi hz h1 .i64 .i64 (n + 1) (by omega) (by rw [h2]; omega) (by unfold maxLen; omega) hB
  rw [show ((n + 1 : Nat) : Int) = (n : Int) + 1 by omega] at hmk
  rw [Nat.mul_one, show madeCells (Value.bool false).cells (n + 1) = madeCells #[.bool false] (n + 1) from rfl, toList_madeCells_one] at hown
  have how : Own boolC M0 w1 B 4 (.slice (some ⟨w.heap.size, 0, none⟩) (n + 1) (n + 1)) (List.replicate (n + 1) false) := by
    refine ⟨List.replicate (n + 1) (.bool false), by rw [List.length_replicate]; exact hown, by simp [boolC], fun j hj => ?_⟩
    have hj' : j < n + 1 := by simpa using hj
    rw [List.getElem_replicate, List.drop_replicate, List.take_replicate]
    have : min boolC.n (n + 1 - j * boolC.n) = 1 := by show min 1 (n + 1 - j * 1) = 1; omega
    rw [this]
    rfl
  exact ⟨w1, hmk, how, (Below.refl _ _).grown hgr (Nat.le_refl _) (fun b h => by cases h), how.lt _ rfl⟩
theorem get_or {l : List Bool} {k : Nat} (hk : k < l.length) : l[k]? = some (l.getD k false) := by
  rw [List.getD_eq_getElem?_getD, List.getElem?_eq_getElem hk]; rfl

set_option maxRecDepth 100000 in
set_option maxHeartbeats 16000000 in
theorem match_ok (pattern name : Str) (w : World) (hp : pattern.length ≤ 4000000) (hn : name.length ≤ 4000000) : Calls Tryd.prog 53 #[.string (bs pattern), .string (bs name)] w fun e w' => e = .returned (.bool (matchF pattern name)) ∧ Below w.heap.size w w' := by
  obtain ⟨n, hnn⟩ : ∃ n, name.length = n := ⟨_, rfl⟩
  rw [hnn] at hn
  have Hnn := Lib.hid hnn
  obtain ⟨w1, hmk, hown1, hb1, hlt1⟩ := make_bools w.heap.size n w hn (Nat.le_refl _)
  obtain ⟨g, c9, cur, hv, _, _, _, hblk, hsz⟩ := hown1.blk (by simp)
  injection hv with hv1 hv2 hv3
  injection hv1 with hv1
  injection hv1 with hv1
  subst hv1 hv3
  have hf0 := hblk.frozen n
  have hc0 := hown1.boolCell (k := n) (b := false) (by rw [List.getElem?_replicate, if_pos (by omega)])
  have hset := hown1.put1 rfl (k := n) (by simp) (u := .bool true) (a := true) rfl
  have hrow0 : (List.replicate (n + 1) false).set n true = rowF name [] := by
    rw [rowF, hnn, List.replicate_succ', set_mid _ _ _ _ _ (by simp)]
  rw [hrow0] at hset
  have hbs := hb1.setCell (p := ⟨w.heap.size, n, none⟩) (Nat.le_refl _) (.bool true)
  have Hset := Lib.hid hset; have Hbs := Lib.hid hbs
  clear hset hbs hrow0 hblk hsz hv2 hown1 hb1 hnn
  have hnl : (bs name).size = n := by rw [bs_size]; exact Hnn.out
  have hi0 : (n : Int) < (n : Int) + 1 := by omega
  go_enter Tryd.func53, Tryd.ntmps53
  go_wp2_with fail
  clear hmk hf0 hc0 hi0
  go_loopw [5, 6] (fun cv iv wr => ∃ (k gg : Nat), k ≤ pattern.length ∧ iv = .int .i64 ((k : Int) - 1) ∧ cv = .slice (some ⟨gg, 0, none⟩) (n + 1) (n + 1) ∧ Hid (Own boolC M0 wr w.heap.size 4 (.slice (some ⟨gg, 0, none⟩) (n + 1) (n + 1)) (rowF name (pattern.drop k))) ∧ Below w.heap.size w wr) (fun _ iv _ => (intOf iv + 1).toNat)
  case atStart => exact ⟨pattern.length, w.heap.size, Nat.le_refl _, rfl, rfl, Lib.hid (by rw [List.drop_length]; exact Hset.out), Hbs.out⟩
  case round =>
    obtain ⟨wo, rfl⟩ : ∃ wo : World, wo = wr := ⟨_, rfl⟩
    obtain ⟨k, gg, hk, rfl, rfl, hrow, hb⟩ := hrel
    clear Hset Hbs hlt1
    by_cases h0 : 0 < k
    · obtain ⟨m0, rfl⟩ : ∃ m, k = m + 1 := ⟨k - 1, by omega⟩
      have hml : m0 < pattern.length := by omega
      have e1 : (((m0 + 1 : Nat) : Int) - 1) = (m0 : Int) := by omega
      rw [e1]
      have hx0 : (0 : Int) ≤ (m0 : Int) := by omega
      have hget : (bs pattern)[m0]'(by simpa using hml) = pattern[m0] := bs_get pattern m0 (by simpa using hml)
      have hdr : pattern.drop m0 = pattern[m0] :: pattern.drop (m0 + 1) := List.drop_eq_getElem_cons hml
      obtain ⟨c, hc⟩ : ∃ x, pattern[m0] = x := ⟨_, rfl⟩
      rw [hc] at hget hdr
      obtain ⟨C, hC⟩ : ∃ C, rowF name (pattern.drop (m0 + 1)) = C := ⟨_, rfl⟩
      have hCl : C.length = n + 1 := by rw [← hC, row_len, Hnn.out]
      have hrow2 : rowF name (pattern.drop m0) = sufF c name C (n + 1) := by rw [hdr, rowF, hC, Hnn.out]
      rw [hC] at hrow
      have Hrow2 := Lib.hid hrow2; have HCl := Lib.hid hCl
      clear hrow2 hdr hc hC hCl e1
      obtain ⟨w2, hmk, hown2, hb2, hlt2⟩ := make_bools w.heap.size n wo hn hb.size
      have hgg : gg < wo.heap.size := hrow.out.lt _ rfl
      have hown0 : Own boolC M0 w2 w.heap.size 4 (.slice (some ⟨gg, 0, none⟩) (n + 1) (n + 1)) C := hrow.out.ext hb2
      have hb02 := hb.trans (hb2.mono hb.size)
      have Hown2 := Lib.hid hown2; have Hown0 := Lib.hid hown0
      clear hown2 hown0 hrow
      obtain ⟨g2, hg2⟩ : ∃ g2, wo.heap.size = g2 := ⟨_, rfl⟩
      have hBg : w.heap.size ≤ g2 := hg2 ▸ hb.size
      rw [hg2] at hmk hlt2 hgg Hown2
      clear hg2
      go_wp2_with fail
      clear hmk
      go_loopw [9, 10] (fun jv _ wr => ∃ m : Nat, m ≤ n + 1 ∧ jv = .int .i64 ((n : Int) - (m : Int)) ∧ Hid (Own boolC M0 wr w.heap.size 4 (.slice (some ⟨g2, 0, none⟩) (n + 1) (n + 1)) (List.replicate (n + 1 - m) false ++ sufF c name C m)) ∧ Hid (Own boolC M0 wr w.heap.size 4 (.slice (some ⟨gg, 0, none⟩) (n + 1) (n + 1)) C) ∧ Below w.heap.size w wr) (fun jv _ _ => (intOf jv + 1).toNat)
      case atStart => exact ⟨0, Nat.zero_le _, by simp, Lib.hid (by simpa [sufF] using Hown2.out), Hown0, hb02⟩
      case round =>
        obtain ⟨m, hm, rfl, howN, howC, hbr⟩ := hrel
        clear Hown2 Hown0 hb02
        by_cases hmn : m ≤ n
        · obtain ⟨j, hj⟩ : ∃ j, j + m = n := ⟨n - m, by omega⟩
          have e2 : (n : Int) - (m : Int) = (j : Int) := by omega
          rw [e2]
          have hj0 : (0 : Int) ≤ (j : Int) := by omega
          obtain ⟨S, hS⟩ : ∃ S, sufF c name C m = S := ⟨_, rfl⟩
          have hSl : S.length = m := by rw [← hS, suf_len]
          have hsuf : sufF c name C (m + 1) = stepV c (name[j]?) (C.getD j false) (C.getD (j + 1) false) (S.getD 0 false) :: S := by
            rw [sufF, hS, Hnn.out, show n - m = j by omega]
          have howN' := howN.out
          rw [hS, show n + 1 - m = j + 1 by omega] at howN'
          have hjl : j < (List.replicate (j + 1) false ++ S).length := by simp; omega
          have hsetc : ∀ v : Bool, (List.replicate (j + 1) false ++ S).set j v = List.replicate j false ++ v :: S := fun v => by
            rw [List.replicate_succ', List.append_assoc]
            exact set_mid _ _ _ _ _ (by simp)
          have hset : ∀ v : Bool, Own boolC M0 (wr.setCell ⟨g2, j, none⟩ (.bool v)) w.heap.size 4 (.slice (some ⟨g2, 0, none⟩) (n + 1) (n + 1)) (List.replicate j false ++ v :: S) := fun v => by
            have := howN'.put1 rfl hjl (u := .bool v) (a := v) rfl
            rwa [hsetc v] at this
          have hneg : gg ≠ g2 := by omega
          have hCk : ∀ v : Bool, Own boolC M0 (wr.setCell ⟨g2, j, none⟩ (.bool v)) w.heap.size 4 (.slice (some ⟨gg, 0, none⟩) (n + 1) (n + 1)) C := fun v => howC.out.flatB fun b hb => by
            injection hb with hb
            exact Below.heap_setCell _ _ _ _ (by rw [← hb]; exact hneg)
          have hbk : ∀ v : Bool, Below w.heap.size w (wr.setCell ⟨g2, j, none⟩ (.bool v)) := fun v => hbr.setCell (p := ⟨g2, j, none⟩) hBg _
          have hcb := howC.out.boolCell (k := j) (get_or (by rw [HCl.out]; omega))
          obtain ⟨gx, cx, cur2, hvx, _, _, _, hblk2, _⟩ := howN'.blk (by rw [List.length_append, List.length_replicate]; omega)
          injection hvx with hv1 hv2 hv3
          injection hv1 with hv1
          injection hv1 with hv1
          subst hv1 hv3
          have hf0 := hblk2.frozen j
          have hc0 := howN'.boolCell (k := j) (b := false) (by rw [List.getElem?_append_left (by simp), List.getElem?_replicate, if_pos (by omega)])
          have hjn : (j : Int) < (n : Int) + 1 := by omega
          obtain ⟨b, hbe⟩ : ∃ b, C.getD j false = b := ⟨_, rfl⟩
          rw [hbe] at hcb hsuf
          have Hset := Lib.hid hset; have HCk := Lib.hid hCk; have Hbk := Lib.hid hbk
          clear hset hCk hbk hsetc hS hbe hblk2 hv2 hjl hmn
          have hrn : n + 1 - (m + 1) = j := by omega
          have Hrn := Lib.hid hrn
          clear hrn
          by_cases hm0 : m = 0
          · subst hm0
            obtain rfl : j = n := by omega
            have hno : name[j]? = none := List.getElem?_eq_none (by rw [Hnn.out]; exact Nat.le_refl _)
            rw [hno] at hsuf
            have Hsuf := Lib.hid hsuf
            clear hsuf hno hSl howN' e2 hj hm
            by_cases hc42 : c = 42
            · subst hc42
              cases b
              all_goals
                go_wp2
                go_roundw
                case rel =>
                  refine ⟨0 + 1, by omega, by first | rfl | (congr 1; omega), ?_, Lib.hid (HCk.out _), Hbk.out _⟩
                  rw [Hrn.out, Hsuf.out]
                  first
                    | exact Lib.hid (by rw [show stepV _ _ _ _ _ = true from by simp [stepV]]; exact Hset.out true)
                    | exact Lib.hid (by rw [show stepV _ _ _ _ _ = false from by simp [stepV]]; exact Hset.out false)
                case measure => first | (simp [intOf]; done) | (simp [intOf]; omega)
            · have hq42 : ((c.toNat : Int) == 42) = false := by
                have : c.toNat ≠ 42 := fun h => hc42 (UInt8.toNat_inj.1 h)
                simp; omega
              have Hc42 := Lib.hid hc42
              clear hc42
              by_cases hc37 : c = 37
              · subst hc37
                cases b
                all_goals
                  go_wp2
                  go_roundw
                  case rel =>
                    refine ⟨0 + 1, by omega, by first | rfl | (congr 1; omega), ?_, Lib.hid (HCk.out _), Hbk.out _⟩
                    rw [Hrn.out, Hsuf.out]
                    first
                      | exact Lib.hid (by rw [show stepV _ _ _ _ _ = true from by simp [stepV]]; exact Hset.out true)
                      | exact Lib.hid (by rw [show stepV _ _ _ _ _ = false from by simp [stepV]]; exact Hset.out false)
                  case measure => first | (simp [intOf]; done) | (simp [intOf]; omega)
              · have hq37 : ((c.toNat : Int) == 37) = false := by
                  have : c.toNat ≠ 37 := fun h => hc37 (UInt8.toNat_inj.1 h)
                  simp; omega
                have Hc37 := Lib.hid hc37
                clear hc37
                skip
                all_goals
                  go_wp2
                  go_roundw
                  case rel =>
                    refine ⟨0 + 1, by omega, by first | rfl | (congr 1; omega), ?_, Lib.hid (HCk.out _), Hbk.out _⟩
                    rw [Hrn.out, Hsuf.out]
                    first
                      | exact Lib.hid (by rw [show stepV _ _ _ _ _ = true from by simp [stepV, Hc42.out, Hc37.out]]; exact Hset.out true)
                      | exact Lib.hid (by rw [show stepV _ _ _ _ _ = false from by simp [stepV, Hc42.out, Hc37.out]]; exact Hset.out false)
                  case measure => first | (simp [intOf]; done) | (simp [intOf]; omega)
          · obtain ⟨m', rfl⟩ : ∃ m', m = m' + 1 := ⟨m - 1, by omega⟩
            have hjlt : j < name.length := by rw [Hnn.out]; omega
            have hgetn : (bs name)[j]'(by simpa using hjlt) = name[j] := bs_get name j (by simpa using hjlt)
            have hsx : name[j]? = some name[j] := List.getElem?_eq_getElem hjlt
            obtain ⟨x, hx⟩ : ∃ x, name[j] = x := ⟨_, rfl⟩
            rw [hx] at hgetn hsx
            rw [hsx] at hsuf
            have hnext := howN'.boolCell (k := j + 1) (b := S.getD 0 false) (by rw [List.getElem?_append_right (by simp), List.length_replicate, Nat.sub_self]; exact get_or (by omega))
            have hcd := howC.out.boolCell (k := j + 1) (get_or (by rw [HCl.out]; omega))
            obtain ⟨d, hd⟩ : ∃ d, C.getD (j + 1) false = d := ⟨_, rfl⟩
            obtain ⟨e, he⟩ : ∃ e, S.getD 0 false = e := ⟨_, rfl⟩
            rw [hd] at hcd hsuf
            rw [he] at hnext hsuf
            have Hsuf := Lib.hid hsuf
            have hjni : (j : Int) < (n : Int) := by omega
            have hj1 : (j : Int) + 1 < (n : Int) + 1 := by omega
            clear hsuf hd he hx hsx hSl howN' e2
            by_cases hc42 : c = 42
            · subst hc42
              cases b <;> cases e
              all_goals
                go_wp2
                go_roundw
                case rel =>
                  refine ⟨m' + 1 + 1, by omega, by first | rfl | (congr 1; omega), ?_, Lib.hid (HCk.out _), Hbk.out _⟩
                  rw [Hrn.out, Hsuf.out]
                  first
                    | exact Lib.hid (by rw [show stepV _ _ _ _ _ = true from by simp [stepV]]; exact Hset.out true)
                    | exact Lib.hid (by rw [show stepV _ _ _ _ _ = false from by simp [stepV]]; exact Hset.out false)
                case measure => first | (simp [intOf]; done) | (simp [intOf]; omega)
            · have hq42 : ((c.toNat : Int) == 42) = false := by
                have : c.toNat ≠ 42 := fun h => hc42 (UInt8.toNat_inj.1 h)
                simp; omega
              have Hc42 := Lib.hid hc42
              clear hc42
              by_cases hc37 : c = 37
              · subst hc37
                by_cases hx47 : x = 47
                · subst hx47
                  cases b <;> cases e
                  all_goals
                    go_wp2
                    go_roundw
                    case rel =>
                      refine ⟨m' + 1 + 1, by omega, by first | rfl | (congr 1; omega), ?_, Lib.hid (HCk.out _), Hbk.out _⟩
                      rw [Hrn.out, Hsuf.out]
                      first
                        | exact Lib.hid (by rw [show stepV _ _ _ _ _ = true from by simp [stepV]]; exact Hset.out true)
                        | exact Lib.hid (by rw [show stepV _ _ _ _ _ = false from by simp [stepV]]; exact Hset.out false)
                    case measure => first | (simp [intOf]; done) | (simp [intOf]; omega)
                · have hq47 : ((x.toNat : Int) == 47) = false := by
                    have : x.toNat ≠ 47 := fun h => hx47 (UInt8.toNat_inj.1 h)
                    simp; omega
                  have hq47' : ((x.toNat : Int) != 47) = true := by
                    rw [bne, hq47]; rfl
                  have Hx47 := Lib.hid hx47
                  clear hx47
                  cases b <;> cases e
                  all_goals
                    go_wp2
                    go_roundw
                    case rel =>
                      refine ⟨m' + 1 + 1, by omega, by first | rfl | (congr 1; omega), ?_, Lib.hid (HCk.out _), Hbk.out _⟩
                      rw [Hrn.out, Hsuf.out]
                      first
                        | exact Lib.hid (by rw [show stepV _ _ _ _ _ = true from by simp [stepV, Hx47.out]]; exact Hset.out true)
                        | exact Lib.hid (by rw [show stepV _ _ _ _ _ = false from by simp [stepV]]; exact Hset.out false)
                    case measure => first | (simp [intOf]; done) | (simp [intOf]; omega)
              · have hq37 : ((c.toNat : Int) == 37) = false := by
                  have : c.toNat ≠ 37 := fun h => hc37 (UInt8.toNat_inj.1 h)
                  simp; omega
                have Hc37 := Lib.hid hc37
                clear hc37
                by_cases hxc : x = c
                · subst hxc
                  cases d
                  all_goals
                    go_wp2
                    go_roundw
                    case rel =>
                      refine ⟨m' + 1 + 1, by omega, by first | rfl | (congr 1; omega), ?_, Lib.hid (HCk.out _), Hbk.out _⟩
                      rw [Hrn.out, Hsuf.out]
                      first
                        | exact Lib.hid (by rw [show stepV _ _ _ _ _ = true from by simp [stepV, Hc42.out, Hc37.out]]; exact Hset.out true)
                        | exact Lib.hid (by rw [show stepV _ _ _ _ _ = false from by simp [stepV, Hc42.out, Hc37.out]]; exact Hset.out false)
                    case measure => first | (simp [intOf]; done) | (simp [intOf]; omega)
                · have hqc : ((x.toNat : Int) == (c.toNat : Int)) = false := by
                    have : x.toNat ≠ c.toNat := fun h => hxc (UInt8.toNat_inj.1 h)
                    simp; omega
                  have Hxc := Lib.hid hxc
                  clear hxc
                  skip
                  all_goals
                    go_wp2
                    go_roundw
                    case rel =>
                      refine ⟨m' + 1 + 1, by omega, by first | rfl | (congr 1; omega), ?_, Lib.hid (HCk.out _), Hbk.out _⟩
                      rw [Hrn.out, Hsuf.out]
                      first
                        | exact Lib.hid (by rw [show stepV _ _ _ _ _ = true from by simp [stepV, Hc42.out, Hc37.out, Hxc.out]]; exact Hset.out true)
                        | exact Lib.hid (by rw [show stepV _ _ _ _ _ = false from by simp [stepV, Hc42.out, Hc37.out, Hxc.out]]; exact Hset.out false)
                    case measure => first | (simp [intOf]; done) | (simp [intOf]; omega)
        · obtain rfl : m = n + 1 := by omega
          have hfinR := howN.out
          rw [Nat.sub_self, List.replicate_zero, List.nil_append, ← Hrow2.out] at hfinR
          have HfinR := Lib.hid hfinR
          clear hfinR
          go_wp2
          go_roundw
          case rel => exact ⟨m0, g2, by omega, rfl, rfl, HfinR, hbr⟩
          case measure => first | (simp [intOf]; done) | (simp [intOf]; omega)
    · obtain rfl : k = 0 := by omega
      have hfin := hrow.out.boolCell (k := 0) (get_or (by rw [row_len]; omega))
      rw [List.drop_zero] at hfin
      obtain ⟨R, hR⟩ : ∃ R, (rowF name pattern).getD 0 false = R := ⟨_, rfl⟩
      rw [hR] at hfin
      have HR := Lib.hid hR
      clear hR
      go_wp2
      go_ret
      exact ⟨ret_bool HR.out.symm, hb⟩
end Go.Proofs.YtinmpjhmbciapaaDoor
