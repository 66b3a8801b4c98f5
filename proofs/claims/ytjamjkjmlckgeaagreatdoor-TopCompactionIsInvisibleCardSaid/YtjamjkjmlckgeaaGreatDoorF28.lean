/-
  Contracts and plain facts, one after another: What a row hands over: changes, messages, mailboxes as they are read; the table of the powers of ten and the variable that bytes.Cut reads; What a row hands over, with the sizes that the form reaches; the walks of the two laws as their whole rows take them.
-/
import Derived.Test.YtjamjkjmlckgeaaGreatDoorF27
import Derived.Test.YtjamjkjmlckgeaaGreatDoorF22
import Derived.Test.YtjamjkjmlckgeaaGreatDoorF16
import Derived.Test.YtjamjkjmlckgeaaGreatDoorShelf
import Derived.PinnedBridge
import Derived.Lib.LaidTab
import Derived.SizedLaws
import Derived.ChangeArms
namespace Go.Proofs.YtjamjkjmlckgeaaGreatDoor
open Go.ChangeShapes Go.WideShapes Go.ChangeAt Go.RowKit Go.Lib
set_option linter.unusedVariables false
theorem reads_struct5 {P : Program} {t : TypeId} {f0 f1 f2 f3 f4 : Field} {α0 α1 α2 α3 α4 : Type} {C0 : Codec α0} {C1 : Codec α1} {C2 : Codec α2} {C3 : Codec α3} {C4 : Codec α4} {k0 : α0 → Nat} {k1 : α1 → Nat} {k2 : α2 → Nat} {k3 : α3 → Nat} {k4 : α4 → Nat}
    (h0 : Reads P f0.type C0 k0) (h1 : Reads P f1.type C1 k1) (h2 : Reads P f2.type C2 k2) (h3 : Reads P f3.type C3 k3) (h4 : Reads P f4.type C4 k4)
    (ht : P.underlying t = some (.struct #[f0, f1, f2, f3, f4])) (hc : P.cellsOf t = C0.n + (C1.n + (C2.n + (C3.n + C4.n)))) (o0 : f0.offset = 0) (o1 : f1.offset = C0.n) (o2 : f2.offset = C0.n + C1.n) (o3 : f3.offset = C0.n + C1.n + C2.n) (o4 : f4.offset = C0.n + C1.n + C2.n + C3.n) : Reads P t (pairC C0 (pairC C1 (pairC C2 (pairC C3 C4)))) (fun p => k0 p.1 + k1 p.2.1 + k2 p.2.2.1 + k3 p.2.2.2.1 + k4 p.2.2.2.2) :=
  ⟨hc, fun H enc w spare held fuel cs x h => by
    obtain ⟨xs, n, rfl, rfl, hl, hn, hf⟩ := DataW.trod_struct ht h
    obtain ⟨n0, r0⟩ := h0
    obtain ⟨n1, r1⟩ := h1
    obtain ⟨n2, r2⟩ := h2
    obtain ⟨n3, r3⟩ := h3
    obtain ⟨n4, r4⟩ := h4
    match xs, hn with
    | [x0, x1, x2, x3, x4], _ =>
      have e0 := hf 0 f0 rfl
      have e1 := hf 1 f1 rfl
      have e2 := hf 2 f2 rfl
      have e3 := hf 3 f3 rfl
      have e4 := hf 4 f4 rfl
      rw [o0, List.drop_zero, n0] at e0
      rw [o1, n1] at e1
      rw [o2, n2] at e2
      rw [o3, n3] at e3
      rw [o4, n4] at e4
      obtain ⟨a0, q0, b0⟩ := r0 H enc w spare held n _ x0 e0
      obtain ⟨a1, q1, b1⟩ := r1 H enc w spare held n _ x1 e1
      obtain ⟨a2, q2, b2⟩ := r2 H enc w spare held n _ x2 e2
      obtain ⟨a3, q3, b3⟩ := r3 H enc w spare held n _ x3 e3
      obtain ⟨a4, q4, b4⟩ := r4 H enc w spare held n _ x4 e4
      rw [List.take_of_length_le (l := cs.drop (C0.n + C1.n + C2.n + C3.n)) (by rw [List.length_drop, hl, hc]; omega)] at q4
      refine ⟨(a0, a1, a2, a3, a4), ⟨_, cs.drop C0.n, (List.take_append_drop _ _).symm, q0, _, cs.drop (C0.n + C1.n), ?_, q1, _, cs.drop (C0.n + C1.n + C2.n), ?_, q2, _, cs.drop (C0.n + C1.n + C2.n + C3.n), ?_, q3, q4⟩, ?_⟩
      · rw [← List.drop_drop, List.take_append_drop]
      · rw [← List.drop_drop (i := C2.n), List.take_append_drop]
      · rw [← List.drop_drop (i := C3.n), List.take_append_drop]
      · simp only [Rows.uptoBulk, bulk_all, List.map_cons, List.map_nil, List.sum_cons, List.sum_nil]
        omega⟩
theorem reads_struct6 {P : Program} {t : TypeId} {f0 f1 f2 f3 f4 f5 : Field} {α0 α1 α2 α3 α4 α5 : Type} {C0 : Codec α0} {C1 : Codec α1} {C2 : Codec α2} {C3 : Codec α3} {C4 : Codec α4} {C5 : Codec α5} {k0 : α0 → Nat} {k1 : α1 → Nat} {k2 : α2 → Nat} {k3 : α3 → Nat} {k4 : α4 → Nat} {k5 : α5 → Nat}
    (h0 : Reads P f0.type C0 k0) (h1 : Reads P f1.type C1 k1) (h2 : Reads P f2.type C2 k2) (h3 : Reads P f3.type C3 k3) (h4 : Reads P f4.type C4 k4) (h5 : Reads P f5.type C5 k5)
    (ht : P.underlying t = some (.struct #[f0, f1, f2, f3, f4, f5])) (hc : P.cellsOf t = C0.n + (C1.n + (C2.n + (C3.n + (C4.n + C5.n))))) (o0 : f0.offset = 0) (o1 : f1.offset = C0.n) (o2 : f2.offset = C0.n + C1.n) (o3 : f3.offset = C0.n + C1.n + C2.n) (o4 : f4.offset = C0.n + C1.n + C2.n + C3.n) (o5 : f5.offset = C0.n + C1.n + C2.n + C3.n + C4.n) : Reads P t (pairC C0 (pairC C1 (pairC C2 (pairC C3 (pairC C4 C5))))) (fun p => k0 p.1 + k1 p.2.1 + k2 p.2.2.1 + k3 p.2.2.2.1 + k4 p.2.2.2.2.1 + k5 p.2.2.2.2.2) :=
  ⟨hc, fun H enc w spare held fuel cs x h => by
    obtain ⟨xs, n, rfl, rfl, hl, hn, hf⟩ := DataW.trod_struct ht h
    obtain ⟨n0, r0⟩ := h0
    obtain ⟨n1, r1⟩ := h1
    obtain ⟨n2, r2⟩ := h2
    obtain ⟨n3, r3⟩ := h3
    obtain ⟨n4, r4⟩ := h4
    obtain ⟨n5, r5⟩ := h5
    match xs, hn with
    | [x0, x1, x2, x3, x4, x5], _ =>
      have e0 := hf 0 f0 rfl
      have e1 := hf 1 f1 rfl
      have e2 := hf 2 f2 rfl
      have e3 := hf 3 f3 rfl
      have e4 := hf 4 f4 rfl
      have e5 := hf 5 f5 rfl
      rw [o0, List.drop_zero, n0] at e0
      rw [o1, n1] at e1
      rw [o2, n2] at e2
      rw [o3, n3] at e3
      rw [o4, n4] at e4
      rw [o5, n5] at e5
      obtain ⟨a0, q0, b0⟩ := r0 H enc w spare held n _ x0 e0
      obtain ⟨a1, q1, b1⟩ := r1 H enc w spare held n _ x1 e1
      obtain ⟨a2, q2, b2⟩ := r2 H enc w spare held n _ x2 e2
      obtain ⟨a3, q3, b3⟩ := r3 H enc w spare held n _ x3 e3
      obtain ⟨a4, q4, b4⟩ := r4 H enc w spare held n _ x4 e4
      obtain ⟨a5, q5, b5⟩ := r5 H enc w spare held n _ x5 e5
      rw [List.take_of_length_le (l := cs.drop (C0.n + C1.n + C2.n + C3.n + C4.n)) (by rw [List.length_drop, hl, hc]; omega)] at q5
      refine ⟨(a0, a1, a2, a3, a4, a5), ⟨_, cs.drop C0.n, (List.take_append_drop _ _).symm, q0, _, cs.drop (C0.n + C1.n), ?_, q1, _, cs.drop (C0.n + C1.n + C2.n), ?_, q2, _, cs.drop (C0.n + C1.n + C2.n + C3.n), ?_, q3, _, cs.drop (C0.n + C1.n + C2.n + C3.n + C4.n), ?_, q4, q5⟩, ?_⟩
      · rw [← List.drop_drop, List.take_append_drop]
      · rw [← List.drop_drop (i := C2.n), List.take_append_drop]
      · rw [← List.drop_drop (i := C3.n), List.take_append_drop]
      · rw [← List.drop_drop (i := C4.n), List.take_append_drop]
      · simp only [Rows.uptoBulk, bulk_all, List.map_cons, List.map_nil, List.sum_cons, List.sum_nil]
        omega⟩
def bkFld (p : Mb.Fld) : Nat := (p.1.length + 1) + (p.2.length + 1)
def bkMsg (m : Mb.Msg) : Nat := (1 + (m.1.map bkFld).sum) + (1 + (m.2.map fun _ => 1).sum)
def bkChg (c : Mb.Chg) : Nat := 1 + 1 + 1 + 1 + 1 + bkMsg c.2.2.2.2.2
def bkEnt (c : Mb.Ent) : Nat := 1 + 1 + 1 + 1 + bkMsg c.2.2.2.2
def bkGn (c : Mb.Gn) : Nat := 1 + 1
abbrev rInt : Reads Tryz.prog 3 intC (fun _ => 1) := reads_int Tryz.underlying3 (by kernel_rfl)
abbrev rStr : Reads Tryz.prog 9 strC (fun l => l.length + 1) := reads_string Tryz.underlying9 (by kernel_rfl)
set_option maxRecDepth 100000 in
theorem readsFld : Reads Tryz.prog 108 fldC bkFld :=
  reads_struct2 (C := strC) (D := strC) (bc := fun s => s.length + 1) (bd := fun s => s.length + 1) rStr rStr Tryz.underlying108 (by kernel_rfl) rfl rfl
set_option maxRecDepth 100000 in
theorem readsMsg : Reads Tryz.prog 45 msgC bkMsg :=
  reads_struct2 (C := sliceC fldC) (D := sliceC byteC) (bc := fun l => 1 + (l.map bkFld).sum) (bd := fun l => 1 + (l.map fun _ => 1).sum) (reads_slice readsFld Tryz.underlying43 (by kernel_rfl)) (readsBytes Tryz.prog Tryz.underlying29 Tryz.underlying5 (by kernel_rfl) (by kernel_rfl)) Tryz.underlying45 (by kernel_rfl) rfl rfl
set_option maxRecDepth 100000 in
theorem readsChg : Reads Tryz.prog 47 chgC bkChg :=
  reads_struct6 (C0 := intC) (C1 := intC) (C2 := intC) (C3 := intC) (C4 := intC) (C5 := msgC) (k0 := fun _ => 1) (k1 := fun _ => 1) (k2 := fun _ => 1) (k3 := fun _ => 1) (k4 := fun _ => 1) (k5 := bkMsg) rInt rInt rInt rInt rInt readsMsg Tryz.underlying47 (by kernel_rfl) rfl rfl rfl rfl rfl rfl
set_option maxRecDepth 100000 in
theorem readsChgs : Reads Tryz.prog 22 (sliceC chgC) (fun l => 1 + (l.map bkChg).sum) := reads_slice readsChg Tryz.underlying22 (by kernel_rfl)
set_option maxRecDepth 100000 in
theorem readsEnt : Reads Tryz.prog 65 entC bkEnt :=
  reads_struct5 (C0 := intC) (C1 := intC) (C2 := intC) (C3 := intC) (C4 := msgC) (k0 := fun _ => 1) (k1 := fun _ => 1) (k2 := fun _ => 1) (k3 := fun _ => 1) (k4 := bkMsg) rInt rInt rInt rInt readsMsg Tryz.underlying65 (by kernel_rfl) rfl rfl rfl rfl rfl
set_option maxRecDepth 100000 in
theorem readsGn : Reads Tryz.prog 82 gnC bkGn :=
  reads_struct2 (C := intC) (D := intC) (bc := fun _ => 1) (bd := fun _ => 1) rInt rInt Tryz.underlying82 (by kernel_rfl) rfl rfl
set_option maxRecDepth 100000 in
theorem readsBox : Reads Tryz.prog 26 (pairC intC (pairC intC (pairC intC (pairC (sliceC entC) (sliceC gnC))))) (fun p => 1 + 1 + 1 + (1 + (p.2.2.2.1.map bkEnt).sum) + (1 + (p.2.2.2.2.map bkGn).sum)) :=
  reads_struct5 (C0 := intC) (C1 := intC) (C2 := intC) (C3 := sliceC entC) (C4 := sliceC gnC) (k0 := fun _ => 1) (k1 := fun _ => 1) (k2 := fun _ => 1) (k3 := fun l => 1 + (l.map bkEnt).sum) (k4 := fun l => 1 + (l.map bkGn).sum) rInt rInt rInt (reads_slice readsEnt Tryz.underlying23 (by kernel_rfl)) (reads_slice readsGn Tryz.underlying24 (by kernel_rfl)) Tryz.underlying26 (by kernel_rfl) rfl rfl rfl rfl rfl
theorem bk_mem {α : Type} (f : α → Nat) {l : List α} {x : α} (h : x ∈ l) : f x ≤ (l.map f).sum := by
  induction l with
  | nil => cases h
  | cons y l ih =>
    rw [List.map_cons, List.sum_cons]
    rcases List.mem_cons.1 h with rfl | h
    · omega
    · have := ih h; omega
theorem len_le_sum {α : Type} (f : α → Nat) (hf : ∀ x, 1 ≤ f x) : ∀ l : List α, l.length ≤ (l.map f).sum
  | [] => Nat.le_refl _
  | x :: l => by
    have h1 := len_le_sum f hf l
    have h2 := hf x
    rw [List.length_cons, List.map_cons, List.sum_cons]
    omega
theorem msg_small {m : Mb.Msg} : m.1.length + m.2.length ≤ bkMsg m := by
  have h1 := len_le_sum bkFld (fun x => by unfold bkFld; omega) m.1
  have h2 := len_le_sum (fun _ : UInt8 => 1) (fun _ => Nat.le_refl _) m.2
  unfold bkMsg
  omega
theorem msg_of_rd {w : World} {a : Array Value} {m : Mb.Msg} (h : msgC.rd M0 w (Value.agg a).cells.toList m) : ∃ f b, Value.agg a = .agg #[f, b] ∧ SlR fldC M0 w f m.1 ∧ SlR byteC M0 w b m.2 := by
  obtain ⟨xs, ys, e, ⟨v, rfl, hv⟩, ⟨u, rfl, hu⟩⟩ := h
  have e : a.toList = [v] ++ [u] := e
  refine ⟨v, u, ?_, hv, hu⟩
  congr 1
  rw [← Array.toArray_toList (xs := a), e]
  rfl
theorem box_of_rd {w : World} {a : Array Value} {p : Int × Int × Int × List Mb.Ent × List Mb.Gn} (h : (pairC intC (pairC intC (pairC intC (pairC (sliceC entC) (sliceC gnC))))).rd M0 w (Value.agg a).cells.toList p) : ∃ es gs, Value.agg a = boxV ⟨p.1, p.2.1, p.2.2.1, p.2.2.2.1, p.2.2.2.2⟩ es gs ∧ SlR entC M0 w es p.2.2.2.1 ∧ SlR gnC M0 w gs p.2.2.2.2 := by
  obtain ⟨c0, d0, e, ⟨rfl, _⟩, c1, d1, rfl, ⟨rfl, _⟩, c2, d2, rfl, ⟨rfl, _⟩, c3, d3, rfl, ⟨v, rfl, hv⟩, ⟨u, rfl, hu⟩⟩ := h
  have e : a.toList = [.int .i64 p.1] ++ ([.int .i64 p.2.1] ++ ([.int .i64 p.2.2.1] ++ ([v] ++ [u]))) := e
  refine ⟨v, u, ?_, hv, hu⟩
  unfold boxV
  congr 1
  rw [← Array.toArray_toList (xs := a), e]
  rfl
theorem tabIs_of_reads {P : Program} {W : World} {name : String} {k : IntKind} {zs : List Int} {g : Nat} {t e : TypeId} {n : Nat}
    (hg : P.globalNamed name = some g) (hty : (P.globals[g]?).map (·.type) = some t) (ht : P.underlying t = some (.array n e)) (he : P.underlying e = some (.int k)) (hce : P.cellsOf e = 1) (hct : P.cellsOf t = n)
    (h : VarReads P W name (tabData k zs)) : TabIs P W name k zs := by
  obtain ⟨g', t', cs, fuel, p, hg', ht', hvar, hd⟩ := h
  obtain rfl := Option.some.inj (hg.symm.trans hg')
  obtain rfl := Option.some.inj (hty.symm.trans ht')
  unfold TabIs
  rw [hvar, ← cells_of_tab ht he hce hct hd]
theorem pow10_eq : (Rows.laid_internal_strconv_uint64pow10 : DataW Unit) = tabData .u64 Lib.pow10Tab := by kernel_rfl
theorem env_of {l : List (String × DataW Unit)} {W : World} (hL : laidMet Tryz.prog l W) (hSh : W.ShapedOpen Tryz.prog) (m1 : ("internal/strconv.uint64pow10", (Rows.laid_internal_strconv_uint64pow10 : DataW Unit)) ∈ l) : Env W.heap.size W := by
  refine ⟨Lib.tabBelow_of_tabIs (tabIs_of_reads (g := 3) (t := 242) (e := 157) (n := 20) (by kernel_rfl) (by kernel_rfl) (by kernel_rfl) (by kernel_rfl) (by kernel_rfl) (by kernel_rfl) (pow10_eq ▸ Lib.laidMet.reads hL m1)), ?_⟩
  obtain ⟨m, hm⟩ : ∃ m, W.cell? ⟨0, 0, none⟩ = some (.int .i64 m) := Go.Proofs.cell_of_shapedOpen_int (zero := #[.int .i64 0]) (t := 3) hSh (of_decide_eq_true (by kernel_rfl)) (by kernel_rfl) rfl (by kernel_rfl) (by kernel_rfl) Tryz.underlying3
  exact ⟨m, fun w' hb => (hb.cell (World.block_lt_of_cell? W _ hm)).trans hm⟩
end Go.Proofs.YtjamjkjmlckgeaaGreatDoor
namespace Go.Proofs.YtjamjkjmlckgeaaGreatDoor
open Go.ChangeShapes Go.WideShapes Go.ChangeAt Go.RowKit Go.Lib
set_option linter.unusedVariables false
theorem readsS_struct5 {P : Program} {t : TypeId} {f0 f1 f2 f3 f4 : Field} {α0 α1 α2 α3 α4 : Type} {C0 : Codec α0} {C1 : Codec α1} {C2 : Codec α2} {C3 : Codec α3} {C4 : Codec α4} {k0 : α0 → Nat} {k1 : α1 → Nat} {k2 : α2 → Nat} {k3 : α3 → Nat} {k4 : α4 → Nat} {φ0 : α0 → Prop} {φ1 : α1 → Prop} {φ2 : α2 → Prop} {φ3 : α3 → Prop} {φ4 : α4 → Prop}
    (h0 : ReadsS P f0.type C0 k0 φ0) (h1 : ReadsS P f1.type C1 k1 φ1) (h2 : ReadsS P f2.type C2 k2 φ2) (h3 : ReadsS P f3.type C3 k3 φ3) (h4 : ReadsS P f4.type C4 k4 φ4)
    (ht : P.underlying t = some (.struct #[f0, f1, f2, f3, f4])) (hc : P.cellsOf t = C0.n + (C1.n + (C2.n + (C3.n + C4.n)))) (o0 : f0.offset = 0) (o1 : f1.offset = C0.n) (o2 : f2.offset = C0.n + C1.n) (o3 : f3.offset = C0.n + C1.n + C2.n) (o4 : f4.offset = C0.n + C1.n + C2.n + C3.n) : ReadsS P t (pairC C0 (pairC C1 (pairC C2 (pairC C3 C4)))) (fun p => k0 p.1 + k1 p.2.1 + k2 p.2.2.1 + k3 p.2.2.2.1 + k4 p.2.2.2.2) (fun p => φ0 p.1 ∧ φ1 p.2.1 ∧ φ2 p.2.2.1 ∧ φ3 p.2.2.2.1 ∧ φ4 p.2.2.2.2) :=
  ⟨hc, fun H enc w spare held fuel cs x h => by
    obtain ⟨xs, n, rfl, rfl, hl, hn, hf⟩ := DataW.trod_struct ht h
    obtain ⟨n0, r0⟩ := h0
    obtain ⟨n1, r1⟩ := h1
    obtain ⟨n2, r2⟩ := h2
    obtain ⟨n3, r3⟩ := h3
    obtain ⟨n4, r4⟩ := h4
    match xs, hn with
    | [x0, x1, x2, x3, x4], _ =>
      have e0 := hf 0 f0 rfl
      have e1 := hf 1 f1 rfl
      have e2 := hf 2 f2 rfl
      have e3 := hf 3 f3 rfl
      have e4 := hf 4 f4 rfl
      rw [o0, List.drop_zero, n0] at e0
      rw [o1, n1] at e1
      rw [o2, n2] at e2
      rw [o3, n3] at e3
      rw [o4, n4] at e4
      obtain ⟨a0, q0, b0, s0⟩ := r0 H enc w spare held n _ x0 e0
      obtain ⟨a1, q1, b1, s1⟩ := r1 H enc w spare held n _ x1 e1
      obtain ⟨a2, q2, b2, s2⟩ := r2 H enc w spare held n _ x2 e2
      obtain ⟨a3, q3, b3, s3⟩ := r3 H enc w spare held n _ x3 e3
      obtain ⟨a4, q4, b4, s4⟩ := r4 H enc w spare held n _ x4 e4
      rw [List.take_of_length_le (l := cs.drop (C0.n + C1.n + C2.n + C3.n)) (by rw [List.length_drop, hl, hc]; omega)] at q4
      refine ⟨(a0, a1, a2, a3, a4), ⟨_, cs.drop C0.n, (List.take_append_drop _ _).symm, q0, _, cs.drop (C0.n + C1.n), ?_, q1, _, cs.drop (C0.n + C1.n + C2.n), ?_, q2, _, cs.drop (C0.n + C1.n + C2.n + C3.n), ?_, q3, q4⟩, ?_, fun hw => ⟨s0 fun m hm => hw m ?_, s1 fun m hm => hw m ?_, s2 fun m hm => hw m ?_, s3 fun m hm => hw m ?_, s4 fun m hm => hw m ?_⟩⟩
      · rw [← List.drop_drop, List.take_append_drop]
      · rw [← List.drop_drop (i := C2.n), List.take_append_drop]
      · rw [← List.drop_drop (i := C3.n), List.take_append_drop]
      · simp only [Rows.uptoBulk, bulk_all, List.map_cons, List.map_nil, List.sum_cons, List.sum_nil]
        omega
      · simp only [DataW.weights, ht]
        simp [DataW.weightsEach, hm]
      · simp only [DataW.weights, ht]
        simp [DataW.weightsEach, hm]
      · simp only [DataW.weights, ht]
        simp [DataW.weightsEach, hm]
      · simp only [DataW.weights, ht]
        simp [DataW.weightsEach, hm]
      · simp only [DataW.weights, ht]
        simp [DataW.weightsEach, hm]⟩
theorem readsS_struct6 {P : Program} {t : TypeId} {f0 f1 f2 f3 f4 f5 : Field} {α0 α1 α2 α3 α4 α5 : Type} {C0 : Codec α0} {C1 : Codec α1} {C2 : Codec α2} {C3 : Codec α3} {C4 : Codec α4} {C5 : Codec α5} {k0 : α0 → Nat} {k1 : α1 → Nat} {k2 : α2 → Nat} {k3 : α3 → Nat} {k4 : α4 → Nat} {k5 : α5 → Nat} {φ0 : α0 → Prop} {φ1 : α1 → Prop} {φ2 : α2 → Prop} {φ3 : α3 → Prop} {φ4 : α4 → Prop} {φ5 : α5 → Prop}
    (h0 : ReadsS P f0.type C0 k0 φ0) (h1 : ReadsS P f1.type C1 k1 φ1) (h2 : ReadsS P f2.type C2 k2 φ2) (h3 : ReadsS P f3.type C3 k3 φ3) (h4 : ReadsS P f4.type C4 k4 φ4) (h5 : ReadsS P f5.type C5 k5 φ5)
    (ht : P.underlying t = some (.struct #[f0, f1, f2, f3, f4, f5])) (hc : P.cellsOf t = C0.n + (C1.n + (C2.n + (C3.n + (C4.n + C5.n))))) (o0 : f0.offset = 0) (o1 : f1.offset = C0.n) (o2 : f2.offset = C0.n + C1.n) (o3 : f3.offset = C0.n + C1.n + C2.n) (o4 : f4.offset = C0.n + C1.n + C2.n + C3.n) (o5 : f5.offset = C0.n + C1.n + C2.n + C3.n + C4.n) : ReadsS P t (pairC C0 (pairC C1 (pairC C2 (pairC C3 (pairC C4 C5))))) (fun p => k0 p.1 + k1 p.2.1 + k2 p.2.2.1 + k3 p.2.2.2.1 + k4 p.2.2.2.2.1 + k5 p.2.2.2.2.2) (fun p => φ0 p.1 ∧ φ1 p.2.1 ∧ φ2 p.2.2.1 ∧ φ3 p.2.2.2.1 ∧ φ4 p.2.2.2.2.1 ∧ φ5 p.2.2.2.2.2) :=
  ⟨hc, fun H enc w spare held fuel cs x h => by
    obtain ⟨xs, n, rfl, rfl, hl, hn, hf⟩ := DataW.trod_struct ht h
    obtain ⟨n0, r0⟩ := h0
    obtain ⟨n1, r1⟩ := h1
    obtain ⟨n2, r2⟩ := h2
    obtain ⟨n3, r3⟩ := h3
    obtain ⟨n4, r4⟩ := h4
    obtain ⟨n5, r5⟩ := h5
    match xs, hn with
    | [x0, x1, x2, x3, x4, x5], _ =>
      have e0 := hf 0 f0 rfl
      have e1 := hf 1 f1 rfl
      have e2 := hf 2 f2 rfl
      have e3 := hf 3 f3 rfl
      have e4 := hf 4 f4 rfl
      have e5 := hf 5 f5 rfl
      rw [o0, List.drop_zero, n0] at e0
      rw [o1, n1] at e1
      rw [o2, n2] at e2
      rw [o3, n3] at e3
      rw [o4, n4] at e4
      rw [o5, n5] at e5
      obtain ⟨a0, q0, b0, s0⟩ := r0 H enc w spare held n _ x0 e0
      obtain ⟨a1, q1, b1, s1⟩ := r1 H enc w spare held n _ x1 e1
      obtain ⟨a2, q2, b2, s2⟩ := r2 H enc w spare held n _ x2 e2
      obtain ⟨a3, q3, b3, s3⟩ := r3 H enc w spare held n _ x3 e3
      obtain ⟨a4, q4, b4, s4⟩ := r4 H enc w spare held n _ x4 e4
      obtain ⟨a5, q5, b5, s5⟩ := r5 H enc w spare held n _ x5 e5
      rw [List.take_of_length_le (l := cs.drop (C0.n + C1.n + C2.n + C3.n + C4.n)) (by rw [List.length_drop, hl, hc]; omega)] at q5
      refine ⟨(a0, a1, a2, a3, a4, a5), ⟨_, cs.drop C0.n, (List.take_append_drop _ _).symm, q0, _, cs.drop (C0.n + C1.n), ?_, q1, _, cs.drop (C0.n + C1.n + C2.n), ?_, q2, _, cs.drop (C0.n + C1.n + C2.n + C3.n), ?_, q3, _, cs.drop (C0.n + C1.n + C2.n + C3.n + C4.n), ?_, q4, q5⟩, ?_, fun hw => ⟨s0 fun m hm => hw m ?_, s1 fun m hm => hw m ?_, s2 fun m hm => hw m ?_, s3 fun m hm => hw m ?_, s4 fun m hm => hw m ?_, s5 fun m hm => hw m ?_⟩⟩
      · rw [← List.drop_drop, List.take_append_drop]
      · rw [← List.drop_drop (i := C2.n), List.take_append_drop]
      · rw [← List.drop_drop (i := C3.n), List.take_append_drop]
      · rw [← List.drop_drop (i := C4.n), List.take_append_drop]
      · simp only [Rows.uptoBulk, bulk_all, List.map_cons, List.map_nil, List.sum_cons, List.sum_nil]
        omega
      · simp only [DataW.weights, ht]
        simp [DataW.weightsEach, hm]
      · simp only [DataW.weights, ht]
        simp [DataW.weightsEach, hm]
      · simp only [DataW.weights, ht]
        simp [DataW.weightsEach, hm]
      · simp only [DataW.weights, ht]
        simp [DataW.weightsEach, hm]
      · simp only [DataW.weights, ht]
        simp [DataW.weightsEach, hm]
      · simp only [DataW.weights, ht]
        simp [DataW.weightsEach, hm]⟩
abbrev sInt : ReadsS Tryz.prog 3 intC (fun _ => 1) (fun _ => True) := rInt.sized
def szMsg (m : Mb.Msg) : Prop := (m.1.length * Tryz.prog.bytesOf 108 ≤ reachBytes ∧ ∀ a ∈ m.1, True) ∧ (m.2.length * Tryz.prog.bytesOf 5 ≤ reachBytes ∧ ∀ a ∈ m.2, True)
set_option maxRecDepth 100000 in
theorem sMsg : ReadsS Tryz.prog 45 msgC bkMsg szMsg :=
  readsS_struct2 (C := sliceC fldC) (D := sliceC byteC) (bc := fun l => 1 + (l.map bkFld).sum) (bd := fun l => 1 + (l.map fun _ => 1).sum) (φ := fun l => l.length * Tryz.prog.bytesOf 108 ≤ reachBytes ∧ ∀ a ∈ l, True) (ψ := fun l => l.length * Tryz.prog.bytesOf 5 ≤ reachBytes ∧ ∀ a ∈ l, True) (readsS_slice readsFld.sized Tryz.underlying43 (by kernel_rfl)) (readsS_slice (reads_byte Tryz.underlying5 (by kernel_rfl)).sized Tryz.underlying29 (by kernel_rfl)) Tryz.underlying45 (by kernel_rfl) rfl rfl
set_option maxRecDepth 100000 in
theorem sChg : ReadsS Tryz.prog 47 chgC bkChg (fun c => True ∧ True ∧ True ∧ True ∧ True ∧ szMsg c.2.2.2.2.2) :=
  readsS_struct6 (C0 := intC) (C1 := intC) (C2 := intC) (C3 := intC) (C4 := intC) (C5 := msgC) (k0 := fun _ => 1) (k1 := fun _ => 1) (k2 := fun _ => 1) (k3 := fun _ => 1) (k4 := fun _ => 1) (k5 := bkMsg) (φ0 := fun _ => True) (φ1 := fun _ => True) (φ2 := fun _ => True) (φ3 := fun _ => True) (φ4 := fun _ => True) (φ5 := szMsg) sInt sInt sInt sInt sInt sMsg Tryz.underlying47 (by kernel_rfl) rfl rfl rfl rfl rfl rfl
set_option maxRecDepth 100000 in
theorem sChgs : ReadsS Tryz.prog 22 (sliceC chgC) (fun l => 1 + (l.map bkChg).sum) (fun l => l.length * Tryz.prog.bytesOf 47 ≤ reachBytes ∧ ∀ c ∈ l, True ∧ True ∧ True ∧ True ∧ True ∧ szMsg c.2.2.2.2.2) := readsS_slice sChg Tryz.underlying22 (by kernel_rfl)
set_option maxRecDepth 100000 in
theorem sEnt : ReadsS Tryz.prog 65 entC bkEnt (fun c => True ∧ True ∧ True ∧ True ∧ szMsg c.2.2.2.2) :=
  readsS_struct5 (C0 := intC) (C1 := intC) (C2 := intC) (C3 := intC) (C4 := msgC) (k0 := fun _ => 1) (k1 := fun _ => 1) (k2 := fun _ => 1) (k3 := fun _ => 1) (k4 := bkMsg) (φ0 := fun _ => True) (φ1 := fun _ => True) (φ2 := fun _ => True) (φ3 := fun _ => True) (φ4 := szMsg) sInt sInt sInt sInt sMsg Tryz.underlying65 (by kernel_rfl) rfl rfl rfl rfl rfl
def szEnts (l : List Mb.Ent) : Prop := l.length * Tryz.prog.bytesOf 65 ≤ reachBytes ∧ ∀ c ∈ l, True ∧ True ∧ True ∧ True ∧ szMsg c.2.2.2.2
def szGns (l : List Mb.Gn) : Prop := l.length * Tryz.prog.bytesOf 82 ≤ reachBytes ∧ ∀ c ∈ l, True
set_option maxRecDepth 100000 in
theorem sBox : ReadsS Tryz.prog 26 (pairC intC (pairC intC (pairC intC (pairC (sliceC entC) (sliceC gnC))))) (fun p => 1 + 1 + 1 + (1 + (p.2.2.2.1.map bkEnt).sum) + (1 + (p.2.2.2.2.map bkGn).sum)) (fun p => True ∧ True ∧ True ∧ szEnts p.2.2.2.1 ∧ szGns p.2.2.2.2) :=
  readsS_struct5 (C0 := intC) (C1 := intC) (C2 := intC) (C3 := sliceC entC) (C4 := sliceC gnC) (k0 := fun _ => 1) (k1 := fun _ => 1) (k2 := fun _ => 1) (k3 := fun l => 1 + (l.map bkEnt).sum) (k4 := fun l => 1 + (l.map bkGn).sum) (φ0 := fun _ => True) (φ1 := fun _ => True) (φ2 := fun _ => True) (φ3 := szEnts) (φ4 := szGns) sInt sInt sInt (readsS_slice sEnt Tryz.underlying23 (by kernel_rfl)) (readsS_slice readsGn.sized Tryz.underlying24 (by kernel_rfl)) Tryz.underlying26 (by kernel_rfl) rfl rfl rfl rfl rfl
theorem msg_fits {m : Mb.Msg} (h : szMsg m) : m.1.length ≤ 4398046511104 ∧ m.2.length ≤ 140737488355328 := by
  obtain ⟨⟨h1, _⟩, h2, _⟩ := h
  rw [(by kernel_rfl : Tryz.prog.bytesOf 108 = 32)] at h1
  rw [(by kernel_rfl : Tryz.prog.bytesOf 5 = 1)] at h2
  unfold reachBytes at h1 h2
  omega
end Go.Proofs.YtjamjkjmlckgeaaGreatDoor
