/-
  Contracts and plain facts, one after another: mailbox.New, mailbox.CopyMessage; The next number of a mailbox that is changed; what is known of a message; Letters and answers: what the code and the reference compute.
-/
import Derived.Test.YtjamjkjmlckgeaaGreatDoorF11
import Derived.Test.YtjamjkjmlckgeaaGreatDoorF38
import Derived.Test.YtjamjkjmlckgeaaGreatDoorF10
import Derived.Test.YtjamjkjmlckgeaaGreatDoorF1
namespace Go.Proofs.YtjamjkjmlckgeaaGreatDoor
open Go.RowKit

/-- data that lead nowhere -/
def FreeC {α : Type} (C : Codec α) : Prop := ∀ (M M' : Nat → Prop) (w w' : World) (cs : List Value) (a : α), C.rd M w cs a → C.rd M' w' cs a
theorem free_byte : FreeC byteC := fun _ _ _ _ _ _ h => h
theorem free_fld : FreeC fldC := fun _ _ _ _ _ _ h => h
theorem free_gn : FreeC gnC := fun _ _ _ _ _ _ h => h
theorem own_freeM {α : Type} {C : Codec α} {M M' : Nat → Prop} {w : World} {B : Nat} {e : TypeId} {v : Value} {l : List α} (hF : FreeC C) (h : Own C M w B e v l) : Own C M' w B e v l := by
  obtain ⟨xs, ho, he⟩ := h
  exact ⟨xs, ho, he.1, fun i hi => hF _ _ _ _ _ _ (he.2 i hi)⟩
theorem own_putF {α : Type} {C : Codec α} {M : Nat → Prop} {w : World} {B : Nat} {e : TypeId} {v : Value} {l : List α} (hF : FreeC C) (h : Own C M w B e v l) {g : Nat} (hg : ∀ b, v.ownBlock = some b → b ≠ g) (a b : Value) : Own C M ((w.setCell ⟨g, 0, none⟩ a).setCell ⟨g, 1, none⟩ b) B e v l := by
  have h1 : Own C (fun b => b = g) w B e v l := own_freeM hF h
  have h2 : Own C (fun b => b = g) ((w.setCell ⟨g, 0, none⟩ a).setCell ⟨g, 1, none⟩ b) B e v l :=
    h1.keep (fun k _ hk => by
      have hne : k ≠ g := hk.elim id fun ho => hg k ho
      rw [heap_set_ne _ _ _ hne, heap_set_ne _ _ _ hne]) (by simp) fun k hk => hg k hk
  exact own_freeM hF h2
theorem new_ok (w : World) : Calls Tryz.prog 9 #[] w fun e w' => e = .returned (boxV Mb.newB (.slice none 0 0) (.slice none 0 0)) ∧ Below w.heap.size w w' := by
  go_enter Tryz.func9, Tryz.ntmps9
  go_wp2
  exact bodyPost_ret (v := boxV Mb.newB (.slice none 0 0) (.slice none 0 0)) (by simp [results, Tryz.results9, go_sem, boxV, Mb.newB]) rfl ⟨rfl, (Below.refl _ _).alloc (Nat.le_refl _) _⟩
set_option maxRecDepth 100000 in
set_option maxHeartbeats 4000000 in
theorem copyMsg_ok (f b : Value) (m : Mb.Msg) (w : World) (hf : SlR fldC M0 w f m.1) (hb : SlR byteC M0 w b m.2) (h60 : m.1.length ≤ 1000000) (hlen : m.2.length ≤ 1000000000) :
    Calls Tryz.prog 60 #[.agg #[f, b]] w fun e w' => ∃ f' b', e = .returned (.agg #[f', b']) ∧ Own fldC M0 w' w.heap.size 108 f' m.1 ∧ Own byteC M0 w' w.heap.size 5 b' m.2 ∧ Below w.heap.size w w' := by
  obtain ⟨l, bd⟩ := m
  dsimp only at hf hb h60 hlen
  obtain ⟨Af, cf, rfl, hlf, _⟩ := hf.form
  obtain ⟨Ab, cb, rfl, hlb, _⟩ := hb.form
  obtain ⟨w0, g, g2, hw0, hg, hg2, hsz0, k0, k02, hb0⟩ := box2 w #[.slice Af l.length cf, .slice Ab bd.length cb] 45 #[.slice none 0 0, .slice none 0 0] 45
  have hf0 := hf.ext hb0
  have hb0b := hb.ext hb0
  clear hsz0
  go_enter Tryz.func60, Tryz.ntmps60
  have HS := Lib.hid (show ∀ W, Below w0.heap.size w0 W → W.cell? ⟨g, 0, none⟩ = some (.slice Af l.length cf) ∧ W.cell? ⟨g, 1, none⟩ = some (.slice Ab bd.length cb) from fun W hW => ⟨(k0.ext hW).two.1, (k0.ext hW).two.2.1⟩)
  go_wp2_with fail
  refine wp_region_D (fun W => W.cell? ⟨g, 0, none⟩ = some (.slice Af l.length cf) ∧ W.cell? ⟨g, 1, none⟩ = some (.slice Ab bd.length cb)) (fun _ => false) (by kernel_rfl) ?_
  change anyD _ _ _ _ _ _ _ _ _ (w0.drewN 1)
  have hbV := below_drewN' w0.heap.size w0 1
  generalize w0.drewN 1 = V0 at hbV ⊢
  have hS := HS.out V0 hbV
  (refine anyD_light (i := 0) (v := ?_) rfl (by kernel_rfl) (by kernel_rfl) (by kernel_rfl) (by kernel_rfl) (by kernel_rfl) (fun _ _ _ h => h) (.inl ⟨by kernel_rfl, fun W9 hW9 => ?_⟩) hS ?_; rotate_left; · (obtain ⟨hw0, hw1⟩ := hW9; go_simp; rfl))
  (refine anyD_light (i := 1) (v := ?_) rfl (by kernel_rfl) (by kernel_rfl) (by kernel_rfl) (by kernel_rfl) (by kernel_rfl) (fun _ _ _ h => h) (.inl ⟨by kernel_rfl, fun W9 hW9 => ?_⟩) hS ?_; rotate_left; · (obtain ⟨hw0, hw1⟩ := hW9; go_simp; rfl))
  (refine anyD_light (i := 3) (v := ?_) rfl (by kernel_rfl) (by kernel_rfl) (by kernel_rfl) (by kernel_rfl) (by kernel_rfl) (fun _ _ _ h => h) (.inl ⟨by kernel_rfl, fun W9 hW9 => ?_⟩) hS ?_; rotate_left; · (obtain ⟨hw0, hw1⟩ := hW9; go_simp; rfl))
  (refine anyD_light (i := 4) (v := ?_) rfl (by kernel_rfl) (by kernel_rfl) (by kernel_rfl) (by kernel_rfl) (by kernel_rfl) (fun _ _ _ h => h) (.inl ⟨by kernel_rfl, fun W9 hW9 => ?_⟩) hS ?_; rotate_left; · (obtain ⟨hw0, hw1⟩ := hW9; go_simp; rfl))
  go_simp
  refine anyD_one (i := 2) (by kernel_rfl) rfl rfl (fun K hK => ?_)
  have HK := Lib.hid hK
  clear hK hS
  unfold Oper.wp
  go_simp
  refine (cloneFld_ok M0 _ l V0 (hf0.ext hbV) (by omega)).mono ?_
  rintro e V1 ⟨vf, rfl, ownf, hb1⟩
  have hb1' := below2 hbV hb1
  have hS := HS.out V1 hb1'
  refine HK.out _ _ (fun _ => hS) ?_
  clear HK
  go_simp
  refine anyD_one (i := 5) (by kernel_rfl) rfl rfl (fun K hK => ?_)
  have HK := Lib.hid hK
  clear hK hS
  unfold Oper.wp
  go_simp
  refine (clone_bytes_ok M0 _ bd V1 (hb0b.ext hb1') (by omega)).mono ?_
  rintro e V2 ⟨vb, rfl, ownb, hb2⟩
  have hb2' := below2 hb1' hb2
  have ownf2 := ownf.ext hb2
  obtain ⟨Afff, cfff, rfl, _, _⟩ := ownf2.shape
  obtain ⟨Abbb, cbbb, rfl, _, _⟩ := ownb.shape
  have hS := HS.out V2 hb2'
  refine HK.out _ _ (fun _ => hS) ?_
  clear HK
  (refine anyD_light (i := 6) (v := ?_) rfl (by kernel_rfl) (by kernel_rfl) (by kernel_rfl) (by kernel_rfl) (by kernel_rfl) (fun _ _ _ h => h) (.inl ⟨by kernel_rfl, fun W9 hW9 => ?_⟩) hS ?_; rotate_left; · (obtain ⟨hw0, hw1⟩ := hW9; go_simp; rfl))
  have k2 := k02.ext hb2'
  have k1 := k0.ext hb2'
  obtain ⟨p0, p1, p2, p3, p4⟩ := k2.two
  obtain ⟨e0, e1⟩ := k2.put2 (.slice Afff l.length cfff) (.slice Abbb bd.length cbbb)
  go_simp
  refine anyD_one (i := 7) (by kernel_rfl) rfl rfl (fun K hK => ?_)
  have HK := Lib.hid hK
  clear hK hS
  unfold Oper.wp
  go_simp
  have hne : g ≠ g2 := by omega
  have k1b := (k1.far (p := ⟨g2, 0, none⟩) hne (.slice Afff l.length cfff)).far (p := ⟨g2, 1, none⟩) hne (.slice Abbb bd.length cbbb)
  have hS := (⟨k1b.two.1, k1b.two.2.1⟩ : _ ∧ _)
  refine HK.out _ _ (fun _ => hS) ?_
  clear HK
  go_simp
  refine anyD_done (by kernel_rfl) ?_ _
  clear hS k1b
  go_wp2_with fail
  refine bodyPost_ret (v := .agg #[.slice Afff l.length cfff, .slice Abbb bd.length cbbb]) (by simp [results, Tryz.results60, go_sem, e0, e1]) rfl ⟨_, _, rfl, ?_, ?_, ?_⟩
  · exact own_putF free_fld (own_lower ownf2 (by have := hb0.size; have := hbV.size; omega)) (fun bb hbb => by have h1 := ownf2.base bb hbb; have h2 := k02.lt; have h3 := hbV.size; omega) _ _
  · exact own_putF free_byte (own_lower ownb (by have := hb0.size; have := hb1'.size; omega)) (fun bb hbb => by have h1 := ownb.base bb hbb; have h2 := k02.lt; have h3 := hb1'.size; omega) _ _
  · exact below_set2 (below2 hb0 hb2') (by omega) _ _
end Go.Proofs.YtjamjkjmlckgeaaGreatDoor
namespace Go.Proofs.YtjamjkjmlckgeaaGreatDoor
namespace Mb
/-! ### records -/
inductive Rc where
  | chg (c : Chg)
  | head (nu ns hz : Int) (gs : List Gn)
  | ent (e : Ent)
def rcB : Rc → Str
  | .chg c => chgB c
  | .head nu ns hz gs => headB ⟨nu, ns, hz, [], gs⟩
  | .ent e => entB e
/-- the numbers of a record are so great -/
def i64 (n : Int) : Prop := -68719476736 ≤ n ∧ n ≤ 68719476736
theorem i64.big {n : Int} (h : i64 n) : -9223372036854775808 ≤ n ∧ n ≤ 9223372036854775807 := ⟨by have := h.1; omega, by have := h.2; omega⟩
/-- a message that a record holds -/
def MsgIn (m : Msg) : Prop := m.1.length ≤ 60 ∧ sizeF m.1 + 2 + m.2.length ≤ 12000
def RcIn : Rc → Prop
  | .chg c => i64 c.1 ∧ i64 c.2.1 ∧ i64 c.2.2.1 ∧ i64 c.2.2.2.1 ∧ i64 c.2.2.2.2.1 ∧ MsgIn c.2.2.2.2.2
  | .head nu ns hz gs => i64 nu ∧ i64 ns ∧ i64 hz ∧ gs.length ≤ 400 ∧ ∀ g ∈ gs, i64 g.1 ∧ i64 g.2
  | .ent e => i64 e.1 ∧ i64 e.2.1 ∧ i64 e.2.2.1 ∧ i64 e.2.2.2.1 ∧ MsgIn e.2.2.2.2
/-- what a record does -/
def stepF (s : Box × Bool) (first : Bool) : Rc → Option (Box × Bool)
  | .chg c => if (applF s.1 c).2.1 = 0 then some ((applF s.1 c).1, false) else none
  | .head nu ns hz gs => if first = true ∧ (boxF ⟨nu, ns, hz, s.1.es, gs⟩).1 = 0 then some (⟨nu, ns, hz, s.1.es, gs⟩, true) else none
  | .ent e => if s.2 = true ∧ (boxF ⟨s.1.nu, s.1.ns, s.1.hz, s.1.es ++ [e], s.1.gs⟩).1 = 0 then some (⟨s.1.nu, s.1.ns, s.1.hz, s.1.es ++ [e], s.1.gs⟩, s.2) else none
def playF (s : Box × Bool) (first : Bool) : List Rc → Option (Box × Bool)
  | [] => some s
  | r :: l => (stepF s first r).bind fun t => playF t false l
def replayF (l : List Rc) : Option Box := (playF (newB, false) true l).map (·.1)
def boxC (b : Box) : List Rc := .head b.nu b.ns b.hz b.gs :: b.es.map .ent
theorem boxR_rc (b : Box) : boxR b = (boxC b).map rcB := by
  unfold boxR boxC
  rw [List.map_cons, List.map_map]
  rfl
theorem playF_append : ∀ (a b : List Rc) (s : Box × Bool) (f : Bool), a ≠ [] → playF s f (a ++ b) = (playF s f a).bind fun t => playF t false b
  | [], _, _, _, h => absurd rfl h
  | [r], b, s, f, _ => by
    show (stepF s f r).bind (fun t => playF t false b) = ((stepF s f r).bind fun t => some t).bind fun t => playF t false b
    cases stepF s f r <;> rfl
  | r :: q :: a, b, s, f, _ => by
    show (stepF s f r).bind (fun t => playF t false ((q :: a) ++ b)) = ((stepF s f r).bind fun t => playF t false (q :: a)).bind fun t => playF t false b
    cases stepF s f r with
    | none => rfl
    | some t => exact playF_append (q :: a) b t false (by simp)
theorem play_ents (b : Box) (h : Good b) : ∀ (l : List Ent) (k : Nat), b.es.drop k = l → playF (⟨b.nu, b.ns, b.hz, b.es.take k, b.gs⟩, true) false (l.map .ent) = some (b, true)
  | [], k, hk => by
    have h1 : b.es.take k = b.es := List.take_of_length_le (by have := congrArg List.length hk; rw [List.length_drop] at this; simp at this; omega)
    rw [h1]
    rfl
  | e :: l, k, hk => by
    have hlt : k < b.es.length := by
      have := congrArg List.length hk
      rw [List.length_drop, List.length_cons] at this
      omega
    have h1 : b.es.take (k + 1) = b.es.take k ++ [e] := by
      rw [List.take_add_one, List.getElem?_eq_getElem hlt]
      rw [List.drop_eq_getElem_cons hlt] at hk
      rw [(List.cons.inj hk).1]
      rfl
    have h2 : b.es.drop (k + 1) = l := by
      rw [List.drop_eq_getElem_cons hlt] at hk
      exact (List.cons.inj hk).2
    have h3 := boxF_good.2 (good_take h (k + 1))
    rw [h1] at h3
    rw [List.map_cons]
    unfold playF stepF
    dsimp only
    rw [if_pos ⟨rfl, h3⟩]
    show playF (⟨b.nu, b.ns, b.hz, b.es.take k ++ [e], b.gs⟩, true) false _ = _
    rw [← h1]
    exact play_ents b h l (k + 1) h2
theorem replay_box {b : Box} (h : Good b) : playF (newB, false) true (boxC b) = some (b, true) := by
  unfold boxC playF stepF
  have h1 := boxF_good.2 (good_take h 0)
  dsimp only
  rw [if_pos ⟨rfl, h1⟩]
  exact play_ents b h b.es 0 rfl
/-- changes that all succeed -/
def Runs : Box → List Chg → Box → Prop
  | b, [], b' => b = b'
  | b, c :: l, b' => (applF b c).2.1 = 0 ∧ Runs (applF b c).1 l b'
theorem play_runs : ∀ (l : List Chg) (b b' : Box) (h f : Bool), Runs b l b' → ∃ h', playF (b, h) f (l.map .chg) = some (b', h')
  | [], b, b', h, f, hr => by
    have : b = b' := hr
    subst this
    exact ⟨h, rfl⟩
  | c :: l, b, b', h, f, hr => by
    obtain ⟨h1, h2⟩ : (applF b c).2.1 = 0 ∧ Runs (applF b c).1 l b' := hr
    rw [List.map_cons]
    unfold playF stepF
    dsimp only
    rw [if_pos h1]
    exact play_runs l _ b' false false h2
theorem runs_app : ∀ (l m : List Chg) (b b' b'' : Box), Runs b l b' → Runs b' m b'' → Runs b (l ++ m) b''
  | [], m, b, b', b'', h1, h2 => by
    have : b = b' := h1
    subst this
    exact h2
  | c :: l, m, b, b', b'', h1, h2 => ⟨h1.1, runs_app l m _ b' b'' h1.2 h2⟩
theorem runs_split : ∀ (l m : List Chg) (b b'' : Box), Runs b (l ++ m) b'' → ∃ b', Runs b l b' ∧ Runs b' m b''
  | [], m, b, b'', h => ⟨b, rfl, h⟩
  | c :: l, m, b, b'', h => by
    obtain ⟨b', h1, h2⟩ := runs_split l m _ b'' h.2
    exact ⟨b', ⟨h.1, h1⟩, h2⟩
theorem runs_good : ∀ (l : List Chg) (b b' : Box), Runs b l b' → Good b → b.gs.length + l.length ≤ 400 → Good b' ∧ b'.es.length ≤ b.es.length + l.length ∧ b'.gs.length ≤ b.gs.length + l.length
  | [], b, b', h, hg, _ => by
    have : b = b' := h
    subst this
    exact ⟨hg, by simp, by simp⟩
  | c :: l, b, b', h, hg, hl => by
    rw [List.length_cons] at hl
    have h1 := appl_len h.1
    obtain ⟨h2, h3, h4⟩ := runs_good l _ b' h.2 (appl_good hg (by omega) h.1) (by omega)
    rw [List.length_cons]
    exact ⟨h2, by omega, by omega⟩
/-- a short log and the plain one lead to the same mailbox -/
theorem replay_short {l m : List Chg} {b b' : Box} (h1 : Runs newB l b) (h2 : Runs b m b') (hl : l.length ≤ 400) : replayF ((l ++ m).map .chg) = some b' ∧ replayF (boxC b ++ m.map .chg) = some b' := by
  have hg := (runs_good l newB b h1 good_new (by show (0 : Nat) + _ ≤ _; omega)).1
  constructor
  · obtain ⟨h', e⟩ := play_runs (l ++ m) newB b' false true (runs_app l m newB b b' h1 h2)
    unfold replayF
    rw [e]
    rfl
  · obtain ⟨h', e⟩ := play_runs m b b' true false h2
    unfold replayF
    rw [playF_append _ _ _ _ (by simp [boxC]), replay_box hg]
    show ((playF (b, true) false (m.map .chg)).map (·.1)) = _
    rw [e]
    rfl
/-! ### sizes -/
theorem good_i64 {n : Int} (h : -68719476736 ≤ n ∧ n ≤ 68719476736) : i64 n := h
theorem chgB_len {c : Chg} (h : RcIn (.chg c)) : (chgB c).length ≤ 12641 := by
  obtain ⟨h1, h2, h3, h4, h5, h6⟩ := h
  have hn := nums_len [c.1, c.2.1, c.2.2.1, c.2.2.2.1, c.2.2.2.2.1] (by
    intro n hn
    simp only [List.mem_cons, List.not_mem_nil, or_false] at hn
    rcases hn with rfl | rfl | rfl | rfl | rfl
    · exact Mb.i64.big h1
    · exact Mb.i64.big h2
    · exact Mb.i64.big h3
    · exact Mb.i64.big h4
    · exact Mb.i64.big h5)
  have hm := msgB_len h6
  unfold chgB
  rw [List.length_cons, List.length_append]
  simp only [List.length_cons, List.length_nil] at hn
  omega
theorem entB_len {e : Ent} (h : RcIn (.ent e)) : (entB e).length ≤ 12617 := by
  obtain ⟨h1, h2, h3, h4, h6⟩ := h
  have hn := nums_len [e.1, e.2.1, e.2.2.1, e.2.2.2.1] (by
    intro n hn
    simp only [List.mem_cons, List.not_mem_nil, or_false] at hn
    rcases hn with rfl | rfl | rfl | rfl
    · exact Mb.i64.big h1
    · exact Mb.i64.big h2
    · exact Mb.i64.big h3
    · exact Mb.i64.big h4)
  have hm := msgB_len h6
  unfold entB
  rw [List.length_cons, List.length_append]
  simp only [List.length_cons, List.length_nil] at hn
  omega
theorem goneB_len : ∀ l : List Gn, (∀ g ∈ l, i64 g.1 ∧ i64 g.2) → (l.flatMap fun g => numsB [g.1, g.2]).length ≤ 48 * l.length
  | [], _ => Nat.zero_le _
  | g :: l, h => by
    have ih := goneB_len l fun x hx => h x (.tail _ hx)
    have h1 := h g (.head _)
    have hn := nums_len [g.1, g.2] (by
      intro n hn
      simp only [List.mem_cons, List.not_mem_nil, or_false] at hn
      rcases hn with rfl | rfl
      · exact Mb.i64.big h1.1
      · exact Mb.i64.big h1.2)
    rw [List.flatMap_cons, List.length_append, List.length_cons]
    simp only [List.length_cons, List.length_nil] at hn
    omega
theorem headB_len {nu ns hz : Int} {gs : List Gn} (h : RcIn (.head nu ns hz gs)) : (rcB (.head nu ns hz gs)).length ≤ 97 + 48 * gs.length := by
  obtain ⟨h1, h2, h3, h4, h5⟩ := h
  have hn := nums_len [nu, ns, hz, (gs.length : Int)] (by
    intro n hn
    simp only [List.mem_cons, List.not_mem_nil, or_false] at hn
    rcases hn with rfl | rfl | rfl | rfl
    · exact Mb.i64.big h1
    · exact Mb.i64.big h2
    · exact Mb.i64.big h3
    · omega)
  have hg := goneB_len gs h5
  unfold rcB headB
  rw [List.length_cons, List.length_append]
  simp only [List.length_cons, List.length_nil] at hn
  dsimp only at hn ⊢
  omega
theorem rc_len {r : Rc} (h : RcIn r) : (rcB r).length ≤ 20000 := by
  cases r with
  | chg c => have := chgB_len h; show (chgB c).length ≤ _; omega
  | ent e => have := entB_len h; show (entB e).length ≤ _; omega
  | head nu ns hz gs => have := headB_len h; have h4 := h.2.2.2.1; omega
/-- what a log takes -/
def logLen (l : List Rc) : Nat := (l.map fun r => (rcB r).length + 10).sum
theorem applied_in {b : Box} {c : Chg} (hg : Good b) (h : (applF b c).2.1 = 0) : RcIn (.chg c) := by
  unfold applF at h
  by_cases h1 : (chgF c).1 ≠ 0
  · rw [if_pos h1] at h; exact absurd h h1
  rw [if_neg h1] at h
  obtain ⟨_, hk, hs, hc, ht, ha, hn⟩ := chg_ok (Decidable.not_not.1 h1)
  split at h
  · cases h
  split at h
  · cases h
  split at h
  · cases h
  rename_i h4
  have hu : i64 c.2.1 := by
    by_cases h5 : c.1 = 1
    · rw [(ha h5).1]; exact ⟨by omega, by omega⟩
    · obtain ⟨hi, e⟩ := findI_get (fun x => h4 ⟨h5, x⟩)
      have := (hg.es _ (List.getElem_mem hi)).1
      have h6 := hg.nu
      rw [e] at this
      exact ⟨by omega, by omega⟩
  have hm : MsgIn c.2.2.2.2.2 := by
    by_cases h5 : c.1 = 1
    · obtain ⟨a, _, d⟩ := msg_ok (ha h5).2
      exact ⟨a, d⟩
    · rw [(hn h5).2]
      exact ⟨by decide, by decide⟩
  refine ⟨?_, hu, ⟨by omega, by omega⟩, ⟨by omega, by omega⟩, good_i64 ht, hm⟩
  rcases hk with hk | hk | hk <;> rw [hk] <;> exact ⟨by omega, by omega⟩
theorem box_in {b : Box} (h : Good b) : ∀ r ∈ boxC b, RcIn r := by
  intro r hr
  have hnu := h.nu; have hns := h.ns; have hhz := h.hz
  rcases List.mem_cons.1 hr with rfl | hr
  · refine ⟨⟨by omega, by omega⟩, ⟨by omega, by omega⟩, ⟨by omega, by omega⟩, h.lg, fun g hg => ?_⟩
    have := h.gs g hg
    exact ⟨⟨by omega, by omega⟩, ⟨by omega, by omega⟩⟩
  · rw [List.mem_map] at hr
    obtain ⟨e, he, rfl⟩ := hr
    obtain ⟨a, c, d, t, m⟩ := h.es e he
    obtain ⟨x, _, y⟩ := msg_ok m
    exact ⟨⟨by omega, by omega⟩, ⟨by omega, by omega⟩, ⟨by omega, by omega⟩, good_i64 t, x, y⟩
theorem runs_in : ∀ (l : List Chg) (b b' : Box), Runs b l b' → Good b → b.gs.length + l.length ≤ 400 → ∀ r ∈ l.map Rc.chg, RcIn r
  | [], _, _, _, _, _, r, hr => by cases hr
  | c :: l, b, b', h, hg, hl, r, hr => by
    rw [List.length_cons] at hl
    have h1 := appl_len h.1
    rw [List.map_cons] at hr
    rcases List.mem_cons.1 hr with rfl | hr
    · exact applied_in hg h.1
    · exact runs_in l _ b' h.2 (appl_good hg (by omega) h.1) (by omega) r hr
theorem logLen_append (a b : List Rc) : logLen (a ++ b) = logLen a + logLen b := by
  unfold logLen
  rw [List.map_append, List.sum_append]
theorem chgs_len : ∀ (l : List Chg), (∀ r ∈ l.map Rc.chg, RcIn r) → logLen (l.map .chg) ≤ 12651 * l.length
  | [], _ => Nat.zero_le _
  | c :: l, h => by
    have ih := chgs_len l fun r hr => h r (.tail _ hr)
    have h1 := chgB_len (h (.chg c) (.head _))
    unfold logLen at ih ⊢
    rw [List.map_cons, List.map_cons, List.sum_cons, List.length_cons]
    show (chgB c).length + 10 + _ ≤ _
    omega
theorem ents_len : ∀ (l : List Ent), (∀ r ∈ l.map Rc.ent, RcIn r) → logLen (l.map .ent) ≤ 12627 * l.length
  | [], _ => Nat.zero_le _
  | c :: l, h => by
    have ih := ents_len l fun r hr => h r (.tail _ hr)
    have h1 := entB_len (h (.ent c) (.head _))
    unfold logLen at ih ⊢
    rw [List.map_cons, List.map_cons, List.sum_cons, List.length_cons]
    show (entB c).length + 10 + _ ≤ _
    omega
theorem box_len {b : Box} (h : Good b) : logLen (boxC b) ≤ 107 + 48 * b.gs.length + 12627 * b.es.length := by
  have h1 := box_in h
  have h2 := ents_len b.es fun r hr => h1 r (.tail _ hr)
  have h3 := headB_len (h1 _ (.head _))
  unfold boxC logLen
  unfold logLen at h2
  rw [List.map_cons, List.sum_cons]
  omega
end Mb
end Go.Proofs.YtjamjkjmlckgeaaGreatDoor
namespace Go.Proofs.YtjamjkjmlckgeaaGreatDoor
namespace Mb
/-! ### what clients know -/
abbrev Seen := Int × Int
abbrev View := Int × List Seen
def knownB (s : Seen) : Bool := (decide (1 ≤ s.1) && decide (s.1 ≤ 1000000)) && (decide (0 ≤ s.2) && decide (s.2 ≤ 63))
def seenErr (l : List Seen) (i : Nat) : Int :=
  if knownB (l.getD i (0, 0)) = false then 3 else if 0 < i ∧ (l.getD i (0, 0)).1 ≤ (l.getD (i - 1) (0, 0)).1 then 19 else 0
def viewErr (v : View) : Int × Int :=
  if 600 < v.2.length then (2, -1) else if v.1 < 0 ∨ 1000000 < v.1 then (3, -1) else errGo (seenErr v.2) 0 v.2.length 0
def allV (b : Box) : List Seen := b.es.map fun e => (e.1, e.2.2.1)
def sinceC (b : Box) (seq : Int) : List Seen := (b.es.filter fun e => decide (seq ≤ e.2.1)).map fun e => (e.1, e.2.2.1)
def sinceG (b : Box) (seq : Int) : List Int := (b.gs.filter fun g => decide (seq ≤ g.2)).map (·.1)
def below (l : List Seen) (u : Int) : Nat := (l.takeWhile fun x => decide (x.1 < u)).length
def putS (l : List Seen) (s : Seen) : List Seen :=
  if (l.getD (below l s.1) (0, 0)).1 = s.1 ∧ below l s.1 < l.length then l.set (below l s.1) s else l.take (below l s.1) ++ s :: l.drop (below l s.1)
def updF (v : View) (ch : List Seen) (va : List Int) (seq : Int) : View := (seq, (ch.foldl putS v.2).filter fun s => !va.contains s.1)
/-- what a client sees that has caught up, and whether it began anew -/
def catchF (b : Box) (v : View) : View × Bool :=
  if b.hz < v.1 ∧ (viewErr (updF v (sinceC b v.1) (sinceG b v.1) b.ns)).1 = 0 then (updF v (sinceC b v.1) (sinceG b v.1) b.ns, false) else ((b.ns, allV b), true)
structure VGood (v : View) : Prop where
  len : v.2.length ≤ 600
  seq : 0 ≤ v.1 ∧ v.1 ≤ 1000000
  kn : ∀ s ∈ v.2, (1 ≤ s.1 ∧ s.1 ≤ 1000000) ∧ (0 ≤ s.2 ∧ s.2 ≤ 63)
  up : v.2.Pairwise fun x y => x.1 < y.1
def Rising (l : List Seen) : Prop := l.Pairwise fun x y => x.1 < y.1
theorem knownB_iff (s : Seen) : knownB s = true ↔ (1 ≤ s.1 ∧ s.1 ≤ 1000000) ∧ (0 ≤ s.2 ∧ s.2 ≤ 63) := by
  unfold knownB
  simp only [Bool.and_eq_true, decide_eq_true_eq]
theorem srise_get {l : List Seen} : (∀ i, 0 < i → i < l.length → (l.getD (i - 1) (0, 0)).1 < (l.getD i (0, 0)).1) ↔ Rising l := by
  unfold Rising
  constructor
  · intro h
    rw [List.pairwise_iff_getElem]
    intro i j hi hj hij
    induction j with
    | zero => omega
    | succ j ih =>
      have h1 := h (j + 1) (by omega) hj
      rw [gD _ (by omega), gD _ hj] at h1
      simp only [Nat.add_sub_cancel] at h1
      by_cases h2 : i = j
      · subst h2; exact h1
      · exact Int.lt_trans (ih (by omega) (by omega)) h1
  · intro h i h1 h2
    rw [List.pairwise_iff_getElem] at h
    rw [gD _ (by omega), gD _ h2]
    exact h (i - 1) i (by omega) h2 (by omega)
theorem viewErr_good {v : View} : (viewErr v).1 = 0 ↔ VGood v := by
  unfold viewErr
  by_cases h1 : 600 < v.2.length
  · rw [if_pos h1]
    exact ⟨fun h => (by cases h), fun h => absurd h.len (by omega)⟩
  rw [if_neg h1]
  by_cases h2 : v.1 < 0 ∨ 1000000 < v.1
  · rw [if_pos h2]
    exact ⟨fun h => (by cases h), fun h => absurd h.seq (by omega)⟩
  rw [if_neg h2, errGo_zero]
  have hs : ∀ i, i < v.2.length → (seenErr v.2 i = 0 ↔ knownB (v.2.getD i (0, 0)) = true ∧ (0 < i → (v.2.getD (i - 1) (0, 0)).1 < (v.2.getD i (0, 0)).1)) := by
    intro i hi
    unfold seenErr
    cases h3 : knownB (v.2.getD i (0, 0))
    · rw [if_pos rfl]
      exact ⟨fun h => (by cases h), fun h => (by cases h.1)⟩
    · rw [if_neg (by simp)]
      by_cases h4 : 0 < i ∧ (v.2.getD i (0, 0)).1 ≤ (v.2.getD (i - 1) (0, 0)).1
      · rw [if_pos h4]
        exact ⟨fun h => (by cases h), fun h => absurd (h.2 h4.1) (by omega)⟩
      · rw [if_neg h4]
        exact ⟨fun _ => ⟨rfl, fun h5 => by omega⟩, fun _ => rfl⟩
  constructor
  · intro h
    refine ⟨by omega, by omega, fun s hs' => ?_, srise_get.1 fun i h3 h4 => ((hs i h4).1 (h i (by omega) (by omega))).2 h3⟩
    obtain ⟨i, hi, rfl⟩ := List.getElem_of_mem hs'
    have := ((hs i hi).1 (h i (by omega) (by omega))).1
    rw [gD _ hi] at this
    exact (knownB_iff _).1 this
  · intro h i _ hi
    have hi : i < v.2.length := by omega
    refine (hs i hi).2 ⟨?_, fun h3 => srise_get.2 h.up i h3 hi⟩
    rw [gD _ hi]
    exact (knownB_iff _).2 (h.kn _ (List.getElem_mem hi))
theorem viewErr_pair {v : View} (h : (viewErr v).1 = 0) : viewErr v = (0, 0) := by
  unfold viewErr at h ⊢
  split at h
  · cases h
  rename_i h1
  rw [if_neg h1]
  split at h
  · cases h
  rename_i h2
  rw [if_neg h2]
  exact errGo_pair _ _ _ _ h
/-- the view of a client that knows everything -/
theorem view_of {b : Box} (h : Good b) : VGood (b.ns, allV b) := by
  have h1 := h.le; have h2 := h.ns; have h3 := h.nu
  refine ⟨?_, by dsimp only; omega, fun s hs => ?_, ?_⟩
  · show (b.es.map _).length ≤ 600
    rw [List.length_map]; omega
  · rw [show (b.ns, allV b).2 = b.es.map fun e => (e.1, e.2.2.1) from rfl, List.mem_map] at hs
    obtain ⟨e, he, rfl⟩ := hs
    have := h.es e he
    dsimp only
    omega
  · show (b.es.map _).Pairwise _
    rw [List.pairwise_map]
    exact h.up
theorem since_known {b : Box} (h : Good b) {seq : Int} : ∀ s ∈ sinceC b seq, (1 ≤ s.1 ∧ s.1 ≤ 1000000) ∧ (0 ≤ s.2 ∧ s.2 ≤ 63) := by
  intro s hs
  unfold sinceC at hs
  rw [List.mem_map] at hs
  obtain ⟨e, he, rfl⟩ := hs
  have := h.es e (List.mem_filter.1 he).1
  have := h.nu
  dsimp only
  omega
theorem since_len (b : Box) (seq : Int) : (sinceC b seq).length ≤ b.es.length ∧ (sinceG b seq).length ≤ b.gs.length := by
  unfold sinceC sinceG
  rw [List.length_map, List.length_map]
  exact ⟨List.length_filter_le _ _, List.length_filter_le _ _⟩
theorem below_le (l : List Seen) (u : Int) : below l u ≤ l.length := by
  unfold below
  exact (List.takeWhile_sublist _).length_le
theorem below_lt {l : List Seen} {u : Int} {i : Nat} (h : i < below l u) : (l[i]'(Nat.lt_of_lt_of_le h (below_le l u))).1 < u := by
  have h1 : l[i]'(Nat.lt_of_lt_of_le h (below_le l u)) ∈ l.takeWhile fun x => decide (x.1 < u) := by
    have h2 := List.takeWhile_prefix (l := l) fun x => decide (x.1 < u)
    rw [← h2.getElem h]
    exact List.getElem_mem _
  simpa using List.all_eq_true.1 (List.all_takeWhile (p := fun x : Seen => decide (x.1 < u)) (l := l)) _ h1
theorem below_at {l : List Seen} {u : Int} (h : below l u < l.length) : ¬ l[below l u].1 < u := by
  induction l with
  | nil => exact absurd h (by simp)
  | cons x l ih =>
    unfold below at h ⊢
    rw [List.takeWhile_cons] at h
    by_cases h1 : x.1 < u
    · simp only [h1, decide_true, if_true, List.length_cons] at h
      have := ih (by unfold below; omega)
      simp only [List.takeWhile_cons, h1, decide_true, if_true, List.length_cons, List.getElem_cons_succ]
      exact this
    · simp only [List.takeWhile_cons, h1, decide_false, if_false, List.length_nil, List.getElem_cons_zero, Bool.false_eq_true]
      exact fun h => h
theorem below_up {l : List Seen} (hl : Rising l) {u : Int} {i : Nat} (h : below l u ≤ i) (hi : i < l.length) : ¬ l[i].1 < u := by
  have h1 := below_at (u := u) (Nat.lt_of_le_of_lt h hi)
  by_cases h2 : below l u = i
  · simp only [h2] at h1; exact h1
  · have := List.pairwise_iff_getElem.1 hl (below l u) i (by omega) hi (by omega)
    omega
theorem putS_len (l : List Seen) (s : Seen) : (putS l s).length ≤ l.length + 1 := by
  unfold putS
  split
  · rw [List.length_set]; omega
  · have := below_le l s.1
    rw [List.length_append, List.length_take, List.length_cons, List.length_drop]
    omega
theorem putS_rising {l : List Seen} (hl : Rising l) (s : Seen) : Rising (putS l s) := by
  unfold putS
  have hu := List.pairwise_iff_getElem.1 hl
  by_cases h : (l.getD (below l s.1) (0, 0)).1 = s.1 ∧ below l s.1 < l.length
  · rw [if_pos h]
    obtain ⟨h1, h2⟩ := h
    rw [gD _ h2] at h1
    unfold Rising
    rw [List.pairwise_iff_getElem]
    intro j k hj hk hjk
    rw [List.length_set] at hj hk
    have h7 := hu j k hj hk hjk
    simp only [List.getElem_set]
    split
    · rename_i h8
      rw [if_neg (by omega)]
      have := hu (below l s.1) k h2 hk (by omega)
      omega
    · split
      · rename_i h8
        have := hu j (below l s.1) hj h2 (by omega)
        omega
      · exact h7
  · rw [if_neg h]
    unfold Rising
    rw [List.pairwise_append, List.pairwise_cons]
    refine ⟨hl.sublist (List.take_sublist _ _), ⟨?_, hl.sublist (List.drop_sublist _ _)⟩, ?_⟩
    · intro y hy
      rw [List.mem_drop_iff_getElem] at hy
      obtain ⟨j, hj, rfl⟩ := hy
      have h1 := below_up hl (u := s.1) (i := below l s.1 + j) (by omega) (by omega)
      by_cases h2 : s.1 < l[below l s.1 + j].1
      · exact h2
      · exfalso
        have h3 : l[below l s.1 + j].1 = s.1 := by omega
        by_cases h4 : j = 0
        · subst h4
          exact h ⟨by rw [gD _ (by omega)]; exact h3, by omega⟩
        · have h5 := hu (below l s.1) (below l s.1 + j) (by omega) (by omega) (by omega)
          have h6 := below_up hl (u := s.1) (i := below l s.1) (by omega) (by omega)
          omega
    · intro x hx y hy
      rw [List.mem_take_iff_getElem] at hx
      obtain ⟨i, hi, rfl⟩ := hx
      have h1 := below_lt (l := l) (u := s.1) (i := i) (by omega)
      rcases List.mem_cons.1 hy with rfl | hy
      · exact h1
      · rw [List.mem_drop_iff_getElem] at hy
        obtain ⟨j, hj, rfl⟩ := hy
        exact hu i (below l s.1 + j) (by omega) (by omega) (by omega)
theorem puts_rising : ∀ (ch l : List Seen), Rising l → Rising (ch.foldl putS l)
  | [], _, h => h
  | s :: ch, _, h => puts_rising ch _ (putS_rising h s)
theorem puts_len : ∀ (ch l : List Seen), (ch.foldl putS l).length ≤ l.length + ch.length
  | [], _ => Nat.le_refl _
  | s :: ch, l => by
    have h1 := puts_len ch (putS l s)
    have h2 := putS_len l s
    rw [List.foldl_cons, List.length_cons]
    omega
end Mb
end Go.Proofs.YtjamjkjmlckgeaaGreatDoor
namespace Go.Proofs.YtjamjkjmlckgeaaGreatDoor
open Go.RowKit

theorem next_ok (g : Nat) (t : TypeId) (c0 c2 c3 c4 : Value) (ns : Int) (hn : 0 ≤ ns ∧ ns ≤ 1000000) (w : World) (h : Blk w g t #[c0, .int .i64 ns, c2, c3, c4]) : Calls Tryz.prog 59 #[.pointer (some ⟨g, 0, none⟩)] w fun e w' => e = .returned (.int .i64 ns) ∧ w' = w.setCell ⟨g, 1, none⟩ (.int .i64 (ns + 1)) := by
  have q1 := h.cell 1
  have f1 := h.frozen 1
  have hl := h.lt
  have k2 := (h.set_ 1 (.int .i64 (ns + 1))).cell 1
  go_enter Tryz.func59, Tryz.ntmps59
  go_wp2
  go_ret
  exact ⟨by simp, rfl⟩
theorem known_ok (s : Mb.Seen) (w : World) : Calls Tryz.prog 64 #[.agg #[.int .i64 s.1, .int .i64 s.2]] w fun e w' => e = .returned (.bool (Mb.knownB s)) ∧ Below w.heap.size w w' := by
  obtain ⟨t1, e1⟩ : ∃ t, decide (1 ≤ s.1) = t := ⟨_, rfl⟩
  obtain ⟨t2, e2⟩ : ∃ t, decide (s.1 ≤ 1000000) = t := ⟨_, rfl⟩
  obtain ⟨t3, e3⟩ : ∃ t, decide (0 ≤ s.2) = t := ⟨_, rfl⟩
  obtain ⟨t4, e4⟩ : ∃ t, decide (s.2 ≤ 63) = t := ⟨_, rfl⟩
  have HK := Lib.hid (show Mb.knownB s = ((t1 && t2) && (t3 && t4)) by unfold Mb.knownB; rw [e1, e2, e3, e4])
  cases t1 <;> cases t2 <;> cases t3 <;> cases t4
  all_goals
    go_enter Tryz.func64, Tryz.ntmps64
    go_wp2
    go_ret
    exact ⟨by rw [HK.out]; rfl, (Below.refl _ _).alloc (Nat.le_refl _) _⟩
end Go.Proofs.YtjamjkjmlckgeaaGreatDoor
namespace Go.Proofs.YtjamjkjmlckgeaaGreatDoor
/-- a letter: its Id, its Refs, its At -/
abbrev Letter := Str × List Str × Int
namespace Th
def earlier (a b : Letter) : Bool := decide (a.2.2 < b.2.2) || (decide (a.2.2 = b.2.2) && ltS a.1 b.1)
def ordF (a b : Letter) : Int := if a.2.2 < b.2.2 then -1 else if b.2.2 < a.2.2 then 1 else Lib.compareBytes a.1 b.1
theorem ord_lt (a b : Letter) : decide (ordF a b < 0) = earlier a b := by
  unfold ordF earlier
  by_cases h1 : a.2.2 < b.2.2
  · simp [h1]
  · by_cases h2 : b.2.2 < a.2.2
    · have : ¬ a.2.2 = b.2.2 := by omega
      simp [h1, h2, this]
    · have : a.2.2 = b.2.2 := by omega
      rw [if_neg h1, if_neg h2, cmp_eqS]
      cases hl : ltS a.1 b.1
      · by_cases he : a.1 = b.1
        · simp [he, h1]
        · simp [he]; omega
      · simp [this]
theorem ord_or (a b : Letter) : ordF a b = if (if a.2.2 < b.2.2 then (-1 : Int) else if b.2.2 < a.2.2 then 1 else 0) ≠ 0 then (if a.2.2 < b.2.2 then (-1 : Int) else if b.2.2 < a.2.2 then 1 else 0) else Lib.compareBytes a.1 b.1 := by
  unfold ordF
  by_cases h1 : a.2.2 < b.2.2
  · simp [h1]
  · by_cases h2 : b.2.2 < a.2.2
    · simp [h1, h2]
    · simp [h1, h2]
/-- the code of the error of a letter behind others -/
def errOf (pre : List Letter) (x : Letter) : Int :=
  if x.1 = [] ∨ 200 < x.1.length then 10
  else if ¬ (-68719476736 ≤ x.2.2 ∧ x.2.2 ≤ 68719476736) then 3
  else if 30 < x.2.1.length then 2
  else if pre.any (fun y => y.1 == x.1) then 7 else 0
def faultGo (l : List Letter) : Nat → Nat → Int × Int
  | 0, _ => (0, 0)
  | f + 1, k => match l[k]? with
    | none => (0, 0)
    | some x => if errOf (l.take k) x = 0 then faultGo l f (k + 1) else (errOf (l.take k) x, (k : Int))
def lettersF (l : List Letter) : Int × Int := if 300 < l.length then (2, -1) else faultGo l l.length 0
/-- the last letter of an Id -/
def lastOf : List Letter → Str → Option Nat
  | [], _ => none
  | x :: l, r => match lastOf l r with
    | some k => some (k + 1)
    | none => if x.1 == r then some 0 else none
/-- a reference: the letter that it names, if it is earlier -/
def refTo (l : List Letter) (x : Letter) (r : Str) : Option Nat := match lastOf l r with
  | some k => if (l[k]?.map fun y => earlier y x) = some true then some k else none
  | none => none
def pickO (o : Option Nat) (p : Int) : Int := match o with | some k => (k : Int) | none => p
def parentOf (l : List Letter) (x : Letter) : Int := x.2.1.foldl (fun p r => pickO (refTo l x r) p) (-1)
def parentsF (l : List Letter) : List Int := l.map (parentOf l)
end Th
end Go.Proofs.YtjamjkjmlckgeaaGreatDoor
