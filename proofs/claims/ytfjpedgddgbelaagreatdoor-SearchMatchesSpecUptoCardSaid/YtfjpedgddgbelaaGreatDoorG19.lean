/-
  Contracts and plain facts, one after another: Words made of letters: a word of a text is its only word; what a text must be like to be a word; plain; query.word, query.words; A region that draws: where several operations are ready, each is taken in its turn; query.node: the code of a node's error.
-/
import Derived.Test.YtfjpedgddgbelaaGreatDoorG17
import Derived.Test.YtfjpedgddgbelaaGreatDoorG18
import Derived.Test.YtfjpedgddgbelaaGreatDoorG7
import Derived.Test.YtfjpedgddgbelaaGreatDoorShelf
import Derived.Test.YtfjpedgddgbelaaGreatDoorG5
import Derived.Lib.ValidLaws
import Derived.Lib.TrimUEq
namespace Go.Proofs.YtfjpedgddgbelaaGreatDoor
set_option linter.unusedVariables false
namespace Sm
open Go.Lib
theorem raw_len {s x : List UInt8} (hx : x ∈ rawWords s) : x.length ≤ s.length := by
  have h := (words_sum s.length [] s (Nat.le_refl _)).1
  have : ∀ (l : List Nat) (n : Nat), n ∈ l → n ≤ l.sum := by
    intro l
    induction l with
    | nil => intro n hn; cases hn
    | cons a l ih => intro n hn; rw [List.sum_cons]; rcases List.mem_cons.1 hn with e | e; · omega
                     · have := ih n e; omega
  have := this _ _ (List.mem_map_of_mem (f := List.length) hx)
  unfold rawWords at this
  unfold wordsFrom at h
  simp only [List.length_nil] at h
  omega
theorem encs_ne {zs : List Nat} (h : zs ≠ []) : encs zs ≠ [] := by
  intro e
  match zs, h with
  | z :: zs, _ =>
    rw [encs_cons] at e
    exact encodeRune_ne _ (List.append_eq_nil_iff.1 e).1
theorem raw_self {zs : List Nat} (hne : zs ≠ []) (h : ∀ r ∈ zs, LetR r) : rawWords (encs zs) = [encs zs] := by
  have h1 := raw_join [zs] fun x hx => by simp at hx; subst hx; exact ⟨hne, h⟩
  have h2 := wordsFrom_sep 32 (by decide) isL_space [] _ [] (encs zs) (Nat.le_refl _)
  rw [List.flatMap_cons, List.flatMap_nil, List.append_nil] at h1
  rw [h1, wordsFrom_nil, if_pos rfl, List.append_nil] at h2
  exact h2.symm
theorem words_form {zs : List Nat} (hne : zs ≠ []) (h : ∀ r ∈ zs, LetR r) : words (encs zs) = [lower (encs zs)] := by
  unfold words
  rw [raw_self hne h]; rfl
/-- the letters of a word, in lower case -/
def Low (zs : List Nat) : Prop := zs ≠ [] ∧ ∀ r ∈ zs, LetR r ∧ lowN r = r
theorem Low.lower {zs : List Nat} (h : Low zs) : lower (encs zs) = encs zs := by
  rw [lower_encs zs fun r hr => (h.2 r hr).1]
  congr 1
  have : zs.map lowN = zs.map id := List.map_congr_left fun r hr => (h.2 r hr).2
  rw [this, List.map_id]
theorem Low.words {zs : List Nat} (h : Low zs) : Sm.words (encs zs) = [encs zs] := by
  rw [words_form h.1 fun r hr => (h.2 r hr).1, h.lower]
theorem word_low {s x : List UInt8} (hx : x ∈ words s) : ∃ zs, x = encs zs ∧ Low zs := by
  unfold words at hx
  obtain ⟨y, hy, rfl⟩ := List.mem_map.1 hx
  obtain ⟨rs, e, h⟩ := words_encs s.length [] s (Nat.le_refl _) (fun r hr => by cases hr) y hy
  have hne : rs ≠ [] := fun e' => by
    have := (words_sum s.length [] s (Nat.le_refl _)).2 y hy
    subst e'
    exact this e
  subst e
  refine ⟨rs.map lowN, lower_encs rs h, by simpa using hne, fun r hr => ?_⟩
  obtain ⟨r0, hr0, rfl⟩ := List.mem_map.1 hr
  exact ⟨(lowN_good (h r0 hr0)).2.1, (lowN_good (h r0 hr0)).2.2⟩
theorem word_self {s x : List UInt8} (hx : x ∈ words s) : words x = [x] := by
  obtain ⟨zs, rfl, h⟩ := word_low hx
  exact h.words
theorem no_space {zs : List Nat} (h : ∀ r ∈ zs, LetR r) : (32 : UInt8) ∉ encs zs := by
  intro hm
  have hne : zs ≠ [] := by rintro rfl; cases hm
  obtain ⟨a, b, e⟩ := List.append_of_mem hm
  have h1 := raw_self hne h
  have h2 := wordsFrom_sep 32 (by decide) isL_space b _ [] a (Nat.le_refl _)
  rw [e] at h1
  have h3 : rawWords (a ++ 32 :: b) = rawWords a ++ rawWords b := h2
  rw [h3] at h1
  have hx : a ++ 32 :: b ∈ rawWords a ++ rawWords b := by rw [h1]; exact .head _
  have hl : (a ++ (32 : UInt8) :: b).length = a.length + b.length + 1 := by simp; omega
  rcases List.mem_append.1 hx with hx | hx
  · have := raw_len hx; omega
  · have := raw_len hx; omega
/-- all characters are letters -/
def alphaGo : Nat → List UInt8 → Bool
  | 0, _ => true
  | n + 1, l => if l = [] then true else isL (decodeL l).1 && alphaGo n (l.drop (decodeL l).2)
def alpha (l : List UInt8) : Bool := alphaGo l.length l
theorem alpha_encs : ∀ (n : Nat) (l : List UInt8), l.length ≤ n → alphaGo n l = true → ∃ zs, l = encs zs ∧ ∀ r ∈ zs, LetR r
  | 0, l, hl, _ => ⟨[], by rw [List.eq_nil_of_length_eq_zero (by omega : l.length = 0)]; rfl, fun r hr => by cases hr⟩
  | n + 1, l, hl, h => by
    by_cases hne : l = []
    · subst hne; exact ⟨[], rfl, fun r hr => by cases hr⟩
    · rw [alphaGo, if_neg hne, Bool.and_eq_true] at h
      have hb : (decodeL l).1 ≠ 65533 := fun e => by have := h.1; rw [e, isL_bad'] at this; cases this
      obtain ⟨hv, he⟩ := decode_encode l hne hb
      have hw := decodeL_width l
      obtain ⟨zs, e, hz⟩ := alpha_encs n (l.drop (decodeL l).2) (by rw [List.length_drop]; omega) h.2
      refine ⟨(decodeL l).1 :: zs, ?_, fun r hr => ?_⟩
      · rw [encs_cons, ← he, ← e, List.take_append_drop]
      · rcases List.mem_cons.1 hr with rfl | hr
        · exact ⟨hv, h.1⟩
        · exact hz r hr
theorem encs_alpha : ∀ (n : Nat) (zs : List Nat), (∀ r ∈ zs, LetR r) → alphaGo n (encs zs) = true
  | 0, _, _ => rfl
  | n + 1, [], _ => by rw [alphaGo, if_pos (show encs [] = [] from rfl)]
  | n + 1, z :: zs, h => by
    have hz := h z (.head _)
    have hd := encode_decode z hz.1 (encs zs)
    rw [alphaGo, if_neg (encs_ne (by simp)), encs_cons, hd]
    simp only [hz.2, Bool.true_and, List.drop_left]
    exact encs_alpha n zs fun r hr => h r (.tail _ hr)
/-- what a word in lower case is -/
theorem words_iff (s : List UInt8) : words s = [s] ↔ s ≠ [] ∧ alpha s = true ∧ lower s = s := by
  constructor
  · intro h
    obtain ⟨zs, rfl, hz⟩ := word_low (s := s) (x := s) (by rw [h]; exact .head _)
    exact ⟨encs_ne hz.1, encs_alpha _ zs fun r hr => (hz.2 r hr).1, hz.lower⟩
  · rintro ⟨h1, h2, h3⟩
    obtain ⟨zs, e, hz⟩ := alpha_encs _ s (Nat.le_refl _) h2
    subst e
    have hne : zs ≠ [] := by rintro rfl; exact h1 rfl
    rw [words_form hne hz, h3]
theorem valid_alpha : ∀ (n : Nat) (l : List UInt8), alphaGo n l = true → validGoD n l = true
  | 0, _, _ => rfl
  | n + 1, l, h => by
    rw [alphaGo] at h
    rw [validGoD]
    split
    · rfl
    · rename_i hne
      rw [if_neg hne, Bool.and_eq_true] at h
      have hb : ¬ ((decodeL l).1 = 65533 ∧ (decodeL l).2 = 1) := fun e => by have := h.1; rw [e.1, isL_bad'] at this; cases this
      rw [if_neg hb]
      exact valid_alpha n _ h.2
theorem az_ok : ((List.range 128).all fun r => !(decide (97 ≤ r) && decide (r ≤ 122)) || (isL2 r && decide (lower2 r = (r : Int)))) = true := by decide +kernel
theorem az_char {c : UInt8} (h : 97 ≤ c ∧ c ≤ 122) : isL c.toNat = true ∧ lowC c.toNat = [c] := by
  have h1 : 97 ≤ c.toNat := UInt8.le_iff_toNat_le.1 h.1
  have h2 : c.toNat ≤ 122 := UInt8.le_iff_toNat_le.1 h.2
  have hk := List.all_eq_true.1 az_ok c.toNat (List.mem_range.2 (by omega))
  have e : (decide (97 ≤ c.toNat) && decide (c.toNat ≤ 122)) = true := by simp [h1, h2]
  rw [e, Bool.not_true, Bool.false_or, Bool.and_eq_true, decide_eq_true_eq] at hk
  refine ⟨by rw [isL_eq _ (by omega)]; exact hk.1, ?_⟩
  unfold lowC
  rw [lower_eq, hk.2]
  have hd := decode_ascii' c [] (by omega)
  have := (decode_encode [c] (by simp) (by rw [hd]; show c.toNat ≠ 65533; omega)).2
  rw [hd] at this
  exact this.symm
theorem az_alpha : ∀ (n : Nat) (s : List UInt8), Sm.letters s = true → alphaGo n s = true ∧ lowGo n s = s.take n
  | 0, s, _ => ⟨rfl, by simp [lowGo]⟩
  | n + 1, [], _ => ⟨by rw [alphaGo, if_pos rfl], by simp [lowGo]⟩
  | n + 1, c :: t, h => by
    have hc : 97 ≤ c ∧ c ≤ 122 := by
      unfold Sm.letters at h
      rw [List.all_cons, Bool.and_eq_true, Bool.and_eq_true, decide_eq_true_eq, decide_eq_true_eq] at h
      exact h.1
    have ht : Sm.letters t = true := by
      unfold Sm.letters at h ⊢
      rw [List.all_cons, Bool.and_eq_true] at h
      exact h.2
    have h1 : c.toNat < 128 := by have := UInt8.le_iff_toNat_le.1 hc.2; have e : (122 : UInt8).toNat = 122 := rfl; omega
    obtain ⟨g1, g2⟩ := az_char hc
    obtain ⟨i1, i2⟩ := az_alpha n t ht
    have hd := decode_ascii' c t h1
    refine ⟨?_, ?_⟩
    · rw [alphaGo, if_neg (by simp), hd]
      simp only [g1, Bool.true_and]
      exact i1
    · rw [lowGo, if_neg (by simp), hd]
      simp only [g2]
      rw [show List.drop 1 (c :: t) = t from rfl, i2]; rfl
theorem az_words {s : List UInt8} (hne : s ≠ []) (h : Sm.letters s = true) : words s = [s] := by
  rw [words_iff]
  refine ⟨hne, (az_alpha _ s h).1, ?_⟩
  have := (az_alpha s.length s h).2
  rw [List.take_length] at this
  exact this
/-- the stem of a word is a word -/
theorem stem_words {x : List UInt8} (h : words x = [x]) : words (stem x) = [stem x] := by
  unfold stem
  split
  · rename_i hl
    have hne := ((words_iff x).1 h).1
    exact az_words (rounds_ne _ _ hne) (rounds_letters _ _ hl.1)
  · exact h
end Sm
end Go.Proofs.YtfjpedgddgbelaaGreatDoor
namespace Go.Proofs.YtfjpedgddgbelaaGreatDoor
open Go.RowKit
set_option linter.unusedVariables false
theorem notLetter_ok (x : Nat) (hx : x ≤ 1114111) (w : World) (hT : TabsU w) : Calls Tryz.prog 224 #[.int .i32 (x : Int)] w fun e w' => e = .returned (.bool (!Sm.isL x)) ∧ Below w.heap.size w w' := by
  have h := chLetter_ok x hx w hT
  obtain ⟨b, hb⟩ : ∃ b, Sm.isL x = b := ⟨_, rfl⟩
  rw [hb] at h ⊢
  have H := Lib.hid h
  clear h hb hT
  go_enter Tryz.func224, Tryz.ntmps224
  go_wp2_with fail
  refine H.out.mono ?_
  rintro e w1 ⟨rfl, hb1⟩
  go_wp2
  go_ret
  exact ⟨rfl, hb1⟩
theorem idx_alpha (s : ByteArray) : ∀ (f pos : Nat), Lib.idxFuncFrom (fun r => !Sm.isL r) true s f pos = -1 ↔ Sm.alphaGo f (s.data.toList.drop pos) = true
  | 0, pos => by simp [Lib.idxFuncFrom, Sm.alphaGo]
  | f + 1, pos => by
    have hd := Lib.decodeL_drop s pos
    rw [Lib.idxFuncFrom, Sm.alphaGo]
    by_cases hp : pos < s.size
    · have hne : s.data.toList.drop pos ≠ [] := fun e => by
        have := congrArg List.length e
        rw [List.length_drop, Array.length_toList] at this
        have h2 : s.data.size = s.size := rfl
        simp at this; omega
      rw [if_pos hp, if_neg hne, hd]
      by_cases hl : Sm.isL (Utf8.decode s pos).1 = true
      · rw [if_neg (by rw [hl]; decide), hl, Bool.true_and, idx_alpha s f, List.drop_drop]
      · have hl' : Sm.isL (Utf8.decode s pos).1 = false := by simpa using hl
        rw [if_pos (by rw [hl']; rfl), hl', Bool.false_and]
        simp
    · have he : s.data.toList.drop pos = [] := List.drop_eq_nil_of_le (by rw [Array.length_toList]; exact Nat.le_of_not_lt hp)
      rw [if_neg hp, if_pos he]; simp
theorem idx_word (s : Str) : (Lib.idxFunc (fun r => !Sm.isL r) true (bs s) < 0) ↔ Sm.alpha s = true := by
  have h := idx_alpha (bs s) (bs s).size 0
  have hr := Lib.idxFunc_range (fun r => !Sm.isL r) true (bs s)
  unfold Lib.idxFunc at hr ⊢
  have e : (bs s).data.toList.drop 0 = s := by simp [bs]
  have e2 : (bs s).size = s.length := by simp
  rw [e, e2] at h
  rw [e2] at hr ⊢
  unfold Sm.alpha
  rw [← h]
  rcases hr with hr | hr
  · rw [hr]; simp
  · constructor
    · intro h; omega
    · intro h; omega
theorem wordOk_iff (s : Str) : Q.wordOk s = (decide (s.length ≤ 8000) && (decide (s ≠ []) && (Sm.alpha s && (Sm.lower s == s)))) := by
  unfold Q.wordOk
  congr 1
  rw [Bool.eq_iff_iff, beq_iff_eq, Sm.words_iff]
  simp
theorem valid_word {s : Str} (h : Sm.alpha s = true) : Lib.validD s = true := Sm.valid_alpha _ _ h
set_option maxRecDepth 100000 in
set_option maxHeartbeats 4000000 in
theorem word_ok (s : Str) (w : World) (hs : s.length ≤ 4000000) (hT : TabsU w) : Calls Tryz.prog 179 #[.string (bs s)] w fun e w' => e = .returned (.bool (Q.wordOk s)) ∧ Below w.heap.size w w' := by
  rw [wordOk_iff]
  by_cases h0 : s = []
  · subst h0
    go_enter Tryz.func179, Tryz.ntmps179
    go_wp2_with fail
    go_ret
    exact ⟨by simp, Below.refl _ _⟩
  have e0 : (s == []) = false := by rw [beq_eq_false_iff_ne]; exact h0
  have e0' : decide (s ≠ []) = true := decide_eq_true h0
  rw [e0', Bool.true_and]
  by_cases h1 : 8000 < s.length
  · have hi : (8000 : Int) < (s.length : Int) := by omega
    have e1 : decide (s.length ≤ 8000) = false := decide_eq_false (by omega)
    rw [e1, Bool.false_and]
    go_enter Tryz.func179, Tryz.ntmps179
    go_wp2_with fail
    go_ret
    exact ⟨rfl, Below.refl _ _⟩
  have hi : ¬ (8000 : Int) < (s.length : Int) := by omega
  have e1 : decide (s.length ≤ 8000) = true := decide_eq_true (by omega)
  rw [e1, Bool.true_and]
  have hval := Tryz.utf8_ValidString (bs s) w (by simp; omega) hT.u8
  have hbs : (bs s).data.toList = s := by simp [bs]
  rw [hbs] at hval
  have hix := fun W (hb : Below w.heap.size w W) => Tryz.strings_IndexFunc_grows 224 #[] (fun args w => enters_of Tryz.func224 (by kernel_rfl) rfl args w) (fun r => !Sm.isL r) (bs s) W (fun V x hx hbV => by
    have := notLetter_ok x hx V (hT.ext (hb.trans (hbV.mono hb.size)))
    simpa using this)
  have hlo := fun W (hb : Below w.heap.size w W) => stemLower_ok s hs W (hT.ext hb)
  have hia := idx_word s
  have hva : Sm.alpha s = true → Lib.validD s = true := valid_word
  obtain ⟨vd, hvd⟩ : ∃ b, Lib.validD s = b := ⟨_, rfl⟩
  obtain ⟨al, hal⟩ : ∃ b, Sm.alpha s = b := ⟨_, rfl⟩
  obtain ⟨ix, hx⟩ : ∃ b, Lib.idxFunc (fun r => !Sm.isL r) true (bs s) = b := ⟨_, rfl⟩
  obtain ⟨lo, hl⟩ : ∃ b, Sm.lower s = b := ⟨_, rfl⟩
  rw [hvd] at hval hva
  rw [hal] at hia hva ⊢
  rw [hx] at hia
  simp only [hx] at hix
  rw [hl] at hlo ⊢
  have Hval := Lib.hid hval; have Hix := Lib.hid hix; have Hlo := Lib.hid hlo; have Hia := Lib.hid hia; have Hva := Lib.hid hva
  clear hval hix hlo hia hva hvd hal hx hl hbs e0' e1 hT
  go_enter Tryz.func179, Tryz.ntmps179
  go_wp2_with fail
  refine Hval.out.mono ?_
  rintro e w1 ⟨rfl, hb1⟩
  cases vd with
  | false =>
    go_wp2_with fail
    go_ret
    have : al = false := by
      cases al with
      | false => rfl
      | true => have := Hva.out rfl; cases this
    subst this
    exact ⟨rfl, hb1⟩
  | true =>
    go_wp2_with fail
    refine (Hix.out w1 hb1).mono ?_
    rintro e w2 ⟨rfl, hb2⟩
    have hb12 := hb1.trans (hb2.mono hb1.size)
    by_cases hneg : ix < 0
    · have ha := Hia.out.1 hneg
      subst ha
      go_wp2_with fail
      refine (Hlo.out w2 hb12).mono ?_
      rintro e w3 ⟨rfl, hb3⟩
      go_wp2_with fail
      go_ret
      exact ⟨by simp, hb12.trans (hb3.mono hb12.size)⟩
    · have ha : al = false := by
        cases al with
        | false => rfl
        | true => exact absurd (Hia.out.2 rfl) hneg
      subst ha
      go_wp2_with fail
      go_ret
      exact ⟨rfl, hb12⟩
/-- the words of a text, as the code finds them -/
def WordsAt (s : Str) (w : World) : Prop := Calls Tryz.prog 137 #[.string (bs s)] w fun e w' => ∃ A n c, e = .returned (.tuple #[.slice A n c, .bool ((splitS s).all Q.wordOk)]) ∧ ((splitS s).all Q.wordOk = true → n = (splitS s).length ∧ SlR strC M0 w' (.slice A n c) (splitS s)) ∧ Below w.heap.size w w'
theorem all_snoc (p : Str → Bool) (l : List Str) {k : Nat} (hk : k < l.length) : (l.take (k + 1)).all p = ((l.take k).all p && p l[k]) := by
  rw [List.take_succ_eq_append_getElem hk, List.all_append]; simp
set_option maxRecDepth 100000 in
set_option maxHeartbeats 4000000 in
theorem words_ok (s : Str) (w : World) (hs : s.length ≤ 4000000) (hT : TabsU w) : WordsAt s w := by
  have hsp := split_ok M0 s w hs (fun b h => h.elim)
  have hmem := splitS_mem s
  unfold WordsAt
  obtain ⟨l, hl⟩ : ∃ l, splitS s = l := ⟨_, rfl⟩
  rw [hl] at hsp hmem ⊢
  have Hsp := Lib.hid hsp; have HT := Lib.hid hT; have Hmem := Lib.hid hmem
  clear hsp hT hmem hl
  go_enter Tryz.func137, Tryz.ntmps137
  go_wp2_with fail
  refine Hsp.out.mono ?_
  rintro e w1 ⟨v, rfl, hown, hb1⟩
  have hr := hown.read0
  obtain ⟨A, c, rfl, _, _⟩ := hr.form
  obtain ⟨hlc, hcm⟩ := hr.lenM
  go_wp2_with fail
  go_loopw [11] (fun i wr => ∃ k : Nat, k ≤ l.length ∧ i = .int .i64 k ∧ Hid ((l.take k).all Q.wordOk = true) ∧ Below w1.heap.size w1 wr) (fun i _ => l.length - (intOf i).toNat)
  case atStart => exact ⟨0, Nat.zero_le _, rfl, Lib.hid rfl, Below.refl _ _⟩
  case round =>
    obtain ⟨k, hk, rfl, hall, hb⟩ := hrel
    by_cases hlt : k < l.length
    · have hx1 := hr.ext hb
      obtain ⟨b, off, rfl, _, _, q0, hl1⟩ := hx1.strAt hlt
      have hst := all_snoc Q.wordOk l hlt
      have hm := (Hmem.out _ (List.getElem_mem hlt)).2
      obtain ⟨x, hx⟩ : ∃ x, x = l[k] := ⟨_, rfl⟩
      rw [← hx] at q0 hl1 hst hm
      have hb1r := hb1.trans (hb.mono hb1.size)
      have hc := word_ok x wr (by omega) (HT.out.ext hb1r)
      obtain ⟨t, ht⟩ : ∃ t, Q.wordOk x = t := ⟨_, rfl⟩
      rw [ht] at hc hst
      have Hc := Lib.hid hc; have Hst := Lib.hid hst; have Hx := Lib.hid hx; have Ht := Lib.hid ht
      clear hc hst hx ht hx1 hm
      go_wp2_with fail
      refine Hc.out.mono ?_
      rintro e w2 ⟨rfl, hb2⟩
      have hb12 := hb.trans (hb2.mono hb.size)
      cases t with
      | true =>
        go_wp2_with fail
        go_roundw
        case rel => exact ⟨k + 1, by omega, by go_num, Lib.hid (by rw [Hst.out, hall.out]; rfl), hb12⟩
        case measure => simp [intOf]; omega
      | false =>
        have hf : l.all Q.wordOk = false := by
          rw [List.all_eq_false]
          exact ⟨x, by rw [Hx.out]; exact List.getElem_mem hlt, by rw [Ht.out]; simp⟩
        go_wp2_with fail
        refine bodyPost_ret (v := .tuple #[.slice none 0 0, .bool (l.all Q.wordOk)]) (by simp [results, Tryz.results137, go_sem, hf]) rfl ⟨_, _, _, rfl, fun h => ?_, hb1.trans (hb12.mono hb1.size)⟩
        rw [hf] at h; cases h
    · obtain rfl : k = l.length := by omega
      have hf : l.all Q.wordOk = true := by have := hall.out; rwa [List.take_length] at this
      go_wp2_with fail
      exact bodyPost_ret (v := .tuple #[.slice A l.length c, .bool (l.all Q.wordOk)]) (by simp [results, Tryz.results137, go_sem, hf]) rfl ⟨_, _, _, rfl, fun _ => ⟨rfl, hr.ext hb⟩, hb1.trans (hb.mono hb1.size)⟩
end Go.Proofs.YtfjpedgddgbelaaGreatDoor
namespace Go.Proofs.YtfjpedgddgbelaaGreatDoor
open Go.RowKit
section
variable {P : Program} {Q : Exit → Act → World → Prop} {ops : Array Oper} {md : Region.Mode} {S : World → Prop} {D : Nat → Bool}
theorem anyD_pick {fuel : Nat} {listed : Array Bool} {a : Act} {w : World} (l : List Nat) (hr : Region.ready md ops listed = l) (hne : l ≠ [])
    (h : ∀ j ∈ l, ∃ o, ops[j]? = some o ∧ o.guard = none ∧ ∀ K : Act → World → Prop, (∀ a w, (D j = false → S w) → anyD P md ops Q S D fuel (listed.setIfInBounds j true) a w → K a w) → o.wp P a w K Q) : anyD P md ops Q S D (fuel + 1) listed a w := by
  refine ⟨fun h0 => absurd (hr ▸ h0) hne, fun j hj => ?_⟩
  rw [hr] at hj
  obtain ⟨o, ho, hg, hk⟩ := h j hj
  unfold wpOp
  rw [ho]
  have hw : Region.wanted o (yielded ops a.tmps) = true := by simp [Region.wanted, hg]
  simp only [hw, if_true]
  exact .inl (hk _ fun a w h1 h2 => ⟨h1, h2⟩)
end
end Go.Proofs.YtfjpedgddgbelaaGreatDoor
namespace Go.Proofs.YtfjpedgddgbelaaGreatDoor
open Go.RowKit
set_option linter.unusedVariables false
theorem boxA (w : World) (cs : Array Value) (t : TypeId) : ∃ W g, w.alloc (.cells cs t) = W ∧ w.heap.size = g ∧ W.heap.size = g + 1 ∧ Blk W g t cs ∧ Below w.heap.size w W := ⟨_, _, rfl, rfl, by simp, Blk.new w t _, (Below.refl _ _).alloc (Nat.le_refl _) _⟩
theorem put_three {w0 V V9 : World} {g : Nat} {T : TypeId} {a b c : Value} (hb : Below w0.heap.size w0 V) (kg : Blk V g T #[a, b, c]) (hg : w0.heap.size ≤ g) (x y z : Value) (hV : ((V.setCell ⟨g, 0, none⟩ x).setCell ⟨g, 1, none⟩ y).setCell ⟨g, 2, none⟩ z = V9) : Below w0.heap.size w0 V9 ∧ Blk V9 g T #[x, y, z] := by
  subst hV
  refine ⟨((hb.setCell (p := ⟨g, 0, none⟩) hg _).setCell (p := ⟨g, 1, none⟩) hg _).setCell (p := ⟨g, 2, none⟩) hg _, ?_⟩
  simpa using ((kg.set_ 0 x).set_ 1 y).set_ 2 z
theorem kinds {k : Int} (h : 1 ≤ k ∧ k ≤ 8) : k = 1 ∨ k = 2 ∨ k = 3 ∨ k = 4 ∨ k = 5 ∨ k = 6 ∨ k = 7 ∨ k = 8 := by omega
theorem run_shape {k : Int} (h : 1 ≤ k ∧ k ≤ 8) (W : World) : (Instr.index 167 (.agg shapesA) (.int .i64 k)).run Tryz.prog W = .ok (.agg #[.int .i64 (Q.least k), .int .i64 (Q.most k), .int .i64 (Q.wants k)]) W := by
  rcases kinds h with rfl | rfl | rfl | rfl | rfl | rfl | rfl | rfl <;> kernel_rfl
set_option maxRecDepth 100000 in
set_option maxHeartbeats 4000000 in
theorem node_ok (f : Nat) (q : Q) (v : Value) (w : World) (hq : QAt f M0 w v q) (hw : ∀ W, Below w.heap.size w W → WordsAt q.text W) :
    Calls Tryz.prog 90 #[v] w fun e w' => e = .returned (.int .i64 (Q.errOf q)) ∧ Below w.heap.size w w' := by
  obtain ⟨A, c, rfl, _, _, _, hv⟩ := hq
  obtain ⟨k, t, n, ps⟩ := q
  simp only [Q.kind_node, Q.text_node, Q.num_node, Q.parts_node] at hv hw ⊢
  have hps := hv.len_le
  unfold maxLen at hps
  have hb0 := (Below.refl w.heap.size w).alloc (Nat.le_refl _) (.cells #[.int .i64 k, .string (bs t), .int .i64 n, .slice A ps.length c] 50)
  have kb := Blk.new w 50 #[.int .i64 k, .string (bs t), .int .i64 n, .slice A ps.length c]
  obtain ⟨p0, p1, p2, p3, _⟩ := kb.four
  by_cases hk1 : k < 1
  · go_enter Tryz.func90, Tryz.ntmps90
    go_wp2_with fail
    go_ret
    exact ⟨by unfold Q.errOf; simp [hk1], hb0⟩
  by_cases hk8 : 8 < k
  · go_enter Tryz.func90, Tryz.ntmps90
    go_wp2_with fail
    go_ret
    exact ⟨by unfold Q.errOf; simp [hk8], hb0⟩
  have hkk := kinds (k := k) ⟨by omega, by omega⟩
  obtain ⟨res, hres⟩ : ∃ r, Q.errOf (.node k t n ps) = r := ⟨_, rfl⟩
  have Hres := Lib.hid hres
  rw [hres]
  clear hres
  obtain ⟨W0, hW0⟩ : ∃ W0, w.alloc (.cells #[.int .i64 k, .string (bs t), .int .i64 n, .slice A ps.length c] 50) = W0 := ⟨_, rfl⟩
  have HW0 := Lib.hid hW0
  rw [hW0] at hb0 kb p0 p1 p2 p3
  clear hW0
  go_enter Tryz.func90, Tryz.ntmps90
  go_upto_region 3 with fail
  rw [HW0.out]
  have hix := run_shape (k := k) ⟨by omega, by omega⟩
  have hSS : ∀ W', Below W0.heap.size W0 W' → W'.cell? ⟨w.heap.size, 0, none⟩ = some (.int .i64 k) := fun W' hb => (kb.ext hb).four.1
  have HS := Lib.hid hSS
  clear hSS p0 p1 p2 p3
  go_cut [3] (fun p wc => ∃ g, p = .pointer (some ⟨g, 0, none⟩) ∧ Blk wc g 166 #[.int .i64 (Q.least k), .int .i64 (Q.most k), .int .i64 (Q.wants k)] ∧ Below W0.heap.size W0 wc)
  case first =>
    refine wp_region_D (fun W => W.cell? ⟨w.heap.size, 0, none⟩ = some (.int .i64 k)) (fun _ => false) (by kernel_rfl) ?_
    change anyD _ _ _ _ _ _ _ _ _ (W0.drewN 1)
    have hbV := below_drewN' W0.heap.size W0 1
    have hS := HS.out _ hbV
    generalize W0.drewN 1 = V0 at hS hbV ⊢
    (refine anyD_light (i := 1) (v := ?_) rfl (by kernel_rfl) (by kernel_rfl) (by kernel_rfl) (by kernel_rfl) (by kernel_rfl) (fun _ _ _ h => h) (.inl ⟨by kernel_rfl, fun W9 hW9 => ?_⟩) hS ?_; rotate_left; · (have hw0 := hW9; go_simp; rfl))
    (refine anyD_light (i := 2) (v := ?_) rfl (by kernel_rfl) (by kernel_rfl) (by kernel_rfl) (by kernel_rfl) (by kernel_rfl) (fun _ _ _ h => h) (.inl ⟨by kernel_rfl, fun W9 hW9 => ?_⟩) hS ?_; rotate_left; · (have hw0 := hW9; go_simp; rfl))
    go_simp
    refine anyD_pick [0, 4] (by kernel_rfl) (by decide) ?_
    intro j hj
    simp only [List.mem_cons, List.not_mem_nil, or_false] at hj
    rcases hj with rfl | rfl
    · refine ⟨_, rfl, rfl, fun K hK => ?_⟩
      have HK := Lib.hid hK
      clear hK
      unfold Oper.wp
      go_simp
      refine (shapes_ok V0).mono ?_
      rintro e V1 ⟨rfl, hb9⟩
      replace hbV := hbV.trans (hb9.mono hbV.size)
      clear hb9 hS
      have hS := HS.out _ hbV
      refine HK.out _ _ (fun _ => hS) ?_
      clear HK
      (refine anyD_light (i := 3) (v := ?_) rfl (by kernel_rfl) (by kernel_rfl) (by kernel_rfl) (by kernel_rfl) (by kernel_rfl) (fun _ _ _ h => h) (.inl ⟨by kernel_rfl, fun W9 hW9 => ?_⟩) hS ?_; rotate_left; · (have hx := hix W9; go_simp; rfl))
      have Hs0 := Lib.hid hbV.size
      go_simp
      refine anyD_one (i := 4) (by kernel_rfl) rfl rfl (fun K hK => ?_)
      have HK := Lib.hid hK
      clear hK
      unfold Oper.wp
      go_simp
      obtain ⟨V2, g, hV, hgg, hss, kg, hal⟩ := boxA V1 #[.int .i64 0, .int .i64 0, .int .i64 0] 166
      rw [hV, hgg]
      replace hbV := hbV.trans (hal.mono hbV.size)
      have Hg : Hid (V1.heap.size = g ∧ W0.heap.size ≤ g) := Lib.hid ⟨hgg, by have := Hs0.out; omega⟩
      clear hV hgg hss hal hS
      have hS := HS.out _ hbV
      refine HK.out _ _ (fun _ => hS) ?_
      clear HK
      go_simp
      refine anyD_one (i := 5) (by kernel_rfl) rfl rfl (fun K hK => ?_)
      have HK := Lib.hid hK
      clear hK
      obtain ⟨q0, q1, q2, q3, q4, q5, _⟩ := kg.three
      unfold Oper.wp
      go_simp
      obtain ⟨V9, hV9⟩ : ∃ V9, ((V2.setCell ⟨g, 0, none⟩ (.int .i64 (Q.least k))).setCell ⟨g, 1, none⟩ (.int .i64 (Q.most k))).setCell ⟨g, 2, none⟩ (.int .i64 (Q.wants k)) = V9 := ⟨_, rfl⟩
      obtain ⟨r1, r2⟩ := put_three hbV kg Hg.out.2 _ _ _ hV9
      rw [hV9]
      clear hS
      have hS := HS.out _ r1
      refine HK.out _ _ (fun _ => hS) ?_
      clear HK
      go_simp
      refine anyD_done (by kernel_rfl) ?_ _
      clear q0 q1 q2 q3 q4 q5 hix hS
      go_wp2
      go_meet
      exact ⟨g, rfl, r2, r1⟩
    · refine ⟨_, rfl, rfl, fun K hK => ?_⟩
      have HK := Lib.hid hK
      clear hK
      have Hs0 := Lib.hid hbV.size
      unfold Oper.wp
      go_simp
      obtain ⟨V1, g, hV, hgg, hss, kg, hal⟩ := boxA V0 #[.int .i64 0, .int .i64 0, .int .i64 0] 166
      rw [hV, hgg]
      replace hbV := hbV.trans (hal.mono hbV.size)
      have Hg : Hid (V0.heap.size = g ∧ W0.heap.size ≤ g) := Lib.hid ⟨hgg, by have := Hs0.out; omega⟩
      clear hV hgg hss hal hS
      have hS := HS.out _ hbV
      refine HK.out _ _ (fun _ => hS) ?_
      clear HK
      go_simp
      refine anyD_one (i := 0) (by kernel_rfl) rfl rfl (fun K hK => ?_)
      have HK := Lib.hid hK
      clear hK
      unfold Oper.wp
      go_simp
      refine (shapes_ok V1).mono ?_
      rintro e V2 ⟨rfl, hb9⟩
      replace hbV := hbV.trans (hb9.mono hbV.size)
      replace kg := kg.ext hb9
      clear hb9 hS
      have hS := HS.out _ hbV
      refine HK.out _ _ (fun _ => hS) ?_
      clear HK
      (refine anyD_light (i := 3) (v := ?_) rfl (by kernel_rfl) (by kernel_rfl) (by kernel_rfl) (by kernel_rfl) (by kernel_rfl) (fun _ _ _ h => h) (.inl ⟨by kernel_rfl, fun W9 hW9 => ?_⟩) hS ?_; rotate_left; · (have hx := hix W9; go_simp; rfl))
      go_simp
      refine anyD_one (i := 5) (by kernel_rfl) rfl rfl (fun K hK => ?_)
      have HK := Lib.hid hK
      clear hK
      obtain ⟨q0, q1, q2, q3, q4, q5, _⟩ := kg.three
      unfold Oper.wp
      go_simp
      obtain ⟨V9, hV9⟩ : ∃ V9, ((V2.setCell ⟨g, 0, none⟩ (.int .i64 (Q.least k))).setCell ⟨g, 1, none⟩ (.int .i64 (Q.most k))).setCell ⟨g, 2, none⟩ (.int .i64 (Q.wants k)) = V9 := ⟨_, rfl⟩
      obtain ⟨r1, r2⟩ := put_three hbV kg Hg.out.2 _ _ _ hV9
      rw [hV9]
      clear hS
      have hS := HS.out _ r1
      refine HK.out _ _ (fun _ => hS) ?_
      clear HK
      go_simp
      refine anyD_done (by kernel_rfl) ?_ _
      clear q0 q1 q2 q3 q4 q5 hix hS
      go_wp2
      go_meet
      exact ⟨g, rfl, r2, r1⟩
  case rest =>
    obtain ⟨g, rfl, kg, hbc⟩ := hcut
    have hbw := hb0.trans (hbc.mono hb0.size)
    have kb1 := kb.ext hbc
    obtain ⟨p0, p1, p2, p3, _⟩ := kb1.four
    have Hw := Lib.hid (hw wc hbw)
    clear hw hix HS kb hb0 hbc HW0
    obtain ⟨W1, rfl⟩ : ∃ W1, W1 = wc := ⟨_, rfl⟩
    go_wp2_with fail
    refine Hw.out.mono ?_
    rintro e w3 ⟨A3, n3, c3, rfl, hall, hb3⟩
    have kb3 := kb1.ext hb3
    have kg3 := kg.ext hb3
    have hbw3 := hbw.trans (hb3.mono hbw.size)
    clear p0 p1 p2 p3
    obtain ⟨p0, p1, p2, p3, _⟩ := kb3.four
    obtain ⟨g0, g1, g2, _⟩ := kg3.three
    obtain ⟨ok, hok⟩ : ∃ b, (splitS t).all Q.wordOk = b := ⟨_, rfl⟩
    rw [hok] at hall ⊢
    have e0 : (decide (k < 1) || decide (8 < k)) = false := by simp; omega
    have herr : Q.errOf (.node k t n ps) = if (ps.length : Int) < Q.least k ∨ Q.most k < (ps.length : Int) ∨ (k ≠ 5 ∧ n ≠ 0) ∨ (Q.wants k = 0 ∧ t ≠ []) then 5 else if k = 5 ∧ (n < 1 ∨ 50 < n) then 3 else if Q.wants k ≠ 0 ∧ (ok = false ∨ (0 < Q.wants k ∧ ((splitS t).length : Int) ≠ Q.wants k)) then 10 else 0 := by
      unfold Q.errOf
      rw [Q.kind_node, Q.text_node, Q.num_node, Q.parts_node, e0, hok]
      rfl
    rw [Hres.out] at herr
    have Herr := Lib.hid herr; have Hall := Lib.hid hall; have Hb := Lib.hid hbw3
    clear herr hall hbw3 Hres hok e0 Hw hbw kb1 kg kb3 kg3 hb3 hkk hv
    obtain ⟨lo, hlo⟩ : ∃ x, Q.least k = x := ⟨_, rfl⟩
    obtain ⟨mo, hmo⟩ : ∃ x, Q.most k = x := ⟨_, rfl⟩
    obtain ⟨wa, hwa⟩ : ∃ x, Q.wants k = x := ⟨_, rfl⟩
    have H5 : Hid (k = 5 → wa = 2) := Lib.hid fun h => by rw [← hwa, h]; rfl
    rw [hlo] at g0 Herr
    rw [hmo] at g1 Herr
    rw [hwa] at g2 Herr
    clear hlo hmo hwa
    by_cases c1 : (ps.length : Int) < lo
    · obtain rfl : 5 = res := by rw [Herr.out, if_pos (.inl c1)]
      go_wp2_with fail
      go_ret
      exact ⟨rfl, Hb.out⟩
    by_cases c2 : mo < (ps.length : Int)
    · obtain rfl : 5 = res := by rw [Herr.out, if_pos (.inr (.inl c2))]
      go_wp2_with fail
      go_ret
      exact ⟨rfl, Hb.out⟩
    by_cases c5 : k = 5
    · obtain rfl := H5.out c5
      have e5 : (k == 5) = true := by rw [c5]; rfl
      have hn1 : ¬ ((ps.length : Int) < lo ∨ mo < (ps.length : Int) ∨ (k ≠ 5 ∧ n ≠ 0) ∨ ((2 : Int) = 0 ∧ t ≠ [])) := by
        rintro (h | h | h | h)
        · exact c1 h
        · exact c2 h
        · exact h.1 c5
        · exact absurd h.1 (by decide)
      have herr := Herr.out
      rw [if_neg hn1] at herr
      clear Herr hn1
      by_cases c6 : n < 1
      · obtain rfl : 3 = res := by rw [herr, if_pos ⟨c5, .inl c6⟩]
        clear herr
        go_wp2_with fail
        go_ret
        exact ⟨rfl, Hb.out⟩
      by_cases c7 : 50 < n
      · obtain rfl : 3 = res := by rw [herr, if_pos ⟨c5, .inr c7⟩]
        clear herr
        go_wp2_with fail
        go_ret
        exact ⟨rfl, Hb.out⟩
      rw [if_neg (by rintro ⟨_, h | h⟩; exact c6 h; exact c7 h)] at herr
      cases ok with
      | false =>
        obtain rfl : 10 = res := by rw [herr, if_pos ⟨by decide, .inl rfl⟩]
        clear herr
        go_wp2_with fail
        go_ret
        exact ⟨rfl, Hb.out⟩
      | true =>
        obtain ⟨rfl, _⟩ := Hall.out rfl
        obtain ⟨sl, hsl⟩ : ∃ m, (splitS t).length = m := ⟨_, rfl⟩
        rw [hsl] at herr ⊢
        by_cases c8 : (sl : Int) = 2
        · have c8' : ((sl : Int) == 2) = true := by simp [c8]
          obtain rfl : 0 = res := by rw [herr, if_neg (by rintro ⟨_, h | h⟩; cases h; exact h.2 c8)]
          clear herr
          go_wp2_with fail
          go_ret
          exact ⟨rfl, Hb.out⟩
        · have c8' : ((sl : Int) == 2) = false := by simpa using c8
          obtain rfl : 10 = res := by rw [herr, if_pos ⟨by decide, .inr ⟨by decide, c8⟩⟩]
          clear herr
          go_wp2_with fail
          go_ret
          exact ⟨rfl, Hb.out⟩
    have e5 : (k == 5) = false := by simpa using c5
    by_cases c6 : n = 0
    · subst c6
      by_cases cw : wa = 0
      · subst cw
        by_cases ct : t = []
        · subst ct
          obtain rfl : 0 = res := by rw [Herr.out, if_neg (by rintro (h | h | h | h); exact c1 h; exact c2 h; exact h.2 rfl; exact h.2 rfl), if_neg (fun h => c5 h.1), if_neg (fun h => h.1 rfl)]
          go_wp2_with fail
          go_ret
          exact ⟨rfl, Hb.out⟩
        · have ct' : (t == []) = false := by rw [beq_eq_false_iff_ne]; exact ct
          obtain rfl : 5 = res := by rw [Herr.out, if_pos (.inr (.inr (.inr ⟨rfl, ct⟩)))]
          go_wp2_with fail
          go_ret
          exact ⟨rfl, Hb.out⟩
      · have cw' : (wa == 0) = false := by simpa using cw
        have herr := Herr.out
        rw [if_neg (by rintro (h | h | h | h); exact c1 h; exact c2 h; exact h.2 rfl; exact cw h.1), if_neg (fun h => c5 h.1)] at herr
        cases ok with
        | false =>
          obtain rfl : 10 = res := by rw [herr, if_pos ⟨cw, .inl rfl⟩]
          clear herr
          go_wp2_with fail
          go_ret
          exact ⟨rfl, Hb.out⟩
        | true =>
          obtain ⟨rfl, _⟩ := Hall.out rfl
          obtain ⟨sl, hsl⟩ : ∃ m, (splitS t).length = m := ⟨_, rfl⟩
          rw [hsl] at herr ⊢
          by_cases c7 : 0 < wa
          · by_cases c8 : (sl : Int) = wa
            · subst c8
              obtain rfl : 0 = res := by rw [herr, if_neg (by rintro ⟨_, h | h⟩; cases h; exact h.2 rfl)]
              clear herr
              go_wp2_with fail
              go_ret
              exact ⟨rfl, Hb.out⟩
            · have c8' : ((sl : Int) == wa) = false := by simpa using c8
              have c8n : ((sl : Int) != wa) = true := by simpa using c8
              have cwn : (wa != 0) = true := by simpa using cw
              obtain rfl : 10 = res := by rw [herr, if_pos ⟨cw, .inr ⟨c7, c8⟩⟩]
              clear herr
              go_wp2_with fail
              go_ret
              exact ⟨rfl, Hb.out⟩
          · obtain rfl : 0 = res := by rw [herr, if_neg (by rintro ⟨_, h | h⟩; cases h; exact c7 h.1)]
            clear herr
            go_wp2_with fail
            go_ret
            exact ⟨rfl, Hb.out⟩
    · have c6' : (n == 0) = false := by simpa using c6
      obtain rfl : 5 = res := by rw [Herr.out, if_pos (.inr (.inr (.inl ⟨c5, c6⟩)))]
      go_wp2_with fail
      go_ret
      exact ⟨rfl, Hb.out⟩
end Go.Proofs.YtfjpedgddgbelaaGreatDoor
