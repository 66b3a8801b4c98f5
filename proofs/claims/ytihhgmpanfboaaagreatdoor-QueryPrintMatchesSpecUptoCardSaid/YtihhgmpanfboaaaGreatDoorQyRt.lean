/-
  What is printed is read again; plain.
-/
import Derived.Test.YtihhgmpanfboaaaGreatDoorK5
import Derived.Test.YtihhgmpanfboaaaGreatDoorK11
namespace Go.Proofs.YtihhgmpanfboaaaGreatDoor
set_option linter.unusedVariables false
open Go.Lib
namespace Q
/-! ### letters -/
def NL (r : Str) : Prop := r = [] ∨ Sm.isL (decodeL r).1 = false
theorem nl_cons {c : UInt8} (h : c.toNat < 128) (hc : Sm.isL c.toNat = false) (t : Str) : NL (c :: t) := .inr (by rw [Sm.decode_ascii' c t h]; exact hc)
theorem marks : (List.all [32, 34, 40, 41, 42, 45, 58, 124, 126] fun c : Nat => !Sm.isL c) = true := by decide +kernel
theorem nl_mark {c : UInt8} (h : c ∈ ([32, 34, 40, 41, 42, 45, 58, 124, 126] : List UInt8)) (t : Str) : NL (c :: t) := by
  have key : ∀ d ∈ ([32, 34, 40, 41, 42, 45, 58, 124, 126] : List UInt8), d.toNat < 128 ∧ d.toNat ∈ ([32, 34, 40, 41, 42, 45, 58, 124, 126] : List Nat) := by decide
  obtain ⟨h1, h2⟩ := key c h
  refine nl_cons h1 ?_ t
  have := List.all_eq_true.1 marks _ h2
  simpa using this
theorem spanW_encs : ∀ (zs : List Nat) (rest : Str) (n : Nat), (∀ r ∈ zs, Sm.LetR r) → NL rest → (Sm.encs zs ++ rest).length ≤ n → spanW n (Sm.encs zs ++ rest) = (Sm.encs zs, rest)
  | [], rest, n, _, hr, hn => by
    rw [show Sm.encs [] = [] from rfl, List.nil_append] at hn ⊢
    cases n with
    | zero => rfl
    | succ n =>
      rw [spanW]
      rcases hr with rfl | hr
      · rw [if_pos rfl]
      · split
        · rename_i e; rw [e]
        · rw [if_neg (by rw [hr]; decide)]
  | z :: zs, rest, n, hz, hr, hn => by
    have h1 := hz z (.head _)
    have hne : Sm.encs (z :: zs) ++ rest ≠ [] := fun e => Sm.encs_ne (by simp) (List.append_eq_nil_iff.1 e).1
    have hd := Sm.encode_decode z h1.1 (Sm.encs zs ++ rest)
    have he : encodeRune (z : Int) ≠ [] := Sm.encodeRune_ne _
    have hl : 0 < (encodeRune (z : Int)).length := List.length_pos_iff.2 he
    cases n with
    | zero => rw [Sm.encs_cons, List.append_assoc, List.length_append] at hn; omega
    | succ n =>
      have ih := spanW_encs zs rest n (fun r h => hz r (.tail _ h)) hr (by rw [Sm.encs_cons, List.append_assoc, List.length_append] at hn; omega)
      rw [spanW, if_neg hne, Sm.encs_cons, List.append_assoc, hd]
      simp only [h1.2, if_true, List.drop_left, List.take_left, ih]
theorem wordS_encs {zs : List Nat} {rest : Str} (hz : ∀ r ∈ zs, Sm.LetR r) (hr : NL rest) : wordS (Sm.encs zs ++ rest) = (Sm.encs zs, rest) := spanW_encs zs rest _ hz hr (Nat.le_refl _)
theorem wordS_none {r : Str} (hr : NL r) : wordS r = ([], r) := wordS_encs (zs := []) (fun r h => by cases h) hr
/-- what a word in lower case is like -/
theorem ok_word {s : Str} (h : wordOk s = true) : s ≠ [] ∧ (32 : UInt8) ∉ s ∧ Sm.lower s = s ∧ (∀ rest, NL rest → wordS (s ++ rest) = (s, rest)) ∧ (∀ rest, Sm.isL (decodeL (s ++ rest)).1 = true) := by
  unfold wordOk at h
  rw [Bool.and_eq_true, beq_iff_eq] at h
  obtain ⟨zs, rfl, hz⟩ := Sm.word_low (s := s) (x := s) (by rw [h.2]; exact .head _)
  refine ⟨Sm.encs_ne hz.1, Sm.no_space fun r hr => (hz.2 r hr).1, hz.lower, fun rest hr => wordS_encs (fun r h => (hz.2 r h).1) hr, fun rest => ?_⟩
  match zs, hz with
  | z :: zs, hz =>
    have h1 := (hz.2 z (.head _)).1
    rw [Sm.encs_cons, List.append_assoc, Sm.encode_decode z h1.1]
    exact h1.2
theorem head_mark {r : Str} {c : UInt8} {t : Str} (hr : Sm.isL (decodeL r).1 = true) (e : r = c :: t) : c ∉ ([32, 34, 40, 41, 42, 45, 58, 124, 126] : List UInt8) := fun hm => by
  subst e
  rcases nl_mark hm t with h | h
  · cases h
  · rw [hr] at h; cases h
theorem termS_word (f : Nat) {r : Str} (hne : r ≠ []) (hr : Sm.isL (decodeL r).1 = true) : termS (f + 1) r = wordTerm r := by
  obtain ⟨c, t, rfl⟩ : ∃ c t, r = c :: t := by
    cases r with
    | nil => exact absurd rfl hne
    | cons c t => exact ⟨c, t, rfl⟩
  · have h := head_mark (c := c) (t := t) hr rfl
    simp only [List.mem_cons, List.not_mem_nil, or_false, not_or] at h
    obtain ⟨h1, h2, h3, h4, h5, h6, _⟩ := h
    unfold termS
    split
    · rename_i e; injection e with e; exact absurd e h6
    · rename_i e; injection e with e; exact absurd e h3
    · rename_i e; injection e with e; exact absurd e h2
    · rename_i e; injection e with e; exact absurd e h5
    · rfl
theorem skipS_word {r : Str} (hr : Sm.isL (decodeL r).1 = true) (hne : r ≠ []) : skipS r = r := by
  obtain ⟨c, t, rfl⟩ : ∃ c t, r = c :: t := by
    cases r with
    | nil => exact absurd rfl hne
    | cons c t => exact ⟨c, t, rfl⟩
  · have h := head_mark (c := c) (t := t) hr rfl
    simp only [List.mem_cons, List.not_mem_nil, or_false, not_or] at h
    unfold skipS
    rw [List.dropWhile_cons_of_neg (by simpa using h.1)]
/-! ### nodes -/
inductive Form : Q → Prop
  | all : Form (.node 1 [] 0 [])
  | word (w : Str) (h : wordOk w = true) : Form (.node 2 w 0 [])
  | pre (w : Str) (h : wordOk w = true) : Form (.node 3 w 0 [])
  | phrase (t : Str) (h : ∀ w ∈ splitS t, wordOk w = true) : Form (.node 4 t 0 [])
  | near (t a b : Str) (n : Int) (h : splitS t = [a, b]) (ha : wordOk a = true) (hb : wordOk b = true) (hn : 1 ≤ n ∧ n ≤ 50) : Form (.node 5 t n [])
  | both (l : List Q) (h : 2 ≤ l.length) : Form (.node 6 [] 0 l)
  | either (l : List Q) (h : 2 ≤ l.length) : Form (.node 7 [] 0 l)
  | no (p : Q) : Form (.node 8 [] 0 [p])
theorem form_of {q : Q} (h : errOf q = 0) : Form q := by
  obtain ⟨⟨k1, k8⟩, t1, t4, t5, t8⟩ := Sr.node_text h
  obtain ⟨k, t, n, l⟩ := q
  simp only [kind_node, text_node, parts_node] at k1 k8 t1 t4 t5 t8
  replace h : (if (decide (k < 1) || decide (8 < k)) = true then (4 : Int)
    else if (l.length : Int) < least k ∨ most k < (l.length : Int) ∨ (k ≠ 5 ∧ n ≠ 0) ∨ (wants k = 0 ∧ t ≠ []) then 5
    else if k = 5 ∧ (n < 1 ∨ 50 < n) then 3
    else if wants k ≠ 0 ∧ ((splitS t).all wordOk = false ∨ (0 < wants k ∧ ((splitS t).length : Int) ≠ wants k)) then 10
    else 0) = 0 := h
  rw [if_neg (by simp; omega)] at h
  by_cases h1 : (l.length : Int) < least k ∨ most k < (l.length : Int) ∨ (k ≠ 5 ∧ n ≠ 0) ∨ (wants k = 0 ∧ t ≠ [])
  · rw [if_pos h1] at h; exact absurd h (by decide)
  · rw [if_neg h1] at h
    by_cases h3 : k = 5 ∧ (n < 1 ∨ 50 < n)
    · rw [if_pos h3] at h; exact absurd h (by decide)
    · · clear h
        simp only [not_or, not_and, Int.not_lt, Decidable.not_not] at h1
        obtain ⟨a1, a2, a3, a4⟩ := h1
        have hcase : k = 1 ∨ k = 2 ∨ k = 3 ∨ k = 4 ∨ k = 5 ∨ k = 6 ∨ k = 7 ∨ k = 8 := by omega
        have hnil : most k = 0 → l = [] := fun hm => by
          rw [hm] at a2; exact List.eq_nil_of_length_eq_zero (by omega)
        rcases hcase with rfl | rfl | rfl | rfl | rfl | rfl | rfl | rfl
        · obtain rfl := hnil rfl
          obtain rfl := a3 (by decide)
          obtain rfl := a4 rfl
          exact .all
        · obtain rfl := hnil rfl
          obtain rfl := a3 (by decide)
          exact .word t (t1 (.inl rfl)).2
        · obtain rfl := hnil rfl
          obtain rfl := a3 (by decide)
          exact .pre t (t1 (.inr rfl)).2
        · obtain rfl := hnil rfl
          obtain rfl := a3 (by decide)
          exact .phrase t (t4 rfl)
        · obtain rfl := hnil rfl
          obtain ⟨a, b, e, ea, eb⟩ := t5 rfl
          refine .near t a b n e ea eb ?_
          simp only [true_and, not_or, Int.not_lt] at h3
          exact h3
        · obtain rfl := a3 (by decide)
          obtain rfl := a4 rfl
          refine .both l ?_
          have : least 6 = 2 := rfl
          rw [this] at a1; omega
        · obtain rfl := a3 (by decide)
          obtain rfl := a4 rfl
          refine .either l ?_
          have : least 7 = 2 := rfl
          rw [this] at a1; omega
        · obtain rfl := a3 (by decide)
          obtain rfl := a4 rfl
          obtain ⟨p, rfl⟩ := t8 rfl
          exact .no p
/-! ### reading what was printed -/
def Stop (r : Str) : Prop := ∀ c ∈ r.head?, c = 32 ∨ c = 41 ∨ c = 124
theorem Stop.nl {r : Str} (h : Stop r) : NL r := by
  match r with
  | [] => exact .inl rfl
  | c :: t => rcases h c rfl with rfl | rfl | rfl <;> exact nl_mark (by decide) t
def atom (f : Nat) (q : Q) : Str := if q.kind = 6 ∨ q.kind = 7 then 40 :: textF f q ++ [41] else textF f q
theorem wrap6 (f : Nat) (p : Q) : wrap 6 p (textF f p) = atom f p := by
  unfold wrap atom
  by_cases h7 : p.kind = 7
  · simp [h7]
  · by_cases h6 : p.kind = 6 <;> simp [h6, h7]
theorem wrap8 (f : Nat) (p : Q) : wrap 8 p (textF f p) = atom f p := by
  unfold wrap atom
  by_cases h7 : p.kind = 7
  · simp [h7]
  · by_cases h6 : p.kind = 6 <;> simp [h6, h7]
/-- a text that a term begins with -/
def Begun (s : Str) : Prop := ∀ rest, s ≠ [] ∧ skipS (s ++ rest) = s ++ rest ∧ begins (s ++ rest) = true
theorem begun_word {s : Str} (hne : s ≠ []) (h : ∀ rest, Sm.isL (decodeL (s ++ rest)).1 = true) (t : Str) : Begun (s ++ t) := fun rest => by
  have hne' : s ++ t ++ rest ≠ [] := by simp [hne]
  have h1 := h (t ++ rest)
  rw [← List.append_assoc] at h1
  refine ⟨by simp [hne], skipS_word h1 hne', ?_⟩
  unfold begins
  rw [h1]
  simp [hne]
theorem begun_mark {c : UInt8} (h : c = 45 ∨ c = 40 ∨ c = 34 ∨ c = 42) (t : Str) : Begun (c :: t) := fun rest => by
  refine ⟨by simp, ?_, ?_⟩
  · unfold skipS
    rw [List.cons_append, List.dropWhile_cons_of_neg]
    rcases h with rfl | rfl | rfl | rfl <;> decide
  · unfold begins
    rcases h with rfl | rfl | rfl | rfl <;> simp
theorem atom_begun {f : Nat} {q : Q} (hf : Form q) : Begun (atom (f + 1) q) := by
  unfold atom
  cases hf with
  | all => simp [textF]; exact begun_mark (by simp) _
  | word w h =>
    obtain ⟨h1, _, _, _, h5⟩ := ok_word h
    have := begun_word h1 h5 []
    simpa [textF] using this
  | pre w h =>
    obtain ⟨h1, _, _, _, h5⟩ := ok_word h
    have := begun_word h1 h5 [42]
    simpa [textF] using this
  | phrase t h => simp [textF]; exact begun_mark (by simp) _
  | near t a b n h ha hb hn =>
    obtain ⟨h1, _, _, _, h5⟩ := ok_word ha
    have := begun_word h1 h5 (126 :: (itoa n ++ 58 :: b))
    simp [textF, h]
    simpa using this
  | both l h => simp; exact begun_mark (by simp) _
  | either l h => simp; exact begun_mark (by simp) _
  | no p => simp [textF]; exact begun_mark (by simp) _
theorem phraseS_words : ∀ (ws : List Str) (rest : Str) (n : Nat), (∀ w ∈ ws, wordOk w = true) → ws.length < n → phraseS n ((ws.flatMap fun b => 32 :: b) ++ 34 :: rest) = (ws, 34 :: rest)
  | [], rest, n, _, hn => by
    cases n with
    | zero => omega
    | succ n =>
      have hs : skipS (34 :: rest) = 34 :: rest := by unfold skipS; rw [List.dropWhile_cons_of_neg (by decide)]
      rw [List.flatMap_nil, List.nil_append, phraseS, hs, wordS_none (nl_mark (by decide) rest), if_pos rfl]
  | w :: ws, rest, n, h, hn => by
    cases n with
    | zero => omega
    | succ n =>
      obtain ⟨h1, h2, h3, h4, h5⟩ := ok_word (h w (.head _))
      have ih := phraseS_words ws rest n (fun x hx => h x (.tail _ hx)) (by rw [List.length_cons] at hn; omega)
      have hs : skipS (((w :: ws).flatMap fun b => 32 :: b) ++ 34 :: rest) = w ++ ((ws.flatMap fun b => 32 :: b) ++ 34 :: rest) := by
        rw [List.flatMap_cons, List.cons_append, List.cons_append]
        unfold skipS
        rw [List.dropWhile_cons_of_pos (by decide)]
        have := skipS_word (r := w ++ ((ws.flatMap fun b => 32 :: b) ++ 34 :: rest)) (h5 _) (by simp [h1])
        unfold skipS at this
        rw [List.append_assoc]; exact this
      have hnl : NL ((ws.flatMap fun b => 32 :: b) ++ 34 :: rest) := by
        cases ws with
        | nil => exact nl_mark (by decide) rest
        | cons a b => rw [List.flatMap_cons, List.cons_append, List.cons_append]; exact nl_mark (by decide) _
      rw [phraseS, hs, h4 _ hnl, if_neg h1, ih, h3]
theorem join_split (t : Str) : join [32] (splitS t) = t := by
  have key : ∀ s : Str, ∃ a l, splitS s = a :: l ∧ s = a ++ l.flatMap (fun b => 32 :: b) := by
    intro s
    induction s with
    | nil => exact ⟨[], [], rfl, rfl⟩
    | cons c s ih =>
      obtain ⟨a, l, e, es⟩ := ih
      rw [splitS]
      by_cases hc : c = 32
      · rw [if_pos hc]
        refine ⟨[], splitS s, rfl, ?_⟩
        rw [e, List.flatMap_cons, List.nil_append, hc, List.cons_append, ← es]
      · rw [if_neg hc, e]
        exact ⟨c :: a, l, rfl, by rw [List.cons_append, ← es]⟩
  obtain ⟨a, l, e, es⟩ := key t
  rw [e, join]
  exact es.symm
theorem phraseS_text {t : Str} (h : ∀ w ∈ splitS t, wordOk w = true) (rest : Str) (n : Nat) (hn : (splitS t).length < n) : phraseS n (t ++ 34 :: rest) = (splitS t, 34 :: rest) := by
  have hj := join_split t
  cases hs : splitS t with
  | nil => exact absurd hs (splitS_ne t)
  | cons a l =>
    rw [hs] at h hj hn
    have h0 := phraseS_words (a :: l) rest n h hn
    rw [join] at hj
    cases n with
    | zero => omega
    | succ n =>
      obtain ⟨h1, h2, h3, h4, h5⟩ := ok_word (h a (.head _))
      have e1 : skipS (((a :: l).flatMap fun b => 32 :: b) ++ 34 :: rest) = skipS (t ++ 34 :: rest) := by
        rw [List.flatMap_cons, List.cons_append, List.cons_append, ← hj]
        unfold skipS
        rw [List.dropWhile_cons_of_pos (by decide)]
        rfl
      rw [phraseS, e1] at h0
      rw [phraseS]
      exact h0
theorem digits_ok : (List.range 51).all (fun n => decide (n = 0) || ((itoa (n : Int)).all digit && decide ((itoa (n : Int)).length ≤ 2 ∧ itoa (n : Int) ≠ [] ∧ numOf (itoa (n : Int)) = (n : Int)))) = true := by decide +kernel
theorem itoa_ok {n : Int} (h : 1 ≤ n ∧ n ≤ 50) (rest : Str) : (itoa n ++ 58 :: rest).takeWhile digit = itoa n ∧ (itoa n ++ 58 :: rest).dropWhile digit = 58 :: rest ∧ (itoa n).length ≤ 2 ∧ itoa n ≠ [] ∧ numOf (itoa n) = n := by
  obtain ⟨m, rfl⟩ : ∃ m : Nat, n = (m : Int) := ⟨n.toNat, by omega⟩
  have hk := List.all_eq_true.1 digits_ok m (List.mem_range.2 (by omega))
  rw [Bool.or_eq_true, decide_eq_true_eq, Bool.and_eq_true, decide_eq_true_eq] at hk
  rcases hk with hk | ⟨h1, h2, h3, h4⟩
  · omega
  · have hd : digit 58 = false := by decide
    have ha : ∀ x ∈ itoa (m : Int), digit x = true := List.all_eq_true.1 h1
    refine ⟨?_, ?_, h2, h3, h4⟩
    · rw [List.takeWhile_append_of_pos ha, List.takeWhile_cons_of_neg (by simp [hd]), List.append_nil]
    · rw [List.dropWhile_append_of_pos ha, List.dropWhile_cons_of_neg (by simp [hd])]
/-- a term that is no list of others -/
theorem term_leaf {f g : Nat} {q : Q} (hq : Form q) (h6 : q.kind < 6) (rest : Str) (hr : Stop rest) : termS (g + 1) (textF (f + 1) q ++ rest) = .ok q rest := by
  cases hq with
  | all => simp [textF, termS]
  | word w h =>
    obtain ⟨h1, h2, h3, h4, h5⟩ := ok_word h
    simp only [textF, kind_node, if_true, text_node]
    rw [termS_word g (by simp [h1]) (h5 rest)]
    unfold wordTerm
    rw [h4 rest hr.nl, if_neg h1]
    simp only [h3]
    cases rest with
    | nil => rfl
    | cons c t => rcases hr c rfl with rfl | rfl | rfl <;> rfl
  | pre w h =>
    obtain ⟨h1, h2, h3, h4, h5⟩ := ok_word h
    have e : textF (f + 1) (.node 3 w 0 []) ++ rest = w ++ 42 :: rest := by simp [textF]
    rw [e, termS_word g (by simp [h1]) (h5 _)]
    unfold wordTerm
    rw [h4 _ (nl_mark (by decide) rest), if_neg h1]
    simp only [h3]
  | phrase t h =>
    have e : textF (f + 1) (.node 4 t 0 []) ++ rest = 34 :: (t ++ 34 :: rest) := by simp [textF]
    rw [e, termS, quotedS]
    have hl : (splitS t).length < (t ++ 34 :: rest).length + 1 := by
      have := List.count_le_length (a := (32 : UInt8)) (l := t)
      rw [splitS_len, List.length_append, List.length_cons]; omega
    rw [phraseS_text h rest _ hl]
    simp only [List.head?_cons, true_and]
    rw [if_pos (splitS_ne t), join_split]; rfl
  | near t a b n h ha hb hn =>
    obtain ⟨a1, a2, a3, a4, a5⟩ := ok_word ha
    obtain ⟨b1, b2, b3, b4, b5⟩ := ok_word hb
    obtain ⟨d1, d2, d3, d4, d5⟩ := itoa_ok hn (b ++ rest)
    have e : textF (f + 1) (.node 5 t n []) ++ rest = a ++ 126 :: (itoa n ++ 58 :: (b ++ rest)) := by simp [textF, h]
    rw [e, termS_word g (by simp [a1]) (a5 _)]
    unfold wordTerm
    rw [a4 _ (nl_mark (by decide) _), if_neg a1]
    simp only [a3]
    unfold nearS
    rw [d1, if_neg (by simp [d4]; omega), d2]
    simp only [b4 rest hr.nl]
    rw [if_neg b1, d5, b3]
    have hj := join_split t
    rw [h] at hj
    have : a ++ 32 :: b = t := by simpa [join] using hj
    rw [this]
  | both l h => simp at h6
  | either l h => simp at h6
  | no p => simp at h6
/-- behind a conjunction -/
def EndB (r : Str) : Prop := Stop r ∧ ∀ c ∈ (skipS r).head?, c = 41 ∨ c = 124
theorem EndB.begins {r : Str} (h : EndB r) : begins (skipS r) = false := by
  unfold Q.begins
  cases hs : skipS r with
  | nil => rfl
  | cons c t =>
    have h1 := h.2 c (by rw [hs]; rfl)
    rcases h1 with rfl | rfl
    · rcases nl_mark (c := 41) (by decide) t with h | h
      · cases h
      · rw [h]; simp
    · rcases nl_mark (c := 124) (by decide) t with h | h
      · cases h
      · rw [h]; simp
theorem bothGo_end (T : Str → Res) (n : Nat) (l : List Q) {r : Str} (h : begins r = false) : bothGo T n l r = .ok (several 6 l) r := by
  cases n with
  | zero => rfl
  | succ n => rw [bothGo, if_neg (by rw [h]; decide)]
theorem bothGo_atoms (T : Str → Res) (rest : Str) (hr : EndB rest) (at_ : Q → Str) : ∀ (ps : List Q) (n : Nat) (acc : List Q),
    (∀ p ∈ ps, Begun (at_ p) ∧ ∀ u, Stop u → (∀ p2 ∈ ps, True) → (at_ p ++ u).length ≤ ((ps.map at_).flatMap fun b => 32 :: b).length + rest.length → T (at_ p ++ u) = .ok p u) → ps.length < n →
    bothGo T n acc (skipS (((ps.map at_).flatMap fun b => 32 :: b) ++ rest)) = .ok (several 6 (acc ++ ps)) (skipS rest)
  | [], n, acc, _, hn => by
    rw [List.map_nil, List.flatMap_nil, List.nil_append, bothGo_end T n acc hr.begins, List.append_nil]
  | p :: ps, n, acc, h, hn => by
    cases n with
    | zero => omega
    | succ n =>
      obtain ⟨hb, ht⟩ := h p (.head _)
      have e : ((((p :: ps).map at_).flatMap fun b => 32 :: b) ++ rest) = 32 :: (at_ p ++ (((ps.map at_).flatMap fun b => 32 :: b) ++ rest)) := by simp
      have hs : skipS (32 :: (at_ p ++ (((ps.map at_).flatMap fun b => 32 :: b) ++ rest))) = at_ p ++ (((ps.map at_).flatMap fun b => 32 :: b) ++ rest) := by
        have := (hb (((ps.map at_).flatMap fun b => 32 :: b) ++ rest)).2.1
        unfold skipS at this ⊢
        rw [List.dropWhile_cons_of_pos (by decide)]; exact this
      have hst : Stop (((ps.map at_).flatMap fun b => 32 :: b) ++ rest) := by
        cases ps with
        | nil => simpa using hr.1
        | cons a b => intro c hc; simp at hc; exact .inl hc.symm
      have ih := bothGo_atoms T rest hr at_ ps n (acc ++ [p]) (fun x hx => ⟨(h x (.tail _ hx)).1, fun u hu _ hl => (h x (.tail _ hx)).2 u hu (fun _ _ => trivial) (by simp only [List.map_cons, List.flatMap_cons, List.length_append, List.length_cons] at *; omega)⟩) (by rw [List.length_cons] at hn; omega)
      rw [e, hs, bothGo, if_pos (hb _).2.2, ht _ hst (fun _ _ => trivial) (by simp only [List.map_cons, List.flatMap_cons, List.length_append, List.length_cons] at *; omega)]
      simp only
      rw [ih, List.append_assoc, List.singleton_append]
theorem flat_len (l : List Str) (c : UInt8) : l.length ≤ (l.flatMap fun b => c :: b).length := by
  induction l with
  | nil => simp
  | cons a l ih => rw [List.flatMap_cons, List.length_append, List.length_cons, List.length_cons]; omega
/-- a list of terms with spaces between them -/
theorem bothOf_atoms {T : Str → Res} {rest : Str} (hr : EndB rest) {at_ : Q → Str} {p : Q} {ps : List Q} {L : Nat} (hL : (join [32] ((p :: ps).map at_) ++ rest).length ≤ L)
    (h : ∀ x ∈ p :: ps, Begun (at_ x) ∧ ∀ u, Stop u → (at_ x ++ u).length ≤ L → T (at_ x ++ u) = .ok x u) : bothOf T (join [32] ((p :: ps).map at_) ++ rest) = .ok (several 6 (p :: ps)) (skipS rest) := by
  obtain ⟨hb, ht⟩ := h p (.head _)
  have e : join [32] ((p :: ps).map at_) ++ rest = at_ p ++ (((ps.map at_).flatMap fun b => 32 :: b) ++ rest) := by simp [join]
  rw [e] at hL ⊢
  have hst : Stop (((ps.map at_).flatMap fun b => 32 :: b) ++ rest) := by
    cases ps with
    | nil => simpa using hr.1
    | cons a b => intro c hc; simp at hc; exact .inl hc.symm
  unfold bothOf
  rw [(hb _).2.1, ht _ hst hL]
  simp only
  have h2 := flat_len (ps.map at_) 32
  rw [List.length_map] at h2
  rw [List.length_append, List.length_append] at hL
  exact bothGo_atoms T rest hr at_ ps _ [p] (fun x hx => ⟨(h x (.tail _ hx)).1, fun u hu _ hl => (h x (.tail _ hx)).2 u hu (by omega)⟩) (by rw [List.length_append]; omega)
theorem eitherGo_end (T : Str → Res) (n : Nat) (l : List Q) {r : Str} (h : ∀ c ∈ r.head?, c ≠ 124) : eitherGo T n l r = .ok (several 7 l) r := by
  cases n with
  | zero => rfl
  | succ n =>
    unfold eitherGo
    split
    · rename_i t; exact absurd rfl (h 124 rfl)
    · rfl
theorem eitherGo_parts (T : Str → Res) (rest : Str) (hr : rest = [] ∨ ∃ t, rest = 41 :: t) (at_ : Q → Str) : ∀ (ps : List Q) (n : Nat) (acc : List Q),
    (∀ p ∈ ps, ∀ u, EndB u → (at_ p ++ u).length ≤ ((ps.map at_).flatMap fun b => 32 :: 124 :: 32 :: b).length + rest.length → bothOf T (32 :: (at_ p ++ u)) = .ok p (skipS u)) → ps.length < n →
    eitherGo T n acc (skipS (((ps.map at_).flatMap fun b => 32 :: 124 :: 32 :: b) ++ rest)) = .ok (several 7 (acc ++ ps)) rest
  | [], n, acc, _, hn => by
    have hs : skipS rest = rest := by
      rcases hr with rfl | ⟨t, rfl⟩
      · rfl
      · unfold skipS; rw [List.dropWhile_cons_of_neg (by decide)]
    rw [List.map_nil, List.flatMap_nil, List.nil_append, hs, eitherGo_end T n acc, List.append_nil]
    rcases hr with rfl | ⟨t, rfl⟩
    · intro c hc; cases hc
    · intro c hc; simp at hc; subst hc; decide
  | p :: ps, n, acc, h, hn => by
    cases n with
    | zero => omega
    | succ n =>
      have ht := h p (.head _)
      have e : ((((p :: ps).map at_).flatMap fun b => 32 :: 124 :: 32 :: b) ++ rest) = 32 :: 124 :: 32 :: (at_ p ++ (((ps.map at_).flatMap fun b => 32 :: 124 :: 32 :: b) ++ rest)) := by simp
      have hs : skipS (32 :: 124 :: 32 :: (at_ p ++ (((ps.map at_).flatMap fun b => 32 :: 124 :: 32 :: b) ++ rest))) = 124 :: 32 :: (at_ p ++ (((ps.map at_).flatMap fun b => 32 :: 124 :: 32 :: b) ++ rest)) := by
        unfold skipS
        rw [List.dropWhile_cons_of_pos (by decide), List.dropWhile_cons_of_neg (by decide)]
      have hst : EndB (((ps.map at_).flatMap fun b => 32 :: 124 :: 32 :: b) ++ rest) := by
        cases ps with
        | nil =>
          rcases hr with rfl | ⟨t, rfl⟩
          · exact ⟨fun c hc => (by cases hc), fun c hc => (by cases hc)⟩
          · refine ⟨fun c hc => ?_, fun c hc => ?_⟩
            · simp at hc; exact .inr (.inl hc.symm)
            · simp [skipS] at hc; exact .inl hc.symm
        | cons a b =>
          refine ⟨fun c hc => ?_, fun c hc => ?_⟩
          · simp at hc; exact .inl hc.symm
          · simp [skipS] at hc; exact .inr hc.symm
      have ih := eitherGo_parts T rest hr at_ ps n (acc ++ [p]) (fun x hx u hu hl => h x (.tail _ hx) u hu (by simp only [List.map_cons, List.flatMap_cons, List.length_append, List.length_cons] at *; omega)) (by rw [List.length_cons] at hn; omega)
      rw [e, hs, eitherGo, ht _ hst (by simp only [List.map_cons, List.flatMap_cons, List.length_append, List.length_cons] at *; omega)]
      simp only
      rw [ih, List.append_assoc, List.singleton_append]
theorem bothOf_space (T : Str → Res) (r : Str) : bothOf T (32 :: r) = bothOf T r := by
  unfold bothOf
  have : skipS (32 :: r) = skipS r := by unfold skipS; rw [List.dropWhile_cons_of_pos (by decide)]
  rw [this]
/-- all nodes are as they should -/
def Fine (f : Nat) (q : Q) : Prop := Fits f q ∧ ∀ p ∈ pre f q, errOf p = 0
theorem Fine.part {f : Nat} {q p : Q} (h : Fine (f + 1) q) (hp : p ∈ q.parts) : Fine f p :=
  ⟨h.1 p hp, fun r hr => h.2 r (by rw [pre]; exact .tail _ (List.mem_flatMap.2 ⟨p, hp, hr⟩))⟩
theorem Fine.self {f : Nat} {q : Q} (h : Fine f q) : errOf q = 0 ∧ ∃ g, f = g + 1 := by
  cases f with
  | zero => exact h.1.elim
  | succ g => exact ⟨h.2 q (by rw [pre]; exact .head _), g, rfl⟩
theorem flat3_len (l : List Str) : l.length ≤ (l.flatMap fun b => 32 :: 124 :: 32 :: b).length := by
  induction l with
  | nil => simp
  | cons a l ih => rw [List.flatMap_cons, List.length_append, List.length_cons, List.length_cons]; omega
theorem read_printed : ∀ f : Nat,
    (∀ q, Fine f q → ∀ g u, Stop u → (atom f q ++ u).length < g → termS g (atom f q ++ u) = .ok q u) ∧
    (∀ q, Fine f q → ∀ g u, EndB u → (wrap 7 q (textF f q) ++ u).length < g → bothOf (termS g) (wrap 7 q (textF f q) ++ u) = .ok q (skipS u)) ∧
    (∀ q, Fine f q → ∀ g u, (u = [] ∨ ∃ t, u = 41 :: t) → (textF f q ++ u).length < g → eitherOf (termS g) (textF f q ++ u) = .ok q u)
  | 0 => ⟨fun q h => h.1.elim, fun q h => h.1.elim, fun q h => h.1.elim⟩
  | f + 1 => by
    obtain ⟨ihA, ihD, ihB⟩ := read_printed f
    -- leaves and negations
    have A1 : ∀ q, Fine (f + 1) q → q.kind ≠ 6 → q.kind ≠ 7 → ∀ g u, Stop u → (textF (f + 1) q ++ u).length < g → termS g (textF (f + 1) q ++ u) = .ok q u := by
      intro q hq h6 h7 g u hu hg
      have hform := form_of hq.self.1
      cases g with
      | zero => omega
      | succ g =>
        by_cases h : q.kind < 6
        · exact term_leaf hform h u hu
        · cases hform with
          | no p =>
            have hp := hq.part (p := p) (by simp)
            have e : textF (f + 1) (.node 8 [] 0 [p]) ++ u = 45 :: (atom f p ++ u) := by
              simp [textF, join, wrap8]
            rw [e] at hg ⊢
            rw [termS, ihA p hp g u hu (by rw [List.length_cons] at hg; omega)]
          | all => simp at h
          | word => simp at h
          | pre => simp at h
          | phrase => simp at h
          | near => simp at h
          | both => simp at h6
          | either => simp at h7
    have begunA : ∀ p, Fine f p → Begun (atom f p) := fun p hp => by
      obtain ⟨he, g, rfl⟩ := hp.self
      exact atom_begun (form_of he)
    have one : ∀ q, Fine (f + 1) q → (∀ g u, Stop u → (atom (f + 1) q ++ u).length < g → termS g (atom (f + 1) q ++ u) = .ok q u) → ∀ g u, EndB u → (atom (f + 1) q ++ u).length < g → bothOf (termS g) (atom (f + 1) q ++ u) = .ok q (skipS u) := by
      intro q hq hA g u hu hg
      have := bothOf_atoms (T := termS g) hu (at_ := atom (f + 1)) (p := q) (ps := []) (L := g - 1) (by simp [join]; rw [List.length_append] at hg; omega) (fun x hx => by
        obtain rfl : x = q := by simpa using hx
        exact ⟨atom_begun (form_of hq.self.1), fun v hv hl => hA g v hv (by omega)⟩)
      simpa [join, several] using this
    have six : ∀ q, Fine (f + 1) q → q.kind = 6 → ∀ g u, EndB u → (textF (f + 1) q ++ u).length < g → bothOf (termS g) (textF (f + 1) q ++ u) = .ok q (skipS u) := by
      intro q hq h6 g u hu hg
      have hform := form_of hq.self.1
      cases hform with
      | both l h =>
        match l, h with
        | p :: r :: ps, _ =>
          have e : textF (f + 1) (.node 6 [] 0 (p :: r :: ps)) = join [32] ((p :: r :: ps).map (atom f)) := by
            simp [textF, wrap6]
          rw [e] at hg ⊢
          rw [bothOf_atoms (T := termS g) hu (at_ := atom f) (L := g - 1) (by omega) (fun x hx => by
            have hx' := hq.part (p := x) hx
            exact ⟨begunA x hx', fun v hv hl => ihA x hx' g v hv (by omega)⟩)]
          rfl
      | all => simp at h6
      | word => simp at h6
      | pre => simp at h6
      | phrase => simp at h6
      | near => simp at h6
      | either => simp at h6
      | no => simp at h6
    have atom1 : ∀ q : Q, q.kind ≠ 6 → q.kind ≠ 7 → atom (f + 1) q = textF (f + 1) q := fun q h6 h7 => by
      unfold atom; rw [if_neg (by simp [h6, h7])]
    have B : ∀ q, Fine (f + 1) q → ∀ g u, (u = [] ∨ ∃ t, u = 41 :: t) → (textF (f + 1) q ++ u).length < g → eitherOf (termS g) (textF (f + 1) q ++ u) = .ok q u := by
      intro q hq g u hu hg
      have hE : EndB u := by
        rcases hu with rfl | ⟨t, rfl⟩
        · exact ⟨fun c hc => (by cases hc), fun c hc => (by cases hc)⟩
        · refine ⟨fun c hc => ?_, fun c hc => ?_⟩
          · simp at hc; exact .inr (.inl hc.symm)
          · simp [skipS] at hc; exact .inl hc.symm
      have hs : skipS u = u := by
        rcases hu with rfl | ⟨t, rfl⟩
        · rfl
        · unfold skipS; rw [List.dropWhile_cons_of_neg (by decide)]
      have h124 : ∀ c ∈ u.head?, c ≠ 124 := by
        rcases hu with rfl | ⟨t, rfl⟩
        · intro c hc; cases hc
        · intro c hc; simp at hc; subst hc; decide
      by_cases h7 : q.kind = 7
      · have hform := form_of hq.self.1
        cases hform with
        | either l h =>
          match l, h with
          | p :: r :: ps, _ =>
            have e : textF (f + 1) (.node 7 [] 0 (p :: r :: ps)) ++ u = wrap 7 p (textF f p) ++ ((((r :: ps).map fun x => wrap 7 x (textF f x)).flatMap fun b => 32 :: 124 :: 32 :: b) ++ u) := by
              simp [textF, join]
            rw [e] at hg ⊢
            have hst : EndB ((((r :: ps).map fun x => wrap 7 x (textF f x)).flatMap fun b => 32 :: 124 :: 32 :: b) ++ u) := by
              refine ⟨fun c hc => ?_, fun c hc => ?_⟩
              · simp at hc; exact .inl hc.symm
              · simp [skipS] at hc; exact .inr hc.symm
            unfold eitherOf
            rw [ihD p (hq.part (p := p) (by simp)) g _ hst hg]
            simp only
            have hn := flat3_len ((r :: ps).map fun x => wrap 7 x (textF f x))
            rw [List.length_map] at hn
            rw [eitherGo_parts (termS g) u hu (fun x => wrap 7 x (textF f x)) (r :: ps) _ [p] (fun x hx v hv hl => by
              rw [bothOf_space]
              refine ihD x (hq.part (p := x) (.tail _ hx)) g v hv ?_
              rw [List.length_append, List.length_append] at hg
              omega) (by
              have e2 : skipS ((((r :: ps).map fun x => wrap 7 x (textF f x)).flatMap fun b => 32 :: 124 :: 32 :: b) ++ u) = ((((r :: ps).map fun x => wrap 7 x (textF f x)).flatMap fun b => 32 :: 124 :: 32 :: b) ++ u).tail := by simp [skipS]
              rw [e2, List.length_tail, List.length_append, List.map_cons, List.flatMap_cons, List.length_append] at *
              have hm := flat3_len (ps.map fun x => wrap 7 x (textF f x))
              rw [List.length_map] at hm
              simp only [List.length_cons] at *
              omega)]
            rfl
        | all => simp at h7
        | word => simp at h7
        | pre => simp at h7
        | phrase => simp at h7
        | near => simp at h7
        | both => simp at h7
        | no => simp at h7
      · have hb : bothOf (termS g) (textF (f + 1) q ++ u) = .ok q (skipS u) := by
          by_cases h6 : q.kind = 6
          · exact six q hq h6 g u hE hg
          · have := one q hq (fun g v hv hl => by
              rw [atom1 q h6 h7] at hl ⊢
              exact A1 q hq h6 h7 g v hv hl) g u hE (by rw [atom1 q h6 h7]; exact hg)
            rwa [atom1 q h6 h7] at this
        unfold eitherOf
        rw [hb, hs]
        simp only
        rw [eitherGo_end _ _ _ h124]
        rfl
    have A : ∀ q, Fine (f + 1) q → ∀ g u, Stop u → (atom (f + 1) q ++ u).length < g → termS g (atom (f + 1) q ++ u) = .ok q u := by
      intro q hq g u hu hg
      by_cases h : q.kind = 6 ∨ q.kind = 7
      · have e : atom (f + 1) q ++ u = 40 :: (textF (f + 1) q ++ 41 :: u) := by
          unfold atom; rw [if_pos h]; simp
        rw [e] at hg ⊢
        cases g with
        | zero => omega
        | succ g =>
          unfold termS
          simp only [B q hq g (41 :: u) (.inr ⟨u, rfl⟩) (by rw [List.length_cons] at hg; omega)]
      · rw [not_or] at h
        rw [atom1 q h.1 h.2] at hg ⊢
        exact A1 q hq h.1 h.2 g u hu hg
    refine ⟨A, fun q hq g u hu hg => ?_, B⟩
    by_cases h6 : q.kind = 6
    · have e : wrap 7 q (textF (f + 1) q) = textF (f + 1) q := by unfold wrap; simp [h6]
      rw [e] at hg ⊢
      exact six q hq h6 g u hu hg
    · have e : wrap 7 q (textF (f + 1) q) = atom (f + 1) q := by unfold wrap atom; simp [h6]
      rw [e] at hg ⊢
      exact one q hq (A q hq) g u hu hg
/-- what is printed is read again -/
theorem parse_text {q : Q} (h : (fault q).1 = 0) : parseS (textF 8 q) = .ok q [] := by
  have hg := fault_zero.1 h
  have := (read_printed 8).2.2 q ⟨hg.1, hg.2.2⟩ ((textF 8 q).length + 1) [] (.inl rfl) (by simp)
  rw [List.append_nil] at this
  unfold parseS
  rw [this]
theorem parseF_text {q : Q} (h : (fault q).1 = 0) (hl : (textF 8 q).length ≤ 4000) : parseF (textF 8 q) = (q, 0, 0) := by
  unfold parseF
  rw [if_neg (by omega), parse_text h]
  simp [h]
end Q
end Go.Proofs.YtihhgmpanfboaaaGreatDoor
