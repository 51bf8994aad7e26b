/- Texts of this claim, one behind the other. -/
import Derived.Test.YtpgjhjlhipikgaaDoorMCx5
import Derived.Test.YtpgjhjlhipikgaaDoorMCx6
import Derived.Test.YtpgjhjlhipikgaaDoorMFx1
section
set_option linter.unusedVariables false
set_option linter.unusedSimpArgs false
namespace Go.Proofs.YtpgjhjlhipikgaaDoor.PK
open Go.RowKit Go.Proofs.YtpgjhjlhipikgaaDoorW.PrintWords Go.Proofs.YtpgjhjlhipikgaaDoorW.PrintLast Go.Proofs.YtpgjhjlhipikgaaDoorW.PrintMore
theorem sl_at_left (a b : List UInt8) (i : Nat) (h : i < a.length) : m_at (a ++ b) i = m_at a i := by
  simp [m_at, List.getD_eq_getElem?_getD, List.getElem?_append_left h]
theorem sl_at_right (a b : List UInt8) (i : Nat) : m_at (a ++ b) (a.length + i) = m_at b i := by
  simp [m_at, List.getD_eq_getElem?_getD, List.getElem?_append_right]
theorem sl_space_not (l : List UInt8) (i : Nat) (h : m_at l i = 32) : m_ends l i = false := by
  unfold m_ends; rw [h]; rfl
theorem sl_space_initial (l : List UInt8) (i : Nat) (h : m_at l i = 32) : m_initial l i = false := by
  unfold m_initial; rw [h]; rfl
/-- Spaces alone. -/
def AllSp (s : List UInt8) : Prop := ∀ c ∈ s, c = 32
theorem AllSp.at {s : List UInt8} (h : AllSp s) (i : Nat) (hi : i < s.length) : m_at s i = 32 := by
  have := h s[i] (List.getElem_mem hi)
  simp [m_at, List.getD_eq_getElem?_getD, hi, this]
/-- Nothing, or a space at the head. -/
def SpHead (s : List UInt8) : Prop := s = [] ∨ ∃ t, s = 32 :: t
theorem SpHead.at {s : List UInt8} (h : SpHead s) (hs : s ≠ []) : m_at s 0 = 32 := by
  rcases h with h | ⟨t, rfl⟩
  · exact absurd h hs
  · rfl
/-- In a text after spaces, and ahead of nothing or of a space, the ends are those of the text alone. -/
theorem sl_ends_mid (sp x rest : List UInt8) (hsp : AllSp sp) (hr : SpHead rest) (j : Nat) (hj : j < x.length) : m_ends (sp ++ x ++ rest) (sp.length + j) = m_ends x j := by
  have e0 : ∀ k, k < x.length → m_at (sp ++ x ++ rest) (sp.length + k) = m_at x k := fun k hk => by
    rw [sl_at_left _ _ _ (by simp; omega), sl_at_right]
  have e1 : (decide ((sp ++ x ++ rest).length ≤ sp.length + j + 1) || m_at (sp ++ x ++ rest) (sp.length + j + 1) == 32) = (decide (x.length ≤ j + 1) || m_at x (j + 1) == 32) := by
    by_cases h : j + 1 < x.length
    · rw [show sp.length + j + 1 = sp.length + (j + 1) by omega, e0 _ h]
      congr 1
      rw [decide_eq_false (by simp; omega), decide_eq_false (by omega)]
    · have hx : x.length = j + 1 := by omega
      rw [decide_eq_true (show x.length ≤ j + 1 by omega), Bool.true_or]
      by_cases hn : rest = []
      · subst hn
        rw [decide_eq_true (by simp; omega), Bool.true_or]
      · have : m_at (sp ++ x ++ rest) (sp.length + j + 1) = 32 := by
          rw [show sp.length + j + 1 = (sp ++ x).length + 0 by simp; omega, sl_at_right]
          exact hr.at hn
        rw [this]; simp
  have e2 : (decide (1 ≤ sp.length + j) && m_initial (sp ++ x ++ rest) (sp.length + j - 1)) = (decide (1 ≤ j) && m_initial x (j - 1)) := by
    rcases Nat.eq_zero_or_pos j with h | h
    · subst h
      rw [decide_eq_false (show ¬ 1 ≤ 0 by omega), Bool.false_and]
      rcases Nat.eq_zero_or_pos sp.length with hs | hs
      · rw [hs]; rfl
      · rw [sl_space_initial _ _ (by rw [List.append_assoc, sl_at_left _ _ _ (by omega)]; exact hsp.at _ (by omega)), Bool.and_false]
    · rw [decide_eq_true (show 1 ≤ sp.length + j by omega), decide_eq_true (show 1 ≤ j by omega), Bool.true_and, Bool.true_and]
      unfold m_initial
      rw [show sp.length + j - 1 = sp.length + (j - 1) by omega, e0 _ (by omega)]
      congr 1
      by_cases h1 : j - 1 = 0
      · rw [decide_eq_true h1, Bool.true_or, h1]
        rcases Nat.eq_zero_or_pos sp.length with hs | hs
        · rw [decide_eq_true (by omega), Bool.true_or]
        · rw [show m_at (sp ++ x ++ rest) (sp.length + 0 - 1) = 32 by rw [List.append_assoc, sl_at_left _ _ _ (by omega)]; exact hsp.at _ (by omega)]
          simp
      · rw [decide_eq_false h1, decide_eq_false (by omega), show sp.length + (j - 1) - 1 = sp.length + (j - 1 - 1) by omega, e0 _ (by omega)]
  unfold m_ends
  rw [e0 _ hj, e1]
  congr 1
  congr 1
  rw [Bool.and_assoc, Bool.and_assoc, e2]
theorem sl_ends_sp (sp y : List UInt8) (hsp : AllSp sp) (j : Nat) (hj : j < sp.length) : m_ends (sp ++ y) j = false :=
  sl_space_not _ _ (by rw [sl_at_left _ _ _ hj]; exact hsp.at _ hj)
/-- Behind a sentence the rest is read as if it stood alone. -/
theorem sl_ends_rest (pre rest : List UInt8) (hr : SpHead rest) (j : Nat) (hj : j < rest.length) : m_ends (pre ++ rest) (pre.length + j) = m_ends rest j := by
  rcases hr with h | ⟨t, rfl⟩
  · subst h; simp at hj
  · cases j with
    | zero => rw [sl_space_not (32 :: t) 0 rfl, sl_space_not]; rw [sl_at_right]; rfl
    | succ j =>
      have h := sl_ends_mid (pre ++ [32]) t [] 
      have e0 : ∀ k, m_at (pre ++ 32 :: t) (pre.length + k) = m_at (32 :: t) k := fun k => sl_at_right _ _ _
      unfold m_ends
      rw [e0, show pre.length + (j + 1) + 1 = pre.length + (j + 1 + 1) by omega, e0]
      have e1 : decide ((pre ++ 32 :: t).length ≤ pre.length + (j + 1 + 1)) = decide ((32 :: t).length ≤ j + 1 + 1) := by
        rw [decide_eq_decide]; simp <;> omega
      rw [e1]
      congr 1
      rw [decide_eq_true (show 1 ≤ pre.length + (j + 1) by omega), decide_eq_true (show 1 ≤ j + 1 by omega)]
      congr 2
      cases j with
      | zero =>
        rw [sl_space_initial (32 :: t) _ rfl, sl_space_initial]
        rw [show pre.length + (0 + 1) - 1 = pre.length + 0 by omega, e0]; rfl
      | succ j =>
        unfold m_initial
        rw [show pre.length + (j + 1 + 1) - 1 = pre.length + (j + 1) by omega, e0, show pre.length + (j + 1) - 1 = pre.length + j by omega, e0, decide_eq_false (show ¬ pre.length + (j + 1) = 0 by omega), decide_eq_false (show ¬ j + 1 + 1 - 1 = 0 by omega)]
        rfl
theorem sl_go_skip (l : List UInt8) : ∀ (k d i a : Nat), (∀ j, i ≤ j → j < i + k → m_ends l j = false) → m_sentGo l (k + d) i a = m_sentGo l d (i + k) a
  | 0, d, i, a, _ => by rw [Nat.zero_add, Nat.add_zero]
  | k + 1, d, i, a, h => by
    rw [show k + 1 + d = (k + d) + 1 by omega, m_sentGo, h i (Nat.le_refl _) (by omega), if_neg (by simp), sl_go_skip l k d (i + 1) a (fun j h1 h2 => h j (by omega) (by omega)), show i + 1 + k = i + (k + 1) by omega]
theorem sl_go_shift (pre rest : List UInt8) (hr : SpHead rest) : ∀ (d i a : Nat), i + d = rest.length → a ≤ i → m_sentGo (pre ++ rest) d (pre.length + i) (pre.length + a) = m_sentGo rest d i a
  | 0, i, a, _, _ => by rw [m_sentGo, m_sentGo, List.drop_append, List.drop_eq_nil_of_le (show pre.length ≤ pre.length + a by omega), Nat.add_sub_cancel_left]; rfl
  | d + 1, i, a, h, ha => by
    rw [m_sentGo, m_sentGo, sl_ends_rest pre rest hr i (by omega), List.drop_append, List.drop_eq_nil_of_le (show pre.length ≤ pre.length + a by omega), Nat.add_sub_cancel_left, List.nil_append,
      show pre.length + i + 1 - (pre.length + a) = i + 1 - a by omega, show pre.length + i + 1 = pre.length + (i + 1) by omega, sl_go_shift pre rest hr d (i + 1) (i + 1) (by omega) (Nat.le_refl _), sl_go_shift pre rest hr d (i + 1) a (by omega) (by omega)]
/-! trimming -/
theorem sl_dropWhile_sp (sp x : List UInt8) (hsp : AllSp sp) : (sp ++ x).dropWhile (· == 32) = x.dropWhile (· == 32) := by
  induction sp with
  | nil => rfl
  | cons c sp ih =>
    have hc : c = 32 := hsp c (by simp)
    subst hc
    rw [List.cons_append, List.dropWhile_cons_of_pos (by rfl), ih (fun c hc => hsp c (by simp [hc]))]
theorem AllSp.reverse {s : List UInt8} (h : AllSp s) : AllSp s.reverse := fun c hc => h c (List.mem_reverse.1 hc)
/-- No space at either end, and something there. -/
def Neat (x : List UInt8) : Prop := x.head? ≠ some 32 ∧ x.getLast? ≠ some 32 ∧ x ≠ []
theorem sl_dropWhile_neat (x : List UInt8) (h : x.head? ≠ some 32) : x.dropWhile (· == 32) = x := by
  cases x with
  | nil => rfl
  | cons c x => rw [List.dropWhile_cons_of_neg]; simpa using h
theorem sl_trim (sp x sq : List UInt8) (h1 : AllSp sp) (h2 : AllSp sq) (hx : Neat x) : m_trim (sp ++ x ++ sq) = x := by
  obtain ⟨n1, n2, n3⟩ := hx
  unfold m_trim
  rw [List.reverse_append, sl_dropWhile_sp _ _ h2.reverse, List.reverse_append]
  obtain ⟨y, c, rfl⟩ : ∃ y c, x = y ++ [c] := ⟨x.dropLast, x.getLast n3, (List.dropLast_concat_getLast n3).symm⟩
  have hc : (c == 32) = false := by simpa using n2
  rw [List.reverse_append, List.reverse_singleton, List.singleton_append, List.cons_append, List.dropWhile_cons_of_neg (by simp [hc]), List.reverse_cons, List.reverse_append, List.reverse_reverse, List.reverse_reverse, List.append_assoc, sl_dropWhile_sp _ _ h1, sl_dropWhile_neat _ n1]
theorem sl_trim_sp (s : List UInt8) (h : AllSp s) : m_trim s = [] := by
  have h1 : s.reverse.dropWhile (· == 32) = [] := by
    have := sl_dropWhile_sp s.reverse [] h.reverse
    rw [List.append_nil] at this
    exact this
  unfold m_trim
  rw [h1]; rfl
/-- What a text is about its trimmed text. -/
theorem sl_head_split (l : List UInt8) : ∃ sp y, l = sp ++ y ∧ AllSp sp ∧ y.head? ≠ some 32 := by
  induction l with
  | nil => exact ⟨[], [], rfl, (fun _ h => by cases h), by simp⟩
  | cons c l ih =>
    by_cases hc : c = 32
    · obtain ⟨sp, y, h1, h2, h3⟩ := ih
      refine ⟨c :: sp, y, by rw [h1]; rfl, fun d hd => ?_, h3⟩
      rcases List.mem_cons.1 hd with rfl | hd
      · exact hc
      · exact h2 d hd
    · exact ⟨[], c :: l, rfl, (fun _ h => by cases h), by simpa using hc⟩
theorem sl_split (l : List UInt8) : AllSp l ∨ ∃ sp x sq, l = sp ++ x ++ sq ∧ AllSp sp ∧ AllSp sq ∧ Neat x := by
  obtain ⟨sp, y, h1, h2, h3⟩ := sl_head_split l
  by_cases hy : y = []
  · left; rw [h1, hy, List.append_nil]; exact h2
  · right
    obtain ⟨sq, z, g1, g2, g3⟩ := sl_head_split y.reverse
    have hyz : y = z.reverse ++ sq.reverse := by rw [← List.reverse_append, ← g1, List.reverse_reverse]
    refine ⟨sp, z.reverse, sq.reverse, by rw [h1, hyz, List.append_assoc], h2, g2.reverse, ?_, by rw [List.getLast?_reverse]; exact g3, ?_⟩
    · cases hz : z.reverse with
      | nil => simp
      | cons c z' =>
        rw [hyz, hz] at h3
        simpa using h3
    · intro hz
      rw [hz, List.nil_append] at hyz
      cases hs : sq.reverse with
      | nil => exact hy (by rw [hyz, hs])
      | cons c s' =>
        rw [hyz, hs] at h3
        have := g2.reverse c (by rw [hs]; simp)
        subst this
        simp at h3
/-! sentences -/
/-- A sentence that ends: its only end is its last byte. -/
def Ended (x : List UInt8) : Prop := Neat x ∧ m_ends x (x.length - 1) = true ∧ ∀ j, j + 1 < x.length → m_ends x j = false
/-- What follows the last end. -/
def Open (x : List UInt8) : Prop := Neat x ∧ ∀ j, j < x.length → m_ends x j = false
theorem sl_sent_sp (s : List UInt8) (h : AllSp s) : m_sent s = [] := by
  unfold m_sent
  have := sl_go_skip s s.length 0 0 0 (fun j _ hj => sl_space_not _ _ (h.at j (by omega)))
  rw [Nat.add_zero] at this
  rw [this, m_sentGo, List.drop_zero, sl_trim_sp s h, if_pos rfl]
theorem sl_sent_open (sp x sq : List UInt8) (h1 : AllSp sp) (h2 : AllSp sq) (hx : Open x) : m_sent (sp ++ x ++ sq) = [x] := by
  have hq : SpHead sq := by
    cases sq with
    | nil => exact .inl rfl
    | cons c s => exact .inr ⟨s, by rw [h2 c (by simp)]⟩
  unfold m_sent
  have := sl_go_skip (sp ++ x ++ sq) (sp ++ x ++ sq).length 0 0 0 (fun j _ hj => by
    by_cases a : j < sp.length
    · rw [List.append_assoc]; exact sl_ends_sp _ _ h1 j a
    · by_cases b : j < sp.length + x.length
      · obtain ⟨k, rfl⟩ : ∃ k, j = sp.length + k := ⟨j - sp.length, by omega⟩
        rw [sl_ends_mid sp x sq h1 hq k (by omega)]
        exact hx.2 k (by omega)
      · refine sl_space_not _ _ ?_
        obtain ⟨k, rfl⟩ : ∃ k, j = (sp ++ x).length + k := ⟨j - (sp ++ x).length, by simp; omega⟩
        rw [sl_at_right]
        exact h2.at k (by simp at hj; omega))
  rw [Nat.add_zero] at this
  rw [this, m_sentGo, List.drop_zero, sl_trim _ _ _ h1 h2 hx.1, if_neg hx.1.2.2]
theorem sl_sent_ended (sp x rest : List UInt8) (h1 : AllSp sp) (hr : SpHead rest) (hx : Ended x) : m_sent (sp ++ x ++ rest) = x :: m_sent rest := by
  have hn : 0 < x.length := List.length_pos_iff.2 hx.1.2.2
  unfold m_sent
  have hlen : (sp ++ x ++ rest).length = (sp.length + (x.length - 1)) + (1 + rest.length) := by simp; omega
  rw [hlen, sl_go_skip (sp ++ x ++ rest) (sp.length + (x.length - 1)) (1 + rest.length) 0 0 (fun j _ hj => by
    by_cases a : j < sp.length
    · rw [List.append_assoc]; exact sl_ends_sp _ _ h1 j a
    · obtain ⟨k, rfl⟩ : ∃ k, j = sp.length + k := ⟨j - sp.length, by omega⟩
      rw [sl_ends_mid sp x rest h1 hr k (by omega)]
      exact hx.2.2 k (by omega)),
    Nat.add_comm 1, m_sentGo, Nat.zero_add, sl_ends_mid sp x rest h1 hr _ (by omega), hx.2.1, if_pos rfl, List.drop_zero, Nat.sub_zero]
  have e : sp.length + (x.length - 1) + 1 = (sp ++ x).length := by simp; omega
  rw [e, List.take_left]
  have ht := sl_trim sp x [] h1 (fun _ h => by cases h) hx.1
  rw [List.append_nil] at ht
  rw [ht]
  congr 1
  have := sl_go_shift (sp ++ x) rest hr rest.length 0 0 (Nat.zero_add _) (Nat.le_refl _)
  rw [Nat.add_zero] at this
  exact this
/-- Every text is spaces alone, or what is left open among spaces, or a sentence that ends and a rest. -/
theorem sl_cases (l : List UInt8) : AllSp l ∨ (∃ sp x sq, l = sp ++ x ++ sq ∧ AllSp sp ∧ AllSp sq ∧ Open x) ∨ (∃ sp x rest, l = sp ++ x ++ rest ∧ AllSp sp ∧ SpHead rest ∧ Ended x) := by
  by_cases hex : ∃ i, i < l.length ∧ m_ends l i = true
  · have hfind : ∃ i, (i < l.length ∧ m_ends l i = true) ∧ ∀ j, j < i → m_ends l j = false := by
      obtain ⟨i, hi⟩ := hex
      induction i using Nat.strongRecOn with
      | _ i ih =>
        by_cases h : ∃ j, j < i ∧ m_ends l j = true
        · obtain ⟨j, hj, hj2⟩ := h
          exact ih j hj ⟨by omega, hj2⟩
        · exact ⟨i, hi, fun j hj => by
            cases hb : m_ends l j with
            | false => rfl
            | true => exact absurd ⟨j, hj, hb⟩ h⟩
    obtain ⟨i, ⟨hi, he⟩, hmin⟩ := hfind
    refine .inr (.inr ?_)
    have hsplit : l = l.take (i + 1) ++ l.drop (i + 1) := (List.take_append_drop _ _).symm
    have hlen : (l.take (i + 1)).length = i + 1 := by rw [List.length_take]; omega
    have hchar : m_at l i ≠ 32 := fun h => by rw [sl_space_not _ _ h] at he; cases he
    have hlast : m_at (l.take (i + 1)) i ≠ 32 := by
      rw [← sl_at_left _ (l.drop (i + 1)) i (by omega), ← hsplit]; exact hchar
    have hrest : SpHead (l.drop (i + 1)) := by
      cases hd : l.drop (i + 1) with
      | nil => exact .inl rfl
      | cons c t =>
        refine .inr ⟨t, ?_⟩
        have hl2 : i + 1 < l.length := by
          have := congrArg List.length hd
          simp at this; omega
        unfold m_ends at he
        simp only [Bool.and_eq_true, Bool.or_eq_true, decide_eq_true_eq, beq_iff_eq] at he
        rcases he.1.2 with h | h
        · omega
        · have h' : m_at (l.take (i + 1) ++ l.drop (i + 1)) ((l.take (i + 1)).length + 0) = 32 := by rw [← hsplit, hlen]; exact h
          rw [sl_at_right, hd] at h'
          rw [show c = 32 from h']
    rcases sl_split (l.take (i + 1)) with h | ⟨sp, x, sq, h1, h2, h3, h4⟩
    · exact absurd (h.at i (by omega)) hlast
    · have hsq : sq = [] := by
        cases hq : sq with
        | nil => rfl
        | cons c s =>
          exfalso
          apply hlast
          have hll := congrArg List.length h1
          rw [hlen] at hll
          simp only [List.length_append] at hll
          have hpos : 0 < sq.length := by rw [hq]; simp
          rw [h1, show i = (sp ++ x).length + (sq.length - 1) by simp; omega, sl_at_right]
          exact h3.at _ (by omega)
      subst hsq
      rw [List.append_nil] at h1
      have hll := congrArg List.length h1
      rw [hlen] at hll
      simp only [List.length_append] at hll
      have hn : 0 < x.length := List.length_pos_iff.2 h4.2.2
      have hl : l = sp ++ x ++ l.drop (i + 1) := by rw [← h1]; exact hsplit
      refine ⟨sp, x, l.drop (i + 1), hl, h2, hrest, h4, ?_, fun j hj => ?_⟩
      · rw [← sl_ends_mid sp x _ h2 hrest _ (by omega), ← hl, show sp.length + (x.length - 1) = i by omega]; exact he
      · rw [← sl_ends_mid sp x _ h2 hrest _ (by omega), ← hl]; exact hmin _ (by omega)
  · have hno : ∀ j, j < l.length → m_ends l j = false := fun j hj => by
      cases hb : m_ends l j with
      | false => rfl
      | true => exact absurd ⟨j, hj, hb⟩ hex
    rcases sl_split l with h | ⟨sp, x, sq, h1, h2, h3, h4⟩
    · exact .inl h
    · refine .inr (.inl ⟨sp, x, sq, h1, h2, h3, h4, fun j hj => ?_⟩)
      have hq : SpHead sq := by
        cases sq with
        | nil => exact .inl rfl
        | cons c s => exact .inr ⟨s, by rw [h3 c (by simp)]⟩
      rw [← sl_ends_mid sp x sq h2 hq j hj, ← h1]
      exact hno _ (by rw [h1]; simp; omega)
/-- The sentences of a text, by its parts. -/
inductive Parts : List UInt8 → List (List UInt8) → Prop where
  | none (s : List UInt8) (h : AllSp s) : Parts s []
  | last (sp x sq : List UInt8) (h1 : AllSp sp) (h2 : AllSp sq) (hx : Open x) : Parts (sp ++ x ++ sq) [x]
  | more (sp x rest : List UInt8) (xs : List (List UInt8)) (h1 : AllSp sp) (hr : SpHead rest) (hx : Ended x) (h : Parts rest xs) : Parts (sp ++ x ++ rest) (x :: xs)
theorem Parts.sent {l : List UInt8} {xs : List (List UInt8)} (h : Parts l xs) : m_sent l = xs := by
  induction h with
  | none s h => exact sl_sent_sp s h
  | last sp x sq h1 h2 hx => exact sl_sent_open sp x sq h1 h2 hx
  | more sp x rest xs h1 hr hx h ih => rw [sl_sent_ended sp x rest h1 hr hx, ih]
theorem sl_parts (l : List UInt8) : Parts l (m_sent l) := by
  have key : ∀ n (l : List UInt8), l.length = n → Parts l (m_sent l) := by
    intro n
    induction n using Nat.strongRecOn with
    | _ n ih =>
      intro l hl
      rcases sl_cases l with h | ⟨sp, x, sq, rfl, h2, h3, h4⟩ | ⟨sp, x, rest, rfl, h2, h3, h4⟩
      · rw [sl_sent_sp l h]; exact .none l h
      · rw [sl_sent_open sp x sq h2 h3 h4]; exact .last sp x sq h2 h3 h4
      · rw [sl_sent_ended sp x rest h2 h3 h4]
        have hn : 0 < x.length := List.length_pos_iff.2 h4.1.2.2
        exact .more sp x rest _ h2 h3 h4 (ih rest.length (by simp at hl; omega) rest rfl)
  exact key _ l rfl
theorem Parts.space {l : List UInt8} {xs : List (List UInt8)} (h : Parts l xs) : Parts (32 :: l) xs := by
  have hc : ∀ sp, AllSp sp → AllSp (32 :: sp) := fun sp h c hc => by
    rcases List.mem_cons.1 hc with rfl | hc
    · rfl
    · exact h c hc
  cases h with
  | none s h => exact .none _ (hc _ h)
  | last sp x sq h1 h2 hx => exact .last (32 :: sp) x sq (hc _ h1) h2 hx
  | more sp x rest xs h1 hr hx h => exact .more (32 :: sp) x rest xs (hc _ h1) hr hx h
/-- Joined by single spaces, they are the same sentences. -/
theorem Parts.join {l : List UInt8} {xs : List (List UInt8)} (h : Parts l xs) : Parts (m_join xs) xs := by
  have hnil : AllSp [] := fun _ h => by cases h
  induction h with
  | none s h => exact .none [] hnil
  | last sp x sq h1 h2 hx =>
    have := Parts.last [] x [] hnil hnil hx
    rw [List.nil_append, List.append_nil] at this
    exact this
  | more sp x rest xs h1 hr hx h ih =>
    cases xs with
    | nil =>
      have := Parts.more [] x [] [] hnil (.inl rfl) hx (.none [] hnil)
      rw [List.nil_append, List.append_nil] at this
      exact this
    | cons y ys =>
      have := Parts.more [] x (32 :: m_join (y :: ys)) (y :: ys) hnil (.inr ⟨_, rfl⟩) hx ih.space
      rw [List.nil_append] at this
      exact this
theorem sl_joined (l : List UInt8) : m_sent (m_join (m_sent l)) = m_sent l := (sl_parts l).join.sent
/-- Each is neat; without spaces they are the text. -/
theorem Parts.neat {l : List UInt8} {xs : List (List UInt8)} (h : Parts l xs) : (∀ x ∈ xs, Neat x) ∧ xs.flatMap (·.filter (· != 32)) = l.filter (· != 32) := by
  have hsp : ∀ s : List UInt8, AllSp s → s.filter (· != 32) = [] := fun s h => by
    rw [List.filter_eq_nil_iff]
    intro c hc
    simp [h c hc]
  induction h with
  | none s h => exact ⟨by simp, by rw [hsp s h]; rfl⟩
  | last sp x sq h1 h2 hx =>
    refine ⟨by simpa using hx.1, ?_⟩
    rw [List.filter_append, List.filter_append, hsp sp h1, hsp sq h2]
    simp
  | more sp x rest xs h1 hr hx h ih =>
    refine ⟨?_, ?_⟩
    · intro y hy
      rcases List.mem_cons.1 hy with rfl | hy
      · exact hx.1
      · exact ih.1 y hy
    · rw [List.flatMap_cons, ih.2, List.filter_append, List.filter_append, hsp sp h1, List.nil_append]
/-- What stands in the joined sentences stands in the text, or is a space. -/
theorem Parts.mem {l : List UInt8} {xs : List (List UInt8)} (h : Parts l xs) : ∀ x ∈ xs, ∀ c ∈ x, c ∈ l := by
  induction h with
  | none s h => simp
  | last sp x sq h1 h2 hx => intro y hy c hc; simp at hy; subst hy; simp [hc]
  | more sp x rest xs h1 hr hx h ih =>
    intro y hy c hc
    rcases List.mem_cons.1 hy with rfl | hy
    · simp [hc]
    · simp [ih y hy c hc]
theorem sl_join_mem : ∀ (xs : List (List UInt8)) (c : UInt8), c ∈ m_join xs → c = 32 ∨ ∃ x ∈ xs, c ∈ x
  | [], c, h => by cases h
  | [x], c, h => .inr ⟨x, by simp, h⟩
  | x :: y :: l, c, h => by
    rw [m_join, List.mem_append, List.mem_cons] at h
    rcases h with h | h | h
    · exact .inr ⟨x, by simp, h⟩
    · exact .inl h
    · rcases sl_join_mem (y :: l) c h with h | ⟨z, hz, hc⟩
      · exact .inl h
      · exact .inr ⟨z, by simp only [List.mem_cons] at hz ⊢; exact .inr hz, hc⟩
theorem Parts.join_len {l : List UInt8} {xs : List (List UInt8)} (h : Parts l xs) : (m_join xs).length ≤ 2 * l.length := by
  induction h with
  | none s h => simp [m_join]
  | last sp x sq h1 h2 hx => simp [m_join]; omega
  | more sp x rest xs h1 hr hx h ih =>
    have hn : 0 < x.length := List.length_pos_iff.2 hx.1.2.2
    cases xs with
    | nil => simp [m_join]; omega
    | cons y ys =>
      simp only [m_join, List.length_append, List.length_cons] at ih ⊢
      omega
end Go.Proofs.YtpgjhjlhipikgaaDoor.PK
end
section
set_option linter.unusedVariables false
set_option linter.unusedSimpArgs false
namespace Go.Proofs.YtpgjhjlhipikgaaDoor.PK
open Go.RowKit Go.Proofs.YtpgjhjlhipikgaaDoorW.PrintWords Go.Proofs.YtpgjhjlhipikgaaDoorW.PrintLast Go.Proofs.YtpgjhjlhipikgaaDoorW.PrintMore
theorem pu_mn (a b : Int) : mn a b = if b < a then b else a := rfl
theorem pu_cut (a0 : ByteArray) (m : Int) (hm : 0 ≤ m) : 0 ≤ mn (a0.size : Int) m ∧ mn (a0.size : Int) m ≤ (a0.size : Int) ∧ (a0.extract 0 (mn (a0.size : Int) m).toNat).size ≤ m.toNat := by
  rw [pu_mn]
  refine ⟨by split <;> omega, by split <;> omega, ?_⟩
  rw [ByteArray.size_extract]
  split <;> omega
theorem pu_w1 (n : Nat) (h : n ≤ 9000000000000000000) : wrap64 ((n : Int) + 1) = ((n + 1 : Nat) : Int) := by unfold wrap64; omega
theorem pu_wm1 (n : Nat) (h : n ≤ 9000000000000000000) (h0 : 1 ≤ n) : wrap64 ((n : Int) - 1) = ((n - 1 : Nat) : Int) := by unfold wrap64; omega
theorem pu_rd (xs : List ByteArray) (j : Nat) (h : j < xs.length) : rdOf ByteArray.empty xs (j : Int) = xs[j] := by
  simp [rdOf, List.getD_eq_getElem?_getD, h]
theorem pu_bt (s : ByteArray) (n : Nat) (h : n < s.size) : bt s (n : Int) = ((m_at s.data.toList n).toNat : Int) := by
  unfold bt
  rw [dif_pos (by rw [Int.toNat_natCast]; exact h)]
  have h2 : n < s.data.toList.length := by rw [Array.length_toList]; exact h
  simp only [Int.toNat_natCast, m_at, List.getD_eq_getElem?_getD, List.getElem?_eq_getElem h2, Option.getD_some]
  rfl
theorem pu_size (l : List UInt8) : (⟨l.toArray⟩ : ByteArray).size = l.length := by simp [ByteArray.size]
theorem pu_len (s : ByteArray) : s.data.toList.length = s.size := Array.length_toList
theorem pu_app (a b : List UInt8) : (⟨a.toArray⟩ : ByteArray) ++ ⟨b.toArray⟩ = ⟨(a ++ b).toArray⟩ := cd_ba_inj _ _ (by rw [ByteArray.data_append, Array.toList_append])
theorem pu_toList (s : ByteArray) : s.toList = s.data.toList := ByteArray.toList_eq ..
theorem pu_nat32 (c : UInt8) : ((c.toNat : Int) = 32) ↔ c = 32 := by
  constructor
  · intro h; apply UInt8.toNat_inj.1; show c.toNat = 32; omega
  · rintro rfl; rfl
/-! more about sentences -/
theorem Parts.len {l : List UInt8} {xs : List (List UInt8)} (h : Parts l xs) : (∀ x ∈ xs, x.length ≤ l.length) ∧ xs.length ≤ l.length := by
  induction h with
  | none s h => simp
  | last sp x sq h1 h2 hx =>
    have hn : 0 < x.length := List.length_pos_iff.2 hx.1.2.2
    exact ⟨by simp; omega, by simp; omega⟩
  | more sp x rest xs h1 hr hx h ih =>
    have hn : 0 < x.length := List.length_pos_iff.2 hx.1.2.2
    refine ⟨?_, by simp; omega⟩
    intro y hy
    rcases List.mem_cons.1 hy with rfl | hy
    · simp; omega
    · have := ih.1 y hy; simp; omega
def m_bas (ys : List (List UInt8)) : List ByteArray := ys.map (fun x => ⟨x.toArray⟩)
theorem m_bas_get (ys : List (List UInt8)) (j : Nat) (h : j < ys.length) (h' : j < (m_bas ys).length) : (m_bas ys)[j] = ⟨(ys[j]).toArray⟩ := by simp [m_bas]
theorem m_bas_len (ys : List (List UInt8)) : (m_bas ys).length = ys.length := by simp [m_bas]
end Go.Proofs.YtpgjhjlhipikgaaDoor.PK
end
section
set_option linter.unusedVariables false
set_option linter.unusedSimpArgs false
namespace Go.Proofs.YtpgjhjlhipikgaaDoor.Pure
open Go.RowKit Go.Proofs.YtpgjhjlhipikgaaDoor.PK Go.Proofs.YtpgjhjlhipikgaaDoorW.PrintWords Go.Proofs.YtpgjhjlhipikgaaDoorW.PrintLast
def pl_E (x0 : ByteArray) (x1 : Int) : Option Bool := if (wrap64 (x1 - 1)) ≥ 0 then (if 0 ≤ (wrap64 (x1 - 1)) then (if (wrap64 (x1 - 1)) < (x0.size : Int) then (if (bt x0 (wrap64 (x1 - 1))) ≥ 65 then (if (bt x0 (wrap64 (x1 - 1))) ≤ 90 then (if (wrap64 (x1 - 1)) = 0 then (if 0 ≤ x1 then (if x1 < (x0.size : Int) then (if (bt x0 x1) = 46 then (some (!true)) else (some true)) else (none)) else (none)) else (if 0 ≤ (wrap64 ((wrap64 (x1 - 1)) - 1)) then (if (wrap64 ((wrap64 (x1 - 1)) - 1)) < (x0.size : Int) then (if 0 ≤ x1 then (if x1 < (x0.size : Int) then (if (bt x0 x1) = 46 then (some (!((bt x0 (wrap64 ((wrap64 (x1 - 1)) - 1))) == 32))) else (some true)) else (none)) else (none)) else (none)) else (none))) else (if 0 ≤ x1 then (if x1 < (x0.size : Int) then (if (bt x0 x1) = 46 then (some (!false)) else (some true)) else (none)) else (none))) else (if 0 ≤ x1 then (if x1 < (x0.size : Int) then (if (bt x0 x1) = 46 then (some (!false)) else (some true)) else (none)) else (none))) else (none)) else (none)) else (if 0 ≤ x1 then (if x1 < (x0.size : Int) then (if (bt x0 x1) = 46 then (some (!false)) else (some true)) else (none)) else (none))
theorem pl_j0 (k : Nat) (s : ByteArray) (i : Int) (b : Bool) : copydeskref03_ends.j0 (k + 1) s i b = if b = true then some false else (if wrap64 (i + 1) < (s.size : Int) then (if 0 ≤ wrap64 (i + 1) then (if bt s (wrap64 (i + 1)) = 32 then pl_E s i else some false) else none) else pl_E s i) := rfl
theorem pl_nat (c : UInt8) (n : Nat) (hn : n < 256) : ((c.toNat : Int) = (n : Int)) ↔ c = UInt8.ofNat n := by
  constructor
  · intro h
    apply UInt8.toNat_inj.1
    rw [cd_toNat n hn]; omega
  · rintro rfl; rw [cd_toNat n hn]
theorem pl_Eeq (s : ByteArray) (i : Nat) (hi : i < s.size) (hs : s.size ≤ 1000000) : pl_E s (i : Int) = some (!(m_at s.data.toList i == 46 && decide (1 ≤ i) && m_initial s.data.toList (i - 1))) := by
  have b0 : 0 ≤ (i : Int) := by omega
  have b1 : (i : Int) < (s.size : Int) := by omega
  have h46 : ((m_at s.data.toList i).toNat : Int) = 46 ↔ m_at s.data.toList i = 46 := pl_nat _ 46 (by omega)
  have fin : ∀ q : Bool, (if 0 ≤ (i : Int) then (if (i : Int) < (s.size : Int) then (if bt s (i : Int) = 46 then some (!q) else some true) else none) else none) = some (!(m_at s.data.toList i == 46 && q)) := fun q => by
    rw [if_pos b0, if_pos b1, pu_bt s i hi]
    by_cases h : m_at s.data.toList i = 46
    · rw [if_pos (h46.2 h), h]; rfl
    · rw [if_neg (fun e => h (h46.1 e)), show (m_at s.data.toList i == 46) = false by simpa using h]; rfl
  unfold pl_E
  rw [Bool.and_assoc]
  cases i with
  | zero =>
    have hw : wrap64 (((0 : Nat) : Int) - 1) = -1 := by unfold wrap64; omega
    rw [hw, if_neg (by decide)]
    exact fin false
  | succ j =>
    have hw : wrap64 (((j + 1 : Nat) : Int) - 1) = (j : Int) := by unfold wrap64; omega
    have c0 : (j : Int) ≥ 0 := by omega
    have c1 : 0 ≤ (j : Int) := by omega
    have c2 : (j : Int) < (s.size : Int) := by omega
    rw [hw, if_pos c0, if_pos c1, if_pos c2, pu_bt s j (by omega), Nat.add_sub_cancel, decide_eq_true (show 1 ≤ j + 1 by omega), Bool.true_and]
    unfold m_initial
    by_cases h65 : ((m_at s.data.toList j).toNat : Int) ≥ 65
    · rw [if_pos h65, decide_eq_true (show 65 ≤ (m_at s.data.toList j).toNat by omega), Bool.true_and]
      by_cases h90 : ((m_at s.data.toList j).toNat : Int) ≤ 90
      · rw [if_pos h90, decide_eq_true (show (m_at s.data.toList j).toNat ≤ 90 by omega), Bool.true_and]
        cases j with
        | zero =>
          rw [if_pos (show ((0 : Nat) : Int) = 0 from rfl)]
          exact fin true
        | succ m =>
          have hw2 : wrap64 (((m + 1 : Nat) : Int) - 1) = (m : Int) := by unfold wrap64; omega
          have e0 : ¬ ((m + 1 : Nat) : Int) = 0 := by omega
          have e1 : 0 ≤ (m : Int) := by omega
          have e2 : (m : Int) < (s.size : Int) := by omega
          rw [if_neg e0, hw2, if_pos e1, if_pos e2, pu_bt s m (by omega), Nat.add_sub_cancel, decide_eq_false (show ¬ m + 1 = 0 by omega), Bool.false_or]
          have hq : (((m_at s.data.toList m).toNat : Int) == 32) = (m_at s.data.toList m == 32) := by
            rw [Bool.eq_iff_iff]
            simp only [beq_iff_eq]
            exact pu_nat32 _
          rw [hq]
          exact fin _
      · rw [if_neg h90, decide_eq_false (show ¬ (m_at s.data.toList j).toNat ≤ 90 by omega), Bool.false_and]
        exact fin false
    · rw [if_neg h65, decide_eq_false (show ¬ 65 ≤ (m_at s.data.toList j).toNat by omega), Bool.false_and, Bool.false_and]
      exact fin false
theorem pl_ends (s : ByteArray) (i : Nat) (hi : i < s.size) (hs : s.size ≤ 1000000) (k : Nat) (hk : 2 < k) : copydeskref03_ends.f k s (i : Int) = some (m_ends s.data.toList i) := by
  obtain ⟨k, rfl⟩ : ∃ j, k = j + 1 := ⟨k - 1, by omega⟩
  have b0 : 0 ≤ (i : Int) := by omega
  have b1 : (i : Int) < (s.size : Int) := by omega
  have hE := pl_Eeq s i hi hs
  have h46 : ((m_at s.data.toList i).toNat : Int) = 46 ↔ m_at s.data.toList i = 46 := pl_nat _ 46 (by omega)
  have h33 : ((m_at s.data.toList i).toNat : Int) = 33 ↔ m_at s.data.toList i = 33 := pl_nat _ 33 (by omega)
  have h63 : ((m_at s.data.toList i).toNat : Int) = 63 ↔ m_at s.data.toList i = 63 := pl_nat _ 63 (by omega)
  have hj : copydeskref03_ends.j0 (k + 1) s (i : Int) false = some ((decide (s.data.toList.length ≤ i + 1) || m_at s.data.toList (i + 1) == 32) && !(m_at s.data.toList i == 46 && decide (1 ≤ i) && m_initial s.data.toList (i - 1))) := by
    rw [pl_j0, if_neg (by decide), pu_w1 i (by omega), hE, pu_len]
    by_cases h : i + 1 < s.size
    · have c1 : ((i + 1 : Nat) : Int) < (s.size : Int) := by omega
      have c2 : 0 ≤ ((i + 1 : Nat) : Int) := by omega
      rw [if_pos c1, if_pos c2, pu_bt s (i + 1) h, decide_eq_false (show ¬ s.size ≤ i + 1 by omega), Bool.false_or]
      by_cases h32 : m_at s.data.toList (i + 1) = 32
      · rw [if_pos ((pu_nat32 _).2 h32), h32]; rfl
      · rw [if_neg (fun e => h32 ((pu_nat32 _).1 e)), show (m_at s.data.toList (i + 1) == 32) = false by simpa using h32]; rfl
    · have c1 : ¬ ((i + 1 : Nat) : Int) < (s.size : Int) := by omega
      rw [if_neg c1, decide_eq_true (show s.size ≤ i + 1 by omega), Bool.true_or, Bool.true_and]
  unfold copydeskref03_ends.f m_ends
  rw [if_pos b0, if_pos b1, pu_bt s i hi, Bool.and_assoc]
  by_cases c46 : m_at s.data.toList i = 46
  · rw [if_pos (h46.2 c46), hj, c46]; rfl
  · rw [if_neg (fun e => c46 (h46.1 e))]
    by_cases c33 : m_at s.data.toList i = 33
    · rw [if_pos (h33.2 c33), hj, c33]; rfl
    · rw [if_neg (fun e => c33 (h33.1 e))]
      by_cases c63 : m_at s.data.toList i = 63
      · rw [show (((m_at s.data.toList i).toNat : Int) != 63) = false by rw [c63]; rfl, hj, c63]; rfl
      · rw [show (((m_at s.data.toList i).toNat : Int) != 63) = true by simp only [bne_iff_ne, ne_eq]; exact fun e => c63 (h63.1 e), pl_j0, if_pos rfl,
          show (m_at s.data.toList i == 46) = false by simpa using c46, show (m_at s.data.toList i == 33) = false by simpa using c33, show (m_at s.data.toList i == 63) = false by simpa using c63]; rfl
/-! trimming -/
def m_rstrip (l : List UInt8) : List UInt8 := (l.reverse.dropWhile (· == 32)).reverse
theorem m_rstrip_snoc (l : List UInt8) (c : UInt8) : m_rstrip (l ++ [c]) = if c = 32 then m_rstrip l else l ++ [c] := by
  unfold m_rstrip
  rw [List.reverse_append, List.reverse_singleton, List.singleton_append]
  by_cases h : c = 32
  · rw [if_pos h, List.dropWhile_cons_of_pos (by simpa using h)]
  · rw [if_neg h, List.dropWhile_cons_of_neg (by simpa using h), List.reverse_cons, List.reverse_reverse]
theorem pl_extract (l : List UInt8) (a b : Nat) : (⟨l.toArray⟩ : ByteArray).extract a b = ⟨((l.drop a).take (b - a)).toArray⟩ := by
  refine cd_ba_inj _ _ ?_
  rw [ByteArray.data_extract, Array.toList_extract, List.extract_eq_take_drop]
theorem pl_rs : ∀ (n k : Nat) (l : List UInt8), l.length = n → n + 1 < k → n ≤ 1000000 → copydeskref03_trimmed.l1 k ⟨l.toArray⟩ = some ⟨(m_rstrip l).toArray⟩
  | 0, k, l, hl, hk, hc => by
    obtain ⟨k, rfl⟩ : ∃ j, k = j + 1 := ⟨k - 1, by omega⟩
    rw [List.eq_nil_of_length_eq_zero hl, copydeskref03_trimmed.l1, pu_toList, if_pos rfl]; rfl
  | n + 1, k, l, hl, hk, hc => by
    obtain ⟨k, rfl⟩ : ∃ j, k = j + 1 := ⟨k - 1, by omega⟩
    have hne : l ≠ [] := by rintro rfl; simp at hl
    obtain ⟨m, c, rfl⟩ : ∃ m c, l = m ++ [c] := ⟨l.dropLast, l.getLast hne, (List.dropLast_concat_getLast hne).symm⟩
    have hml : m.length = n := by simpa using hl
    have hsz : (⟨(m ++ [c]).toArray⟩ : ByteArray).size = n + 1 := by rw [pu_size]; exact hl
    have hw : wrap64 (((n + 1 : Nat) : Int) - 1) = (n : Int) := by unfold wrap64; omega
    have hat : m_at (m ++ [c]) n = c := by
      have := sl_at_right m [c] 0
      rw [Nat.add_zero, hml] at this
      exact this
    rw [copydeskref03_trimmed.l1, pu_toList, if_neg (show ¬ (⟨(m ++ [c]).toArray⟩ : ByteArray).data.toList = [] from hne), hsz, hw, if_pos (by omega), if_pos (by omega), pu_bt _ n (by rw [hsz]; omega), m_rstrip_snoc]
    show (if ((m_at (m ++ [c]) n).toNat : Int) = 32 then _ else _) = _
    rw [hat]
    by_cases h : c = 32
    · rw [if_pos ((pu_nat32 _).2 h), if_pos h, if_pos (by omega), Int.toNat_natCast, pl_extract, List.drop_zero, Nat.sub_zero, List.take_append_of_le_length (by omega), List.take_of_length_le (by omega)]
      exact pl_rs n k m hml (by omega) (by omega)
    · rw [if_neg (fun e => h ((pu_nat32 _).1 e)), if_neg h]
theorem pl_ls : ∀ (l : List UInt8) (k : Nat), 2 * l.length + 4 < k → l.length ≤ 1000000 → copydeskref03_trimmed.l0 k ⟨l.toArray⟩ = some ⟨(m_rstrip (l.dropWhile (· == 32))).toArray⟩
  | [], k, hk, hc => by
    obtain ⟨k, rfl⟩ : ∃ j, k = j + 1 + 1 := ⟨k - 2, by omega⟩
    rw [copydeskref03_trimmed.l0, pu_toList, if_pos rfl, copydeskref03_trimmed.j1, pl_rs 0 k [] rfl (by omega) (by omega)]; rfl
  | c :: l, k, hk, hc => by
    obtain ⟨k, rfl⟩ : ∃ j, k = j + 1 + 1 := ⟨k - 2, by omega⟩
    simp only [List.length_cons] at hk hc
    have hsz : (⟨(c :: l).toArray⟩ : ByteArray).size = l.length + 1 := pu_size _
    have hb := pu_bt (⟨(c :: l).toArray⟩ : ByteArray) 0 (by rw [hsz]; omega)
    have hat : m_at (⟨(c :: l).toArray⟩ : ByteArray).data.toList 0 = c := rfl
    rw [hat, show ((0 : Nat) : Int) = 0 from rfl] at hb
    rw [copydeskref03_trimmed.l0, pu_toList, if_neg (show ¬ (⟨(c :: l).toArray⟩ : ByteArray).data.toList = [] by simp), hsz, if_pos (by omega), hb]
    by_cases h : c = 32
    · rw [if_pos ((pu_nat32 _).2 h), if_pos (by omega), pl_extract, List.dropWhile_cons_of_pos (by simpa using h)]
      have : ((c :: l).drop 1).take (l.length + 1 - 1) = l := by simp
      rw [this]
      exact pl_ls l (k + 1) (by omega) (by omega)
    · rw [if_neg (fun e => h ((pu_nat32 _).1 e)), List.dropWhile_cons_of_neg (by simpa using h), copydeskref03_trimmed.j1]
      exact pl_rs (l.length + 1) k (c :: l) rfl (by omega) hc
theorem m_rstrip_neat (x sq : List UInt8) (h2 : AllSp sq) (hx : Neat x) : m_rstrip (x ++ sq) = x := by
  obtain ⟨n1, n2, n3⟩ := hx
  unfold m_rstrip
  rw [List.reverse_append, sl_dropWhile_sp _ _ h2.reverse]
  obtain ⟨y, c, rfl⟩ : ∃ y c, x = y ++ [c] := ⟨x.dropLast, x.getLast n3, (List.dropLast_concat_getLast n3).symm⟩
  have hc : (c == 32) = false := by simpa using n2
  rw [List.reverse_append, List.reverse_singleton, List.singleton_append, List.dropWhile_cons_of_neg (by simp [hc]), List.reverse_cons, List.reverse_reverse]
theorem m_trim_alt (l : List UInt8) : m_rstrip (l.dropWhile (· == 32)) = m_trim l := by
  rcases sl_split l with h | ⟨sp, x, sq, rfl, h2, h3, h4⟩
  · have h1 : l.dropWhile (· == 32) = [] := by
      have := sl_dropWhile_sp l [] h
      rw [List.append_nil] at this
      exact this
    rw [h1, sl_trim_sp l h]; rfl
  · rw [sl_trim _ _ _ h2 h3 h4, List.append_assoc, sl_dropWhile_sp _ _ h2]
    have : (x ++ sq).dropWhile (· == 32) = x ++ sq := by
      refine sl_dropWhile_neat _ ?_
      cases x with
      | nil => exact absurd rfl h4.2.2
      | cons c x => exact h4.1
    rw [this, m_rstrip_neat x sq h3 h4]
theorem pl_trimmed (l : List UInt8) (k : Nat) (hk : 2 * l.length + 4 < k) (hc : l.length ≤ 1000000) : copydeskref03_trimmed.f k ⟨l.toArray⟩ = some ⟨(m_trim l).toArray⟩ := by
  unfold copydeskref03_trimmed.f
  rw [pl_ls l k hk hc, m_trim_alt]
theorem pl_extract' (s : ByteArray) (a b : Nat) : s.extract a b = ⟨((s.data.toList.drop a).take (b - a)).toArray⟩ := by
  have := pl_extract s.data.toList a b
  rw [cd_ba] at this
  exact this
theorem pl_refGo (s : ByteArray) (hs : s.size ≤ 2000) : ∀ (d k i a : Nat) (acc : List (List UInt8)), i + d = s.size → a ≤ i → acc.length ≤ i → d + 5000 < k →
    copydeskref03_Sentences.l0 k s (m_bas acc) (a : Int) (i : Int) = some (m_bas (acc ++ m_sentGo s.data.toList d i a))
  | 0, k, i, a, acc, hi, ha, hl, hk => by
    obtain ⟨k, rfl⟩ : ∃ j, k = j + 1 := ⟨k - 1, by omega⟩
    have e1 : (s.data.toList.drop a).take (s.size - a) = s.data.toList.drop a := List.take_of_length_le (by rw [List.length_drop, pu_len]; exact Nat.le_refl _)
    rw [copydeskref03_Sentences.l0, if_neg (by omega), if_pos (by omega), if_pos (by omega), Int.toNat_natCast, pl_extract', e1, pl_trimmed _ k (by rw [List.length_drop, pu_len]; omega) (by rw [List.length_drop, pu_len]; omega), Option.bind_some, pu_toList, m_sentGo]
    show (if m_trim (s.data.toList.drop a) = [] then _ else _) = _
    by_cases h : m_trim (s.data.toList.drop a) = []
    · rw [if_pos h, if_pos h, List.append_nil]
    · rw [if_neg h, if_neg h, if_pos (by rw [m_bas_len]; omega)]
      simp [m_bas]
  | d + 1, k, i, a, acc, hi, ha, hl, hk => by
    obtain ⟨k, rfl⟩ : ∃ j, k = j + 1 := ⟨k - 1, by omega⟩
    rw [copydeskref03_Sentences.l0, if_pos (by omega), pl_ends s i (by omega) (by omega) k (by omega), Option.bind_some, m_sentGo, pu_w1 i (by omega)]
    by_cases h : m_ends s.data.toList i = true
    · rw [if_pos h, if_pos h, if_pos (by omega), if_pos (by omega), if_pos (by omega), Int.toNat_natCast, Int.toNat_natCast, pl_extract', pl_trimmed _ k (by rw [List.length_take, List.length_drop, pu_len]; omega) (by rw [List.length_take, List.length_drop, pu_len]; omega), Option.bind_some, if_pos (by rw [m_bas_len]; omega)]
      have e3 : m_bas acc ++ [(⟨(m_trim ((s.data.toList.drop a).take (i + 1 - a))).toArray⟩ : ByteArray)] = m_bas (acc ++ [m_trim ((s.data.toList.drop a).take (i + 1 - a))]) := by simp [m_bas]
      rw [e3, pl_refGo s hs d k (i + 1) (i + 1) _ (by omega) (Nat.le_refl _) (by simp; omega) (by omega), List.append_assoc]; rfl
    · rw [if_neg h, if_neg h, pl_refGo s hs d k (i + 1) a acc (by omega) (by omega) (by omega) (by omega)]
theorem pl_sameStrGo2 (a : List ByteArray) : ∀ (d k j : Nat), j + d = a.length → d < k → a.length ≤ 1000000 → copydeskref03_SameStrings.l0 k a a (j : Int) = some true
  | 0, k, j, hj, hk, hc => by
    obtain ⟨k, rfl⟩ : ∃ i, k = i + 1 := ⟨k - 1, by omega⟩
    rw [copydeskref03_SameStrings.l0, if_neg (by omega)]
  | d + 1, k, j, hj, hk, hc => by
    obtain ⟨k, rfl⟩ : ∃ i, k = i + 1 := ⟨k - 1, by omega⟩
    rw [copydeskref03_SameStrings.l0, if_pos (by omega), if_pos (by omega), if_pos (by omega), if_pos rfl, pu_w1 j (by omega), pl_sameStrGo2 a d k (j + 1) (by omega) (by omega) hc]
theorem BlockSentencesMatchesReference : copydesklaw03_BlockSentencesMatchesReference.Pure := by
  intro a0 _
  obtain ⟨h1, h2, h3⟩ := pu_cut a0 2000 (by omega)
  refine ⟨9000, ?_⟩
  unfold copydesklaw03_BlockSentencesMatchesReference.f copydesklaw03_sane.f
  rw [Option.bind_some, if_pos h1, if_pos h2, if_pos rfl]
  generalize a0.extract 0 (mn (a0.size : Int) 2000).toNat = s at h3 ⊢
  have h3' : s.size ≤ 2000 := h3
  have hS : block_Sentences.f s = some (m_bas (m_sent s.data.toList)) := by unfold block_Sentences.f; rw [if_pos (by omega)]; rfl
  have hR : copydeskref03_Sentences.f 9000 s = some (m_bas (m_sent s.data.toList)) := by
    have := pl_refGo s h3' s.size 9000 0 0 [] (by omega) (Nat.le_refl _) (Nat.le_refl _) (by omega)
    unfold copydeskref03_Sentences.f m_sent
    rw [pu_len]
    exact this
  have hp := (sl_parts s.data.toList).len
  rw [pu_len] at hp
  rw [hS, Option.bind_some, hR, Option.bind_some]
  have : copydeskref03_SameStrings.f 9000 (m_bas (m_sent s.data.toList)) (m_bas (m_sent s.data.toList)) = some true := by
    unfold copydeskref03_SameStrings.f
    rw [if_pos rfl]
    exact pl_sameStrGo2 _ _ 9000 0 (Nat.zero_add _) (by rw [m_bas_len]; omega) (by rw [m_bas_len]; omega)
  rw [this]; rfl
end Go.Proofs.YtpgjhjlhipikgaaDoor.Pure
end
