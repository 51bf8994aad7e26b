/- Texts of this claim, one behind the other. -/
import Derived.Test.YtpgjhjlhipikgaaDoorMDx3
import Derived.Test.YtpgjhjlhipikgaaDoorMDx4
import Derived.Test.YtpgjhjlhipikgaaDoorMEx3
import Derived.ProofKit
import Derived.OpenShut
import Derived.DataElems
import Derived.Deep.Slices
section
set_option linter.unusedVariables false
set_option linter.unusedSimpArgs false
namespace Go.Proofs.YtpgjhjlhipikgaaDoor.PK
open Go.RowKit Go.Proofs.YtpgjhjlhipikgaaDoorW.PrintWords Go.Proofs.YtpgjhjlhipikgaaDoorW.PrintLast Go.Proofs.YtpgjhjlhipikgaaDoorW.PrintMore
def AllSp (s : List UInt8) : Prop := ∀ c ∈ s, c = 32
theorem AllSp.at {s : List UInt8} (h : AllSp s) (i : Nat) (hi : i < s.length) : m_at s i = 32 := by
  have := h s[i] (List.getElem_mem hi)
  simp [m_at, List.getD_eq_getElem?_getD, hi, this]
def SpHead (s : List UInt8) : Prop := s = [] ∨ ∃ t, s = 32 :: t
theorem SpHead.at {s : List UInt8} (h : SpHead s) (hs : s ≠ []) : m_at s 0 = 32 := by
  rcases h with h | ⟨t, rfl⟩
  · exact absurd h hs
  · rfl
theorem AllSp.reverse {s : List UInt8} (h : AllSp s) : AllSp s.reverse := fun c hc => h c (List.mem_reverse.1 hc)
def Neat (x : List UInt8) : Prop := x.head? ≠ some 32 ∧ x.getLast? ≠ some 32 ∧ x ≠ []
def Ended (x : List UInt8) : Prop := Neat x ∧ m_ends x (x.length - 1) = true ∧ ∀ j, j + 1 < x.length → m_ends x j = false
def Open (x : List UInt8) : Prop := Neat x ∧ ∀ j, j < x.length → m_ends x j = false
inductive Parts : List UInt8 → List (List UInt8) → Prop where
  | none (s : List UInt8) (h : AllSp s) : Parts s []
  | last (sp x sq : List UInt8) (h1 : AllSp sp) (h2 : AllSp sq) (hx : Open x) : Parts (sp ++ x ++ sq) [x]
  | more (sp x rest : List UInt8) (xs : List (List UInt8)) (h1 : AllSp sp) (hr : SpHead rest) (hx : Ended x) (h : Parts rest xs) : Parts (sp ++ x ++ rest) (x :: xs)
end Go.Proofs.YtpgjhjlhipikgaaDoor.PK
end
section
set_option linter.unusedVariables false
set_option linter.unusedSimpArgs false
namespace Go.Proofs.YtpgjhjlhipikgaaDoor.PK
open Go.RowKit Go.Proofs.YtpgjhjlhipikgaaDoorW.PrintWords Go.Proofs.YtpgjhjlhipikgaaDoorW.PrintLast Go.Proofs.YtpgjhjlhipikgaaDoorW.PrintMore
theorem pu_mn (a b : Int) : mn a b = if b < a then b else a := rfl
theorem pu_cut (a0 : ByteArray) (m : Int) (hm : 0 ≤ m) : 0 ≤ mn (a0.size : Int) m ∧ mn (a0.size : Int) m ≤ (a0.size : Int) ∧ (a0.extract 0 (mn (a0.size : Int) m).toNat).size ≤ m.toNat := by
  rw [pu_mn]
  refine ⟨by split <;> omega, by split <;> omega, ?_⟩
  rw [ByteArray.size_extract]
  split <;> omega
theorem pu_w1 (n : Nat) (h : n ≤ 9000000000000000000) : wrap64 ((n : Int) + 1) = ((n + 1 : Nat) : Int) := by unfold wrap64; omega
theorem pu_bt (s : ByteArray) (n : Nat) (h : n < s.size) : bt s (n : Int) = ((m_at s.data.toList n).toNat : Int) := by
  unfold bt
  rw [dif_pos (by rw [Int.toNat_natCast]; exact h)]
  have h2 : n < s.data.toList.length := by rw [Array.length_toList]; exact h
  simp only [Int.toNat_natCast, m_at, List.getD_eq_getElem?_getD, List.getElem?_eq_getElem h2, Option.getD_some]
  rfl
theorem pu_size (l : List UInt8) : (⟨l.toArray⟩ : ByteArray).size = l.length := by simp [ByteArray.size]
theorem pu_len (s : ByteArray) : s.data.toList.length = s.size := Array.length_toList
theorem pu_app (a b : List UInt8) : (⟨a.toArray⟩ : ByteArray) ++ ⟨b.toArray⟩ = ⟨(a ++ b).toArray⟩ := cd_ba_inj _ _ (by rw [ByteArray.data_append, Array.toList_append])
theorem pu_toList (s : ByteArray) : s.toList = s.data.toList := ByteArray.toList_eq ..
theorem Parts.len {l : List UInt8} {xs : List (List UInt8)} (h : Parts l xs) : (∀ x ∈ xs, x.length ≤ l.length) ∧ xs.length ≤ l.length := by
  induction h with
  | none s h => simp
  | last sp x sq h1 h2 hx =>
    have hn : 0 < x.length := List.length_pos_iff.2 hx.1.2.2
    exact ⟨by simp; omega, by simp; omega⟩
  | more sp x rest xs h1 hr hx h ih =>
    have hn : 0 < x.length := List.length_pos_iff.2 hx.1.2.2
    refine ⟨?_, by simp; omega⟩
    intro y hy
    rcases List.mem_cons.1 hy with rfl | hy
    · simp; omega
    · have := ih.1 y hy; simp; omega
end Go.Proofs.YtpgjhjlhipikgaaDoor.PK
end
section
set_option linter.unusedVariables false
set_option linter.unusedSimpArgs false
namespace Go.Proofs.YtpgjhjlhipikgaaDoor.Pure
open Go.RowKit Go.Proofs.YtpgjhjlhipikgaaDoor.PK Go.Proofs.YtpgjhjlhipikgaaDoorW.PrintWords Go.Proofs.YtpgjhjlhipikgaaDoorW.PrintLast
theorem pl_rdB (l : List Bl) (j : Nat) (h : j < l.length) : rd_T26 l (j : Int) = l[j] := by
  simp [rd_T26, List.getD_eq_getElem?_getD, h]
def m_cut (b : Bl) : Bl := ⟨b.f0, b.f1, b.f2.extract 0 (mn (b.f2.size : Int) 1000).toNat, b.f3, b.f4, ⟨b.f5.f0, b.f5.f1, b.f5.f2, b.f5.f3⟩⟩
def m_short (l : List Bl) : List Bl := (l.take 30).map m_cut
theorem pl_shortGo (l : List Bl) (hl : l.length ≤ 9223372036854775807) : ∀ (d k j : Nat), j + d = 30 → d < k → j ≤ l.length →
    copydesklaw03_short.l0 k l ((l.take j).map m_cut) (j : Int) = some (m_short l)
  | 0, k, j, hj, hk, hjl => by
    obtain ⟨k, rfl⟩ : ∃ i, k = i + 1 := ⟨k - 1, by omega⟩
    have e : j = 30 := by omega
    subst e
    rw [copydesklaw03_short.l0, if_neg (show ¬ ((30 : Nat) : Int) < 30 by omega)]
    split <;> rfl
  | d + 1, k, j, hj, hk, hjl => by
    obtain ⟨k, rfl⟩ : ∃ i, k = i + 1 := ⟨k - 1, by omega⟩
    rw [copydesklaw03_short.l0]
    by_cases hlt : j < l.length
    · obtain ⟨h1, h2, h3⟩ := pu_cut l[j].f2 1000 (by omega)
      have e : (l.take j).map m_cut ++ [m_cut l[j]] = (l.take (j + 1)).map m_cut := by rw [List.take_succ_eq_append_getElem hlt, List.map_append]; rfl
      have hc : ((l.take j).map m_cut).length < 1466015503701 := by rw [List.length_map, List.length_take]; omega
      rw [if_pos (by omega), if_pos (by omega), if_pos (by omega), pl_rdB l j hlt, if_pos h1, if_pos h2, if_pos hc, pu_w1 j (by omega)]
      show copydesklaw03_short.l0 k l ((l.take j).map m_cut ++ [m_cut l[j]]) _ = _
      rw [e]
      exact pl_shortGo l hl d k (j + 1) (by omega) (by omega) hlt
    · have e : j = l.length := by omega
      rw [if_neg (by omega), e, List.take_of_length_le (Nat.le_refl _)]
      unfold m_short
      rw [List.take_of_length_le (by omega)]
theorem pl_short (l : List Bl) (hl : l.length ≤ 9223372036854775807) (k : Nat) (hk : 40 < k) : copydesklaw03_short.f k l = some (m_short l) := pl_shortGo l hl 30 k 0 (by omega) (by omega) (Nat.zero_le _)
theorem m_short_text (l : List Bl) : ∀ b ∈ m_short l, b.f2.size ≤ 1000 := by
  intro b hb
  obtain ⟨c, _, rfl⟩ := List.mem_map.1 hb
  exact (pu_cut c.f2 1000 (by omega)).2.2
theorem pl_w (n : Nat) (h : n + 1 ≤ 9223372036854775807) : wrap64 ((n : Int) + 1) = ((n + 1 : Nat) : Int) := by unfold wrap64; omega
theorem pl_atGet (s : ByteArray) (j : Nat) (hl : j < s.data.toList.length) : m_at s.data.toList j = s.data.toList[j] := by rw [m_at, List.getD_eq_getElem?_getD, List.getElem?_eq_getElem hl]; rfl
theorem pl_rText (s : ByteArray) (hs : s.size ≤ 9223372036854775807) : ∀ (d k j : Nat), j + d = s.size → d < k →
    copydeskref03_IsText.l0 k s (j : Int) = some (decide (s.size ≤ 300) && (s.data.toList.drop j).all (fun c => decide (32 ≤ c.toNat) && decide (c.toNat ≤ 126)))
  | 0, k, j, hj, hk => by
    obtain ⟨k, rfl⟩ : ∃ i, k = i + 1 := ⟨k - 1, by omega⟩
    rw [copydeskref03_IsText.l0, if_neg (by omega), List.drop_eq_nil_of_le (by rw [pu_len]; omega)]
    simp only [List.all_nil, Bool.and_true]
    exact congrArg some (decide_eq_decide.2 (by omega))
  | d + 1, k, j, hj, hk => by
    obtain ⟨k, rfl⟩ : ∃ i, k = i + 1 := ⟨k - 1, by omega⟩
    have hl : j < s.data.toList.length := by rw [pu_len]; omega
    rw [copydeskref03_IsText.l0, if_pos (by omega), if_pos (by omega), pu_bt s j (by omega), pl_w j (by omega), pl_rText s hs d k (j + 1) (by omega) (by omega), List.drop_eq_getElem_cons hl, ← pl_atGet s j hl, List.all_cons]
    by_cases h1 : ((m_at s.data.toList j).toNat : Int) < 32
    · rw [if_pos h1, show decide (32 ≤ (m_at s.data.toList j).toNat) = false by simp; omega]; simp
    · rw [if_neg h1, show decide (32 ≤ (m_at s.data.toList j).toNat) = true by simp; omega]
      by_cases h2 : ((m_at s.data.toList j).toNat : Int) > 126
      · rw [if_pos h2, show decide ((m_at s.data.toList j).toNat ≤ 126) = false by simp; omega]; simp
      · rw [if_neg h2, show decide ((m_at s.data.toList j).toNat ≤ 126) = true by simp; omega]; simp
def pl_nm (c : UInt8) : Bool := (decide (97 ≤ c.toNat) && decide (c.toNat ≤ 122)) || (decide (48 ≤ c.toNat) && decide (c.toNat ≤ 57)) || c.toNat == 45
theorem pl_rNameStep (n : Nat) (A : Option Bool) : (if (n : Int) ≥ 97 then (if (n : Int) ≤ 122 then A else (if (n : Int) ≥ 48 then (if (n : Int) ≤ 57 then A else (if (n : Int) = 45 then A else some false)) else (if (n : Int) = 45 then A else some false))) else (if (n : Int) ≥ 48 then (if (n : Int) ≤ 57 then A else (if (n : Int) = 45 then A else some false)) else (if (n : Int) = 45 then A else some false)))
    = if ((decide (97 ≤ n) && decide (n ≤ 122)) || (decide (48 ≤ n) && decide (n ≤ 57)) || n == 45) = true then A else some false := by
  simp only [Bool.or_eq_true, Bool.and_eq_true, decide_eq_true_eq, beq_iff_eq]
  repeat' split
  all_goals first | rfl | (exfalso; omega)
theorem pl_rName (s : ByteArray) (hs : s.size ≤ 9223372036854775807) : ∀ (d k j : Nat), j + d = s.size → d < k →
    copydeskref03_IsName.l0 k s (j : Int) = some (decide (1 ≤ s.size) && decide (s.size ≤ 20) && (s.data.toList.drop j).all pl_nm)
  | 0, k, j, hj, hk => by
    obtain ⟨k, rfl⟩ : ∃ i, k = i + 1 := ⟨k - 1, by omega⟩
    rw [copydeskref03_IsName.l0, if_neg (by omega), List.drop_eq_nil_of_le (by rw [pu_len]; omega)]
    simp only [List.all_nil, Bool.and_true]
    by_cases h : (s.size : Int) ≥ 1
    · rw [if_pos h, show decide (1 ≤ s.size) = true by simp; omega, Bool.true_and]
      exact congrArg some (decide_eq_decide.2 (by omega))
    · rw [if_neg h, show decide (1 ≤ s.size) = false from decide_eq_false (by omega), Bool.false_and]
  | d + 1, k, j, hj, hk => by
    obtain ⟨k, rfl⟩ : ∃ i, k = i + 1 := ⟨k - 1, by omega⟩
    have hl : j < s.data.toList.length := by rw [pu_len]; omega
    rw [copydeskref03_IsName.l0, if_pos (by omega), if_pos (by omega), pu_bt s j (by omega), pl_w j (by omega), pl_rName s hs d k (j + 1) (by omega) (by omega), List.drop_eq_getElem_cons hl, ← pl_atGet s j hl, List.all_cons, pl_rNameStep]
    show (if pl_nm (m_at s.data.toList j) = true then _ else _) = _
    cases h : pl_nm (m_at s.data.toList j) with
    | true => rw [if_pos rfl, Bool.true_and]
    | false => rw [if_neg (by simp), Bool.false_and, Bool.and_false]
def pl_asc (p : Int) : List Int → Bool
  | [] => true
  | x :: l => decide (p < x) && decide (x ≤ 64) && pl_asc x l
theorem pl_ascHead : ∀ (x : Int) (l : List Int), m_asc (x :: l) = true → ∀ z ∈ l, x < z
  | _, [], _, z, hz => by cases hz
  | x, y :: l, h, z, hz => by
    rw [m_asc, Bool.and_eq_true, decide_eq_true_eq] at h
    rcases List.mem_cons.1 hz with rfl | hz
    · exact h.1
    · have := pl_ascHead y l h.2 z hz; omega
theorem pl_ascIff : ∀ (l : List Int) (p : Int), pl_asc p l = true ↔ (∀ x ∈ l, p < x ∧ x ≤ 64) ∧ m_asc l = true
  | [], p => by simp [pl_asc, m_asc]
  | x :: l, p => by
    rw [pl_asc, Bool.and_eq_true, Bool.and_eq_true, decide_eq_true_eq, decide_eq_true_eq, pl_ascIff l x]
    constructor
    · rintro ⟨⟨h1, h2⟩, h3, h4⟩
      refine ⟨fun z hz => ?_, ?_⟩
      · rcases List.mem_cons.1 hz with rfl | hz
        · exact ⟨h1, h2⟩
        · have := h3 z hz; omega
      · cases l with
        | nil => rfl
        | cons y l => rw [m_asc, Bool.and_eq_true, decide_eq_true_eq]; exact ⟨(h3 y (by simp)).1, h4⟩
    · rintro ⟨h1, h2⟩
      refine ⟨h1 x (by simp), fun z hz => ⟨pl_ascHead x l h2 z hz, (h1 z (by simp [hz])).2⟩, ?_⟩
      cases l with
      | nil => rfl
      | cons y l => rw [m_asc, Bool.and_eq_true] at h2; exact h2.2
theorem pl_rd (l : List Int) (x : Nat) (h : x < l.length) : rd l (x : Int) = l[x] := by
  simp [rd, List.getD_eq_getElem?_getD, h]
theorem pl_rAsc (l : List Int) (u a d : Int) : ∀ (k j : Nat) (p : Int), (j : Int) ≤ p → p ≤ 64 → j ≤ l.length → (64 - p).toNat + 1 < k →
    copydeskref02_Valid.l0 k p (j : Int) u l a d = some (pl_asc p (l.drop j))
  | 0, _, _, _, _, _, hk => by omega
  | k + 1, j, p, h1, h2, hj, hk => by
    rw [copydeskref02_Valid.l0]
    by_cases hlt : j < l.length
    · rw [if_pos (by omega), if_pos (by omega), pl_rd l j hlt, pl_w j (by omega), List.drop_eq_getElem_cons hlt, pl_asc]
      by_cases c1 : l[j] ≤ p
      · rw [if_pos c1, show decide (p < l[j]) = false by simp; omega]; rfl
      · rw [if_neg c1, show decide (p < l[j]) = true by simp; omega]
        by_cases c2 : l[j] > 64
        · rw [if_pos c2, show decide (l[j] ≤ 64) = false by simp; omega]; rfl
        · rw [if_neg c2, show decide (l[j] ≤ 64) = true by simp; omega, pl_rAsc l u a d k (j + 1) l[j] (by omega) (by omega) (by omega) (by omega)]; rfl
    · rw [if_neg (by omega), List.drop_eq_nil_of_le (by omega)]; rfl
theorem pl_rLabel (u : Int) (l : List Int) (a d : Int) (k : Nat) (hk : 70 ≤ k) : copydeskref02_Valid.f k u l a d = some (m_label u l a d) := by
  have hasc : (l.all (fun x => decide (1 ≤ x) && decide (x ≤ 64)) && m_asc l) = pl_asc 0 l := by
    rw [Bool.eq_iff_iff, pl_ascIff]
    simp only [Bool.and_eq_true, List.all_eq_true, decide_eq_true_eq]
    constructor
    · rintro ⟨h1, h2⟩; exact ⟨fun x hx => by have := h1 x hx; omega, h2⟩
    · rintro ⟨h1, h2⟩; exact ⟨fun x hx => by have := h1 x hx; omega, h2⟩
  obtain ⟨k, rfl⟩ : ∃ i, k = i + 1 := ⟨k - 1, by omega⟩
  have hl := pl_rAsc l u a d k 0 0 (Int.le_refl 0) (by omega) (Nat.zero_le _) (by omega)
  have hbad : copydeskref02_Valid.j0 (k + 1) true u l a d = some false := by rw [copydeskref02_Valid.j0, if_pos rfl]
  have hgo : copydeskref02_Valid.j0 (k + 1) false u l a d = some (pl_asc 0 l) := by rw [copydeskref02_Valid.j0, if_neg (by simp)]; exact hl
  unfold copydeskref02_Valid.f m_label
  rw [hbad]
  by_cases c1 : u < 0
  · rw [if_pos c1, show decide (0 ≤ u) = false by simp; omega]; simp
  rw [if_neg c1, show decide (0 ≤ u) = true by simp; omega]
  by_cases c2 : u > 1000000000
  · rw [if_pos c2, show decide (u ≤ 1000000000) = false by simp; omega]; simp
  rw [if_neg c2, show decide (u ≤ 1000000000) = true by simp; omega]
  by_cases c3 : a < 0
  · rw [if_pos c3, show decide (0 ≤ a) = false by simp; omega]; simp
  rw [if_neg c3, show decide (0 ≤ a) = true by simp; omega]
  by_cases c4 : a > 5
  · rw [if_pos c4, show decide (a ≤ 5) = false by simp; omega]; simp
  rw [if_neg c4, show decide (a ≤ 5) = true by simp; omega]
  by_cases c5 : d < 0
  · rw [if_pos c5, show decide (0 ≤ d) = false by simp; omega]; simp
  rw [if_neg c5, show decide (0 ≤ d) = true by simp; omega]
  by_cases c6 : d > 15
  · rw [show decide (d > 15) = true by simpa using c6, hbad, show decide (d ≤ 15) = false by simp; omega]; simp
  rw [show decide (d > 15) = false by simpa using c6, hgo, show decide (d ≤ 15) = true by simp; omega, Bool.true_and, Bool.true_and, hasc]; simp
theorem pl_toNil (s : ByteArray) : s.toList = ([] : List UInt8) ↔ s.size = 0 := by rw [pu_toList, ← pu_len]; exact List.length_eq_zero_iff.symm
theorem pl_rTail (k : Nat) (i kind : Int) (t : ByteArray) (s r u : Int) (l : List Int) (a d : Int) (ht : t.size ≤ 9223372036854775807) (hk : t.size + 5 ≤ k) :
    copydeskref03_Valid.j0 k false i kind t s r u l a d = some (if kind = 1 ∨ kind = 2 ∨ kind = 4 then decide (t.size ≠ 0) && decide (s = 0) && decide (r = 0)
     else if kind = 5 then m_name t && decide (s = 0) && decide (r = 0)
     else if kind = 3 then decide (1 ≤ s) && decide (s ≤ 64) && decide (1 ≤ r) && decide (r ≤ 1000)
     else false) := by
  obtain ⟨k, rfl⟩ : ∃ i, k = i + 2 := ⟨k - 2, by omega⟩
  have hn : copydeskref03_IsName.f k t = some (m_name t) := pl_rName t ht t.size k 0 (by omega) (by omega)
  have h1 : copydeskref03_Valid.j1 (k + 1) kind true i kind t s r u l a d = some (decide (t.size ≠ 0) && decide (s = 0) && decide (r = 0)) := by
    rw [copydeskref03_Valid.j1, if_pos rfl]
    by_cases c : t.toList = ([] : List UInt8)
    · rw [if_pos c, show decide (t.size ≠ 0) = false by simp [(pl_toNil t).1 c]]; rfl
    · rw [if_neg c, show decide (t.size ≠ 0) = true from decide_eq_true (fun h => c ((pl_toNil t).2 h))]
      by_cases c2 : s = 0
      · rw [if_pos c2, show decide (s = 0) = true by simpa using c2]; rfl
      · rw [if_neg c2, show decide (s = 0) = false by simpa using c2]; rfl
  rw [copydeskref03_Valid.j0, if_neg (by simp)]
  by_cases k1 : kind = 1
  · rw [if_pos k1, if_pos (.inl k1), show (kind == 1) = true by simpa using k1, h1]
  rw [if_neg k1]
  by_cases k2 : kind = 2
  · rw [if_pos k2, if_pos (.inr (.inl k2)), show (kind == 2) = true by simpa using k2, h1]
  rw [if_neg k2]
  by_cases k4 : kind = 4
  · rw [if_pos (.inr (.inr k4)), show (kind == 4) = true by simpa using k4, h1]
  rw [show (kind == 4) = false by simpa using k4, if_neg (by omega), copydeskref03_Valid.j1, if_neg (by simp)]
  by_cases k5 : kind = 5
  · rw [if_pos k5, if_pos k5, hn, Option.bind_some]
    cases m_name t with
    | false => rfl
    | true =>
      rw [if_pos rfl]
      by_cases c2 : s = 0
      · rw [if_pos c2, show decide (s = 0) = true by simpa using c2]; rfl
      · rw [if_neg c2, show decide (s = 0) = false by simpa using c2]; rfl
  rw [if_neg k5, if_neg k5]
  by_cases k3 : kind = 3
  · rw [if_pos k3, if_pos k3]
    by_cases c1 : s ≥ 1
    · rw [if_pos c1, show decide (1 ≤ s) = true by simpa using c1]
      by_cases c2 : s ≤ 64
      · rw [if_pos c2, show decide (s ≤ 64) = true by simpa using c2]
        by_cases c3 : r ≥ 1
        · rw [if_pos c3, show decide (1 ≤ r) = true by simpa using c3]; rfl
        · rw [if_neg c3, show decide (1 ≤ r) = false by simpa using c3]; rfl
      · rw [if_neg c2, show decide (s ≤ 64) = false by simpa using c2]; rfl
    · rw [if_neg c1, show decide (1 ≤ s) = false by simpa using c1]; rfl
  · rw [if_neg k3, if_neg k3]
theorem pl_rValid (k : Nat) (i kind : Int) (t : ByteArray) (s r u : Int) (l : List Int) (a d : Int) (ht : t.size ≤ 9223372036854775807) (hk : t.size + 70 ≤ k) :
    copydeskref03_Valid.f k i kind t s r u l a d = some (m_valid i kind t s r u l a d) := by
  have hx : copydeskref03_IsText.f k t = some (m_text t) := pl_rText t ht t.size k 0 (by omega) (by omega)
  have hbad : copydeskref03_Valid.j0 k true i kind t s r u l a d = some false := by
    obtain ⟨k, rfl⟩ : ∃ i, k = i + 1 := ⟨k - 1, by omega⟩
    rw [copydeskref03_Valid.j0, if_pos rfl]
  unfold copydeskref03_Valid.f m_valid
  rw [hx, pl_rLabel u l a d k (by omega), Option.bind_some, Option.bind_some, hbad]
  by_cases c1 : i < 1
  · rw [if_pos c1, show decide (1 ≤ i) = false by simp; omega]; simp
  rw [if_neg c1, show decide (1 ≤ i) = true by simp; omega]
  by_cases c2 : i > 1000
  · rw [if_pos c2, show decide (i ≤ 1000) = false by simp; omega]; simp
  rw [if_neg c2, show decide (i ≤ 1000) = true by simp; omega]
  cases m_text t with
  | false => rw [if_neg (by simp)]; simp
  | true =>
    rw [if_pos rfl]
    cases m_label u l a d with
    | false => rw [show (!false) = true from rfl, hbad]; simp
    | true => rw [show (!true) = false from rfl, pl_rTail k i kind t s r u l a d ht (by omega)]; simp only [Bool.true_and, Bool.and_true]
def pl_ids (l : List Bl) (i : Nat) : List Int := ((l.take i).map (·.f0)).reverse
theorem pl_idsC (l : List Bl) (i : Nat) (v : Int) : (pl_ids l i).contains v = (l.take i).any (fun b => b.f0 == v) := by
  rw [Bool.eq_iff_iff, List.contains_iff_mem, List.any_eq_true]
  simp only [pl_ids, List.mem_reverse, List.mem_map, beq_iff_eq]
theorem pl_idsS (l : List Bl) (i : Nat) (h : i < l.length) : pl_ids l (i + 1) = l[i].f0 :: pl_ids l i := by
  rw [pl_ids, List.take_succ_eq_append_getElem h, List.map_append, List.reverse_append]; rfl
theorem pl_rInner (l : List Bl) (n : Nat) (hn : l.length ≤ 24) (i : Nat) (hi : i < l.length) (R : Bool) (H : ∀ k, n ≤ k → copydeskref03_ValidList.l0 k l ((i + 1 : Nat) : Int) = some R) : ∀ (d k j : Nat), j + d = i → n + d + 1 ≤ k →
    copydeskref03_ValidList.l1 k l (i : Int) (j : Int) = some (!((l.take i).drop j).any (fun b => b.f0 == l[i].f0) && R)
  | 0, k, j, hj, hk => by
    obtain ⟨k, rfl⟩ : ∃ i, k = i + 1 := ⟨k - 1, by omega⟩
    rw [copydeskref03_ValidList.l1, if_neg (by omega), pl_w i (by omega), H k (by omega), List.drop_eq_nil_of_le (by rw [List.length_take]; omega)]; rfl
  | d + 1, k, j, hj, hk => by
    obtain ⟨k, rfl⟩ : ∃ i, k = i + 1 := ⟨k - 1, by omega⟩
    have hjl : j < (l.take i).length := by rw [List.length_take]; omega
    have hg : (l.take i)[j] = l[j] := by rw [List.getElem_take]
    rw [copydeskref03_ValidList.l1, if_pos (by omega), if_pos (by omega), if_pos (by omega), if_pos (by omega), if_pos (by omega), pl_rdB l j (by omega), pl_rdB l i hi, pl_w j (by omega),
      pl_rInner l n hn i hi R H d k (j + 1) (by omega) (by omega), List.drop_eq_getElem_cons hjl, List.any_cons, hg]
    by_cases c : l[j].f0 = l[i].f0
    · rw [if_pos c, show (l[j].f0 == l[i].f0) = true by simpa using c]; rfl
    · rw [if_neg c, show (l[j].f0 == l[i].f0) = false by simpa using c, Bool.false_or]
theorem pl_rList (l : List Bl) (M : Nat) (hn : l.length ≤ 24) (hM : M ≤ 9223372036854775807) (ht : ∀ b ∈ l, b.f2.size ≤ M) : ∀ (d i k : Nat), i + d = l.length → M + 71 + d * 30 ≤ k →
    copydeskref03_ValidList.l0 k l (i : Int) = some (m_fresh (pl_ids l i) (l.drop i))
  | 0, i, k, hi, hk => by
    obtain ⟨k, rfl⟩ : ∃ i, k = i + 1 := ⟨k - 1, by omega⟩
    rw [copydeskref03_ValidList.l0, if_neg (by omega), List.drop_eq_nil_of_le (by omega)]; rfl
  | d + 1, i, k, hi, hk => by
    obtain ⟨k, rfl⟩ : ∃ i, k = i + 1 := ⟨k - 1, by omega⟩
    have hlt : i < l.length := by omega
    have hb := ht l[i] (List.getElem_mem hlt)
    have H : ∀ k, M + 71 + d * 30 ≤ k → copydeskref03_ValidList.l0 k l ((i + 1 : Nat) : Int) = some (m_fresh (pl_ids l (i + 1)) (l.drop (i + 1))) := fun k hk => pl_rList l M hn hM ht d (i + 1) k (by omega) hk
    rw [copydeskref03_ValidList.l0, if_pos (by omega), if_pos (by omega), pl_rdB l i hlt, pl_rValid k _ _ _ _ _ _ _ _ _ (by omega) (by omega), Option.bind_some, List.drop_eq_getElem_cons hlt, m_fresh, pl_idsC, ← pl_idsS l i hlt]
    show (if m_validB l[i] = true then _ else _) = _
    cases m_validB l[i] with
    | false => rw [if_neg (by simp)]; simp
    | true => exact (if_pos rfl).trans ((pl_rInner l (M + 71 + d * 30) hn i hlt _ H i k 0 (by omega) (by omega)).trans (by rw [List.drop_zero, Bool.and_true]))
theorem pl_rValidL (l : List Bl) (M : Nat) (hM : M ≤ 9223372036854775807) (ht : ∀ b ∈ l, b.f2.size ≤ M) (k : Nat) (hk : M + 1000 ≤ k) : copydeskref03_ValidList.f k l = some (m_validL l) := by
  unfold copydeskref03_ValidList.f m_validL
  by_cases c : (l.length : Int) > 24
  · rw [if_pos c, show decide (l.length ≤ 24) = false by simp; omega]; rfl
  · rw [if_neg c, show decide (l.length ≤ 24) = true by simp; omega]
    exact pl_rList l M (by omega) hM ht l.length 0 k (by omega) (by omega)
theorem pl_u64 (x : Int) : IntKind.u64.wrap x = x % 18446744073709551616 := by
  show (if false && decide (x % (2 ^ 64 : Int) ≥ (2 ^ 63 : Int)) then x % (2 ^ 64 : Int) - (2 ^ 64 : Int) else x % (2 ^ 64 : Int)) = _
  rfl
theorem pl_zigz (n : Int) (h : m_fits n = true) : copydeskref01_zigzag.f n = some ((m_zig n : Nat) : Int) := by
  simp only [m_fits, Bool.and_eq_true, decide_eq_true_eq] at h
  unfold copydeskref01_zigzag.f m_zig
  by_cases c : n < 0
  · rw [if_pos c, if_pos c, pl_u64, pl_u64, pl_u64]
    have hw : wrap64 (-n) = -n := by unfold wrap64; omega
    rw [hw]; congr 1; omega
  · rw [if_neg c, if_neg c, pl_u64, pl_u64]
    congr 1; omega
theorem pl_zigLt (n : Int) (h : m_fits n = true) : m_zig n < 9223372036854775808 := by
  simp only [m_fits, Bool.and_eq_true, decide_eq_true_eq] at h
  unfold m_zig
  split <;> omega
def pl_nums (l : List UInt8) : List Int := l.map (fun c => (c.toNat : Int))
theorem pl_strNums (l : List UInt8) : strOfNums (pl_nums l) = ⟨l.toArray⟩ := by
  unfold strOfNums pl_nums
  rw [List.map_map]
  have : l.map ((fun n : Int => UInt8.ofNat n.toNat) ∘ fun c : UInt8 => (c.toNat : Int)) = l := by
    conv => rhs; rw [← List.map_id l]
    apply List.map_congr_left
    intro c _
    simp
  rw [this]
theorem pl_vintLen : ∀ k z, (m_vint k z).length ≤ k
  | 0, _ => Nat.le_refl _
  | k + 1, z => by
    rw [m_vint]
    split
    · simp
    · have := pl_vintLen k (z / 128)
      rw [List.length_cons]; omega
theorem pl_intLen (n : Int) : (m_int n).length ≤ 10 := pl_vintLen _ _
theorem pl_refPut : ∀ (d k z : Nat) (acc : List UInt8), z < 128 ^ d → z < 9223372036854775808 → d < k → acc.length + d ≤ 1000 → 1 ≤ d →
    copydeskref01_PutInt.l0 k (z : Int) (pl_nums acc) = some (⟨(acc ++ m_vint d z).toArray⟩, 0)
  | 0, _, _, _, _, _, _, _, h => absurd h (by omega)
  | d + 1, k, z, acc, hz, hz2, hk, ha, _ => by
    obtain ⟨k, rfl⟩ : ∃ i, k = i + 1 := ⟨k - 1, by omega⟩
    have hnl : (pl_nums acc).length = acc.length := by simp [pl_nums]
    rw [copydeskref01_PutInt.l0]
    by_cases c : z < 128
    · rw [if_neg (by omega), hnl, if_pos (by omega), m_vint, if_pos c]
      have e : pl_nums acc ++ [(z : Int) % 256] = pl_nums (acc ++ [UInt8.ofNat z]) := by
        rw [pl_nums, pl_nums, List.map_append, List.map_cons, List.map_nil, cd_toNat z (by omega)]
        congr 2; omega
      rw [e, pl_strNums]
    · rw [if_pos (by omega), hnl, if_pos (by omega), m_vint, if_neg c]
      have e1 : IntKind.u64.wrap (Int.tdiv (z : Int) 128) = ((z / 128 : Nat) : Int) := by
        rw [pl_u64, Int.tdiv_eq_ediv_of_nonneg (by omega)]; omega
      have e2 : IntKind.u64.wrap (Int.tmod (z : Int) 128 + 128) % 256 = ((z % 128 + 128 : Nat) : Int) := by
        rw [pl_u64, Int.tmod_eq_emod_of_nonneg (by omega)]; omega
      have e3 : pl_nums acc ++ [((z % 128 + 128 : Nat) : Int)] = pl_nums (acc ++ [UInt8.ofNat (z % 128 + 128)]) := by
        rw [pl_nums, pl_nums, List.map_append, List.map_cons, List.map_nil, cd_toNat (z % 128 + 128) (by omega)]
      have hd : 1 ≤ d := by
        rcases d with _ | d
        · rw [Nat.pow_one] at hz; omega
        · omega
      have hp : z / 128 < 128 ^ d := by rw [Nat.pow_succ] at hz; exact Nat.div_lt_of_lt_mul (by rw [Nat.mul_comm]; exact hz)
      rw [e1, e2, e3, pl_refPut d k (z / 128) _ hp (by omega) (by omega) (by simp; omega) hd, List.append_assoc, List.singleton_append]
theorem pl_rPut (n : Int) (h : m_fits n = true) (k : Nat) (hk : 20 ≤ k) : copydeskref01_PutInt.f k n = some (⟨(m_int n).toArray⟩, 0) := by
  have hz := pl_zigLt n h
  have hzz := pl_zigz n h
  have h' := h
  simp only [m_fits, Bool.and_eq_true, decide_eq_true_eq] at h
  obtain ⟨k, rfl⟩ : ∃ i, k = i + 1 := ⟨k - 1, by omega⟩
  unfold copydeskref01_PutInt.f
  rw [if_neg (by omega), show decide (n > 4611686018427387903) = false from decide_eq_false (by omega), copydeskref01_PutInt.j0, if_neg (by simp), hzz, Option.bind_some]
  have := pl_refPut 10 k (m_zig n) [] (Nat.lt_trans hz (by decide)) hz (by omega) (by simp) (by omega)
  rw [List.nil_append] at this
  exact this
theorem pl_rNum (n : Int) (h : m_fits n = true) (k : Nat) (hk : 20 ≤ k) : copydeskref03_number.f k n = some ⟨(m_int n).toArray⟩ := by
  unfold copydeskref03_number.f
  rw [pl_rPut n h k hk]; rfl
theorem pl_fitsN (n : Nat) (h : n ≤ 1000000) : m_fits (n : Int) = true := by simp [m_fits]; omega
theorem pl_rStr (s : ByteArray) (h : s.size ≤ 65536) (k : Nat) (hk : 20 ≤ k) : copydeskref01_PutString.f k s = some (⟨(m_str s.data.toList).toArray⟩, 0) := by
  unfold copydeskref01_PutString.f
  have hl := pl_intLen ((s.size : Nat) : Int)
  rw [if_neg (by omega), pl_rPut _ (pl_fitsN s.size (by omega)) k hk, Option.bind_some, pu_size, if_pos (by omega)]
  have e : (⟨(m_int (s.size : Int)).toArray⟩ : ByteArray) ++ s = ⟨(m_str s.data.toList).toArray⟩ := by
    rw [m_str, pu_len]
    have := pu_app (m_int (s.size : Int)) s.data.toList
    rw [cd_ba] at this
    exact this
  rw [e]
def pl_tailB (b : Bl) : List UInt8 := m_int b.f5.f2 ++ m_int b.f5.f3
def pl_headB (b : Bl) : List UInt8 := m_int b.f0 ++ m_int b.f1 ++ m_str b.f2.data.toList ++ m_int b.f3 ++ m_int b.f4 ++ m_int b.f5.f0 ++ m_int b.f5.f1.length
theorem pl_encB (b : Bl) : m_encB b = pl_headB b ++ b.f5.f1.flatMap m_int ++ pl_tailB b := by unfold m_encB pl_headB pl_tailB; simp only [List.append_assoc]
theorem pl_eInner (l : List Bl) (x6 : Int) (R : ByteArray × Int) (n : Nat) (F : List UInt8) (H : ∀ k, n ≤ k → copydeskref03_Encode.l0 k l ⟨F.toArray⟩ (wrap64 (x6 + 1)) = some R) (b : Bl) (hb : m_okB b) (hn : 20 ≤ n) (hF : F.length ≤ 1000000000) :
    ∀ (d k j : Nat) (acc : List UInt8), j + d = b.f5.f1.length → n + d + 1 ≤ k → acc ++ (b.f5.f1.drop j).flatMap m_int ++ pl_tailB b = F →
      copydeskref03_Encode.l1 k l ⟨acc.toArray⟩ x6 (j : Int) b.f0 b.f1 b.f2 b.f3 b.f4 b.f5.f0 b.f5.f1 b.f5.f2 b.f5.f3 = some R := by
  obtain ⟨h0, h1, h2, h3, h4, h5, ⟨h6, h6'⟩, h7, h8⟩ := hb
  intro d
  induction d with
  | zero =>
    intro k j acc hj hk hA
    obtain ⟨k, rfl⟩ : ∃ i, k = i + 1 := ⟨k - 1, by omega⟩
    rw [List.drop_eq_nil_of_le (by omega), List.flatMap_nil, List.append_nil, pl_tailB] at hA
    have hl : acc.length + ((m_int b.f5.f2).length + (m_int b.f5.f3).length) = F.length := by rw [← hA]; simp only [List.length_append]
    rw [copydeskref03_Encode.l1, if_neg (by omega), pl_rNum _ h7 k (by omega), Option.bind_some, pu_size, pu_size, if_pos (by omega), pl_rNum _ h8 k (by omega), Option.bind_some, pu_app, pu_size, pu_size, List.length_append, if_pos (by omega), pu_app, List.append_assoc, hA]
    exact H k (by omega)
  | succ d ih =>
    intro k j acc hj hk hA
    obtain ⟨k, rfl⟩ : ∃ i, k = i + 1 := ⟨k - 1, by omega⟩
    have hlt : j < b.f5.f1.length := by omega
    have hA' : (acc ++ m_int b.f5.f1[j]) ++ (b.f5.f1.drop (j + 1)).flatMap m_int ++ pl_tailB b = F := by rw [← hA, List.drop_eq_getElem_cons hlt]; simp only [List.flatMap_cons, List.append_assoc]
    have hl : acc.length + (m_int b.f5.f1[j]).length ≤ F.length := by rw [← hA']; simp only [List.length_append]; omega
    rw [copydeskref03_Encode.l1, if_pos (by omega), if_pos (by omega), pl_rd b.f5.f1 j hlt, pl_rNum _ (h6' _ (List.getElem_mem hlt)) k (by omega), Option.bind_some, pu_size, pu_size, if_pos (by omega), pu_app, pl_w j (by omega)]
    exact ih k (j + 1) _ (by omega) (by omega) hA'
theorem pl_rEnc (N c : Nat) (hN : 100 ≤ N) (hc : 100 ≤ c) (l : List Bl) (hl : l.length ≤ 24) (ht : ∀ b ∈ l, m_okB b) : ∀ (d k i : Nat) (acc : List UInt8), i + d = l.length → N + d * c ≤ k → acc.length + ((l.drop i).flatMap m_encB).length ≤ 1000000000 →
    copydeskref03_Encode.l0 k l ⟨acc.toArray⟩ (i : Int) = some (⟨(acc ++ (l.drop i).flatMap m_encB).toArray⟩, 0) := by
  intro d
  induction d with
  | zero =>
    intro k i acc hi hk hz
    obtain ⟨k, rfl⟩ : ∃ i, k = i + 1 := ⟨k - 1, by omega⟩
    rw [copydeskref03_Encode.l0, if_neg (by omega), List.drop_eq_nil_of_le (by omega), List.flatMap_nil, List.append_nil]
  | succ d ih =>
    intro k i acc hi hk hz
    obtain ⟨k, rfl⟩ : ∃ i, k = i + 1 := ⟨k - 1, by omega⟩
    have hlt : i < l.length := by omega
    have hb := ht l[i] (List.getElem_mem hlt)
    have hp : (l.drop i).flatMap m_encB = m_encB l[i] ++ (l.drop (i + 1)).flatMap m_encB := by rw [List.drop_eq_getElem_cons hlt]; rfl
    rw [hp] at hz ⊢
    rw [List.length_append] at hz
    rw [Nat.succ_mul] at hk
    generalize d * c = m at hk ih
    obtain ⟨n0, hn0⟩ : ∃ n0, n0 = N + m := ⟨_, rfl⟩
    have hk0 : n0 + 70 ≤ k := by omega
    have IH : ∀ k, n0 ≤ k → copydeskref03_Encode.l0 k l ⟨(acc ++ m_encB l[i]).toArray⟩ (wrap64 ((i : Int) + 1)) = some (⟨(acc ++ (m_encB l[i] ++ (l.drop (i + 1)).flatMap m_encB)).toArray⟩, 0) := fun k hk => by
      rw [pl_w i (by omega), ih k (i + 1) _ (by omega) (by omega) (by rw [List.length_append]; omega), List.append_assoc]
    rw [copydeskref03_Encode.l0, if_pos (by omega), if_pos (by omega), pl_rdB l i hlt]
    generalize l[i] = b at hb hz IH ⊢
    have hb' := hb
    obtain ⟨h0, h1, h2, h3, h4, h5, ⟨h6, h6'⟩, h7, h8⟩ := hb
    rw [pu_len] at h2
    have hh := pl_eInner l (i : Int) _ n0 (acc ++ m_encB b) IH b hb' (by omega) (by rw [List.length_append]; omega) b.f5.f1.length k 0 (acc ++ pl_headB b) (by omega) (by omega) (by rw [List.drop_zero, pl_encB]; simp only [List.append_assoc])
    have hz2 : acc.length + (pl_headB b).length ≤ 1000000000 := by
      rw [pl_encB, List.length_append, List.length_append] at hz; omega
    unfold pl_headB at hz2 hh
    rw [pl_rStr b.f2 h2 k (by omega), Option.bind_some, pl_rNum _ h0 k (by omega), Option.bind_some, pl_rNum _ h1 k (by omega), pl_rNum _ h3 k (by omega), pl_rNum _ h4 k (by omega), pl_rNum _ h5 k (by omega), pl_rNum _ (pl_fitsN _ (by omega)) k (by omega)]
    generalize m_int b.f0 = i0 at hz2 hh ⊢
    generalize m_int b.f1 = i1 at hz2 hh ⊢
    generalize m_str b.f2.data.toList = i2 at hz2 hh ⊢
    generalize m_int b.f3 = i3 at hz2 hh ⊢
    generalize m_int b.f4 = i4 at hz2 hh ⊢
    generalize m_int b.f5.f0 = i5 at hz2 hh ⊢
    generalize m_int ((b.f5.f1.length : Nat) : Int) = i6 at hz2 hh ⊢
    simp only [Option.bind_some, pu_app, pu_size, List.length_append] at hz2 ⊢
    rw [if_pos (by omega), if_pos (by omega), if_pos (by omega), if_pos (by omega), if_pos (by omega), if_pos (by omega), if_pos (by omega)]
    rw [show ((0 : Nat) : Int) = 0 from rfl] at hh
    simpa only [List.append_assoc] using hh
theorem pl_encLen (b : Bl) (h : m_okB b) : (m_encB b).length ≤ 70000 := by
  obtain ⟨h0, h1, h2, h3, h4, h5, ⟨h6, h6'⟩, h7, h8⟩ := h
  have e : ∀ l : List Int, (l.flatMap m_int).length ≤ 10 * l.length := by
    intro l
    induction l with
    | nil => simp
    | cons x l ih =>
      have := pl_intLen x
      rw [List.flatMap_cons, List.length_append, List.length_cons]; omega
  have e6 := e b.f5.f1
  have a0 := pl_intLen b.f0
  have a1 := pl_intLen b.f1
  have a2 := pl_intLen b.f2.data.toList.length
  have a3 := pl_intLen b.f3
  have a4 := pl_intLen b.f4
  have a5 := pl_intLen b.f5.f0
  have a6 := pl_intLen b.f5.f1.length
  have a7 := pl_intLen b.f5.f2
  have a8 := pl_intLen b.f5.f3
  unfold m_encB m_str
  simp only [List.length_append]
  omega
theorem pl_encLens : ∀ l : List Bl, (∀ b ∈ l, m_okB b) → (l.flatMap m_encB).length ≤ 70000 * l.length
  | [], _ => by simp
  | b :: l, h => by
    have h1 := pl_encLen b (h b (by simp))
    have h2 := pl_encLens l (fun x hx => h x (by simp [hx]))
    rw [List.flatMap_cons, List.length_append, List.length_cons]; omega
theorem BlockEncodeMatchesReference (l0 : List Bl) (h0 : l0.length ≤ 9223372036854775807) : ∃ k, copydesklaw03_BlockEncodeMatchesReference.f k l0 = some true := by
  refine ⟨50000, ?_⟩
  have t0 := m_short_text l0
  unfold copydesklaw03_BlockEncodeMatchesReference.f copydesklaw03_sane.f
  rw [Option.bind_some, pl_short l0 h0 50000 (by omega), Option.bind_some]
  obtain ⟨a, ha⟩ : ∃ a, m_short l0 = a := ⟨_, rfl⟩
  rw [ha] at t0 ⊢
  have eE : block_Encode.f a = some (m_encode a) := rfl
  have hV := pl_rValidL a 1000 (by omega) t0 50000 (by omega)
  rw [eE, Option.bind_some]
  unfold copydeskref03_Encode.f
  rw [hV, Option.bind_some]
  cases hv : m_validL a with
  | false => rw [if_neg (by simp), Option.bind_some, if_pos rfl, cd_encode_err a hv]; exact if_pos rfl
  | true =>
    obtain ⟨hl, hok⟩ := cd_validL_ok a hv
    have hL := pl_encLens a hok
    have hi := pl_intLen (a.length : Int)
    have := pl_rEnc 100 100 (by omega) (by omega) a hl hok a.length 50000 0 (m_int a.length) (by omega) (by omega) (by rw [List.drop_zero]; omega)
    rw [if_pos rfl, pl_rNum _ (pl_fitsN a.length (by omega)) 50000 (by omega), Option.bind_some]
    rw [List.drop_zero] at this
    rw [show ((0 : Nat) : Int) = 0 from rfl] at this
    rw [this, Option.bind_some, if_pos rfl, cd_encode_ok a hv]
    show (if (⟨(m_enc a).toArray⟩ : ByteArray).toList = (⟨(m_int a.length ++ a.flatMap m_encB).toArray⟩ : ByteArray).toList then some ((0 : Int) == 0) else some false) = _
    exact if_pos rfl
end Go.Proofs.YtpgjhjlhipikgaaDoor.Pure
end
section
set_option linter.unusedVariables false
set_option linter.unusedSimpArgs false
namespace Go.Proofs.YtpgjhjlhipikgaaDoor.PK
open Go.RowKit Go.Proofs.YtpgjhjlhipikgaaDoorW.PrintWords Go.Proofs.YtpgjhjlhipikgaaDoorW.PrintLast Go.Proofs.YtpgjhjlhipikgaaDoorW.PrintMore Go.ChangeShapes Go.WideShapes Go.ChangeAt
section
variable {H : Type} {enc : TypeId × Value → H} {W : World} {base : Nat} {spare : Nat → Bool} {held : Bool}
theorem op_c3 : Tryd.prog.cellsOf 3 = 1 := by kernel_rfl
theorem op_c9 : Tryd.prog.cellsOf 9 = 1 := by kernel_rfl
theorem op_c22 : Tryd.prog.cellsOf 22 = 1 := by kernel_rfl
theorem op_c24 : Tryd.prog.cellsOf 24 = 4 := by kernel_rfl
theorem op_c26 : Tryd.prog.cellsOf 26 = 9 := by kernel_rfl
theorem op_ints {fuel : Nat} {v : Value} {x : DataW H × List MemPlace} (h : DataW.trod enc Tryd.prog W base spare held fuel 22 [v] = some x) :
    ∃ (A : Option Addr) (l : List Int) (c : Nat), v = .slice A l.length c ∧ l.length ≤ c ∧ Kd.C (Kd.int .i64) W A l.length l := by
  rcases open_ints Tryd.underlying22 Tryd.underlying3 op_c3 h with ⟨hcs, _⟩ | ⟨a, len, cap, zs, hcs, _, hl, hm, hz, _, hcell, _⟩
  · have hv : v = .slice none 0 0 := by simpa using hcs
    exact ⟨none, [], 0, hv, Nat.le_refl _, rfl, by simp, fun h => absurd h (by simp)⟩
  · have hv : v = .slice (some a) len cap := by simpa using hcs
    have hlz : len ≤ zs.length := by rw [hz]; split <;> omega
    have hlen : (zs.take len).length = len := by rw [List.length_take]; omega
    have hmx : len ≤ 9223372036854775807 := by unfold maxLen at hm; omega
    refine ⟨some a, zs.take len, cap, by rw [hlen]; exact hv, by rw [hlen]; exact hl, rfl, by rw [hlen]; exact hmx, fun _ => ⟨a, rfl, fun j p hp => ⟨[.int .i64 p], rfl, rfl, fun i u hu => ?_⟩⟩⟩
    have hi : i = 0 := by
      have := (List.getElem?_eq_some_iff.1 hu).1
      simp at this; exact this
    subst hi
    have hu' : u = .int .i64 p := (Option.some.inj hu).symm
    subst hu'
    have hj := (List.getElem?_eq_some_iff.1 hp).1
    rw [hlen] at hj
    have hc := hcell j (by omega)
    rw [List.getElem?_take_of_lt hj] at hp
    rw [List.getD_eq_getElem?_getD, hp] at hc
    show W.cell? (a.add (j * 1 + 0)) = _
    rw [Nat.mul_one, Nat.add_zero]
    exact hc
theorem op_six {α : Type} (xs : List α) (h : xs.length = 6) : ∃ a b c d e f, xs = [a, b, c, d, e, f] := by
  match xs, h with
  | [a, b, c, d, e, f], _ => exact ⟨a, b, c, d, e, f, rfl⟩
theorem op_four {α : Type} (xs : List α) (h : xs.length = 4) : ∃ a b c d, xs = [a, b, c, d] := by
  match xs, h with
  | [a, b, c, d], _ => exact ⟨a, b, c, d, rfl⟩
theorem op_nine {α : Type} (xs : List α) (h : xs.length = 9) : ∃ a b c d e f g i j, xs = [a, b, c, d, e, f, g, i, j] := by
  match xs, h with
  | [a, b, c, d, e, f, g, i, j], _ => exact ⟨a, b, c, d, e, f, g, i, j, rfl⟩
theorem op_block {fuel : Nat} {cs : List Value} {x : DataW H × List MemPlace} (h : DataW.trod enc Tryd.prog W base spare held fuel 26 cs = some x) :
    ∃ (b : S26) (A : Option Addr) (c : Nat), cs = [.int .i64 b.f0, .int .i64 b.f1, .string b.f2, .int .i64 b.f3, .int .i64 b.f4, .int .i64 b.f5.f0, .slice A b.f5.f1.length c, .int .i64 b.f5.f2, .int .i64 b.f5.f3] ∧
      b.f5.f1.length ≤ c ∧ Kd.C (Kd.int .i64) W A b.f5.f1.length b.f5.f1 := by
  obtain ⟨xs, n, _, _, hlen, hxl, hel⟩ := DataW.trod_struct Tryd.underlying26 h
  rw [op_c26] at hlen
  obtain ⟨c0, c1, c2, c3, c4, c5, c6, c7, c8, rfl⟩ := op_nine cs hlen
  obtain ⟨y0, y1, y2, y3, y4, y5, rfl⟩ := op_six xs hxl
  have e0 : DataW.trod enc Tryd.prog W base spare held n 3 (([c0, c1, c2, c3, c4, c5, c6, c7, c8].drop 0).take (Tryd.prog.cellsOf 3)) = some y0 := hel 0 _ rfl
  have e1 : DataW.trod enc Tryd.prog W base spare held n 3 (([c0, c1, c2, c3, c4, c5, c6, c7, c8].drop 1).take (Tryd.prog.cellsOf 3)) = some y1 := hel 1 _ rfl
  have e2 : DataW.trod enc Tryd.prog W base spare held n 9 (([c0, c1, c2, c3, c4, c5, c6, c7, c8].drop 2).take (Tryd.prog.cellsOf 9)) = some y2 := hel 2 _ rfl
  have e3 : DataW.trod enc Tryd.prog W base spare held n 3 (([c0, c1, c2, c3, c4, c5, c6, c7, c8].drop 3).take (Tryd.prog.cellsOf 3)) = some y3 := hel 3 _ rfl
  have e4 : DataW.trod enc Tryd.prog W base spare held n 3 (([c0, c1, c2, c3, c4, c5, c6, c7, c8].drop 4).take (Tryd.prog.cellsOf 3)) = some y4 := hel 4 _ rfl
  have e5 : DataW.trod enc Tryd.prog W base spare held n 24 (([c0, c1, c2, c3, c4, c5, c6, c7, c8].drop 5).take (Tryd.prog.cellsOf 24)) = some y5 := hel 5 _ rfl
  rw [op_c3] at e0 e1 e3 e4
  rw [op_c9] at e2
  rw [op_c24] at e5
  obtain ⟨n0, g0, _, _⟩ := DataW.trod_int Tryd.underlying3 (show DataW.trod enc Tryd.prog W base spare held n 3 [c0] = some y0 from e0)
  obtain ⟨n1, g1, _, _⟩ := DataW.trod_int Tryd.underlying3 (show DataW.trod enc Tryd.prog W base spare held n 3 [c1] = some y1 from e1)
  obtain ⟨s2, g2, _, _⟩ := DataW.trod_string Tryd.underlying9 (show DataW.trod enc Tryd.prog W base spare held n 9 [c2] = some y2 from e2)
  obtain ⟨n3, g3, _, _⟩ := DataW.trod_int Tryd.underlying3 (show DataW.trod enc Tryd.prog W base spare held n 3 [c3] = some y3 from e3)
  obtain ⟨n4, g4, _, _⟩ := DataW.trod_int Tryd.underlying3 (show DataW.trod enc Tryd.prog W base spare held n 3 [c4] = some y4 from e4)
  obtain ⟨zs, m, _, _, _, hzl, hez⟩ := DataW.trod_struct Tryd.underlying24 (show DataW.trod enc Tryd.prog W base spare held n 24 [c5, c6, c7, c8] = some y5 from e5)
  obtain ⟨z0, z1, z2, z3, rfl⟩ := op_four zs hzl
  have f0 : DataW.trod enc Tryd.prog W base spare held m 3 (([c5, c6, c7, c8].drop 0).take (Tryd.prog.cellsOf 3)) = some z0 := hez 0 _ rfl
  have f1 : DataW.trod enc Tryd.prog W base spare held m 22 (([c5, c6, c7, c8].drop 1).take (Tryd.prog.cellsOf 22)) = some z1 := hez 1 _ rfl
  have f2 : DataW.trod enc Tryd.prog W base spare held m 3 (([c5, c6, c7, c8].drop 2).take (Tryd.prog.cellsOf 3)) = some z2 := hez 2 _ rfl
  have f3 : DataW.trod enc Tryd.prog W base spare held m 3 (([c5, c6, c7, c8].drop 3).take (Tryd.prog.cellsOf 3)) = some z3 := hez 3 _ rfl
  rw [op_c3] at f0 f2 f3
  rw [op_c22] at f1
  obtain ⟨n5, g5, _, _⟩ := DataW.trod_int Tryd.underlying3 (show DataW.trod enc Tryd.prog W base spare held m 3 [c5] = some z0 from f0)
  obtain ⟨A, l, c, g6, hl, hC⟩ := op_ints (show DataW.trod enc Tryd.prog W base spare held m 22 [c6] = some z1 from f1)
  obtain ⟨n7, g7, _, _⟩ := DataW.trod_int Tryd.underlying3 (show DataW.trod enc Tryd.prog W base spare held m 3 [c7] = some z2 from f2)
  obtain ⟨n8, g8, _, _⟩ := DataW.trod_int Tryd.underlying3 (show DataW.trod enc Tryd.prog W base spare held m 3 [c8] = some z3 from f3)
  refine ⟨⟨n0, n1, s2, n3, n4, ⟨n5, l, n7, n8⟩⟩, A, c, ?_, hl, hC⟩
  rw [List.cons.inj g0 |>.1, List.cons.inj g1 |>.1, List.cons.inj g2 |>.1, List.cons.inj g3 |>.1, List.cons.inj g4 |>.1, List.cons.inj g5 |>.1, g6, List.cons.inj g7 |>.1, List.cons.inj g8 |>.1]
theorem op_choose {α : Type} (P : Nat → α → Prop) : ∀ n, (∀ i, i < n → ∃ b, P i b) → ∃ bs : List α, bs.length = n ∧ ∀ i b, bs[i]? = some b → P i b
  | 0, _ => ⟨[], rfl, by simp⟩
  | n + 1, h => by
    obtain ⟨bs, h1, h2⟩ := op_choose P n (fun i hi => h i (by omega))
    obtain ⟨b, hb⟩ := h n (by omega)
    refine ⟨bs ++ [b], by simp [h1], fun i c hc => ?_⟩
    by_cases hi : i < n
    · rw [List.getElem?_append_left (by omega)] at hc
      exact h2 i c hc
    · have hl := (List.getElem?_eq_some_iff.1 hc).1
      simp [h1] at hl
      have : i = n := by omega
      subst this
      rw [List.getElem?_append_right (by omega), h1, Nat.sub_self] at hc
      have : b = c := by simpa using hc
      subst this
      exact hb
theorem op_blocks {a : Option Addr} {len cap : Nat} {d : DataW H} {ps : List MemPlace} (h : DataW.Trod enc Tryd.prog W base spare held 27 (.slice a len cap) d ps) :
    ∃ bs : List (S26), len = bs.length ∧ bs.length ≤ cap ∧ Kd.C k26 W a bs.length bs := by
  obtain ⟨fuel, hf⟩ := h
  have hf' : DataW.trod enc Tryd.prog W base spare held fuel 27 [.slice a len cap] = some (d, ps) := hf
  rcases DataW.trod_slice Tryd.underlying27 hf' with ⟨hcs, _⟩ | ⟨ad, len', cap', elems, rest, n, _, hcs, _, _, hl, hm, hel, hx, _, _⟩
  · have hv : (.slice a len cap : Value) = .slice none 0 0 := by simpa using hcs
    injection hv with h1 h2 h3
    subst h1; subst h2; subst h3
    exact ⟨[], rfl, Nat.le_refl _, rfl, by simp, fun h => absurd h (by simp)⟩
  · have hv : (.slice a len cap : Value) = .slice (some ad) len' cap' := by simpa using hcs
    injection hv with h1 h2 h3
    subst h1; subst h2; subst h3
    obtain ⟨bs, hbl, hb⟩ := op_choose (fun i (b : S26) => ∃ (A : Option Addr) (c : Nat), b.f5.f1.length ≤ c ∧ Kd.C (Kd.int .i64) W A b.f5.f1.length b.f5.f1 ∧ ∀ j u, ([.int .i64 b.f0, .int .i64 b.f1, .string b.f2, .int .i64 b.f3, .int .i64 b.f4, .int .i64 b.f5.f0, .slice A b.f5.f1.length c, .int .i64 b.f5.f2, .int .i64 b.f5.f3] : List Value)[j]? = some u → W.cell? (ad.add (i * 9 + j)) = some u) len (fun i hi => by
      have hxi := hx i hi
      rw [List.getElem?_eq_getElem (by omega)] at hxi
      obtain ⟨cs, hcs, ht⟩ := Option.bind_eq_some_iff.1 hxi
      rw [op_c26] at hcs
      obtain ⟨_, h9, hcell⟩ := World.cells?_some hcs
      obtain ⟨b, A, c, rfl, h6, hC⟩ := op_block ht
      refine ⟨b, A, c, h6, hC, fun j u hu => ?_⟩
      have hj := (List.getElem?_eq_some_iff.1 hu).1
      have := hcell j (by simpa using hj)
      rw [Addr.add_add, hu] at this
      exact this)
    subst hbl
    refine ⟨bs, rfl, hl, rfl, by unfold maxLen at hm; omega, fun _ => ⟨ad, rfl, fun j p hp => ?_⟩⟩
    obtain ⟨A, c, h6, hC, hc⟩ := hb j p hp
    exact ⟨_, rfl, k26_mk W p h6 hC, fun i u hu => hc i u hu⟩
end
end Go.Proofs.YtpgjhjlhipikgaaDoor.PK
end
