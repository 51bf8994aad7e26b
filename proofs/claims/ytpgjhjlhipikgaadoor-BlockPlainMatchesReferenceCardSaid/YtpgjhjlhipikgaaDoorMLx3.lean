/- Texts of this claim, one behind the other. -/
import Derived.Test.YtpgjhjlhipikgaaDoorMLx2
import Derived.Test.YtpgjhjlhipikgaaDoorMDx3
import Derived.ProofKit
import Derived.OpenShut
import Derived.DataElems
import Derived.Deep.Slices
section
set_option linter.unusedVariables false
set_option linter.unusedSimpArgs false
namespace Go.Proofs.YtpgjhjlhipikgaaDoor.Pure
open Go.RowKit Go.Proofs.YtpgjhjlhipikgaaDoor.PK Go.Proofs.YtpgjhjlhipikgaaDoorW.PrintWords Go.Proofs.YtpgjhjlhipikgaaDoorW.PrintLast
theorem pl_rdB (l : List Bl) (j : Nat) (h : j < l.length) : rd_T26 l (j : Int) = l[j] := by
  simp [rd_T26, List.getD_eq_getElem?_getD, h]
def m_cut (b : Bl) : Bl := ⟨b.f0, b.f1, b.f2.extract 0 (mn (b.f2.size : Int) 1000).toNat, b.f3, b.f4, ⟨b.f5.f0, b.f5.f1, b.f5.f2, b.f5.f3⟩⟩
def m_short (l : List Bl) : List Bl := (l.take 30).map m_cut
theorem pl_shortGo (l : List Bl) (hl : l.length ≤ 9223372036854775807) : ∀ (d k j : Nat), j + d = 30 → d < k → j ≤ l.length →
    copydesklaw03_short.l0 k l ((l.take j).map m_cut) (j : Int) = some (m_short l)
  | 0, k, j, hj, hk, hjl => by
    obtain ⟨k, rfl⟩ : ∃ i, k = i + 1 := ⟨k - 1, by omega⟩
    have e : j = 30 := by omega
    subst e
    rw [copydesklaw03_short.l0, if_neg (show ¬ ((30 : Nat) : Int) < 30 by omega)]
    split <;> rfl
  | d + 1, k, j, hj, hk, hjl => by
    obtain ⟨k, rfl⟩ : ∃ i, k = i + 1 := ⟨k - 1, by omega⟩
    rw [copydesklaw03_short.l0]
    by_cases hlt : j < l.length
    · obtain ⟨h1, h2, h3⟩ := pu_cut l[j].f2 1000 (by omega)
      have e : (l.take j).map m_cut ++ [m_cut l[j]] = (l.take (j + 1)).map m_cut := by rw [List.take_succ_eq_append_getElem hlt, List.map_append]; rfl
      have hc : ((l.take j).map m_cut).length < 1466015503701 := by rw [List.length_map, List.length_take]; omega
      rw [if_pos (by omega), if_pos (by omega), if_pos (by omega), pl_rdB l j hlt, if_pos h1, if_pos h2, if_pos hc, pu_w1 j (by omega)]
      show copydesklaw03_short.l0 k l ((l.take j).map m_cut ++ [m_cut l[j]]) _ = _
      rw [e]
      exact pl_shortGo l hl d k (j + 1) (by omega) (by omega) hlt
    · have e : j = l.length := by omega
      rw [if_neg (by omega), e, List.take_of_length_le (Nat.le_refl _)]
      unfold m_short
      rw [List.take_of_length_le (by omega)]
theorem pl_short (l : List Bl) (hl : l.length ≤ 9223372036854775807) (k : Nat) (hk : 40 < k) : copydesklaw03_short.f k l = some (m_short l) := pl_shortGo l hl 30 k 0 (by omega) (by omega) (Nat.zero_le _)
theorem m_short_len (l : List Bl) : (m_short l).length ≤ 30 := by simp [m_short]; omega
theorem m_short_text (l : List Bl) : ∀ b ∈ m_short l, b.f2.size ≤ 1000 := by
  intro b hb
  obtain ⟨c, _, rfl⟩ := List.mem_map.1 hb
  exact (pu_cut c.f2 1000 (by omega)).2.2
theorem m_line_len (kind : Int) (t : List UInt8) : (m_line kind t).length ≤ 2 * t.length + 3 := by
  have h := (sl_parts t).join_len
  unfold m_line
  split
  · simp; omega
  · split
    · simp; omega
    · split
      · simp; omega
      · split
        · simp; omega
        · split
          · simp; omega
          · simp
theorem pl_plainLen : ∀ (l : List Bl), (∀ b ∈ l, b.f2.size ≤ 1000) → (m_plain l).length ≤ 2003 * l.length
  | [], _ => by simp [m_plain]
  | b :: l, h => by
    have h1 := h b (by simp)
    have h2 := pl_plainLen l (fun x hx => h x (by simp [hx]))
    have h3 := m_line_len b.f1 b.f2.data.toList
    rw [pu_len] at h3
    show (m_line b.f1 b.f2.data.toList ++ m_plain l).length ≤ _
    rw [List.length_append, List.length_cons]; omega
theorem pl_plain (l : List Bl) (hl : l.length ≤ 100) (h : ∀ b ∈ l, b.f2.size ≤ 1000) : block_Plain.f l = some ⟨(m_plain l).toArray⟩ ∧ (m_plain l).length ≤ 200300 := by
  have hn := pl_plainLen l h
  refine ⟨?_, by omega⟩
  unfold block_Plain.f
  rw [if_pos]
  simp only [Bool.and_eq_true, List.all_eq_true, decide_eq_true_eq]
  exact ⟨fun b hb => by have := h b hb; omega, by omega⟩
def pl_E (x0 : ByteArray) (x1 : Int) : Option Bool := if (wrap64 (x1 - 1)) ≥ 0 then (if 0 ≤ (wrap64 (x1 - 1)) then (if (wrap64 (x1 - 1)) < (x0.size : Int) then (if (bt x0 (wrap64 (x1 - 1))) ≥ 65 then (if (bt x0 (wrap64 (x1 - 1))) ≤ 90 then (if (wrap64 (x1 - 1)) = 0 then (if 0 ≤ x1 then (if x1 < (x0.size : Int) then (if (bt x0 x1) = 46 then (some (!true)) else (some true)) else (none)) else (none)) else (if 0 ≤ (wrap64 ((wrap64 (x1 - 1)) - 1)) then (if (wrap64 ((wrap64 (x1 - 1)) - 1)) < (x0.size : Int) then (if 0 ≤ x1 then (if x1 < (x0.size : Int) then (if (bt x0 x1) = 46 then (some (!((bt x0 (wrap64 ((wrap64 (x1 - 1)) - 1))) == 32))) else (some true)) else (none)) else (none)) else (none)) else (none))) else (if 0 ≤ x1 then (if x1 < (x0.size : Int) then (if (bt x0 x1) = 46 then (some (!false)) else (some true)) else (none)) else (none))) else (if 0 ≤ x1 then (if x1 < (x0.size : Int) then (if (bt x0 x1) = 46 then (some (!false)) else (some true)) else (none)) else (none))) else (none)) else (none)) else (if 0 ≤ x1 then (if x1 < (x0.size : Int) then (if (bt x0 x1) = 46 then (some (!false)) else (some true)) else (none)) else (none))
theorem pl_j0 (k : Nat) (s : ByteArray) (i : Int) (b : Bool) : copydeskref03_ends.j0 (k + 1) s i b = if b = true then some false else (if wrap64 (i + 1) < (s.size : Int) then (if 0 ≤ wrap64 (i + 1) then (if bt s (wrap64 (i + 1)) = 32 then pl_E s i else some false) else none) else pl_E s i) := rfl
theorem pl_nat (c : UInt8) (n : Nat) (hn : n < 256) : ((c.toNat : Int) = (n : Int)) ↔ c = UInt8.ofNat n := by
  constructor
  · intro h
    apply UInt8.toNat_inj.1
    rw [cd_toNat n hn]; omega
  · rintro rfl; rw [cd_toNat n hn]
theorem pl_Eeq (s : ByteArray) (i : Nat) (hi : i < s.size) (hs : s.size ≤ 1000000) : pl_E s (i : Int) = some (!(m_at s.data.toList i == 46 && decide (1 ≤ i) && m_initial s.data.toList (i - 1))) := by
  have b0 : 0 ≤ (i : Int) := by omega
  have b1 : (i : Int) < (s.size : Int) := by omega
  have h46 : ((m_at s.data.toList i).toNat : Int) = 46 ↔ m_at s.data.toList i = 46 := pl_nat _ 46 (by omega)
  have fin : ∀ q : Bool, (if 0 ≤ (i : Int) then (if (i : Int) < (s.size : Int) then (if bt s (i : Int) = 46 then some (!q) else some true) else none) else none) = some (!(m_at s.data.toList i == 46 && q)) := fun q => by
    rw [if_pos b0, if_pos b1, pu_bt s i hi]
    by_cases h : m_at s.data.toList i = 46
    · rw [if_pos (h46.2 h), h]; rfl
    · rw [if_neg (fun e => h (h46.1 e)), show (m_at s.data.toList i == 46) = false by simpa using h]; rfl
  unfold pl_E
  rw [Bool.and_assoc]
  cases i with
  | zero =>
    have hw : wrap64 (((0 : Nat) : Int) - 1) = -1 := by unfold wrap64; omega
    rw [hw, if_neg (by decide)]
    exact fin false
  | succ j =>
    have hw : wrap64 (((j + 1 : Nat) : Int) - 1) = (j : Int) := by unfold wrap64; omega
    have c0 : (j : Int) ≥ 0 := by omega
    have c1 : 0 ≤ (j : Int) := by omega
    have c2 : (j : Int) < (s.size : Int) := by omega
    rw [hw, if_pos c0, if_pos c1, if_pos c2, pu_bt s j (by omega), Nat.add_sub_cancel, decide_eq_true (show 1 ≤ j + 1 by omega), Bool.true_and]
    unfold m_initial
    by_cases h65 : ((m_at s.data.toList j).toNat : Int) ≥ 65
    · rw [if_pos h65, decide_eq_true (show 65 ≤ (m_at s.data.toList j).toNat by omega), Bool.true_and]
      by_cases h90 : ((m_at s.data.toList j).toNat : Int) ≤ 90
      · rw [if_pos h90, decide_eq_true (show (m_at s.data.toList j).toNat ≤ 90 by omega), Bool.true_and]
        cases j with
        | zero =>
          rw [if_pos (show ((0 : Nat) : Int) = 0 from rfl)]
          exact fin true
        | succ m =>
          have hw2 : wrap64 (((m + 1 : Nat) : Int) - 1) = (m : Int) := by unfold wrap64; omega
          have e0 : ¬ ((m + 1 : Nat) : Int) = 0 := by omega
          have e1 : 0 ≤ (m : Int) := by omega
          have e2 : (m : Int) < (s.size : Int) := by omega
          rw [if_neg e0, hw2, if_pos e1, if_pos e2, pu_bt s m (by omega), Nat.add_sub_cancel, decide_eq_false (show ¬ m + 1 = 0 by omega), Bool.false_or]
          have hq : (((m_at s.data.toList m).toNat : Int) == 32) = (m_at s.data.toList m == 32) := by
            rw [Bool.eq_iff_iff]
            simp only [beq_iff_eq]
            exact pu_nat32 _
          rw [hq]
          exact fin _
      · rw [if_neg h90, decide_eq_false (show ¬ (m_at s.data.toList j).toNat ≤ 90 by omega), Bool.false_and]
        exact fin false
    · rw [if_neg h65, decide_eq_false (show ¬ 65 ≤ (m_at s.data.toList j).toNat by omega), Bool.false_and, Bool.false_and]
      exact fin false
theorem pl_ends (s : ByteArray) (i : Nat) (hi : i < s.size) (hs : s.size ≤ 1000000) (k : Nat) (hk : 2 < k) : copydeskref03_ends.f k s (i : Int) = some (m_ends s.data.toList i) := by
  obtain ⟨k, rfl⟩ : ∃ j, k = j + 1 := ⟨k - 1, by omega⟩
  have b0 : 0 ≤ (i : Int) := by omega
  have b1 : (i : Int) < (s.size : Int) := by omega
  have hE := pl_Eeq s i hi hs
  have h46 : ((m_at s.data.toList i).toNat : Int) = 46 ↔ m_at s.data.toList i = 46 := pl_nat _ 46 (by omega)
  have h33 : ((m_at s.data.toList i).toNat : Int) = 33 ↔ m_at s.data.toList i = 33 := pl_nat _ 33 (by omega)
  have h63 : ((m_at s.data.toList i).toNat : Int) = 63 ↔ m_at s.data.toList i = 63 := pl_nat _ 63 (by omega)
  have hj : copydeskref03_ends.j0 (k + 1) s (i : Int) false = some ((decide (s.data.toList.length ≤ i + 1) || m_at s.data.toList (i + 1) == 32) && !(m_at s.data.toList i == 46 && decide (1 ≤ i) && m_initial s.data.toList (i - 1))) := by
    rw [pl_j0, if_neg (by decide), pu_w1 i (by omega), hE, pu_len]
    by_cases h : i + 1 < s.size
    · have c1 : ((i + 1 : Nat) : Int) < (s.size : Int) := by omega
      have c2 : 0 ≤ ((i + 1 : Nat) : Int) := by omega
      rw [if_pos c1, if_pos c2, pu_bt s (i + 1) h, decide_eq_false (show ¬ s.size ≤ i + 1 by omega), Bool.false_or]
      by_cases h32 : m_at s.data.toList (i + 1) = 32
      · rw [if_pos ((pu_nat32 _).2 h32), h32]; rfl
      · rw [if_neg (fun e => h32 ((pu_nat32 _).1 e)), show (m_at s.data.toList (i + 1) == 32) = false by simpa using h32]; rfl
    · have c1 : ¬ ((i + 1 : Nat) : Int) < (s.size : Int) := by omega
      rw [if_neg c1, decide_eq_true (show s.size ≤ i + 1 by omega), Bool.true_or, Bool.true_and]
  unfold copydeskref03_ends.f m_ends
  rw [if_pos b0, if_pos b1, pu_bt s i hi, Bool.and_assoc]
  by_cases c46 : m_at s.data.toList i = 46
  · rw [if_pos (h46.2 c46), hj, c46]; rfl
  · rw [if_neg (fun e => c46 (h46.1 e))]
    by_cases c33 : m_at s.data.toList i = 33
    · rw [if_pos (h33.2 c33), hj, c33]; rfl
    · rw [if_neg (fun e => c33 (h33.1 e))]
      by_cases c63 : m_at s.data.toList i = 63
      · rw [show (((m_at s.data.toList i).toNat : Int) != 63) = false by rw [c63]; rfl, hj, c63]; rfl
      · rw [show (((m_at s.data.toList i).toNat : Int) != 63) = true by simp only [bne_iff_ne, ne_eq]; exact fun e => c63 (h63.1 e), pl_j0, if_pos rfl,
          show (m_at s.data.toList i == 46) = false by simpa using c46, show (m_at s.data.toList i == 33) = false by simpa using c33, show (m_at s.data.toList i == 63) = false by simpa using c63]; rfl
def m_rstrip (l : List UInt8) : List UInt8 := (l.reverse.dropWhile (· == 32)).reverse
theorem m_rstrip_snoc (l : List UInt8) (c : UInt8) : m_rstrip (l ++ [c]) = if c = 32 then m_rstrip l else l ++ [c] := by
  unfold m_rstrip
  rw [List.reverse_append, List.reverse_singleton, List.singleton_append]
  by_cases h : c = 32
  · rw [if_pos h, List.dropWhile_cons_of_pos (by simpa using h)]
  · rw [if_neg h, List.dropWhile_cons_of_neg (by simpa using h), List.reverse_cons, List.reverse_reverse]
theorem pl_extract (l : List UInt8) (a b : Nat) : (⟨l.toArray⟩ : ByteArray).extract a b = ⟨((l.drop a).take (b - a)).toArray⟩ := by
  refine cd_ba_inj _ _ ?_
  rw [ByteArray.data_extract, Array.toList_extract, List.extract_eq_take_drop]
theorem pl_rs : ∀ (n k : Nat) (l : List UInt8), l.length = n → n + 1 < k → n ≤ 1000000 → copydeskref03_trimmed.l1 k ⟨l.toArray⟩ = some ⟨(m_rstrip l).toArray⟩
  | 0, k, l, hl, hk, hc => by
    obtain ⟨k, rfl⟩ : ∃ j, k = j + 1 := ⟨k - 1, by omega⟩
    rw [List.eq_nil_of_length_eq_zero hl, copydeskref03_trimmed.l1, pu_toList, if_pos rfl]; rfl
  | n + 1, k, l, hl, hk, hc => by
    obtain ⟨k, rfl⟩ : ∃ j, k = j + 1 := ⟨k - 1, by omega⟩
    have hne : l ≠ [] := by rintro rfl; simp at hl
    obtain ⟨m, c, rfl⟩ : ∃ m c, l = m ++ [c] := ⟨l.dropLast, l.getLast hne, (List.dropLast_concat_getLast hne).symm⟩
    have hml : m.length = n := by simpa using hl
    have hsz : (⟨(m ++ [c]).toArray⟩ : ByteArray).size = n + 1 := by rw [pu_size]; exact hl
    have hw : wrap64 (((n + 1 : Nat) : Int) - 1) = (n : Int) := by unfold wrap64; omega
    have hat : m_at (m ++ [c]) n = c := by
      have := sl_at_right m [c] 0
      rw [Nat.add_zero, hml] at this
      exact this
    rw [copydeskref03_trimmed.l1, pu_toList, if_neg (show ¬ (⟨(m ++ [c]).toArray⟩ : ByteArray).data.toList = [] from hne), hsz, hw, if_pos (by omega), if_pos (by omega), pu_bt _ n (by rw [hsz]; omega), m_rstrip_snoc]
    show (if ((m_at (m ++ [c]) n).toNat : Int) = 32 then _ else _) = _
    rw [hat]
    by_cases h : c = 32
    · rw [if_pos ((pu_nat32 _).2 h), if_pos h, if_pos (by omega), Int.toNat_natCast, pl_extract, List.drop_zero, Nat.sub_zero, List.take_append_of_le_length (by omega), List.take_of_length_le (by omega)]
      exact pl_rs n k m hml (by omega) (by omega)
    · rw [if_neg (fun e => h ((pu_nat32 _).1 e)), if_neg h]
theorem pl_ls : ∀ (l : List UInt8) (k : Nat), 2 * l.length + 4 < k → l.length ≤ 1000000 → copydeskref03_trimmed.l0 k ⟨l.toArray⟩ = some ⟨(m_rstrip (l.dropWhile (· == 32))).toArray⟩
  | [], k, hk, hc => by
    obtain ⟨k, rfl⟩ : ∃ j, k = j + 1 + 1 := ⟨k - 2, by omega⟩
    rw [copydeskref03_trimmed.l0, pu_toList, if_pos rfl, copydeskref03_trimmed.j1, pl_rs 0 k [] rfl (by omega) (by omega)]; rfl
  | c :: l, k, hk, hc => by
    obtain ⟨k, rfl⟩ : ∃ j, k = j + 1 + 1 := ⟨k - 2, by omega⟩
    simp only [List.length_cons] at hk hc
    have hsz : (⟨(c :: l).toArray⟩ : ByteArray).size = l.length + 1 := pu_size _
    have hb := pu_bt (⟨(c :: l).toArray⟩ : ByteArray) 0 (by rw [hsz]; omega)
    have hat : m_at (⟨(c :: l).toArray⟩ : ByteArray).data.toList 0 = c := rfl
    rw [hat, show ((0 : Nat) : Int) = 0 from rfl] at hb
    rw [copydeskref03_trimmed.l0, pu_toList, if_neg (show ¬ (⟨(c :: l).toArray⟩ : ByteArray).data.toList = [] by simp), hsz, if_pos (by omega), hb]
    by_cases h : c = 32
    · rw [if_pos ((pu_nat32 _).2 h), if_pos (by omega), pl_extract, List.dropWhile_cons_of_pos (by simpa using h)]
      have : ((c :: l).drop 1).take (l.length + 1 - 1) = l := by simp
      rw [this]
      exact pl_ls l (k + 1) (by omega) (by omega)
    · rw [if_neg (fun e => h ((pu_nat32 _).1 e)), List.dropWhile_cons_of_neg (by simpa using h), copydeskref03_trimmed.j1]
      exact pl_rs (l.length + 1) k (c :: l) rfl (by omega) hc
theorem m_rstrip_neat (x sq : List UInt8) (h2 : AllSp sq) (hx : Neat x) : m_rstrip (x ++ sq) = x := by
  obtain ⟨n1, n2, n3⟩ := hx
  unfold m_rstrip
  rw [List.reverse_append, sl_dropWhile_sp _ _ h2.reverse]
  obtain ⟨y, c, rfl⟩ : ∃ y c, x = y ++ [c] := ⟨x.dropLast, x.getLast n3, (List.dropLast_concat_getLast n3).symm⟩
  have hc : (c == 32) = false := by simpa using n2
  rw [List.reverse_append, List.reverse_singleton, List.singleton_append, List.dropWhile_cons_of_neg (by simp [hc]), List.reverse_cons, List.reverse_reverse]
theorem m_trim_alt (l : List UInt8) : m_rstrip (l.dropWhile (· == 32)) = m_trim l := by
  rcases sl_split l with h | ⟨sp, x, sq, rfl, h2, h3, h4⟩
  · have h1 : l.dropWhile (· == 32) = [] := by
      have := sl_dropWhile_sp l [] h
      rw [List.append_nil] at this
      exact this
    rw [h1, sl_trim_sp l h]; rfl
  · rw [sl_trim _ _ _ h2 h3 h4, List.append_assoc, sl_dropWhile_sp _ _ h2]
    have : (x ++ sq).dropWhile (· == 32) = x ++ sq := by
      refine sl_dropWhile_neat _ ?_
      cases x with
      | nil => exact absurd rfl h4.2.2
      | cons c x => exact h4.1
    rw [this, m_rstrip_neat x sq h3 h4]
theorem pl_trimmed (l : List UInt8) (k : Nat) (hk : 2 * l.length + 4 < k) (hc : l.length ≤ 1000000) : copydeskref03_trimmed.f k ⟨l.toArray⟩ = some ⟨(m_trim l).toArray⟩ := by
  unfold copydeskref03_trimmed.f
  rw [pl_ls l k hk hc, m_trim_alt]
theorem pl_extract' (s : ByteArray) (a b : Nat) : s.extract a b = ⟨((s.data.toList.drop a).take (b - a)).toArray⟩ := by
  have := pl_extract s.data.toList a b
  rw [cd_ba] at this
  exact this
theorem pl_refGo (s : ByteArray) (hs : s.size ≤ 2000) : ∀ (d k i a : Nat) (acc : List (List UInt8)), i + d = s.size → a ≤ i → acc.length ≤ i → d + 5000 < k →
    copydeskref03_Sentences.l0 k s (m_bas acc) (a : Int) (i : Int) = some (m_bas (acc ++ m_sentGo s.data.toList d i a))
  | 0, k, i, a, acc, hi, ha, hl, hk => by
    obtain ⟨k, rfl⟩ : ∃ j, k = j + 1 := ⟨k - 1, by omega⟩
    have e1 : (s.data.toList.drop a).take (s.size - a) = s.data.toList.drop a := List.take_of_length_le (by rw [List.length_drop, pu_len]; exact Nat.le_refl _)
    rw [copydeskref03_Sentences.l0, if_neg (by omega), if_pos (by omega), if_pos (by omega), Int.toNat_natCast, pl_extract', e1, pl_trimmed _ k (by rw [List.length_drop, pu_len]; omega) (by rw [List.length_drop, pu_len]; omega), Option.bind_some, pu_toList, m_sentGo]
    show (if m_trim (s.data.toList.drop a) = [] then _ else _) = _
    by_cases h : m_trim (s.data.toList.drop a) = []
    · rw [if_pos h, if_pos h, List.append_nil]
    · rw [if_neg h, if_neg h, if_pos (by rw [m_bas_len]; omega)]
      simp [m_bas]
  | d + 1, k, i, a, acc, hi, ha, hl, hk => by
    obtain ⟨k, rfl⟩ : ∃ j, k = j + 1 := ⟨k - 1, by omega⟩
    rw [copydeskref03_Sentences.l0, if_pos (by omega), pl_ends s i (by omega) (by omega) k (by omega), Option.bind_some, m_sentGo, pu_w1 i (by omega)]
    by_cases h : m_ends s.data.toList i = true
    · rw [if_pos h, if_pos h, if_pos (by omega), if_pos (by omega), if_pos (by omega), Int.toNat_natCast, Int.toNat_natCast, pl_extract', pl_trimmed _ k (by rw [List.length_take, List.length_drop, pu_len]; omega) (by rw [List.length_take, List.length_drop, pu_len]; omega), Option.bind_some, if_pos (by rw [m_bas_len]; omega)]
      have e3 : m_bas acc ++ [(⟨(m_trim ((s.data.toList.drop a).take (i + 1 - a))).toArray⟩ : ByteArray)] = m_bas (acc ++ [m_trim ((s.data.toList.drop a).take (i + 1 - a))]) := by simp [m_bas]
      rw [e3, pl_refGo s hs d k (i + 1) (i + 1) _ (by omega) (Nat.le_refl _) (by simp; omega) (by omega), List.append_assoc]; rfl
    · rw [if_neg h, if_neg h, pl_refGo s hs d k (i + 1) a acc (by omega) (by omega) (by omega) (by omega)]
theorem pl_refSent (s : ByteArray) (hs : s.size ≤ 2000) (k : Nat) (hk : 8000 ≤ k) : copydeskref03_Sentences.f k s = some (m_bas (m_sent s.data.toList)) := by
  have := pl_refGo s hs s.size k 0 0 [] (by omega) (Nat.le_refl _) (Nat.le_refl _) (by omega)
  unfold copydeskref03_Sentences.f m_sent
  rw [pu_len]
  exact this
def pl_tail (xs : List (List UInt8)) : List UInt8 := xs.flatMap (fun x => 32 :: x)
theorem pl_joinTail : ∀ (x : List UInt8) (xs : List (List UInt8)), m_join (x :: xs) = x ++ pl_tail xs
  | x, [] => by simp [m_join, pl_tail]
  | x, y :: l => by rw [m_join, pl_joinTail y l]; simp [pl_tail]
theorem pl_bs (s : ByteArray) : s = ⟨s.data.toList.toArray⟩ := (cd_ba s).symm
theorem pl_rdBas (xs : List (List UInt8)) (j : Nat) (h : j < xs.length) : rdOf ByteArray.empty (m_bas xs) (j : Int) = ⟨(xs[j]).toArray⟩ := by
  rw [pu_rd _ j (by rw [m_bas_len]; exact h), m_bas_get xs j h]
theorem pl_pInner (l : List Bl) (x4 : Int) (R : ByteArray) (n : Nat) (F : List UInt8) (H : ∀ k, n ≤ k → copydeskref03_Plain.l0 k l ⟨F.toArray⟩ (wrap64 (x4 + 1)) = some R) (xs : List (List UInt8)) (hx : xs.length ≤ 1000000) (hF : F.length ≤ 1000000000) :
    ∀ (d k j : Nat) (acc : List UInt8), j + d = xs.length → 1 ≤ j → n + d + 1 ≤ k → acc ++ pl_tail (xs.drop j) ++ [10] = F → copydeskref03_Plain.l1 k l ⟨acc.toArray⟩ x4 (m_bas xs) (j : Int) = some R
  | 0, k, j, acc, hj, h1, hk, hA => by
    obtain ⟨k, rfl⟩ : ∃ i, k = i + 1 := ⟨k - 1, by omega⟩
    rw [List.drop_eq_nil_of_le (by omega)] at hA
    have hA' : acc ++ [10] = F := by rw [← hA]; simp [pl_tail]
    have hl : acc.length + 1 = F.length := by rw [← hA']; simp
    rw [copydeskref03_Plain.l1, m_bas_len, if_neg (by omega), pu_size, if_pos (by omega)]
    show copydeskref03_Plain.l0 k l ((⟨acc.toArray⟩ : ByteArray) ++ ⟨([10] : List UInt8).toArray⟩) _ = _
    rw [pu_app, hA', H k (by omega)]
  | d + 1, k, j, acc, hj, h1, hk, hA => by
    obtain ⟨k, rfl⟩ : ∃ i, k = i + 1 := ⟨k - 1, by omega⟩
    have hlt : j < xs.length := by omega
    have hA' : (acc ++ [32] ++ xs[j]) ++ pl_tail (xs.drop (j + 1)) ++ [10] = F := by rw [← hA, List.drop_eq_getElem_cons hlt]; simp only [pl_tail, List.flatMap_cons, List.append_assoc, List.cons_append, List.nil_append]
    have hl : acc.length + 1 + (xs[j]).length ≤ F.length := by rw [← hA']; simp only [List.length_append, List.length_cons, List.length_nil]; omega
    rw [copydeskref03_Plain.l1, m_bas_len, if_pos (by omega), if_pos (by omega), pu_size, if_pos (by omega), if_pos (by omega), pl_rdBas xs j hlt, pu_w1 j (by omega), pu_size]
    have e1 : ((⟨acc.toArray⟩ : ByteArray) ++ (⟨#[32]⟩ : ByteArray)) = ⟨(acc ++ [32]).toArray⟩ := pu_app acc [32]
    rw [e1, pu_size, if_pos (by rw [List.length_append]; simp; omega), pu_app]
    exact pl_pInner l x4 R n F H xs hx hF d k (j + 1) _ (by omega) (by omega) (by omega) hA'
theorem pl_pInner0 (l : List Bl) (x4 : Int) (R : ByteArray) (n : Nat) (F : List UInt8) (H : ∀ k, n ≤ k → copydeskref03_Plain.l0 k l ⟨F.toArray⟩ (wrap64 (x4 + 1)) = some R) (xs : List (List UInt8)) (hx : xs.length ≤ 1000000) (hF : F.length ≤ 1000000000)
    (k : Nat) (acc : List UInt8) (hk : n + xs.length + 2 ≤ k) (hA : acc ++ m_join xs ++ [10] = F) : copydeskref03_Plain.l1 k l ⟨acc.toArray⟩ x4 (m_bas xs) 0 = some R := by
  obtain ⟨k, rfl⟩ : ∃ i, k = i + 1 := ⟨k - 1, by omega⟩
  cases xs with
  | nil =>
    have hA' : acc ++ [10] = F := by rw [← hA]; simp [m_join]
    have hl : acc.length + 1 = F.length := by rw [← hA']; simp
    rw [copydeskref03_Plain.l1, m_bas_len, if_neg (by simp), pu_size, if_pos (by omega)]
    show copydeskref03_Plain.l0 k l ((⟨acc.toArray⟩ : ByteArray) ++ ⟨([10] : List UInt8).toArray⟩) _ = _
    rw [pu_app, hA', H k (by omega)]
  | cons x xs =>
    rw [pl_joinTail] at hA
    have hA' : (acc ++ x) ++ pl_tail ((x :: xs).drop 1) ++ [10] = F := by rw [← hA]; simp
    have hl : acc.length + x.length ≤ F.length := by rw [← hA']; simp only [List.length_append]; omega
    have hr : rdOf ByteArray.empty (m_bas (x :: xs)) 0 = ⟨x.toArray⟩ := pl_rdBas (x :: xs) 0 (by simp)
    rw [copydeskref03_Plain.l1, m_bas_len, if_pos (by rw [List.length_cons]; omega), if_neg (by omega), if_pos (by omega), hr, pu_size, pu_size, if_pos (by omega), pu_app]
    have hw : wrap64 ((0 : Int) + 1) = ((1 : Nat) : Int) := by unfold wrap64; omega
    rw [hw]
    simp only [List.length_cons] at hk hx
    exact pl_pInner l x4 R n F H (x :: xs) (by simpa using hx) hF xs.length k 1 _ (by rw [List.length_cons]; omega) (Nat.le_refl _) (by omega) hA'
theorem pl_rPlain (N c : Nat) (hN : 8001 ≤ N) (hc : 1010 ≤ c) (l : List Bl) (hl : l.length ≤ 30) (ht : ∀ b ∈ l, b.f2.size ≤ 1000) : ∀ (d k i : Nat) (acc : List UInt8), i + d = l.length → N + d * c ≤ k → acc.length + (m_plain (l.drop i)).length ≤ 1000000000 →
    copydeskref03_Plain.l0 k l ⟨acc.toArray⟩ (i : Int) = some ⟨(acc ++ m_plain (l.drop i)).toArray⟩ := by
  intro d
  induction d with
  | zero =>
    intro k i acc hi hk hz
    obtain ⟨k, rfl⟩ : ∃ i, k = i + 1 := ⟨k - 1, by omega⟩
    rw [copydeskref03_Plain.l0, if_neg (by omega), List.drop_eq_nil_of_le (by omega)]
    simp [m_plain]
  | succ d ih =>
    intro k i acc hi hk hz
    obtain ⟨k, rfl⟩ : ∃ i, k = i + 1 := ⟨k - 1, by omega⟩
    have hlt : i < l.length := by omega
    have hb := ht l[i] (List.getElem_mem hlt)
    have hw : wrap64 ((i : Int) + 1) = ((i + 1 : Nat) : Int) := pu_w1 i (by omega)
    have hp : m_plain (l.drop i) = m_line l[i].f1 l[i].f2.data.toList ++ m_plain (l.drop (i + 1)) := by rw [List.drop_eq_getElem_cons hlt]; rfl
    rw [hp] at hz ⊢
    rw [List.length_append] at hz
    rw [Nat.succ_mul] at hk
    generalize d * c = m at hk ih
    obtain ⟨n0, hn0⟩ : ∃ n0, n0 = N + m := ⟨_, rfl⟩
    have hk0 : n0 ≤ k := by omega
    have IH : ∀ k, n0 ≤ k → copydeskref03_Plain.l0 k l ⟨(acc ++ m_line l[i].f1 l[i].f2.data.toList).toArray⟩ (wrap64 ((i : Int) + 1)) = some ⟨(acc ++ (m_line l[i].f1 l[i].f2.data.toList ++ m_plain (l.drop (i + 1)))).toArray⟩ := fun k hk => by
      rw [hw, ih k (i + 1) _ (by omega) (by omega) (by rw [List.length_append]; omega), List.append_assoc]
    have hS := fun k hk => pl_refSent l[i].f2 (by omega) k hk
    have hn : (m_sent l[i].f2.data.toList).length ≤ l[i].f2.data.toList.length := (sl_parts l[i].f2.data.toList).len.2
    obtain ⟨t, ht'⟩ : ∃ t : List UInt8, l[i].f2 = ⟨t.toArray⟩ := ⟨l[i].f2.data.toList, pl_bs _⟩
    have htl : l[i].f2.data.toList = t := by rw [ht']
    rw [htl] at hz IH hS hn ⊢
    rw [ht', pu_size] at hb
    rw [copydeskref03_Plain.l0, if_pos (by omega), if_pos (by omega), pl_rdB l i hlt]
    rw [ht'] at hS ⊢
    generalize l[i].f1 = kind at hz IH ⊢
    by_cases k1 : kind = 1
    · have e : m_line kind t = t ++ [10] := by rw [m_line, if_pos k1]
      rw [e] at IH hz ⊢
      rw [if_pos k1]
      simp only [pu_app, pu_size]
      simp only [List.length_append, List.length_cons, List.length_nil] at hz ⊢
      rw [if_pos (by omega), if_pos (by omega), List.append_assoc]
      exact IH k hk0
    rw [if_neg k1]
    by_cases k2 : kind = 2
    · have e : m_line kind t = m_join (m_sent t) ++ [10] := by rw [m_line, if_neg k1, if_pos k2]
      rw [e] at IH hz ⊢
      rw [if_pos k2, hS k (by omega), Option.bind_some]
      refine pl_pInner0 l (i : Int) _ n0 _ IH (m_sent t) (by omega) ?_ k acc (by omega) (by rw [List.append_assoc])
      rw [List.length_append]; omega
    rw [if_neg k2]
    by_cases k3 : kind = 3
    · have e : m_line kind t = 34 :: t ++ [34, 10] := by rw [m_line, if_neg k1, if_neg k2, if_pos k3]
      rw [e] at IH hz ⊢
      rw [if_pos k3]
      simp only [pu_app, pu_size]
      simp only [List.length_append, List.length_cons, List.length_nil] at hz ⊢
      rw [if_pos (by omega), if_pos (by omega), if_pos (by omega)]
      simpa only [List.append_assoc, List.cons_append, List.nil_append] using IH k hk0
    rw [if_neg k3]
    by_cases k4 : kind = 4
    · have e : m_line kind t = 91 :: t ++ [93, 10] := by rw [m_line, if_neg k1, if_neg k2, if_neg k3, if_pos k4]
      rw [e] at IH hz ⊢
      rw [if_pos k4]
      simp only [pu_app, pu_size]
      simp only [List.length_append, List.length_cons, List.length_nil] at hz ⊢
      rw [if_pos (by omega), if_pos (by omega), if_pos (by omega)]
      simpa only [List.append_assoc, List.cons_append, List.nil_append] using IH k hk0
    rw [if_neg k4]
    by_cases k5 : kind = 5
    · have e : m_line kind t = 35 :: t ++ [10] := by rw [m_line, if_neg k1, if_neg k2, if_neg k3, if_neg k4, if_pos k5]
      rw [e] at IH hz ⊢
      rw [if_pos k5]
      simp only [pu_app, pu_size]
      simp only [List.length_append, List.length_cons, List.length_nil] at hz ⊢
      rw [if_pos (by omega), if_pos (by omega), if_pos (by omega)]
      simpa only [List.append_assoc, List.cons_append, List.nil_append] using IH k hk0
    · have e : m_line kind t = [] := by rw [m_line, if_neg k1, if_neg k2, if_neg k3, if_neg k4, if_neg k5]
      rw [e] at IH ⊢
      rw [if_neg k5]
      simpa only [List.append_nil] using IH k hk0
theorem BlockPlainMatchesReference (l0 : List Bl) (h0 : l0.length ≤ 9223372036854775807) : ∃ k, copydesklaw03_BlockPlainMatchesReference.f k l0 = some true := by
  refine ⟨50000, ?_⟩
  have a0 := m_short_len l0
  have t0 := m_short_text l0
  unfold copydesklaw03_BlockPlainMatchesReference.f copydesklaw03_sane.f
  rw [Option.bind_some, pl_short l0 h0 50000 (by omega), Option.bind_some]
  obtain ⟨a, ha⟩ : ∃ a, m_short l0 = a := ⟨_, rfl⟩
  rw [ha] at a0 t0 ⊢
  obtain ⟨p0, z0⟩ := pl_plain a (by omega) t0
  have hr : copydeskref03_Plain.f 50000 a = some ⟨(m_plain a).toArray⟩ := by
    have := pl_rPlain 9000 1100 (by omega) (by omega) a a0 t0 a.length 50000 0 [] (by omega) (by omega) (by rw [List.drop_zero]; simp; omega)
    rw [List.drop_zero, List.nil_append] at this
    exact this
  rw [if_pos rfl, p0, hr, Option.bind_some, Option.bind_some]
  simp
end Go.Proofs.YtpgjhjlhipikgaaDoor.Pure
end
section
set_option linter.unusedVariables false
set_option linter.unusedSimpArgs false
namespace Go.Proofs.YtpgjhjlhipikgaaDoor.PK
open Go.RowKit Go.Proofs.YtpgjhjlhipikgaaDoorW.PrintWords Go.Proofs.YtpgjhjlhipikgaaDoorW.PrintLast Go.Proofs.YtpgjhjlhipikgaaDoorW.PrintMore Go.ChangeShapes Go.WideShapes Go.ChangeAt
section
variable {H : Type} {enc : TypeId × Value → H} {W : World} {base : Nat} {spare : Nat → Bool} {held : Bool}
theorem op_c3 : Tryd.prog.cellsOf 3 = 1 := by kernel_rfl
theorem op_c9 : Tryd.prog.cellsOf 9 = 1 := by kernel_rfl
theorem op_c22 : Tryd.prog.cellsOf 22 = 1 := by kernel_rfl
theorem op_c24 : Tryd.prog.cellsOf 24 = 4 := by kernel_rfl
theorem op_c26 : Tryd.prog.cellsOf 26 = 9 := by kernel_rfl
theorem op_ints {fuel : Nat} {v : Value} {x : DataW H × List MemPlace} (h : DataW.trod enc Tryd.prog W base spare held fuel 22 [v] = some x) :
    ∃ (A : Option Addr) (l : List Int) (c : Nat), v = .slice A l.length c ∧ l.length ≤ c ∧ Kd.C (Kd.int .i64) W A l.length l := by
  rcases open_ints Tryd.underlying22 Tryd.underlying3 op_c3 h with ⟨hcs, _⟩ | ⟨a, len, cap, zs, hcs, _, hl, hm, hz, _, hcell, _⟩
  · have hv : v = .slice none 0 0 := by simpa using hcs
    exact ⟨none, [], 0, hv, Nat.le_refl _, rfl, by simp, fun h => absurd h (by simp)⟩
  · have hv : v = .slice (some a) len cap := by simpa using hcs
    have hlz : len ≤ zs.length := by rw [hz]; split <;> omega
    have hlen : (zs.take len).length = len := by rw [List.length_take]; omega
    have hmx : len ≤ 9223372036854775807 := by unfold maxLen at hm; omega
    refine ⟨some a, zs.take len, cap, by rw [hlen]; exact hv, by rw [hlen]; exact hl, rfl, by rw [hlen]; exact hmx, fun _ => ⟨a, rfl, fun j p hp => ⟨[.int .i64 p], rfl, rfl, fun i u hu => ?_⟩⟩⟩
    have hi : i = 0 := by
      have := (List.getElem?_eq_some_iff.1 hu).1
      simp at this; exact this
    subst hi
    have hu' : u = .int .i64 p := (Option.some.inj hu).symm
    subst hu'
    have hj := (List.getElem?_eq_some_iff.1 hp).1
    rw [hlen] at hj
    have hc := hcell j (by omega)
    rw [List.getElem?_take_of_lt hj] at hp
    rw [List.getD_eq_getElem?_getD, hp] at hc
    show W.cell? (a.add (j * 1 + 0)) = _
    rw [Nat.mul_one, Nat.add_zero]
    exact hc
theorem op_six {α : Type} (xs : List α) (h : xs.length = 6) : ∃ a b c d e f, xs = [a, b, c, d, e, f] := by
  match xs, h with
  | [a, b, c, d, e, f], _ => exact ⟨a, b, c, d, e, f, rfl⟩
theorem op_four {α : Type} (xs : List α) (h : xs.length = 4) : ∃ a b c d, xs = [a, b, c, d] := by
  match xs, h with
  | [a, b, c, d], _ => exact ⟨a, b, c, d, rfl⟩
theorem op_nine {α : Type} (xs : List α) (h : xs.length = 9) : ∃ a b c d e f g i j, xs = [a, b, c, d, e, f, g, i, j] := by
  match xs, h with
  | [a, b, c, d, e, f, g, i, j], _ => exact ⟨a, b, c, d, e, f, g, i, j, rfl⟩
theorem op_block {fuel : Nat} {cs : List Value} {x : DataW H × List MemPlace} (h : DataW.trod enc Tryd.prog W base spare held fuel 26 cs = some x) :
    ∃ (b : S26) (A : Option Addr) (c : Nat), cs = [.int .i64 b.f0, .int .i64 b.f1, .string b.f2, .int .i64 b.f3, .int .i64 b.f4, .int .i64 b.f5.f0, .slice A b.f5.f1.length c, .int .i64 b.f5.f2, .int .i64 b.f5.f3] ∧
      b.f5.f1.length ≤ c ∧ Kd.C (Kd.int .i64) W A b.f5.f1.length b.f5.f1 := by
  obtain ⟨xs, n, _, _, hlen, hxl, hel⟩ := DataW.trod_struct Tryd.underlying26 h
  rw [op_c26] at hlen
  obtain ⟨c0, c1, c2, c3, c4, c5, c6, c7, c8, rfl⟩ := op_nine cs hlen
  obtain ⟨y0, y1, y2, y3, y4, y5, rfl⟩ := op_six xs hxl
  have e0 : DataW.trod enc Tryd.prog W base spare held n 3 (([c0, c1, c2, c3, c4, c5, c6, c7, c8].drop 0).take (Tryd.prog.cellsOf 3)) = some y0 := hel 0 _ rfl
  have e1 : DataW.trod enc Tryd.prog W base spare held n 3 (([c0, c1, c2, c3, c4, c5, c6, c7, c8].drop 1).take (Tryd.prog.cellsOf 3)) = some y1 := hel 1 _ rfl
  have e2 : DataW.trod enc Tryd.prog W base spare held n 9 (([c0, c1, c2, c3, c4, c5, c6, c7, c8].drop 2).take (Tryd.prog.cellsOf 9)) = some y2 := hel 2 _ rfl
  have e3 : DataW.trod enc Tryd.prog W base spare held n 3 (([c0, c1, c2, c3, c4, c5, c6, c7, c8].drop 3).take (Tryd.prog.cellsOf 3)) = some y3 := hel 3 _ rfl
  have e4 : DataW.trod enc Tryd.prog W base spare held n 3 (([c0, c1, c2, c3, c4, c5, c6, c7, c8].drop 4).take (Tryd.prog.cellsOf 3)) = some y4 := hel 4 _ rfl
  have e5 : DataW.trod enc Tryd.prog W base spare held n 24 (([c0, c1, c2, c3, c4, c5, c6, c7, c8].drop 5).take (Tryd.prog.cellsOf 24)) = some y5 := hel 5 _ rfl
  rw [op_c3] at e0 e1 e3 e4
  rw [op_c9] at e2
  rw [op_c24] at e5
  obtain ⟨n0, g0, _, _⟩ := DataW.trod_int Tryd.underlying3 (show DataW.trod enc Tryd.prog W base spare held n 3 [c0] = some y0 from e0)
  obtain ⟨n1, g1, _, _⟩ := DataW.trod_int Tryd.underlying3 (show DataW.trod enc Tryd.prog W base spare held n 3 [c1] = some y1 from e1)
  obtain ⟨s2, g2, _, _⟩ := DataW.trod_string Tryd.underlying9 (show DataW.trod enc Tryd.prog W base spare held n 9 [c2] = some y2 from e2)
  obtain ⟨n3, g3, _, _⟩ := DataW.trod_int Tryd.underlying3 (show DataW.trod enc Tryd.prog W base spare held n 3 [c3] = some y3 from e3)
  obtain ⟨n4, g4, _, _⟩ := DataW.trod_int Tryd.underlying3 (show DataW.trod enc Tryd.prog W base spare held n 3 [c4] = some y4 from e4)
  obtain ⟨zs, m, _, _, _, hzl, hez⟩ := DataW.trod_struct Tryd.underlying24 (show DataW.trod enc Tryd.prog W base spare held n 24 [c5, c6, c7, c8] = some y5 from e5)
  obtain ⟨z0, z1, z2, z3, rfl⟩ := op_four zs hzl
  have f0 : DataW.trod enc Tryd.prog W base spare held m 3 (([c5, c6, c7, c8].drop 0).take (Tryd.prog.cellsOf 3)) = some z0 := hez 0 _ rfl
  have f1 : DataW.trod enc Tryd.prog W base spare held m 22 (([c5, c6, c7, c8].drop 1).take (Tryd.prog.cellsOf 22)) = some z1 := hez 1 _ rfl
  have f2 : DataW.trod enc Tryd.prog W base spare held m 3 (([c5, c6, c7, c8].drop 2).take (Tryd.prog.cellsOf 3)) = some z2 := hez 2 _ rfl
  have f3 : DataW.trod enc Tryd.prog W base spare held m 3 (([c5, c6, c7, c8].drop 3).take (Tryd.prog.cellsOf 3)) = some z3 := hez 3 _ rfl
  rw [op_c3] at f0 f2 f3
  rw [op_c22] at f1
  obtain ⟨n5, g5, _, _⟩ := DataW.trod_int Tryd.underlying3 (show DataW.trod enc Tryd.prog W base spare held m 3 [c5] = some z0 from f0)
  obtain ⟨A, l, c, g6, hl, hC⟩ := op_ints (show DataW.trod enc Tryd.prog W base spare held m 22 [c6] = some z1 from f1)
  obtain ⟨n7, g7, _, _⟩ := DataW.trod_int Tryd.underlying3 (show DataW.trod enc Tryd.prog W base spare held m 3 [c7] = some z2 from f2)
  obtain ⟨n8, g8, _, _⟩ := DataW.trod_int Tryd.underlying3 (show DataW.trod enc Tryd.prog W base spare held m 3 [c8] = some z3 from f3)
  refine ⟨⟨n0, n1, s2, n3, n4, ⟨n5, l, n7, n8⟩⟩, A, c, ?_, hl, hC⟩
  rw [List.cons.inj g0 |>.1, List.cons.inj g1 |>.1, List.cons.inj g2 |>.1, List.cons.inj g3 |>.1, List.cons.inj g4 |>.1, List.cons.inj g5 |>.1, g6, List.cons.inj g7 |>.1, List.cons.inj g8 |>.1]
theorem op_choose {α : Type} (P : Nat → α → Prop) : ∀ n, (∀ i, i < n → ∃ b, P i b) → ∃ bs : List α, bs.length = n ∧ ∀ i b, bs[i]? = some b → P i b
  | 0, _ => ⟨[], rfl, by simp⟩
  | n + 1, h => by
    obtain ⟨bs, h1, h2⟩ := op_choose P n (fun i hi => h i (by omega))
    obtain ⟨b, hb⟩ := h n (by omega)
    refine ⟨bs ++ [b], by simp [h1], fun i c hc => ?_⟩
    by_cases hi : i < n
    · rw [List.getElem?_append_left (by omega)] at hc
      exact h2 i c hc
    · have hl := (List.getElem?_eq_some_iff.1 hc).1
      simp [h1] at hl
      have : i = n := by omega
      subst this
      rw [List.getElem?_append_right (by omega), h1, Nat.sub_self] at hc
      have : b = c := by simpa using hc
      subst this
      exact hb
theorem op_blocks {a : Option Addr} {len cap : Nat} {d : DataW H} {ps : List MemPlace} (h : DataW.Trod enc Tryd.prog W base spare held 27 (.slice a len cap) d ps) :
    ∃ bs : List (S26), len = bs.length ∧ bs.length ≤ cap ∧ Kd.C k26 W a bs.length bs := by
  obtain ⟨fuel, hf⟩ := h
  have hf' : DataW.trod enc Tryd.prog W base spare held fuel 27 [.slice a len cap] = some (d, ps) := hf
  rcases DataW.trod_slice Tryd.underlying27 hf' with ⟨hcs, _⟩ | ⟨ad, len', cap', elems, rest, n, _, hcs, _, _, hl, hm, hel, hx, _, _⟩
  · have hv : (.slice a len cap : Value) = .slice none 0 0 := by simpa using hcs
    injection hv with h1 h2 h3
    subst h1; subst h2; subst h3
    exact ⟨[], rfl, Nat.le_refl _, rfl, by simp, fun h => absurd h (by simp)⟩
  · have hv : (.slice a len cap : Value) = .slice (some ad) len' cap' := by simpa using hcs
    injection hv with h1 h2 h3
    subst h1; subst h2; subst h3
    obtain ⟨bs, hbl, hb⟩ := op_choose (fun i (b : S26) => ∃ (A : Option Addr) (c : Nat), b.f5.f1.length ≤ c ∧ Kd.C (Kd.int .i64) W A b.f5.f1.length b.f5.f1 ∧ ∀ j u, ([.int .i64 b.f0, .int .i64 b.f1, .string b.f2, .int .i64 b.f3, .int .i64 b.f4, .int .i64 b.f5.f0, .slice A b.f5.f1.length c, .int .i64 b.f5.f2, .int .i64 b.f5.f3] : List Value)[j]? = some u → W.cell? (ad.add (i * 9 + j)) = some u) len (fun i hi => by
      have hxi := hx i hi
      rw [List.getElem?_eq_getElem (by omega)] at hxi
      obtain ⟨cs, hcs, ht⟩ := Option.bind_eq_some_iff.1 hxi
      rw [op_c26] at hcs
      obtain ⟨_, h9, hcell⟩ := World.cells?_some hcs
      obtain ⟨b, A, c, rfl, h6, hC⟩ := op_block ht
      refine ⟨b, A, c, h6, hC, fun j u hu => ?_⟩
      have hj := (List.getElem?_eq_some_iff.1 hu).1
      have := hcell j (by simpa using hj)
      rw [Addr.add_add, hu] at this
      exact this)
    subst hbl
    refine ⟨bs, rfl, hl, rfl, by unfold maxLen at hm; omega, fun _ => ⟨ad, rfl, fun j p hp => ?_⟩⟩
    obtain ⟨A, c, h6, hC, hc⟩ := hb j p hp
    exact ⟨_, rfl, k26_mk W p h6 hC, fun i u hu => hc i u hu⟩
end
end Go.Proofs.YtpgjhjlhipikgaaDoor.PK
end
