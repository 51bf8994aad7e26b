/- Texts of this claim, one behind the other. -/
import Derived.Test.YtpgjhjlhipikgaaDoorMDx3
import Derived.Test.YtpgjhjlhipikgaaDoorMDx8
import Derived.Test.YtpgjhjlhipikgaaDoorMAx2
import Derived.Test.YtpgjhjlhipikgaaDoorMAx3
import Derived.Test.YtpgjhjlhipikgaaDoorMAx4
import Derived.Test.YtpgjhjlhipikgaaDoorMDx4
import Derived.Lib.VarintBits
import Derived.Lib.Zigzag
import Derived.Deep.RegionHeld3
import Derived.Deep.AppendLies
import Derived.Test.YtpgjhjlhipikgaaDoorMDx9
section
namespace Go.Proofs.YtpgjhjlhipikgaaDoor.PK
open Go.RowKit Go.Proofs.YtpgjhjlhipikgaaDoorW.PrintWords Go.Proofs.YtpgjhjlhipikgaaDoorW.PrintLast Go.Proofs.YtpgjhjlhipikgaaDoorW.PrintMore
attribute [local go_sem] max2_int min2_int max_two min_two max_three min_three max_four min_four   -- for this text's walks alone
set_option linter.unusedVariables false
set_option linter.unusedSimpArgs false
theorem rr_u64 (x : Int) : IntKind.u64.wrap x = x % 18446744073709551616 := by
  show (if false && decide (x % (2 ^ 64 : Int) ≥ (2 ^ 63 : Int)) then x % (2 ^ 64 : Int) - (2 ^ 64 : Int) else x % (2 ^ 64 : Int)) = _
  rfl
theorem rr_zigz (n : Int) (h : m_fits n = true) : copydeskref01_zigzag.f n = some ((m_zig n : Nat) : Int) := by
  simp only [m_fits, Bool.and_eq_true, decide_eq_true_eq] at h
  unfold copydeskref01_zigzag.f m_zig
  by_cases c : n < 0
  · rw [if_pos c, if_pos c, rr_u64, rr_u64, rr_u64]
    have hw : wrap64 (-n) = -n := by unfold wrap64; omega
    rw [hw]; congr 1; omega
  · rw [if_neg c, if_neg c, rr_u64, rr_u64]
    congr 1; omega
theorem rr_zigLt (n : Int) (h : m_fits n = true) : m_zig n < 9223372036854775808 := by
  simp only [m_fits, Bool.and_eq_true, decide_eq_true_eq] at h
  unfold m_zig
  split <;> omega
def rr_nums (l : List UInt8) : List Int := l.map (fun c => (c.toNat : Int))
theorem rr_strNums (l : List UInt8) : strOfNums (rr_nums l) = ⟨l.toArray⟩ := by
  unfold strOfNums rr_nums
  rw [List.map_map]
  have : l.map ((fun n : Int => UInt8.ofNat n.toNat) ∘ fun c : UInt8 => (c.toNat : Int)) = l := by
    conv => rhs; rw [← List.map_id l]
    apply List.map_congr_left
    intro c _
    simp
  rw [this]
theorem rr_refPut : ∀ (d k z : Nat) (acc : List UInt8), z < 128 ^ d → z < 9223372036854775808 → d < k → acc.length + d ≤ 1000 → 1 ≤ d →
    copydeskref01_PutInt.l0 k (z : Int) (rr_nums acc) = some (⟨(acc ++ m_vint d z).toArray⟩, 0)
  | 0, _, _, _, _, _, _, _, h => absurd h (by omega)
  | d + 1, k, z, acc, hz, hz2, hk, ha, _ => by
    obtain ⟨k, rfl⟩ : ∃ i, k = i + 1 := ⟨k - 1, by omega⟩
    have hnl : (rr_nums acc).length = acc.length := by simp [rr_nums]
    rw [copydeskref01_PutInt.l0]
    by_cases c : z < 128
    · rw [if_neg (by omega), hnl, if_pos (by omega), m_vint, if_pos c]
      have e : rr_nums acc ++ [(z : Int) % 256] = rr_nums (acc ++ [UInt8.ofNat z]) := by
        rw [rr_nums, rr_nums, List.map_append, List.map_cons, List.map_nil, cd_toNat z (by omega)]
        congr 2; omega
      rw [e, rr_strNums]
    · rw [if_pos (by omega), hnl, if_pos (by omega), m_vint, if_neg c]
      have e1 : IntKind.u64.wrap (Int.tdiv (z : Int) 128) = ((z / 128 : Nat) : Int) := by
        rw [rr_u64, Int.tdiv_eq_ediv_of_nonneg (by omega)]; omega
      have e2 : IntKind.u64.wrap (Int.tmod (z : Int) 128 + 128) % 256 = ((z % 128 + 128 : Nat) : Int) := by
        rw [rr_u64, Int.tmod_eq_emod_of_nonneg (by omega)]; omega
      have e3 : rr_nums acc ++ [((z % 128 + 128 : Nat) : Int)] = rr_nums (acc ++ [UInt8.ofNat (z % 128 + 128)]) := by
        rw [rr_nums, rr_nums, List.map_append, List.map_cons, List.map_nil, cd_toNat (z % 128 + 128) (by omega)]
      have hd : 1 ≤ d := by
        rcases d with _ | d
        · rw [Nat.pow_one] at hz; omega
        · omega
      have hp : z / 128 < 128 ^ d := by rw [Nat.pow_succ] at hz; exact Nat.div_lt_of_lt_mul (by rw [Nat.mul_comm]; exact hz)
      rw [e1, e2, e3, rr_refPut d k (z / 128) _ hp (by omega) (by omega) (by simp; omega) hd, List.append_assoc, List.singleton_append]
theorem rr_put (n : Int) (k : Nat) (hk : 20 ≤ k) : copydeskref01_PutInt.f k n = some (if m_fits n then (⟨(m_int n).toArray⟩, 0) else (⟨#[]⟩, 10)) := by
  obtain ⟨k, rfl⟩ : ∃ i, k = i + 1 := ⟨k - 1, by omega⟩
  unfold copydeskref01_PutInt.f
  by_cases h : m_fits n = true
  · have hz := rr_zigLt n h
    have hzz := rr_zigz n h
    have h' := h
    simp only [m_fits, Bool.and_eq_true, decide_eq_true_eq] at h
    rw [if_neg (by omega), show decide (n > 4611686018427387903) = false from decide_eq_false (by omega), copydeskref01_PutInt.j0, if_neg (by simp), hzz, Option.bind_some, if_pos h']
    have := rr_refPut 10 k (m_zig n) [] (Nat.lt_trans hz (by decide)) hz (by omega) (by simp) (by omega)
    rw [List.nil_append] at this
    exact this
  · have h' := h
    simp only [m_fits, Bool.and_eq_true, decide_eq_true_eq] at h
    rw [if_neg h']
    by_cases c : n < -4611686018427387903
    · rw [if_pos c, copydeskref01_PutInt.j0, if_pos rfl]
    · rw [if_neg c, show decide (n > 4611686018427387903) = true from decide_eq_true (by omega), copydeskref01_PutInt.j0, if_pos rfl]
theorem rr_step (s : ByteArray) (x1 z x I W7 B Z J N1 N2 : Int) (k : Nat) (h1 : x < 9) (hw : wrap64 (x1 + x) = I) (h2 : I < (s.size : Int)) (h3 : 0 ≤ I) (hw7 : wrap64 (7 * x) = W7) (h5 : 0 ≤ W7) (hB : IntKind.u64.wrap (bt s I) = B)
    (hZ : IntKind.u64.wrap (z + shl .u64 (Int.tmod B 128) W7) = Z) (hJ : wrap64 (I + 1) = J) (hN2 : wrap64 (IntKind.u64.wrap (Int.tdiv Z 2)) = N2) (hN1 : wrap64 (wrap64 (-N2) - 1) = N1) (hx1 : 0 ≤ x1) (hxJ : x1 ≤ J) (hJs : J ≤ (s.size : Int)) :
    copydeskref01_Int.l0 (k + 2) s x1 z x = if B ≥ 128 then copydeskref01_Int.l0 k s x1 Z (wrap64 (x + 1)) else
      (copydeskref01_PutInt.f k (if Int.tmod Z 2 = 1 then N1 else N2)).bind fun p => if p.2 = 0 then (if p.1.toList = (s.extract x1.toNat J.toNat).toList then some (if Int.tmod Z 2 = 1 then N1 else N2, J, 0) else some (0, 0, 10)) else some (0, 0, 10) := by
  rw [copydeskref01_Int.l0, if_pos h1, hw, show decide (I < (s.size : Int)) = true from decide_eq_true h2, copydeskref01_Int.j2, if_pos rfl, hw, if_pos h3, if_pos h2, hw7, if_pos h5, hB, hZ, hJ, hN2, hN1]
  by_cases c : B ≥ 128
  · rw [if_pos c, if_pos c]
  · rw [if_neg c, if_neg c]
    by_cases d : Int.tmod Z 2 = 1
    · rw [if_pos d, if_pos d]
      congr 1
      funext p
      rw [if_pos hx1, if_pos hxJ, if_pos hJs]
    · rw [if_neg d, if_neg d]
      congr 1
      funext p
      rw [if_pos hx1, if_pos hxJ, if_pos hJs]
theorem rr_end (s : ByteArray) (x1 z x I : Int) (k : Nat) (h1 : x < 9) (hw : wrap64 (x1 + x) = I) (h2 : ¬ I < (s.size : Int)) : copydeskref01_Int.l0 (k + 2) s x1 z x = some (0, 0, 10) := by
  rw [copydeskref01_Int.l0, if_pos h1, hw, show decide (I < (s.size : Int)) = false from decide_eq_false h2, copydeskref01_Int.j2, if_neg (by simp)]
theorem rr_none (s : ByteArray) (x1 z x : Int) (k : Nat) (h1 : ¬ x < 9) : copydeskref01_Int.l0 (k + 2) s x1 z x = some (0, 0, 10) := by
  rw [copydeskref01_Int.l0, if_neg h1, copydeskref01_Int.j2, if_neg (by simp)]
theorem rr_shl (b t : Nat) (hb : b < 128) (ht : t ≤ 8) : shl .u64 (b : Int) ((7 * t : Nat) : Int) = ((b * 2 ^ (7 * t) : Nat) : Int) := by
  have hp : b * 2 ^ (7 * t) < 9223372036854775808 := by
    have h1 : b * 2 ^ (7 * t) ≤ 127 * 2 ^ (7 * t) := Nat.mul_le_mul_right _ (by omega)
    have h2 := pl_pow t ht
    omega
  unfold shl
  rw [Int.toNat_natCast, show min (7 * t) (IntKind.u64.bits) = 7 * t from Nat.min_eq_left (by show 7 * t ≤ 64; omega), show (b : Int) * 2 ^ (7 * t) = ((b * 2 ^ (7 * t) : Nat) : Int) by push_cast; rfl, wraps_u64 _ (by omega) (by omega)]
theorem rr_vintLast : ∀ (k z : Nat) (q : List UInt8), m_vint k z = q ++ [0] → q = []
  | 0, _, q, h => by rw [m_vint] at h; simp at h
  | k + 1, z, q, h => by
    by_cases c : z < 128
    · rw [cd_vint_small k z c] at h
      have := congrArg List.length h
      simp at this
      exact this
    · rw [cd_vint_big k z c] at h
      cases q with
      | nil => rfl
      | cons x q =>
        rw [List.cons_append] at h
        have h2 := (List.cons.inj h).2
        have hq := rr_vintLast k (z / 128) q h2
        subst hq
        exfalso
        have h3 : z / 128 ≠ 0 := by omega
        cases k with
        | zero => rw [m_vint] at h2; cases h2
        | succ k =>
          by_cases c2 : z / 128 < 128
          · rw [cd_vint_small k _ c2] at h2
            have h4 : UInt8.ofNat (z / 128) = 0 := (List.cons.inj h2).1
            have h5 := congrArg UInt8.toNat h4
            rw [cd_toNat _ (by omega)] at h5
            exact h3 h5
          · rw [cd_vint_big k _ c2] at h2
            have h4 : UInt8.ofNat (z / 128 % 128 + 128) = 0 := (List.cons.inj h2).1
            have h5 := congrArg UInt8.toNat h4
            rw [cd_toNat _ (by omega)] at h5
            simp at h5
theorem rr_unzig (z : Nat) (hz : z < 9223372036854775808) : (if Int.tmod (z : Int) 2 = 1 then wrap64 (wrap64 (-(wrap64 (IntKind.u64.wrap (Int.tdiv (z : Int) 2)))) - 1) else wrap64 (IntKind.u64.wrap (Int.tdiv (z : Int) 2))) = m_unzig z := by
  have e1 : IntKind.u64.wrap (Int.tdiv (z : Int) 2) = ((z / 2 : Nat) : Int) := by rw [rr_u64, Int.tdiv_eq_ediv_of_nonneg (by omega)]; omega
  have e2 : wrap64 ((z / 2 : Nat) : Int) = ((z / 2 : Nat) : Int) := by unfold wrap64; omega
  have e3 : wrap64 (wrap64 (-((z / 2 : Nat) : Int)) - 1) = -((z / 2 : Nat) : Int) - 1 := by unfold wrap64; omega
  rw [e1, e2, e3, Int.tmod_eq_emod_of_nonneg (by omega)]
  unfold m_unzig
  by_cases h : z % 2 = 1
  · rw [if_pos h, if_pos (by omega)]
  · rw [if_neg h, if_neg (by omega)]
theorem rr_fits (z : Nat) (hz : z < 9223372036854775808) : m_fits (m_unzig z) = !decide (m_unzig z < -4611686018427387903) := by
  have h : m_unzig z ≤ 4611686018427387903 := by unfold m_unzig; split <;> omega
  unfold m_fits
  by_cases c : m_unzig z < -4611686018427387903
  · rw [decide_eq_true c, decide_eq_false (by omega)]; rfl
  · rw [decide_eq_false c, decide_eq_true (by omega), decide_eq_true h]; rfl
theorem rr_toList (s : ByteArray) : s.toList = s.data.toList := ByteArray.toList_eq ..
theorem rr_ext (s : ByteArray) (i j : Nat) (hij : i ≤ j) (hj : j ≤ s.size) : (s.extract i j).toList = (bk_rest s i).take (j - i) := by
  rw [rr_toList, ByteArray.data_extract, Array.toList_extract, List.extract_eq_take_drop]
theorem rr_tailZero (P : List UInt8) (t : Nat) (ht : 0 < t) (c : UInt8) (r : List UInt8) (hp : P.drop t = c :: r) (hc : c = 0) (k z : Nat) : m_vint k z ≠ P.take (t + 1) := by
  intro h
  have hl : t < P.length := by
    have := congrArg List.length hp
    rw [List.length_drop, List.length_cons] at this; omega
  have e : P.take (t + 1) = P.take t ++ [0] := by
    rw [List.take_succ_eq_append_getElem hl]
    rw [List.drop_eq_getElem_cons hl] at hp
    rw [(List.cons.inj hp).1, hc]
  rw [e] at h
  have h2 := congrArg List.length (rr_vintLast k z _ h)
  rw [List.length_take, List.length_nil] at h2
  omega
set_option maxHeartbeats 1000000 in
theorem rr_int (s : ByteArray) (i : Nat) (hs : s.size ≤ 1000000000) (hi : i ≤ s.size) : ∀ (d k t z : Nat), t + d = 9 → 2 * d + 25 < k → z < 2 ^ (7 * t) →
    m_rdz 9 0 (bk_rest s i) = (m_rdz d t (bk_rest s (i + t))).map (fun p => (z + p.1 * 2 ^ (7 * t), p.2)) →
    copydeskref01_Int.l0 k s (i : Int) (z : Int) (t : Int) = pl_ans s (m_rdz 9 0 (bk_rest s i))
  | 0, k, t, z, ht, hk, hz, hI => by
    obtain ⟨k, rfl⟩ : ∃ j, k = j + 2 := ⟨k - 2, by omega⟩
    rw [rr_none _ _ _ _ _ (by omega), hI]; rfl
  | d + 1, k, t, z, ht, hk, hz, hI => by
    obtain ⟨k, rfl⟩ : ∃ j, k = j + 2 := ⟨k - 2, by omega⟩
    have HZ := Aside0.mk hz
    clear hz
    have ht9 : (t : Int) < 9 := by omega
    have ht8 : t ≤ 8 := by omega
    have hw := pl_wadd i t (Nat.le_trans hi hs) (Nat.le_succ_of_le ht8)
    by_cases hlt : i + t < s.size
    · obtain ⟨c, hrest, hbt⟩ := pl_byte s (i + t) hlt
      have hc8 : c.toNat < 256 := c.toNat_lt
      have hmod : c.toNat % 128 < 128 := Nat.mod_lt _ (by decide)
      have hB : IntKind.u64.wrap (bt s ((i + t : Nat) : Int)) = (c.toNat : Int) := by rw [hbt, rr_u64]; omega
      have hm0 : Int.tmod (c.toNat : Int) 128 = ((c.toNat % 128 : Nat) : Int) := by rw [Int.tmod_eq_emod_of_nonneg (by omega)]; omega
      have hlt2 := pl_lt2 z (c.toNat % 128) t HZ.out hmod ht8
      have hZ : IntKind.u64.wrap ((z : Int) + shl .u64 (Int.tmod (c.toNat : Int) 128) ((7 * t : Nat) : Int)) = ((z + c.toNat % 128 * 2 ^ (7 * t) : Nat) : Int) := by
        rw [hm0, rr_shl _ t hmod ht8, rr_u64]
        generalize c.toNat % 128 * 2 ^ (7 * t) = y at hlt2 ⊢
        omega
      have hst := rr_step s (i : Int) (z : Int) (t : Int) ((i + t : Nat) : Int) _ _ _ _ _ _ k ht9 hw (by omega) (by omega) (pl_w7 t (Nat.le_succ_of_le ht8)) (by omega) hB hZ (pl_w1 (i + t) (by omega)) rfl rfl (by omega) (by omega) (by omega)
      rw [pl_w1 t (by omega), rr_unzig _ hlt2] at hst
      rw [hst]
      clear hst hZ hB hbt
      rw [hrest, pl_rdz_cons] at hI
      by_cases h1 : 128 ≤ c.toNat
      · rw [if_pos (by omega)]
        rw [if_pos h1, Option.map_map] at hI
        refine rr_int s i hs hi d k (t + 1) _ (by omega) (by omega) (pl_lt1 z _ t HZ.out hmod) (hI.trans ?_)
        rw [← Nat.add_assoc]
        congr 1
        funext p
        exact (congrArg (fun q => (q, p.2)) (pl_mapped z c.toNat t _ rfl h1 hc8 p.1)).symm
      · have hm : c.toNat % 128 = c.toNat := Nat.mod_eq_of_lt (by omega)
        rw [if_neg (by omega), rr_put _ k (by omega), Option.bind_some, hm]
        rw [hm] at hlt2
        rw [if_neg h1] at hI
        rw [Int.toNat_natCast, Int.toNat_natCast, rr_ext s i (i + t + 1) (by omega) (by omega), show i + t + 1 - i = t + 1 by omega]
        by_cases h2 : c.toNat = 0 ∧ 0 < t
        · rw [if_pos h2] at hI
          rw [hI]
          show _ = some (0, 0, 10)
          split
          · rw [if_pos rfl, if_neg]
            rw [rr_toList]
            refine rr_tailZero (bk_rest s i) t h2.2 c (bk_rest s (i + t + 1)) (by rw [bk_rest_drop]; exact hrest) (by have := cd_ofNat c; rw [h2.1] at this; exact this.symm) 10 _
          · rfl
        · rw [if_neg h2] at hI
          have hI2 : m_rdz 9 0 (bk_rest s i) = some (z + c.toNat * 2 ^ (7 * t), bk_rest s (i + t + 1)) := hI
          rw [hI2]
          obtain ⟨_, _, a3⟩ := cd_rdz_inv _ _ _ _ _ hI2
          have h10 := a3 10 (by omega)
          have htake : (bk_rest s i).take (t + 1) = m_vint 10 (z + c.toNat * 2 ^ (7 * t)) := by
            have hl := congrArg List.length h10
            rw [bk_rest_len, List.length_append, bk_rest_len] at hl
            rw [h10, List.take_append_of_le_length (by omega), List.take_of_length_le (by omega)]
          have hlen := pl_int_end s (i + t + 1) hlt
          rw [rr_fits _ hlt2]
          show _ = (if m_unzig (z + c.toNat * 2 ^ (7 * t)) < -4611686018427387903 then some (0, 0, 10) else some (m_unzig (z + c.toNat * 2 ^ (7 * t)), (s.size : Int) - ((bk_rest s (i + t + 1)).length : Int), 0))
          by_cases h3 : m_unzig (z + c.toNat * 2 ^ (7 * t)) < -4611686018427387903
          · rw [decide_eq_true h3, if_pos h3]; rfl
          · rw [decide_eq_false h3, if_neg h3, hlen]
            show (if (0 : Int) = 0 then _ else _) = _
            rw [if_pos rfl, if_pos]
            rw [rr_toList, htake]
            show m_int (m_unzig (z + c.toNat * 2 ^ (7 * t))) = _
            unfold m_int
            rw [cd_unzig]
    · rw [rr_end _ _ _ _ _ _ ht9 hw (by omega), hI, show bk_rest s (i + t) = [] from List.drop_eq_nil_of_le (by rw [Array.length_toList]; show s.size ≤ _; omega)]
      rfl
def rr_Reads {α : Type} (fn : Nat) (enc : α → Value) (one : Rd α) : Prop := ∀ (s : ByteArray) (i : Nat), i ≤ s.size → s.size ≤ 1000000000 →
  (∃ (x : α) (j : Nat), j ≤ s.size ∧ one (bk_rest s i) = .ok (x, bk_rest s j) ∧ ∀ W, Calls Tryd.prog fn #[.string s, .int .i64 (i : Int)] W fun e w' => e = .returned (.tuple #[enc x, .int .i64 (j : Int), .int .i64 0]) ∧ Below W.heap.size W w') ∨
  (one (bk_rest s i) = .error 10 ∧ ∃ (x : α) (j er : Int), er ≠ 0 ∧ ∀ W, Calls Tryd.prog fn #[.string s, .int .i64 (i : Int)] W fun e w' => e = .returned (.tuple #[enc x, .int .i64 j, .int .i64 er]) ∧ Below W.heap.size W w')
theorem rr_intF (s : ByteArray) (i : Nat) (hi : i ≤ s.size) (hs : s.size ≤ 1000000000) : copydeskref01_Int.f 60 s (i : Int) = pl_ans s (m_rdz 9 0 (bk_rest s i)) := by
  unfold copydeskref01_Int.f
  rw [if_neg (by omega), show decide ((i : Int) > (s.size : Int)) = false from decide_eq_false (by omega), copydeskref01_Int.j0, if_neg (by decide)]
  have := rr_int s i hs hi 9 59 0 0 (by omega) (by omega) (by decide) (by
    rw [Nat.add_zero]
    cases m_rdz 9 0 (bk_rest s i) with
    | none => rfl
    | some p => simp)
  exact this
theorem rr_intC (s : ByteArray) (i : Nat) (hi : i ≤ s.size) (hs : s.size ≤ 1000000000) : (∃ (x : Int) (j : Nat), j ≤ s.size ∧ rdI (bk_rest s i) = .ok (x, bk_rest s j) ∧ copydeskref01_Int.f 60 s (i : Int) = some (x, (j : Int), 0)) ∨
    (rdI (bk_rest s i) = .error 10 ∧ copydeskref01_Int.f 60 s (i : Int) = some (0, 0, 10)) := by
  have hf := rr_intF s i hi hs
  have hone : ∀ (z : Nat) (r : List UInt8), m_rdz 9 0 (bk_rest s i) = some (z, r) → rdI (bk_rest s i) = (if m_unzig z < -4611686018427387903 then .error 10 else .ok (m_unzig z, r)) := fun z r h => by
    unfold rdI m_rdInt
    rw [h]
    dsimp only
    by_cases h2 : m_unzig z < -4611686018427387903
    · rw [if_pos h2, if_pos h2]
    · rw [if_neg h2, if_neg h2]
  cases h : m_rdz 9 0 (bk_rest s i) with
  | none =>
    rw [h] at hf
    exact .inr ⟨by unfold rdI m_rdInt; rw [h], hf⟩
  | some p =>
    obtain ⟨z, r⟩ := p
    rw [h] at hf
    have ho := hone z r h
    by_cases hlo : m_unzig z < -4611686018427387903
    · rw [if_pos hlo] at ho
      simp only [pl_ans, if_pos hlo] at hf
      exact .inr ⟨ho, hf⟩
    · rw [if_neg hlo] at ho
      simp only [pl_ans, if_neg hlo] at hf
      obtain ⟨_, _, a3⟩ := cd_rdz_inv _ _ _ _ _ h
      have hl := congrArg List.length (a3 9 (Nat.le_refl _))
      rw [bk_rest_len, List.length_append] at hl
      have hr : r = bk_rest s (s.size - r.length) := by
        have h1 : bk_rest s i = m_vint 9 z ++ r := a3 9 (Nat.le_refl _)
        have h2 : r = (bk_rest s i).drop (m_vint 9 z).length := by rw [h1, List.drop_left]
        rw [bk_rest_drop, show i + (m_vint 9 z).length = s.size - r.length by omega] at h2
        exact h2
      refine .inl ⟨m_unzig z, s.size - r.length, by omega, by rw [ho, ← hr], ?_⟩
      have hj : (s.size : Int) - (r.length : Int) = ((s.size - r.length : Nat) : Int) := by omega
      rw [hj] at hf
      exact hf
theorem rr_rint : rr_Reads 97 (Value.int .i64) rdI := by
  intro s i hi hs
  rcases rr_intC s i hi hs with ⟨x, j, hj, h1, h2⟩ | ⟨h1, h2⟩
  · exact .inl ⟨x, j, hj, h1, fun W => copydeskref01_Int.calls 60 s i _ _ 0 W h2⟩
  · exact .inr ⟨h1, 0, 0, 10, by decide, fun W => copydeskref01_Int.calls 60 s i 0 0 10 W h2⟩
theorem rr_rstr : rr_Reads 98 Value.string rdB_ := by
  intro s i hi hs
  rcases rr_intC s i hi hs with ⟨n, j, hj, h1, h2⟩ | ⟨h1, h2⟩
  · have hlen := bk_rest_len s j
    have hw : wrap64 ((s.size : Int) - (j : Int)) = (s.size : Int) - (j : Int) := by unfold wrap64; omega
    have hf : copydeskref01_String.f 60 s (i : Int) = (if n < 0 then some ((⟨#[]⟩ : ByteArray), 0, 10) else if n > 65536 then some ((⟨#[]⟩ : ByteArray), 0, 10) else if n > (s.size : Int) - (j : Int) then some ((⟨#[]⟩ : ByteArray), 0, 10) else
        if 0 ≤ (j : Int) then if (j : Int) ≤ wrap64 ((j : Int) + n) then if wrap64 ((j : Int) + n) ≤ (s.size : Int) then some (s.extract ((j : Int)).toNat (wrap64 ((j : Int) + n)).toNat, wrap64 ((j : Int) + n), 0) else none else none else none) := by
      unfold copydeskref01_String.f
      rw [h2, Option.bind_some, if_pos rfl, hw]
    by_cases c : n < 0 ∨ 65536 < n ∨ ((bk_rest s j).length : Int) < n
    · refine .inr ⟨by rw [cd_rdB__eq, h1]; dsimp only; rw [if_pos c], ⟨#[]⟩, 0, 10, by decide, fun W => copydeskref01_String.calls 60 s i _ 0 10 W (hf.trans ?_)⟩
      by_cases c0 : n < 0
      · rw [if_pos c0]
      · rw [if_neg c0]
        by_cases c1 : n > 65536
        · rw [if_pos c1]
        · rw [if_neg c1, if_pos (by omega)]
    · obtain ⟨k, rfl⟩ : ∃ k : Nat, n = (k : Int) := ⟨n.toNat, by omega⟩
      have hw2 : wrap64 ((j : Int) + (k : Int)) = ((j + k : Nat) : Int) := by unfold wrap64; omega
      have hle : j + k ≤ s.size := by omega
      rw [if_neg (by omega), if_neg (by omega), if_neg (by omega), if_pos (by omega), hw2, if_pos (by omega), if_pos (by omega), Int.toNat_natCast, Int.toNat_natCast] at hf
      exact .inl ⟨s.extract j (j + k), j + k, hle, by rw [cd_rdB__eq, h1]; dsimp only; rw [if_neg c, Int.toNat_natCast, bk_extract, bk_rest_drop], fun W => copydeskref01_String.calls 60 s i _ _ 0 W hf⟩
  · refine .inr ⟨by rw [cd_rdB__eq, h1], ⟨#[]⟩, 0, 10, by decide, fun W => copydeskref01_String.calls 60 s i _ 0 10 W ?_⟩
    unfold copydeskref01_String.f
    rw [h2, Option.bind_some, if_neg (by decide)]
def rr_in (s : ByteArray) (i : Nat) (e : Int) : Obj := .cells #[.string s, .int .i64 (i : Int), .int .i64 e] 80 (0, 0)
theorem rr_undrew {w w1 : World} {row : Option Nat} (h : w.drew.grownBy w1 row) : w.grownBy w1 row := ⟨h.os, h.tape, h.output, h.size, h.block⟩
theorem rr_undrewB {w w1 : World} (h : Below w.drew.heap.size w.drew w1) : Below w.heap.size w w1 := ⟨h.os, h.tape, h.output, h.size, h.block⟩
theorem rr_grown_below {w w1 : World} (hb : Below w.heap.size w w1) (row : Option Nat) : w.grownBy w1 row := ⟨hb.os, hb.tape, hb.output, hb.size, fun i hi _ => hb.block i hi⟩
set_option maxHeartbeats 2000000 in
set_option maxRecDepth 100000 in
theorem rr_number (s : ByteArray) (i : Nat) (e : Int) (r : Nat) (w : World) (hi : i ≤ s.size) (hs : s.size ≤ 1000000000) (hr : w.heap[r]? = some (rr_in s i e)) :
    Calls Tryd.prog 85 #[.pointer (some ⟨r, 0, none⟩)] w fun en w' => ∃ (x : Int) (j : Nat) (e' : Int), en = .returned (.int .i64 x) ∧
      w'.heap[r]? = some (rr_in s j e') ∧ bk_Post rdI s i e x j e' ∧ w.grownBy w' (some r) := by
  unfold rr_in at hr
  have c0 : w.cell? ⟨r, 0, none⟩ = some (.string s) := bk_cell hr 0
  have c1 : w.cell? ⟨r, 1, none⟩ = some (.int .i64 (i : Int)) := bk_cell hr 1
  have c2 : w.cell? ⟨r, 2, none⟩ = some (.int .i64 e) := bk_cell hr 2
  have HR := Aside0.mk hr
  have hrl : r < w.heap.size := blk_lt hr
  by_cases he : e = 0
  · subst he
    rcases rr_rint s i hi hs with ⟨x, j, hj, hone, hc⟩ | ⟨hone, x, j, er, her, hc⟩
    · clear hr
      go_enter Tryd.func85, Tryd.ntmps85
      go_wp2_with fail
      go_region_held3 (fun w' => w'.cell? ⟨r, 0, none⟩ = some (.string s) ∧ w'.cell? ⟨r, 1, none⟩ = some (.int .i64 (i : Int))) (first | go_keep | exact ⟨bk_cell hr1 0, bk_cell hr1 1⟩) (first | (go_at_call 97; refine (hc _).mono ?_; rintro en w1 ⟨rfl, hb⟩; have HB := Aside0.mk (rr_undrewB hb); have hr1 := bk_heap_below HR.out HB.out; clear hb))
      have g1 := bk_frozen hr1 1
      have HR1 := Aside0.mk hr1
      have d1 := bk_cell hr1 1
      clear hr1
      go_wp2
      go_ret
      refine ⟨x, j, 0, rfl, ?_, ⟨hj, fun h => absurd rfl h, fun _ => by rw [hone]; exact ⟨rfl, rfl, rfl⟩⟩, ?_⟩
      · exact (by simpa [rr_in] using blk_set HR1.out 1 (.int .i64 (j : Int)))
      · exact bk_grown_set (rr_grown_below HB.out _) _ _
    · clear hr
      have hne : (er == 0) = false := by simpa using her
      go_enter Tryd.func85, Tryd.ntmps85
      go_wp2_with fail
      go_region_held3 (fun w' => w'.cell? ⟨r, 0, none⟩ = some (.string s) ∧ w'.cell? ⟨r, 1, none⟩ = some (.int .i64 (i : Int))) (first | go_keep | exact ⟨bk_cell hr1 0, bk_cell hr1 1⟩) (first | (go_at_call 97; refine (hc _).mono ?_; rintro en w1 ⟨rfl, hb⟩; have HB := Aside0.mk (rr_undrewB hb); have hr1 := bk_heap_below HR.out HB.out; clear hb))
      have g2 := bk_frozen hr1 2
      have HR1 := Aside0.mk hr1
      have d2 := bk_cell hr1 2
      clear hr1
      go_wp2
      go_ret
      refine ⟨0, i, 10, rfl, ?_, ⟨hi, fun h => absurd rfl h, fun _ => by rw [hone]; exact ⟨rfl, by decide⟩⟩, ?_⟩
      · exact (by simpa [rr_in] using blk_set HR1.out 2 (.int .i64 10))
      · exact bk_grown_set (rr_grown_below HB.out _) _ _
  · have hne : (e == 0) = false := by simpa using he
    go_enter Tryd.func85, Tryd.ntmps85
    go_wp2
    go_ret
    exact ⟨0, i, e, rfl, HR.out, ⟨hi, fun _ => rfl, fun h => absurd h he⟩, bk_grown_drewN _ 0 _⟩
set_option maxHeartbeats 2000000 in
set_option maxRecDepth 100000 in
theorem rr_text (s : ByteArray) (i : Nat) (e : Int) (r : Nat) (w : World) (hi : i ≤ s.size) (hs : s.size ≤ 1000000000) (hr : w.heap[r]? = some (rr_in s i e)) :
    Calls Tryd.prog 86 #[.pointer (some ⟨r, 0, none⟩)] w fun en w' => ∃ (x : ByteArray) (j : Nat) (e' : Int), en = .returned (.string x) ∧
      w'.heap[r]? = some (rr_in s j e') ∧ bk_Post rdB_ s i e x j e' ∧ w.grownBy w' (some r) := by
  unfold rr_in at hr
  have c0 : w.cell? ⟨r, 0, none⟩ = some (.string s) := bk_cell hr 0
  have c1 : w.cell? ⟨r, 1, none⟩ = some (.int .i64 (i : Int)) := bk_cell hr 1
  have c2 : w.cell? ⟨r, 2, none⟩ = some (.int .i64 e) := bk_cell hr 2
  have HR := Aside0.mk hr
  have hrl : r < w.heap.size := blk_lt hr
  by_cases he : e = 0
  · subst he
    rcases rr_rstr s i hi hs with ⟨x, j, hj, hone, hc⟩ | ⟨hone, x, j, er, her, hc⟩
    · clear hr
      go_enter Tryd.func86, Tryd.ntmps86
      go_wp2_with fail
      go_region_held3 (fun w' => w'.cell? ⟨r, 0, none⟩ = some (.string s) ∧ w'.cell? ⟨r, 1, none⟩ = some (.int .i64 (i : Int))) (first | go_keep | exact ⟨bk_cell hr1 0, bk_cell hr1 1⟩) (first | (go_at_call 98; refine (hc _).mono ?_; rintro en w1 ⟨rfl, hb⟩; have HB := Aside0.mk (rr_undrewB hb); have hr1 := bk_heap_below HR.out HB.out; clear hb))
      have g1 := bk_frozen hr1 1
      have HR1 := Aside0.mk hr1
      have d1 := bk_cell hr1 1
      clear hr1
      go_wp2
      go_ret
      refine ⟨x, j, 0, rfl, ?_, ⟨hj, fun h => absurd rfl h, fun _ => by rw [hone]; exact ⟨rfl, rfl, rfl⟩⟩, ?_⟩
      · exact (by simpa [rr_in] using blk_set HR1.out 1 (.int .i64 (j : Int)))
      · exact bk_grown_set (rr_grown_below HB.out _) _ _
    · clear hr
      have hne : (er == 0) = false := by simpa using her
      go_enter Tryd.func86, Tryd.ntmps86
      go_wp2_with fail
      go_region_held3 (fun w' => w'.cell? ⟨r, 0, none⟩ = some (.string s) ∧ w'.cell? ⟨r, 1, none⟩ = some (.int .i64 (i : Int))) (first | go_keep | exact ⟨bk_cell hr1 0, bk_cell hr1 1⟩) (first | (go_at_call 98; refine (hc _).mono ?_; rintro en w1 ⟨rfl, hb⟩; have HB := Aside0.mk (rr_undrewB hb); have hr1 := bk_heap_below HR.out HB.out; clear hb))
      have g2 := bk_frozen hr1 2
      have HR1 := Aside0.mk hr1
      have d2 := bk_cell hr1 2
      clear hr1
      go_wp2
      go_ret
      refine ⟨⟨#[]⟩, i, 10, rfl, ?_, ⟨hi, fun h => absurd rfl h, fun _ => by rw [hone]; exact ⟨rfl, by decide⟩⟩, ?_⟩
      · exact (by simpa [rr_in] using blk_set HR1.out 2 (.int .i64 10))
      · exact bk_grown_set (rr_grown_below HB.out _) _ _
  · have hne : (e == 0) = false := by simpa using he
    go_enter Tryd.func86, Tryd.ntmps86
    go_wp2
    go_ret
    exact ⟨⟨#[]⟩, i, e, rfl, HR.out, ⟨hi, fun _ => rfl, fun h => absurd h he⟩, bk_grown_drewN _ 0 _⟩
def rr_cnt (most : Int) : Rd Int := fun l => rdBind rdI (fun n l => if n < 0 ∨ most < n then .error 30 else .ok (n, l)) l
theorem rr_rdL {α : Type} (most : Int) (one : Rd α) : rdL most one = rdBind (rr_cnt most) (fun n l => rdN one n.toNat l) := by
  funext l
  rw [cd_rdL_bind]
  cases h : rdI l with
  | error e => rw [cd_bind_err h]; exact (cd_bind_err (one := rr_cnt most) (show rdBind rdI _ l = _ from cd_bind_err h)).symm
  | ok p =>
    obtain ⟨n, r⟩ := p
    rw [cd_bind_ok h]
    by_cases c : n < 0 ∨ most < n
    · rw [if_pos c]; exact (cd_bind_err (one := rr_cnt most) (show rdBind rdI _ l = _ from (cd_bind_ok h).trans (if_pos c))).symm
    · rw [if_neg c]; exact (cd_bind_ok (one := rr_cnt most) (next := fun n l => rdN one n.toNat l) (show rdBind rdI _ l = _ from (cd_bind_ok h).trans (if_neg c))).symm
theorem rr_list {α : Type} {one : Rd α} {s : ByteArray} {i j k : Nat} {e e1 e2 n most : Int} {xs : List α} (h1 : bk_Post (rr_cnt most) s i e n j e1) (h2 : bk_Post (rdN one n.toNat) s j e1 xs k e2) : bk_Post (rdL most one) s i e xs k e2 := by
  rw [rr_rdL]
  exact h1.bind (next := fun n l => rdN one n.toNat l) h2
theorem rr_cntErr {s : ByteArray} {i j : Nat} {e e1 n most : Int} (h1 : bk_Post rdI s i e n j e1) (h : e1 ≠ 0) : bk_Post (rr_cnt most) s i e 0 j e1 :=
  h1.bind (next := fun n l => if n < 0 ∨ most < n then .error 30 else .ok (n, l)) (bk_Post.err h1.1 h)
theorem rr_cntBad {s : ByteArray} {i j : Nat} {e n most : Int} (h1 : bk_Post rdI s i e n j 0) (h : n < 0 ∨ most < n) : bk_Post (rr_cnt most) s i e 0 j 30 :=
  h1.bind (next := fun n l => if n < 0 ∨ most < n then .error 30 else .ok (n, l)) ⟨h1.1, fun h => absurd rfl h, fun _ => by dsimp only; rw [if_pos h]; exact ⟨rfl, by decide⟩⟩
theorem rr_cntOk {s : ByteArray} {i j : Nat} {e n most : Int} (h1 : bk_Post rdI s i e n j 0) (h : ¬ (n < 0 ∨ most < n)) : bk_Post (rr_cnt most) s i e n j 0 :=
  h1.bind (next := fun n l => if n < 0 ∨ most < n then .error 30 else .ok (n, l)) ⟨h1.1, fun h => absurd rfl h, fun _ => by dsimp only; rw [if_neg h]; exact ⟨rfl, rfl, rfl⟩⟩
set_option maxHeartbeats 2000000 in
set_option maxRecDepth 100000 in
theorem rr_count (s : ByteArray) (i : Nat) (e : Int) (r : Nat) (most : Int) (w : World) (hi : i ≤ s.size) (hs : s.size ≤ 1000000000) (hr : w.heap[r]? = some (rr_in s i e)) :
    Calls Tryd.prog 59 #[.pointer (some ⟨r, 0, none⟩), .int .i64 most] w fun en w' => ∃ (n : Int) (j : Nat) (e' : Int), en = .returned (.int .i64 n) ∧
      w'.heap[r]? = some (rr_in s j e') ∧ bk_Post (rr_cnt most) s i e n j e' ∧ (e' ≠ 0 → n = 0) ∧ w.grownBy w' (some r) := by
  have HR := Aside0.mk hr
  clear hr
  go_enter Tryd.func59, Tryd.ntmps59
  go_wp2_with (go_at_call 85; refine Rg.stop_here ?_)
  refine ⟨?_⟩
  refine (rr_number s i e r _ hi hs HR.out).mono ?_
  rintro en w1 ⟨n, j1, e1, rfl, hr1, hp1, hg1⟩
  have HP1 := Aside0.mk hp1
  have HR1 := Aside0.mk hr1
  have HG1 := Aside0.mk hg1
  unfold rr_in at hr1
  have c2 : w1.cell? ⟨r, 2, none⟩ = some (.int .i64 e1) := bk_cell hr1 2
  have f2 := bk_frozen hr1 2
  clear hr1 hp1 hg1
  by_cases he1 : e1 = 0
  · subst he1
    by_cases hn0 : n < 0
    · have d1 : decide (n < 0) = true := decide_eq_true hn0
      go_wp2_with fail
      go_ret
      exact ⟨0, j1, 30, rfl, by simpa [rr_in] using blk_set HR1.out 2 (.int .i64 30), rr_cntBad HP1.out (.inl hn0), fun _ => rfl, bk_grown_set HG1.out _ _⟩
    · have d1 : decide (n < 0) = false := decide_eq_false hn0
      by_cases hn1 : most < n
      · have d2 : decide (most < n) = true := decide_eq_true hn1
        go_wp2_with fail
        go_ret
        exact ⟨0, j1, 30, rfl, by simpa [rr_in] using blk_set HR1.out 2 (.int .i64 30), rr_cntBad HP1.out (.inr hn1), fun _ => rfl, bk_grown_set HG1.out _ _⟩
      · have d2 : decide (most < n) = false := decide_eq_false hn1
        go_wp2_with fail
        go_ret
        exact ⟨n, j1, 0, rfl, HR1.out, rr_cntOk HP1.out (by omega), fun h => absurd rfl h, HG1.out⟩
  · have hne : (e1 == 0) = false := by simpa using he1
    go_wp2_with fail
    go_ret
    exact ⟨0, j1, e1, rfl, HR1.out, rr_cntErr HP1.out he1, fun _ => rfl, HG1.out⟩
theorem is_load {P : Program} {W : World} {ops : Array Oper} {rest : List Oper} {o : Oper} {a : Act} {Q : Exit → Act → World → Prop} {t : TypeId} {p : Operand} (_ : o.op = .load t p) (h : wpList P ops Q (o :: rest) a W) : wpList P ops Q (o :: rest) a W := h
theorem rr_cntLeM {most : Int} {s : ByteArray} {i j : Nat} {e n : Int} (h1 : bk_Post (rr_cnt most) s i e n j 0) : n ≤ most := by
  obtain ⟨_, h2, h3⟩ := h1
  by_cases he : e = 0
  · have h := h3 he
    unfold rr_cnt rdBind at h
    cases hr : rdI (bk_rest s i) with
    | error er => rw [hr] at h; exact absurd h.1.symm h.2
    | ok p =>
      obtain ⟨m, r⟩ := p
      rw [hr] at h
      dsimp only at h
      by_cases c : m < 0 ∨ most < m
      · rw [if_pos c] at h; exact absurd h.1 (by decide)
      · rw [if_neg c] at h
        have := h.1
        omega
  · exact absurd (h2 he).symm he
theorem rr_cntLe {s : ByteArray} {i j : Nat} {e n : Int} (h1 : bk_Post (rr_cnt 64) s i e n j 0) : n ≤ 1000 := by have := rr_cntLeM h1; omega
theorem rr_cntLe24 {s : ByteArray} {i j : Nat} {e n : Int} (h1 : bk_Post (rr_cnt 24) s i e n j 0) : n ≤ 1000 := by have := rr_cntLeM h1; omega
set_option maxHeartbeats 4000000 in
set_option maxRecDepth 100000 in
theorem rr_block (s : ByteArray) (i : Nat) (e : Int) (r : Nat) (w : World) (hi : i ≤ s.size) (hs : s.size ≤ 1000000000) (hr : w.heap[r]? = some (rr_in s i e)) :
    Calls Tryd.prog 60 #[.pointer (some ⟨r, 0, none⟩)] w fun en w' => ∃ (b : Bl) (v : Value) (j : Nat) (e' : Int), en = .returned (.agg (bk_cells b.f0 b.f1 b.f2 b.f3 b.f4 b.f5.f0 v b.f5.f2 b.f5.f3)) ∧
      (Kd.int .i64).R 3 w' w.heap.size (fun k => k ≠ r) v b.f5.f1 ∧ w'.heap[r]? = some (rr_in s j e') ∧ bk_Post rdB s i e b j e' ∧ w.grownBy w' (some r) := by
  have hrw : r < w.heap.size := blk_lt hr
  have HR := Aside0.mk hr
  clear hr
  go_enter Tryd.func60, Tryd.ntmps60
  go_wp2_with (with_reducible refine is_alloc rfl ?_; refine Rg.stop_here ?_)
  refine ⟨?_⟩
  refine box_event rfl (N := 2) rfl (cs := #[.int .i64 0, .int .i64 0, .string (⟨#[]⟩ : ByteArray), .int .i64 0, .int .i64 0, .int .i64 0, .slice none 0 0, .int .i64 0, .int .i64 0]) (t := 26) (by first | (go_simp; done) | (go_simp; rfl)) ?_
  intro g0 hg0 w1 hbx1 hb1
  have hw1s := hb1.size
  have hr1 := bk_heap_below HR.out hb1
  have hge0 : w.heap.size ≤ g0 := Nat.le_of_eq hg0.symm
  have HGE0 := Aside0.mk hge0
  clear hg0 hge0
  go_wp2_with (with_reducible refine is_alloc rfl ?_; refine Rg.stop_here ?_)
  refine ⟨?_⟩
  refine box_event rfl (N := 3) rfl (cs := #[.int .i64 0, .int .i64 0, .string (⟨#[]⟩ : ByteArray), .int .i64 0, .int .i64 0, .int .i64 0, .slice none 0 0, .int .i64 0, .int .i64 0]) (t := 26) (by first | (go_simp; done) | (go_simp; rfl)) ?_
  intro g hg w2 hbx2 hb2
  have hr2 := bk_heap_below hr1 hb2
  have hp2 := bk_heap_below hbx1 hb2
  have h0l : g0 < w1.heap.size := blk_lt hbx1
  have hge : w.heap.size ≤ g := by rw [hg]; exact hw1s
  have h0g : g0 ≠ g := by rw [hg]; exact Nat.ne_of_lt h0l
  have HGE := Aside0.mk hge
  have hfr2 : bk_Fr r g w w2 := (bk_Fr.of_below hb1 r g).trans (bk_Fr.of_below hb2 r g)
  have hgr : g ≠ r := blk_ne hbx2 (show w2.heap[r]? = some (.cells _ 80 (0, 0)) from hr2) (by decide)
  have h0r : g0 ≠ r := blk_ne hp2 (show w2.heap[r]? = some (.cells _ 80 (0, 0)) from hr2) (by decide)
  clear hr1 hb1 hb2 hg hge hbx1 hw1s h0l
  go_wp2_with (with_reducible refine is_store rfl ?_; refine Rg.stop_here ?_)
  refine ⟨?_⟩
  refine wpList_store_box rfl rfl _ _ _ rfl g _ _ _ rfl rfl hbx2 bk_size26 rfl (by repeat (first | exact List.forall_mem_nil _ | refine List.forall_mem_cons.2 ⟨rfl, ?_⟩)) ?_
  intro w3 hbx3 hst hot
  have hq3 : bk_Fr r g w2 w3 := by
    have h0 := hst g (Nat.le_refl _)
    exact ⟨h0.os, h0.tape, h0.output, h0.size, fun k _ _ hk => hot k hk⟩
  have hr3 := (hot r (fun h => hgr h.symm)).trans hr2
  have hp3 := (hot g0 h0g).trans hp2
  have hfr3 := hfr2.trans hq3
  clear hst hot hq3 hr2 hp2 hfr2 hbx2
  go_wp2_with (go_at_call 85; refine Rg.stop_here ?_)
  refine ⟨?_⟩
  refine (rr_number s i e r _ hi hs hr3).mono ?_
  rintro en w4 ⟨x0, i4, e4, rfl, hr4, hq4, hg4⟩
  have hbx4 := blk_grown hbx3 hg4 (by simpa using hgr)
  have hp4 := blk_grown hp3 hg4 (by simpa using h0r)
  have hfr4 := hfr3.trans (bk_Fr.of_grown hg4 g)
  have HP0 := Aside0.mk hq4
  have cb4 := bk_cell hbx4 0
  have fb4 := bk_frozen hbx4 0
  have hbx4' : (w4.setCell ⟨g, 0, none⟩ (.int .i64 x0)).heap[g]? = some (.cells #[.int .i64 x0, .int .i64 0, .string (⟨#[]⟩ : ByteArray), .int .i64 0, .int .i64 0, .int .i64 0, .slice none 0 0, .int .i64 0, .int .i64 0] 26 (0, 0)) := blk_set hbx4 0 (.int .i64 x0)
  have hr4' : (w4.setCell ⟨g, 0, none⟩ (.int .i64 x0)).heap[r]? = some (rr_in s i4 e4) := (Below.heap_setCell w4 ⟨g, 0, none⟩ _ r (fun h => hgr h.symm)).trans hr4
  have hp4' := (Below.heap_setCell w4 ⟨g, 0, none⟩ (.int .i64 x0) g0 h0g).trans hp4
  have hfr4' := hfr4.set 0 (.int .i64 x0)
  clear hr3 hbx3 hp3 hfr3 hg4 hq4 hr4 hbx4 hp4 hfr4
  go_wp2_with (go_at_call 85; refine Rg.stop_here ?_)
  refine ⟨?_⟩
  refine (rr_number s i4 e4 r _ HP0.out.1 hs hr4').mono ?_
  rintro en w5 ⟨x1, i5, e5, rfl, hr5, hq5, hg5⟩
  have hbx5 := blk_grown hbx4' hg5 (by simpa using hgr)
  have hp5 := blk_grown hp4' hg5 (by simpa using h0r)
  have hfr5 := hfr4'.trans (bk_Fr.of_grown hg5 g)
  have HP1 := Aside0.mk hq5
  have cb5 := bk_cell hbx5 1
  have fb5 := bk_frozen hbx5 1
  have hbx5' : (w5.setCell ⟨g, 1, none⟩ (.int .i64 x1)).heap[g]? = some (.cells #[.int .i64 x0, .int .i64 x1, .string (⟨#[]⟩ : ByteArray), .int .i64 0, .int .i64 0, .int .i64 0, .slice none 0 0, .int .i64 0, .int .i64 0] 26 (0, 0)) := blk_set hbx5 1 (.int .i64 x1)
  have hr5' : (w5.setCell ⟨g, 1, none⟩ (.int .i64 x1)).heap[r]? = some (rr_in s i5 e5) := (Below.heap_setCell w5 ⟨g, 1, none⟩ _ r (fun h => hgr h.symm)).trans hr5
  have hp5' := (Below.heap_setCell w5 ⟨g, 1, none⟩ (.int .i64 x1) g0 h0g).trans hp5
  have hfr5' := hfr5.set 1 (.int .i64 x1)
  clear hr4' hbx4' hp4' hfr4' hg5 hq5 hr5 hbx5 hp5 hfr5
  clear cb4 fb4
  go_wp2_with (go_at_call 86; refine Rg.stop_here ?_)
  refine ⟨?_⟩
  refine (rr_text s i5 e5 r _ HP1.out.1 hs hr5').mono ?_
  rintro en w6 ⟨x2, i6, e6, rfl, hr6, hq6, hg6⟩
  have hbx6 := blk_grown hbx5' hg6 (by simpa using hgr)
  have hp6 := blk_grown hp5' hg6 (by simpa using h0r)
  have hfr6 := hfr5'.trans (bk_Fr.of_grown hg6 g)
  have HP2 := Aside0.mk hq6
  have cb6 := bk_cell hbx6 2
  have fb6 := bk_frozen hbx6 2
  have hbx6' : (w6.setCell ⟨g, 2, none⟩ (.string x2)).heap[g]? = some (.cells #[.int .i64 x0, .int .i64 x1, .string x2, .int .i64 0, .int .i64 0, .int .i64 0, .slice none 0 0, .int .i64 0, .int .i64 0] 26 (0, 0)) := blk_set hbx6 2 (.string x2)
  have hr6' : (w6.setCell ⟨g, 2, none⟩ (.string x2)).heap[r]? = some (rr_in s i6 e6) := (Below.heap_setCell w6 ⟨g, 2, none⟩ _ r (fun h => hgr h.symm)).trans hr6
  have hp6' := (Below.heap_setCell w6 ⟨g, 2, none⟩ (.string x2) g0 h0g).trans hp6
  have hfr6' := hfr6.set 2 (.string x2)
  clear hr5' hbx5' hp5' hfr5' hg6 hq6 hr6 hbx6 hp6 hfr6
  clear cb5 fb5
  go_wp2_with (go_at_call 85; refine Rg.stop_here ?_)
  refine ⟨?_⟩
  refine (rr_number s i6 e6 r _ HP2.out.1 hs hr6').mono ?_
  rintro en w7 ⟨x3, i7, e7, rfl, hr7, hq7, hg7⟩
  have hbx7 := blk_grown hbx6' hg7 (by simpa using hgr)
  have hp7 := blk_grown hp6' hg7 (by simpa using h0r)
  have hfr7 := hfr6'.trans (bk_Fr.of_grown hg7 g)
  have HP3 := Aside0.mk hq7
  have cb7 := bk_cell hbx7 3
  have fb7 := bk_frozen hbx7 3
  have hbx7' : (w7.setCell ⟨g, 3, none⟩ (.int .i64 x3)).heap[g]? = some (.cells #[.int .i64 x0, .int .i64 x1, .string x2, .int .i64 x3, .int .i64 0, .int .i64 0, .slice none 0 0, .int .i64 0, .int .i64 0] 26 (0, 0)) := blk_set hbx7 3 (.int .i64 x3)
  have hr7' : (w7.setCell ⟨g, 3, none⟩ (.int .i64 x3)).heap[r]? = some (rr_in s i7 e7) := (Below.heap_setCell w7 ⟨g, 3, none⟩ _ r (fun h => hgr h.symm)).trans hr7
  have hp7' := (Below.heap_setCell w7 ⟨g, 3, none⟩ (.int .i64 x3) g0 h0g).trans hp7
  have hfr7' := hfr7.set 3 (.int .i64 x3)
  clear hr6' hbx6' hp6' hfr6' hg7 hq7 hr7 hbx7 hp7 hfr7
  clear cb6 fb6
  go_wp2_with (go_at_call 85; refine Rg.stop_here ?_)
  refine ⟨?_⟩
  refine (rr_number s i7 e7 r _ HP3.out.1 hs hr7').mono ?_
  rintro en w8 ⟨x4, i8, e8, rfl, hr8, hq8, hg8⟩
  have hbx8 := blk_grown hbx7' hg8 (by simpa using hgr)
  have hp8 := blk_grown hp7' hg8 (by simpa using h0r)
  have hfr8 := hfr7'.trans (bk_Fr.of_grown hg8 g)
  have HP4 := Aside0.mk hq8
  have cb8 := bk_cell hbx8 4
  have fb8 := bk_frozen hbx8 4
  have hbx8' : (w8.setCell ⟨g, 4, none⟩ (.int .i64 x4)).heap[g]? = some (.cells #[.int .i64 x0, .int .i64 x1, .string x2, .int .i64 x3, .int .i64 x4, .int .i64 0, .slice none 0 0, .int .i64 0, .int .i64 0] 26 (0, 0)) := blk_set hbx8 4 (.int .i64 x4)
  have hr8' : (w8.setCell ⟨g, 4, none⟩ (.int .i64 x4)).heap[r]? = some (rr_in s i8 e8) := (Below.heap_setCell w8 ⟨g, 4, none⟩ _ r (fun h => hgr h.symm)).trans hr8
  have hp8' := (Below.heap_setCell w8 ⟨g, 4, none⟩ (.int .i64 x4) g0 h0g).trans hp8
  have hfr8' := hfr8.set 4 (.int .i64 x4)
  clear hr7' hbx7' hp7' hfr7' hg8 hq8 hr8 hbx8 hp8 hfr8
  clear cb7 fb7
  go_wp2_with (go_at_call 85; refine Rg.stop_here ?_)
  refine ⟨?_⟩
  refine (rr_number s i8 e8 r _ HP4.out.1 hs hr8').mono ?_
  rintro en w9 ⟨x5, i9, e9, rfl, hr9, hq9, hg9⟩
  have hbx9 := blk_grown hbx8' hg9 (by simpa using hgr)
  have hp9 := blk_grown hp8' hg9 (by simpa using h0r)
  have hfr9 := hfr8'.trans (bk_Fr.of_grown hg9 g)
  have HP5 := Aside0.mk hq9
  have cb9 := bk_cell hbx9 5
  have fb9 := bk_frozen hbx9 5
  have hbx9' : (w9.setCell ⟨g, 5, none⟩ (.int .i64 x5)).heap[g]? = some (.cells #[.int .i64 x0, .int .i64 x1, .string x2, .int .i64 x3, .int .i64 x4, .int .i64 x5, .slice none 0 0, .int .i64 0, .int .i64 0] 26 (0, 0)) := blk_set hbx9 5 (.int .i64 x5)
  have hr9' : (w9.setCell ⟨g, 5, none⟩ (.int .i64 x5)).heap[r]? = some (rr_in s i9 e9) := (Below.heap_setCell w9 ⟨g, 5, none⟩ _ r (fun h => hgr h.symm)).trans hr9
  have hp9' := (Below.heap_setCell w9 ⟨g, 5, none⟩ (.int .i64 x5) g0 h0g).trans hp9
  have hfr9' := hfr9.set 5 (.int .i64 x5)
  clear hr8' hbx8' hp8' hfr8' hg9 hq9 hr9 hbx9 hp9 hfr9
  clear cb8 fb8
  go_wp2_with (go_at_call 59; refine Rg.stop_here ?_)
  refine ⟨?_⟩
  refine (rr_count s i9 e9 r 64 _ HP5.out.1 hs hr9').mono ?_
  rintro en w10 ⟨n, i10, e10, rfl, hr10, hq10, hn0, hg10⟩
  have hbx10 := blk_grown hbx9' hg10 (by simpa using hgr)
  have hp10 := blk_grown hp9' hg10 (by simpa using h0r)
  have hfr10 := hfr9'.trans (bk_Fr.of_grown hg10 g)
  have HQ := Aside0.mk hq10
  clear hr9' hbx9' hp9' hfr9' hg10 hq10 cb9 fb9
  have hn64 : n ≤ 1000 := by
    by_cases he : e10 = 0
    · subst he; exact rr_cntLe HQ.out
    · have := hn0 he; omega
  clear hn0
  go_wp2_with fail
  go_loopw [5] (fun p5 wr => ∃ (k : Nat) (xs : List Int) (v6 : Value) (j : Nat) (e' : Int), p5 = .int .i64 (k : Int) ∧ xs.length = k ∧ k ≤ n.toNat ∧ wr.heap[r]? = some (rr_in s j e') ∧ wr.heap[g]? = some (.cells #[.int .i64 x0, .int .i64 x1, .string x2, .int .i64 x3, .int .i64 x4, .int .i64 x5, v6, .int .i64 0, .int .i64 0] 26 (0, 0)) ∧
      wr.heap[g0]? = some (.cells #[.int .i64 0, .int .i64 0, .string (⟨#[]⟩ : ByteArray), .int .i64 0, .int .i64 0, .int .i64 0, .slice none 0 0, .int .i64 0, .int .i64 0] 26 (0, 0)) ∧ (Kd.int .i64).R 3 wr w.heap.size (fun k => k ≠ r ∧ k ≠ g ∧ k ≠ g0) v6 xs ∧ bk_Fr r g w wr ∧ j ≤ s.size ∧
      (∀ ys j2 e2, bk_Post (rdN rdI (n.toNat - k)) s j e' ys j2 e2 → bk_Post (rdN rdI n.toNat) s i10 e10 (xs ++ ys) j2 e2))
    (fun p _ => n.toNat - (intOf p).toNat)
  case atStart => exact ⟨0, [], _, i10, e10, rfl, rfl, Nat.zero_le _, hr10, hbx10, hp10, Kd.R_nil _ _ _ _ _, hfr10, HQ.out.1, fun ys j2 e2 h => h⟩
  case round =>
    clear hr10 hbx10 hp10 hfr10
    obtain ⟨k, xs, v6, j, e', rfl, rfl, hkn, hr, hbx, hp, hR, hfr, hj, hP⟩ := hrel
    obtain ⟨A6, c6, hv6⟩ := Kd.R_slice hR
    subst hv6
    have c2 : wr.cell? ⟨r, 2, none⟩ = some (.int .i64 e') := by unfold rr_in at hr; exact bk_cell hr 2
    have cb := bk_cell hbx 6
    have HR2 := Aside0.mk hr
    have HBX := Aside0.mk hbx
    have HPZ := Aside0.mk hp
    have HRR := Aside0.mk hR
    have HFR := Aside0.mk hfr
    have HPP := Aside0.mk hP
    clear hr hbx hp hR hfr hP
    have hcase : ((xs.length : Int) < n ∧ e' = 0) ∨ (decide ((xs.length : Int) < n) = false) ∨ (decide ((xs.length : Int) < n) = true ∧ (e' == 0) = false) := by
      rw [decide_eq_false_iff_not, decide_eq_true_eq, beq_eq_false_iff_ne]; omega
    rcases hcase with ⟨hlt, rfl⟩ | hd | ⟨hd, hne⟩
    · have hd : decide ((xs.length : Int) < n) = true := decide_eq_true hlt
      go_wp2_with fail
      have hgne : some g ≠ (Value.slice A6 xs.length c6).ownBlock := fun h => (HRR.out.1 g h.symm).2.1 rfl
      have hrne : some r ≠ (Value.slice A6 xs.length c6).ownBlock := fun h => (HRR.out.1 r h.symm).1 rfl
      have h0ne : some g0 ≠ (Value.slice A6 xs.length c6).ownBlock := fun h => (HRR.out.1 g0 h.symm).2.2 rfl
      have hgl : g < wr.heap.size := blk_lt HBX.out
      have h0l : g0 < wr.heap.size := blk_lt HPZ.out
      have hrl : r < wr.heap.size := blk_lt HR2.out
      go_region_law (first | (refine Kd.R_append_step (Kd.int .i64) (w0 := w5) w.heap.size (by rfl) (.tmp 42) (.tmp 45) 22 3 (.int .i64 0) 8 rfl Tryd.underlying22 bk_info3 rfl (by decide) (by omega) _ xs x [.int .i64 x] (fun k => k ≠ r ∧ k ≠ g ∧ k ≠ g0) (fun _ => False) (by rfl) (by rfl) rfl (fun _ hk => hk.elim) (fun k hk => ⟨by omega, by omega, by omega⟩) (Kd.R_grown HRR.out HG5.out (fun k hk he => hk.1 (Option.some.inj he))) (Below.refl _ _) (by omega) (by omega) ?_; intro v1 w6 hR6 hb6 hg6 _; obtain ⟨A7, c7, hv7⟩ := Kd.R_slice hR6; subst hv7; rw [List.length_append, List.length_singleton] at hR6; have hbx6 := blk_grown HBX5.out hg6 hgne; have c6' := bk_cell hbx6 6; have f6 := bk_frozen hbx6 6) | (go_simp; go_at_call 85; refine (rr_number s j 0 r _ hj hs (by exact HR2.out)).mono ?_; rintro en w5 ⟨x, j5, e5, rfl, hr5, hq5, hg5⟩; replace hg5 := rr_undrew hg5; have HBX5 := Aside0.mk (blk_grown HBX.out hg5 (by simpa using hgr)); have c5 := bk_cell HBX5.out 6; have hw5 := hg5.size; have HR5 := Aside0.mk hr5; have HQ5 := Aside0.mk hq5; have HG5 := Aside0.mk hg5; have hfr5 := HFR.out.trans (bk_Fr.of_grown hg5 g); have hws := hfr5.size; have HF5 := Aside0.mk hfr5; have hg5l : g < w5.heap.size := (by omega); clear hr5 hq5 hg5 hfr5))
      all_goals
        have HBX6 := Aside0.mk hbx6
        have HR6 := Aside0.mk hR6
        have hr6 := blk_grown HR5.out hg6 hrne
        have hp6 := blk_grown (blk_grown HPZ.out HG5.out (by simpa using h0r)) hg6 h0ne
        clear hbx6 hR6
        go_wp2_with fail
        go_roundw
        case rel =>
          have hne1 : r ≠ (⟨g, 6, none⟩ : Addr).block := fun h => hgr h.symm
          refine ⟨xs.length + 1, xs ++ [x], _, j5, e5, by go_num, by simp, by omega, (Below.heap_setCell w6 ⟨g, 6, none⟩ _ r hne1).trans hr6, blk_set HBX6.out 6 _, (Below.heap_setCell w6 ⟨g, 6, none⟩ _ g0 h0g).trans hp6, Kd.R_far HR6.out (fun k hk => hk.2.1) _, ?_, HQ5.out.1, fun ys j2 e2 h => ?_⟩
          · have h1 := HF5.out
            exact (⟨hb6.os.trans h1.os, hb6.tape.trans h1.tape, hb6.output.trans h1.output, Nat.le_trans h1.size hb6.size, fun i hi hr hg => (hb6.block i hi).trans (h1.block i hi hr hg)⟩ : bk_Fr r g w w6).set 6 _
          · rw [List.append_assoc]
            refine HPP.out _ _ _ ?_
            rw [show n.toNat - xs.length = (n.toNat - (xs.length + 1)) + 1 by omega]
            exact bk_Post.bind (next := fun x l => rdBind (rdN rdI (n.toNat - (xs.length + 1))) (fun xs l => .ok (x :: xs, l)) l) HQ5.out (bk_Post.bind (next := fun xs l => .ok (x :: xs, l)) h (bk_Post.pure _ _ _ _ h.1))
        case measure => simp [intOf]; omega
    all_goals
      have hQQ : bk_Post (rdN rdI n.toNat) s i10 e10 xs j e' := by
        have := HPP.out [] j e' (by first | exact bk_Post.err hj (beq_eq_false_iff_ne.1 hne) | (rw [show n.toNat - xs.length = 0 by have := of_decide_eq_false hd; omega]; exact bk_Post.pure _ _ _ _ hj))
        rwa [List.append_nil] at this
      have HP6 := Aside0.mk (rr_list HQ.out hQQ)
      have HJ := Aside0.mk hj
      clear hQQ
      go_wp2_with (go_at_call 85; refine Rg.stop_here ?_)
      refine ⟨?_⟩
      refine (rr_number s j e' r _ HJ.out hs HR2.out).mono ?_
      rintro en w11 ⟨x7, i11, e11, rfl, hr11, hq11, hg11⟩
      have hbx11 := blk_grown HBX.out hg11 (by simpa using hgr)
      have hp11 := blk_grown HPZ.out hg11 (by simpa using h0r)
      have hfr11 := HFR.out.trans (bk_Fr.of_grown hg11 g)
      have hR11 := Kd.R_grown HRR.out hg11 (fun k hk he => hk.1 (Option.some.inj he))
      have HP7 := Aside0.mk hq11
      have cb11 := bk_cell hbx11 7
      have fb11 := bk_frozen hbx11 7
      have hbx11' : (w11.setCell ⟨g, 7, none⟩ (.int .i64 x7)).heap[g]? = some (.cells #[.int .i64 x0, .int .i64 x1, .string x2, .int .i64 x3, .int .i64 x4, .int .i64 x5, .slice A6 xs.length c6, .int .i64 x7, .int .i64 0] 26 (0, 0)) := blk_set hbx11 7 (.int .i64 x7)
      have hr11' : (w11.setCell ⟨g, 7, none⟩ (.int .i64 x7)).heap[r]? = some (rr_in s i11 e11) := (Below.heap_setCell w11 ⟨g, 7, none⟩ _ r (fun h => hgr h.symm)).trans hr11
      have hp11' := (Below.heap_setCell w11 ⟨g, 7, none⟩ (.int .i64 x7) g0 h0g).trans hp11
      have HF11 := Aside0.mk (hfr11.set 7 (.int .i64 x7))
      have HR11 := Aside0.mk (Kd.R_far (p := ⟨g, 7, none⟩) hR11 (fun k hk => hk.2.1) (.int .i64 x7))
      have HBX11 := Aside0.mk hbx11'
      have HPZ11 := Aside0.mk hp11'
      have HRR11 := Aside0.mk hr11'
      clear hg11 hq11 hr11 hbx11 hp11 hfr11 hR11 hbx11' hp11' hr11' cb c2
      go_wp2_with (go_at_call 85; refine Rg.stop_here ?_)
      refine ⟨?_⟩
      refine (rr_number s i11 e11 r _ HP7.out.1 hs HRR11.out).mono ?_
      rintro en w12 ⟨x8, i12, e12, rfl, hr12, hq12, hg12⟩
      have hbx12 := blk_grown HBX11.out hg12 (by simpa using hgr)
      have hp12 := blk_grown HPZ11.out hg12 (by simpa using h0r)
      have hfr12 := HF11.out.trans (bk_Fr.of_grown hg12 g)
      have hR12 := Kd.R_grown HR11.out hg12 (fun k hk he => hk.1 (Option.some.inj he))
      have HP8 := Aside0.mk hq12
      have cb12 := bk_cell hbx12 8
      have fb12 := bk_frozen hbx12 8
      have hbx12' : (w12.setCell ⟨g, 8, none⟩ (.int .i64 x8)).heap[g]? = some (.cells #[.int .i64 x0, .int .i64 x1, .string x2, .int .i64 x3, .int .i64 x4, .int .i64 x5, .slice A6 xs.length c6, .int .i64 x7, .int .i64 x8] 26 (0, 0)) := blk_set hbx12 8 (.int .i64 x8)
      have HRR12 := Aside0.mk ((Below.heap_setCell w12 ⟨g, 8, none⟩ (.int .i64 x8) r (fun h => hgr h.symm)).trans hr12)
      have HPZ12 := Aside0.mk ((Below.heap_setCell w12 ⟨g, 8, none⟩ (.int .i64 x8) g0 h0g).trans hp12)
      have HF12 := Aside0.mk (hfr12.set 8 (.int .i64 x8))
      have HR12 := Aside0.mk (Kd.R_far (p := ⟨g, 8, none⟩) hR12 (fun k hk => hk.2.1) (.int .i64 x8))
      have HBX12 := Aside0.mk hbx12'
      clear hg12 hq12 hr12 hbx12 hp12 hfr12 hR12 hbx12' cb11 fb11
      go_wp2_with (with_reducible refine is_load rfl ?_; refine Rg.stop_here ?_)
      refine ⟨?_⟩
      clear cb12 fb12
      obtain ⟨wz, hwz⟩ : ∃ wz, w12.setCell ⟨g, 8, none⟩ (.int .i64 x8) = wz := ⟨_, rfl⟩
      rw [hwz] at HRR12 HPZ12 HF12 HR12 HBX12 ⊢
      clear hwz
      obtain ⟨d0, d1, d2, d3, d4, d5, d6, d7, d8⟩ := bk_Box.of HBX12.out
      go_wp2_with (with_reducible refine is_store rfl ?_; refine Rg.stop_here ?_)
      refine ⟨?_⟩
      refine wpList_store_box rfl rfl _ _ _ rfl g0 _ _ _ rfl rfl HPZ12.out bk_size26 rfl (by repeat (first | exact List.forall_mem_nil _ | refine List.forall_mem_cons.2 ⟨rfl, ?_⟩)) ?_
      intro w13 hbx13 hst hot
      clear d0 d1 d2 d3 d4 d5 d6 d7 d8
      obtain ⟨d0, d1, d2, d3, d4, d5, d6, d7, d8⟩ := bk_Box.of hbx13
      go_wp2
      have h13 := hst g0 (Nat.le_refl _)
      have hF := HF12.out
      have hRz := Kd.R_step HR12.out (fun k hk hlt => hot k hk.2.2)
      have hge := HGE.out
      have hge0 := HGE0.out
      refine bodyPost_ret (results_cell_row rfl _ _ g0 _ _ _ _ rfl hbx13 Tryd.underlying26 rfl bk_size26) rfl ?_
      exact ⟨⟨x0, x1, x2, x3, x4, ⟨x5, xs, x7, x8⟩⟩, _, i12, e12, rfl, Kd.R_mono hRz (fun k hk => hk.1), (hot r (fun h => h0r h.symm)).trans HRR12.out, cd_rdB_post HP0.out HP1.out HP2.out HP3.out HP4.out HP5.out HP6.out HP7.out HP8.out,
        ⟨h13.os.trans hF.os, h13.tape.trans hF.tape, h13.output.trans hF.output, Nat.le_trans hF.size h13.size, fun i hi hir => (hot i (by omega)).trans (hF.block i hi (fun h => hir (by rw [h])) (by omega))⟩⟩
theorem rv_w (n : Nat) (h : n + 1 ≤ 9223372036854775807) : wrap64 ((n : Int) + 1) = ((n + 1 : Nat) : Int) := by unfold wrap64; omega
theorem rv_atGet (s : ByteArray) (j : Nat) (hl : j < s.data.toList.length) : m_at s.data.toList j = s.data.toList[j] := by rw [m_at, List.getD_eq_getElem?_getD, List.getElem?_eq_getElem hl]; rfl
theorem rv_rText (s : ByteArray) (hs : s.size ≤ 9223372036854775807) : ∀ (d k j : Nat), j + d = s.size → d < k →
    copydeskref03_IsText.l0 k s (j : Int) = some (decide (s.size ≤ 300) && (s.data.toList.drop j).all (fun c => decide (32 ≤ c.toNat) && decide (c.toNat ≤ 126)))
  | 0, k, j, hj, hk => by
    obtain ⟨k, rfl⟩ : ∃ i, k = i + 1 := ⟨k - 1, by omega⟩
    rw [copydeskref03_IsText.l0, if_neg (by omega), List.drop_eq_nil_of_le (by rw [pu_len]; omega)]
    simp only [List.all_nil, Bool.and_true]
    exact congrArg some (decide_eq_decide.2 (by omega))
  | d + 1, k, j, hj, hk => by
    obtain ⟨k, rfl⟩ : ∃ i, k = i + 1 := ⟨k - 1, by omega⟩
    have hl : j < s.data.toList.length := by rw [pu_len]; omega
    rw [copydeskref03_IsText.l0, if_pos (by omega), if_pos (by omega), pu_bt s j (by omega), rv_w j (by omega), rv_rText s hs d k (j + 1) (by omega) (by omega), List.drop_eq_getElem_cons hl, ← rv_atGet s j hl, List.all_cons]
    by_cases h1 : ((m_at s.data.toList j).toNat : Int) < 32
    · rw [if_pos h1, show decide (32 ≤ (m_at s.data.toList j).toNat) = false by simp; omega]; simp
    · rw [if_neg h1, show decide (32 ≤ (m_at s.data.toList j).toNat) = true by simp; omega]
      by_cases h2 : ((m_at s.data.toList j).toNat : Int) > 126
      · rw [if_pos h2, show decide ((m_at s.data.toList j).toNat ≤ 126) = false by simp; omega]; simp
      · rw [if_neg h2, show decide ((m_at s.data.toList j).toNat ≤ 126) = true by simp; omega]; simp
def rv_nm (c : UInt8) : Bool := (decide (97 ≤ c.toNat) && decide (c.toNat ≤ 122)) || (decide (48 ≤ c.toNat) && decide (c.toNat ≤ 57)) || c.toNat == 45
theorem rv_rNameStep (n : Nat) (A : Option Bool) : (if (n : Int) ≥ 97 then (if (n : Int) ≤ 122 then A else (if (n : Int) ≥ 48 then (if (n : Int) ≤ 57 then A else (if (n : Int) = 45 then A else some false)) else (if (n : Int) = 45 then A else some false))) else (if (n : Int) ≥ 48 then (if (n : Int) ≤ 57 then A else (if (n : Int) = 45 then A else some false)) else (if (n : Int) = 45 then A else some false)))
    = if ((decide (97 ≤ n) && decide (n ≤ 122)) || (decide (48 ≤ n) && decide (n ≤ 57)) || n == 45) = true then A else some false := by
  simp only [Bool.or_eq_true, Bool.and_eq_true, decide_eq_true_eq, beq_iff_eq]
  repeat' split
  all_goals first | rfl | (exfalso; omega)
theorem rv_rName (s : ByteArray) (hs : s.size ≤ 9223372036854775807) : ∀ (d k j : Nat), j + d = s.size → d < k →
    copydeskref03_IsName.l0 k s (j : Int) = some (decide (1 ≤ s.size) && decide (s.size ≤ 20) && (s.data.toList.drop j).all rv_nm)
  | 0, k, j, hj, hk => by
    obtain ⟨k, rfl⟩ : ∃ i, k = i + 1 := ⟨k - 1, by omega⟩
    rw [copydeskref03_IsName.l0, if_neg (by omega), List.drop_eq_nil_of_le (by rw [pu_len]; omega)]
    simp only [List.all_nil, Bool.and_true]
    by_cases h : (s.size : Int) ≥ 1
    · rw [if_pos h, show decide (1 ≤ s.size) = true by simp; omega, Bool.true_and]
      exact congrArg some (decide_eq_decide.2 (by omega))
    · rw [if_neg h, show decide (1 ≤ s.size) = false from decide_eq_false (by omega), Bool.false_and]
  | d + 1, k, j, hj, hk => by
    obtain ⟨k, rfl⟩ : ∃ i, k = i + 1 := ⟨k - 1, by omega⟩
    have hl : j < s.data.toList.length := by rw [pu_len]; omega
    rw [copydeskref03_IsName.l0, if_pos (by omega), if_pos (by omega), pu_bt s j (by omega), rv_w j (by omega), rv_rName s hs d k (j + 1) (by omega) (by omega), List.drop_eq_getElem_cons hl, ← rv_atGet s j hl, List.all_cons, rv_rNameStep]
    show (if rv_nm (m_at s.data.toList j) = true then _ else _) = _
    cases h : rv_nm (m_at s.data.toList j) with
    | true => rw [if_pos rfl, Bool.true_and]
    | false => rw [if_neg (by simp), Bool.false_and, Bool.and_false]
def rv_asc (p : Int) : List Int → Bool
  | [] => true
  | x :: l => decide (p < x) && decide (x ≤ 64) && rv_asc x l
theorem rv_ascHead : ∀ (x : Int) (l : List Int), m_asc (x :: l) = true → ∀ z ∈ l, x < z
  | _, [], _, z, hz => by cases hz
  | x, y :: l, h, z, hz => by
    rw [m_asc, Bool.and_eq_true, decide_eq_true_eq] at h
    rcases List.mem_cons.1 hz with rfl | hz
    · exact h.1
    · have := rv_ascHead y l h.2 z hz; omega
theorem rv_ascIff : ∀ (l : List Int) (p : Int), rv_asc p l = true ↔ (∀ x ∈ l, p < x ∧ x ≤ 64) ∧ m_asc l = true
  | [], p => by simp [rv_asc, m_asc]
  | x :: l, p => by
    rw [rv_asc, Bool.and_eq_true, Bool.and_eq_true, decide_eq_true_eq, decide_eq_true_eq, rv_ascIff l x]
    constructor
    · rintro ⟨⟨h1, h2⟩, h3, h4⟩
      refine ⟨fun z hz => ?_, ?_⟩
      · rcases List.mem_cons.1 hz with rfl | hz
        · exact ⟨h1, h2⟩
        · have := h3 z hz; omega
      · cases l with
        | nil => rfl
        | cons y l => rw [m_asc, Bool.and_eq_true, decide_eq_true_eq]; exact ⟨(h3 y (by simp)).1, h4⟩
    · rintro ⟨h1, h2⟩
      refine ⟨h1 x (by simp), fun z hz => ⟨rv_ascHead x l h2 z hz, (h1 z (by simp [hz])).2⟩, ?_⟩
      cases l with
      | nil => rfl
      | cons y l => rw [m_asc, Bool.and_eq_true] at h2; exact h2.2
theorem rv_rd (l : List Int) (x : Nat) (h : x < l.length) : rd l (x : Int) = l[x] := by
  simp [rd, List.getD_eq_getElem?_getD, h]
theorem rv_rAsc (l : List Int) (u a d : Int) : ∀ (k j : Nat) (p : Int), (j : Int) ≤ p → p ≤ 64 → j ≤ l.length → (64 - p).toNat + 1 < k →
    copydeskref02_Valid.l0 k p (j : Int) u l a d = some (rv_asc p (l.drop j))
  | 0, _, _, _, _, _, hk => by omega
  | k + 1, j, p, h1, h2, hj, hk => by
    rw [copydeskref02_Valid.l0]
    by_cases hlt : j < l.length
    · rw [if_pos (by omega), if_pos (by omega), rv_rd l j hlt, rv_w j (by omega), List.drop_eq_getElem_cons hlt, rv_asc]
      by_cases c1 : l[j] ≤ p
      · rw [if_pos c1, show decide (p < l[j]) = false by simp; omega]; rfl
      · rw [if_neg c1, show decide (p < l[j]) = true by simp; omega]
        by_cases c2 : l[j] > 64
        · rw [if_pos c2, show decide (l[j] ≤ 64) = false by simp; omega]; rfl
        · rw [if_neg c2, show decide (l[j] ≤ 64) = true by simp; omega, rv_rAsc l u a d k (j + 1) l[j] (by omega) (by omega) (by omega) (by omega)]; rfl
    · rw [if_neg (by omega), List.drop_eq_nil_of_le (by omega)]; rfl
theorem rv_rLabel (u : Int) (l : List Int) (a d : Int) (k : Nat) (hk : 70 ≤ k) : copydeskref02_Valid.f k u l a d = some (m_label u l a d) := by
  have hasc : (l.all (fun x => decide (1 ≤ x) && decide (x ≤ 64)) && m_asc l) = rv_asc 0 l := by
    rw [Bool.eq_iff_iff, rv_ascIff]
    simp only [Bool.and_eq_true, List.all_eq_true, decide_eq_true_eq]
    constructor
    · rintro ⟨h1, h2⟩; exact ⟨fun x hx => by have := h1 x hx; omega, h2⟩
    · rintro ⟨h1, h2⟩; exact ⟨fun x hx => by have := h1 x hx; omega, h2⟩
  obtain ⟨k, rfl⟩ : ∃ i, k = i + 1 := ⟨k - 1, by omega⟩
  have hl := rv_rAsc l u a d k 0 0 (Int.le_refl 0) (by omega) (Nat.zero_le _) (by omega)
  have hbad : copydeskref02_Valid.j0 (k + 1) true u l a d = some false := by rw [copydeskref02_Valid.j0, if_pos rfl]
  have hgo : copydeskref02_Valid.j0 (k + 1) false u l a d = some (rv_asc 0 l) := by rw [copydeskref02_Valid.j0, if_neg (by simp)]; exact hl
  unfold copydeskref02_Valid.f m_label
  rw [hbad]
  by_cases c1 : u < 0
  · rw [if_pos c1, show decide (0 ≤ u) = false by simp; omega]; simp
  rw [if_neg c1, show decide (0 ≤ u) = true by simp; omega]
  by_cases c2 : u > 1000000000
  · rw [if_pos c2, show decide (u ≤ 1000000000) = false by simp; omega]; simp
  rw [if_neg c2, show decide (u ≤ 1000000000) = true by simp; omega]
  by_cases c3 : a < 0
  · rw [if_pos c3, show decide (0 ≤ a) = false by simp; omega]; simp
  rw [if_neg c3, show decide (0 ≤ a) = true by simp; omega]
  by_cases c4 : a > 5
  · rw [if_pos c4, show decide (a ≤ 5) = false by simp; omega]; simp
  rw [if_neg c4, show decide (a ≤ 5) = true by simp; omega]
  by_cases c5 : d < 0
  · rw [if_pos c5, show decide (0 ≤ d) = false by simp; omega]; simp
  rw [if_neg c5, show decide (0 ≤ d) = true by simp; omega]
  by_cases c6 : d > 15
  · rw [show decide (d > 15) = true by simpa using c6, hbad, show decide (d ≤ 15) = false by simp; omega]; simp
  rw [show decide (d > 15) = false by simpa using c6, hgo, show decide (d ≤ 15) = true by simp; omega, Bool.true_and, Bool.true_and, hasc]; simp
theorem rv_toNil (s : ByteArray) : s.toList = ([] : List UInt8) ↔ s.size = 0 := by rw [pu_toList, ← pu_len]; exact List.length_eq_zero_iff.symm
theorem rv_rTail (k : Nat) (i kind : Int) (t : ByteArray) (s r u : Int) (l : List Int) (a d : Int) (ht : t.size ≤ 9223372036854775807) (hk : t.size + 5 ≤ k) :
    copydeskref03_Valid.j0 k false i kind t s r u l a d = some (if kind = 1 ∨ kind = 2 ∨ kind = 4 then decide (t.size ≠ 0) && decide (s = 0) && decide (r = 0)
     else if kind = 5 then m_name t && decide (s = 0) && decide (r = 0)
     else if kind = 3 then decide (1 ≤ s) && decide (s ≤ 64) && decide (1 ≤ r) && decide (r ≤ 1000)
     else false) := by
  obtain ⟨k, rfl⟩ : ∃ i, k = i + 2 := ⟨k - 2, by omega⟩
  have hn : copydeskref03_IsName.f k t = some (m_name t) := rv_rName t ht t.size k 0 (by omega) (by omega)
  have h1 : copydeskref03_Valid.j1 (k + 1) kind true i kind t s r u l a d = some (decide (t.size ≠ 0) && decide (s = 0) && decide (r = 0)) := by
    rw [copydeskref03_Valid.j1, if_pos rfl]
    by_cases c : t.toList = ([] : List UInt8)
    · rw [if_pos c, show decide (t.size ≠ 0) = false by simp [(rv_toNil t).1 c]]; rfl
    · rw [if_neg c, show decide (t.size ≠ 0) = true from decide_eq_true (fun h => c ((rv_toNil t).2 h))]
      by_cases c2 : s = 0
      · rw [if_pos c2, show decide (s = 0) = true by simpa using c2]; rfl
      · rw [if_neg c2, show decide (s = 0) = false by simpa using c2]; rfl
  rw [copydeskref03_Valid.j0, if_neg (by simp)]
  by_cases k1 : kind = 1
  · rw [if_pos k1, if_pos (.inl k1), show (kind == 1) = true by simpa using k1, h1]
  rw [if_neg k1]
  by_cases k2 : kind = 2
  · rw [if_pos k2, if_pos (.inr (.inl k2)), show (kind == 2) = true by simpa using k2, h1]
  rw [if_neg k2]
  by_cases k4 : kind = 4
  · rw [if_pos (.inr (.inr k4)), show (kind == 4) = true by simpa using k4, h1]
  rw [show (kind == 4) = false by simpa using k4, if_neg (by omega), copydeskref03_Valid.j1, if_neg (by simp)]
  by_cases k5 : kind = 5
  · rw [if_pos k5, if_pos k5, hn, Option.bind_some]
    cases m_name t with
    | false => rfl
    | true =>
      rw [if_pos rfl]
      by_cases c2 : s = 0
      · rw [if_pos c2, show decide (s = 0) = true by simpa using c2]; rfl
      · rw [if_neg c2, show decide (s = 0) = false by simpa using c2]; rfl
  rw [if_neg k5, if_neg k5]
  by_cases k3 : kind = 3
  · rw [if_pos k3, if_pos k3]
    by_cases c1 : s ≥ 1
    · rw [if_pos c1, show decide (1 ≤ s) = true by simpa using c1]
      by_cases c2 : s ≤ 64
      · rw [if_pos c2, show decide (s ≤ 64) = true by simpa using c2]
        by_cases c3 : r ≥ 1
        · rw [if_pos c3, show decide (1 ≤ r) = true by simpa using c3]; rfl
        · rw [if_neg c3, show decide (1 ≤ r) = false by simpa using c3]; rfl
      · rw [if_neg c2, show decide (s ≤ 64) = false by simpa using c2]; rfl
    · rw [if_neg c1, show decide (1 ≤ s) = false by simpa using c1]; rfl
  · rw [if_neg k3, if_neg k3]
theorem rv_rValid (k : Nat) (i kind : Int) (t : ByteArray) (s r u : Int) (l : List Int) (a d : Int) (ht : t.size ≤ 9223372036854775807) (hk : t.size + 70 ≤ k) :
    copydeskref03_Valid.f k i kind t s r u l a d = some (m_valid i kind t s r u l a d) := by
  have hx : copydeskref03_IsText.f k t = some (m_text t) := rv_rText t ht t.size k 0 (by omega) (by omega)
  have hbad : copydeskref03_Valid.j0 k true i kind t s r u l a d = some false := by
    obtain ⟨k, rfl⟩ : ∃ i, k = i + 1 := ⟨k - 1, by omega⟩
    rw [copydeskref03_Valid.j0, if_pos rfl]
  unfold copydeskref03_Valid.f m_valid
  rw [hx, rv_rLabel u l a d k (by omega), Option.bind_some, Option.bind_some, hbad]
  by_cases c1 : i < 1
  · rw [if_pos c1, show decide (1 ≤ i) = false by simp; omega]; simp
  rw [if_neg c1, show decide (1 ≤ i) = true by simp; omega]
  by_cases c2 : i > 1000
  · rw [if_pos c2, show decide (i ≤ 1000) = false by simp; omega]; simp
  rw [if_neg c2, show decide (i ≤ 1000) = true by simp; omega]
  cases m_text t with
  | false => rw [if_neg (by simp)]; simp
  | true =>
    rw [if_pos rfl]
    cases m_label u l a d with
    | false => rw [show (!false) = true from rfl, hbad]; simp
    | true => rw [show (!true) = false from rfl, rv_rTail k i kind t s r u l a d ht (by omega)]; simp only [Bool.true_and, Bool.and_true]
def rv_ids (l : List Bl) (i : Nat) : List Int := ((l.take i).map (·.f0)).reverse
theorem rv_idsC (l : List Bl) (i : Nat) (v : Int) : (rv_ids l i).contains v = (l.take i).any (fun b => b.f0 == v) := by
  rw [Bool.eq_iff_iff, List.contains_iff_mem, List.any_eq_true]
  simp only [rv_ids, List.mem_reverse, List.mem_map, beq_iff_eq]
theorem rv_idsS (l : List Bl) (i : Nat) (h : i < l.length) : rv_ids l (i + 1) = l[i].f0 :: rv_ids l i := by
  rw [rv_ids, List.take_succ_eq_append_getElem h, List.map_append, List.reverse_append]; rfl
theorem rv_rInner (l : List Bl) (n : Nat) (hn : l.length ≤ 24) (i : Nat) (hi : i < l.length) (R : Bool) (H : ∀ k, n ≤ k → copydeskref03_ValidList.l0 k l ((i + 1 : Nat) : Int) = some R) : ∀ (d k j : Nat), j + d = i → n + d + 1 ≤ k →
    copydeskref03_ValidList.l1 k l (i : Int) (j : Int) = some (!((l.take i).drop j).any (fun b => b.f0 == l[i].f0) && R)
  | 0, k, j, hj, hk => by
    obtain ⟨k, rfl⟩ : ∃ i, k = i + 1 := ⟨k - 1, by omega⟩
    rw [copydeskref03_ValidList.l1, if_neg (by omega), rv_w i (by omega), H k (by omega), List.drop_eq_nil_of_le (by rw [List.length_take]; omega)]; rfl
  | d + 1, k, j, hj, hk => by
    obtain ⟨k, rfl⟩ : ∃ i, k = i + 1 := ⟨k - 1, by omega⟩
    have hjl : j < (l.take i).length := by rw [List.length_take]; omega
    have hg : (l.take i)[j] = l[j] := by rw [List.getElem_take]
    rw [copydeskref03_ValidList.l1, if_pos (by omega), if_pos (by omega), if_pos (by omega), if_pos (by omega), if_pos (by omega), pl_rdB l j (by omega), pl_rdB l i hi, rv_w j (by omega),
      rv_rInner l n hn i hi R H d k (j + 1) (by omega) (by omega), List.drop_eq_getElem_cons hjl, List.any_cons, hg]
    by_cases c : l[j].f0 = l[i].f0
    · rw [if_pos c, show (l[j].f0 == l[i].f0) = true by simpa using c]; rfl
    · rw [if_neg c, show (l[j].f0 == l[i].f0) = false by simpa using c, Bool.false_or]
theorem rv_rList (l : List Bl) (M : Nat) (hn : l.length ≤ 24) (hM : M ≤ 9223372036854775807) (ht : ∀ b ∈ l, b.f2.size ≤ M) : ∀ (d i k : Nat), i + d = l.length → M + 71 + d * 30 ≤ k →
    copydeskref03_ValidList.l0 k l (i : Int) = some (m_fresh (rv_ids l i) (l.drop i))
  | 0, i, k, hi, hk => by
    obtain ⟨k, rfl⟩ : ∃ i, k = i + 1 := ⟨k - 1, by omega⟩
    rw [copydeskref03_ValidList.l0, if_neg (by omega), List.drop_eq_nil_of_le (by omega)]; rfl
  | d + 1, i, k, hi, hk => by
    obtain ⟨k, rfl⟩ : ∃ i, k = i + 1 := ⟨k - 1, by omega⟩
    have hlt : i < l.length := by omega
    have hb := ht l[i] (List.getElem_mem hlt)
    have H : ∀ k, M + 71 + d * 30 ≤ k → copydeskref03_ValidList.l0 k l ((i + 1 : Nat) : Int) = some (m_fresh (rv_ids l (i + 1)) (l.drop (i + 1))) := fun k hk => rv_rList l M hn hM ht d (i + 1) k (by omega) hk
    rw [copydeskref03_ValidList.l0, if_pos (by omega), if_pos (by omega), pl_rdB l i hlt, rv_rValid k _ _ _ _ _ _ _ _ _ (by omega) (by omega), Option.bind_some, List.drop_eq_getElem_cons hlt, m_fresh, rv_idsC, ← rv_idsS l i hlt]
    show (if m_validB l[i] = true then _ else _) = _
    cases m_validB l[i] with
    | false => rw [if_neg (by simp)]; simp
    | true => exact (if_pos rfl).trans ((rv_rInner l (M + 71 + d * 30) hn i hlt _ H i k 0 (by omega) (by omega)).trans (by rw [List.drop_zero, Bool.and_true]))
theorem rv_rValidL (l : List Bl) (M : Nat) (hM : M ≤ 9223372036854775807) (ht : ∀ b ∈ l, b.f2.size ≤ M) (k : Nat) (hk : M + 1000 ≤ k) : copydeskref03_ValidList.f k l = some (m_validL l) := by
  unfold copydeskref03_ValidList.f m_validL
  by_cases c : (l.length : Int) > 24
  · rw [if_pos c, show decide (l.length ≤ 24) = false by simp; omega]; rfl
  · rw [if_neg c, show decide (l.length ≤ 24) = true by simp; omega]
    exact rv_rList l M (by omega) hM ht l.length 0 k (by omega) (by omega)
def copydeskref03_Decode.f (a0 : ByteArray) : Option (List (S26) × Int) := block_Decode.f a0
set_option maxHeartbeats 4000000 in
set_option maxRecDepth 100000 in
theorem copydeskref03_Decode.calls (a0 : ByteArray) (r1 : List (S26)) (r2 : Int) (w : World) (h : copydeskref03_Decode.f a0 = some (r1, r2)) :
    Calls Tryd.prog 30 #[.string a0] w fun e w' => ∃ v0_ : Value, e = .returned (.tuple #[v0_, .int .i64 r2]) ∧ Kd.S k26 26 w' w.heap.size (fun _ => True) v0_ r1 ∧ Below w.heap.size w w' := by
  unfold copydeskref03_Decode.f block_Decode.f at h
  obtain ⟨hs, hd⟩ : a0.size ≤ 1000000000 ∧ m_decode a0 = (r1, r2) := by
    split at h
    · exact ⟨by assumption, Option.some.inj h⟩
    · cases h
  clear h
  have HD := Aside0.mk hd
  clear hd
  go_enter Tryd.func30, Tryd.ntmps30
  go_wp2_with (with_reducible refine is_box rfl ?_; refine Rg.stop_here ?_)
  refine ⟨?_⟩
  refine box_event rfl (N := 11) rfl (cs := #[.string a0, .int .i64 0, .int .i64 0]) (t := 80) (by first | (go_simp; done) | (go_simp; rfl)) ?_
  intro r hr w1 hbx hb1
  have hrge : w.heap.size ≤ r := Nat.le_of_eq hr.symm
  have HRG := Aside0.mk hrge
  have HB1 := Aside0.mk hb1
  clear hr hrge hb1
  go_wp2_with (go_at_call 59; refine Rg.stop_here ?_)
  refine ⟨?_⟩
  refine (rr_count a0 0 0 r 24 w1 (Nat.zero_le _) hs hbx).mono ?_
  rintro en w2 ⟨n, j1, e1, rfl, hr2, hq2, hn0, hg2⟩
  have hn64 : n ≤ 1000 := by
    by_cases he : e1 = 0
    · subst he; exact rr_cntLe24 hq2
    · have := hn0 he; omega
  have hrw1 : r < w1.heap.size := blk_lt hbx
  have HQ := Aside0.mk hq2
  have HBX := Aside0.mk hbx
  clear hq2 hn0 hbx
  go_wp2_with fail
  go_loopw [5, 7] (fun p5 p7 wr => ∃ (k : Nat) (xs : List Bl) (j : Nat) (e' : Int), p7 = .int .i64 (k : Int) ∧ xs.length = k ∧ k ≤ n.toNat ∧ Kd.S k26 26 wr w1.heap.size (fun k => k ≠ r) p5 xs ∧ wr.heap[r]? = some (rr_in a0 j e') ∧ w1.grownBy wr (some r) ∧ j ≤ a0.size ∧
      (∀ ys j2 e2, bk_Post (rdN rdB (n.toNat - k)) a0 j e' ys j2 e2 → bk_Post (rdN rdB n.toNat) a0 j1 e1 (xs ++ ys) j2 e2))
    (fun _ p _ => n.toNat - (intOf p).toNat)
  case atStart => exact ⟨0, [], j1, e1, rfl, rfl, Nat.zero_le _, Kd.S_nil _ _ _ _ _, hr2, hg2, HQ.out.1, fun ys j2 e2 h => h⟩
  case round =>
    clear hr2 hg2
    obtain ⟨k, xs, j, e', rfl, rfl, hkn, hR, hr, hgw, hj, hP⟩ := hrel
    have HRR := Aside0.mk hR
    have HR2 := Aside0.mk hr
    have HG2 := Aside0.mk hgw
    have HPP := Aside0.mk hP
    have HJ := Aside0.mk hj
    have c2 : wr.cell? ⟨r, 2, none⟩ = some (.int .i64 e') := by unfold rr_in at hr; exact bk_cell hr 2
    obtain ⟨A6, c6, hv6⟩ := Kd.S_slice hR
    subst hv6
    clear hr hR hgw hP
    have hcase : ((xs.length : Int) < n ∧ e' = 0) ∨ (decide ((xs.length : Int) < n) = false) ∨ (decide ((xs.length : Int) < n) = true ∧ (e' == 0) = false) := by
      rw [decide_eq_false_iff_not, decide_eq_true_eq, beq_eq_false_iff_ne]; omega
    rcases hcase with ⟨hlt, rfl⟩ | hd | ⟨hd, hne⟩
    · have hd : decide ((xs.length : Int) < n) = true := decide_eq_true hlt
      go_wp2_with fail
      refine (rr_block a0 j 0 r _ hj hs HR2.out).mono ?_
      rintro en w5 ⟨x, vx, j5, e5, rfl, hvx, hr5, hp5, hg5⟩
      obtain ⟨Ax, cx, hve⟩ := Kd.R_slice hvx
      subst hve
      have HR5 := Aside0.mk hr5
      have HP5 := Aside0.mk hp5
      have hlt0 := Kd.S_lt HRR.out
      have hSS : Kd.S k26 26 w5 w1.heap.size (fun k => k ≠ r ∧ ¬ (wr.heap.size ≤ k ∧ k ≠ r ∧ k < w5.heap.size)) (.slice A6 xs.length c6) xs :=
        Kd.S_mono (Kd.S_grown (Kd.S_bound HRR.out) hg5 (fun k hk he => hk.1 (Option.some.inj he))) (fun k hk => ⟨hk.1, fun h => by have := hk.2.2.1; omega⟩)
      have hgw5 := bk_grown_trans HG2.out hg5
      have hrw : r < w5.heap.size := blk_lt hr5
      have hrne : some r ≠ (Value.slice A6 xs.length c6).ownBlock := Kd.S_ne hSS (show w5.heap[r]? = some (.cells _ 80 (0, 0)) from hr5) (by decide)
      have hM := k26_mkM w5 w1.heap.size (fun k => wr.heap.size ≤ k ∧ k ≠ r ∧ k < w5.heap.size) x (Kd.R_lower (Kd.R_mono (ok' := fun k => wr.heap.size ≤ k ∧ k ≠ r ∧ k < w5.heap.size) (Kd.R_bound hvx) (fun k hk => ⟨hk.2.1, hk.1, hk.2.2.1⟩)) HG2.out.size)
      have HM := Aside0.mk hM
      have HSS := Aside0.mk hSS
      have HGW5 := Aside0.mk hgw5
      have hbs := hgw5.size
      have hon : ∀ k, (wr.heap.size ≤ k ∧ k ≠ r ∧ k < w5.heap.size) → k ≠ r ∧ some k ≠ (Value.slice A6 xs.length c6).ownBlock := fun k hk => ⟨hk.2.1, fun h => by have := hlt0 k h.symm; omega⟩
      have HON := Aside0.mk hon
      clear hr5 hp5 hg5 hM hSS hgw5 hvx hlt0 hon
      unfold bk_cells
      go_wp2_with (at_builtin; refine Rg.stop_here ?_)
      refine ⟨?_⟩
      refine Kd.S_append k26 (w0 := w5) w1.heap.size rfl (.tmp 26) (.tmp 29) 27 26 _ 96 rfl Tryd.underlying27 bk_info26 rfl (by decide) (by omega) (.slice A6 xs.length c6) xs x _ (fun k => k ≠ r) (fun k => wr.heap.size ≤ k ∧ k ≠ r ∧ k < w5.heap.size) rfl rfl HM.out HON.out (fun k hk => by omega) HSS.out (Below.refl _ _) hbs (by omega) ?_
      intro v1 w6 hR6 hb6 hg6 _
      have hr6 := blk_grown HR5.out hg6 hrne
      obtain ⟨A7, c7, hv7⟩ := Kd.S_slice hR6
      subst hv7
      rw [List.length_append, List.length_singleton] at hR6
      go_wp2_with fail
      go_roundw
      case rel => exact ⟨xs.length + 1, xs ++ [x], j5, e5, by go_num, by simp, by omega, hR6, hr6, bk_grown_base HGW5.out hb6, HP5.out.1, fun ys j2 e2 h => by
        rw [List.append_assoc]
        refine HPP.out _ _ _ ?_
        rw [show n.toNat - xs.length = (n.toNat - (xs.length + 1)) + 1 by omega]
        exact bk_Post.bind (next := fun x l => rdBind (rdN rdB (n.toNat - (xs.length + 1))) (fun xs l => .ok (x :: xs, l)) l) HP5.out (bk_Post.bind (next := fun xs l => .ok (x :: xs, l)) h (bk_Post.pure _ _ _ _ h.1))⟩
      case measure => simp [intOf]; omega
    all_goals
      have hQQ : bk_Post (rdN rdB n.toNat) a0 j1 e1 xs j e' := by
        have := HPP.out [] j e' (by first | exact bk_Post.err hj (beq_eq_false_iff_ne.1 hne) | (rw [show n.toNat - xs.length = 0 by have := of_decide_eq_false hd; omega]; exact bk_Post.pure _ _ _ _ hj))
        rwa [List.append_nil] at this
      have hp := rr_list HQ.out hQQ
      clear hQQ
      have hg2 := HG2.out
      have hB2 : Below w.heap.size w wr := ⟨hg2.os.trans HB1.out.os, hg2.tape.trans HB1.out.tape, hg2.output.trans HB1.out.output, Nat.le_trans HB1.out.size hg2.size, fun i hi => (hg2.block i (Nat.lt_of_lt_of_le hi HB1.out.size) (fun h => by have h2 := Option.some.inj h; have := HRG.out; omega)).trans (HB1.out.block i hi)⟩
      have hS2 := Kd.S_mono (ok' := fun _ => True) (Kd.S_lower HRR.out HB1.out.size) (fun _ _ => trivial)
      obtain ⟨A, c, hv, hcl, hC⟩ := Kd.S_reads hS2
      obtain ⟨rfl, _, rfl⟩ : A6 = A ∧ xs.length = xs.length ∧ c6 = c := by injection hv with h1 h2 h3; exact ⟨h1, rfl, h3⟩
      have hr2 := HR2.out
      unfold rr_in at hr2
      have c1 : wr.cell? ⟨r, 1, none⟩ = some (.int .i64 (j : Int)) := bk_cell hr2 1
      obtain ⟨_, _, hp0⟩ := hp
      have hp1 := hp0 rfl
      rw [show bk_rest a0 0 = a0.data.toList from rfl] at hp1
      have HS2 := Aside0.mk hS2
      have HB2 := Aside0.mk hB2
      have HC := Aside0.mk hC
      clear hg2 hr2 hp0 hS2 hB2 hC hv
      cases hrd : rdL 24 rdB a0.data.toList with
      | error er =>
        rw [hrd] at hp1
        obtain ⟨rfl, hne2⟩ := hp1
        have hm := HD.out
        rw [pl_decode_err a0 _ hrd] at hm
        obtain ⟨rfl, rfl⟩ := Prod.mk.inj hm
        have hneb : (e' == 0) = false := by simpa using hne2
        clear hrd hm
        go_wp2
        go_quiet (fail)
        go_wp2
        go_ret2
        exact ⟨_, rfl, Kd.S_nil _ _ _ _ _, pw_below_drewN HB2.out _⟩
      | ok p =>
        obtain ⟨ys, rr⟩ := p
        rw [hrd] at hp1
        obtain ⟨rfl, rfl, rfl⟩ := hp1
        have hd' : decide ((xs.length : Int) < n) = false := by first | exact hd | exact absurd hne (by decide)
        clear hd
        try clear hne
        have hm := HD.out
        rw [pl_decode_ok a0 _ _ hrd] at hm
        have hsz : ∀ b ∈ xs, b.f2.size ≤ 65536 := fun b hb => by
          have := ((cd_list.only _ _ _ hrd).1.2 b hb).2.2.1
          rwa [Array.length_toList] at this
        clear hrd
        by_cases hlt : j < a0.size
        · rw [if_pos ((pl_rest_nil a0 j).2 hlt)] at hm
          obtain ⟨rfl, rfl⟩ := Prod.mk.inj hm
          have d1 : ((j : Int) == (a0.size : Int)) = false := by rw [beq_eq_false_iff_ne]; omega
          have d2 : ((j : Int) != (a0.size : Int)) = true := by rw [bne_iff_ne]; omega
          clear hm
          go_wp2
          go_ret2
          exact ⟨_, rfl, Kd.S_nil _ _ _ _ _, HB2.out⟩
        · rw [if_neg (fun h => hlt ((pl_rest_nil a0 j).1 h))] at hm
          have hje : j = a0.size := by have := HJ.out; omega
          have d1 : ((j : Int) == (a0.size : Int)) = true := by rw [beq_iff_eq]; omega
          have d2 : ((j : Int) != (a0.size : Int)) = false := by rw [hje]; simp
          have hvl := copydeskref03_ValidList.calls 70000 A6 c6 xs (m_validL xs) wr HC.out hcl (rv_rValidL xs 65536 (by omega) hsz 70000 (by omega))
          clear hje
          cases hv : m_validL xs with
          | false =>
            rw [hv] at hm hvl
            rw [if_neg (by decide)] at hm
            obtain ⟨rfl, rfl⟩ := Prod.mk.inj hm
            clear hm
            go_wp2_with (go_at_call 22; refine hvl.mono ?_; rintro e w3 ⟨rfl, hb3⟩)
            go_ret2
            exact ⟨_, rfl, Kd.S_nil _ _ _ _ _, below_step HB2.out hb3⟩
          | true =>
            rw [hv] at hm hvl
            rw [if_pos rfl] at hm
            obtain ⟨rfl, rfl⟩ := Prod.mk.inj hm
            clear hm
            go_wp2_with (go_at_call 22; refine hvl.mono ?_; rintro e w3 ⟨rfl, hb3⟩)
            go_ret2
            exact ⟨_, rfl, Kd.S_below HS2.out hb3, below_step HB2.out hb3⟩
end Go.Proofs.YtpgjhjlhipikgaaDoor.PK
end
section
namespace Go.Proofs.YtpgjhjlhipikgaaDoor.PK
open Go.RowKit Go.Proofs.YtpgjhjlhipikgaaDoorW.PrintWords Go.Proofs.YtpgjhjlhipikgaaDoorW.PrintLast Go.Proofs.YtpgjhjlhipikgaaDoorW.PrintMore
attribute [local go_sem] max2_int min2_int max_two min_two max_three min_three max_four min_four   -- for this text's walks alone
set_option linter.unusedVariables false
set_option linter.unusedSimpArgs false
def copydesklaw03_BlockDecodeMatchesReference.f (k : Nat) (a0 : ByteArray) : Option (Bool) := (copydesklaw03_sane.f).bind fun t244 => (if 0 ≤ (mn (a0.size : Int) 20000) then (if (mn (a0.size : Int) 20000) ≤ (a0.size : Int) then ((block_Decode.f (a0.extract 0 ((mn (a0.size : Int) 20000) : Int).toNat)).bind fun bt245 => ((copydeskref03_Decode.f (a0.extract 0 ((mn (a0.size : Int) 20000) : Int).toNat)).bind fun bt249 => (if t244 = true then (if bt245.2 = bt249.2 then ((copydeskref03_SameList.f k bt245.1 bt249.1).bind fun t253 => (some t253)) else (some false)) else (some false)))) else (none)) else (none))
theorem copydesklaw03_BlockDecodeMatchesReference.mono : ∀ a0 k, LeO (copydesklaw03_BlockDecodeMatchesReference.f k a0) (copydesklaw03_BlockDecodeMatchesReference.f (k + 1) a0) := by
  intro a0 k
  unfold copydesklaw03_BlockDecodeMatchesReference.f
  repeat' first
      | (with_reducible exact copydeskref03_SameList.mono _ _ _)
      | (with_reducible exact LeO.refl _)
      | (with_reducible exact LeO.none _)
      | (with_reducible refine LeO.ite ?_ ?_)
      | (with_reducible refine LeO.bind ?_ (fun _ => ?_))
      | exact copydeskref03_SameList.mono _ _ _
      | exact LeO.none _
      | refine LeO.ite ?_ ?_
      | refine LeO.bind ?_ (fun _ => ?_)
set_option maxHeartbeats 8000000 in
set_option maxRecDepth 100000 in
theorem copydesklaw03_BlockDecodeMatchesReference.calls (k : Nat) (a0 : ByteArray) (r : Bool) (w : World) (h : copydesklaw03_BlockDecodeMatchesReference.f k a0 = some r) :
    Calls Tryd.prog 6 #[.string a0] w fun e w' => e = .returned (.bool r) ∧ Below w.heap.size w w' := by
  have HB := Aside0.mk (Below.refl w.heap.size w)
  have H : ((copydesklaw03_sane.f).bind fun t244 => (if 0 ≤ (mn (a0.size : Int) 20000) then (if (mn (a0.size : Int) 20000) ≤ (a0.size : Int) then ((block_Decode.f (a0.extract 0 ((mn (a0.size : Int) 20000) : Int).toNat)).bind fun bt245 => ((copydeskref03_Decode.f (a0.extract 0 ((mn (a0.size : Int) 20000) : Int).toNat)).bind fun bt249 => (if t244 = true then (if bt245.2 = bt249.2 then ((copydeskref03_SameList.f k bt245.1 bt249.1).bind fun t253 => (some t253)) else (some false)) else (some false)))) else (none)) else (none))) = some r := h
  clear h
  replace H := Option.bind_eq_some_iff.mp H
  obtain ⟨t244, A20, H⟩ := H
  replace H : (if 0 ≤ (mn (a0.size : Int) 20000) then (if (mn (a0.size : Int) 20000) ≤ (a0.size : Int) then ((block_Decode.f (a0.extract 0 ((mn (a0.size : Int) 20000) : Int).toNat)).bind fun bt245 => ((copydeskref03_Decode.f (a0.extract 0 ((mn (a0.size : Int) 20000) : Int).toNat)).bind fun bt249 => (if t244 = true then (if bt245.2 = bt249.2 then ((copydeskref03_SameList.f k bt245.1 bt249.1).bind fun t253 => (some t253)) else (some false)) else (some false)))) else (none)) else (none)) = some r := H
  have A2 := Aside0.mk A20
  clear A20
  obtain ⟨ji3, hji3⟩ : ∃ j_ : Int, (mn (a0.size : Int) 20000) = j_ := ⟨_, rfl⟩
  replace H : (if 0 ≤ (ji3) then (if (ji3) ≤ (a0.size : Int) then ((block_Decode.f (a0.extract 0 ((ji3) : Int).toNat)).bind fun bt245 => ((copydeskref03_Decode.f (a0.extract 0 ((ji3) : Int).toNat)).bind fun bt249 => (if t244 = true then (if bt245.2 = bt249.2 then ((copydeskref03_SameList.f k bt245.1 bt249.1).bind fun t253 => (some t253)) else (some false)) else (some false)))) else (none)) else (none)) = some r := by first | (rw [hji3] at H; exact H) | (simp only [hji3] at H ⊢; exact H)
  (try rw [hji3] at A2)
  (try (have hji3h : ji3 ≤ 20000 := by (rw [← hji3]; unfold mn; (repeat' split) <;> omega)))
  (try (have hji3g : ji3 ≤ 64 := by omega))
  (try (have hji3l : 0 ≤ ji3 := by (rw [← hji3]; unfold mn; (repeat' split) <;> omega)))
  (try (have hji3m : 0 ≤ ji3 := by omega))
  have hji3_ : (if 20000 < (a0.size : Int) then 20000 else (a0.size : Int)) = ji3 := hji3
  by_cases c4 : 0 ≤ (ji3)
  · rw [if_pos c4] at H
    have c4b0 := eq_true c4
    have c4b1 : decide (0 ≤ (ji3)) = true := decide_eq_true c4
    clear c4
    by_cases c5 : (ji3) ≤ (a0.size : Int)
    · rw [if_pos c5] at H
      have c5b0 := eq_true c5
      have c5b1 : decide ((ji3) ≤ (a0.size : Int)) = true := decide_eq_true c5
      clear c5
      replace H := Option.bind_eq_some_iff.mp H
      obtain ⟨⟨t245, t246⟩, A60, H⟩ := H
      replace H : ((copydeskref03_Decode.f (a0.extract 0 ((ji3) : Int).toNat)).bind fun bt249 => (if t244 = true then (if t246 = bt249.2 then ((copydeskref03_SameList.f k t245 bt249.1).bind fun t253 => (some t253)) else (some false)) else (some false))) = some r := H
      have A6 := Aside0.mk A60
      clear A60
      replace H := Option.bind_eq_some_iff.mp H
      obtain ⟨⟨t249, t250⟩, A70, H⟩ := H
      replace H : (if t244 = true then (if t246 = t250 then ((copydeskref03_SameList.f k t245 t249).bind fun t253 => (some t253)) else (some false)) else (some false)) = some r := H
      have A7 := Aside0.mk A70
      clear A70
      by_cases c8 : t244 = true
      · subst c8
        have H1 : (if t246 = t250 then ((copydeskref03_SameList.f k t245 t249).bind fun t253 => (some t253)) else (some false)) = some r := by rw [if_pos rfl] at H; exact H
        clear H
        have H := H1
        clear H1
        by_cases c9 : t246 = t250
        · rw [if_pos c9] at H
          have c9b0 : (t246 == t250) = true := beq_iff_eq.mpr c9
          have c9b1 : (t246 != t250) = false := bne_eq_false_iff_eq.mpr c9
          clear c9
          replace H := Option.bind_eq_some_iff.mp H
          obtain ⟨t253, A100, H⟩ := H
          replace H : (some t253) = some r := H
          have A10 := Aside0.mk A100
          clear A100
          obtain rfl := Option.some.inj H
          go_enter Tryd.func6, Tryd.ntmps6
          go_wp2_with (first | ((with_reducible refine gate_callee (f := 17) rfl ?_); refine goesL_ (some 8) rfl rfl Tryd.func17 (by kernel_rfl) rfl #[] rfl (by (try simp only [List.map_toArray, List.map_cons, List.map_nil]); first | done | rfl | (simp only [List.length_drop, List.length_take]; rfl)) ?_; (with_reducible refine (copydesklaw03_sane.calls  true _ A2.out).mono ?_); rintro e w11 ⟨rfl, hb⟩; refine ⟨_, rfl, ?_⟩; have n0_ := Aside0.mk (below_step (by repeat (first | (with_reducible first | exact HB.out | apply below_alloc | apply pw_below_drewN | apply below_drew1) | exact HB.out)) hb); clear HB; have HB := n0_; clear n0_; (try clear hb); (try clear hb2); (try clear hk); (try clear hi)) | ((with_reducible refine gate_callee (f := 29) rfl ?_); refine goesL_ (some 16) rfl rfl Tryd.func29 (by kernel_rfl) rfl #[.string (a0.extract 0 ((ji3) : Int).toNat)] rfl (by (try simp only [List.map_toArray, List.map_cons, List.map_nil]); first | done | (simp only [hji3]; rfl) | rfl | (simp only [List.length_drop, List.length_take]; rfl)) ?_; (with_reducible refine (block_Decode.calls (a0.extract 0 ((ji3) : Int).toNat) t245 t246 _ A6.out).mono ?_); rintro e w12 ⟨v247, rfl, ho0, hb⟩; refine ⟨_, rfl, ?_⟩; have n0_ := Aside0.mk (Kd.S_lower ho0 (below_size (by repeat (first | (with_reducible first | exact HB.out | apply below_alloc | apply pw_below_drewN | apply below_drew1) | exact HB.out)))); have n1_ := Aside0.mk (below_step (by repeat (first | (with_reducible first | exact HB.out | apply below_alloc | apply pw_below_drewN | apply below_drew1) | exact HB.out)) hb); clear HB; have HO248 := n0_; have HB := n1_; clear n0_ n1_; (try clear hb); (try clear hb2); (try clear hk); (try clear hi); (try clear ho0)) | ((with_reducible refine gate_callee (f := 30) rfl ?_); refine goesL_ (some 21) rfl rfl Tryd.func30 (by kernel_rfl) rfl #[.string (a0.extract 0 ((ji3) : Int).toNat)] rfl (by (try simp only [List.map_toArray, List.map_cons, List.map_nil]); first | done | (simp only [hji3]; rfl) | rfl | (simp only [List.length_drop, List.length_take]; rfl)) ?_; (with_reducible refine (copydeskref03_Decode.calls (a0.extract 0 ((ji3) : Int).toNat) t249 t250 _ A7.out).mono ?_); rintro e w13 ⟨v251, rfl, ho0, hb⟩; refine ⟨_, rfl, ?_⟩; have n0_ := Aside0.mk (Kd.S_elder' (by (with_reducible repeat (first | apply Kd.S_alloc | apply Kd.S_drewN | apply Kd.S_drew)); exact HO248.out) (Kd.S_base ho0) hb); have n1_ := Aside0.mk (Kd.S_lower (Kd.S_new' ho0 (Kd.S_lt (by (with_reducible repeat (first | apply Kd.S_alloc | apply Kd.S_drewN | apply Kd.S_drew)); exact HO248.out))) (below_size (by repeat (first | (with_reducible first | exact HB.out | apply below_alloc | apply pw_below_drewN | apply below_drew1) | exact HB.out)))); have n2_ := Aside0.mk (below_step (by repeat (first | (with_reducible first | exact HB.out | apply below_alloc | apply pw_below_drewN | apply below_drew1) | exact HB.out)) hb); clear HO248; clear HB; have HO248 := n0_; have HO252 := n1_; have HB := n2_; clear n0_ n1_ n2_; (try clear hb); (try clear hb2); (try clear hk); (try clear hi); (try clear ho0); obtain ⟨Ao14, co14, eo14⟩ := Kd.S_slice HO248.out; subst eo14; obtain ⟨Ao15, co15, eo15⟩ := Kd.S_slice HO252.out; subst eo15) | (go_at_call 26; (with_reducible refine (copydeskref03_SameList.calls k _ _ t245 _ _ t249 t253 _ ?side1 ?side2 ?side3 ?side4 A10.out).mono ?_); (case side1 => repeat (first | exact (Kd.S_reads' HO248.out).2.2 | (with_reducible refine Kd.C_alloc ?_ _) | (with_reducible refine Kd.C_drewN ?_ _) | (with_reducible refine Kd.C_drew ?_))); (case side2 => exact (Kd.S_reads' HO248.out).2.1); (case side3 => repeat (first | exact (Kd.S_reads' HO252.out).2.2 | (with_reducible refine Kd.C_alloc ?_ _) | (with_reducible refine Kd.C_drewN ?_ _) | (with_reducible refine Kd.C_drew ?_))); (case side4 => exact (Kd.S_reads' HO252.out).2.1); rintro e w16 ⟨rfl, hb⟩; have n0_ := Aside0.mk (Kd.S_below (by (with_reducible repeat (first | apply Kd.S_alloc | apply Kd.S_drewN | apply Kd.S_drew)); exact HO248.out) hb); have n1_ := Aside0.mk (Kd.S_below (by (with_reducible repeat (first | apply Kd.S_alloc | apply Kd.S_drewN | apply Kd.S_drew)); exact HO252.out) hb); have n2_ := Aside0.mk (below_step (by repeat (first | (with_reducible first | exact HB.out | apply below_alloc | apply pw_below_drewN | apply below_drew1) | exact HB.out)) hb); clear HO248; clear HO252; clear HB; have HO248 := n0_; have HO252 := n1_; have HB := n2_; clear n0_ n1_ n2_; (try clear hb); (try clear hb2); (try clear hk); (try clear hi)))
          go_ret
          exact ⟨by first | rfl | (simp [errW_none, errW_some] <;> rfl) | (simp only [← hji3]; first | rfl | (simp [errW_none, errW_some] <;> rfl)) | (simp [*, errW_none, errW_some] <;> rfl), by repeat (first | (with_reducible first | exact HB.out | apply below_alloc | apply pw_below_drewN | apply below_drew1) | exact HB.out)⟩
        · rw [if_neg c9] at H
          have c9b0 : (t246 == t250) = false := beq_eq_false_iff_ne.mpr c9
          have c9b1 : (t246 != t250) = true := bne_iff_ne.mpr c9
          obtain rfl := Option.some.inj H
          go_enter Tryd.func6, Tryd.ntmps6
          go_wp2_with (first | ((with_reducible refine gate_callee (f := 17) rfl ?_); refine goesL_ (some 8) rfl rfl Tryd.func17 (by kernel_rfl) rfl #[] rfl (by (try simp only [List.map_toArray, List.map_cons, List.map_nil]); first | done | rfl | (simp only [List.length_drop, List.length_take]; rfl)) ?_; (with_reducible refine (copydesklaw03_sane.calls  true _ A2.out).mono ?_); rintro e w17 ⟨rfl, hb⟩; refine ⟨_, rfl, ?_⟩; have n0_ := Aside0.mk (below_step (by repeat (first | (with_reducible first | exact HB.out | apply below_alloc | apply pw_below_drewN | apply below_drew1) | exact HB.out)) hb); clear HB; have HB := n0_; clear n0_; (try clear hb); (try clear hb2); (try clear hk); (try clear hi)) | ((with_reducible refine gate_callee (f := 29) rfl ?_); refine goesL_ (some 16) rfl rfl Tryd.func29 (by kernel_rfl) rfl #[.string (a0.extract 0 ((ji3) : Int).toNat)] rfl (by (try simp only [List.map_toArray, List.map_cons, List.map_nil]); first | done | (simp only [hji3]; rfl) | rfl | (simp only [List.length_drop, List.length_take]; rfl)) ?_; (with_reducible refine (block_Decode.calls (a0.extract 0 ((ji3) : Int).toNat) t245 t246 _ A6.out).mono ?_); rintro e w18 ⟨v247, rfl, ho0, hb⟩; refine ⟨_, rfl, ?_⟩; have n0_ := Aside0.mk (Kd.S_lower ho0 (below_size (by repeat (first | (with_reducible first | exact HB.out | apply below_alloc | apply pw_below_drewN | apply below_drew1) | exact HB.out)))); have n1_ := Aside0.mk (below_step (by repeat (first | (with_reducible first | exact HB.out | apply below_alloc | apply pw_below_drewN | apply below_drew1) | exact HB.out)) hb); clear HB; have HO248 := n0_; have HB := n1_; clear n0_ n1_; (try clear hb); (try clear hb2); (try clear hk); (try clear hi); (try clear ho0)) | ((with_reducible refine gate_callee (f := 30) rfl ?_); refine goesL_ (some 21) rfl rfl Tryd.func30 (by kernel_rfl) rfl #[.string (a0.extract 0 ((ji3) : Int).toNat)] rfl (by (try simp only [List.map_toArray, List.map_cons, List.map_nil]); first | done | (simp only [hji3]; rfl) | rfl | (simp only [List.length_drop, List.length_take]; rfl)) ?_; (with_reducible refine (copydeskref03_Decode.calls (a0.extract 0 ((ji3) : Int).toNat) t249 t250 _ A7.out).mono ?_); rintro e w19 ⟨v251, rfl, ho0, hb⟩; refine ⟨_, rfl, ?_⟩; have n0_ := Aside0.mk (Kd.S_elder' (by (with_reducible repeat (first | apply Kd.S_alloc | apply Kd.S_drewN | apply Kd.S_drew)); exact HO248.out) (Kd.S_base ho0) hb); have n1_ := Aside0.mk (Kd.S_lower (Kd.S_new' ho0 (Kd.S_lt (by (with_reducible repeat (first | apply Kd.S_alloc | apply Kd.S_drewN | apply Kd.S_drew)); exact HO248.out))) (below_size (by repeat (first | (with_reducible first | exact HB.out | apply below_alloc | apply pw_below_drewN | apply below_drew1) | exact HB.out)))); have n2_ := Aside0.mk (below_step (by repeat (first | (with_reducible first | exact HB.out | apply below_alloc | apply pw_below_drewN | apply below_drew1) | exact HB.out)) hb); clear HO248; clear HB; have HO248 := n0_; have HO252 := n1_; have HB := n2_; clear n0_ n1_ n2_; (try clear hb); (try clear hb2); (try clear hk); (try clear hi); (try clear ho0)))
          go_ret
          exact ⟨by first | rfl | (simp [errW_none, errW_some] <;> rfl) | (simp only [← hji3]; first | rfl | (simp [errW_none, errW_some] <;> rfl)) | (simp [*, errW_none, errW_some] <;> rfl), by repeat (first | (with_reducible first | exact HB.out | apply below_alloc | apply pw_below_drewN | apply below_drew1) | exact HB.out)⟩
      · replace c8 := Bool.eq_false_iff.mpr c8
        subst c8
        have H1 : (some false) = some r := by rw [if_neg (show ¬ (false = true) by decide)] at H; exact H
        clear H
        have H := H1
        clear H1
        obtain rfl := Option.some.inj H
        go_enter Tryd.func6, Tryd.ntmps6
        go_wp2_with (first | ((with_reducible refine gate_callee (f := 17) rfl ?_); refine goesL_ (some 8) rfl rfl Tryd.func17 (by kernel_rfl) rfl #[] rfl (by (try simp only [List.map_toArray, List.map_cons, List.map_nil]); first | done | rfl | (simp only [List.length_drop, List.length_take]; rfl)) ?_; (with_reducible refine (copydesklaw03_sane.calls  false _ A2.out).mono ?_); rintro e w20 ⟨rfl, hb⟩; refine ⟨_, rfl, ?_⟩; have n0_ := Aside0.mk (below_step (by repeat (first | (with_reducible first | exact HB.out | apply below_alloc | apply pw_below_drewN | apply below_drew1) | exact HB.out)) hb); clear HB; have HB := n0_; clear n0_; (try clear hb); (try clear hb2); (try clear hk); (try clear hi)) | ((with_reducible refine gate_callee (f := 29) rfl ?_); refine goesL_ (some 16) rfl rfl Tryd.func29 (by kernel_rfl) rfl #[.string (a0.extract 0 ((ji3) : Int).toNat)] rfl (by (try simp only [List.map_toArray, List.map_cons, List.map_nil]); first | done | (simp only [hji3]; rfl) | rfl | (simp only [List.length_drop, List.length_take]; rfl)) ?_; (with_reducible refine (block_Decode.calls (a0.extract 0 ((ji3) : Int).toNat) t245 t246 _ A6.out).mono ?_); rintro e w21 ⟨v247, rfl, ho0, hb⟩; refine ⟨_, rfl, ?_⟩; have n0_ := Aside0.mk (Kd.S_lower ho0 (below_size (by repeat (first | (with_reducible first | exact HB.out | apply below_alloc | apply pw_below_drewN | apply below_drew1) | exact HB.out)))); have n1_ := Aside0.mk (below_step (by repeat (first | (with_reducible first | exact HB.out | apply below_alloc | apply pw_below_drewN | apply below_drew1) | exact HB.out)) hb); clear HB; have HO248 := n0_; have HB := n1_; clear n0_ n1_; (try clear hb); (try clear hb2); (try clear hk); (try clear hi); (try clear ho0)) | ((with_reducible refine gate_callee (f := 30) rfl ?_); refine goesL_ (some 21) rfl rfl Tryd.func30 (by kernel_rfl) rfl #[.string (a0.extract 0 ((ji3) : Int).toNat)] rfl (by (try simp only [List.map_toArray, List.map_cons, List.map_nil]); first | done | (simp only [hji3]; rfl) | rfl | (simp only [List.length_drop, List.length_take]; rfl)) ?_; (with_reducible refine (copydeskref03_Decode.calls (a0.extract 0 ((ji3) : Int).toNat) t249 t250 _ A7.out).mono ?_); rintro e w22 ⟨v251, rfl, ho0, hb⟩; refine ⟨_, rfl, ?_⟩; have n0_ := Aside0.mk (Kd.S_elder' (by (with_reducible repeat (first | apply Kd.S_alloc | apply Kd.S_drewN | apply Kd.S_drew)); exact HO248.out) (Kd.S_base ho0) hb); have n1_ := Aside0.mk (Kd.S_lower (Kd.S_new' ho0 (Kd.S_lt (by (with_reducible repeat (first | apply Kd.S_alloc | apply Kd.S_drewN | apply Kd.S_drew)); exact HO248.out))) (below_size (by repeat (first | (with_reducible first | exact HB.out | apply below_alloc | apply pw_below_drewN | apply below_drew1) | exact HB.out)))); have n2_ := Aside0.mk (below_step (by repeat (first | (with_reducible first | exact HB.out | apply below_alloc | apply pw_below_drewN | apply below_drew1) | exact HB.out)) hb); clear HO248; clear HB; have HO248 := n0_; have HO252 := n1_; have HB := n2_; clear n0_ n1_ n2_; (try clear hb); (try clear hb2); (try clear hk); (try clear hi); (try clear ho0)))
        go_ret
        exact ⟨by first | rfl | (simp [errW_none, errW_some] <;> rfl) | (simp only [← hji3]; first | rfl | (simp [errW_none, errW_some] <;> rfl)) | (simp [*, errW_none, errW_some] <;> rfl), by repeat (first | (with_reducible first | exact HB.out | apply below_alloc | apply pw_below_drewN | apply below_drew1) | exact HB.out)⟩
    · rw [if_neg c5] at H
      exact absurd H (by simp)
  · rw [if_neg c4] at H
    exact absurd H (by simp)
def copydesklaw03_BlockDecodeMatchesReference.Pure : Prop := ∀ (a0 : ByteArray), a0.size ≤ 140737488351232 → ∃ k, copydesklaw03_BlockDecodeMatchesReference.f k a0 = some true
theorem copydesklaw03_BlockDecodeMatchesReference.walk (P : copydesklaw03_BlockDecodeMatchesReference.Pure) (a0 : ByteArray) (w : World) (w0 : a0.size ≤ 140737488351232) :
    Calls Tryd.prog 6 #[.string a0] w fun e w' => e = .returned (.bool true) ∧ Below w.heap.size w w' := by
  obtain ⟨k, h⟩ := P a0 w0
  refine (copydesklaw03_BlockDecodeMatchesReference.calls k a0 true w h).mono ?_
  rintro e w' ⟨rfl, hd⟩
  exact ⟨rfl, hd⟩
end Go.Proofs.YtpgjhjlhipikgaaDoor.PK
end
section
set_option linter.unusedVariables false
set_option linter.unusedSimpArgs false
namespace Go.Proofs.YtpgjhjlhipikgaaDoor.Pure
open Go.RowKit Go.Proofs.YtpgjhjlhipikgaaDoor.PK Go.Proofs.YtpgjhjlhipikgaaDoorW.PrintWords Go.Proofs.YtpgjhjlhipikgaaDoorW.PrintLast
theorem rs_rdn (l : List Int) (x : Nat) (h : x < l.length) : rd l (x : Int) = l[x] := by
  simp [rd, List.getD_eq_getElem?_getD, h]
theorem rs_rdT (l : List Bl) (j : Nat) (h : j < l.length) : rd_T26 l (j : Int) = l[j] := by
  simp [rd_T26, List.getD_eq_getElem?_getD, h]
theorem rs_labGo (u a d u' a' d' : Int) (l l' : List Int) (hab : l.length = l'.length) (hl : l.length ≤ 9223372036854775807) : ∀ (n k x : Nat), x + n = l.length → n < k →
    copydeskref02_Same.l0 k (x : Int) u l a d u' l' a' d' = some (decide (l.drop x = l'.drop x) && (decide (u = u') && decide (a = a') && decide (d = d')))
  | 0, k, x, hx, hk => by
    obtain ⟨k, rfl⟩ : ∃ j, k = j + 1 := ⟨k - 1, by omega⟩
    rw [copydeskref02_Same.l0, if_neg (by omega), List.drop_eq_nil_of_le (by omega), List.drop_eq_nil_of_le (by omega)]
    by_cases h1 : u = u'
    · by_cases h2 : a = a'
      · rw [if_pos h1, if_pos h2]; simp [h1, h2]; by_cases h3 : d = d' <;> simp [h3]
      · rw [if_pos h1, if_neg h2]; simp [h2]
    · rw [if_neg h1]; simp [h1]
  | n + 1, k, x, hx, hk => by
    obtain ⟨k, rfl⟩ : ∃ j, k = j + 1 := ⟨k - 1, by omega⟩
    have hlt : x < l.length := by omega
    have hlt2 : x < l'.length := by omega
    have hw : wrap64 ((x : Int) + 1) = ((x + 1 : Nat) : Int) := by unfold wrap64; omega
    rw [copydeskref02_Same.l0, if_pos (by omega), if_pos (by omega), if_pos (by omega), rs_rdn l x hlt, rs_rdn l' x hlt2, hw, rs_labGo u a d u' a' d' l l' hab hl n k (x + 1) (by omega) (by omega), List.drop_eq_getElem_cons hlt, List.drop_eq_getElem_cons hlt2]
    by_cases h : l[x] = l'[x]
    · rw [if_pos h]
      have e : decide (l.drop (x + 1) = l'.drop (x + 1)) = decide (l[x] :: l.drop (x + 1) = l'[x] :: l'.drop (x + 1)) := decide_eq_decide.2 ⟨fun e => by rw [h, e], fun e => (List.cons.inj e).2⟩
      rw [e]
    · rw [if_neg h, decide_eq_false (fun e => h (List.cons.inj e).1)]; rfl
theorem rs_lab (u a d u' a' d' : Int) (l l' : List Int) (hl : l.length ≤ 9223372036854775807) (k : Nat) (hk : l.length < k) :
    copydeskref02_Same.f k u l a d u' l' a' d' = some (decide (u = u') && decide (l = l') && decide (a = a') && decide (d = d')) := by
  unfold copydeskref02_Same.f
  by_cases h : l.length = l'.length
  · rw [if_pos (by omega)]
    have := rs_labGo u a d u' a' d' l l' h hl l.length k 0 (by omega) hk
    rw [List.drop_zero, List.drop_zero] at this
    refine this.trans ?_
    cases decide (u = u') <;> cases decide (l = l') <;> rfl
  · rw [if_neg (by omega), decide_eq_false (fun e : l = l' => h (by rw [e]))]; simp
theorem rs_same (x y : Bl) (hl : x.f5.f1.length ≤ 9223372036854775807) (k : Nat) (hk : x.f5.f1.length < k) :
    copydeskref03_Same.f k x.f0 x.f1 x.f2 x.f3 x.f4 x.f5.f0 x.f5.f1 x.f5.f2 x.f5.f3 y.f0 y.f1 y.f2 y.f3 y.f4 y.f5.f0 y.f5.f1 y.f5.f2 y.f5.f3 = some (m_same x y) := by
  unfold copydeskref03_Same.f m_same
  rw [rs_lab _ _ _ _ _ _ _ _ hl k hk]
  simp only [ByteArray.toList_eq, Option.bind_some]
  by_cases h1 : x.f0 = y.f0 <;> by_cases h2 : x.f1 = y.f1 <;> by_cases h3 : x.f2.data.toList = y.f2.data.toList <;> by_cases h4 : x.f3 = y.f3 <;> by_cases h5 : x.f4 = y.f4 <;> simp [h1, h2, h3, h4, h5, Bool.and_assoc]
theorem rs_sameGo (a b : List Bl) (hab : a.length = b.length) (hl : a.length ≤ 9223372036854775807) (M : Nat) (hM : M ≤ 9223372036854775807) (ha : ∀ x ∈ a, x.f5.f1.length ≤ M) : ∀ (d k x : Nat), x + d = a.length → d + M + 1 < k →
    copydeskref03_SameList.l0 k a b (x : Int) = some (m_sameL (a.drop x) (b.drop x))
  | 0, k, x, hx, hk => by
    obtain ⟨k, rfl⟩ : ∃ j, k = j + 1 := ⟨k - 1, by omega⟩
    rw [copydeskref03_SameList.l0, if_neg (by omega), List.drop_eq_nil_of_le (by omega), List.drop_eq_nil_of_le (by omega)]; rfl
  | d + 1, k, x, hx, hk => by
    obtain ⟨k, rfl⟩ : ∃ j, k = j + 1 := ⟨k - 1, by omega⟩
    have hlt : x < a.length := by omega
    have hlt2 : x < b.length := by omega
    have hw : wrap64 ((x : Int) + 1) = ((x + 1 : Nat) : Int) := by unfold wrap64; omega
    have hx1 := ha a[x] (List.getElem_mem hlt)
    rw [copydeskref03_SameList.l0, if_pos (by omega), if_pos (by omega), if_pos (by omega), rs_rdT a x hlt, rs_rdT b x hlt2, rs_same a[x] b[x] (by omega) k (by omega), hw, rs_sameGo a b hab hl M hM ha d k (x + 1) (by omega) (by omega), List.drop_eq_getElem_cons hlt, List.drop_eq_getElem_cons hlt2, m_sameL]
    cases m_same a[x] b[x] <;> rfl
theorem rs_sameL (a b : List Bl) (hl : a.length ≤ 9223372036854775807) (M : Nat) (hM : M ≤ 9223372036854775807) (ha : ∀ x ∈ a, x.f5.f1.length ≤ M) (k : Nat) (hk : a.length + M + 1 < k) : copydeskref03_SameList.f k a b = some (m_sameL a b) := by
  unfold copydeskref03_SameList.f
  by_cases h : a.length = b.length
  · rw [if_pos (by omega)]
    have := rs_sameGo a b h hl M hM ha a.length k 0 (by omega) hk
    simp only [List.drop_zero] at this
    exact this
  · rw [if_neg (by omega), pl_sameL_len a b h]
theorem rs_refl (b : Bl) : m_same b b = true := by simp [m_same]
theorem rs_reflL : ∀ l : List Bl, m_sameL l l = true
  | [] => rfl
  | b :: l => by rw [m_sameL, rs_refl, rs_reflL l]; rfl
theorem pl_cut (a0 : ByteArray) (m : Int) (hm : 0 ≤ m) : 0 ≤ mn (a0.size : Int) m ∧ mn (a0.size : Int) m ≤ (a0.size : Int) ∧ (a0.extract 0 (mn (a0.size : Int) m).toNat).size ≤ m.toNat := by
  rw [show mn (a0.size : Int) m = if m < (a0.size : Int) then m else (a0.size : Int) from rfl]
  refine ⟨by split <;> omega, by split <;> omega, ?_⟩
  rw [ByteArray.size_extract]
  split <;> omega
theorem BlockDecodeMatchesReference : copydesklaw03_BlockDecodeMatchesReference.Pure := by
  intro a0 _
  refine ⟨100, ?_⟩
  obtain ⟨h1, h2, h3⟩ := pl_cut a0 20000 (by omega)
  unfold copydesklaw03_BlockDecodeMatchesReference.f copydesklaw03_sane.f
  rw [Option.bind_some, if_pos h1, if_pos h2]
  generalize a0.extract 0 (mn (a0.size : Int) 20000).toNat = s at h3 ⊢
  obtain ⟨l, e⟩ : ∃ l, m_decode s = l := ⟨_, rfl⟩
  obtain ⟨l, er⟩ := l
  have hd : block_Decode.f s = some (l, er) := by unfold block_Decode.f; rw [if_pos (by omega), e]
  have hr : copydeskref03_Decode.f s = some (l, er) := hd
  rw [hd, hr, Option.bind_some, Option.bind_some, if_pos rfl, if_pos rfl]
  have hl : l.length ≤ 24 ∧ ∀ x ∈ l, x.f5.f1.length ≤ 64 := by
    rcases cd_decoded s l er e with ⟨rfl, hv, he⟩ | ⟨rfl, _⟩
    · exact ⟨(cd_validL_ok l hv).1, fun x hx => ((cd_validL_ok l hv).2 x hx).2.2.2.2.2.2.1.1⟩
    · exact ⟨by simp, fun x hx => by cases hx⟩
  dsimp only
  rw [rs_sameL l l (by omega) 64 (by omega) hl.2 100 (by omega), rs_reflL]; rfl
end Go.Proofs.YtpgjhjlhipikgaaDoor.Pure
end
