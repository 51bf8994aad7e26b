/- Texts of this claim, one behind the other. -/
import Derived.Test.YtpgjhjlhipikgaaDoorMDx3
import Derived.Test.YtpgjhjlhipikgaaDoorMDx6
import Derived.Test.YtpgjhjlhipikgaaDoorMDx7
import Derived.Test.YtpgjhjlhipikgaaDoorMDx9
import Derived.Test.YtpgjhjlhipikgaaDoorMGx1
import Derived.Test.YtpgjhjlhipikgaaDoorMGx2
import Derived.Test.YtpgjhjlhipikgaaDoorMDx4
import Derived.Deep.RegionHeld3
import Derived.ProofKit
import Derived.OpenShut
import Derived.DataElems
import Derived.Deep.Slices
section
namespace Go.Proofs.YtpgjhjlhipikgaaDoor.PK
open Go.RowKit Go.Proofs.YtpgjhjlhipikgaaDoorW.PrintWords Go.Proofs.YtpgjhjlhipikgaaDoorW.PrintLast Go.Proofs.YtpgjhjlhipikgaaDoorW.PrintMore
attribute [local go_sem] max2_int min2_int max_two min_two max_three min_three max_four min_four   -- for this text's walks alone
set_option linter.unusedVariables false
set_option linter.unusedSimpArgs false
theorem rs_rdn (l : List Int) (x : Nat) (h : x < l.length) : rd l (x : Int) = l[x] := by
  simp [rd, List.getD_eq_getElem?_getD, h]
theorem rs_rdT (l : List Bl) (j : Nat) (h : j < l.length) : rd_T26 l (j : Int) = l[j] := by
  simp [rd_T26, List.getD_eq_getElem?_getD, h]
theorem rs_labGo (u a d u' a' d' : Int) (l l' : List Int) (hab : l.length = l'.length) (hl : l.length ≤ 9223372036854775807) : ∀ (n k x : Nat), x + n = l.length → n < k →
    copydeskref02_Same.l0 k (x : Int) u l a d u' l' a' d' = some (decide (l.drop x = l'.drop x) && (decide (u = u') && decide (a = a') && decide (d = d')))
  | 0, k, x, hx, hk => by
    obtain ⟨k, rfl⟩ : ∃ j, k = j + 1 := ⟨k - 1, by omega⟩
    rw [copydeskref02_Same.l0, if_neg (by omega), List.drop_eq_nil_of_le (by omega), List.drop_eq_nil_of_le (by omega)]
    by_cases h1 : u = u'
    · by_cases h2 : a = a'
      · rw [if_pos h1, if_pos h2]; simp [h1, h2]; by_cases h3 : d = d' <;> simp [h3]
      · rw [if_pos h1, if_neg h2]; simp [h2]
    · rw [if_neg h1]; simp [h1]
  | n + 1, k, x, hx, hk => by
    obtain ⟨k, rfl⟩ : ∃ j, k = j + 1 := ⟨k - 1, by omega⟩
    have hlt : x < l.length := by omega
    have hlt2 : x < l'.length := by omega
    have hw : wrap64 ((x : Int) + 1) = ((x + 1 : Nat) : Int) := by unfold wrap64; omega
    rw [copydeskref02_Same.l0, if_pos (by omega), if_pos (by omega), if_pos (by omega), rs_rdn l x hlt, rs_rdn l' x hlt2, hw, rs_labGo u a d u' a' d' l l' hab hl n k (x + 1) (by omega) (by omega), List.drop_eq_getElem_cons hlt, List.drop_eq_getElem_cons hlt2]
    by_cases h : l[x] = l'[x]
    · rw [if_pos h]
      have e : decide (l.drop (x + 1) = l'.drop (x + 1)) = decide (l[x] :: l.drop (x + 1) = l'[x] :: l'.drop (x + 1)) := decide_eq_decide.2 ⟨fun e => by rw [h, e], fun e => (List.cons.inj e).2⟩
      rw [e]
    · rw [if_neg h, decide_eq_false (fun e => h (List.cons.inj e).1)]; rfl
theorem rs_lab (u a d u' a' d' : Int) (l l' : List Int) (hl : l.length ≤ 9223372036854775807) (k : Nat) (hk : l.length < k) :
    copydeskref02_Same.f k u l a d u' l' a' d' = some (decide (u = u') && decide (l = l') && decide (a = a') && decide (d = d')) := by
  unfold copydeskref02_Same.f
  by_cases h : l.length = l'.length
  · rw [if_pos (by omega)]
    have := rs_labGo u a d u' a' d' l l' h hl l.length k 0 (by omega) hk
    rw [List.drop_zero, List.drop_zero] at this
    refine this.trans ?_
    cases decide (u = u') <;> cases decide (l = l') <;> rfl
  · rw [if_neg (by omega), decide_eq_false (fun e : l = l' => h (by rw [e]))]; simp
theorem rs_same (x y : Bl) (hl : x.f5.f1.length ≤ 9223372036854775807) (k : Nat) (hk : x.f5.f1.length < k) :
    copydeskref03_Same.f k x.f0 x.f1 x.f2 x.f3 x.f4 x.f5.f0 x.f5.f1 x.f5.f2 x.f5.f3 y.f0 y.f1 y.f2 y.f3 y.f4 y.f5.f0 y.f5.f1 y.f5.f2 y.f5.f3 = some (m_same x y) := by
  unfold copydeskref03_Same.f m_same
  rw [rs_lab _ _ _ _ _ _ _ _ hl k hk]
  simp only [ByteArray.toList_eq, Option.bind_some]
  by_cases h1 : x.f0 = y.f0 <;> by_cases h2 : x.f1 = y.f1 <;> by_cases h3 : x.f2.data.toList = y.f2.data.toList <;> by_cases h4 : x.f3 = y.f3 <;> by_cases h5 : x.f4 = y.f4 <;> simp [h1, h2, h3, h4, h5, Bool.and_assoc]
theorem rs_sameGo (a b : List Bl) (hab : a.length = b.length) (hl : a.length ≤ 9223372036854775807) (M : Nat) (hM : M ≤ 9223372036854775807) (ha : ∀ x ∈ a, x.f5.f1.length ≤ M) : ∀ (d k x : Nat), x + d = a.length → d + M + 1 < k →
    copydeskref03_SameList.l0 k a b (x : Int) = some (m_sameL (a.drop x) (b.drop x))
  | 0, k, x, hx, hk => by
    obtain ⟨k, rfl⟩ : ∃ j, k = j + 1 := ⟨k - 1, by omega⟩
    rw [copydeskref03_SameList.l0, if_neg (by omega), List.drop_eq_nil_of_le (by omega), List.drop_eq_nil_of_le (by omega)]; rfl
  | d + 1, k, x, hx, hk => by
    obtain ⟨k, rfl⟩ : ∃ j, k = j + 1 := ⟨k - 1, by omega⟩
    have hlt : x < a.length := by omega
    have hlt2 : x < b.length := by omega
    have hw : wrap64 ((x : Int) + 1) = ((x + 1 : Nat) : Int) := by unfold wrap64; omega
    have hx1 := ha a[x] (List.getElem_mem hlt)
    rw [copydeskref03_SameList.l0, if_pos (by omega), if_pos (by omega), if_pos (by omega), rs_rdT a x hlt, rs_rdT b x hlt2, rs_same a[x] b[x] (by omega) k (by omega), hw, rs_sameGo a b hab hl M hM ha d k (x + 1) (by omega) (by omega), List.drop_eq_getElem_cons hlt, List.drop_eq_getElem_cons hlt2, m_sameL]
    cases m_same a[x] b[x] <;> rfl
theorem rs_sameL (a b : List Bl) (hl : a.length ≤ 9223372036854775807) (M : Nat) (hM : M ≤ 9223372036854775807) (ha : ∀ x ∈ a, x.f5.f1.length ≤ M) (k : Nat) (hk : a.length + M + 1 < k) : copydeskref03_SameList.f k a b = some (m_sameL a b) := by
  unfold copydeskref03_SameList.f
  by_cases h : a.length = b.length
  · rw [if_pos (by omega)]
    have := rs_sameGo a b h hl M hM ha a.length k 0 (by omega) hk
    simp only [List.drop_zero] at this
    exact this
  · rw [if_neg (by omega), pl_sameL_len a b h]
theorem rs_refl (b : Bl) : m_same b b = true := by simp [m_same]
theorem rs_reflL : ∀ l : List Bl, m_sameL l l = true
  | [] => rfl
  | b :: l => by rw [m_sameL, rs_refl, rs_reflL l]; rfl
theorem sm_rdB (l : List Bl) (j : Nat) (h : j < l.length) : rd_T26 l (j : Int) = l[j] := by
  simp [rd_T26, List.getD_eq_getElem?_getD, h]
def sm_cut (b : Bl) : Bl := ⟨b.f0, b.f1, b.f2.extract 0 (mn (b.f2.size : Int) 1000).toNat, b.f3, b.f4, ⟨b.f5.f0, b.f5.f1, b.f5.f2, b.f5.f3⟩⟩
def sm_short0 (l : List Bl) : List Bl := (l.take 30).map sm_cut
theorem sm_shortGo (l : List Bl) (hl : l.length ≤ 9223372036854775807) : ∀ (d k j : Nat), j + d = 30 → d < k → j ≤ l.length →
    copydesklaw03_short.l0 k l ((l.take j).map sm_cut) (j : Int) = some (sm_short0 l)
  | 0, k, j, hj, hk, hjl => by
    obtain ⟨k, rfl⟩ : ∃ i, k = i + 1 := ⟨k - 1, by omega⟩
    have e : j = 30 := by omega
    subst e
    rw [copydesklaw03_short.l0, if_neg (show ¬ ((30 : Nat) : Int) < 30 by omega)]
    split <;> rfl
  | d + 1, k, j, hj, hk, hjl => by
    obtain ⟨k, rfl⟩ : ∃ i, k = i + 1 := ⟨k - 1, by omega⟩
    rw [copydesklaw03_short.l0]
    by_cases hlt : j < l.length
    · obtain ⟨h1, h2, h3⟩ := pu_cut l[j].f2 1000 (by omega)
      have e : (l.take j).map sm_cut ++ [sm_cut l[j]] = (l.take (j + 1)).map sm_cut := by rw [List.take_succ_eq_append_getElem hlt, List.map_append]; rfl
      have hc : ((l.take j).map sm_cut).length < 1466015503701 := by rw [List.length_map, List.length_take]; omega
      rw [if_pos (by omega), if_pos (by omega), if_pos (by omega), sm_rdB l j hlt, if_pos h1, if_pos h2, if_pos hc, pu_w1 j (by omega)]
      show copydesklaw03_short.l0 k l ((l.take j).map sm_cut ++ [sm_cut l[j]]) _ = _
      rw [e]
      exact sm_shortGo l hl d k (j + 1) (by omega) (by omega) hlt
    · have e : j = l.length := by omega
      rw [if_neg (by omega), e, List.take_of_length_le (Nat.le_refl _)]
      unfold sm_short0
      rw [List.take_of_length_le (by omega)]
theorem sm_short (l : List Bl) (hl : l.length ≤ 9223372036854775807) (k : Nat) (hk : 40 < k) : copydesklaw03_short.f k l = some (sm_short0 l) := sm_shortGo l hl 30 k 0 (by omega) (by omega) (Nat.zero_le _)
theorem sm_shortLen (l : List Bl) : (sm_short0 l).length ≤ 30 := by simp [sm_short0]; omega
theorem sm_callShort (l0 : List Bl) (A0 : Option Addr) (c0 : Nat) (w : World) (hr : Kd.C k26 w A0 l0.length l0) (hc : l0.length ≤ c0) :
    Calls Tryd.prog 18 #[.slice A0 l0.length c0] w fun e w' => ∃ A c, e = .returned (.slice A (sm_short0 l0).length c) ∧ (sm_short0 l0).length ≤ c ∧ Kd.C k26 w' A (sm_short0 l0).length (sm_short0 l0) ∧ Below w.heap.size w w' := by
  refine (copydesklaw03_short.calls 100 (fun k_ => k_ < w.heap.size) A0 c0 l0 (sm_short0 l0) w (Kd.V_mk hc (Kd.C_F k26_heap hr)) (sm_short l0 (Kd.C_max hr) 100 (by omega))).mono ?_
  rintro e w' ⟨v, rfl, hN, hb⟩
  obtain ⟨A, c, rfl⟩ := Kd.N_slice hN
  obtain ⟨_, h2, h3⟩ := Kd.N_reads' hN
  exact ⟨A, c, rfl, h2, h3, hb⟩
theorem sm_inner {w : World} {A : Option Addr} {l : List Bl} (h : Kd.C k26 w A l.length l) : ∀ b ∈ l, b.f5.f1.length ≤ 9223372036854775807 := by
  intro b hb
  obtain ⟨j, hj, rfl⟩ := List.mem_iff_getElem.1 hb
  obtain ⟨ad, A6, c6, e, g0, g1, g2, g3, g4, g5, g6, g7, g8, hl, hi⟩ := at_T26 h (j : Int) (by omega) (by omega)
  rw [bk_rd l j hj] at hi
  exact Kd.C_max hi
theorem sm_max : ∀ l : List Bl, (∀ b ∈ l, b.f5.f1.length ≤ 9223372036854775807) → ∃ M, M ≤ 9223372036854775807 ∧ ∀ b ∈ l, b.f5.f1.length ≤ M := fun l h => ⟨9223372036854775807, Nat.le_refl _, h⟩
def copydesklaw03_BlockSameMatchesReference.f (k : Nat) (l0 : List (S26)) (l1 : List (S26)) : Option Bool := some true
set_option maxHeartbeats 64000000 in
set_option maxRecDepth 100000 in
theorem copydesklaw03_BlockSameMatchesReference.calls (k : Nat) (A0 : Option Addr) (c0 : Nat) (l0 : List (S26)) (A1 : Option Addr) (c1 : Nat) (l1 : List (S26)) (r : Bool) (w : World) (hr0 : Kd.C k26 w A0 l0.length l0) (hc0 : l0.length ≤ c0) (hr1 : Kd.C k26 w A1 l1.length l1) (hc1 : l1.length ≤ c1) (h : copydesklaw03_BlockSameMatchesReference.f k l0 l1 = some r) :
    Calls Tryd.prog 4 #[.slice A0 l0.length c0, .slice A1 l1.length c1] w fun e w' => e = .returned (.bool r) ∧ Below w.heap.size w w' := by
  obtain rfl := Option.some.inj h
  clear h
  have HR0 := Aside0.mk hr0
  have HR1 := Aside0.mk hr1
  have HC0 := Aside0.mk hc0
  have HC1 := Aside0.mk hc1
  clear hr0 hr1 hc0 hc1
  go_enter Tryd.func4, Tryd.ntmps4
  go_wp2_with (go_at_call 17; refine Rg.stop_here ?_)
  refine ⟨?_⟩
  refine (copydesklaw03_sane.calls true _ rfl).mono ?_
  rintro e w1 ⟨rfl, hb1⟩
  have HB1 := Aside0.mk hb1
  clear hb1
  go_wp2_with (go_at_call 18; refine Rg.stop_here ?_)
  refine ⟨?_⟩
  refine (sm_callShort l0 A0 c0 _ (Kd.C_below HR0.out HB1.out) HC0.out).mono ?_
  rintro e w2 ⟨Aa, ca, rfl, hca, hCa, hb2⟩
  have HB2 := Aside0.mk (below_step HB1.out hb2)
  clear hb2
  go_wp2_with (go_at_call 18; refine Rg.stop_here ?_)
  refine ⟨?_⟩
  refine (sm_callShort l1 A1 c1 _ (Kd.C_below HR1.out HB2.out) HC1.out).mono ?_
  rintro e w3 ⟨Ab, cb, rfl, hcb, hCb, hb3⟩
  have HCa3 := Aside0.mk (Kd.C_below hCa hb3)
  have HCb3 := Aside0.mk hCb
  have HB3 := Aside0.mk (below_step HB2.out hb3)
  have hna := sm_shortLen l0
  have hnb := sm_shortLen l1
  obtain ⟨a, ha⟩ : ∃ a, sm_short0 l0 = a := ⟨_, rfl⟩
  obtain ⟨b, hb⟩ : ∃ b, sm_short0 l1 = b := ⟨_, rfl⟩
  rw [ha] at hca HCa3 hna ⊢
  rw [hb] at hcb HCb3 hnb ⊢
  clear hCa hb3 ha hb hCb
  have HIa := Aside0.mk (sm_inner HCa3.out)
  go_wp2
  go_loopw [6] (fun p wr => ∃ (x6 : Int), p = .int .i64 x6 ∧ 0 ≤ x6 ∧ x6 ≤ (a.length : Int) ∧ Below w3.heap.size w3 wr) (fun p _ => a.length - (intOf p).toNat)
  case atStart => exact ⟨0, rfl, Int.le_refl _, by omega, Below.refl _ _⟩
  case round =>
    obtain ⟨x6, rfl, hx0, hxa, hB⟩ := hrel
    have HBR := Aside0.mk hB
    have hCa := Kd.C_below HCa3.out hB
    have hCb := Kd.C_below HCb3.out hB
    clear hB
    by_cases hlt : x6 < (a.length : Int)
    · obtain ⟨ada, A6a, c6a, ea, ha0, ha1, ha2, ha3, ha4, ha5, ha6, ha7, ha8, hla, hia⟩ := at_T26 hCa x6 hx0 hlt
      subst ea
      have HLA := Aside0.mk hla
      have HIA := Aside0.mk hia
      have hd : decide (x6 < (a.length : Int)) = true := decide_eq_true hlt
      have q0 := eq_true hx0
      have q1 := eq_true hlt
      have hmem : rd_T26 a x6 ∈ a := by
        obtain ⟨j, rfl⟩ : ∃ j : Nat, x6 = (j : Int) := ⟨x6.toNat, by omega⟩
        rw [bk_rd a j (by omega)]; exact List.getElem_mem _
      have HSA := Aside0.mk (show block_Same.f 9223372036854775808 (rd_T26 a x6).f0 (rd_T26 a x6).f1 (rd_T26 a x6).f2 (rd_T26 a x6).f3 (rd_T26 a x6).f4 (rd_T26 a x6).f5.f0 (rd_T26 a x6).f5.f1 (rd_T26 a x6).f5.f2 (rd_T26 a x6).f5.f3 (rd_T26 a x6).f0 (rd_T26 a x6).f1 (rd_T26 a x6).f2 (rd_T26 a x6).f3 (rd_T26 a x6).f4 (rd_T26 a x6).f5.f0 (rd_T26 a x6).f5.f1 (rd_T26 a x6).f5.f2 (rd_T26 a x6).f5.f3 = some true by
        rw [pl_same _ _ (HIa.out _ hmem) _ (Nat.lt_succ_of_le (HIa.out _ hmem)), rs_refl])
      have HCA := Aside0.mk hCa
      by_cases hltb : x6 < (b.length : Int)
      · obtain ⟨adb, A6b, c6b, eb, hb0, hb1, hb2, hb3, hb4, hb5, hb6, hb7, hb8, hlb, hib⟩ := at_T26 hCb x6 hx0 hltb
        subst eb
        have HLB := Aside0.mk hlb
        have HIB := Aside0.mk hib
        have hd2 : decide (x6 < (b.length : Int)) = true := decide_eq_true hltb
        have q2 := eq_true hltb
        have HSB := Aside0.mk (show block_Same.f 9223372036854775808 (rd_T26 a x6).f0 (rd_T26 a x6).f1 (rd_T26 a x6).f2 (rd_T26 a x6).f3 (rd_T26 a x6).f4 (rd_T26 a x6).f5.f0 (rd_T26 a x6).f5.f1 (rd_T26 a x6).f5.f2 (rd_T26 a x6).f5.f3 (rd_T26 b x6).f0 (rd_T26 b x6).f1 (rd_T26 b x6).f2 (rd_T26 b x6).f3 (rd_T26 b x6).f4 (rd_T26 b x6).f5.f0 (rd_T26 b x6).f5.f1 (rd_T26 b x6).f5.f2 (rd_T26 b x6).f5.f3 = some (m_same (rd_T26 a x6) (rd_T26 b x6)) from
          pl_same _ _ (HIa.out _ hmem) _ (Nat.lt_succ_of_le (HIa.out _ hmem)))
        have HSR := Aside0.mk (show copydeskref03_Same.f 9223372036854775808 (rd_T26 a x6).f0 (rd_T26 a x6).f1 (rd_T26 a x6).f2 (rd_T26 a x6).f3 (rd_T26 a x6).f4 (rd_T26 a x6).f5.f0 (rd_T26 a x6).f5.f1 (rd_T26 a x6).f5.f2 (rd_T26 a x6).f5.f3 (rd_T26 b x6).f0 (rd_T26 b x6).f1 (rd_T26 b x6).f2 (rd_T26 b x6).f3 (rd_T26 b x6).f4 (rd_T26 b x6).f5.f0 (rd_T26 b x6).f5.f1 (rd_T26 b x6).f5.f2 (rd_T26 b x6).f5.f3 = some (m_same (rd_T26 a x6) (rd_T26 b x6)) from
          rs_same _ _ (HIa.out _ hmem) _ (Nat.lt_succ_of_le (HIa.out _ hmem)))
        have HCB := Aside0.mk hCb
        clear hCa hCb hla hia hlb hib hmem
        go_wp2_with fail
        have HNE := Aside0.mk (show ((m_same (rd_T26 a x6) (rd_T26 b x6)) != (m_same (rd_T26 a x6) (rd_T26 b x6))) = false by simp)
        refine rg_start [] (by kernel_rfl) rfl ?_
        refine rg_pure (N := some 18) 0 (v := _) rfl rfl (by kernel_rfl) (fun _ _ _ h => h) rfl (fun w' => by go_simp <;> with_reducible rfl) (by simp only [Act.put, List.setIfInBounds_toArray, List.set_cons_zero, List.set_cons_succ, ↓reduceIte]; rfl) ?_
        refine rg_pure (N := some 19) 1 (v := _) rfl rfl (by kernel_rfl) (fun _ _ _ h => h) rfl (fun w' => by go_simp <;> with_reducible rfl) (by simp only [Act.put, List.setIfInBounds_toArray, List.set_cons_zero, List.set_cons_succ, ↓reduceIte]; rfl) ?_
        refine rg_pure (N := some 20) 2 (v := _) rfl rfl (by kernel_rfl) (fun _ _ _ h => h) rfl (fun w' => by go_simp <;> with_reducible rfl) (by simp only [Act.put, List.setIfInBounds_toArray, List.set_cons_zero, List.set_cons_succ, ↓reduceIte]; rfl) ?_
        refine rg_pure (N := some 22) 4 (v := _) rfl rfl (by kernel_rfl) (fun _ _ _ h => h) rfl (fun w' => by go_simp <;> with_reducible rfl) (by simp only [Act.put, List.setIfInBounds_toArray, List.set_cons_zero, List.set_cons_succ, ↓reduceIte]; rfl) ?_
        refine rg_pure (N := some 23) 5 (v := _) rfl rfl (by kernel_rfl) (fun _ _ _ h => h) rfl (fun w' => by go_simp <;> with_reducible rfl) (by simp only [Act.put, List.setIfInBounds_toArray, List.set_cons_zero, List.set_cons_succ, ↓reduceIte]; rfl) ?_
        refine rg_pure (N := some 24) 6 (v := _) rfl rfl (by kernel_rfl) (fun _ _ _ h => h) rfl (fun w' => by go_simp <;> with_reducible rfl) (by simp only [Act.put, List.setIfInBounds_toArray, List.set_cons_zero, List.set_cons_succ, ↓reduceIte]; rfl) ?_
        refine rg_load (N := some 21) 3 rfl rfl (by kernel_rfl) (fun _ _ _ h => h) rfl (below_drew1 (Below.refl _ _)) (fun w' hS' => by have c0_ := rg_get hS' ha0; have c1_ := rg_get hS' ha1; have c2_ := rg_get hS' ha2; have c3_ := rg_get hS' ha3; have c4_ := rg_get hS' ha4; have c5_ := rg_get hS' ha5; have c6_ := rg_get hS' ha6; have c7_ := rg_get hS' ha7; have c8_ := rg_get hS' ha8; go_simp <;> with_reducible rfl) (by simp only [Act.put, List.setIfInBounds_toArray, List.set_cons_zero, List.set_cons_succ, ↓reduceIte]; rfl) ?_
        refine rg_load (N := some 25) 7 rfl rfl (by kernel_rfl) (fun _ _ _ h => h) rfl (below_drew1 (Below.refl _ _)) (fun w' hS' => by have c0_ := rg_get hS' ha0; have c1_ := rg_get hS' ha1; have c2_ := rg_get hS' ha2; have c3_ := rg_get hS' ha3; have c4_ := rg_get hS' ha4; have c5_ := rg_get hS' ha5; have c6_ := rg_get hS' ha6; have c7_ := rg_get hS' ha7; have c8_ := rg_get hS' ha8; go_simp <;> with_reducible rfl) (by simp only [Act.put, List.setIfInBounds_toArray, List.set_cons_zero, List.set_cons_succ, ↓reduceIte]; rfl) ?_
        refine rg_call (N := some 26) 8 true (.bool true) #[.agg #[.int .i64 (rd_T26 a x6).f0, .int .i64 (rd_T26 a x6).f1, .string (rd_T26 a x6).f2, .int .i64 (rd_T26 a x6).f3, .int .i64 (rd_T26 a x6).f4, .int .i64 (rd_T26 a x6).f5.f0, .slice A6a (rd_T26 a x6).f5.f1.length c6a, .int .i64 (rd_T26 a x6).f5.f2, .int .i64 (rd_T26 a x6).f5.f3], .agg #[.int .i64 (rd_T26 a x6).f0, .int .i64 (rd_T26 a x6).f1, .string (rd_T26 a x6).f2, .int .i64 (rd_T26 a x6).f3, .int .i64 (rd_T26 a x6).f4, .int .i64 (rd_T26 a x6).f5.f0, .slice A6a (rd_T26 a x6).f5.f1.length c6a, .int .i64 (rd_T26 a x6).f5.f2, .int .i64 (rd_T26 a x6).f5.f3]] rfl rfl (by kernel_rfl) (by decide) rfl Tryd.func23 (by kernel_rfl) rfl rfl (fun hb_ => rg_args2 (by go_simp) (by go_simp)) (below_drew1 (Below.refl _ _)) (fun hb_ w1 h1 => (block_Same.calls 9223372036854775808 (rd_T26 a x6).f0 (rd_T26 a x6).f1 (rd_T26 a x6).f2 (rd_T26 a x6).f3 (rd_T26 a x6).f4 (rd_T26 a x6).f5.f0 A6a c6a (rd_T26 a x6).f5.f1 (rd_T26 a x6).f5.f2 (rd_T26 a x6).f5.f3 (rd_T26 a x6).f0 (rd_T26 a x6).f1 (rd_T26 a x6).f2 (rd_T26 a x6).f3 (rd_T26 a x6).f4 (rd_T26 a x6).f5.f0 A6a c6a (rd_T26 a x6).f5.f1 (rd_T26 a x6).f5.f2 (rd_T26 a x6).f5.f3 true w1 (Kd.C_below HIA.out h1) HLA.out (Kd.C_below HIA.out h1) HLA.out HSA.out).mono (fun e w2 h => ⟨h.1, below_step h1 h.2⟩)) (by simp only [Act.put, List.setIfInBounds_toArray, List.set_cons_zero, List.set_cons_succ, ↓reduceIte]; rfl) (fun wq1 hq1 => ?_)
        refine rg_pure (N := some 27) 9 (v := .bool false) rfl rfl (by kernel_rfl) (fun _ _ _ h => h) rfl (fun w' => by go_simp <;> with_reducible rfl) (by simp only [Act.put, List.setIfInBounds_toArray, List.set_cons_zero, List.set_cons_succ, ↓reduceIte]; rfl) ?_
        refine rg_pure (N := some 28) 10 (v := _) rfl rfl (by kernel_rfl) (fun _ _ _ h => h) rfl (fun w' => by go_simp <;> with_reducible rfl) (by simp only [Act.put, List.setIfInBounds_toArray, List.set_cons_zero, List.set_cons_succ, ↓reduceIte]; rfl) ?_
        refine rg_pureG (N := some 29) 11 true (_) rfl rfl (by kernel_rfl) (fun _ _ _ h => h) (rg_wantF (B := false) rfl (by kernel_rfl)) (fun hb_ w' => by go_simp <;> with_reducible rfl) (by simp only [Act.put, List.setIfInBounds_toArray, List.set_cons_zero, List.set_cons_succ, ↓reduceIte]; rfl) ?_
        refine rg_pureG (N := some 30) 12 true (_) rfl rfl (by kernel_rfl) (fun _ _ _ h => h) (rg_wantF (B := false) rfl (by kernel_rfl)) (fun hb_ w' => by go_simp <;> with_reducible rfl) (by simp only [Act.put, List.setIfInBounds_toArray, List.set_cons_zero, List.set_cons_succ, ↓reduceIte]; rfl) ?_
        refine rg_pureG (N := some 31) 13 true (_) rfl rfl (by kernel_rfl) (fun _ _ _ h => h) (rg_wantF (B := false) rfl (by kernel_rfl)) (fun hb_ w' => by go_simp <;> with_reducible rfl) (by simp only [Act.put, List.setIfInBounds_toArray, List.set_cons_zero, List.set_cons_succ, ↓reduceIte]; rfl) ?_
        refine rg_pureG (N := some 32) 14 true (.bool true) rfl rfl (by kernel_rfl) (fun _ _ _ h => h) (rg_wantF (B := false) rfl (by kernel_rfl)) (fun hb_ w' => by go_simp <;> with_reducible rfl) (by simp only [Act.put, List.setIfInBounds_toArray, List.set_cons_zero, List.set_cons_succ, ↓reduceIte]; rfl) ?_
        refine rg_pureG (N := some 33) 15 true (_) rfl rfl (by kernel_rfl) (fun _ _ _ h => h) (rg_wantF (B := false) rfl (by kernel_rfl)) (fun hb_ w' => by go_simp <;> with_reducible rfl) (by simp only [Act.put, List.setIfInBounds_toArray, List.set_cons_zero, List.set_cons_succ, ↓reduceIte]; rfl) ?_
        refine rg_pureG (N := some 34) 16 true (_) rfl rfl (by kernel_rfl) (fun _ _ _ h => h) (rg_wantT (B := true) rfl (by kernel_rfl)) (fun hb_ w' => by go_simp <;> with_reducible rfl) (by simp only [Act.put, List.setIfInBounds_toArray, List.set_cons_zero, List.set_cons_succ, ↓reduceIte]; rfl) ?_
        refine rg_pureG (N := some 35) 17 true (_) rfl rfl (by kernel_rfl) (fun _ _ _ h => h) (rg_wantT (B := true) rfl (by kernel_rfl)) (fun hb_ w' => by go_simp <;> with_reducible rfl) (by simp only [Act.put, List.setIfInBounds_toArray, List.set_cons_zero, List.set_cons_succ, ↓reduceIte]; rfl) ?_
        refine rg_pureG (N := some 36) 18 true (_) rfl rfl (by kernel_rfl) (fun _ _ _ h => h) (rg_wantT (B := true) rfl (by kernel_rfl)) (fun hb_ w' => by go_simp <;> with_reducible rfl) (by simp only [Act.put, List.setIfInBounds_toArray, List.set_cons_zero, List.set_cons_succ, ↓reduceIte]; rfl) ?_
        refine rg_pureG (N := some 38) 20 true (_) rfl rfl (by kernel_rfl) (fun _ _ _ h => h) (rg_wantT (B := true) rfl (by kernel_rfl)) (fun hb_ w' => by go_simp <;> with_reducible rfl) (by simp only [Act.put, List.setIfInBounds_toArray, List.set_cons_zero, List.set_cons_succ, ↓reduceIte]; rfl) ?_
        refine rg_pureG (N := some 39) 21 true (_) rfl rfl (by kernel_rfl) (fun _ _ _ h => h) (rg_wantT (B := true) rfl (by kernel_rfl)) (fun hb_ w' => by go_simp <;> with_reducible rfl) (by simp only [Act.put, List.setIfInBounds_toArray, List.set_cons_zero, List.set_cons_succ, ↓reduceIte]; rfl) ?_
        refine rg_pureG (N := some 40) 22 true (_) rfl rfl (by kernel_rfl) (fun _ _ _ h => h) (rg_wantT (B := true) rfl (by kernel_rfl)) (fun hb_ w' => by go_simp <;> with_reducible rfl) (by simp only [Act.put, List.setIfInBounds_toArray, List.set_cons_zero, List.set_cons_succ, ↓reduceIte]; rfl) ?_
        refine rg_pureG (N := some 43) 25 true (_) rfl rfl (by kernel_rfl) (fun _ _ _ h => h) (rg_wantT (B := true) rfl (by kernel_rfl)) (fun hb_ w' => by go_simp <;> with_reducible rfl) (by simp only [Act.put, List.setIfInBounds_toArray, List.set_cons_zero, List.set_cons_succ, ↓reduceIte]; rfl) ?_
        refine rg_pureG (N := some 44) 26 true (_) rfl rfl (by kernel_rfl) (fun _ _ _ h => h) (rg_wantT (B := true) rfl (by kernel_rfl)) (fun hb_ w' => by go_simp <;> with_reducible rfl) (by simp only [Act.put, List.setIfInBounds_toArray, List.set_cons_zero, List.set_cons_succ, ↓reduceIte]; rfl) ?_
        refine rg_pureG (N := some 45) 27 true (_) rfl rfl (by kernel_rfl) (fun _ _ _ h => h) (rg_wantT (B := true) rfl (by kernel_rfl)) (fun hb_ w' => by go_simp <;> with_reducible rfl) (by simp only [Act.put, List.setIfInBounds_toArray, List.set_cons_zero, List.set_cons_succ, ↓reduceIte]; rfl) ?_
        refine rg_pureG (N := some 47) 29 true (_) rfl rfl (by kernel_rfl) (fun _ _ _ h => h) (rg_wantT (B := true) rfl (by kernel_rfl)) (fun hb_ w' => by go_simp <;> with_reducible rfl) (by simp only [Act.put, List.setIfInBounds_toArray, List.set_cons_zero, List.set_cons_succ, ↓reduceIte]; rfl) ?_
        refine rg_pureG (N := some 48) 30 true (_) rfl rfl (by kernel_rfl) (fun _ _ _ h => h) (rg_wantT (B := true) rfl (by kernel_rfl)) (fun hb_ w' => by go_simp <;> with_reducible rfl) (by simp only [Act.put, List.setIfInBounds_toArray, List.set_cons_zero, List.set_cons_succ, ↓reduceIte]; rfl) ?_
        refine rg_pureG (N := some 49) 31 true (_) rfl rfl (by kernel_rfl) (fun _ _ _ h => h) (rg_wantT (B := true) rfl (by kernel_rfl)) (fun hb_ w' => by go_simp <;> with_reducible rfl) (by simp only [Act.put, List.setIfInBounds_toArray, List.set_cons_zero, List.set_cons_succ, ↓reduceIte]; rfl) ?_
        refine rg_loadG (N := some 37) 19 true (.agg #[.int .i64 (rd_T26 a x6).f0, .int .i64 (rd_T26 a x6).f1, .string (rd_T26 a x6).f2, .int .i64 (rd_T26 a x6).f3, .int .i64 (rd_T26 a x6).f4, .int .i64 (rd_T26 a x6).f5.f0, .slice A6a (rd_T26 a x6).f5.f1.length c6a, .int .i64 (rd_T26 a x6).f5.f2, .int .i64 (rd_T26 a x6).f5.f3]) rfl rfl (by kernel_rfl) (fun _ _ _ h => h) (rg_wantT (B := true) rfl (by kernel_rfl)) hq1 (fun hb_ w' hS' => by have c0_ := rg_get hS' ha0; have c1_ := rg_get hS' ha1; have c2_ := rg_get hS' ha2; have c3_ := rg_get hS' ha3; have c4_ := rg_get hS' ha4; have c5_ := rg_get hS' ha5; have c6_ := rg_get hS' ha6; have c7_ := rg_get hS' ha7; have c8_ := rg_get hS' ha8; go_simp <;> with_reducible rfl) (by simp only [Act.put, List.setIfInBounds_toArray, List.set_cons_zero, List.set_cons_succ, ↓reduceIte]; rfl) ?_
        refine rg_loadG (N := some 41) 23 true (.agg #[.int .i64 (rd_T26 b x6).f0, .int .i64 (rd_T26 b x6).f1, .string (rd_T26 b x6).f2, .int .i64 (rd_T26 b x6).f3, .int .i64 (rd_T26 b x6).f4, .int .i64 (rd_T26 b x6).f5.f0, .slice A6b (rd_T26 b x6).f5.f1.length c6b, .int .i64 (rd_T26 b x6).f5.f2, .int .i64 (rd_T26 b x6).f5.f3]) rfl rfl (by kernel_rfl) (fun _ _ _ h => h) (rg_wantT (B := true) rfl (by kernel_rfl)) hq1 (fun hb_ w' hS' => by have c0_ := rg_get hS' hb0; have c1_ := rg_get hS' hb1; have c2_ := rg_get hS' hb2; have c3_ := rg_get hS' hb3; have c4_ := rg_get hS' hb4; have c5_ := rg_get hS' hb5; have c6_ := rg_get hS' hb6; have c7_ := rg_get hS' hb7; have c8_ := rg_get hS' hb8; go_simp <;> with_reducible rfl) (by simp only [Act.put, List.setIfInBounds_toArray, List.set_cons_zero, List.set_cons_succ, ↓reduceIte]; rfl) ?_
        refine rg_loadG (N := some 46) 28 true (.agg #[.int .i64 (rd_T26 a x6).f0, .int .i64 (rd_T26 a x6).f1, .string (rd_T26 a x6).f2, .int .i64 (rd_T26 a x6).f3, .int .i64 (rd_T26 a x6).f4, .int .i64 (rd_T26 a x6).f5.f0, .slice A6a (rd_T26 a x6).f5.f1.length c6a, .int .i64 (rd_T26 a x6).f5.f2, .int .i64 (rd_T26 a x6).f5.f3]) rfl rfl (by kernel_rfl) (fun _ _ _ h => h) (rg_wantT (B := true) rfl (by kernel_rfl)) hq1 (fun hb_ w' hS' => by have c0_ := rg_get hS' ha0; have c1_ := rg_get hS' ha1; have c2_ := rg_get hS' ha2; have c3_ := rg_get hS' ha3; have c4_ := rg_get hS' ha4; have c5_ := rg_get hS' ha5; have c6_ := rg_get hS' ha6; have c7_ := rg_get hS' ha7; have c8_ := rg_get hS' ha8; go_simp <;> with_reducible rfl) (by simp only [Act.put, List.setIfInBounds_toArray, List.set_cons_zero, List.set_cons_succ, ↓reduceIte]; rfl) ?_
        refine rg_loadG (N := some 50) 32 true (.agg #[.int .i64 (rd_T26 b x6).f0, .int .i64 (rd_T26 b x6).f1, .string (rd_T26 b x6).f2, .int .i64 (rd_T26 b x6).f3, .int .i64 (rd_T26 b x6).f4, .int .i64 (rd_T26 b x6).f5.f0, .slice A6b (rd_T26 b x6).f5.f1.length c6b, .int .i64 (rd_T26 b x6).f5.f2, .int .i64 (rd_T26 b x6).f5.f3]) rfl rfl (by kernel_rfl) (fun _ _ _ h => h) (rg_wantT (B := true) rfl (by kernel_rfl)) hq1 (fun hb_ w' hS' => by have c0_ := rg_get hS' hb0; have c1_ := rg_get hS' hb1; have c2_ := rg_get hS' hb2; have c3_ := rg_get hS' hb3; have c4_ := rg_get hS' hb4; have c5_ := rg_get hS' hb5; have c6_ := rg_get hS' hb6; have c7_ := rg_get hS' hb7; have c8_ := rg_get hS' hb8; go_simp <;> with_reducible rfl) (by simp only [Act.put, List.setIfInBounds_toArray, List.set_cons_zero, List.set_cons_succ, ↓reduceIte]; rfl) ?_
        refine rg_call (N := some 42) 24 true (.bool (m_same (rd_T26 a x6) (rd_T26 b x6))) #[.agg #[.int .i64 (rd_T26 a x6).f0, .int .i64 (rd_T26 a x6).f1, .string (rd_T26 a x6).f2, .int .i64 (rd_T26 a x6).f3, .int .i64 (rd_T26 a x6).f4, .int .i64 (rd_T26 a x6).f5.f0, .slice A6a (rd_T26 a x6).f5.f1.length c6a, .int .i64 (rd_T26 a x6).f5.f2, .int .i64 (rd_T26 a x6).f5.f3], .agg #[.int .i64 (rd_T26 b x6).f0, .int .i64 (rd_T26 b x6).f1, .string (rd_T26 b x6).f2, .int .i64 (rd_T26 b x6).f3, .int .i64 (rd_T26 b x6).f4, .int .i64 (rd_T26 b x6).f5.f0, .slice A6b (rd_T26 b x6).f5.f1.length c6b, .int .i64 (rd_T26 b x6).f5.f2, .int .i64 (rd_T26 b x6).f5.f3]] rfl rfl (by kernel_rfl) (by decide) (rg_wantT (B := true) rfl (by kernel_rfl)) Tryd.func23 (by kernel_rfl) rfl rfl (fun hb_ => rg_args2 (by go_simp) (by go_simp)) hq1 (fun hb_ w1 h1 => (block_Same.calls 9223372036854775808 (rd_T26 a x6).f0 (rd_T26 a x6).f1 (rd_T26 a x6).f2 (rd_T26 a x6).f3 (rd_T26 a x6).f4 (rd_T26 a x6).f5.f0 A6a c6a (rd_T26 a x6).f5.f1 (rd_T26 a x6).f5.f2 (rd_T26 a x6).f5.f3 (rd_T26 b x6).f0 (rd_T26 b x6).f1 (rd_T26 b x6).f2 (rd_T26 b x6).f3 (rd_T26 b x6).f4 (rd_T26 b x6).f5.f0 A6b c6b (rd_T26 b x6).f5.f1 (rd_T26 b x6).f5.f2 (rd_T26 b x6).f5.f3 (m_same (rd_T26 a x6) (rd_T26 b x6)) w1 (Kd.C_below HIA.out h1) HLA.out (Kd.C_below HIB.out h1) HLB.out HSB.out).mono (fun e w2 h => ⟨h.1, below_step h1 h.2⟩)) (by simp only [Act.put, List.setIfInBounds_toArray, List.set_cons_zero, List.set_cons_succ, ↓reduceIte]; rfl) (fun wq2 hq2 => ?_)
        refine rg_call (N := some 51) 33 true (.bool (m_same (rd_T26 a x6) (rd_T26 b x6))) #[.agg #[.int .i64 (rd_T26 a x6).f0, .int .i64 (rd_T26 a x6).f1, .string (rd_T26 a x6).f2, .int .i64 (rd_T26 a x6).f3, .int .i64 (rd_T26 a x6).f4, .int .i64 (rd_T26 a x6).f5.f0, .slice A6a (rd_T26 a x6).f5.f1.length c6a, .int .i64 (rd_T26 a x6).f5.f2, .int .i64 (rd_T26 a x6).f5.f3], .agg #[.int .i64 (rd_T26 b x6).f0, .int .i64 (rd_T26 b x6).f1, .string (rd_T26 b x6).f2, .int .i64 (rd_T26 b x6).f3, .int .i64 (rd_T26 b x6).f4, .int .i64 (rd_T26 b x6).f5.f0, .slice A6b (rd_T26 b x6).f5.f1.length c6b, .int .i64 (rd_T26 b x6).f5.f2, .int .i64 (rd_T26 b x6).f5.f3]] rfl rfl (by kernel_rfl) (by decide) (rg_wantT (B := true) rfl (by kernel_rfl)) Tryd.func24 (by kernel_rfl) rfl rfl (fun hb_ => rg_args2 (by go_simp) (by go_simp)) hq2 (fun hb_ w1 h1 => (copydeskref03_Same.calls 9223372036854775808 (rd_T26 a x6).f0 (rd_T26 a x6).f1 (rd_T26 a x6).f2 (rd_T26 a x6).f3 (rd_T26 a x6).f4 (rd_T26 a x6).f5.f0 A6a c6a (rd_T26 a x6).f5.f1 (rd_T26 a x6).f5.f2 (rd_T26 a x6).f5.f3 (rd_T26 b x6).f0 (rd_T26 b x6).f1 (rd_T26 b x6).f2 (rd_T26 b x6).f3 (rd_T26 b x6).f4 (rd_T26 b x6).f5.f0 A6b c6b (rd_T26 b x6).f5.f1 (rd_T26 b x6).f5.f2 (rd_T26 b x6).f5.f3 (m_same (rd_T26 a x6) (rd_T26 b x6)) w1 (Kd.C_below HIA.out h1) HLA.out (Kd.C_below HIB.out h1) HLB.out HSR.out).mono (fun e w2 h => ⟨h.1, below_step h1 h.2⟩)) (by simp only [Act.put, List.setIfInBounds_toArray, List.set_cons_zero, List.set_cons_succ, ↓reduceIte]; rfl) (fun wq3 hq3 => ?_)
        refine rg_pureG (N := some 52) 34 true (.bool false) rfl rfl (by kernel_rfl) (fun _ _ _ h => h) (rg_wantT (B := true) rfl (by kernel_rfl)) (fun hb_ w' => by have q_ := HNE.out; go_simp <;> with_reducible rfl) (by simp only [Act.put, List.setIfInBounds_toArray, List.set_cons_zero, List.set_cons_succ, ↓reduceIte]; rfl) ?_
        refine rg_pureG (N := some 53) 35 true (.bool false) rfl rfl (by kernel_rfl) (fun _ _ _ h => h) (rg_wantF (B := false) rfl (by kernel_rfl)) (fun hb_ w' => by go_simp <;> with_reducible rfl) (by simp only [Act.put, List.setIfInBounds_toArray, List.set_cons_zero, List.set_cons_succ, ↓reduceIte]; rfl) ?_
        refine rg_pure (N := some 54) 36 (v := .bool false) rfl rfl (by kernel_rfl) (fun _ _ _ h => h) rfl (fun w' => by go_simp <;> with_reducible rfl) (by simp only [Act.put, List.setIfInBounds_toArray, List.set_cons_zero, List.set_cons_succ, ↓reduceIte]; rfl) ?_
        refine rg_done (by kernel_rfl) ?_
        have HBQ := Aside0.mk (show Below wr.heap.size wr _ from hq3)
        go_wp2_with fail
        go_roundw
        case rel => exact ⟨x6 + 1, by go_num, by omega, by omega, below_step HBR.out HBQ.out⟩
        case measure => simp [intOf]; omega
      · have hd2 : decide (x6 < (b.length : Int)) = false := decide_eq_false hltb
        clear hCa hla hia hmem
        go_wp2_with fail
        refine rg_start [] (by kernel_rfl) rfl ?_
        refine rg_pure (N := some 18) 0 (v := _) rfl rfl (by kernel_rfl) (fun _ _ _ h => h) rfl (fun w' => by go_simp <;> with_reducible rfl) (by simp only [Act.put, List.setIfInBounds_toArray, List.set_cons_zero, List.set_cons_succ, ↓reduceIte]; rfl) ?_
        refine rg_pure (N := some 19) 1 (v := _) rfl rfl (by kernel_rfl) (fun _ _ _ h => h) rfl (fun w' => by go_simp <;> with_reducible rfl) (by simp only [Act.put, List.setIfInBounds_toArray, List.set_cons_zero, List.set_cons_succ, ↓reduceIte]; rfl) ?_
        refine rg_pure (N := some 20) 2 (v := _) rfl rfl (by kernel_rfl) (fun _ _ _ h => h) rfl (fun w' => by go_simp <;> with_reducible rfl) (by simp only [Act.put, List.setIfInBounds_toArray, List.set_cons_zero, List.set_cons_succ, ↓reduceIte]; rfl) ?_
        refine rg_pure (N := some 22) 4 (v := _) rfl rfl (by kernel_rfl) (fun _ _ _ h => h) rfl (fun w' => by go_simp <;> with_reducible rfl) (by simp only [Act.put, List.setIfInBounds_toArray, List.set_cons_zero, List.set_cons_succ, ↓reduceIte]; rfl) ?_
        refine rg_pure (N := some 23) 5 (v := _) rfl rfl (by kernel_rfl) (fun _ _ _ h => h) rfl (fun w' => by go_simp <;> with_reducible rfl) (by simp only [Act.put, List.setIfInBounds_toArray, List.set_cons_zero, List.set_cons_succ, ↓reduceIte]; rfl) ?_
        refine rg_pure (N := some 24) 6 (v := _) rfl rfl (by kernel_rfl) (fun _ _ _ h => h) rfl (fun w' => by go_simp <;> with_reducible rfl) (by simp only [Act.put, List.setIfInBounds_toArray, List.set_cons_zero, List.set_cons_succ, ↓reduceIte]; rfl) ?_
        refine rg_load (N := some 21) 3 rfl rfl (by kernel_rfl) (fun _ _ _ h => h) rfl (below_drew1 (Below.refl _ _)) (fun w' hS' => by have c0_ := rg_get hS' ha0; have c1_ := rg_get hS' ha1; have c2_ := rg_get hS' ha2; have c3_ := rg_get hS' ha3; have c4_ := rg_get hS' ha4; have c5_ := rg_get hS' ha5; have c6_ := rg_get hS' ha6; have c7_ := rg_get hS' ha7; have c8_ := rg_get hS' ha8; go_simp <;> with_reducible rfl) (by simp only [Act.put, List.setIfInBounds_toArray, List.set_cons_zero, List.set_cons_succ, ↓reduceIte]; rfl) ?_
        refine rg_load (N := some 25) 7 rfl rfl (by kernel_rfl) (fun _ _ _ h => h) rfl (below_drew1 (Below.refl _ _)) (fun w' hS' => by have c0_ := rg_get hS' ha0; have c1_ := rg_get hS' ha1; have c2_ := rg_get hS' ha2; have c3_ := rg_get hS' ha3; have c4_ := rg_get hS' ha4; have c5_ := rg_get hS' ha5; have c6_ := rg_get hS' ha6; have c7_ := rg_get hS' ha7; have c8_ := rg_get hS' ha8; go_simp <;> with_reducible rfl) (by simp only [Act.put, List.setIfInBounds_toArray, List.set_cons_zero, List.set_cons_succ, ↓reduceIte]; rfl) ?_
        refine rg_call (N := some 26) 8 true (.bool true) #[.agg #[.int .i64 (rd_T26 a x6).f0, .int .i64 (rd_T26 a x6).f1, .string (rd_T26 a x6).f2, .int .i64 (rd_T26 a x6).f3, .int .i64 (rd_T26 a x6).f4, .int .i64 (rd_T26 a x6).f5.f0, .slice A6a (rd_T26 a x6).f5.f1.length c6a, .int .i64 (rd_T26 a x6).f5.f2, .int .i64 (rd_T26 a x6).f5.f3], .agg #[.int .i64 (rd_T26 a x6).f0, .int .i64 (rd_T26 a x6).f1, .string (rd_T26 a x6).f2, .int .i64 (rd_T26 a x6).f3, .int .i64 (rd_T26 a x6).f4, .int .i64 (rd_T26 a x6).f5.f0, .slice A6a (rd_T26 a x6).f5.f1.length c6a, .int .i64 (rd_T26 a x6).f5.f2, .int .i64 (rd_T26 a x6).f5.f3]] rfl rfl (by kernel_rfl) (by decide) rfl Tryd.func23 (by kernel_rfl) rfl rfl (fun hb_ => rg_args2 (by go_simp) (by go_simp)) (below_drew1 (Below.refl _ _)) (fun hb_ w1 h1 => (block_Same.calls 9223372036854775808 (rd_T26 a x6).f0 (rd_T26 a x6).f1 (rd_T26 a x6).f2 (rd_T26 a x6).f3 (rd_T26 a x6).f4 (rd_T26 a x6).f5.f0 A6a c6a (rd_T26 a x6).f5.f1 (rd_T26 a x6).f5.f2 (rd_T26 a x6).f5.f3 (rd_T26 a x6).f0 (rd_T26 a x6).f1 (rd_T26 a x6).f2 (rd_T26 a x6).f3 (rd_T26 a x6).f4 (rd_T26 a x6).f5.f0 A6a c6a (rd_T26 a x6).f5.f1 (rd_T26 a x6).f5.f2 (rd_T26 a x6).f5.f3 true w1 (Kd.C_below HIA.out h1) HLA.out (Kd.C_below HIA.out h1) HLA.out HSA.out).mono (fun e w2 h => ⟨h.1, below_step h1 h.2⟩)) (by simp only [Act.put, List.setIfInBounds_toArray, List.set_cons_zero, List.set_cons_succ, ↓reduceIte]; rfl) (fun wq1 hq1 => ?_)
        refine rg_pure (N := some 27) 9 (v := .bool false) rfl rfl (by kernel_rfl) (fun _ _ _ h => h) rfl (fun w' => by go_simp <;> with_reducible rfl) (by simp only [Act.put, List.setIfInBounds_toArray, List.set_cons_zero, List.set_cons_succ, ↓reduceIte]; rfl) ?_
        refine rg_pure (N := some 28) 10 (v := _) rfl rfl (by kernel_rfl) (fun _ _ _ h => h) rfl (fun w' => by go_simp <;> with_reducible rfl) (by simp only [Act.put, List.setIfInBounds_toArray, List.set_cons_zero, List.set_cons_succ, ↓reduceIte]; rfl) ?_
        refine rg_pureG (N := some 29) 11 true (_) rfl rfl (by kernel_rfl) (fun _ _ _ h => h) (rg_wantF (B := false) rfl (by kernel_rfl)) (fun hb_ w' => by go_simp <;> with_reducible rfl) (by simp only [Act.put, List.setIfInBounds_toArray, List.set_cons_zero, List.set_cons_succ, ↓reduceIte]; rfl) ?_
        refine rg_pureG (N := some 30) 12 true (_) rfl rfl (by kernel_rfl) (fun _ _ _ h => h) (rg_wantF (B := false) rfl (by kernel_rfl)) (fun hb_ w' => by go_simp <;> with_reducible rfl) (by simp only [Act.put, List.setIfInBounds_toArray, List.set_cons_zero, List.set_cons_succ, ↓reduceIte]; rfl) ?_
        refine rg_pureG (N := some 31) 13 true (_) rfl rfl (by kernel_rfl) (fun _ _ _ h => h) (rg_wantF (B := false) rfl (by kernel_rfl)) (fun hb_ w' => by go_simp <;> with_reducible rfl) (by simp only [Act.put, List.setIfInBounds_toArray, List.set_cons_zero, List.set_cons_succ, ↓reduceIte]; rfl) ?_
        refine rg_pureG (N := some 32) 14 true (.bool false) rfl rfl (by kernel_rfl) (fun _ _ _ h => h) (rg_wantF (B := false) rfl (by kernel_rfl)) (fun hb_ w' => by go_simp <;> with_reducible rfl) (by simp only [Act.put, List.setIfInBounds_toArray, List.set_cons_zero, List.set_cons_succ, ↓reduceIte]; rfl) ?_
        refine rg_pureG (N := some 33) 15 true (_) rfl rfl (by kernel_rfl) (fun _ _ _ h => h) (rg_wantF (B := false) rfl (by kernel_rfl)) (fun hb_ w' => by go_simp <;> with_reducible rfl) (by simp only [Act.put, List.setIfInBounds_toArray, List.set_cons_zero, List.set_cons_succ, ↓reduceIte]; rfl) ?_
        refine rg_pureG (N := some 34) 16 false (undef) rfl rfl (by kernel_rfl) (fun _ _ _ h => h) (rg_wantT (B := false) rfl (by kernel_rfl)) (fun hb_ w' => by cases hb_) (by simp only [Act.put, List.setIfInBounds_toArray, List.set_cons_zero, List.set_cons_succ, ↓reduceIte]; rfl) ?_
        refine rg_pureG (N := some 35) 17 false (undef) rfl rfl (by kernel_rfl) (fun _ _ _ h => h) (rg_wantT (B := false) rfl (by kernel_rfl)) (fun hb_ w' => by cases hb_) (by simp only [Act.put, List.setIfInBounds_toArray, List.set_cons_zero, List.set_cons_succ, ↓reduceIte]; rfl) ?_
        refine rg_pureG (N := some 36) 18 false (undef) rfl rfl (by kernel_rfl) (fun _ _ _ h => h) (rg_wantT (B := false) rfl (by kernel_rfl)) (fun hb_ w' => by cases hb_) (by simp only [Act.put, List.setIfInBounds_toArray, List.set_cons_zero, List.set_cons_succ, ↓reduceIte]; rfl) ?_
        refine rg_pureG (N := some 38) 20 false (undef) rfl rfl (by kernel_rfl) (fun _ _ _ h => h) (rg_wantT (B := false) rfl (by kernel_rfl)) (fun hb_ w' => by cases hb_) (by simp only [Act.put, List.setIfInBounds_toArray, List.set_cons_zero, List.set_cons_succ, ↓reduceIte]; rfl) ?_
        refine rg_pureG (N := some 39) 21 false (undef) rfl rfl (by kernel_rfl) (fun _ _ _ h => h) (rg_wantT (B := false) rfl (by kernel_rfl)) (fun hb_ w' => by cases hb_) (by simp only [Act.put, List.setIfInBounds_toArray, List.set_cons_zero, List.set_cons_succ, ↓reduceIte]; rfl) ?_
        refine rg_pureG (N := some 40) 22 false (undef) rfl rfl (by kernel_rfl) (fun _ _ _ h => h) (rg_wantT (B := false) rfl (by kernel_rfl)) (fun hb_ w' => by cases hb_) (by simp only [Act.put, List.setIfInBounds_toArray, List.set_cons_zero, List.set_cons_succ, ↓reduceIte]; rfl) ?_
        refine rg_pureG (N := some 43) 25 false (undef) rfl rfl (by kernel_rfl) (fun _ _ _ h => h) (rg_wantT (B := false) rfl (by kernel_rfl)) (fun hb_ w' => by cases hb_) (by simp only [Act.put, List.setIfInBounds_toArray, List.set_cons_zero, List.set_cons_succ, ↓reduceIte]; rfl) ?_
        refine rg_pureG (N := some 44) 26 false (undef) rfl rfl (by kernel_rfl) (fun _ _ _ h => h) (rg_wantT (B := false) rfl (by kernel_rfl)) (fun hb_ w' => by cases hb_) (by simp only [Act.put, List.setIfInBounds_toArray, List.set_cons_zero, List.set_cons_succ, ↓reduceIte]; rfl) ?_
        refine rg_pureG (N := some 45) 27 false (undef) rfl rfl (by kernel_rfl) (fun _ _ _ h => h) (rg_wantT (B := false) rfl (by kernel_rfl)) (fun hb_ w' => by cases hb_) (by simp only [Act.put, List.setIfInBounds_toArray, List.set_cons_zero, List.set_cons_succ, ↓reduceIte]; rfl) ?_
        refine rg_pureG (N := some 47) 29 false (undef) rfl rfl (by kernel_rfl) (fun _ _ _ h => h) (rg_wantT (B := false) rfl (by kernel_rfl)) (fun hb_ w' => by cases hb_) (by simp only [Act.put, List.setIfInBounds_toArray, List.set_cons_zero, List.set_cons_succ, ↓reduceIte]; rfl) ?_
        refine rg_pureG (N := some 48) 30 false (undef) rfl rfl (by kernel_rfl) (fun _ _ _ h => h) (rg_wantT (B := false) rfl (by kernel_rfl)) (fun hb_ w' => by cases hb_) (by simp only [Act.put, List.setIfInBounds_toArray, List.set_cons_zero, List.set_cons_succ, ↓reduceIte]; rfl) ?_
        refine rg_pureG (N := some 49) 31 false (undef) rfl rfl (by kernel_rfl) (fun _ _ _ h => h) (rg_wantT (B := false) rfl (by kernel_rfl)) (fun hb_ w' => by cases hb_) (by simp only [Act.put, List.setIfInBounds_toArray, List.set_cons_zero, List.set_cons_succ, ↓reduceIte]; rfl) ?_
        refine rg_loadG (N := some 37) 19 false undef rfl rfl (by kernel_rfl) (fun _ _ _ h => h) (rg_wantT (B := false) rfl (by kernel_rfl)) hq1 (fun hb_ w' hS' => by cases hb_) (by simp only [Act.put, List.setIfInBounds_toArray, List.set_cons_zero, List.set_cons_succ, ↓reduceIte]; rfl) ?_
        refine rg_loadG (N := some 41) 23 false undef rfl rfl (by kernel_rfl) (fun _ _ _ h => h) (rg_wantT (B := false) rfl (by kernel_rfl)) hq1 (fun hb_ w' hS' => by cases hb_) (by simp only [Act.put, List.setIfInBounds_toArray, List.set_cons_zero, List.set_cons_succ, ↓reduceIte]; rfl) ?_
        refine rg_loadG (N := some 46) 28 false undef rfl rfl (by kernel_rfl) (fun _ _ _ h => h) (rg_wantT (B := false) rfl (by kernel_rfl)) hq1 (fun hb_ w' hS' => by cases hb_) (by simp only [Act.put, List.setIfInBounds_toArray, List.set_cons_zero, List.set_cons_succ, ↓reduceIte]; rfl) ?_
        refine rg_loadG (N := some 50) 32 false undef rfl rfl (by kernel_rfl) (fun _ _ _ h => h) (rg_wantT (B := false) rfl (by kernel_rfl)) hq1 (fun hb_ w' hS' => by cases hb_) (by simp only [Act.put, List.setIfInBounds_toArray, List.set_cons_zero, List.set_cons_succ, ↓reduceIte]; rfl) ?_
        refine rg_call (N := some 42) 24 false undef #[] rfl rfl (by kernel_rfl) (by decide) (rg_wantT (B := false) rfl (by kernel_rfl)) Tryd.func23 (by kernel_rfl) rfl rfl (fun hb_ => by cases hb_) hq1 (fun hb_ => by cases hb_) (by simp only [Act.put, List.setIfInBounds_toArray, List.set_cons_zero, List.set_cons_succ, ↓reduceIte]; rfl) (fun wq2 hq2 => ?_)
        refine rg_call (N := some 51) 33 false undef #[] rfl rfl (by kernel_rfl) (by decide) (rg_wantT (B := false) rfl (by kernel_rfl)) Tryd.func24 (by kernel_rfl) rfl rfl (fun hb_ => by cases hb_) hq2 (fun hb_ => by cases hb_) (by simp only [Act.put, List.setIfInBounds_toArray, List.set_cons_zero, List.set_cons_succ, ↓reduceIte]; rfl) (fun wq3 hq3 => ?_)
        refine rg_pureG (N := some 52) 34 false (undef) rfl rfl (by kernel_rfl) (fun _ _ _ h => h) (rg_wantT (B := false) rfl (by kernel_rfl)) (fun hb_ w' => by cases hb_) (by simp only [Act.put, List.setIfInBounds_toArray, List.set_cons_zero, List.set_cons_succ, ↓reduceIte]; rfl) ?_
        refine rg_pureG (N := some 53) 35 true (.bool false) rfl rfl (by kernel_rfl) (fun _ _ _ h => h) (rg_wantF (B := false) rfl (by kernel_rfl)) (fun hb_ w' => by go_simp <;> with_reducible rfl) (by simp only [Act.put, List.setIfInBounds_toArray, List.set_cons_zero, List.set_cons_succ, ↓reduceIte]; rfl) ?_
        refine rg_pure (N := some 54) 36 (v := .bool false) rfl rfl (by kernel_rfl) (fun _ _ _ h => h) rfl (fun w' => by go_simp <;> with_reducible rfl) (by simp only [Act.put, List.setIfInBounds_toArray, List.set_cons_zero, List.set_cons_succ, ↓reduceIte]; rfl) ?_
        refine rg_done (by kernel_rfl) ?_
        have HBQ := Aside0.mk (show Below wr.heap.size wr _ from hq3)
        go_wp2_with fail
        go_roundw
        case rel => exact ⟨x6 + 1, by go_num, by omega, by omega, below_step HBR.out HBQ.out⟩
        case measure => simp [intOf]; omega
    · have hd : decide (x6 < (a.length : Int)) = false := decide_eq_false hlt
      obtain ⟨M, hM, hMa⟩ := sm_max a HIa.out
      have HS1 := Aside0.mk ((pl_sameL a a (by omega) M hM hMa (a.length + M + 2) (by omega)).trans (congrArg some (rs_reflL a)))
      have HS2 := Aside0.mk (pl_sameL a b (by omega) M hM hMa (a.length + M + 2) (by omega))
      have HS3 := Aside0.mk (rs_sameL a b (by omega) M hM hMa (a.length + M + 2) (by omega))
      have HCA := Aside0.mk hCa
      have HCB := Aside0.mk hCb
      have he : (m_sameL a b == m_sameL a b) = true := by simp
      clear hM hMa hCa hCb
      go_wp2_with (go_at_call 25; refine Rg.stop_here ?_)
      refine ⟨?_⟩
      refine (block_SameList.calls _ Aa ca a Aa ca a true _ HCA.out hca HCA.out hca HS1.out).mono ?_
      rintro e w8 ⟨rfl, hb8⟩
      have HCA8 := Aside0.mk (Kd.C_below HCA.out hb8)
      have HCB8 := Aside0.mk (Kd.C_below HCB.out hb8)
      have HB8 := Aside0.mk (below_step HBR.out hb8)
      clear hb8
      go_wp2_with (go_at_call 25; refine Rg.stop_here ?_)
      refine ⟨?_⟩
      refine (block_SameList.calls _ Aa ca a Ab cb b _ _ HCA8.out hca HCB8.out hcb HS2.out).mono ?_
      rintro e w9 ⟨rfl, hb9⟩
      have HCA9 := Aside0.mk (Kd.C_below HCA8.out hb9)
      have HCB9 := Aside0.mk (Kd.C_below HCB8.out hb9)
      have HB9 := Aside0.mk (below_step HB8.out hb9)
      clear hb9
      go_wp2_with (go_at_call 26; refine Rg.stop_here ?_)
      refine ⟨?_⟩
      refine (copydeskref03_SameList.calls _ Aa ca a Ab cb b _ _ HCA9.out hca HCB9.out hcb HS3.out).mono ?_
      rintro e w10 ⟨rfl, hb10⟩
      have HB10 := Aside0.mk (below_step HB9.out hb10)
      clear hb10
      go_wp2
      go_ret
      exact ⟨rfl, below_step HB3.out HB10.out⟩
end Go.Proofs.YtpgjhjlhipikgaaDoor.PK
end
section
set_option linter.unusedVariables false
set_option linter.unusedSimpArgs false
namespace Go.Proofs.YtpgjhjlhipikgaaDoor.Pure
open Go.RowKit Go.Proofs.YtpgjhjlhipikgaaDoor.PK Go.Proofs.YtpgjhjlhipikgaaDoorW.PrintWords Go.Proofs.YtpgjhjlhipikgaaDoorW.PrintLast
theorem BlockSameMatchesReference (l0 : List Bl) (h0 : l0.length ≤ 9223372036854775807) (l1 : List Bl) (h1 : l1.length ≤ 9223372036854775807) : ∃ k, copydesklaw03_BlockSameMatchesReference.f k l0 l1 = some true :=
  ⟨0, rfl⟩
end Go.Proofs.YtpgjhjlhipikgaaDoor.Pure
end
section
set_option linter.unusedVariables false
set_option linter.unusedSimpArgs false
namespace Go.Proofs.YtpgjhjlhipikgaaDoor.PK
open Go.RowKit Go.Proofs.YtpgjhjlhipikgaaDoorW.PrintWords Go.Proofs.YtpgjhjlhipikgaaDoorW.PrintLast Go.Proofs.YtpgjhjlhipikgaaDoorW.PrintMore Go.ChangeShapes Go.WideShapes Go.ChangeAt
section
variable {H : Type} {enc : TypeId × Value → H} {W : World} {base : Nat} {spare : Nat → Bool} {held : Bool}
theorem op_c3 : Tryd.prog.cellsOf 3 = 1 := by kernel_rfl
theorem op_c9 : Tryd.prog.cellsOf 9 = 1 := by kernel_rfl
theorem op_c22 : Tryd.prog.cellsOf 22 = 1 := by kernel_rfl
theorem op_c24 : Tryd.prog.cellsOf 24 = 4 := by kernel_rfl
theorem op_c26 : Tryd.prog.cellsOf 26 = 9 := by kernel_rfl
theorem op_ints {fuel : Nat} {v : Value} {x : DataW H × List MemPlace} (h : DataW.trod enc Tryd.prog W base spare held fuel 22 [v] = some x) :
    ∃ (A : Option Addr) (l : List Int) (c : Nat), v = .slice A l.length c ∧ l.length ≤ c ∧ Kd.C (Kd.int .i64) W A l.length l := by
  rcases open_ints Tryd.underlying22 Tryd.underlying3 op_c3 h with ⟨hcs, _⟩ | ⟨a, len, cap, zs, hcs, _, hl, hm, hz, _, hcell, _⟩
  · have hv : v = .slice none 0 0 := by simpa using hcs
    exact ⟨none, [], 0, hv, Nat.le_refl _, rfl, by simp, fun h => absurd h (by simp)⟩
  · have hv : v = .slice (some a) len cap := by simpa using hcs
    have hlz : len ≤ zs.length := by rw [hz]; split <;> omega
    have hlen : (zs.take len).length = len := by rw [List.length_take]; omega
    have hmx : len ≤ 9223372036854775807 := by unfold maxLen at hm; omega
    refine ⟨some a, zs.take len, cap, by rw [hlen]; exact hv, by rw [hlen]; exact hl, rfl, by rw [hlen]; exact hmx, fun _ => ⟨a, rfl, fun j p hp => ⟨[.int .i64 p], rfl, rfl, fun i u hu => ?_⟩⟩⟩
    have hi : i = 0 := by
      have := (List.getElem?_eq_some_iff.1 hu).1
      simp at this; exact this
    subst hi
    have hu' : u = .int .i64 p := (Option.some.inj hu).symm
    subst hu'
    have hj := (List.getElem?_eq_some_iff.1 hp).1
    rw [hlen] at hj
    have hc := hcell j (by omega)
    rw [List.getElem?_take_of_lt hj] at hp
    rw [List.getD_eq_getElem?_getD, hp] at hc
    show W.cell? (a.add (j * 1 + 0)) = _
    rw [Nat.mul_one, Nat.add_zero]
    exact hc
theorem op_six {α : Type} (xs : List α) (h : xs.length = 6) : ∃ a b c d e f, xs = [a, b, c, d, e, f] := by
  match xs, h with
  | [a, b, c, d, e, f], _ => exact ⟨a, b, c, d, e, f, rfl⟩
theorem op_four {α : Type} (xs : List α) (h : xs.length = 4) : ∃ a b c d, xs = [a, b, c, d] := by
  match xs, h with
  | [a, b, c, d], _ => exact ⟨a, b, c, d, rfl⟩
theorem op_nine {α : Type} (xs : List α) (h : xs.length = 9) : ∃ a b c d e f g i j, xs = [a, b, c, d, e, f, g, i, j] := by
  match xs, h with
  | [a, b, c, d, e, f, g, i, j], _ => exact ⟨a, b, c, d, e, f, g, i, j, rfl⟩
theorem op_block {fuel : Nat} {cs : List Value} {x : DataW H × List MemPlace} (h : DataW.trod enc Tryd.prog W base spare held fuel 26 cs = some x) :
    ∃ (b : S26) (A : Option Addr) (c : Nat), cs = [.int .i64 b.f0, .int .i64 b.f1, .string b.f2, .int .i64 b.f3, .int .i64 b.f4, .int .i64 b.f5.f0, .slice A b.f5.f1.length c, .int .i64 b.f5.f2, .int .i64 b.f5.f3] ∧
      b.f5.f1.length ≤ c ∧ Kd.C (Kd.int .i64) W A b.f5.f1.length b.f5.f1 := by
  obtain ⟨xs, n, _, _, hlen, hxl, hel⟩ := DataW.trod_struct Tryd.underlying26 h
  rw [op_c26] at hlen
  obtain ⟨c0, c1, c2, c3, c4, c5, c6, c7, c8, rfl⟩ := op_nine cs hlen
  obtain ⟨y0, y1, y2, y3, y4, y5, rfl⟩ := op_six xs hxl
  have e0 : DataW.trod enc Tryd.prog W base spare held n 3 (([c0, c1, c2, c3, c4, c5, c6, c7, c8].drop 0).take (Tryd.prog.cellsOf 3)) = some y0 := hel 0 _ rfl
  have e1 : DataW.trod enc Tryd.prog W base spare held n 3 (([c0, c1, c2, c3, c4, c5, c6, c7, c8].drop 1).take (Tryd.prog.cellsOf 3)) = some y1 := hel 1 _ rfl
  have e2 : DataW.trod enc Tryd.prog W base spare held n 9 (([c0, c1, c2, c3, c4, c5, c6, c7, c8].drop 2).take (Tryd.prog.cellsOf 9)) = some y2 := hel 2 _ rfl
  have e3 : DataW.trod enc Tryd.prog W base spare held n 3 (([c0, c1, c2, c3, c4, c5, c6, c7, c8].drop 3).take (Tryd.prog.cellsOf 3)) = some y3 := hel 3 _ rfl
  have e4 : DataW.trod enc Tryd.prog W base spare held n 3 (([c0, c1, c2, c3, c4, c5, c6, c7, c8].drop 4).take (Tryd.prog.cellsOf 3)) = some y4 := hel 4 _ rfl
  have e5 : DataW.trod enc Tryd.prog W base spare held n 24 (([c0, c1, c2, c3, c4, c5, c6, c7, c8].drop 5).take (Tryd.prog.cellsOf 24)) = some y5 := hel 5 _ rfl
  rw [op_c3] at e0 e1 e3 e4
  rw [op_c9] at e2
  rw [op_c24] at e5
  obtain ⟨n0, g0, _, _⟩ := DataW.trod_int Tryd.underlying3 (show DataW.trod enc Tryd.prog W base spare held n 3 [c0] = some y0 from e0)
  obtain ⟨n1, g1, _, _⟩ := DataW.trod_int Tryd.underlying3 (show DataW.trod enc Tryd.prog W base spare held n 3 [c1] = some y1 from e1)
  obtain ⟨s2, g2, _, _⟩ := DataW.trod_string Tryd.underlying9 (show DataW.trod enc Tryd.prog W base spare held n 9 [c2] = some y2 from e2)
  obtain ⟨n3, g3, _, _⟩ := DataW.trod_int Tryd.underlying3 (show DataW.trod enc Tryd.prog W base spare held n 3 [c3] = some y3 from e3)
  obtain ⟨n4, g4, _, _⟩ := DataW.trod_int Tryd.underlying3 (show DataW.trod enc Tryd.prog W base spare held n 3 [c4] = some y4 from e4)
  obtain ⟨zs, m, _, _, _, hzl, hez⟩ := DataW.trod_struct Tryd.underlying24 (show DataW.trod enc Tryd.prog W base spare held n 24 [c5, c6, c7, c8] = some y5 from e5)
  obtain ⟨z0, z1, z2, z3, rfl⟩ := op_four zs hzl
  have f0 : DataW.trod enc Tryd.prog W base spare held m 3 (([c5, c6, c7, c8].drop 0).take (Tryd.prog.cellsOf 3)) = some z0 := hez 0 _ rfl
  have f1 : DataW.trod enc Tryd.prog W base spare held m 22 (([c5, c6, c7, c8].drop 1).take (Tryd.prog.cellsOf 22)) = some z1 := hez 1 _ rfl
  have f2 : DataW.trod enc Tryd.prog W base spare held m 3 (([c5, c6, c7, c8].drop 2).take (Tryd.prog.cellsOf 3)) = some z2 := hez 2 _ rfl
  have f3 : DataW.trod enc Tryd.prog W base spare held m 3 (([c5, c6, c7, c8].drop 3).take (Tryd.prog.cellsOf 3)) = some z3 := hez 3 _ rfl
  rw [op_c3] at f0 f2 f3
  rw [op_c22] at f1
  obtain ⟨n5, g5, _, _⟩ := DataW.trod_int Tryd.underlying3 (show DataW.trod enc Tryd.prog W base spare held m 3 [c5] = some z0 from f0)
  obtain ⟨A, l, c, g6, hl, hC⟩ := op_ints (show DataW.trod enc Tryd.prog W base spare held m 22 [c6] = some z1 from f1)
  obtain ⟨n7, g7, _, _⟩ := DataW.trod_int Tryd.underlying3 (show DataW.trod enc Tryd.prog W base spare held m 3 [c7] = some z2 from f2)
  obtain ⟨n8, g8, _, _⟩ := DataW.trod_int Tryd.underlying3 (show DataW.trod enc Tryd.prog W base spare held m 3 [c8] = some z3 from f3)
  refine ⟨⟨n0, n1, s2, n3, n4, ⟨n5, l, n7, n8⟩⟩, A, c, ?_, hl, hC⟩
  rw [List.cons.inj g0 |>.1, List.cons.inj g1 |>.1, List.cons.inj g2 |>.1, List.cons.inj g3 |>.1, List.cons.inj g4 |>.1, List.cons.inj g5 |>.1, g6, List.cons.inj g7 |>.1, List.cons.inj g8 |>.1]
theorem op_choose {α : Type} (P : Nat → α → Prop) : ∀ n, (∀ i, i < n → ∃ b, P i b) → ∃ bs : List α, bs.length = n ∧ ∀ i b, bs[i]? = some b → P i b
  | 0, _ => ⟨[], rfl, by simp⟩
  | n + 1, h => by
    obtain ⟨bs, h1, h2⟩ := op_choose P n (fun i hi => h i (by omega))
    obtain ⟨b, hb⟩ := h n (by omega)
    refine ⟨bs ++ [b], by simp [h1], fun i c hc => ?_⟩
    by_cases hi : i < n
    · rw [List.getElem?_append_left (by omega)] at hc
      exact h2 i c hc
    · have hl := (List.getElem?_eq_some_iff.1 hc).1
      simp [h1] at hl
      have : i = n := by omega
      subst this
      rw [List.getElem?_append_right (by omega), h1, Nat.sub_self] at hc
      have : b = c := by simpa using hc
      subst this
      exact hb
theorem op_blocks {a : Option Addr} {len cap : Nat} {d : DataW H} {ps : List MemPlace} (h : DataW.Trod enc Tryd.prog W base spare held 27 (.slice a len cap) d ps) :
    ∃ bs : List (S26), len = bs.length ∧ bs.length ≤ cap ∧ Kd.C k26 W a bs.length bs := by
  obtain ⟨fuel, hf⟩ := h
  have hf' : DataW.trod enc Tryd.prog W base spare held fuel 27 [.slice a len cap] = some (d, ps) := hf
  rcases DataW.trod_slice Tryd.underlying27 hf' with ⟨hcs, _⟩ | ⟨ad, len', cap', elems, rest, n, _, hcs, _, _, hl, hm, hel, hx, _, _⟩
  · have hv : (.slice a len cap : Value) = .slice none 0 0 := by simpa using hcs
    injection hv with h1 h2 h3
    subst h1; subst h2; subst h3
    exact ⟨[], rfl, Nat.le_refl _, rfl, by simp, fun h => absurd h (by simp)⟩
  · have hv : (.slice a len cap : Value) = .slice (some ad) len' cap' := by simpa using hcs
    injection hv with h1 h2 h3
    subst h1; subst h2; subst h3
    obtain ⟨bs, hbl, hb⟩ := op_choose (fun i (b : S26) => ∃ (A : Option Addr) (c : Nat), b.f5.f1.length ≤ c ∧ Kd.C (Kd.int .i64) W A b.f5.f1.length b.f5.f1 ∧ ∀ j u, ([.int .i64 b.f0, .int .i64 b.f1, .string b.f2, .int .i64 b.f3, .int .i64 b.f4, .int .i64 b.f5.f0, .slice A b.f5.f1.length c, .int .i64 b.f5.f2, .int .i64 b.f5.f3] : List Value)[j]? = some u → W.cell? (ad.add (i * 9 + j)) = some u) len (fun i hi => by
      have hxi := hx i hi
      rw [List.getElem?_eq_getElem (by omega)] at hxi
      obtain ⟨cs, hcs, ht⟩ := Option.bind_eq_some_iff.1 hxi
      rw [op_c26] at hcs
      obtain ⟨_, h9, hcell⟩ := World.cells?_some hcs
      obtain ⟨b, A, c, rfl, h6, hC⟩ := op_block ht
      refine ⟨b, A, c, h6, hC, fun j u hu => ?_⟩
      have hj := (List.getElem?_eq_some_iff.1 hu).1
      have := hcell j (by simpa using hj)
      rw [Addr.add_add, hu] at this
      exact this)
    subst hbl
    refine ⟨bs, rfl, hl, rfl, by unfold maxLen at hm; omega, fun _ => ⟨ad, rfl, fun j p hp => ?_⟩⟩
    obtain ⟨A, c, h6, hC, hc⟩ := hb j p hp
    exact ⟨_, rfl, k26_mk W p h6 hC, fun i u hu => hc i u hu⟩
end
end Go.Proofs.YtpgjhjlhipikgaaDoor.PK
end
