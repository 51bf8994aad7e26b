/- Texts of this claim, one behind the other. -/
import Derived.Test.YtkhgdglaophkbaaGreatDoorMUx2
import Derived.Test.YtkhgdglaophkbaaGreatDoorMUx9
import Derived.Test.YtkhgdglaophkbaaGreatDoorMUx10
import Derived.Test.YtkhgdglaophkbaaGreatDoorMUx4
import Derived.Deep.Cut
import Derived.Deep.RegionWith
import Derived.Test.YtkhgdglaophkbaaGreatDoorMUx7
import Derived.Test.YtkhgdglaophkbaaGreatDoorMUx8
import Derived.Test.YtkhgdglaophkbaaGreatDoorMUx3
import Derived.Deep.DeepMust
import Derived.Shelf.Abstract
import Derived.Lib.VarintBits
import Derived.Lib.Zigzag
import Derived.Maps.OwnIn
import Derived.Test.YtkhgdglaophkbaaGreatDoorMUx6
import Derived.Test.YtkhgdglaophkbaaGreatDoorMUx5
section
namespace Go.Proofs.YtkhgdglaophkbaaGreatDoor.PK
open Go.RowKit Go.Proofs.YtkhgdglaophkbaaGreatDoorW.PrintWords Go.Proofs.YtkhgdglaophkbaaGreatDoorW.PrintLast Go.Proofs.YtkhgdglaophkbaaGreatDoorW.PrintMore
attribute [local go_sem] max2_int min2_int max_two min_two max_three min_three max_four min_four   -- for this text's walks alone
set_option linter.unusedVariables false
set_option linter.unusedSimpArgs false
theorem rv_rdn (l : List Int) (x : Nat) (h : x < l.length) : rd l (x : Int) = l[x] := by
  simp [rd, List.getD_eq_getElem?_getD, h]
theorem rv_eqi (a b : List Int) (hab : a.length = b.length) (hl : a.length ≤ 9223372036854775807) : ∀ (d k x : Nat), x + d = a.length → d < k →
    slices_Equal_int_int.l0 k a b (a.length : Int) (x : Int) = some (decide (a.drop x = b.drop x))
  | 0, k, x, hx, hk => by
    obtain ⟨k, rfl⟩ : ∃ j, k = j + 1 := ⟨k - 1, by omega⟩
    rw [slices_Equal_int_int.l0, if_neg (by omega), List.drop_eq_nil_of_le (by omega), List.drop_eq_nil_of_le (by omega)]; simp
  | d + 1, k, x, hx, hk => by
    obtain ⟨k, rfl⟩ : ∃ j, k = j + 1 := ⟨k - 1, by omega⟩
    have hlt : x < a.length := by omega
    have hlt2 : x < b.length := by omega
    have hw : wrap64 ((x : Int) + 1) = ((x + 1 : Nat) : Int) := by unfold wrap64; omega
    rw [slices_Equal_int_int.l0, if_pos (by omega), if_pos (by omega), if_pos (by omega), if_pos (by omega), rv_rdn a x hlt, rv_rdn b x hlt2, hw, rv_eqi a b hab hl d k (x + 1) (by omega) (by omega), List.drop_eq_getElem_cons hlt, List.drop_eq_getElem_cons hlt2]
    by_cases h : a[x] = b[x]
    · rw [if_pos h]; exact congrArg some (decide_eq_decide.2 ⟨fun e => by rw [h, e], fun e => (List.cons.inj e).2⟩)
    · rw [if_neg h]; exact congrArg some (decide_eq_false (fun e => h (List.cons.inj e).1)).symm
theorem rv_eqI (a b : List Int) (hl : a.length ≤ 9223372036854775807) (k : Nat) (hk : a.length < k) : slices_Equal_int_int.f k a b = some (decide (a = b)) := by
  unfold slices_Equal_int_int.f
  by_cases h : a.length = b.length
  · rw [if_pos (by omega)]
    exact rv_eqi a b h hl a.length k 0 (by omega) hk
  · rw [if_neg (by omega), decide_eq_false (fun e => h (by rw [e]))]
theorem rv_labelSame (u : Int) (l : List Int) (a d : Int) (u' : Int) (l' : List Int) (a' d' : Int) (hl : l.length ≤ 9223372036854775807) (k : Nat) (hk : l.length < k) :
    label_Same.f k u l a d u' l' a' d' = some (decide (u = u') && decide (l = l') && decide (a = a') && decide (d = d')) := by
  unfold label_Same.f
  rw [rv_eqI l l' hl k hk]
  by_cases h1 : u = u'
  · rw [if_pos h1]
    by_cases h2 : l = l'
    · by_cases h3 : a = a'
      · simp only [Option.bind_some, h1, h2, h3]; simp; by_cases h4 : d = d' <;> simp [h4]
      · simp [h1, h2, h3]
    · simp [h1, h2]
  · rw [if_neg h1]; simp [h1]
theorem rv_same (x y : Bl) (hl : x.f5.f1.length ≤ 9223372036854775807) (k : Nat) (hk : x.f5.f1.length < k) :
    block_Same.f k x.f0 x.f1 x.f2 x.f3 x.f4 x.f5.f0 x.f5.f1 x.f5.f2 x.f5.f3 y.f0 y.f1 y.f2 y.f3 y.f4 y.f5.f0 y.f5.f1 y.f5.f2 y.f5.f3 = some (m_same x y) := by
  unfold block_Same.f m_same
  rw [rv_labelSame _ _ _ _ _ _ _ _ hl k hk]
  simp only [ByteArray.toList_eq, Option.bind_some]
  by_cases h1 : x.f0 = y.f0 <;> by_cases h2 : x.f1 = y.f1 <;> by_cases h3 : x.f2.data.toList = y.f2.data.toList <;> by_cases h4 : x.f3 = y.f3 <;> by_cases h5 : x.f4 = y.f4 <;> simp [h1, h2, h3, h4, h5, Bool.and_assoc]
theorem rv_rdT (l : List Bl) (j : Nat) (h : j < l.length) : rd_T49 l (j : Int) = l[j] := by
  simp [rd_T49, List.getD_eq_getElem?_getD, h]
theorem rv_sameGo (a b : List Bl) (hab : a.length = b.length) (hl : a.length ≤ 9223372036854775807) (M : Nat) (hM : M ≤ 9223372036854775807) (ha : ∀ x ∈ a, x.f5.f1.length ≤ M) : ∀ (d k x : Nat), x + d = a.length → d + M + 1 < k →
    api_Block_at_block_Same.l0 k b a (a.length : Int) (x : Int) = some (m_sameL (a.drop x) (b.drop x))
  | 0, k, x, hx, hk => by
    obtain ⟨k, rfl⟩ : ∃ j, k = j + 1 := ⟨k - 1, by omega⟩
    rw [api_Block_at_block_Same.l0, if_neg (by omega), List.drop_eq_nil_of_le (by omega), List.drop_eq_nil_of_le (by omega)]; rfl
  | d + 1, k, x, hx, hk => by
    obtain ⟨k, rfl⟩ : ∃ j, k = j + 1 := ⟨k - 1, by omega⟩
    have hlt : x < a.length := by omega
    have hlt2 : x < b.length := by omega
    have hw : wrap64 ((x : Int) + 1) = ((x + 1 : Nat) : Int) := by unfold wrap64; omega
    have hx1 := ha a[x] (List.getElem_mem hlt)
    rw [api_Block_at_block_Same.l0, if_pos (by omega), if_pos (by omega), if_pos (by omega), if_pos (by omega), rv_rdT a x hlt, rv_rdT b x hlt2, rv_same a[x] b[x] (by omega) k (by omega), hw, rv_sameGo a b hab hl M hM ha d k (x + 1) (by omega) (by omega), List.drop_eq_getElem_cons hlt, List.drop_eq_getElem_cons hlt2, m_sameL]
    cases m_same a[x] b[x] <;> rfl
theorem rv_sameL_len : ∀ (a b : List Bl), a.length ≠ b.length → m_sameL a b = false
  | [], [], h => absurd rfl h
  | [], _ :: _, _ => rfl
  | _ :: _, [], _ => rfl
  | x :: a, y :: b, h => by rw [m_sameL, rv_sameL_len a b (by simpa using h), Bool.and_false]
theorem rv_sameL (a b : List Bl) (hl : a.length ≤ 9223372036854775807) (M : Nat) (hM : M ≤ 9223372036854775807) (ha : ∀ x ∈ a, x.f5.f1.length ≤ M) (k : Nat) (hk : a.length + M + 1 < k) : block_SameList.f k a b = some (m_sameL a b) := by
  unfold block_SameList.f api_Block_at_block_Same.f
  by_cases h : a.length = b.length
  · rw [if_pos (by omega)]
    have := rv_sameGo a b h hl M hM ha a.length k 0 (by omega) hk
    simp only [List.drop_zero] at this
    exact congrArg (fun o : Option Bool => o.bind fun t => some t) this
  · rw [if_neg (by omega), rv_sameL_len a b h]; rfl
theorem fs_drawn {W w' : World} (h : Drawn0 W w') : ∃ m, w' = W.drewN m := by
  obtain ⟨m, h⟩ := h
  exact ⟨m, by subst h; rfl⟩
theorem fs_se {a b : ByteArray} {E : Bool} (h : decide (a = b) = E) : (a.toList == b.toList) = E ∧ decide (a.toList = b.toList) = E := by
  have e : (a.toList = b.toList) ↔ a = b := ⟨fun e => cd_ba_inj _ _ (by rw [← ByteArray.toList_eq, ← ByteArray.toList_eq]; exact e), fun e => by rw [e]⟩
  have e2 : decide (a.toList = b.toList) = decide (a = b) := decide_eq_decide.2 e
  refine ⟨?_, e2.trans h⟩
  rw [← h, ← e2, Bool.eq_iff_iff, beq_iff_eq, decide_eq_true_eq]
theorem fs_rd (l : List ByteArray) (x : Nat) (h : x < l.length) : rdOf ByteArray.empty l (x : Int) = l[x] := by
  simp [rdOf, List.getD_eq_getElem?_getD, h]
theorem fs_eqGo (a b : List ByteArray) (hab : a.length = b.length) (hl : a.length ≤ 9223372036854775807) : ∀ (d k x : Nat), x + d = a.length → d < k →
    slices_Equal_string_string.l0 k a b (a.length : Int) (x : Int) = some (decide (a.drop x = b.drop x))
  | 0, k, x, hx, hk => by
    obtain ⟨k, rfl⟩ : ∃ j, k = j + 1 := ⟨k - 1, by omega⟩
    rw [slices_Equal_string_string.l0, if_neg (by omega), List.drop_eq_nil_of_le (by omega), List.drop_eq_nil_of_le (by omega)]; simp
  | d + 1, k, x, hx, hk => by
    obtain ⟨k, rfl⟩ : ∃ j, k = j + 1 := ⟨k - 1, by omega⟩
    have hlt : x < a.length := by omega
    have hlt2 : x < b.length := by omega
    have hw : wrap64 ((x : Int) + 1) = ((x + 1 : Nat) : Int) := by unfold wrap64; omega
    rw [slices_Equal_string_string.l0, if_pos (by omega), if_pos (by omega), if_pos (by omega), if_pos (by omega), fs_rd a x hlt, fs_rd b x hlt2, hw, fs_eqGo a b hab hl d k (x + 1) (by omega) (by omega), List.drop_eq_getElem_cons hlt, List.drop_eq_getElem_cons hlt2]
    by_cases h : a[x] = b[x]
    · rw [if_pos (by rw [h])]; exact congrArg some (decide_eq_decide.2 ⟨fun e => by rw [h, e], fun e => (List.cons.inj e).2⟩)
    · rw [if_neg (fun e => h (cd_ba_inj _ _ (by rw [← ByteArray.toList_eq, ← ByteArray.toList_eq]; exact e)))]; exact congrArg some (decide_eq_false (fun e => h (List.cons.inj e).1)).symm
theorem fs_eq (a b : List ByteArray) (hl : a.length ≤ 9223372036854775807) (k : Nat) (hk : a.length < k) : slices_Equal_string_string.f k a b = some (decide (a = b)) := by
  unfold slices_Equal_string_string.f
  by_cases h : a.length = b.length
  · rw [if_pos (by omega)]
    exact fs_eqGo a b h hl a.length k 0 (by omega) hk
  · rw [if_neg (by omega), decide_eq_false (fun e => h (by rw [e]))]
theorem fs_inner {w : World} {A : Option Addr} {l : List Bl} (h : Kd.C k49 w A l.length l) : ∀ b ∈ l, b.f5.f1.length ≤ 9223372036854775807 := by
  intro b hb
  obtain ⟨j, hj, rfl⟩ := List.mem_iff_getElem.1 hb
  obtain ⟨ad, A6, c6, e, g0, g1, g2, g3, g4, g5, g6, g7, g8, hl, hi⟩ := at_T49 h (j : Int) (by omega) (by omega)
  rw [bk_rd l j hj] at hi
  exact Kd.C_max hi
theorem fs_pairAt : ∀ (ps : List (Int × Int)) (k : Nat) (h : k < ps.length), (ps.flatMap (fun p => [Value.int .i64 p.1, Value.int .i64 p.2]))[k * 2]? = some (.int .i64 ps[k].1) ∧ (ps.flatMap (fun p => [Value.int .i64 p.1, Value.int .i64 p.2]))[k * 2 + 1]? = some (.int .i64 ps[k].2)
  | [], k, h => by simp at h
  | p :: ps, 0, h => ⟨rfl, rfl⟩
  | p :: ps, k + 1, h => by
    have := fs_pairAt ps k (by simpa using h)
    rw [show (k + 1) * 2 = k * 2 + 2 by omega, show k * 2 + 2 + 1 = k * 2 + 1 + 2 by omega]
    exact this
def fact_Same.f (k : Nat) (a b : Fa) : Option Bool := some (m_fsame a b)
set_option maxHeartbeats 8000000 in
set_option maxRecDepth 100000 in
theorem fact_Same.walk (f g : Fa) (A9f : Option Addr) (c9f : Nat) (A10f : Option Addr) (c10f : Nat) (A12f : Option Addr) (c12f : Nat) (A9g : Option Addr) (c9g : Nat) (A10g : Option Addr) (c10g : Nat) (A12g : Option Addr) (c12g : Nat) (w : World)
    (l9f : f.f9.length ≤ c9f) (h9f : Kd.string.C w A9f f.f9.length f.f9) (l10f : f.f10.length ≤ c10f) (h10f : k49.C w A10f f.f10.length f.f10) (l12f : f.f11.f1.length ≤ c12f) (h12f : (Kd.int .i64).C w A12f f.f11.f1.length f.f11.f1)
    (l9g : g.f9.length ≤ c9g) (h9g : Kd.string.C w A9g g.f9.length g.f9) (l10g : g.f10.length ≤ c10g) (h10g : k49.C w A10g g.f10.length g.f10) (l12g : g.f11.f1.length ≤ c12g) (h12g : (Kd.int .i64).C w A12g g.f11.f1.length g.f11.f1) :
    Calls Tryz.prog 15 #[.agg #[.int .i64 f.f0, .int .i64 f.f1, .int .i64 f.f2, .int .i64 f.f3, .string f.f4, .int .i64 f.f5, .int .i64 f.f6, .string f.f7, .string f.f8, .slice A9f f.f9.length c9f, .slice A10f f.f10.length c10f, .int .i64 f.f11.f0, .slice A12f f.f11.f1.length c12f, .int .i64 f.f11.f2, .int .i64 f.f11.f3, .int .i64 f.f12, .int .i64 f.f13, .int .i64 f.f14, .string f.f15, .string f.f16, .int .i64 f.f17, .int .i64 f.f18, .int .i64 f.f19], .agg #[.int .i64 g.f0, .int .i64 g.f1, .int .i64 g.f2, .int .i64 g.f3, .string g.f4, .int .i64 g.f5, .int .i64 g.f6, .string g.f7, .string g.f8, .slice A9g g.f9.length c9g, .slice A10g g.f10.length c10g, .int .i64 g.f11.f0, .slice A12g g.f11.f1.length c12g, .int .i64 g.f11.f2, .int .i64 g.f11.f3, .int .i64 g.f12, .int .i64 g.f13, .int .i64 g.f14, .string g.f15, .string g.f16, .int .i64 g.f17, .int .i64 g.f18, .int .i64 g.f19]] w fun e w' => e = .returned (.bool (m_fsame f g)) ∧ Below w.heap.size w w' := by
  have HFS := Aside0.mk (show m_fsame f g = _ from rfl)
  have HT := Aside0.mk (fs_eq f.f9 g.f9 (Kd.C_max h9f) 9223372036854775808 (Nat.lt_succ_of_le (Kd.C_max h9f)))
  have HS := Aside0.mk (rv_sameL f.f10 g.f10 (Kd.C_max h10f) 9223372036854775807 (Nat.le_refl _) (fs_inner h10f) 27670116110564327424 (by have := Kd.C_max h10f; omega))
  have HL := Aside0.mk (rv_labelSame f.f11.f0 f.f11.f1 f.f11.f2 f.f11.f3 g.f11.f0 g.f11.f1 g.f11.f2 g.f11.f3 (Kd.C_max h12f) 9223372036854775808 (Nat.lt_succ_of_le (Kd.C_max h12f)))
  have H9F := Aside0.mk h9f
  have H10F := Aside0.mk h10f
  have H12F := Aside0.mk h12f
  have H9G := Aside0.mk h9g
  have H10G := Aside0.mk h10g
  have H12G := Aside0.mk h12g
  clear h9f h10f h12f h9g h10g h12g
  go_enter Tryz.func15, Tryz.ntmps15
  go_wp2_with (with_reducible refine is_box rfl ?_; refine Rg.stop_here ?_)
  refine ⟨?_⟩
  refine box_event rfl (N := 2) rfl (cs := #[.int .i64 f.f0, .int .i64 f.f1, .int .i64 f.f2, .int .i64 f.f3, .string f.f4, .int .i64 f.f5, .int .i64 f.f6, .string f.f7, .string f.f8, .slice A9f f.f9.length c9f, .slice A10f f.f10.length c10f, .int .i64 f.f11.f0, .slice A12f f.f11.f1.length c12f, .int .i64 f.f11.f2, .int .i64 f.f11.f3, .int .i64 f.f12, .int .i64 f.f13, .int .i64 f.f14, .string f.f15, .string f.f16, .int .i64 f.f17, .int .i64 f.f18, .int .i64 f.f19]) (t := 28) (by first | (go_simp; done) | (go_simp; rfl)) ?_
  intro p hp w1 hbx1 hb1
  have HB1 := Aside0.mk hb1
  have HX1 := Aside0.mk hbx1
  clear hp hb1 hbx1
  go_wp2_with (with_reducible refine is_box rfl ?_; refine Rg.stop_here ?_)
  refine ⟨?_⟩
  refine box_event rfl (N := 3) rfl (cs := #[.int .i64 g.f0, .int .i64 g.f1, .int .i64 g.f2, .int .i64 g.f3, .string g.f4, .int .i64 g.f5, .int .i64 g.f6, .string g.f7, .string g.f8, .slice A9g g.f9.length c9g, .slice A10g g.f10.length c10g, .int .i64 g.f11.f0, .slice A12g g.f11.f1.length c12g, .int .i64 g.f11.f2, .int .i64 g.f11.f3, .int .i64 g.f12, .int .i64 g.f13, .int .i64 g.f14, .string g.f15, .string g.f16, .int .i64 g.f17, .int .i64 g.f18, .int .i64 g.f19]) (t := 28) (by first | (go_simp; done) | (go_simp; rfl)) ?_
  intro q hq w2 hbx2 hb2
  have HXf := Aside0.mk (bk_heap_below HX1.out hb2)
  have HXg := Aside0.mk hbx2
  have HB2 := Aside0.mk (below_step HB1.out hb2)
  clear hq hbx2 hb2
  have cf9 := bk_cell HXf.out 9
  have cf10 := bk_cell HXf.out 10
  have cf11 := bk_cell HXf.out 11
  have cf12 := bk_cell HXf.out 12
  have cf13 := bk_cell HXf.out 13
  have cf14 := bk_cell HXf.out 14
  have cg9 := bk_cell HXg.out 9
  have cg10 := bk_cell HXg.out 10
  have cg11 := bk_cell HXg.out 11
  have cg12 := bk_cell HXg.out 12
  have cg13 := bk_cell HXg.out 13
  have cg14 := bk_cell HXg.out 14
  obtain ⟨T, hT⟩ : ∃ T, decide (f.f9 = g.f9) = T := ⟨_, rfl⟩
  obtain ⟨S, hS⟩ : ∃ S, m_sameL f.f10 g.f10 = S := ⟨_, rfl⟩
  obtain ⟨L, hL⟩ : ∃ L, (decide (f.f11.f0 = g.f11.f0) && decide (f.f11.f1 = g.f11.f1) && decide (f.f11.f2 = g.f11.f2) && decide (f.f11.f3 = g.f11.f3)) = L := ⟨_, rfl⟩
  rw [hT] at HT
  rw [hS] at HS
  rw [hL] at HL
  have HTE := Aside0.mk hT
  have HSE := Aside0.mk hS
  have HLE := Aside0.mk hL
  clear hT hS hL
  go_upto_region 1 with fail
  go_cut [5] from 9 to 28 (fun v5 wx => v5 = .bool (T && S && L) ∧ Below w.heap.size w wx ∧ wx.heap[p]? = some (.cells #[.int .i64 f.f0, .int .i64 f.f1, .int .i64 f.f2, .int .i64 f.f3, .string f.f4, .int .i64 f.f5, .int .i64 f.f6, .string f.f7, .string f.f8, .slice A9f f.f9.length c9f, .slice A10f f.f10.length c10f, .int .i64 f.f11.f0, .slice A12f f.f11.f1.length c12f, .int .i64 f.f11.f2, .int .i64 f.f11.f3, .int .i64 f.f12, .int .i64 f.f13, .int .i64 f.f14, .string f.f15, .string f.f16, .int .i64 f.f17, .int .i64 f.f18, .int .i64 f.f19] 28 (0, 0)) ∧ wx.heap[q]? = some (.cells #[.int .i64 g.f0, .int .i64 g.f1, .int .i64 g.f2, .int .i64 g.f3, .string g.f4, .int .i64 g.f5, .int .i64 g.f6, .string g.f7, .string g.f8, .slice A9g g.f9.length c9g, .slice A10g g.f10.length c10g, .int .i64 g.f11.f0, .slice A12g g.f11.f1.length c12g, .int .i64 g.f11.f2, .int .i64 g.f11.f3, .int .i64 g.f12, .int .i64 g.f13, .int .i64 g.f14, .string g.f15, .string g.f16, .int .i64 g.f17, .int .i64 g.f18, .int .i64 g.f19] 28 (0, 0)))
  case first =>
    cases T with
    | false =>
      go_wp2_with (go_at_call 35; (with_reducible refine (slices_Equal_string_string.calls _ A9f c9f f.f9 A9g c9g g.f9 false _ ?_ l9f ?_ l9g HT.out).mono ?_); (exact Kd.C_below H9F.out HB2.out); (exact Kd.C_below H9G.out HB2.out); rintro e w3 ⟨rfl, hd⟩; obtain ⟨m, rfl⟩ := fs_drawn hd)
      go_meet
      exact ⟨rfl, pw_below_drewN HB2.out m, HXf.out, HXg.out⟩
    | true =>
    cases S with
    | false =>
      go_wp2_with (first | (go_at_call 35; (with_reducible refine (slices_Equal_string_string.calls _ A9f c9f f.f9 A9g c9g g.f9 true _ ?_ l9f ?_ l9g HT.out).mono ?_); (exact Kd.C_below H9F.out HB2.out); (exact Kd.C_below H9G.out HB2.out); rintro e w3 ⟨rfl, hd⟩; obtain ⟨m, rfl⟩ := fs_drawn hd) | (go_at_call 36; (with_reducible refine (block_SameList.calls _ A10f c10f f.f10 A10g c10g g.f10 false _ ?_ l10f ?_ l10g HS.out).mono ?_); (exact Kd.C_below H10F.out (pw_below_drewN HB2.out m)); (exact Kd.C_below H10G.out (pw_below_drewN HB2.out m)); rintro e w4 ⟨rfl, hb4⟩; have X4f := bk_heap_below (W := w2.drewN m) HXf.out hb4; have X4g := bk_heap_below (W := w2.drewN m) HXg.out hb4; have HB4 := Aside0.mk (below_step (pw_below_drewN HB2.out m) hb4); have HX4f := Aside0.mk X4f; have HX4g := Aside0.mk X4g; have df11 := bk_cell X4f 11; have df12 := bk_cell X4f 12; have df13 := bk_cell X4f 13; have df14 := bk_cell X4f 14; have dg11 := bk_cell X4g 11; have dg12 := bk_cell X4g 12; have dg13 := bk_cell X4g 13; have dg14 := bk_cell X4g 14; clear X4f X4g hb4))
      go_meet
      exact ⟨rfl, HB4.out, HX4f.out, HX4g.out⟩
    | true =>
      go_wp2_with (first | (go_at_call 35; (with_reducible refine (slices_Equal_string_string.calls _ A9f c9f f.f9 A9g c9g g.f9 true _ ?_ l9f ?_ l9g HT.out).mono ?_); (exact Kd.C_below H9F.out HB2.out); (exact Kd.C_below H9G.out HB2.out); rintro e w3 ⟨rfl, hd⟩; obtain ⟨m, rfl⟩ := fs_drawn hd) | (go_at_call 36; (with_reducible refine (block_SameList.calls _ A10f c10f f.f10 A10g c10g g.f10 true _ ?_ l10f ?_ l10g HS.out).mono ?_); (exact Kd.C_below H10F.out (pw_below_drewN HB2.out m)); (exact Kd.C_below H10G.out (pw_below_drewN HB2.out m)); rintro e w4 ⟨rfl, hb4⟩; have X4f := bk_heap_below (W := w2.drewN m) HXf.out hb4; have X4g := bk_heap_below (W := w2.drewN m) HXg.out hb4; have HB4 := Aside0.mk (below_step (pw_below_drewN HB2.out m) hb4); have HX4f := Aside0.mk X4f; have HX4g := Aside0.mk X4g; have df11 := bk_cell X4f 11; have df12 := bk_cell X4f 12; have df13 := bk_cell X4f 13; have df14 := bk_cell X4f 14; have dg11 := bk_cell X4g 11; have dg12 := bk_cell X4g 12; have dg13 := bk_cell X4g 13; have dg14 := bk_cell X4g 14; clear X4f X4g hb4) | (go_at_call 37; (with_reducible refine (label_Same.calls _ f.f11.f0 A12f c12f f.f11.f1 f.f11.f2 f.f11.f3 g.f11.f0 A12g c12g g.f11.f1 g.f11.f2 g.f11.f3 L _ ?_ l12f ?_ l12g HL.out).mono ?_); (exact Kd.C_below H12F.out HB4.out); (exact Kd.C_below H12G.out HB4.out); rintro e w5 ⟨rfl, hb5⟩; have HB5 := Aside0.mk (below_step HB4.out hb5); have HX5f := Aside0.mk (bk_heap_below HX4f.out hb5); have HX5g := Aside0.mk (bk_heap_below HX4g.out hb5)))
      go_meet
      exact ⟨rfl, HB5.out, HX5f.out, HX5g.out⟩
  case rest =>
  obtain ⟨rfl, hB6, hXf6, hXg6⟩ := hcut
  have HB6 := Aside0.mk hB6
  have HXf6 := Aside0.mk hXf6
  have HXg6 := Aside0.mk hXg6
  clear hB6 hXf6 hXg6 cf9 cf10 cf11 cf12 cf13 cf14 cg9 cg10 cg11 cg12 cg13 cg14
  have cf0 := bk_cell HXf6.out 0
  have cf1 := bk_cell HXf6.out 1
  have cf2 := bk_cell HXf6.out 2
  have cf3 := bk_cell HXf6.out 3
  have cf5 := bk_cell HXf6.out 5
  have cf6 := bk_cell HXf6.out 6
  have cf15 := bk_cell HXf6.out 15
  have cf16 := bk_cell HXf6.out 16
  have cf17 := bk_cell HXf6.out 17
  have cf20 := bk_cell HXf6.out 20
  have cf21 := bk_cell HXf6.out 21
  have cf22 := bk_cell HXf6.out 22
  have cg0 := bk_cell HXg6.out 0
  have cg1 := bk_cell HXg6.out 1
  have cg2 := bk_cell HXg6.out 2
  have cg3 := bk_cell HXg6.out 3
  have cg5 := bk_cell HXg6.out 5
  have cg6 := bk_cell HXg6.out 6
  have cg15 := bk_cell HXg6.out 15
  have cg16 := bk_cell HXg6.out 16
  have cg17 := bk_cell HXg6.out 17
  have cg20 := bk_cell HXg6.out 20
  have cg21 := bk_cell HXg6.out 21
  have cg22 := bk_cell HXg6.out 22
  obtain ⟨b0, hb0⟩ : ∃ b0, (T && S && L) = b0 := ⟨_, rfl⟩
  rw [hb0]
  have HB0 := Aside0.mk hb0
  clear hb0
  go_wp2_with (with_reducible refine is_build rfl ?_; refine Rg.stop_here ?_)
  refine ⟨?_⟩
  refine lit_event rfl (N := 88) rfl (cs := #[.int .i64 f.f0, .int .i64 g.f0, .int .i64 f.f1, .int .i64 g.f1, .int .i64 f.f2, .int .i64 g.f2, .int .i64 f.f3, .int .i64 g.f3, .int .i64 f.f5, .int .i64 g.f5, .int .i64 f.f6, .int .i64 g.f6, .int .i64 f.f12, .int .i64 g.f12, .int .i64 f.f13, .int .i64 g.f13, .int .i64 f.f14, .int .i64 g.f14, .int .i64 f.f17, .int .i64 g.f17, .int .i64 f.f18, .int .i64 g.f18, .int .i64 f.f19, .int .i64 g.f19]) (t := 77) (n := 12) (by first | (go_simp; done) | (go_simp; rfl)) ?_
  intro z hz w7 hl7 hb7
  obtain ⟨ps, hps⟩ : ∃ ps : List (Int × Int), [(f.f0, g.f0), (f.f1, g.f1), (f.f2, g.f2), (f.f3, g.f3), (f.f5, g.f5), (f.f6, g.f6), (f.f12, g.f12), (f.f13, g.f13), (f.f14, g.f14), (f.f17, g.f17), (f.f18, g.f18), (f.f19, g.f19)] = ps := ⟨_, rfl⟩
  have hl7' : w7.heap[z]? = some (.cells (([(f.f0, g.f0), (f.f1, g.f1), (f.f2, g.f2), (f.f3, g.f3), (f.f5, g.f5), (f.f6, g.f6), (f.f12, g.f12), (f.f13, g.f13), (f.f14, g.f14), (f.f17, g.f17), (f.f18, g.f18), (f.f19, g.f19)] : List (Int × Int)).flatMap (fun p => [Value.int .i64 p.1, Value.int .i64 p.2])).toArray 77 (0, 0)) := hl7
  have hpl : ps.length = 12 := by rw [← hps]; rfl
  rw [hps] at hl7'
  have HL7 := Aside0.mk hl7'
  have HPS := Aside0.mk hps
  have HPL := Aside0.mk hpl
  have HB7 := Aside0.mk (below_step HB6.out hb7)
  have HXf7 := Aside0.mk (bk_heap_below HXf6.out hb7)
  have HXg7 := Aside0.mk (bk_heap_below HXg6.out hb7)
  clear hz hl7 hl7' hb7 hps hpl cf0 cf1 cf2 cf3 cf5 cf6 cf15 cf16 cf17 cf20 cf21 cf22 cg0 cg1 cg2 cg3 cg5 cg6 cg15 cg16 cg17 cg20 cg21 cg22
  go_wp2_with fail
  go_loopw [5, 91] (fun p5 p91 wr => ∃ k : Nat, p91 = .int .i64 (k : Int) ∧ k ≤ 12 ∧ p5 = .bool (b0 && (ps.take k).all (fun p => p.1 == p.2)) ∧ Below w7.heap.size w7 wr) (fun _ p _ => 12 - (intOf p).toNat)
  case atStart => exact ⟨0, rfl, Nat.zero_le _, by simp, Below.refl _ _⟩
  case round =>
    obtain ⟨k, rfl, hk, rfl, hB⟩ := hrel
    have HBR := Aside0.mk hB
    clear hB
    by_cases hlt : k < 12
    · have hd : decide ((k : Int) < 12) = true := decide_eq_true (by omega)
      have q0 := eq_true (show (0 : Int) ≤ (k : Int) by omega)
      have q1 := eq_true (show (k : Int) < 12 by omega)
      have hx := fs_pairAt ps k (by rw [HPL.out]; exact hlt)
      obtain ⟨x, hxx⟩ : ∃ x, (ps[k]'(by rw [HPL.out]; exact hlt)).1 = x := ⟨_, rfl⟩
      obtain ⟨y, hyy⟩ : ∃ y, (ps[k]'(by rw [HPL.out]; exact hlt)).2 = y := ⟨_, rfl⟩
      rw [hxx, hyy] at hx
      have hz1 : wr.cell? ⟨z, k * 2, none⟩ = some (.int .i64 x) := (HBR.out.cell (World.block_lt_of_cell? _ _ ((bk_cell HL7.out (k * 2)).trans (by simpa using hx.1)))).trans ((bk_cell HL7.out (k * 2)).trans (by simpa using hx.1))
      have hz2 : wr.cell? ⟨z, k * 2 + 1, none⟩ = some (.int .i64 y) := (HBR.out.cell (World.block_lt_of_cell? _ _ ((bk_cell HL7.out (k * 2 + 1)).trans (by simpa using hx.2)))).trans ((bk_cell HL7.out (k * 2 + 1)).trans (by simpa using hx.2))
      have hnext : (b0 && (ps.take (k + 1)).all (fun p => p.1 == p.2)) = ((b0 && (ps.take k).all (fun p => p.1 == p.2)) && (x == y)) := by
        rw [List.take_succ_eq_append_getElem (by rw [HPL.out]; exact hlt), List.all_append, List.all_cons, List.all_nil, Bool.and_true, hxx, hyy, Bool.and_assoc]
      have HN := Aside0.mk hnext
      obtain ⟨b1, hb1⟩ : ∃ b1, (b0 && (ps.take k).all (fun p => p.1 == p.2)) = b1 := ⟨_, rfl⟩
      rw [hb1] at HN ⊢
      clear hx hxx hyy hnext hb1
      cases b1
      all_goals
        go_wp2_with fail
        go_roundw
        case rel => exact ⟨k + 1, by go_num, by omega, by rw [HN.out]; simp, by repeat (first | exact HBR.out | refine Below.setCell ?_ (by first | exact HBR.out.size | omega) _ | refine below_alloc ?_ _)⟩
        case measure => simp [intOf]; omega
    · obtain rfl : k = 12 := by omega
      have hd : decide (((12 : Nat) : Int) < 12) = false := by decide
      have HXf8 := Aside0.mk (bk_heap_below HXf7.out HBR.out)
      have HXg8 := Aside0.mk (bk_heap_below HXg7.out HBR.out)
      have HB8 := Aside0.mk (below_step HB7.out HBR.out)
      have HF := Aside0.mk (show m_fsame f g = ((b0 && (ps.take 12).all (fun p => p.1 == p.2)) && decide (f.f4 = g.f4) && decide (f.f7 = g.f7) && decide (f.f8 = g.f8) && decide (f.f15 = g.f15) && decide (f.f16 = g.f16)) by
        rw [List.take_of_length_le (by rw [HPL.out]; exact Nat.le_refl _), ← HPS.out, ← HB0.out, ← HTE.out, ← HSE.out, ← HLE.out]; rfl)
      obtain ⟨b1, hb1⟩ : ∃ b1, (b0 && (ps.take 12).all (fun p => p.1 == p.2)) = b1 := ⟨_, rfl⟩
      rw [hb1] at HF ⊢
      clear hb1
      obtain ⟨E4, hE4⟩ : ∃ E, decide (f.f4 = g.f4) = E := ⟨_, rfl⟩
      rw [hE4] at HF
      obtain ⟨e4, d4⟩ := fs_se hE4
      obtain ⟨E7, hE7⟩ : ∃ E, decide (f.f7 = g.f7) = E := ⟨_, rfl⟩
      rw [hE7] at HF
      obtain ⟨e7, d7⟩ := fs_se hE7
      obtain ⟨E8, hE8⟩ : ∃ E, decide (f.f8 = g.f8) = E := ⟨_, rfl⟩
      rw [hE8] at HF
      obtain ⟨e8, d8⟩ := fs_se hE8
      obtain ⟨E15, hE15⟩ : ∃ E, decide (f.f15 = g.f15) = E := ⟨_, rfl⟩
      rw [hE15] at HF
      obtain ⟨e15, d15⟩ := fs_se hE15
      obtain ⟨E16, hE16⟩ : ∃ E, decide (f.f16 = g.f16) = E := ⟨_, rfl⟩
      rw [hE16] at HF
      obtain ⟨e16, d16⟩ := fs_se hE16
      clear hE4 hE7 hE8 hE15 hE16
      have cf4 := bk_cell HXf8.out 4
      have cf7 := bk_cell HXf8.out 7
      have cf8 := bk_cell HXf8.out 8
      have cf18 := bk_cell HXf8.out 18
      have cf19 := bk_cell HXf8.out 19
      have cg4 := bk_cell HXg8.out 4
      have cg7 := bk_cell HXg8.out 7
      have cg8 := bk_cell HXg8.out 8
      have cg18 := bk_cell HXg8.out 18
      have cg19 := bk_cell HXg8.out 19
      cases b1 with
      | false =>
        go_wp2_with fail
        go_ret
        exact ⟨by rw [HF.out]; rfl, HB8.out⟩
      | true =>
      cases E4 with
      | false =>
        go_wp2_with fail
        go_ret
        exact ⟨by rw [HF.out]; simp, HB8.out⟩
      | true =>
      cases E7 with
      | false =>
        go_wp2_with fail
        go_ret
        exact ⟨by rw [HF.out]; simp, HB8.out⟩
      | true =>
      cases E8 with
      | false =>
        go_wp2_with fail
        go_ret
        exact ⟨by rw [HF.out]; simp, HB8.out⟩
      | true =>
      cases E15 with
      | false =>
        go_wp2_with fail
        go_ret
        exact ⟨by rw [HF.out]; simp, HB8.out⟩
      | true =>
      cases E16 with
      | false =>
        go_wp2_with fail
        go_ret
        exact ⟨by rw [HF.out]; simp, HB8.out⟩
      | true =>
        go_wp2_with fail
        go_ret
        exact ⟨by rw [HF.out]; rfl, HB8.out⟩
end Go.Proofs.YtkhgdglaophkbaaGreatDoor.PK
end
section
set_option linter.unusedVariables false
set_option linter.unusedSimpArgs false
namespace Go.Proofs.YtkhgdglaophkbaaGreatDoor.PK
open Go.RowKit Go.Proofs.YtkhgdglaophkbaaGreatDoorW.PrintWords Go.Proofs.YtkhgdglaophkbaaGreatDoorW.PrintLast Go.Proofs.YtkhgdglaophkbaaGreatDoorW.PrintMore
theorem is_loadFa {P : Program} {W : World} {ops : Array Oper} {rest : List Oper} {o : Oper} {a : Act} {Q : Exit → Act → World → Prop} {p : Operand} (_ : o.op = .load 28 p) (h : wpList P ops Q (o :: rest) a W) : wpList P ops Q (o :: rest) a W := h
theorem ev_wanted {P : Program} {W W1 : World} {ops : Array Oper} {rest : List Oper} {o : Oper} {a : Act} {Q : Exit → Act → World → Prop} {v : Value} (hw : Region.wanted o (yielded ops a.tmps) = true) (hrun : (execOp a.eval o).run P W = .ok (.value v) W1) (h : wpList P ops Q rest (a.put o.dst v) W1) : wpList P ops Q (o :: rest) a W := by
  unfold wpList
  rw [if_pos hw]
  unfold Oper.wp
  rw [hrun]
  exact .inl h
theorem faK_size {w : World} {f : Fa} {cs : Array Value} (h : faK w f cs) : cs.size = 23 := by
  obtain ⟨A9, c9, A10, c10, A12, c12, rfl, _⟩ := faK_open h
  rfl
theorem faK_one {w : World} {f : Fa} {cs : Array Value} (h : faK w f cs) : ∀ q ∈ cs.toList, q.oneCell' = true := kFa.K_one h
theorem fa_size23 {w : World} {f : Fa} {cs : Array Value} (h : faK w f cs) : (Tryz.prog.info? 28).map (·.size) = some cs.size := by rw [faK_size h]; exact fa_size
theorem fv_right (f : Fa) (cs : Array Value) (w : World) (h : faK w f cs) : Calls Tryz.prog 30 #[.agg cs] w fun e w' => ∃ cs', e = .returned (.tuple #[.bool (m_used f), .agg cs']) ∧ faK w' (m_rest f) cs' ∧ Below w.heap.size w w' := by
  obtain ⟨A9, c9, A10, c10, A12, c12, rfl, l9, h9, l10, h10, l12, h12⟩ := faK_open h
  by_cases k1 : f.f2 = 1
  · exact fact_right.walk1 f A9 c9 A10 c10 A12 c12 w k1 l9 h9 l10 h10 l12 h12
  by_cases k2 : f.f2 = 2
  · exact fact_right.walk2 f A9 c9 A10 c10 A12 c12 w k2 l9 h9 l10 h10 l12 h12
  by_cases k3 : f.f2 = 3
  · exact fact_right.walk3 f A9 c9 A10 c10 A12 c12 w k3 l9 h9 l10 h10 l12 h12
  by_cases k4 : f.f2 = 4
  · exact fact_right.walk4 f A9 c9 A10 c10 A12 c12 w k4 l9 h9 l10 h10 l12 h12
  by_cases k5 : f.f2 = 5
  · exact fact_right.walk5 f A9 c9 A10 c10 A12 c12 w k5 l9 h9 l10 h10 l12 h12
  by_cases k6 : f.f2 = 6
  · exact fact_right.walk6 f A9 c9 A10 c10 A12 c12 w k6 l9 h9 l10 h10 l12 h12
  by_cases k7 : f.f2 = 7
  · exact fact_right.walk7 f A9 c9 A10 c10 A12 c12 w k7 l9 h9 l10 h10 l12 h12
  by_cases k8 : f.f2 = 8
  · exact fact_right.walk8 f A9 c9 A10 c10 A12 c12 w k8 l9 h9 l10 h10 l12 h12
  by_cases k9 : f.f2 = 9
  · exact fact_right.walk9 f A9 c9 A10 c10 A12 c12 w k9 l9 h9 l10 h10 l12 h12
  by_cases k10 : f.f2 = 10
  · exact fact_right.walk10 f A9 c9 A10 c10 A12 c12 w k10 l9 h9 l10 h10 l12 h12
  have hk : m_kindR f.f2 = false := by
    cases hm : m_kindR f.f2 with
    | false => rfl
    | true =>
      unfold m_kindR at hm
      simp only [Bool.and_eq_true, decide_eq_true_eq] at hm
      omega
  exact fact_right.walk0 f A9 c9 A10 c10 A12 c12 w hk l9 h9 l10 h10 l12 h12
theorem fv_same (f g : Fa) (cs ds : Array Value) (w : World) (h : faK w f cs) (h' : faK w g ds) : Calls Tryz.prog 15 #[.agg cs, .agg ds] w fun e w' => e = .returned (.bool (m_fsame f g)) ∧ Below w.heap.size w w' := by
  obtain ⟨A9, c9, A10, c10, A12, c12, rfl, l9, h9, l10, h10, l12, h12⟩ := faK_open h
  obtain ⟨A9', c9', A10', c10', A12', c12', rfl, l9', h9', l10', h10', l12', h12'⟩ := faK_open h'
  exact fact_Same.walk f g A9 c9 A10 c10 A12 c12 A9' c9' A10' c10' A12' c12' w l9 h9 l10 h10 l12 h12 l9' h9' l10' h10' l12' h12'
theorem faK_base (w : World) (a b k : Int) : faK w (fBase a b k) #[.int .i64 a, .int .i64 b, .int .i64 k, .int .i64 0, .string (⟨#[]⟩ : ByteArray), .int .i64 0, .int .i64 0, .string (⟨#[]⟩ : ByteArray), .string (⟨#[]⟩ : ByteArray), .slice none 0 0, .slice none 0 0, .int .i64 0, .slice none 0 0, .int .i64 0, .int .i64 0, .int .i64 0, .int .i64 0, .int .i64 0, .string (⟨#[]⟩ : ByteArray), .string (⟨#[]⟩ : ByteArray), .int .i64 0, .int .i64 0, .int .i64 0] :=
  faK_mk w (fBase a b k) (A9 := none) (c9 := 0) (Nat.le_refl 0) (fr_nilC _ _) (A10 := none) (c10 := 0) (Nat.le_refl 0) (fr_nilC _ _) (A12 := none) (c12 := 0) (Nat.le_refl 0) (fr_nilC _ _)
theorem faK_zero (w : World) : faK w zFa #[.int .i64 0, .int .i64 0, .int .i64 0, .int .i64 0, .string (⟨#[]⟩ : ByteArray), .int .i64 0, .int .i64 0, .string (⟨#[]⟩ : ByteArray), .string (⟨#[]⟩ : ByteArray), .slice none 0 0, .slice none 0 0, .int .i64 0, .slice none 0 0, .int .i64 0, .int .i64 0, .int .i64 0, .int .i64 0, .int .i64 0, .string (⟨#[]⟩ : ByteArray), .string (⟨#[]⟩ : ByteArray), .int .i64 0, .int .i64 0, .int .i64 0] := faK_base w 0 0 0
set_option maxHeartbeats 4000000 in
set_option maxRecDepth 100000 in
theorem fv_valid (f : Fa) (cs : Array Value) (w : World) (h : faK w f cs) : Calls Tryz.prog 13 #[.agg cs] w fun e w' => e = .returned (.bool (m_fvalid f)) ∧ Below w.heap.size w w' := by
  have HF := Aside0.mk h
  obtain ⟨A9, c9, A10, c10, A12, c12, rfl, _⟩ := faK_open h
  clear h
  unfold fa_cells at HF ⊢
  go_enter Tryz.func13, Tryz.ntmps13
  go_wp2_with (with_reducible refine is_box rfl ?_; refine Rg.stop_here ?_)
  refine ⟨?_⟩
  refine box_event rfl (N := 1) rfl (cs := #[.int .i64 f.f0, .int .i64 f.f1, .int .i64 f.f2, .int .i64 f.f3, .string f.f4, .int .i64 f.f5, .int .i64 f.f6, .string f.f7, .string f.f8, .slice A9 f.f9.length c9, .slice A10 f.f10.length c10, .int .i64 f.f11.f0, .slice A12 f.f11.f1.length c12, .int .i64 f.f11.f2, .int .i64 f.f11.f3, .int .i64 f.f12, .int .i64 f.f13, .int .i64 f.f14, .string f.f15, .string f.f16, .int .i64 f.f17, .int .i64 f.f18, .int .i64 f.f19]) (t := 28) (by first | (go_simp; done) | (go_simp; rfl)) ?_
  intro p1 hp1 w1 hbx1 hb1
  have HX1 := Aside0.mk hbx1
  have HB1 := Aside0.mk hb1
  have HF1 := Aside0.mk (faK_below HF.out hb1)
  clear hp1 hb1 hbx1 HF
  go_wp2_with (with_reducible refine is_loadFa rfl ?_; refine Rg.stop_here ?_)
  refine ⟨?_⟩
  refine wpList_load_row rfl 28 _ rfl p1 rfl _ _ _ _ HX1.out Tryz.underlying28 rfl fa_size ?_
  go_wp2_with (go_at_call 30; refine Rg.stop_here ?_)
  refine ⟨?_⟩
  refine (fv_right f _ w1 HF1.out).mono ?_
  rintro e w2 ⟨cs', rfl, hK2, hb2⟩
  have HX2 := Aside0.mk (bk_heap_below HX1.out hb2)
  have HB2 := Aside0.mk (below_step HB1.out hb2)
  have HK2 := Aside0.mk hK2
  clear hb2 hK2 HX1 HB1 HF1
  go_wp2_with (with_reducible refine is_alloc rfl ?_; refine Rg.stop_here ?_)
  refine ⟨?_⟩
  refine box_event rfl (N := 4) rfl (cs := #[.int .i64 0, .int .i64 0, .int .i64 0, .int .i64 0, .string (⟨#[]⟩ : ByteArray), .int .i64 0, .int .i64 0, .string (⟨#[]⟩ : ByteArray), .string (⟨#[]⟩ : ByteArray), .slice none 0 0, .slice none 0 0, .int .i64 0, .slice none 0 0, .int .i64 0, .int .i64 0, .int .i64 0, .int .i64 0, .int .i64 0, .string (⟨#[]⟩ : ByteArray), .string (⟨#[]⟩ : ByteArray), .int .i64 0, .int .i64 0, .int .i64 0]) (t := 28) (by first | (go_simp; done) | (go_simp; rfl)) ?_
  intro p4 hp4 w3 hbx4 hb3
  have hg4 : w.heap.size ≤ p4 := by have := HB2.out.size; omega
  have h14 : p1 ≠ p4 := by have := blk_lt HX2.out; omega
  have HX3 := Aside0.mk (bk_heap_below HX2.out hb3)
  have HB23 := Aside0.mk hb3
  have HK3 := Aside0.mk (faK_below HK2.out hb3)
  have h4lt : w2.heap.size ≤ p4 := Nat.le_of_eq hp4.symm
  clear hp4 hb3 HX2
  go_wp2_with (with_reducible refine is_store rfl ?_; refine Rg.stop_here ?_)
  refine ⟨?_⟩
  refine wpList_store_box rfl rfl _ _ _ rfl p4 _ cs' _ rfl rfl hbx4 (by rw [Array.length_toList]; exact fa_size23 HK3.out) (by rw [faK_size HK3.out]; rfl) (faK_one HK3.out) ?_
  intro w4 hx4 hst hot
  have hb24 : Below w2.heap.size w2 w4 := HB23.out.trans (hst _ h4lt)
  have HX1 := Aside0.mk ((hot p1 h14).trans HX3.out)
  have HK4 := Aside0.mk (faK_below HK2.out hb24)
  have HB4 := Aside0.mk (below_step HB2.out hb24)
  have HX4 := Aside0.mk hx4
  have c0 : w4.cell? ⟨p1, 0, none⟩ = some (.int .i64 f.f0) := bk_cell HX1.out 0
  have c1 : w4.cell? ⟨p1, 1, none⟩ = some (.int .i64 f.f1) := bk_cell HX1.out 1
  have c2 : w4.cell? ⟨p1, 2, none⟩ = some (.int .i64 f.f2) := bk_cell HX1.out 2
  have HV := Aside0.mk (show m_fvalid f = (m_used f && m_in f.f0 0 500 && m_in f.f1 0 1000000000 && m_fsame (m_rest f) (fBase f.f0 f.f1 f.f2)) from rfl)
  clear hb24 hst hot hx4 hbx4 HX3 HK3 HK2 HB2 HB23 h4lt hg4
  have HW0 := Aside0.mk (fr_within f.f0 0 500)
  have HW1 := Aside0.mk (fr_within f.f1 0 1000000000)
  cases hu : m_used f with
  | false =>
    rw [hu] at HV
    clear hu
    go_wp2_with fail
    go_ret
    exact ⟨by rw [HV.out]; rfl, HB4.out⟩
  | true =>
  rw [hu] at HV
  clear hu
  cases h0 : m_in f.f0 0 500 with
  | false =>
    rw [h0] at HW0 HV
    clear h0
    go_wp2_with (first | (go_at_call 31; (with_reducible refine (HW0.out _).mono ?_); rintro e wa0 ⟨rfl, hd0⟩; obtain ⟨m0, rfl⟩ := fr_drawn hd0))
    go_ret
    exact ⟨by rw [HV.out]; rfl, pw_below_drewN HB4.out _⟩
  | true =>
  rw [h0] at HW0 HV
  clear h0
  cases h1 : m_in f.f1 0 1000000000 with
  | false =>
    rw [h1] at HW1 HV
    clear h1
    go_wp2_with (first | (go_at_call 31; (with_reducible refine (HW0.out _).mono ?_); rintro e wa0 ⟨rfl, hd0⟩; obtain ⟨m0, rfl⟩ := fr_drawn hd0) | (go_at_call 31; (with_reducible refine (HW1.out _).mono ?_); rintro e wa1 ⟨rfl, hd1⟩; obtain ⟨m1, rfl⟩ := fr_drawn hd1))
    go_ret
    exact ⟨by rw [HV.out]; rfl, by first | exact pw_below_drewN HB4.out _ | exact pw_below_drewN (pw_below_drewN HB4.out _) _⟩
  | true =>
  rw [h1] at HW1 HV
  clear h1
  go_wp2_with (first | (go_at_call 31; (with_reducible refine (HW0.out _).mono ?_); rintro e wa0 ⟨rfl, hd0⟩; obtain ⟨m0, rfl⟩ := fr_drawn hd0) | (go_at_call 31; (with_reducible refine (HW1.out _).mono ?_); rintro e wa1 ⟨rfl, hd1⟩; obtain ⟨m1, rfl⟩ := fr_drawn hd1) | (with_reducible refine is_loadFa rfl ?_; refine Rg.stop_here ?_))
  refine ⟨?_⟩
  refine ev_wanted (by kernel_rfl) (rg_runRow _ _ rfl p4 rfl 28 cs' (0, 0) _ HX4.out Tryz.underlying28 rfl (fa_size23 HK4.out)) ?_
  go_wp2_with (go_at_call 15; refine Rg.stop_here ?_)
  refine ⟨?_⟩
  refine (fv_same (m_rest f) (fBase f.f0 f.f1 f.f2) cs' _ _ (by first | exact faK_below HK4.out (pw_below_drewN (Below.refl _ _) _) | exact faK_below (faK_below HK4.out (pw_below_drewN (Below.refl _ _) _)) (pw_below_drewN (Below.refl _ _) _)) (faK_base _ f.f0 f.f1 f.f2)).mono ?_
  rintro e w5 ⟨rfl, hb5⟩
  have hbt := below_step (by first | exact pw_below_drewN HB4.out _ | exact pw_below_drewN (pw_below_drewN HB4.out _) _) hb5
  go_wp2
  go_ret
  exact ⟨by rw [HV.out]; rfl, hbt⟩
end Go.Proofs.YtkhgdglaophkbaaGreatDoor.PK
end
section
namespace Go.Proofs.YtkhgdglaophkbaaGreatDoor.PK
open Go.RowKit Go.Proofs.YtkhgdglaophkbaaGreatDoorW.PrintWords Go.Proofs.YtkhgdglaophkbaaGreatDoorW.PrintLast Go.Proofs.YtkhgdglaophkbaaGreatDoorW.PrintMore
attribute [local go_sem] max2_int min2_int max_two min_two max_three min_three max_four min_four   -- for this text's walks alone
set_option linter.unusedVariables false
set_option linter.unusedSimpArgs false
def wire_PutInt.f (a0 : Int) : Option (ByteArray × Int) := some (m_putInt a0)
def m_grp : Nat → Nat → List (Nat × Bool)
  | 0, _ => []
  | k + 1, z => if z < 128 then [(z, true)] else (z % 128, false) :: m_grp k (z / 128)
def bk_enc (x : Nat × Bool) : Array Value := #[.int .u8 (x.1 : Int), .bool x.2]
def bk_Ab (zb : Nat) (A B : World) : Prop := ∃ c v : Value, A.heap[zb]? = some (.cells #[c] 85 (0, 0)) ∧ B = A.setCell ⟨zb, 0, none⟩ v
def bk_Kp (zb : Nat) (A B : World) : Prop := B.heap[zb]? = A.heap[zb]?
def bk_Nx (z : Nat) (pre : List (Nat × Bool)) (x : Nat × Bool) : Prop := ∃ rest, pre ++ x :: rest = m_grp 10 z
theorem m_grp_lt (k z : Nat) (h : z < 128) : m_grp (k + 1) z = [(z, true)] := by simp [m_grp, h]
theorem m_grp_ge (k z : Nat) (h : ¬ z < 128) : m_grp (k + 1) z = (z % 128, false) :: m_grp k (z / 128) := by simp [m_grp, h]
theorem bk_u64_and127 (x : Int) (h₀ : 0 ≤ x) (h₁ : x < 18446744073709551616) : bits .and .u64 x 127 = x % 128 := bits_mask .u64 64 (by decide) wraps_u64 7 (by decide) x h₀ h₁
set_option maxHeartbeats 1000000 in
theorem bk_groups (zb z : Nat) (hz : z < 128 ^ 10) (hz2 : z < 18446744073709551616) (W : World) (hzb : W.heap[zb]? = some (.cells #[.int .u64 (z : Int)] 85 (0, 0))) :
    Rg.Iter Tryz.prog 61 #[.pointer (some ⟨zb, 0, none⟩)] bk_enc (bk_Ab zb) (bk_Kp zb) (bk_Nx z) (fun xs => xs = m_grp 10 z) (fun _ => True) W := by
  intro l J Jx hJ hJx hY h0
  refine callsIn_of_wp Tryz.func61 rfl trivial ?_ rfl
  simp only [Tryz.ntmps61, List.size_toArray, List.length_cons, List.length_nil, Nat.reduceAdd, Nat.reduceSub, Array.replicate_succ, Array.replicate_zero, List.push_toArray, List.append_toArray, List.nil_append, List.cons_append]
  gi_wp2
  gi_loopw [3] (fun p wr => ∃ (pre : List (Nat × Bool)) (k y : Nat), pre ++ m_grp (k + 1) y = m_grp 10 z ∧ y < 128 ^ (k + 1) ∧ y < 18446744073709551616 ∧ wr.heap[zb]? = some (.cells #[.int .u64 (y : Int)] 85 (0, 0)) ∧ J pre wr)
    (fun p wr => match wr.cell? ⟨zb, 0, none⟩ with | some (.int _ y) => y.toNat | _ => 0)
  case atStart =>
    exact ⟨[], 9, z, rfl, hz, hz2, hzb, h0⟩
  case round =>
    obtain ⟨pre, k, y, hp, hk, hyz, hb, hJs⟩ := hrel
    have hc : wr.cell? ⟨zb, 0, none⟩ = some (.int .u64 (y : Int)) := by simp [World.cell?, hb]
    have hfz : wr.frozen? ⟨zb, 0, none⟩ = false := by simp [World.frozen?, hb]
    have hbits := bk_u64_and127 (y : Int) (by omega) (by omega)
    have hHP := Aside0.mk hp
    have hHB := Aside0.mk hb
    clear hp hb hzb
    by_cases hlt : y < 128
    · rw [show ((y : Int) % 128) = (y : Int) from by omega] at hbits
      have hd : decide ((y : Int) < 128) = true := by simp; omega
      obtain ⟨fn, tmps, assign, body, hy, hR⟩ := hY pre (y, true) wr hJs ⟨[], by rw [← hHP.out, m_grp_lt _ _ hlt]⟩
      dsimp only [bk_enc] at hy
      gi_wp2
      refine ⟨rfl, hR.mono ?_⟩
      rintro e W3 (⟨rfl, hJ3, hk3⟩ | ⟨rfl, hJx3⟩)
      · gi_wp2
        refine bodyPost_ret (results_none rfl _ _ _) rfl ?_
        exact ⟨⟨_, rfl⟩, .inl ⟨_, by rw [← hHP.out, m_grp_lt _ _ hlt], hJ3⟩⟩
      · gi_wp2
        refine bodyPost_ret (results_none rfl _ _ _) rfl ?_
        exact ⟨⟨_, rfl⟩, .inr ⟨_, trivial, hJx3⟩⟩
    · have hd : decide ((y : Int) < 128) = false := by simp; omega
      have h128 : ((y : Int) % 128) = ((y % 128 : Nat) : Int) := by omega
      rw [h128] at hbits
      have hlt2 : y % 128 < 128 := Nat.mod_lt _ (by decide)
      obtain ⟨m, hm⟩ : ∃ m, y % 128 = m := ⟨_, rfl⟩
      obtain ⟨q, hq⟩ : ∃ q, y / 128 = q := ⟨_, rfl⟩
      have hq2 : (y : Int) / 128 = (q : Int) := by omega
      have hqlt : q < y := by omega
      have HM := Aside0.mk hm
      have HQ := Aside0.mk hq
      rw [hm] at hbits hlt2
      clear hm hq h128
      obtain ⟨k', rfl⟩ : ∃ k', k = k' + 1 := ⟨k - 1, by
        rcases Nat.eq_zero_or_pos k with h | h
        · subst h; simp at hk; omega
        · omega⟩
      obtain ⟨fn, tmps, assign, body, hy, hR⟩ := hY pre (m, false) wr hJs ⟨m_grp (k' + 1) q, by rw [← hHP.out, m_grp_ge _ _ hlt, HM.out, HQ.out]⟩
      dsimp only [bk_enc] at hy
      gi_wp2
      refine ⟨rfl, hR.mono ?_⟩
      rintro e W3 (⟨rfl, hJ3, hk3⟩ | ⟨rfl, hJx3⟩)
      · have hb3 : W3.heap[zb]? = some (.cells #[.int .u64 (y : Int)] 85 (0, 0)) := hk3.trans hHB.out
        have hc3 : W3.cell? ⟨zb, 0, none⟩ = some (.int .u64 (y : Int)) := by simp [World.cell?, hb3]
        have hf3 : W3.frozen? ⟨zb, 0, none⟩ = false := by simp [World.frozen?, hb3]
        have HB3 := Aside0.mk hb3
        clear hb3 hk3
        gi_wp2
        go_roundw
        case rel =>
          refine ⟨pre ++ [(m, false)], k', q, ?_, ?_, by omega, ?_, hJ _ _ _ hJ3 ⟨_, _, HB3.out, rfl⟩⟩
          · rw [← hHP.out, m_grp_ge _ _ hlt, HM.out, HQ.out]; simp
          · rw [← HQ.out]; rw [Nat.pow_succ] at hk; omega
          · simp [World.setCell, Array.getElem?_modify, HB3.out]
        case measure =>
          simp [World.cell?, World.setCell, Array.getElem?_modify, HB3.out, hHB.out]
          omega
      · gi_wp2
        refine bodyPost_ret (results_none rfl _ _ _) rfl ?_
        exact ⟨⟨_, rfl⟩, .inr ⟨_, trivial, hJx3⟩⟩
theorem bk_groupsOf (x : Int) (w : World) :
    Calls Tryz.prog 39 #[.int .u64 x] w fun e w' => e = .returned (.func (.func 61) #[] #[.pointer (some ⟨w.heap.size, 0, none⟩)]) ∧ w' = w.alloc (.cells #[.int .u64 x] 85) := by
  go_enter Tryz.func39, Tryz.ntmps39
  go_wp2
  go_ret
  exact ⟨rfl, rfl⟩
set_option maxHeartbeats 1000000 in
theorem bk_putIntNo (n : Int) (w : World) (h : n < -4611686018427387903 ∨ 4611686018427387903 < n) :
    Calls Tryz.prog 23 #[.int .i64 n] w fun e w' => e = .returned (.tuple #[.string ⟨#[]⟩, .int .i64 10]) ∧ Below w.heap.size w w' := by
  by_cases h1 : n < -4611686018427387903
  · go_enter Tryz.func23, Tryz.ntmps23
    go_wp2
    go_ret2
    exact ⟨rfl, Below.refl _ _⟩
  · have h2 : 4611686018427387903 < n := by omega
    go_enter Tryz.func23, Tryz.ntmps23
    go_wp2
    go_ret2
    exact ⟨rfl, Below.refl _ _⟩
theorem bk_zig (n : Int) (h1 : -4611686018427387904 ≤ n) (h2 : n ≤ 4611686018427387903) :
    bits .xor .u64 (IntKind.u64.wrap (IntKind.u64.wrap n * 2)) (IntKind.u64.wrap (n / 9223372036854775808)) = ((m_zig n : Nat) : Int) := by
  have comm : ∀ a b : Int, bits .xor .u64 a b = bits .xor .u64 b a := fun a b => by
    show IntKind.u64.wrap ((BitVec.ofInt 64 a ^^^ BitVec.ofInt 64 b).toNat : Int) = IntKind.u64.wrap ((BitVec.ofInt 64 b ^^^ BitVec.ofInt 64 a).toNat : Int)
    rw [BitVec.xor_comm]
  by_cases h : n < 0
  · have e1 : n / 9223372036854775808 = -1 := by omega
    have e2 : IntKind.u64.wrap (-1) = IntKind.u64.max := by decide
    rw [e1, e2, comm, Lib.zigzag_neg (by omega) h]
    unfold Lib.zigzag m_zig
    rw [if_neg (by omega), if_pos h]
    omega
  · have e1 : n / 9223372036854775808 = 0 := by omega
    have e2 : IntKind.u64.wrap 0 = ((0 : Nat) : Int) := by decide
    have e3 : IntKind.u64.wrap (IntKind.u64.wrap n * 2) = ((n.toNat * 2 : Nat) : Int) := by rw [IntKind.wrap_u64, IntKind.wrap_u64]; omega
    rw [e1, e2, e3, bits_xor_u64_nat _ _ (by omega) (by omega)]
    unfold m_zig
    rw [if_neg h]
    simp
theorem m_zig_lt (n : Int) (h1 : -4611686018427387904 ≤ n) (h2 : n ≤ 4611686018427387903) : m_zig n < 9223372036854775808 := by
  unfold m_zig; split <;> omega
def bk_byte (x : Nat × Bool) : Int := if x.2 then (x.1 : Int) else (x.1 : Int) + 128
theorem m_grp_mem : ∀ (k z : Nat) (x : Nat × Bool), x ∈ m_grp k z → x.1 < 128
  | 0, _, _, h => by simp [m_grp] at h
  | k + 1, z, x, h => by
    by_cases hz : z < 128
    · rw [m_grp_lt _ _ hz] at h
      simp at h; subst h; exact hz
    · rw [m_grp_ge _ _ hz] at h
      rcases List.mem_cons.1 h with h | h
      · subst h; exact Nat.mod_lt _ (by decide)
      · exact m_grp_mem k _ x h
theorem m_grp_len : ∀ (k z : Nat), (m_grp k z).length ≤ k
  | 0, _ => by simp [m_grp]
  | k + 1, z => by
    by_cases hz : z < 128
    · rw [m_grp_lt _ _ hz]; simp
    · rw [m_grp_ge _ _ hz]; simp; exact m_grp_len k _
theorem m_grp_vint : ∀ (k z : Nat), (m_grp k z).map bk_byte = (m_vint k z).map (fun c => (c.toNat : Int))
  | 0, _ => rfl
  | k + 1, z => by
    by_cases hz : z < 128
    · rw [m_grp_lt _ _ hz]
      simp [m_vint, hz, bk_byte]
      omega
    · rw [m_grp_ge _ _ hz]
      simp only [m_vint, if_neg hz, List.map_cons, m_grp_vint k]
      congr 1
      simp [bk_byte]
      omega
theorem infoU8 : (Tryz.prog.info? 5).map (fun i => (i.zero, i.size, i.bytes)) = some (some (.int .u8 0), 1, 1) := by kernel_rfl
def bk_I (w : World) (pre : List (Nat × Bool)) (W : World) : Prop :=
  ∃ v : Value, W.heap[w.heap.size]? = some (.cells #[v] 81 (0, 0)) ∧ W.ownsRow w.heap.size 5 1 v pre.length (pre.map (fun x => Value.int .u8 (bk_byte x))) ∧ Below w.heap.size w W ∧ ∃ c : Value, W.heap[w.heap.size + 1]? = some (.cells #[c] 85 (0, 0))
attribute [local go_sem] Oper.semAt_some
set_option maxHeartbeats 2000000 in
set_option maxRecDepth 100000 in
theorem bk_putIntYes (n : Int) (w : World) (h1 : -4611686018427387903 ≤ n) (h2 : n ≤ 4611686018427387903) :
    Calls Tryz.prog 23 #[.int .i64 n] w fun e w' => e = .returned (.tuple #[.string ⟨(m_int n).toArray⟩, .int .i64 0]) ∧ Below w.heap.size w w' := by
  have hz := bk_zig n (by omega) h2
  have hzl := m_zig_lt n (by omega) h2
  obtain ⟨z, hzz⟩ : ∃ z, m_zig n = z := ⟨_, rfl⟩
  rw [hzz] at hz hzl
  have HZ := Aside0.mk hzz
  clear hzz
  refine (callsIn_wide (n := 0)).1 (callsIn_of_wp_marks Tryz.func23 rfl trivial ?_ rfl)
  simp only [Tryz.ntmps23, List.size_toArray, List.length_cons, List.length_nil, Nat.reduceAdd, Nat.reduceSub, Array.replicate_succ, Array.replicate_zero, List.push_toArray, List.append_toArray, List.nil_append, List.cons_append]
  gi_wp2_with fail
  refine ⟨trivial, rfl, (callsIn_wide.2 (bk_groupsOf _ _)).mono ?_⟩
  rintro e w' ⟨rfl, rfl⟩
  gi_wp2_with fail
  obtain ⟨i0, hi, hz0, hz1, hz2⟩ := info_parts infoU8
  obtain ⟨w1, hw1⟩ : ∃ w1, (w.alloc (.cells #[.slice none 0 0] 81)).alloc (.cells #[.int .u64 (z : Int)] 85) = w1 := ⟨_, rfl⟩
  have hsz : w1.heap.size = w.heap.size + 2 := by rw [← hw1]; simp
  have hob : w1.heap[w.heap.size]? = some (.cells #[.slice none 0 0] 81 (0, 0)) := by
    rw [← hw1]; exact (Below.heap_alloc _ _ _ (by simp)).trans (heap_alloc_new w _)
  have hzb : w1.heap[w.heap.size + 1]? = some (.cells #[.int .u64 (z : Int)] 85 (0, 0)) := by
    rw [← hw1]; have := heap_alloc_new (w.alloc (.cells #[.slice none 0 0] 81)) (.cells #[.int .u64 (z : Int)] 85); rwa [World.size_alloc] at this
  have hbel : Below w.heap.size w w1 := by rw [← hw1]; exact ((Below.refl _ w).alloc (Nat.le_refl _) _).alloc (by simp) _
  rw [hw1]
  clear hw1
  refine Rg.wp_range (P := Tryz.prog) rfl (enters_of Tryz.func61 (by kernel_rfl) rfl) (encs := bk_enc) (Ab := bk_Ab (w.heap.size + 1)) (Kp := bk_Kp (w.heap.size + 1)) (Nx := bk_Nx z) (S := fun xs => xs = m_grp 10 z) (Sp := fun _ => True)
    ?hAb ?hKt ?hKu ?it (fun _ => rfl) (bk_I w) (fun _ _ _ => False) ?hI (fun _ _ _ _ h _ => h) ?hIA (fun _ _ _ _ h _ => h) ?h0 ?a1 ?assign ?body ?done ?stop
  case assign =>
    intro l x W K hK
    simp only [bk_enc]
    gi_wp2
    exact hK
  case hAb =>
    rintro A C k o ⟨c, v, hc, rfl⟩ ho hn
    rw [Below.heap_setCell _ _ _ _ (fun he => ?_)]
    · exact ho
    · have : k = w.heap.size + 1 := by simpa using he
      subst this
      rw [hc] at ho; injection ho with ho; subst ho; cases hn
  case hKt => intro A C E h k; exact k.trans h
  case hKu => intro A C h; exact h.low _ (by omega)
  case it => intro W hW; exact bk_groups _ z (by omega) (by omega) W (hW.cells _ _ hzb rfl)
  case hI =>
    rintro s A C ⟨v, h1, h2, h3, c, h4⟩ hT
    exact ⟨v, hT.cells _ _ h1 rfl, hT.owns h2, h3.trans (hT.below.mono (by omega)), c, hT.cells _ _ h4 rfl⟩
  case hIA =>
    rintro s A C ⟨v, h1, h2, h3, h4⟩ ⟨c, u, hc, rfl⟩
    refine ⟨v, ?_, Rg.owns_set hc (by decide) h2 0 u, h3.setCell (p := ⟨w.heap.size + 1, 0, none⟩) (by simp) u, u, ?_⟩
    · rw [Below.heap_setCell _ _ _ _ (by simp)]; exact h1
    · simp [World.setCell, Array.getElem?_modify, hc]
  case h0 => exact ⟨_, hob, by simpa using World.ownsRow_nil _ _ _ _, hbel, _, hzb⟩
  case body =>
    rintro l pre ⟨g, b⟩ W ⟨v, hv, hown, hB, cz, hzW⟩ hx
    obtain ⟨rest, hx⟩ := hx
    have hg : g < 128 := m_grp_mem 10 z (g, b) (by rw [← hx]; simp)
    have hlen : pre.length < 10 := by have := m_grp_len 10 z; rw [← hx] at this; simp at this; omega
    have hor : bits .or .u8 (g : Int) 128 = (g : Int) + 128 := bits_join_low .u8 8 (by decide) wraps_u8 7 (g : Int) 128 (by omega) (by omega) (by omega) (by decide) (by decide) (by decide)
    have hc : W.cell? ⟨w.heap.size, 0, none⟩ = some v := by simp [World.cell?, hv]
    have hf : W.frozen? ⟨w.heap.size, 0, none⟩ = false := by simp [World.frozen?, hv]
    have hlt : w.heap.size < W.heap.size := (Array.getElem?_eq_some_iff.1 hv).1
    have hbs : w.heap.size ≤ W.heap.size := by omega
    have fin : ∀ (c : Int) (v' : Value) (W1 : World), bk_byte (g, b) = c →
        W1.ownsRow w.heap.size 5 1 v' (pre.length + 1) (pre.map (fun x => Value.int .u8 (bk_byte x)) ++ [.int .u8 c]) → (W.alloc (.cells #[.int .u8 c] 5)).grownBy W1 v.ownBlock →
        W1.heap[w.heap.size]? = some (.cells #[v] 81 (0, 0)) ∧
        (W1.heap[w.heap.size]? = some (.cells #[v] 81 (0, 0)) → KeepsFrom w1.heap.size W (W1.setCell ⟨w.heap.size, 0, none⟩ v') ∧ bk_Kp (w.heap.size + 1) W (W1.setCell ⟨w.heap.size, 0, none⟩ v') ∧ bk_I w (pre ++ [(g, b)]) (W1.setCell ⟨w.heap.size, 0, none⟩ v')) := by
      intro c v' W1 hcb ho hg1
      have hz1 := Rg.block_append hown hzW (by decide) hg1
      have hv1 := Rg.block_append hown hv (by decide) hg1
      refine ⟨hv1, fun _ => ⟨(Rg.keeps_append hown hg1).trans (Rg.keeps_set _ _), ?_, v', ?_, ?_, ?_, cz, ?_⟩⟩
      · unfold bk_Kp
        rw [Below.heap_setCell _ _ _ _ (by simp), hz1, hzW]
      · simp [World.setCell, Array.getElem?_modify, hv1]
      · have := Rg.owns_set hv1 (by decide) ho 0 v'
        simpa [hcb] using this
      · exact (Rg.below_append hB hbs (Nat.le_refl _) hown hg1).setCell (p := ⟨w.heap.size, 0, none⟩) (Nat.le_refl _) _
      · rw [Below.heap_setCell _ _ _ _ (by simp)]; exact hz1
    have HX := Aside0.mk hx
    have HV := Aside0.mk hv
    clear hx hv hz hzb hob hzW
    cases b with
    | false =>
      gi_wp2_with (gi_at_builtin; refine Rg.stop_here ?_)
      refine ⟨?_⟩
      refine wpListIn_append_own _ rfl _ _ 81 rfl w.heap.size 5 i0 (.int .u8 0) 1 1 Tryz.underlying81 hi hz0 hz1 hz2 rfl (by decide) _ _ _ rfl (hown.alloc _) ⟨W.heap.size, 0, none⟩ 1 1 [.int .u8 ((g : Int) + 128)] rfl rfl (cell_one_new _ _ _) (by simp [Value.oneCell']) (by simp only [maxLen]; omega) (by clear hor; omega) (by first | (simp; done) | (simp; omega)) ?_
      intro v' W1 hown' hgrow _
      obtain ⟨g', cap', rfl⟩ := Rg.owns_shape hown'
      obtain ⟨hv1, hfin⟩ := fin _ _ _ (by simp [bk_byte]) hown' hgrow
      have hc1 : W1.cell? ⟨w.heap.size, 0, none⟩ = some v := by simp [World.cell?, hv1]
      have hf1 : W1.frozen? ⟨w.heap.size, 0, none⟩ = false := by simp [World.frozen?, hv1]
      have HF := Aside0.mk hfin
      have HV1 := Aside0.mk hv1
      clear hfin hv1 hown' hgrow
      gi_wp2
      exact HF.out HV1.out
    | true =>
      gi_wp2_with (gi_at_builtin; refine Rg.stop_here ?_)
      refine ⟨?_⟩
      refine wpListIn_append_own _ rfl _ _ 81 rfl w.heap.size 5 i0 (.int .u8 0) 1 1 Tryz.underlying81 hi hz0 hz1 hz2 rfl (by decide) _ _ _ rfl (hown.alloc _) ⟨W.heap.size, 0, none⟩ 1 1 [.int .u8 (g : Int)] rfl rfl (cell_one_new _ _ _) (by simp [Value.oneCell']) (by simp only [maxLen]; omega) (by clear hor; omega) (by first | (simp; done) | (simp; omega)) ?_
      intro v' W1 hown' hgrow _
      obtain ⟨g', cap', rfl⟩ := Rg.owns_shape hown'
      obtain ⟨hv1, hfin⟩ := fin _ _ _ (by simp [bk_byte]) hown' hgrow
      have hc1 : W1.cell? ⟨w.heap.size, 0, none⟩ = some v := by simp [World.cell?, hv1]
      have hf1 : W1.frozen? ⟨w.heap.size, 0, none⟩ = false := by simp [World.frozen?, hv1]
      have HF := Aside0.mk hfin
      have HV1 := Aside0.mk hv1
      clear hfin hv1 hown' hgrow
      gi_wp2
      exact HF.out HV1.out
  case done =>
    rintro D xs W hD rfl ⟨v, hv, hown, hB, cz, hzW⟩ hdd
    have hc : W.cell? ⟨w.heap.size, 0, none⟩ = some v := by simp [World.cell?, hv]
    have hconv : (convert 81 9 v).run Tryz.prog W = .ok (.string ⟨(m_int n).toArray⟩) W := by
      have ho2 : W.ownsRow w.heap.size 5 1 v (m_grp 10 z).length (nums .u8 ((m_grp 10 z).map bk_byte)) := by
        simpa [nums, Function.comp_def] using hown
      rw [own_string Tryz.underlying81 Tryz.underlying5 Tryz.underlying9 ho2, m_grp_vint]
      unfold m_int
      rw [HZ.out]
      simp [strOfNums, Function.comp_def]
    have HD := Aside0.mk hdd
    clear hdd hown hzW hz hob hzb hv
    gi_wp2
    refine ⟨by simp, .inl ⟨_, _, rfl, run_takeDeferred HD.out, ?_⟩⟩
    exact ⟨_, results_tmp2 rfl _ _ _, rfl, hB.trans ((Rg.Turn.put HD.out rfl hD _).below.mono (by omega))⟩
  case stop =>
    rintro D c pre W _ _ h
    exact h.elim
theorem wire_PutInt.calls (a0 : Int) (r1 : ByteArray) (r2 : Int) (w : World) (h : wire_PutInt.f a0 = some (r1, r2)) :
    Calls Tryz.prog 23 #[.int .i64 a0] w fun e w' => e = .returned (.tuple #[.string r1, .int .i64 r2]) ∧ Below w.heap.size w w' := by
  have h' := Option.some.inj h
  unfold m_putInt m_fits at h'
  by_cases h1 : -4611686018427387903 ≤ a0 <;> by_cases h2 : a0 ≤ 4611686018427387903
  · simp [h1, h2] at h'
    obtain ⟨rfl, rfl⟩ := h'
    exact bk_putIntYes a0 w h1 h2
  all_goals
    simp [h1, h2] at h'
    obtain ⟨rfl, rfl⟩ := h'
    exact bk_putIntNo a0 w (by omega)
end Go.Proofs.YtkhgdglaophkbaaGreatDoor.PK
end
section
namespace Go.Proofs.YtkhgdglaophkbaaGreatDoor.PK
open Go.RowKit Go.Proofs.YtkhgdglaophkbaaGreatDoorW.PrintWords Go.Proofs.YtkhgdglaophkbaaGreatDoorW.PrintLast Go.Proofs.YtkhgdglaophkbaaGreatDoorW.PrintMore
attribute [local go_sem] max2_int min2_int max_two min_two max_three min_three max_four min_four   -- for this text's walks alone
set_option linter.unusedVariables false
set_option linter.unusedSimpArgs false
def wire_PutString.f (a0 : ByteArray) : Option (ByteArray × Int) := if (a0.size : Int) > 65536 then (some ((⟨#[]⟩ : ByteArray), 10)) else ((wire_PutInt.f (a0.size : Int)).bind fun bt257 => (if bt257.1.size + a0.size ≤ 9223372036854775807 then (some (bt257.1 ++ a0, 0)) else (none)))
set_option maxHeartbeats 8000000 in
set_option maxRecDepth 100000 in
theorem wire_PutString.calls (a0 : ByteArray) (r1 : ByteArray) (r2 : Int) (w : World) (h : wire_PutString.f a0 = some (r1, r2)) :
    Calls Tryz.prog 25 #[.string a0] w fun e w' => e = .returned (.tuple #[.string r1, .int .i64 r2]) ∧ Below w.heap.size w w' := by
  have HB := Aside0.mk (Below.refl w.heap.size w)
  have H : (if (a0.size : Int) > 65536 then (some ((⟨#[]⟩ : ByteArray), 10)) else ((wire_PutInt.f (a0.size : Int)).bind fun bt257 => (if bt257.1.size + a0.size ≤ 9223372036854775807 then (some (bt257.1 ++ a0, 0)) else (none)))) = some (r1, r2) := h
  clear h
  by_cases c2 : (a0.size : Int) > 65536
  · rw [if_pos c2] at H
    have c2b0 : decide (65536 < (a0.size : Int)) = true := decide_eq_true c2
    have c2b1 : decide (65536 < a0.size) = true := decide_eq_true (by omega)
    clear c2
    simp only [Option.some.injEq, Prod.mk.injEq] at H
    obtain ⟨rfl, rfl⟩ := H
    go_enter Tryz.func25, Tryz.ntmps25
    go_wp2
    go_ret2
    exact ⟨by first | rfl | (simp [errW_none, errW_some] <;> rfl) | (simp [*, errW_none, errW_some] <;> rfl), by repeat (first | (with_reducible first | exact HB.out | apply below_alloc | apply pw_below_drewN | apply below_drew1) | exact HB.out)⟩
  · rw [if_neg c2] at H
    have c2b0 : decide (65536 < (a0.size : Int)) = false := decide_eq_false c2
    have c2b1 : decide (65536 < a0.size) = false := decide_eq_false (by omega)
    clear c2
    replace H := Option.bind_eq_some_iff.mp H
    obtain ⟨⟨t257, t258⟩, A30, H⟩ := H
    replace H : (if t257.size + a0.size ≤ 9223372036854775807 then (some (t257 ++ a0, 0)) else (none)) = some (r1, r2) := H
    have A3 := Aside0.mk A30
    clear A30
    by_cases c4 : t257.size + a0.size ≤ 9223372036854775807
    · rw [if_pos c4] at H
      have c4b0 := eq_true c4
      have c4b1 : decide (t257.size + a0.size ≤ 9223372036854775807) = true := decide_eq_true c4
      try have c4b2 : (9223372036854775807 < t257.size + a0.size) = False := eq_false (Nat.not_lt.2 c4)
      simp only [Option.some.injEq, Prod.mk.injEq] at H
      obtain ⟨rfl, rfl⟩ := H
      go_enter Tryz.func25, Tryz.ntmps25
      go_wp2_with (first | ((with_reducible refine gate_callee (f := 23) rfl ?_); refine goesL_ (some 12) rfl rfl Tryz.func23 (by kernel_rfl) rfl #[.int .i64 (a0.size : Int)] rfl (by (try simp only [List.map_toArray, List.map_cons, List.map_nil]); first | done | rfl | (simp only [List.length_drop, List.length_take]; rfl)) ?_; (with_reducible refine (wire_PutInt.calls (a0.size : Int) t257 t258 _ A3.out).mono ?_); rintro e w5 ⟨rfl, hb⟩; refine ⟨_, rfl, ?_⟩; have n0_ := Aside0.mk (below_step (by repeat (first | (with_reducible first | exact HB.out | apply below_alloc | apply pw_below_drewN | apply below_drew1) | exact HB.out)) hb); clear HB; have HB := n0_; clear n0_; (try clear hb); (try clear hb2); (try clear hk); (try clear hi)))
      go_ret2
      exact ⟨by first | rfl | (simp [errW_none, errW_some] <;> rfl) | (simp [*, errW_none, errW_some] <;> rfl), by repeat (first | (with_reducible first | exact HB.out | apply below_alloc | apply pw_below_drewN | apply below_drew1) | exact HB.out)⟩
    · rw [if_neg c4] at H
      exact absurd H (by simp)
end Go.Proofs.YtkhgdglaophkbaaGreatDoor.PK
end
section
namespace Go.Proofs.YtkhgdglaophkbaaGreatDoor.PK
open Go.RowKit Go.Proofs.YtkhgdglaophkbaaGreatDoorW.PrintWords Go.Proofs.YtkhgdglaophkbaaGreatDoorW.PrintLast Go.Proofs.YtkhgdglaophkbaaGreatDoorW.PrintMore
attribute [local go_sem] max2_int min2_int max_two min_two max_three min_three max_four min_four   -- for this text's walks alone
set_option linter.unusedVariables false
set_option linter.unusedSimpArgs false
def block_Encode.f (l0 : List (S49)) : Option (ByteArray × Int) := some (m_encode l0)
theorem bk_byteCells_app (a b : List UInt8) : Lib.byteCells a ++ Lib.byteCells b = Lib.byteCells (a ++ b) := by simp [Lib.byteCells]
theorem bk_byteCells_len (a : List UInt8) : (Lib.byteCells a).length = a.length := by simp [Lib.byteCells]
theorem cd_vint_len : ∀ (k z : Nat), (m_vint k z).length ≤ k
  | 0, z => by simp [m_vint]
  | k + 1, z => by
    rw [m_vint]
    split
    · simp
    · simp only [List.length_cons]; have := cd_vint_len k (z / 128); omega
theorem cd_int_len (n : Int) : (m_int n).length ≤ 10 := cd_vint_len 10 _
theorem cd_flat_len {α : Type} (f : α → List UInt8) (c : Nat) : ∀ (l : List α), (∀ x ∈ l, (f x).length ≤ c) → (l.flatMap f).length ≤ c * l.length
  | [], _ => by simp
  | x :: l, h => by
    have h1 := h x (by simp)
    have h2 := cd_flat_len f c l (fun y hy => h y (by simp [hy]))
    rw [List.flatMap_cons, List.length_append, List.length_cons, Nat.mul_succ]; omega
theorem cd_encB_len (b : Bl) (h : m_okB b) : (m_encB b).length ≤ 70000 := by
  obtain ⟨_, _, h2, _, _, _, h6, _, _⟩ := h
  have := cd_flat_len m_int 10 b.f5.f1 (fun x _ => cd_int_len x)
  simp only [m_encB, m_str, List.length_append]
  have e0 := cd_int_len b.f0
  have e1 := cd_int_len b.f1
  have e2 := cd_int_len (b.f2.data.toList.length : Int)
  have e3 := cd_int_len b.f3
  have e4 := cd_int_len b.f4
  have e5 := cd_int_len b.f5.f0
  have e6 := cd_int_len (b.f5.f1.length : Int)
  have e7 := cd_int_len b.f5.f2
  have e8 := cd_int_len b.f5.f3
  omega
theorem bk_ints_take (l : List Int) (j : Nat) (h : j < l.length) : (l.take (j + 1)).flatMap m_int = (l.take j).flatMap m_int ++ m_int l[j] := by
  rw [List.take_succ_eq_append_getElem h, List.flatMap_append]; simp
set_option maxHeartbeats 2000000 in
set_option maxRecDepth 100000 in
theorem bk_ints (B b : Nat) (A : Option Addr) (c : Nat) (l : List Int) (bs : List UInt8) (w : World) (hl : l.length ≤ 1000000)
    (hst : ∀ w', Below B w w' → Bk.KeptT 90 5 w w' → Kd.C (Kd.int .i64) w' A l.length l)
    (hb : Lib.IsBuilder 90 5 B b (Lib.byteCells bs) w) (hBw : B ≤ w.heap.size) (hfit : ∀ x ∈ l, m_fits x = true) (hlen : bs.length + 10 * l.length ≤ 1000000000) :
    Calls Tryz.prog 41 #[.slice A l.length c, .pointer (some ⟨b, 0, none⟩)] w fun e w' => e = .returned (.tuple #[]) ∧
      Lib.IsBuilder 90 5 B b (Lib.byteCells (bs ++ l.flatMap m_int)) w' ∧ Below B w w' ∧ Bk.KeptT 90 5 w w' := by
  have HST := Aside0.mk hst
  have HF := Aside0.mk hfit
  clear hst hfit
  go_enter Tryz.func41, Tryz.ntmps41
  go_wp2
  go_loopw [9] (fun p wr => ∃ (j : Nat), p = .int .i64 (j : Int) ∧ j ≤ l.length ∧ Lib.IsBuilder 90 5 B b (Lib.byteCells (bs ++ (l.take j).flatMap m_int)) wr ∧ Below B w wr ∧ Bk.KeptT 90 5 w wr)
    (fun p _ => l.length - (intOf p).toNat)
  case atStart => exact ⟨0, rfl, Nat.zero_le _, by rw [List.take_zero, List.flatMap_nil, List.append_nil]; exact hb, Below.refl _ _, Bk.KeptT.refl _ _ _⟩
  case round =>
    clear hb
    obtain ⟨j, rfl, hj, hbl, hB, hK⟩ := hrel
    by_cases hlt : j < l.length
    · have hd : decide ((j : Int) < (l.length : Int)) = true := by simp; omega
      obtain ⟨ad, e0, hx⟩ := Kd.at_int (HST.out wr hB hK) (j : Int) (by omega) (by omega)
      cases e0
      have hrd : rd l (j : Int) = l[j] := by simp [rd, List.getD_eq_getElem?_getD, hlt]
      rw [hrd] at hx
      simp only [Int.toNat_natCast] at hx
      have htake := bk_ints_take l j hlt
      have hfj := HF.out l[j] (List.getElem_mem hlt)
      have hfl := cd_flat_len m_int 10 (l.take j) (fun x _ => cd_int_len x)
      rw [List.length_take, Nat.min_eq_left (by omega)] at hfl
      obtain ⟨x, hxx⟩ : ∃ x, l[j] = x := ⟨_, rfl⟩
      rw [hxx] at hx htake hfj
      have hil := cd_int_len x
      have HT := Aside0.mk htake
      have hput := wire_PutInt.calls x ⟨(m_int x).toArray⟩ 0
      have hputf : wire_PutInt.f x = some (⟨(m_int x).toArray⟩, 0) := by
        show some (m_putInt x) = _
        rw [m_putInt, if_pos hfj]
      obtain ⟨S, hS⟩ : ∃ S : ByteArray, S = ⟨(m_int x).toArray⟩ := ⟨_, rfl⟩
      rw [← hS] at hput hputf
      have hSs : S.size = (m_int x).length := by rw [hS]; simp [ByteArray.size]
      have HS : Aside0 (S.data.toList = m_int x) := ⟨by rw [hS]⟩
      have hpc : ∀ w1, Calls Tryz.prog 23 #[.int .i64 x] w1 fun e w' => e = .returned (.tuple #[.string S, .int .i64 0]) ∧ Below w1.heap.size w1 w' := fun w1 => hput w1 hputf
      clear hput hputf hS hxx htake hrd hfj
      have p1 : (0 : Int) ≤ (j : Int) := by omega
      go_wp2_with (go_at_call 23; refine Rg.stop_here ?_)
      refine ⟨?_⟩
      refine (hpc _).mono ?_
      rintro e w5 ⟨rfl, hb5⟩
      go_wp2_with (go_at_call 42; refine Rg.stop_here ?_)
      refine ⟨?_⟩
      refine (Bk.writeString B b _ _ _ (Bk.builder_below hbl hb5) (by rw [bk_byteCells_len, List.length_append]; omega) (Nat.le_trans (Nat.le_trans hBw hB.size) hb5.size)).mono ?_
      rintro e w6 ⟨rfl, hbl6, hb6, hk6⟩
      rw [show Lib.strCells S = Lib.byteCells S.data.toList from rfl, HS.out, bk_byteCells_app, List.append_assoc, ← HT.out] at hbl6
      have hB5 : Below B wr w5 := ⟨hb5.os, hb5.tape, hb5.output, hb5.size, fun i hi => hb5.block i (by have := hB.size; omega)⟩
      go_wp2_with fail
      go_roundw
      case rel => exact ⟨j + 1, by go_num, by omega, .inr hbl6, (hB.trans hB5).trans hb6, (hK.trans (Bk.KeptT.of_below hb5)).trans hk6⟩
      case measure => simp [intOf]; omega
    · have hjl : j = l.length := by omega
      subst hjl
      have hd : decide (((l.length : Nat) : Int) < (l.length : Int)) = false := by simp
      rw [List.take_length] at hbl
      go_wp2
      go_end0
      exact ⟨rfl, hbl, hB, hK⟩
theorem bk_C_lit (l : List Int) (W : World) (g : Nat) (h : W.heap[g]? = some (.cells (l.map (Value.int .i64)).toArray 3 (0, 0))) (hm : l.length ≤ 9223372036854775807) : Kd.C (Kd.int .i64) W (some ⟨g, 0, none⟩) l.length l :=
  ⟨rfl, hm, fun _ => ⟨_, rfl, fun j p hp => ⟨[.int .i64 p], rfl, rfl, fun i u hu => by
    have hi : i = 0 := by
      have := (List.getElem?_eq_some_iff.1 hu).1
      simp at this; exact this
    subst hi
    have hu' : u = .int .i64 p := (Option.some.inj hu).symm
    subst hu'
    have hc : W.cell? ⟨g, j, none⟩ = some (.int .i64 p) := by
      rw [bk_cell h j]; simp [hp]
    show W.cell? ((⟨g, 0, none⟩ : Addr).add (j * 1 + 0)) = _
    by_cases hj : j = 0
    · subst hj; simpa [Addr.add] using hc
    · simpa [Addr.add, hj] using hc⟩⟩⟩
theorem bk_ints_lit (B b g n : Nat) (l : List Int) (hn : l.length = n) (bs : List UInt8) (w : World) (hl : l.length ≤ 1000000) (hg : w.heap[g]? = some (.cells (l.map (Value.int .i64)).toArray 3 (0, 0)))
    (hb : Lib.IsBuilder 90 5 B b (Lib.byteCells bs) w) (hBw : B ≤ w.heap.size) (hfit : ∀ x ∈ l, m_fits x = true) (hlen : bs.length + 10 * l.length ≤ 1000000000) :
    Calls Tryz.prog 41 #[.slice (some ⟨g, 0, none⟩) n n, .pointer (some ⟨b, 0, none⟩)] w fun e w' => e = .returned (.tuple #[]) ∧
      Lib.IsBuilder 90 5 B b (Lib.byteCells (bs ++ l.flatMap m_int)) w' ∧ Below B w w' ∧ Bk.KeptT 90 5 w w' := by
  subst hn
  exact bk_ints B b _ _ l bs w hl (fun w' hB hK => bk_C_lit l w' g (hK.kept _ _ _ _ hg (by decide) (by decide)) (by omega)) hb hBw hfit hlen
theorem bk_putString (s : ByteArray) (w : World) (h : s.size ≤ 65536) : ∃ S : ByteArray, S.data.toList = m_str s.data.toList ∧ Calls Tryz.prog 25 #[.string s] w fun e w' => e = .returned (.tuple #[.string S, .int .i64 0]) ∧ Below w.heap.size w w' := by
  have hf : m_fits (s.size : Int) = true := (cd_fits _).2 (by omega)
  have hp : wire_PutInt.f (s.size : Int) = some (⟨(m_int (s.size : Int)).toArray⟩, 0) := by
    show some (m_putInt _) = _
    rw [m_putInt, if_pos hf]
  have hl := cd_int_len (s.size : Int)
  refine ⟨⟨(m_int (s.size : Int)).toArray⟩ ++ s, ?_, wire_PutString.calls s _ _ w ?_⟩
  · rw [ByteArray.data_append, Array.toList_append, m_str, Array.length_toList]; rfl
  · unfold wire_PutString.f
    rw [if_neg (by omega), hp]
    show (if _ then _ else _) = _
    rw [if_pos]
    simp only [ByteArray.size, List.size_toArray] at hl h ⊢
    omega
theorem bk_enc_take (l : List Bl) (j : Nat) (h : j < l.length) : (l.take (j + 1)).flatMap m_encB = (l.take j).flatMap m_encB ++ m_encB l[j] := by
  rw [List.take_succ_eq_append_getElem h, List.flatMap_append]; simp
theorem bk_isBuilder_of {w : World} {B b : Nat} (hB : B ≤ b) (h : w.heap[b]? = some (.cells #[.pointer none, .slice none 0 0] 90 (0, 0))) : Lib.IsBuilder 90 5 B b [] w :=
  Or.inl ⟨hB, .slice none 0 0, h, World.ownsRow_nil _ _ _ _, by simp [Value.ownBlock]⟩
set_option maxHeartbeats 4000000 in
set_option maxRecDepth 100000 in
theorem block_Encode.calls (A0 : Option Addr) (c0 : Nat) (l0 : List (S49)) (r1 : ByteArray) (r2 : Int) (w : World) (hr0 : Kd.C k49 w A0 l0.length l0) (hc0 : l0.length ≤ c0) (h : block_Encode.f l0 = some (r1, r2)) :
    Calls Tryz.prog 28 #[.slice A0 l0.length c0] w fun e w' => e = .returned (.tuple #[.string r1, .int .i64 r2]) ∧ Below w.heap.size w w' := by
  have h' := Option.some.inj h
  clear h
  have HR := Aside0.mk hr0
  have hmax := Kd.C_max hr0
  have hvl := block_ValidList.calls A0 c0 l0 (m_validL l0) w hr0 hc0 rfl
  clear hr0 hc0
  cases hv : m_validL l0 with
  | false =>
    rw [hv] at hvl
    rw [cd_encode_err l0 hv] at h'
    obtain ⟨rfl, rfl⟩ := Prod.mk.inj h'
    go_enter Tryz.func28, Tryz.ntmps28
    go_wp2_with (go_at_call 40; refine hvl.mono ?_; rintro e w1 ⟨rfl, hb1⟩)
    go_ret2
    exact ⟨rfl, hb1⟩
  | true =>
    rw [hv] at hvl
    rw [cd_encode_ok l0 hv] at h'
    obtain ⟨rfl, rfl⟩ := Prod.mk.inj h'
    have HOK := Aside0.mk (cd_validL_ok l0 hv)
    have hlen24 := HOK.out.1
    go_enter Tryz.func28, Tryz.ntmps28
    go_wp2_with (first | (go_at_call 40; refine hvl.mono ?_; rintro e w1 ⟨rfl, hb1⟩) | (with_reducible refine is_alloc rfl ?_; refine Rg.stop_here ?_))
    refine ⟨?_⟩
    refine box_event rfl (N := 4) rfl (cs := #[.pointer none, .slice none 0 0]) (t := 90) (by first | (go_simp; done) | (go_simp; rfl)) ?_
    intro b hb w2 hbx hb2
    have hB := Nat.le_of_eq hb.symm
    have hbl := bk_isBuilder_of hB hbx
    have HB := Aside0.mk hB
    have hB1s := hb1.size
    obtain ⟨B, hBe⟩ : ∃ B, B = w1.heap.size := ⟨_, rfl⟩
    rw [← hBe] at hbl hb2 hB1s
    have HB1 := Aside0.mk hb1
    have HBE := Aside0.mk hBe
    have hBw2 : B ≤ w2.heap.size := Nat.le_trans (Nat.le_of_eq HBE.out) hb2.size
    clear hb hbx hB hb1 hvl hBe
    go_wp2_with (with_reducible refine is_build rfl ?_; refine Rg.stop_here ?_)
    refine ⟨?_⟩
    refine lit_event rfl (N := 17) rfl (cs := #[.int .i64 (l0.length : Int)]) (t := 3) (n := 1) (by first | (go_simp; done) | (go_simp; rfl)) ?_
    intro g3 hg3 w3 hl3 hb3
    have hbl3 := Bk.builder_below hbl hb3
    have hB3 : Below B w1 w3 := hb2.trans (bk_below_mono hb3 hBw2)
    clear hg3 hbl hb3 hb2 hBw2
    go_wp2_with fail
    refine (bk_ints_lit B b g3 1 [(l0.length : Int)] rfl [] w3 (by simp) hl3 hbl3 (Nat.le_trans (Nat.le_of_eq HBE.out) hB3.size) (by simp; rw [cd_fits]; omega) (by simp)).mono ?_
    rintro e w4 ⟨rfl, hbl4, hb4, hk4⟩
    have hB4 := hB3.trans hb4
    rw [List.nil_append, show [(l0.length : Int)].flatMap m_int = m_int (l0.length : Int) from List.flatMap_singleton ..] at hbl4
    clear hl3 hbl3 hB3 hb4 hk4
    go_wp2
    go_loopw [21] (fun p wr => ∃ (j : Nat), p = .int .i64 (j : Int) ∧ j ≤ l0.length ∧ Lib.IsBuilder 90 5 B b (Lib.byteCells (m_int (l0.length : Int) ++ (l0.take j).flatMap m_encB)) wr ∧ Below B w1 wr)
      (fun p _ => l0.length - (intOf p).toNat)
    case atStart => exact ⟨0, rfl, Nat.zero_le _, by rw [List.take_zero, List.flatMap_nil, List.append_nil]; exact hbl4, hB4⟩
    case round =>
      clear hbl4 hB4
      obtain ⟨j, rfl, hj, hbl, hB⟩ := hrel
      have hBB : ∀ w', Below B w1 w' → Below w.heap.size w w' := fun w' h => below_step HB1.out (HBE.out ▸ h)
      by_cases hlt : j < l0.length
      · have hd : decide ((j : Int) < (l0.length : Int)) = true := by simp; omega
        obtain ⟨ad, A6, c6, e0, hx0, hx1, hx2, hx3, hx4, hx5, hx6, hx7, hx8, hl6, hi6⟩ := at_T49 HR.out (j : Int) (by omega) (by omega)
        rw [bk_rd l0 j hlt] at hx0 hx1 hx2 hx3 hx4 hx5 hx6 hx7 hx8 hl6 hi6
        have htake := bk_enc_take l0 j hlt
        have hok := HOK.out.2 l0[j] (List.getElem_mem hlt)
        have hfl := cd_flat_len m_encB 70000 (l0.take j) (fun y hy => cd_encB_len y (HOK.out.2 y (List.mem_of_mem_take hy)))
        rw [List.length_take, Nat.min_eq_left (by omega)] at hfl
        have hil := cd_int_len (l0.length : Int)
        obtain ⟨x, hx⟩ : ∃ x, l0[j] = x := ⟨_, rfl⟩
        rw [hx] at hx0 hx1 hx2 hx3 hx4 hx5 hx6 hx7 hx8 hl6 hi6 htake hok
        obtain ⟨bs0, hbs0⟩ : ∃ bs0, bs0 = m_int (l0.length : Int) ++ (l0.take j).flatMap m_encB := ⟨_, rfl⟩
        have hbs0l : bs0.length ≤ 2000000 := by rw [hbs0, List.length_append]; omega
        rw [← hbs0] at hbl
        have hfin : bs0 ++ m_encB x = m_int (l0.length : Int) ++ (l0.take (j + 1)).flatMap m_encB := by rw [htake, hbs0, List.append_assoc]
        have HT := Aside0.mk hfin
        have HI6 := Aside0.mk hi6
        obtain ⟨o0, o1, o2, o3, o4, o5, ⟨o6l, o6⟩, o7, o8⟩ := hok
        have O6 := Aside0.mk o6
        clear hx htake hi6 hfl hil hbs0 hfin o6
        simp only [Int.toNat_natCast] at hx0 hx1 hx2 hx3 hx4 hx5 hx6 hx7 hx8
        cases e0
        have hBr := hBB wr hB
        replace hx0 := bk_stepc hx0 hBr
        replace hx1 := bk_stepc hx1 hBr
        replace hx2 := bk_stepc hx2 hBr
        replace hx3 := bk_stepc hx3 hBr
        replace hx4 := bk_stepc hx4 hBr
        replace hx5 := bk_stepc hx5 hBr
        replace hx6 := bk_stepc hx6 hBr
        replace hx7 := bk_stepc hx7 hBr
        replace hx8 := bk_stepc hx8 hBr
        have p1 : (0 : Int) ≤ (j : Int) := by omega
        go_wp2_with (with_reducible refine is_alloc rfl ?_; refine Rg.stop_here ?_)
        refine ⟨?_⟩
        refine box_event rfl (N := 7) rfl (cs := #[.int .i64 0, .int .i64 0, .string (⟨#[]⟩ : ByteArray), .int .i64 0, .int .i64 0, .int .i64 0, .slice none 0 0, .int .i64 0, .int .i64 0]) (t := 49) (by first | (go_simp; done) | (go_simp; rfl)) ?_
        intro gb hg v1 hbx hb1
        have HGg := Aside0.mk hg
        clear hg
        go_wp2_with (with_reducible refine is_store rfl ?_; refine Rg.stop_here ?_)
        refine ⟨?_⟩
        refine wpList_store_box rfl rfl _ _ _ rfl gb _ _ _ rfl rfl hbx bk_size26 rfl (by repeat (first | exact List.forall_mem_nil _ | refine List.forall_mem_cons.2 ⟨rfl, ?_⟩)) ?_
        intro v2 hbx2 hst hot
        have hq2 : Below wr.heap.size wr v2 := hb1.trans (hst _ (by rw [HGg.out]; exact Nat.le_refl _))
        have hBle : B ≤ wr.heap.size := Nat.le_trans (Nat.le_of_eq HBE.out) hB.size
        have hB2 : Below B w1 v2 := hB.trans (bk_below_mono hq2 hBle)
        have hbl2 := Bk.builder_below hbl hq2
        obtain ⟨d0, d1, d2, d3, d4, d5, d6, d7, d8⟩ := bk_Box.of hbx2
        clear hb1 hbx hx0 hx1 hx2 hx3 hx4 hx5 hx6 hx7 hx8 hst hot hbl hB hBr
        obtain ⟨S, hS, hput⟩ := bk_putString x.f2 v2 (by rw [Array.length_toList] at o2; exact o2)
        have HS := Aside0.mk hS
        clear hS
        go_wp2_with (go_at_call 25; refine Rg.stop_here ?_)
        refine ⟨?_⟩
        refine hput.mono ?_
        rintro e v3 ⟨rfl, hb3⟩
        have hBle2 : B ≤ v2.heap.size := Nat.le_trans (Nat.le_of_eq HBE.out) hB2.size
        have hB3 : Below B w1 v3 := hB2.trans (bk_below_mono hb3 hBle2)
        have hbl3 := Bk.builder_below hbl2 hb3
        have hbx3 := bk_heap_below hbx2 hb3
        clear d0 d1 d2 d3 d4 d5 d6 d7 d8 hbx2 hput hb3 hB2 hbl2 hq2 hBle
        obtain ⟨d0, d1, d2, d3, d4, d5, d6, d7, d8⟩ := bk_Box.of hbx3
        go_wp2_with (with_reducible refine is_build rfl ?_; refine Rg.stop_here ?_)
        refine ⟨?_⟩
        refine lit_event rfl (N := 36) rfl (cs := #[.int .i64 x.f0, .int .i64 x.f1]) (t := 3) (n := 2) (by first | (go_simp; done) | (go_simp; rfl)) ?_
        intro g4 hg4 v4 hl4 hb4
        have hB4 : Below B w1 v4 := hB3.trans (bk_below_mono hb4 (Nat.le_trans (Nat.le_of_eq HBE.out) hB3.size))
        have hbl4 := Bk.builder_below hbl3 hb4
        have hbx4 := bk_heap_below hbx3 hb4
        clear d0 d1 d2 d3 d4 d5 d6 d7 d8 hbx3 hb4 hB3 hbl3 hg4
        go_wp2_with fail
        refine (bk_ints_lit B b g4 2 [x.f0, x.f1] rfl bs0 v4 (by simp) hl4 hbl4 (Nat.le_trans (Nat.le_of_eq HBE.out) hB4.size) (by simp [o0, o1]) (by simp; omega)).mono ?_
        rintro e v5 ⟨rfl, hbl5, hb5, hk5⟩
        have hB5 := hB4.trans hb5
        have hbx5 := hk5.kept _ _ _ _ hbx4 (by decide) (by decide)
        clear hl4 hbl4 hB4 hb5 hk5 hbx4
        obtain ⟨bs1, hbs1⟩ : ∃ bs1, bs1 = bs0 ++ [x.f0, x.f1].flatMap m_int := ⟨_, rfl⟩
        have hbs1l : bs1.length ≤ 2000000 + 20 := by
          have := cd_flat_len m_int 10 [x.f0, x.f1] (fun y _ => cd_int_len y)
          rw [hbs1, List.length_append]; simp only [List.length_cons, List.length_nil] at this; omega
        rw [← hbs1] at hbl5
        have HBS1 := Aside0.mk hbs1
        clear hbs1
        go_wp2_with (go_at_call 42; refine Rg.stop_here ?_)
        refine ⟨?_⟩
        have hSl : S.size ≤ 65546 := by
          have h1 := congrArg List.length HS.out
          have h2 := cd_int_len (x.f2.data.toList.length : Int)
          rw [Array.length_toList, m_str, List.length_append] at h1
          show S.data.size ≤ _
          omega
        refine (Bk.writeString B b _ S v5 hbl5 (by rw [bk_byteCells_len]; omega) (Nat.le_trans (Nat.le_of_eq HBE.out) hB5.size)).mono ?_
        rintro e v6 ⟨rfl, hbl6, hb6, hk6⟩
        rw [show Lib.strCells S = Lib.byteCells S.data.toList from rfl, HS.out, bk_byteCells_app] at hbl6
        have hB6 := hB5.trans hb6
        have hbx6 := hk6.kept _ _ _ _ hbx5 (by decide) (by decide)
        clear hbl5 hB5 hb6 hk6 hbx5
        obtain ⟨bs2, hbs2⟩ : ∃ bs2, bs2 = bs1 ++ m_str x.f2.data.toList := ⟨_, rfl⟩
        have hbs2l : bs2.length ≤ 2000000 + 20 + 65546 := by
          rw [hbs2, List.length_append, ← HS.out]
          have : S.data.size ≤ 65546 := hSl
          have h3 : S.data.toList.length = S.data.size := Array.length_toList
          omega
        rw [← hbs2] at hbl6
        have HBS2 := Aside0.mk hbs2
        clear hbs2 hSl
        obtain ⟨d0, d1, d2, d3, d4, d5, d6, d7, d8⟩ := bk_Box.of hbx6
        go_wp2_with (with_reducible refine is_build rfl ?_; refine Rg.stop_here ?_)
        refine ⟨?_⟩
        refine lit_event rfl (N := 52) rfl (cs := #[.int .i64 x.f3, .int .i64 x.f4, .int .i64 x.f5.f0, .int .i64 (x.f5.f1.length : Int)]) (t := 3) (n := 4) (by first | (go_simp; done) | (go_simp; rfl)) ?_
        intro g7 hg7 v7 hl7 hb7
        have hB7 : Below B w1 v7 := hB6.trans (bk_below_mono hb7 (Nat.le_trans (Nat.le_of_eq HBE.out) hB6.size))
        have hbl7 := Bk.builder_below (.inr hbl6) hb7
        have hbx7 := bk_heap_below hbx6 hb7
        clear d0 d1 d2 d3 d4 d5 d6 d7 d8 hbx6 hb7 hB6 hbl6 hg7
        go_wp2_with fail
        refine (bk_ints_lit B b g7 4 [x.f3, x.f4, x.f5.f0, (x.f5.f1.length : Int)] rfl bs2 v7 (by simp) hl7 hbl7 (Nat.le_trans (Nat.le_of_eq HBE.out) hB7.size) (by simp [o3, o4, o5]; rw [cd_fits]; omega) (by simp; omega)).mono ?_
        rintro e v8 ⟨rfl, hbl8, hb8, hk8⟩
        have hB8 := hB7.trans hb8
        have hbx8 := hk8.kept _ _ _ _ hbx7 (by decide) (by decide)
        clear hl7 hbl7 hB7 hb8 hk8 hbx7
        obtain ⟨bs3, hbs3⟩ : ∃ bs3, bs3 = bs2 ++ [x.f3, x.f4, x.f5.f0, (x.f5.f1.length : Int)].flatMap m_int := ⟨_, rfl⟩
        have hbs3l : bs3.length ≤ 2000000 + 20 + 65546 + 40 := by
          have := cd_flat_len m_int 10 [x.f3, x.f4, x.f5.f0, (x.f5.f1.length : Int)] (fun y _ => cd_int_len y)
          rw [hbs3, List.length_append]; simp only [List.length_cons, List.length_nil] at this; omega
        rw [← hbs3] at hbl8
        have HBS3 := Aside0.mk hbs3
        clear hbs3
        obtain ⟨d0, d1, d2, d3, d4, d5, d6, d7, d8⟩ := bk_Box.of hbx8
        go_wp2_with fail
        refine (bk_ints B b A6 c6 x.f5.f1 bs3 v8 (by omega) (fun w' hb' _ => Kd.C_below HI6.out (hBB w' (hB8.trans hb'))) hbl8 (Nat.le_trans (Nat.le_of_eq HBE.out) hB8.size) O6.out (by omega)).mono ?_
        rintro e v9 ⟨rfl, hbl9, hb9, hk9⟩
        have hB9 := hB8.trans hb9
        have hbx9 := hk9.kept _ _ _ _ hbx8 (by decide) (by decide)
        clear d0 d1 d2 d3 d4 d5 d6 d7 d8 hbl8 hB8 hb9 hk9 hbx8
        obtain ⟨bs4, hbs4⟩ : ∃ bs4, bs4 = bs3 ++ x.f5.f1.flatMap m_int := ⟨_, rfl⟩
        have hbs4l : bs4.length ≤ 2000000 + 20 + 65546 + 40 + 640 := by
          have := cd_flat_len m_int 10 x.f5.f1 (fun y _ => cd_int_len y)
          rw [hbs4, List.length_append]; omega
        rw [← hbs4] at hbl9
        have HBS4 := Aside0.mk hbs4
        clear hbs4
        obtain ⟨d0, d1, d2, d3, d4, d5, d6, d7, d8⟩ := bk_Box.of hbx9
        go_wp2_with (with_reducible refine is_build rfl ?_; refine Rg.stop_here ?_)
        refine ⟨?_⟩
        refine lit_event rfl (N := 66) rfl (cs := #[.int .i64 x.f5.f2, .int .i64 x.f5.f3]) (t := 3) (n := 2) (by first | (go_simp; done) | (go_simp; rfl)) ?_
        intro g10 hg10 v10 hl10 hb10
        have hB10 : Below B w1 v10 := hB9.trans (bk_below_mono hb10 (Nat.le_trans (Nat.le_of_eq HBE.out) hB9.size))
        have hbl10 := Bk.builder_below hbl9 hb10
        clear d0 d1 d2 d3 d4 d5 d6 d7 d8 hbx9 hb10 hB9 hbl9 hg10
        go_wp2_with fail
        refine (bk_ints_lit B b g10 2 [x.f5.f2, x.f5.f3] rfl bs4 v10 (by simp) hl10 hbl10 (Nat.le_trans (Nat.le_of_eq HBE.out) hB10.size) (by simp [o7, o8]) (by simp; omega)).mono ?_
        rintro e v11 ⟨rfl, hbl11, hb11, hk11⟩
        have hB11 := hB10.trans hb11
        go_wp2_with fail
        go_roundw
        case rel => exact ⟨j + 1, by go_num, by omega, by rw [← HT.out, show bs0 ++ m_encB x = bs4 ++ [x.f5.f2, x.f5.f3].flatMap m_int by rw [HBS4.out, HBS3.out, HBS2.out, HBS1.out]; simp [m_encB, m_str]]; exact hbl11, hB11⟩
        case measure => simp [intOf]; omega
      · have hjl : j = l0.length := by omega
        subst hjl
        have hd : decide (((l0.length : Nat) : Int) < (l0.length : Int)) = false := by simp
        rw [List.take_length] at hbl
        go_wp2_with (go_at_call 43; refine (Tryz.Builder_String_any _ _ _ _ hbl (Nat.le_trans (Nat.le_of_eq HBE.out) hB.size)).mono ?_; rintro e w5 ⟨rfl, hb5⟩)
        go_ret2
        exact ⟨rfl, hBB _ (hB.trans hb5)⟩
end Go.Proofs.YtkhgdglaophkbaaGreatDoor.PK
end
section
set_option linter.unusedVariables false
set_option linter.unusedSimpArgs false
namespace Go.Proofs.YtkhgdglaophkbaaGreatDoor.PK
open Go.RowKit Go.Proofs.YtkhgdglaophkbaaGreatDoorW.PrintWords Go.Proofs.YtkhgdglaophkbaaGreatDoorW.PrintLast Go.Proofs.YtkhgdglaophkbaaGreatDoorW.PrintMore
theorem rg_lastcall {P : Program} {ops : Array Oper} {Q : Exit → Act → World → Prop} {S : World → Prop} {ds : List Nat} (i : Nat) {N : Option Tmp} {oi : Oper} {fuel : Nat} {l : Array Bool} {a : Act} {w : World} (hi : ops[i]? = some oi) (hN : oi.dst = N) (hc : readyB .any ops l (l.setIfInBounds i true) i = true) (hd : i ∈ ds)
    (hw : Region.wanted oi (yielded ops a.tmps) = true) (f : FuncId) (args : Array Value) (hrun : (execOp a.eval oi).run P w = .ok (.enter f args) w) (hdone : (Region.ready .any ops (l.setIfInBounds i true) == []) = true)
    (h : Calls P f args w fun e w' => ∃ v, e = .returned v ∧ Q .normal (a.put N v) w') : wpAnyLast P .any ops Q S ds (fuel + 1) l a w :=
  last_ _ hi hN hc hd (fun K hK => call_ f args hw hN hrun (h.mono fun e w2 ⟨v, he, hq⟩ => ⟨v, he, hK _ _ (done_ hdone hq)⟩))
theorem setCell_idem {w : World} {b o : Nat} {v : Value} (h : w.cell? ⟨b, o, none⟩ = some v) : (w.setCell ⟨b, o, none⟩ v).heap[b]? = w.heap[b]? := by
  unfold World.cell? at h
  unfold World.setCell
  simp only [Array.getElem?_modify, ↓reduceIte]
  cases hb : w.heap[b]? with
  | none => simp
  | some ob =>
    rw [hb] at h
    cases ob with
    | cells c t fr =>
      simp only [Option.isSome_none, Bool.false_eq_true, ↓reduceIte] at h ⊢
      obtain ⟨hlt, he⟩ := Array.getElem?_eq_some_iff.1 h
      simp only [Option.map_some, Option.some.injEq, Obj.cells.injEq, and_true]
      apply Array.ext
      · simp
      · intro i h1 h2
        rw [Array.getElem_setIfInBounds (by simpa using h1)]
        split
        · rename_i hi; subst hi; exact he.symm
        · rfl
    | _ => simp at h
theorem ew_put (po : Nat) (S t : ByteArray) (er : Int) (w : World) (hc : w.heap[po]? = some (.cells #[.string S] 9 (0, 0))) (hsz : S.size + t.size ≤ 9223372036854775807) :
    Calls Tryz.prog 21 #[.string t, .int .i64 er, .pointer (some ⟨po, 0, none⟩)] w fun e w' => e = .returned (.tuple #[]) ∧ w' = w.setCell ⟨po, 0, none⟩ (.string (S ++ t)) := by
  have c0 : w.cell? ⟨po, 0, none⟩ = some (.string S) := bk_cell hc 0
  have z0 := bk_frozen hc 0
  clear hc
  go_enter Tryz.func21, Tryz.ntmps21
  go_wp2
  go_end0
  exact ⟨rfl, rfl⟩
structure WrR (po pu : Nat) (s : List UInt8) (w : World) : Prop where mk ::
  out : w.heap[po]? = some (.cells #[.string ⟨s.toArray⟩] 9 (0, 0))
  put : w.heap[pu]? = some (.cells #[.func (.func 21) #[] #[.pointer (some ⟨po, 0, none⟩)]] 50 (0, 0))
def WrP (po pu : Nat) (k : Nat) : Prop := k = po ∨ k = pu
theorem ew_strapp (s : List UInt8) (t : ByteArray) : (⟨s.toArray⟩ : ByteArray) ++ t = ⟨(s ++ t.data.toList).toArray⟩ := cd_ba_inj _ _ (by rw [ByteArray.data_append, Array.toList_append])
theorem ew_after {po pu b o : Nat} {s : List UInt8} {r : ByteArray} {v : Value} {w w1 : World} (hne : po ≠ pu) (hR : WrR po pu s w) (hb1 : Below w.heap.size w w1) (hbP : ¬ WrP po pu b) (hc : w.cell? ⟨b, o, none⟩ = some v) :
    WrR po pu (s ++ r.data.toList) (w1.setCell ⟨po, 0, none⟩ (.string (⟨s.toArray⟩ ++ r))) ∧ (w1.setCell ⟨po, 0, none⟩ (.string (⟨s.toArray⟩ ++ r))).heap[b]? = (w.setCell ⟨b, o, none⟩ v).heap[b]? ∧
      Kp (fun k => WrP po pu k ∨ k = b) w (w1.setCell ⟨po, 0, none⟩ (.string (⟨s.toArray⟩ ++ r))) := by
  have ho := blk_below hR.out hb1
  have hu := blk_below hR.put hb1
  have hlt := World.block_lt_of_cell? _ _ hc
  refine ⟨⟨by rw [← ew_strapp]; exact blk_set ho 0 _, blk_far hu (fun h => hne h.symm) _⟩, ?_, (Kp.of_below _ hb1).set (.inl (.inl (.inl rfl))) _⟩
  rw [setCell_idem hc, Below.heap_setCell _ _ _ _ (fun h => hbP (.inl h))]
  exact hb1.block b hlt
theorem ew_sz {s : List UInt8} {r : ByteArray} (h1 : s.length ≤ 1000000000) (h2 : r.size ≤ 70000) : (⟨s.toArray⟩ : ByteArray).size + r.size ≤ 9223372036854775807 := by
  have h_ : (⟨s.toArray⟩ : ByteArray).size = s.length := by simp [ByteArray.size]
  omega
theorem ew_putInt_len (n : Int) : (m_putInt n).1.data.toList.length ≤ 10 := by
  unfold m_putInt
  split
  · exact cf_int_len n
  · simp
theorem ew_putS_len (t : ByteArray) : (putS t).length ≤ 65546 := by
  unfold putS
  split
  · have := cf_int_len (t.data.toList.length : Int)
    have h2 : t.data.toList.length = t.size := Array.length_toList
    rw [m_str, List.length_append]
    omega
  · simp
theorem ew_putStr (t : ByteArray) (w : World) : ∃ (S : ByteArray) (er : Int), S.data.toList = putS t ∧ Calls Tryz.prog 25 #[.string t] w fun e w' => e = .returned (.tuple #[.string S, .int .i64 er]) ∧ Below w.heap.size w w' := by
  by_cases h : t.size ≤ 65536
  · obtain ⟨S, hS, hc⟩ := bk_putString t w h
    exact ⟨S, 0, by rw [hS]; unfold putS; rw [if_pos h], hc⟩
  · refine ⟨⟨#[]⟩, 10, by unfold putS; rw [if_neg h], wire_PutString.calls t _ _ w ?_⟩
    unfold wire_PutString.f
    rw [if_pos (by omega)]
set_option maxHeartbeats 2000000 in
set_option maxRecDepth 100000 in
theorem ew_num (po pu : Nat) (hne : po ≠ pu) (s : List UInt8) (w : World) (b o : Nat) (v : Int) (hR : WrR po pu s w) (hbP : ¬ WrP po pu b) (hc : w.cell? ⟨b, o, none⟩ = some (.int .i64 v)) (hl : s.length ≤ 1000000000) (B0 : Nat) :
    Calls Tryz.prog 22 #[.pointer (some ⟨b, o, none⟩), .pointer (some ⟨pu, 0, none⟩)] w (Post (WrR po pu) B0 (WrP po pu) (wrC.num v s) (Value.int .i64) b o w) := by
  obtain ⟨r, er, hr'⟩ : ∃ r er, m_putInt v = (r, er) := ⟨_, _, rfl⟩
  have hr : wire_PutInt.f v = some (r, er) := congrArg some hr'
  have hrl : r.size ≤ 10 := by have := ew_putInt_len v; rw [hr', Array.length_toList] at this; exact this
  have HE : Aside0 (s ++ (m_putInt v).1.data.toList = s ++ r.data.toList) := ⟨by rw [hr']⟩
  clear hr'
  have HR := Aside0.mk hR
  have HC := Aside0.mk hc
  have hsz : (⟨s.toArray⟩ : ByteArray).size + r.size ≤ 9223372036854775807 := ew_sz hl (Nat.le_trans hrl (by decide))
  have HSZ := Aside0.mk hsz
  have cu : w.cell? ⟨pu, 0, none⟩ = some (.func (.func 21) #[] #[.pointer (some ⟨po, 0, none⟩)]) := bk_cell hR.put 0
  have cb := hc
  have eP := enters_ Tryz.func21 (by kernel_rfl) rfl
  clear hR hc hsz
  go_enter Tryz.func22, Tryz.ntmps22
  go_wp2_with fail
  refine rg_start [7] (by kernel_rfl) rfl ?_
  refine rg_pure (N := some 4) 1 (v := _) rfl rfl (by kernel_rfl) (fun _ _ _ h => h) rfl (fun w' => by go_simp <;> with_reducible rfl) (by dsimp only [Act.put, List.setIfInBounds_toArray, List.set_cons_zero, List.set_cons_succ, ↓reduceIte]) ?_
  refine rg_pure (N := some 5) 2 (v := _) rfl rfl (by kernel_rfl) (fun _ _ _ h => h) rfl (fun w' => by go_simp <;> with_reducible rfl) (by dsimp only [Act.put, List.setIfInBounds_toArray, List.set_cons_zero, List.set_cons_succ, ↓reduceIte]) ?_
  refine rg_load (N := some 3) 0 rfl rfl (by kernel_rfl) (fun _ _ _ h => h) rfl (below_drew1 (Below.refl _ _)) (fun w' hS' => by have c_ := rg_get hS' cu; go_simp <;> with_reducible rfl) (by dsimp only [Act.put, List.setIfInBounds_toArray, List.set_cons_zero, List.set_cons_succ, ↓reduceIte]) ?_
  refine rg_oneG (N := some 6) 3 true _ rfl rfl (by kernel_rfl) (by decide) rfl (below_drew1 (Below.refl _ _)) (fun hb_ w' hS' => by have c_ := rg_get hS' cb; go_simp <;> with_reducible rfl) (by dsimp only [Act.put, List.setIfInBounds_toArray, List.set_cons_zero, List.set_cons_succ, ↓reduceIte]) ?_
  refine rg_call (N := some 7) 4 true (.tuple #[.string r, .int .i64 er]) #[.int .i64 v] rfl rfl (by kernel_rfl) (by decide) rfl Tryz.func23 (by kernel_rfl) rfl rfl (fun hb_ => rg_args1 (by go_simp)) (below_drew1 (Below.refl _ _)) (fun hb_ w1 h1 => (wire_PutInt.calls v r er w1 hr).mono (fun e w2 h => ⟨h.1, below_step h1 h.2⟩)) (by dsimp only [Act.put, List.setIfInBounds_toArray, List.set_cons_zero, List.set_cons_succ, ↓reduceIte]) (fun wq1 hq1 => ?_)
  refine rg_pure (N := some 8) 5 (v := _) rfl rfl (by kernel_rfl) (fun _ _ _ h => h) rfl (fun w' => by go_simp <;> with_reducible rfl) (by dsimp only [Act.put, List.setIfInBounds_toArray, List.set_cons_zero, List.set_cons_succ, ↓reduceIte]) ?_
  refine rg_pure (N := some 9) 6 (v := _) rfl rfl (by kernel_rfl) (fun _ _ _ h => h) rfl (fun w' => by go_simp <;> with_reducible rfl) (by dsimp only [Act.put, List.setIfInBounds_toArray, List.set_cons_zero, List.set_cons_succ, ↓reduceIte]) ?_
  have hS9 : rgS w _ := hq1
  refine rg_lastcall 7 rfl rfl (by kernel_rfl) (by decide) rfl 21 #[.string r, .int .i64 er, .pointer (some ⟨po, 0, none⟩)] (by go_simp) (by kernel_rfl) ?_
  refine (ew_put po ⟨s.toArray⟩ r er _ (rg_blk hS9 HR.out.out) HSZ.out).mono ?_
  rintro e w9 ⟨rfl, rfl⟩
  refine ⟨_, rfl, ?_⟩
  go_end0
  have h9 := ew_after (r := r) hne HR.out hS9 hbP HC.out
  unfold Post
  show Ending.returned _ = _ ∧ WrR po pu (s ++ _) _ ∧ _
  rw [HE.out]
  exact ⟨rfl, h9⟩
set_option maxHeartbeats 2000000 in
set_option maxRecDepth 100000 in
theorem ew_txt (po pu : Nat) (hne : po ≠ pu) (s : List UInt8) (w : World) (b o : Nat) (v : ByteArray) (hR : WrR po pu s w) (hbP : ¬ WrP po pu b) (hc : w.cell? ⟨b, o, none⟩ = some (.string v)) (hl : s.length ≤ 1000000000) (B0 : Nat) :
    Calls Tryz.prog 24 #[.pointer (some ⟨b, o, none⟩), .pointer (some ⟨pu, 0, none⟩)] w (Post (WrR po pu) B0 (WrP po pu) (wrC.txt v s) Value.string b o w) := by
  have hst := ew_putStr v
  obtain ⟨r, er, hr', hcall⟩ : ∃ (r : ByteArray) (er : Int), r.data.toList = putS v ∧ ∀ w : World, Calls Tryz.prog 25 #[.string v] w fun e w' => e = .returned (.tuple #[.string r, .int .i64 er]) ∧ Below w.heap.size w w' := by
    by_cases h : v.size ≤ 65536
    · obtain ⟨S0, hS0, _⟩ := bk_putString v w h
      refine ⟨S0, 0, by rw [hS0]; unfold putS; rw [if_pos h], fun w' => ?_⟩
      obtain ⟨S1, hS1, hc1⟩ := bk_putString v w' h
      rw [cd_ba_inj S0 S1 (hS0.trans hS1.symm)]
      exact hc1
    · refine ⟨⟨#[]⟩, 10, by unfold putS; rw [if_neg h], fun w' => wire_PutString.calls v _ _ w' ?_⟩
      unfold wire_PutString.f
      rw [if_pos (by omega)]
  have hrl : r.size ≤ 65546 := by have := ew_putS_len v; rw [← hr', Array.length_toList] at this; exact this
  have HE : Aside0 (s ++ putS v = s ++ r.data.toList) := ⟨by rw [hr']⟩
  clear hr' hst
  have HR := Aside0.mk hR
  have HC := Aside0.mk hc
  have hsz : (⟨s.toArray⟩ : ByteArray).size + r.size ≤ 9223372036854775807 := ew_sz hl (Nat.le_trans hrl (by decide))
  have HSZ := Aside0.mk hsz
  have cu : w.cell? ⟨pu, 0, none⟩ = some (.func (.func 21) #[] #[.pointer (some ⟨po, 0, none⟩)]) := bk_cell hR.put 0
  have cb := hc
  have eP := enters_ Tryz.func21 (by kernel_rfl) rfl
  clear hR hc hsz
  go_enter Tryz.func24, Tryz.ntmps24
  go_wp2_with fail
  refine rg_start [7] (by kernel_rfl) rfl ?_
  refine rg_pure (N := some 4) 1 (v := _) rfl rfl (by kernel_rfl) (fun _ _ _ h => h) rfl (fun w' => by go_simp <;> with_reducible rfl) (by dsimp only [Act.put, List.setIfInBounds_toArray, List.set_cons_zero, List.set_cons_succ, ↓reduceIte]) ?_
  refine rg_pure (N := some 5) 2 (v := _) rfl rfl (by kernel_rfl) (fun _ _ _ h => h) rfl (fun w' => by go_simp <;> with_reducible rfl) (by dsimp only [Act.put, List.setIfInBounds_toArray, List.set_cons_zero, List.set_cons_succ, ↓reduceIte]) ?_
  refine rg_load (N := some 3) 0 rfl rfl (by kernel_rfl) (fun _ _ _ h => h) rfl (below_drew1 (Below.refl _ _)) (fun w' hS' => by have c_ := rg_get hS' cu; go_simp <;> with_reducible rfl) (by dsimp only [Act.put, List.setIfInBounds_toArray, List.set_cons_zero, List.set_cons_succ, ↓reduceIte]) ?_
  refine rg_oneG (N := some 6) 3 true _ rfl rfl (by kernel_rfl) (by decide) rfl (below_drew1 (Below.refl _ _)) (fun hb_ w' hS' => by have c_ := rg_get hS' cb; go_simp <;> with_reducible rfl) (by dsimp only [Act.put, List.setIfInBounds_toArray, List.set_cons_zero, List.set_cons_succ, ↓reduceIte]) ?_
  refine rg_call (N := some 7) 4 true (.tuple #[.string r, .int .i64 er]) #[.string v] rfl rfl (by kernel_rfl) (by decide) rfl Tryz.func25 (by kernel_rfl) rfl rfl (fun hb_ => rg_args1 (by go_simp)) (below_drew1 (Below.refl _ _)) (fun hb_ w1 h1 => (hcall w1).mono (fun e w2 h => ⟨h.1, below_step h1 h.2⟩)) (by dsimp only [Act.put, List.setIfInBounds_toArray, List.set_cons_zero, List.set_cons_succ, ↓reduceIte]) (fun wq1 hq1 => ?_)
  refine rg_pure (N := some 8) 5 (v := _) rfl rfl (by kernel_rfl) (fun _ _ _ h => h) rfl (fun w' => by go_simp <;> with_reducible rfl) (by dsimp only [Act.put, List.setIfInBounds_toArray, List.set_cons_zero, List.set_cons_succ, ↓reduceIte]) ?_
  refine rg_pure (N := some 9) 6 (v := _) rfl rfl (by kernel_rfl) (fun _ _ _ h => h) rfl (fun w' => by go_simp <;> with_reducible rfl) (by dsimp only [Act.put, List.setIfInBounds_toArray, List.set_cons_zero, List.set_cons_succ, ↓reduceIte]) ?_
  have hS9 : rgS w _ := hq1
  refine rg_lastcall 7 rfl rfl (by kernel_rfl) (by decide) rfl 21 #[.string r, .int .i64 er, .pointer (some ⟨po, 0, none⟩)] (by go_simp) (by kernel_rfl) ?_
  refine (ew_put po ⟨s.toArray⟩ r er _ (rg_blk hS9 HR.out.out) HSZ.out).mono ?_
  rintro e w9 ⟨rfl, rfl⟩
  refine ⟨_, rfl, ?_⟩
  go_end0
  have h9 := ew_after (r := r) hne HR.out hS9 hbP HC.out
  unfold Post
  show Ending.returned _ = _ ∧ WrR po pu (s ++ _) _ ∧ _
  rw [HE.out]
  exact ⟨rfl, h9⟩
set_option maxHeartbeats 2000000 in
set_option maxRecDepth 100000 in
theorem ew_cnt (po pu : Nat) (hne : po ≠ pu) (s : List UInt8) (w : World) (b o : Nat) (v : Int) (m : Int) (hR : WrR po pu s w) (hbP : ¬ WrP po pu b) (hc : w.cell? ⟨b, o, none⟩ = some (.int .i64 v)) (hl : s.length ≤ 1000000000) (B0 : Nat) :
    Calls Tryz.prog 26 #[.pointer (some ⟨b, o, none⟩), .int .i64 m, .pointer (some ⟨pu, 0, none⟩)] w (Post (WrR po pu) B0 (WrP po pu) (wrC.cnt m v s) (Value.int .i64) b o w) := by
  obtain ⟨r, er, hr'⟩ : ∃ r er, m_putInt v = (r, er) := ⟨_, _, rfl⟩
  have hr : wire_PutInt.f v = some (r, er) := congrArg some hr'
  have hrl : r.size ≤ 10 := by have := ew_putInt_len v; rw [hr', Array.length_toList] at this; exact this
  have HE : Aside0 (s ++ (m_putInt v).1.data.toList = s ++ r.data.toList) := ⟨by rw [hr']⟩
  clear hr'
  have HR := Aside0.mk hR
  have HC := Aside0.mk hc
  have hsz : (⟨s.toArray⟩ : ByteArray).size + r.size ≤ 9223372036854775807 := ew_sz hl (Nat.le_trans hrl (by decide))
  have HSZ := Aside0.mk hsz
  have cu : w.cell? ⟨pu, 0, none⟩ = some (.func (.func 21) #[] #[.pointer (some ⟨po, 0, none⟩)]) := bk_cell hR.put 0
  have cb := hc
  have eP := enters_ Tryz.func21 (by kernel_rfl) rfl
  clear hR hc hsz
  go_enter Tryz.func26, Tryz.ntmps26
  go_wp2_with fail
  refine rg_start [7] (by kernel_rfl) rfl ?_
  refine rg_pure (N := some 6) 1 (v := _) rfl rfl (by kernel_rfl) (fun _ _ _ h => h) rfl (fun w' => by go_simp <;> with_reducible rfl) (by dsimp only [Act.put, List.setIfInBounds_toArray, List.set_cons_zero, List.set_cons_succ, ↓reduceIte]) ?_
  refine rg_pure (N := some 7) 2 (v := _) rfl rfl (by kernel_rfl) (fun _ _ _ h => h) rfl (fun w' => by go_simp <;> with_reducible rfl) (by dsimp only [Act.put, List.setIfInBounds_toArray, List.set_cons_zero, List.set_cons_succ, ↓reduceIte]) ?_
  refine rg_load (N := some 5) 0 rfl rfl (by kernel_rfl) (fun _ _ _ h => h) rfl (below_drew1 (Below.refl _ _)) (fun w' hS' => by have c_ := rg_get hS' cu; go_simp <;> with_reducible rfl) (by dsimp only [Act.put, List.setIfInBounds_toArray, List.set_cons_zero, List.set_cons_succ, ↓reduceIte]) ?_
  refine rg_oneG (N := some 8) 3 true _ rfl rfl (by kernel_rfl) (by decide) rfl (below_drew1 (Below.refl _ _)) (fun hb_ w' hS' => by have c_ := rg_get hS' cb; go_simp <;> with_reducible rfl) (by dsimp only [Act.put, List.setIfInBounds_toArray, List.set_cons_zero, List.set_cons_succ, ↓reduceIte]) ?_
  refine rg_call (N := some 9) 4 true (.tuple #[.string r, .int .i64 er]) #[.int .i64 v] rfl rfl (by kernel_rfl) (by decide) rfl Tryz.func23 (by kernel_rfl) rfl rfl (fun hb_ => rg_args1 (by go_simp)) (below_drew1 (Below.refl _ _)) (fun hb_ w1 h1 => (wire_PutInt.calls v r er w1 hr).mono (fun e w2 h => ⟨h.1, below_step h1 h.2⟩)) (by dsimp only [Act.put, List.setIfInBounds_toArray, List.set_cons_zero, List.set_cons_succ, ↓reduceIte]) (fun wq1 hq1 => ?_)
  refine rg_pure (N := some 10) 5 (v := _) rfl rfl (by kernel_rfl) (fun _ _ _ h => h) rfl (fun w' => by go_simp <;> with_reducible rfl) (by dsimp only [Act.put, List.setIfInBounds_toArray, List.set_cons_zero, List.set_cons_succ, ↓reduceIte]) ?_
  refine rg_pure (N := some 11) 6 (v := _) rfl rfl (by kernel_rfl) (fun _ _ _ h => h) rfl (fun w' => by go_simp <;> with_reducible rfl) (by dsimp only [Act.put, List.setIfInBounds_toArray, List.set_cons_zero, List.set_cons_succ, ↓reduceIte]) ?_
  have hS9 : rgS w _ := hq1
  refine rg_lastcall 7 rfl rfl (by kernel_rfl) (by decide) rfl 21 #[.string r, .int .i64 er, .pointer (some ⟨po, 0, none⟩)] (by go_simp) (by kernel_rfl) ?_
  refine (ew_put po ⟨s.toArray⟩ r er _ (rg_blk hS9 HR.out.out) HSZ.out).mono ?_
  rintro e w9 ⟨rfl, rfl⟩
  refine ⟨_, rfl, ?_⟩
  go_end0
  have h9 := ew_after (r := r) hne HR.out hS9 hbP HC.out
  unfold Post
  show Ending.returned _ = _ ∧ WrR po pu (s ++ _) _ ∧ _
  rw [HE.out]
  exact ⟨rfl, h9⟩
set_option maxHeartbeats 2000000 in
set_option maxRecDepth 100000 in
theorem ew_blk (po pu : Nat) (hne : po ≠ pu) (s : List UInt8) (w : World) (b o : Nat) (u : Value) (l : List Bl) (ok : Nat → Prop) (hR : WrR po pu s w) (hbP : ¬ WrP po pu b) (hc : w.cell? ⟨b, o, none⟩ = some u) (hl : s.length ≤ 1000000000) (B0 : Nat)
    (hok : ∀ k, ok k → ¬ WrP po pu k ∧ k ≠ b) (hV : Kd.V k49 0 w 0 ok u l) :
    Calls Tryz.prog 27 #[.pointer (some ⟨b, o, none⟩), .pointer (some ⟨pu, 0, none⟩)] w (PostB (WrR po pu) B0 (WrP po pu) ok (wrC.blk l s) b o w) := by
  have HV := Aside0.mk hV
  obtain ⟨A, c, rfl, hlc, hF⟩ := hV
  obtain ⟨S1, x1, hE⟩ : ∃ S1 x1, m_encode l = (S1, x1) := ⟨_, _, rfl⟩
  obtain ⟨r, er, hr', hcall⟩ : ∃ (r : ByteArray) (er : Int), r.data.toList = putS S1 ∧ ∀ w : World, Calls Tryz.prog 25 #[.string S1] w fun e w' => e = .returned (.tuple #[.string r, .int .i64 er]) ∧ Below w.heap.size w w' := by
    by_cases h : S1.size ≤ 65536
    · obtain ⟨S0, hS0, _⟩ := bk_putString S1 w h
      refine ⟨S0, 0, by rw [hS0]; unfold putS; rw [if_pos h], fun w' => ?_⟩
      obtain ⟨S2, hS2, hc1⟩ := bk_putString S1 w' h
      rw [cd_ba_inj S0 S2 (hS0.trans hS2.symm)]
      exact hc1
    · refine ⟨⟨#[]⟩, 10, by unfold putS; rw [if_neg h], fun w' => wire_PutString.calls S1 _ _ w' ?_⟩
      unfold wire_PutString.f
      rw [if_pos (by omega)]
  have hrl : r.size ≤ 65546 := by have := ew_putS_len S1; rw [← hr', Array.length_toList] at this; exact this
  have HE : Aside0 (s ++ putS (m_encode l).1 = s ++ r.data.toList) := ⟨by rw [hE, hr']⟩
  have HEE := Aside0.mk hE
  have HF := Aside0.mk hF
  clear hr' hE hF
  have HR := Aside0.mk hR
  have HC := Aside0.mk hc
  have HSZ : Aside0 ((⟨s.toArray⟩ : ByteArray).size + r.size ≤ 9223372036854775807) := ⟨ew_sz hl (Nat.le_trans hrl (by decide))⟩
  have cb := hc
  have eP := enters_ Tryz.func21 (by kernel_rfl) rfl
  clear hR hc
  go_enter Tryz.func27, Tryz.ntmps27
  go_wp2_with (go_at_call 28; refine Rg.stop_here ?_)
  refine ⟨?_⟩
  refine (block_Encode.calls A c l S1 x1 _ (Kd.F_now HF.out) hlc (congrArg some HEE.out)).mono ?_
  rintro e w2 ⟨rfl, hb2⟩
  have HB2 := Aside0.mk hb2
  have hR2 : WrR po pu s w2 := ⟨blk_below HR.out.out hb2, blk_below HR.out.put hb2⟩
  have cu : w2.cell? ⟨pu, 0, none⟩ = some (.func (.func 21) #[] #[.pointer (some ⟨po, 0, none⟩)]) := bk_cell hR2.put 0
  have HR2 := Aside0.mk hR2
  clear hb2 hR2 cb
  go_wp2_with fail
  refine rg_start [5] (by kernel_rfl) rfl ?_
  refine rg_pure (N := some 13) 1 (v := _) rfl rfl (by kernel_rfl) (fun _ _ _ h => h) rfl (fun w' => by go_simp <;> with_reducible rfl) (by dsimp only [Act.put, List.setIfInBounds_toArray, List.set_cons_zero, List.set_cons_succ, ↓reduceIte]) ?_
  refine rg_load (N := some 12) 0 rfl rfl (by kernel_rfl) (fun _ _ _ h => h) rfl (below_drew1 (Below.refl _ _)) (fun w' hS' => by have c_ := rg_get hS' cu; go_simp <;> with_reducible rfl) (by dsimp only [Act.put, List.setIfInBounds_toArray, List.set_cons_zero, List.set_cons_succ, ↓reduceIte]) ?_
  refine rg_call (N := some 14) 2 true (.tuple #[.string r, .int .i64 er]) #[.string S1] rfl rfl (by kernel_rfl) (by decide) rfl Tryz.func25 (by kernel_rfl) rfl rfl (fun hb_ => rg_args1 (by go_simp)) (below_drew1 (Below.refl _ _)) (fun hb_ w1 h1 => (hcall w1).mono (fun e w2 h => ⟨h.1, below_step h1 h.2⟩)) (by dsimp only [Act.put, List.setIfInBounds_toArray, List.set_cons_zero, List.set_cons_succ, ↓reduceIte]) (fun wq1 hq1 => ?_)
  refine rg_pure (N := some 15) 3 (v := _) rfl rfl (by kernel_rfl) (fun _ _ _ h => h) rfl (fun w' => by go_simp <;> with_reducible rfl) (by dsimp only [Act.put, List.setIfInBounds_toArray, List.set_cons_zero, List.set_cons_succ, ↓reduceIte]) ?_
  refine rg_pure (N := some 16) 4 (v := _) rfl rfl (by kernel_rfl) (fun _ _ _ h => h) rfl (fun w' => by go_simp <;> with_reducible rfl) (by dsimp only [Act.put, List.setIfInBounds_toArray, List.set_cons_zero, List.set_cons_succ, ↓reduceIte]) ?_
  have hS9 : rgS w2 _ := hq1
  refine rg_lastcall 5 rfl rfl (by kernel_rfl) (by decide) rfl 21 #[.string r, .int .i64 er, .pointer (some ⟨po, 0, none⟩)] (by go_simp) (by kernel_rfl) ?_
  refine (ew_put po ⟨s.toArray⟩ r er _ (rg_blk hS9 HR2.out.out) HSZ.out).mono ?_
  rintro e w9 ⟨rfl, rfl⟩
  refine ⟨_, rfl, ?_⟩
  go_end0
  have hbb := below_step HB2.out hS9
  have h9 := ew_after (r := r) hne HR.out hbb hbP HC.out
  unfold PostB
  show Ending.returned _ = _ ∧ WrR po pu (s ++ _) _ ∧ _
  rw [HE.out]
  refine ⟨rfl, h9.1, ⟨_, h9.2.1, ?_⟩, h9.2.2⟩
  exact Kd.V_mono (Kd.V_step HV.out (fun k hk hlt => h9.2.2.kept.2 k hlt (fun h => h.elim (hok k hk).1 (hok k hk).2))) (fun k hk => .inl hk)
def wrD (po pu B0 : Nat) (hne : po ≠ pu) (h1 : B0 ≤ po) (h2 : B0 ≤ pu) : Drv (List UInt8) where
  c := wrC
  len := List.length
  nf := 22
  tf := 24
  cf := 26
  bf := 27
  nc := #[.pointer (some ⟨pu, 0, none⟩)]
  tc := #[.pointer (some ⟨pu, 0, none⟩)]
  cc := #[.pointer (some ⟨pu, 0, none⟩)]
  bc := #[.pointer (some ⟨pu, 0, none⟩)]
  R := WrR po pu
  B0 := B0
  Pv := WrP po pu
  pvB := fun k hk => hk.elim (fun h => h ▸ h1) (fun h => h ▸ h2)
  keep := fun hR h => ⟨(h _ (.inl rfl)).trans hR.out, (h _ (.inr rfl)).trans hR.put⟩
  pvlt := fun hR hk => hk.elim (fun h => h ▸ blk_lt hR.out) (fun h => h ▸ blk_lt hR.put)
  eN := enters_ Tryz.func22 (by kernel_rfl) rfl
  eT := enters_ Tryz.func24 (by kernel_rfl) rfl
  eC := enters_ Tryz.func26 (by kernel_rfl) rfl
  eB := enters_ Tryz.func27 (by kernel_rfl) rfl
  lN := fun {v s v' s'} h => by have := ew_putInt_len v; rw [← (Prod.mk.inj (Except.ok.inj h)).2, List.length_append]; omega
  lT := fun {v s v' s'} h => by have := ew_putS_len v; rw [← (Prod.mk.inj (Except.ok.inj h)).2, List.length_append]; omega
  lC := fun {m v s v' s'} h => by have := ew_putInt_len v; rw [← (Prod.mk.inj (Except.ok.inj h)).2, List.length_append]; omega
  lB := fun {v s v' s'} h => by have := ew_putS_len (m_encode v).1; rw [← (Prod.mk.inj (Except.ok.inj h)).2, List.length_append]; omega
  cC := fun h => .inl (Prod.mk.inj (Except.ok.inj h)).1.symm
  num := fun s w b o v hR hb hbP hc hf hl => ew_num po pu hne s w b o v hR hbP hc hl B0
  txt := fun s w b o v hR hb hbP hc hf hl => ew_txt po pu hne s w b o v hR hbP hc hl B0
  cnt := fun s w b o v m hR hb hbP hc hf hl => ew_cnt po pu hne s w b o v m hR hbP hc hl B0
  blk := fun s w b o u l ok hR hb hbP hc hf hl hok hV => ew_blk po pu hne s w b o u l ok hR hbP hc hl B0 hok hV
end Go.Proofs.YtkhgdglaophkbaaGreatDoor.PK
end
