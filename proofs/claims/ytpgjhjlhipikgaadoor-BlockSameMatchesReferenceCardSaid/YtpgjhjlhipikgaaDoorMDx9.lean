/- Texts of this claim, one behind the other. -/
import Derived.Test.YtpgjhjlhipikgaaDoorMDx3
import Derived.Test.YtpgjhjlhipikgaaDoorMDx5
import Derived.Test.YtpgjhjlhipikgaaDoorMDx6
import Derived.Test.YtpgjhjlhipikgaaDoorMDx7
import Derived.Test.YtpgjhjlhipikgaaDoorMDx8
import Derived.Test.YtpgjhjlhipikgaaDoorMDx4
import Derived.Deep.Cut
import Derived.Deep.RegionWith
section
namespace Go.Proofs.YtpgjhjlhipikgaaDoor.PK
open Go.RowKit Go.Proofs.YtpgjhjlhipikgaaDoorW.PrintWords Go.Proofs.YtpgjhjlhipikgaaDoorW.PrintLast Go.Proofs.YtpgjhjlhipikgaaDoorW.PrintMore
attribute [local go_sem] max2_int min2_int max_two min_two max_three min_three max_four min_four   -- for this text's walks alone
set_option linter.unusedVariables false
set_option linter.unusedSimpArgs false
theorem pl_rdn (l : List Int) (x : Nat) (h : x < l.length) : rd l (x : Int) = l[x] := by
  simp [rd, List.getD_eq_getElem?_getD, h]
theorem pl_eqi (a b : List Int) (hab : a.length = b.length) (hl : a.length ≤ 9223372036854775807) : ∀ (d k x : Nat), x + d = a.length → d < k →
    slices_Equal_int_int.l0 k a b (a.length : Int) (x : Int) = some (decide (a.drop x = b.drop x))
  | 0, k, x, hx, hk => by
    obtain ⟨k, rfl⟩ : ∃ j, k = j + 1 := ⟨k - 1, by omega⟩
    rw [slices_Equal_int_int.l0, if_neg (by omega), List.drop_eq_nil_of_le (by omega), List.drop_eq_nil_of_le (by omega)]; simp
  | d + 1, k, x, hx, hk => by
    obtain ⟨k, rfl⟩ : ∃ j, k = j + 1 := ⟨k - 1, by omega⟩
    have hlt : x < a.length := by omega
    have hlt2 : x < b.length := by omega
    have hw : wrap64 ((x : Int) + 1) = ((x + 1 : Nat) : Int) := by unfold wrap64; omega
    rw [slices_Equal_int_int.l0, if_pos (by omega), if_pos (by omega), if_pos (by omega), if_pos (by omega), pl_rdn a x hlt, pl_rdn b x hlt2, hw, pl_eqi a b hab hl d k (x + 1) (by omega) (by omega), List.drop_eq_getElem_cons hlt, List.drop_eq_getElem_cons hlt2]
    by_cases h : a[x] = b[x]
    · rw [if_pos h]; exact congrArg some (decide_eq_decide.2 ⟨fun e => by rw [h, e], fun e => (List.cons.inj e).2⟩)
    · rw [if_neg h]; exact congrArg some (decide_eq_false (fun e => h (List.cons.inj e).1)).symm
theorem pl_eqI (a b : List Int) (hl : a.length ≤ 9223372036854775807) (k : Nat) (hk : a.length < k) : slices_Equal_int_int.f k a b = some (decide (a = b)) := by
  unfold slices_Equal_int_int.f
  by_cases h : a.length = b.length
  · rw [if_pos (by omega)]
    exact pl_eqi a b h hl a.length k 0 (by omega) hk
  · rw [if_neg (by omega), decide_eq_false (fun e => h (by rw [e]))]
theorem pl_labelSame (u : Int) (l : List Int) (a d : Int) (u' : Int) (l' : List Int) (a' d' : Int) (hl : l.length ≤ 9223372036854775807) (k : Nat) (hk : l.length < k) :
    label_Same.f k u l a d u' l' a' d' = some (decide (u = u') && decide (l = l') && decide (a = a') && decide (d = d')) := by
  unfold label_Same.f
  rw [pl_eqI l l' hl k hk]
  by_cases h1 : u = u'
  · rw [if_pos h1]
    by_cases h2 : l = l'
    · by_cases h3 : a = a'
      · simp only [Option.bind_some, h1, h2, h3]; simp; by_cases h4 : d = d' <;> simp [h4]
      · simp [h1, h2, h3]
    · simp [h1, h2]
  · rw [if_neg h1]; simp [h1]
theorem pl_same (x y : Bl) (hl : x.f5.f1.length ≤ 9223372036854775807) (k : Nat) (hk : x.f5.f1.length < k) :
    block_Same.f k x.f0 x.f1 x.f2 x.f3 x.f4 x.f5.f0 x.f5.f1 x.f5.f2 x.f5.f3 y.f0 y.f1 y.f2 y.f3 y.f4 y.f5.f0 y.f5.f1 y.f5.f2 y.f5.f3 = some (m_same x y) := by
  unfold block_Same.f m_same
  rw [pl_labelSame _ _ _ _ _ _ _ _ hl k hk]
  simp only [ByteArray.toList_eq, Option.bind_some]
  by_cases h1 : x.f0 = y.f0 <;> by_cases h2 : x.f1 = y.f1 <;> by_cases h3 : x.f2.data.toList = y.f2.data.toList <;> by_cases h4 : x.f3 = y.f3 <;> by_cases h5 : x.f4 = y.f4 <;> simp [h1, h2, h3, h4, h5, Bool.and_assoc]
theorem pl_rdT (l : List Bl) (j : Nat) (h : j < l.length) : rd_T26 l (j : Int) = l[j] := by
  simp [rd_T26, List.getD_eq_getElem?_getD, h]
theorem pl_sameGo (a b : List Bl) (hab : a.length = b.length) (hl : a.length ≤ 9223372036854775807) (M : Nat) (hM : M ≤ 9223372036854775807) (ha : ∀ x ∈ a, x.f5.f1.length ≤ M) : ∀ (d k x : Nat), x + d = a.length → d + M + 1 < k →
    api_Block_49_at_block_Same.l0 k b a (a.length : Int) (x : Int) = some (m_sameL (a.drop x) (b.drop x))
  | 0, k, x, hx, hk => by
    obtain ⟨k, rfl⟩ : ∃ j, k = j + 1 := ⟨k - 1, by omega⟩
    rw [api_Block_49_at_block_Same.l0, if_neg (by omega), List.drop_eq_nil_of_le (by omega), List.drop_eq_nil_of_le (by omega)]; rfl
  | d + 1, k, x, hx, hk => by
    obtain ⟨k, rfl⟩ : ∃ j, k = j + 1 := ⟨k - 1, by omega⟩
    have hlt : x < a.length := by omega
    have hlt2 : x < b.length := by omega
    have hw : wrap64 ((x : Int) + 1) = ((x + 1 : Nat) : Int) := by unfold wrap64; omega
    have hx1 := ha a[x] (List.getElem_mem hlt)
    rw [api_Block_49_at_block_Same.l0, if_pos (by omega), if_pos (by omega), if_pos (by omega), if_pos (by omega), pl_rdT a x hlt, pl_rdT b x hlt2, pl_same a[x] b[x] (by omega) k (by omega), hw, pl_sameGo a b hab hl M hM ha d k (x + 1) (by omega) (by omega), List.drop_eq_getElem_cons hlt, List.drop_eq_getElem_cons hlt2, m_sameL]
    cases m_same a[x] b[x] <;> rfl
theorem pl_sameL_len : ∀ (a b : List Bl), a.length ≠ b.length → m_sameL a b = false
  | [], [], h => absurd rfl h
  | [], _ :: _, _ => rfl
  | _ :: _, [], _ => rfl
  | x :: a, y :: b, h => by rw [m_sameL, pl_sameL_len a b (by simpa using h), Bool.and_false]
theorem pl_sameL (a b : List Bl) (hl : a.length ≤ 9223372036854775807) (M : Nat) (hM : M ≤ 9223372036854775807) (ha : ∀ x ∈ a, x.f5.f1.length ≤ M) (k : Nat) (hk : a.length + M + 1 < k) : block_SameList.f k a b = some (m_sameL a b) := by
  unfold block_SameList.f api_Block_49_at_block_Same.f
  by_cases h : a.length = b.length
  · rw [if_pos (by omega)]
    have := pl_sameGo a b h hl M hM ha a.length k 0 (by omega) hk
    simp only [List.drop_zero] at this
    exact congrArg (fun o : Option Bool => o.bind fun t => some t) this
  · rw [if_neg (by omega), pl_sameL_len a b h]; rfl
def copydesklaw03_sane.f : Option Bool := some true
def bk_c9 (b : Bl) : List Value := [.int .i64 b.f0, .int .i64 b.f1, .string b.f2, .int .i64 b.f3, .int .i64 b.f4, .int .i64 b.f5.f0, .slice none 0 0, .int .i64 b.f5.f2, .int .i64 b.f5.f3]
theorem bk_c9_at : ∀ (bs : List Bl) (j i : Nat) (b : Bl) (u : Value), bs[j]? = some b → (bk_c9 b)[i]? = some u → (bs.flatMap bk_c9)[j * 9 + i]? = some u
  | [], j, i, b, u, h, _ => by simp at h
  | x :: bs, 0, i, b, u, h, hu => by
    have : x = b := by simpa using h
    subst this
    have hi := (List.getElem?_eq_some_iff.1 hu).1
    rw [List.flatMap_cons, List.getElem?_append_left (by simpa using hi), Nat.zero_mul, Nat.zero_add]; exact hu
  | x :: bs, j + 1, i, b, u, h, hu => by
    rw [List.flatMap_cons, List.getElem?_append_right (by show (bk_c9 x).length ≤ _; simp [bk_c9]; omega), show (j + 1) * 9 + i - (bk_c9 x).length = j * 9 + i by simp [bk_c9]; omega]
    exact bk_c9_at bs j i b u (by simpa using h) hu
theorem bk_C_nil (w : World) : Kd.C (Kd.int .i64) w none 0 [] := ⟨rfl, by omega, fun h => absurd h (by omega)⟩
theorem bk_C_blocks (bs : List Bl) (hb : ∀ b ∈ bs, b.f5.f1 = []) (W : World) (g : Nat) (h : W.heap[g]? = some (.cells (bs.flatMap bk_c9).toArray 26 (0, 0))) (hm : bs.length ≤ 9223372036854775807) : Kd.C k26 W (some ⟨g, 0, none⟩) bs.length bs :=
  ⟨rfl, hm, fun _ => ⟨_, rfl, fun j p hp => ⟨bk_c9 p, rfl, by
    have he := hb p (List.mem_of_getElem? hp)
    obtain ⟨f0, f1, f2, f3, f4, ⟨u, l, a, d⟩⟩ := p
    have he' : l = [] := he
    subst he'
    exact k26_mk W (⟨f0, f1, f2, f3, f4, ⟨u, [], a, d⟩⟩ : Bl) (A6 := none) (c6 := 0) (Nat.le_refl 0) (bk_C_nil W), fun i u hu => by
    have h1 := bk_c9_at bs j i p u hp hu
    have hc : W.cell? ⟨g, j * 9 + i, none⟩ = some u := by rw [bk_cell h]; simpa using h1
    show W.cell? ((⟨g, 0, none⟩ : Addr).add (j * 9 + i)) = _
    by_cases hz : j * 9 = 0 ∧ i = 0
    · obtain ⟨z1, z2⟩ := hz
      rw [z1, z2] at hc ⊢; simpa [Addr.add] using hc
    · simpa [Addr.add, hz] using hc⟩⟩⟩
def sn_L : List Bl := [(⟨1, 1, ⟨#[82, 97, 105, 110]⟩, 0, 0, ⟨0, [], 0, 0⟩⟩ : Bl), (⟨2, 2, ⟨#[73, 116, 32, 114, 97, 105, 110, 101, 100, 46, 32, 32, 73, 116, 32, 115, 116, 111, 112, 112, 101, 100, 46]⟩, 0, 0, ⟨0, [], 0, 0⟩⟩ : Bl), (⟨9, 5, ⟨#[114, 97, 105, 110]⟩, 0, 0, ⟨0, [], 0, 0⟩⟩ : Bl)]
def sn_D : List Bl := [(⟨1, 1, ⟨#[82, 97, 105, 110]⟩, 0, 0, ⟨0, [], 0, 0⟩⟩ : Bl), (⟨1, 1, ⟨#[82, 97, 105, 110]⟩, 0, 0, ⟨0, [], 0, 0⟩⟩ : Bl)]
theorem sn_valid1 : m_validB (⟨7, 5, ⟨#[99, 105, 116, 121, 45, 104, 97, 108, 108]⟩, 0, 0, ⟨0, [], 0, 0⟩⟩ : Bl) = true := by decide
theorem sn_valid2 : m_validB (⟨7, 5, ⟨#[67, 105, 116, 121]⟩, 0, 0, ⟨0, [], 0, 0⟩⟩ : Bl) = false := by decide
theorem sn_valid3 : m_validB (⟨7, 3, ⟨#[]⟩, 3, 0, ⟨0, [], 0, 0⟩⟩ : Bl) = false := by decide
theorem sn_validL : m_validL sn_L = true := by decide
theorem sn_validD : m_validL sn_D = false := by decide
theorem sn_sameL : m_sameL sn_L sn_L = true := by decide
theorem sn_sent : (m_sent (⟨#[68, 114, 46, 32, 74, 46, 32, 83, 109, 105, 116, 104, 32, 32, 119, 111, 110, 46, 32, 32, 82, 101, 97, 108, 108, 121, 63, 33, 32, 65, 116, 32, 51, 46, 53, 32, 116, 111, 32, 49]⟩ : ByteArray).data.toList) = [[68, 114, 46], [74, 46, 32, 83, 109, 105, 116, 104, 32, 32, 119, 111, 110, 46], [82, 101, 97, 108, 108, 121, 63, 33], [65, 116, 32, 51, 46, 53, 32, 116, 111, 32, 49]] := by decide
theorem sn_plain : m_plain sn_L = [82, 97, 105, 110, 10, 73, 116, 32, 114, 97, 105, 110, 101, 100, 46, 32, 73, 116, 32, 115, 116, 111, 112, 112, 101, 100, 46, 10, 35, 114, 97, 105, 110, 10] := by decide
set_option maxHeartbeats 4000000 in
set_option maxRecDepth 100000 in
theorem copydesklaw03_sane.calls (r : Bool) (w : World) (h : copydesklaw03_sane.f = some r) :
    Calls Tryd.prog 17 #[] w fun e w' => e = .returned (.bool r) ∧ Below w.heap.size w w' := by
  obtain rfl := Option.some.inj h
  clear h
  go_enter Tryd.func17, Tryd.ntmps17
  go_wp2_with (with_reducible refine is_alloc rfl ?_; refine Rg.stop_here ?_)
  refine ⟨?_⟩
  refine box_event rfl (N := 1) rfl (cs := #[.int .i64 0, .int .i64 0, .string (⟨#[]⟩ : ByteArray), .int .i64 0, .int .i64 0, .int .i64 0, .slice none 0 0, .int .i64 0, .int .i64 0]) (t := 26) (by first | (go_simp; done) | (go_simp; rfl)) ?_
  intro g1 hg_ wa1 hbx hb1
  have HG_ := Aside0.mk hg_
  clear hg_
  go_wp2_with (with_reducible refine is_store rfl ?_; refine Rg.stop_here ?_)
  refine ⟨?_⟩
  refine wpList_store_box rfl rfl _ _ _ rfl g1 _ _ _ rfl rfl hbx bk_size26 rfl (by repeat (first | exact List.forall_mem_nil _ | refine List.forall_mem_cons.2 ⟨rfl, ?_⟩)) ?_
  intro wb1 hx1 hst hot
  have hq1 : Below w.heap.size w wb1 := hb1.trans (hst _ (Nat.le_of_eq HG_.out.symm))
  clear HG_ hbx hb1 hst hot
  go_wp2_with (with_reducible refine is_alloc rfl ?_; refine Rg.stop_here ?_)
  refine ⟨?_⟩
  refine box_event rfl (N := 2) rfl (cs := #[.int .i64 0, .int .i64 0, .string (⟨#[]⟩ : ByteArray), .int .i64 0, .int .i64 0, .int .i64 0, .slice none 0 0, .int .i64 0, .int .i64 0]) (t := 26) (by first | (go_simp; done) | (go_simp; rfl)) ?_
  intro g2 hg_ wa2 hbx hb1
  have HG_ := Aside0.mk hg_
  clear hg_
  go_wp2_with (with_reducible refine is_store rfl ?_; refine Rg.stop_here ?_)
  refine ⟨?_⟩
  refine wpList_store_box rfl rfl _ _ _ rfl g2 _ _ _ rfl rfl hbx bk_size26 rfl (by repeat (first | exact List.forall_mem_nil _ | refine List.forall_mem_cons.2 ⟨rfl, ?_⟩)) ?_
  intro wb2 hx2 hst hot
  have hq2 : Below wb1.heap.size wb1 wb2 := hb1.trans (hst _ (Nat.le_of_eq HG_.out.symm))
  clear HG_ hbx hb1 hst hot
  have hx1b := bk_heap_below hx1 hq2
  go_wp2_with (with_reducible refine is_alloc rfl ?_; refine Rg.stop_here ?_)
  refine ⟨?_⟩
  refine box_event rfl (N := 3) rfl (cs := #[.int .i64 0, .int .i64 0, .string (⟨#[]⟩ : ByteArray), .int .i64 0, .int .i64 0, .int .i64 0, .slice none 0 0, .int .i64 0, .int .i64 0]) (t := 26) (by first | (go_simp; done) | (go_simp; rfl)) ?_
  intro g3 hg_ wa3 hbx hb1
  have HG_ := Aside0.mk hg_
  clear hg_
  go_wp2_with (with_reducible refine is_store rfl ?_; refine Rg.stop_here ?_)
  refine ⟨?_⟩
  refine wpList_store_box rfl rfl _ _ _ rfl g3 _ _ _ rfl rfl hbx bk_size26 rfl (by repeat (first | exact List.forall_mem_nil _ | refine List.forall_mem_cons.2 ⟨rfl, ?_⟩)) ?_
  intro wb3 hx3 hst hot
  have hq3 : Below wb2.heap.size wb2 wb3 := hb1.trans (hst _ (Nat.le_of_eq HG_.out.symm))
  clear HG_ hbx hb1 hst hot
  have hx1c := bk_heap_below hx1b hq3
  have hx2c := bk_heap_below hx2 hq3
  go_wp2_with (with_reducible refine is_build rfl ?_; refine Rg.stop_here ?_)
  refine ⟨?_⟩
  refine lit_event rfl (N := 20) rfl (cs := #[.int .i64 1, .int .i64 1, .string (⟨#[82, 97, 105, 110]⟩ : ByteArray), .int .i64 0, .int .i64 0, .int .i64 0, .slice none 0 0, .int .i64 0, .int .i64 0, .int .i64 2, .int .i64 2, .string (⟨#[73, 116, 32, 114, 97, 105, 110, 101, 100, 46, 32, 32, 73, 116, 32, 115, 116, 111, 112, 112, 101, 100, 46]⟩ : ByteArray), .int .i64 0, .int .i64 0, .int .i64 0, .slice none 0 0, .int .i64 0, .int .i64 0, .int .i64 9, .int .i64 5, .string (⟨#[114, 97, 105, 110]⟩ : ByteArray), .int .i64 0, .int .i64 0, .int .i64 0, .slice none 0 0, .int .i64 0, .int .i64 0]) (t := 26) (n := 3) (by first | (go_simp; done) | (go_simp; rfl)) ?_
  intro gl hgl w4 hl4 hb4
  have hx1d := bk_heap_below hx1c hb4
  have hx2d := bk_heap_below hx2c hb4
  have hx3d := bk_heap_below hx3 hb4
  have HB := Aside0.mk ((below_step (below_step (below_step hq1 hq2) hq3) hb4 : Below w.heap.size w w4))
  clear hx1 hx1b hx1c hx2 hx2c hx3 hq1 hq2 hq3 hb4 hgl
  have hCL : Kd.C k26 w4 (some ⟨gl, 0, none⟩) 3 sn_L := bk_C_blocks sn_L (by decide) w4 gl hl4 (by decide)
  obtain ⟨S, hS⟩ : ∃ S : ByteArray, S = ⟨(m_enc sn_L).toArray⟩ := ⟨_, rfl⟩
  have hSl : S.data.toList = m_enc sn_L := by rw [hS]
  have hSz : S.size ≤ 2000000 := by
    have h1 := cd_enc_len sn_L sn_validL
    rw [← hSl, Array.length_toList] at h1
    exact h1
  have henc : block_Encode.f sn_L = some (S, 0) := by show some (m_encode sn_L) = _; rw [cd_encode_ok _ sn_validL, ← hS]
  have hE := block_Encode.calls (some ⟨gl, 0, none⟩) 3 sn_L S 0 w4 hCL (Nat.le_refl 3) henc
  have HSL := Aside0.mk hSl
  clear hS hSl henc
  go_wp2_with (go_at_call 27; refine Rg.stop_here ?_)
  refine ⟨?_⟩
  refine hE.mono ?_
  rintro e w5 ⟨rfl, hb5⟩
  have hl5 := bk_heap_below hl4 hb5
  have hx1e := bk_heap_below hx1d hb5
  have hx2e := bk_heap_below hx2d hb5
  have hx3e := bk_heap_below hx3d hb5
  have HB5 := Aside0.mk (below_step HB.out hb5)
  have hCL5 := Kd.C_below hCL hb5
  have k0 : w5.cell? ⟨gl, 0, none⟩ = some (.int .i64 1) := bk_cell hl5 0
  have k1 : w5.cell? ⟨gl, 1, none⟩ = some (.int .i64 1) := bk_cell hl5 1
  have k2 : w5.cell? ⟨gl, 2, none⟩ = some (.string (⟨#[82, 97, 105, 110]⟩ : ByteArray)) := bk_cell hl5 2
  have k3 : w5.cell? ⟨gl, 3, none⟩ = some (.int .i64 0) := bk_cell hl5 3
  have k4 : w5.cell? ⟨gl, 4, none⟩ = some (.int .i64 0) := bk_cell hl5 4
  have k5 : w5.cell? ⟨gl, 5, none⟩ = some (.int .i64 0) := bk_cell hl5 5
  have k6 : w5.cell? ⟨gl, 6, none⟩ = some (.slice none 0 0) := bk_cell hl5 6
  have k7 : w5.cell? ⟨gl, 7, none⟩ = some (.int .i64 0) := bk_cell hl5 7
  have k8 : w5.cell? ⟨gl, 8, none⟩ = some (.int .i64 0) := bk_cell hl5 8
  have hencD : block_Encode.f sn_D = some (⟨#[]⟩, 30) := by show some (m_encode sn_D) = _; rw [cd_encode_err _ sn_validD]
  have HX1 := Aside0.mk hx1e
  have HX2 := Aside0.mk hx2e
  have HX3 := Aside0.mk hx3e
  have HL5 := Aside0.mk hl5
  have HCL5 := Aside0.mk hCL5
  clear hl4 hx1d hx2d hx3d hb5 hCL hE hx1e hx2e hx3e hl5 hCL5 HB
  go_upto_region 6 with fail
  go_cut [7, 8] from 26 to 36 (fun v7 v8 wx => v8 = .int .i64 30 ∧ Below w5.heap.size w5 wx)
  case first =>
    go_region_with (go_at_call 27; refine (block_Encode.calls (some ⟨w5.heap.size, 0, none⟩) 2 sn_D ⟨#[]⟩ 30 _ ?hr (Nat.le_refl 2) hencD).mono ?_; (case hr => exact bk_C_blocks sn_D (by decide) _ _ (blk_new w5 _) (by decide)); rintro e w6 ⟨rfl, hb6⟩)
    all_goals (go_wp2_with fail; go_meet; exact ⟨rfl, below_step (below_drew (below_alloc (Below.refl _ _) _)) hb6⟩)
  case rest =>
  obtain ⟨rfl, hb6⟩ := hcut
  have hl6 := bk_heap_below HL5.out hb6
  have hx1f := bk_heap_below HX1.out hb6
  have hx2f := bk_heap_below HX2.out hb6
  have hx3f := bk_heap_below HX3.out hb6
  have hCL6 := Kd.C_below HCL5.out hb6
  have HB6 := Aside0.mk (below_step HB5.out hb6)
  clear k0 k1 k2 k3 k4 k5 k6 k7 k8 hb6 HX1 HX2 HX3 HL5 HCL5 hencD
  have hdec : block_Decode.f S = some (sn_L, 0) := by unfold block_Decode.f; rw [if_pos (by omega), cd_decode_enc sn_L sn_validL S HSL.out]
  have hdec2 : block_Decode.f (S ++ (⟨#[120]⟩ : ByteArray)) = some ([], 10) := by
    unfold block_Decode.f
    rw [if_pos (by rw [ByteArray.size_append]; show S.size + 1 ≤ _; omega), cd_decode_more sn_L sn_validL _ [120] (by rw [ByteArray.data_append, Array.toList_append, HSL.out]) (by decide)]
  have HD1 := Aside0.mk hdec
  have HD2 := Aside0.mk hdec2
  have s1 : S.size + 1 ≤ 9223372036854775807 := by omega
  clear hdec hdec2
  go_wp2_with (go_at_call 29; refine Rg.stop_here ?_)
  refine ⟨?_⟩
  refine (block_Decode.calls S sn_L 0 _ HD1.out).mono ?_
  rintro e w7 ⟨v9, rfl, hS7, hb7⟩
  obtain ⟨A9, c9, hv9, hc9, hC9⟩ := Kd.S_reads hS7
  subst hv9
  have hl7 := bk_heap_below hl6 hb7
  have hx1g := bk_heap_below hx1f hb7
  have hx2g := bk_heap_below hx2f hb7
  have hx3g := bk_heap_below hx3f hb7
  have hCL7 := Kd.C_below hCL6 hb7
  have HB7 := Aside0.mk (below_step HB6.out hb7)
  clear hl6 hx1f hx2f hx3f hCL6 hb7 hS7 HB6
  go_wp2_with (go_at_call 29; refine Rg.stop_here ?_)
  refine ⟨?_⟩
  refine (block_Decode.calls (S ++ (⟨#[120]⟩ : ByteArray)) [] 10 _ HD2.out).mono ?_
  rintro e w8 ⟨v11, rfl, hS8, hb8⟩
  obtain ⟨A11, c11, hv11, _, _⟩ := Kd.S_reads hS8
  subst hv11
  have hx1h := bk_heap_below hx1g hb8
  have hx2h := bk_heap_below hx2g hb8
  have hx3h := bk_heap_below hx3g hb8
  have hCL8 := Kd.C_below hCL7 hb8
  have hC8 := Kd.C_below hC9 hb8
  have HB8 := Aside0.mk (below_step HB7.out hb8)
  clear hl7 hx1g hx2g hx3g hCL7 hC9 hb8 hS8 HB7
  have hsent : block_Sentences.f (⟨#[68, 114, 46, 32, 74, 46, 32, 83, 109, 105, 116, 104, 32, 32, 119, 111, 110, 46, 32, 32, 82, 101, 97, 108, 108, 121, 63, 33, 32, 65, 116, 32, 51, 46, 53, 32, 116, 111, 32, 49]⟩ : ByteArray) = some [⟨#[68, 114, 46]⟩, ⟨#[74, 46, 32, 83, 109, 105, 116, 104, 32, 32, 119, 111, 110, 46]⟩, ⟨#[82, 101, 97, 108, 108, 121, 63, 33]⟩, ⟨#[65, 116, 32, 51, 46, 53, 32, 116, 111, 32, 49]⟩] := by
    unfold block_Sentences.f
    rw [if_pos (by decide), m_sentences, sn_sent]; rfl
  go_wp2_with (go_at_call 32; refine Rg.stop_here ?_)
  refine ⟨?_⟩
  refine (block_Sentences.calls _ _ _ hsent).mono ?_
  rintro e w9 ⟨v13, rfl, hR9, hb9⟩
  have hx1i := bk_heap_below hx1h hb9
  have hx2i := bk_heap_below hx2h hb9
  have hx3i := bk_heap_below hx3h hb9
  have hCL9 := Kd.C_below hCL8 hb9
  have hC9 := Kd.C_below hC8 hb9
  have HB9 := Aside0.mk (below_step HB8.out hb9)
  clear hx1h hx2h hx3h hCL8 hC8 hb9 HB8 hsent
  obtain ⟨d0, d1, d2, d3, d4, d5, d6, d7, d8⟩ := bk_Box.of hx1i
  go_wp2_with (go_at_call 19; refine Rg.stop_here ?_)
  refine ⟨?_⟩
  refine (block_Valid.calls 7 5 ⟨#[99, 105, 116, 121, 45, 104, 97, 108, 108]⟩ 0 0 0 none 0 [] 0 0 true _ (bk_C_nil _) (Nat.le_refl _) (congrArg some sn_valid1)).mono ?_
  rintro e w10 ⟨rfl, hv10⟩
  clear d0 d1 d2 d3 d4 d5 d6 d7 d8
  have hx2j := bk_heap_below hx2i hv10
  have hx3j := bk_heap_below hx3i hv10
  obtain ⟨d0, d1, d2, d3, d4, d5, d6, d7, d8⟩ := bk_Box.of hx2j
  go_wp2_with (go_at_call 19; refine Rg.stop_here ?_)
  refine ⟨?_⟩
  refine (block_Valid.calls 7 5 ⟨#[67, 105, 116, 121]⟩ 0 0 0 none 0 [] 0 0 false _ (bk_C_nil _) (Nat.le_refl _) (congrArg some sn_valid2)).mono ?_
  rintro e w11 ⟨rfl, hv11⟩
  clear d0 d1 d2 d3 d4 d5 d6 d7 d8
  have hx3k := bk_heap_below hx3j hv11
  obtain ⟨d0, d1, d2, d3, d4, d5, d6, d7, d8⟩ := bk_Box.of hx3k
  go_wp2_with (go_at_call 19; refine Rg.stop_here ?_)
  refine ⟨?_⟩
  refine (block_Valid.calls 7 3 ⟨#[]⟩ 3 0 0 none 0 [] 0 0 false _ (bk_C_nil _) (Nat.le_refl _) (congrArg some sn_valid3)).mono ?_
  rintro e w12 ⟨rfl, hv12⟩
  clear d0 d1 d2 d3 d4 d5 d6 d7 d8
  have hb12 := below_step (below_step hv10 hv11) hv12
  have hCL12 := Kd.C_below hCL9 hb12
  have hC12 := Kd.C_below hC9 hb12
  have hR12 := Kd.R_below hR9 hb12
  have HB12 := Aside0.mk (below_step HB9.out hb12)
  clear hx1i hx2i hx2j hx3i hx3j hx3k hCL9 hC9 hv10 hv11 hv12 hb12 hR9 HB9
  have hsl : block_SameList.f 100 sn_L sn_L = some true := by rw [pl_sameL sn_L sn_L (by decide) 0 (by decide) (by decide) 100 (by decide), sn_sameL]
  go_wp2_with (go_at_call 25; refine Rg.stop_here ?_)
  refine ⟨?_⟩
  refine (block_SameList.calls 100 (some ⟨gl, 0, none⟩) 3 sn_L A9 c9 sn_L true _ hCL12 (Nat.le_refl 3) hC12 hc9 hsl).mono ?_
  rintro e w13 ⟨rfl, hb13⟩
  have hCL13 := Kd.C_below hCL12 hb13
  have hR13 := Kd.R_below hR12 hb13
  have HB13 := Aside0.mk (below_step HB12.out hb13)
  clear hCL12 hC12 hR12 hb13 HB12 hsl
  obtain ⟨gs, cap, hv13, _, _, _⟩ := Kd.R_form hR13 (by decide)
  subst hv13
  have hC13 := (Kd.R_reads' hR13).2.2
  have q0 : w13.cell? ⟨gs, 0, none⟩ = some (.string (⟨#[68, 114, 46]⟩ : ByteArray)) := by
    obtain ⟨ad, e0, hx⟩ := Kd.at_string hC13 0 (by decide) (by decide)
    cases e0
    exact hx
  have q1 : w13.cell? ⟨gs, 1, none⟩ = some (.string (⟨#[74, 46, 32, 83, 109, 105, 116, 104, 32, 32, 119, 111, 110, 46]⟩ : ByteArray)) := by
    obtain ⟨ad, e0, hx⟩ := Kd.at_string hC13 1 (by decide) (by decide)
    cases e0
    exact hx
  have q2 : w13.cell? ⟨gs, 2, none⟩ = some (.string (⟨#[82, 101, 97, 108, 108, 121, 63, 33]⟩ : ByteArray)) := by
    obtain ⟨ad, e0, hx⟩ := Kd.at_string hC13 2 (by decide) (by decide)
    cases e0
    exact hx
  have q3 : w13.cell? ⟨gs, 3, none⟩ = some (.string (⟨#[65, 116, 32, 51, 46, 53, 32, 116, 111, 32, 49]⟩ : ByteArray)) := by
    obtain ⟨ad, e0, hx⟩ := Kd.at_string hC13 3 (by decide) (by decide)
    cases e0
    exact hx
  have hplain : block_Plain.f sn_L = some (⟨#[82, 97, 105, 110, 10, 73, 116, 32, 114, 97, 105, 110, 101, 100, 46, 32, 73, 116, 32, 115, 116, 111, 112, 112, 101, 100, 46, 10, 35, 114, 97, 105, 110, 10]⟩ : ByteArray) := by
    unfold block_Plain.f
    rw [if_pos (by rw [sn_plain]; decide), sn_plain]
  have HC13 := Aside0.mk hCL13
  clear hC13 hR13 hCL13
  go_wp2_with (go_at_call 34; refine Rg.stop_here ?_)
  refine ⟨?_⟩
  refine (block_Plain.calls (some ⟨gl, 0, none⟩) 3 sn_L _ _ HC13.out (Nat.le_refl 3) hplain).mono ?_
  rintro e w14 ⟨rfl, hb14⟩
  go_wp2
  go_ret
  exact ⟨by simp, below_step HB13.out hb14⟩
end Go.Proofs.YtpgjhjlhipikgaaDoor.PK
end
