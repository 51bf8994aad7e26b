/- Texts of this claim, one behind the other. -/
import Derived.Test.YtpgjhjlhipikgaaDoorMKx3
import Derived.Test.YtpgjhjlhipikgaaDoorMKx5
import Derived.Test.YtpgjhjlhipikgaaDoorMKx6
import Derived.Test.YtpgjhjlhipikgaaDoorMKx7
import Derived.Test.YtpgjhjlhipikgaaDoorMKx8
import Derived.Test.YtpgjhjlhipikgaaDoorMKx4
import Derived.Deep.Cut
import Derived.Deep.RegionWith
section
namespace Go.Proofs.YtpgjhjlhipikgaaDoor.PK
open Go.RowKit Go.Proofs.YtpgjhjlhipikgaaDoorW.PrintWords Go.Proofs.YtpgjhjlhipikgaaDoorW.PrintLast Go.Proofs.YtpgjhjlhipikgaaDoorW.PrintMore
attribute [local go_sem] max2_int min2_int max_two min_two max_three min_three max_four min_four   -- for this text's walks alone
set_option linter.unusedVariables false
set_option linter.unusedSimpArgs false
theorem pl_rdn (l : List Int) (x : Nat) (h : x < l.length) : rd l (x : Int) = l[x] := by
  simp [rd, List.getD_eq_getElem?_getD, h]
theorem pl_eqi (a b : List Int) (hab : a.length = b.length) (hl : a.length ≤ 9223372036854775807) : ∀ (d k x : Nat), x + d = a.length → d < k →
    slices_Equal_int_int.l0 k a b (a.length : Int) (x : Int) = some (decide (a.drop x = b.drop x))
  | 0, k, x, hx, hk => by
    obtain ⟨k, rfl⟩ : ∃ j, k = j + 1 := ⟨k - 1, by omega⟩
    rw [slices_Equal_int_int.l0, if_neg (by omega), List.drop_eq_nil_of_le (by omega), List.drop_eq_nil_of_le (by omega)]; simp
  | d + 1, k, x, hx, hk => by
    obtain ⟨k, rfl⟩ : ∃ j, k = j + 1 := ⟨k - 1, by omega⟩
    have hlt : x < a.length := by omega
    have hlt2 : x < b.length := by omega
    have hw : wrap64 ((x : Int) + 1) = ((x + 1 : Nat) : Int) := by unfold wrap64; omega
    rw [slices_Equal_int_int.l0, if_pos (by omega), if_pos (by omega), if_pos (by omega), if_pos (by omega), pl_rdn a x hlt, pl_rdn b x hlt2, hw, pl_eqi a b hab hl d k (x + 1) (by omega) (by omega), List.drop_eq_getElem_cons hlt, List.drop_eq_getElem_cons hlt2]
    by_cases h : a[x] = b[x]
    · rw [if_pos h]; exact congrArg some (decide_eq_decide.2 ⟨fun e => by rw [h, e], fun e => (List.cons.inj e).2⟩)
    · rw [if_neg h]; exact congrArg some (decide_eq_false (fun e => h (List.cons.inj e).1)).symm
theorem pl_eqI (a b : List Int) (hl : a.length ≤ 9223372036854775807) (k : Nat) (hk : a.length < k) : slices_Equal_int_int.f k a b = some (decide (a = b)) := by
  unfold slices_Equal_int_int.f
  by_cases h : a.length = b.length
  · rw [if_pos (by omega)]
    exact pl_eqi a b h hl a.length k 0 (by omega) hk
  · rw [if_neg (by omega), decide_eq_false (fun e => h (by rw [e]))]
theorem pl_labelSame (u : Int) (l : List Int) (a d : Int) (u' : Int) (l' : List Int) (a' d' : Int) (hl : l.length ≤ 9223372036854775807) (k : Nat) (hk : l.length < k) :
    label_Same.f k u l a d u' l' a' d' = some (decide (u = u') && decide (l = l') && decide (a = a') && decide (d = d')) := by
  unfold label_Same.f
  rw [pl_eqI l l' hl k hk]
  by_cases h1 : u = u'
  · rw [if_pos h1]
    by_cases h2 : l = l'
    · by_cases h3 : a = a'
      · simp only [Option.bind_some, h1, h2, h3]; simp; by_cases h4 : d = d' <;> simp [h4]
      · simp [h1, h2, h3]
    · simp [h1, h2]
  · rw [if_neg h1]; simp [h1]
theorem pl_same (x y : Bl) (hl : x.f5.f1.length ≤ 9223372036854775807) (k : Nat) (hk : x.f5.f1.length < k) :
    block_Same.f k x.f0 x.f1 x.f2 x.f3 x.f4 x.f5.f0 x.f5.f1 x.f5.f2 x.f5.f3 y.f0 y.f1 y.f2 y.f3 y.f4 y.f5.f0 y.f5.f1 y.f5.f2 y.f5.f3 = some (m_same x y) := by
  unfold block_Same.f m_same
  rw [pl_labelSame _ _ _ _ _ _ _ _ hl k hk]
  simp only [ByteArray.toList_eq, Option.bind_some]
  by_cases h1 : x.f0 = y.f0 <;> by_cases h2 : x.f1 = y.f1 <;> by_cases h3 : x.f2.data.toList = y.f2.data.toList <;> by_cases h4 : x.f3 = y.f3 <;> by_cases h5 : x.f4 = y.f4 <;> simp [h1, h2, h3, h4, h5, Bool.and_assoc]
theorem pl_rdT (l : List Bl) (j : Nat) (h : j < l.length) : rd_T26 l (j : Int) = l[j] := by
  simp [rd_T26, List.getD_eq_getElem?_getD, h]
theorem pl_sameGo (a b : List Bl) (hab : a.length = b.length) (hl : a.length ≤ 9223372036854775807) (M : Nat) (hM : M ≤ 9223372036854775807) (ha : ∀ x ∈ a, x.f5.f1.length ≤ M) : ∀ (d k x : Nat), x + d = a.length → d + M + 1 < k →
    api_Block_49_at_block_Same.l0 k b a (a.length : Int) (x : Int) = some (m_sameL (a.drop x) (b.drop x))
  | 0, k, x, hx, hk => by
    obtain ⟨k, rfl⟩ : ∃ j, k = j + 1 := ⟨k - 1, by omega⟩
    rw [api_Block_49_at_block_Same.l0, if_neg (by omega), List.drop_eq_nil_of_le (by omega), List.drop_eq_nil_of_le (by omega)]; rfl
  | d + 1, k, x, hx, hk => by
    obtain ⟨k, rfl⟩ : ∃ j, k = j + 1 := ⟨k - 1, by omega⟩
    have hlt : x < a.length := by omega
    have hlt2 : x < b.length := by omega
    have hw : wrap64 ((x : Int) + 1) = ((x + 1 : Nat) : Int) := by unfold wrap64; omega
    have hx1 := ha a[x] (List.getElem_mem hlt)
    rw [api_Block_49_at_block_Same.l0, if_pos (by omega), if_pos (by omega), if_pos (by omega), if_pos (by omega), pl_rdT a x hlt, pl_rdT b x hlt2, pl_same a[x] b[x] (by omega) k (by omega), hw, pl_sameGo a b hab hl M hM ha d k (x + 1) (by omega) (by omega), List.drop_eq_getElem_cons hlt, List.drop_eq_getElem_cons hlt2, m_sameL]
    cases m_same a[x] b[x] <;> rfl
theorem pl_sameL_len : ∀ (a b : List Bl), a.length ≠ b.length → m_sameL a b = false
  | [], [], h => absurd rfl h
  | [], _ :: _, _ => rfl
  | _ :: _, [], _ => rfl
  | x :: a, y :: b, h => by rw [m_sameL, pl_sameL_len a b (by simpa using h), Bool.and_false]
theorem pl_sameL (a b : List Bl) (hl : a.length ≤ 9223372036854775807) (M : Nat) (hM : M ≤ 9223372036854775807) (ha : ∀ x ∈ a, x.f5.f1.length ≤ M) (k : Nat) (hk : a.length + M + 1 < k) : block_SameList.f k a b = some (m_sameL a b) := by
  unfold block_SameList.f api_Block_49_at_block_Same.f
  by_cases h : a.length = b.length
  · rw [if_pos (by omega)]
    have := pl_sameGo a b h hl M hM ha a.length k 0 (by omega) hk
    simp only [List.drop_zero] at this
    exact congrArg (fun o : Option Bool => o.bind fun t => some t) this
  · rw [if_neg (by omega), pl_sameL_len a b h]; rfl
def copydesklaw03_sane.f : Option Bool := some true
def bk_c9 (b : Bl) : List Value := [.int .i64 b.f0, .int .i64 b.f1, .string b.f2, .int .i64 b.f3, .int .i64 b.f4, .int .i64 b.f5.f0, .slice none 0 0, .int .i64 b.f5.f2, .int .i64 b.f5.f3]
theorem bk_c9_at : ∀ (bs : List Bl) (j i : Nat) (b : Bl) (u : Value), bs[j]? = some b → (bk_c9 b)[i]? = some u → (bs.flatMap bk_c9)[j * 9 + i]? = some u
  | [], j, i, b, u, h, _ => by simp at h
  | x :: bs, 0, i, b, u, h, hu => by
    have : x = b := by simpa using h
    subst this
    have hi := (List.getElem?_eq_some_iff.1 hu).1
    rw [List.flatMap_cons, List.getElem?_append_left (by simpa using hi), Nat.zero_mul, Nat.zero_add]; exact hu
  | x :: bs, j + 1, i, b, u, h, hu => by
    rw [List.flatMap_cons, List.getElem?_append_right (by show (bk_c9 x).length ≤ _; simp [bk_c9]; omega), show (j + 1) * 9 + i - (bk_c9 x).length = j * 9 + i by simp [bk_c9]; omega]
    exact bk_c9_at bs j i b u (by simpa using h) hu
theorem bk_C_nil (w : World) : Kd.C (Kd.int .i64) w none 0 [] := ⟨rfl, by omega, fun h => absurd h (by omega)⟩
theorem bk_C_blocks (bs : List Bl) (hb : ∀ b ∈ bs, b.f5.f1 = []) (W : World) (g : Nat) (h : W.heap[g]? = some (.cells (bs.flatMap bk_c9).toArray 26 (0, 0))) (hm : bs.length ≤ 9223372036854775807) : Kd.C k26 W (some ⟨g, 0, none⟩) bs.length bs :=
  ⟨rfl, hm, fun _ => ⟨_, rfl, fun j p hp => ⟨bk_c9 p, rfl, by
    have he := hb p (List.mem_of_getElem? hp)
    obtain ⟨f0, f1, f2, f3, f4, ⟨u, l, a, d⟩⟩ := p
    have he' : l = [] := he
    subst he'
    exact k26_mk W (⟨f0, f1, f2, f3, f4, ⟨u, [], a, d⟩⟩ : Bl) (A6 := none) (c6 := 0) (Nat.le_refl 0) (bk_C_nil W), fun i u hu => by
    have h1 := bk_c9_at bs j i p u hp hu
    have hc : W.cell? ⟨g, j * 9 + i, none⟩ = some u := by rw [bk_cell h]; simpa using h1
    show W.cell? ((⟨g, 0, none⟩ : Addr).add (j * 9 + i)) = _
    by_cases hz : j * 9 = 0 ∧ i = 0
    · obtain ⟨z1, z2⟩ := hz
      rw [z1, z2] at hc ⊢; simpa [Addr.add] using hc
    · simpa [Addr.add, hz] using hc⟩⟩⟩
def sn_L : List Bl := [(⟨1, 1, ⟨#[82, 97, 105, 110]⟩, 0, 0, ⟨0, [], 0, 0⟩⟩ : Bl), (⟨2, 2, ⟨#[73, 116, 32, 114, 97, 105, 110, 101, 100, 46, 32, 32, 73, 116, 32, 115, 116, 111, 112, 112, 101, 100, 46]⟩, 0, 0, ⟨0, [], 0, 0⟩⟩ : Bl), (⟨9, 5, ⟨#[114, 97, 105, 110]⟩, 0, 0, ⟨0, [], 0, 0⟩⟩ : Bl)]
def sn_D : List Bl := [(⟨1, 1, ⟨#[82, 97, 105, 110]⟩, 0, 0, ⟨0, [], 0, 0⟩⟩ : Bl), (⟨1, 1, ⟨#[82, 97, 105, 110]⟩, 0, 0, ⟨0, [], 0, 0⟩⟩ : Bl)]
theorem sn_valid1 : m_validB (⟨7, 5, ⟨#[99, 105, 116, 121, 45, 104, 97, 108, 108]⟩, 0, 0, ⟨0, [], 0, 0⟩⟩ : Bl) = true := by decide
theorem sn_valid2 : m_validB (⟨7, 5, ⟨#[67, 105, 116, 121]⟩, 0, 0, ⟨0, [], 0, 0⟩⟩ : Bl) = false := by decide
theorem sn_valid3 : m_validB (⟨7, 3, ⟨#[]⟩, 3, 0, ⟨0, [], 0, 0⟩⟩ : Bl) = false := by decide
theorem sn_validL : m_validL sn_L = true := by decide
theorem sn_validD : m_validL sn_D = false := by decide
theorem sn_sameL : m_sameL sn_L sn_L = true := by decide
theorem sn_sent : (m_sent (⟨#[68, 114, 46, 32, 74, 46, 32, 83, 109, 105, 116, 104, 32, 32, 119, 111, 110, 46, 32, 32, 82, 101, 97, 108, 108, 121, 63, 33, 32, 65, 116, 32, 51, 46, 53, 32, 116, 111, 32, 49]⟩ : ByteArray).data.toList) = [[68, 114, 46], [74, 46, 32, 83, 109, 105, 116, 104, 32, 32, 119, 111, 110, 46], [82, 101, 97, 108, 108, 121, 63, 33], [65, 116, 32, 51, 46, 53, 32, 116, 111, 32, 49]] := by decide
theorem sn_plain : m_plain sn_L = [82, 97, 105, 110, 10, 73, 116, 32, 114, 97, 105, 110, 101, 100, 46, 32, 73, 116, 32, 115, 116, 111, 112, 112, 101, 100, 46, 10, 35, 114, 97, 105, 110, 10] := by decide
set_option maxHeartbeats 4000000 in
set_option maxRecDepth 100000 in
theorem copydesklaw03_sane.calls (r : Bool) (w : World) (h : copydesklaw03_sane.f = some r) :
    Calls Tryd.prog 17 #[] w fun e w' => e = .returned (.bool r) ∧ Below w.heap.size w w' := by
  obtain rfl := Option.some.inj h
  clear h
  go_enter Tryd.func17, Tryd.ntmps17
  go_wp2_with (with_reducible refine is_alloc rfl ?_; refine Rg.stop_here ?_)
  refine ⟨?_⟩
  refine box_event rfl (N := 1) rfl (cs := #[.int .i64 0, .int .i64 0, .string (⟨#[]⟩ : ByteArray), .int .i64 0, .int .i64 0, .int .i64 0, .slice none 0 0, .int .i64 0, .int .i64 0]) (t := 26) (by first | (go_simp; done) | (go_simp; rfl)) ?_
  intro g1 hg_ wa1 hbx hb1
  have HG_ := Aside0.mk hg_
  clear hg_
  go_wp2_with (with_reducible refine is_store rfl ?_; refine Rg.stop_here ?_)
  refine ⟨?_⟩
  refine wpList_store_box rfl rfl _ _ _ rfl g1 _ _ _ rfl rfl hbx bk_size26 rfl (by repeat (first | exact List.forall_mem_nil _ | refine List.forall_mem_cons.2 ⟨rfl, ?_⟩)) ?_
  intro wb1 hx1 hst hot
  have hq1 : Below w.heap.size w wb1 := hb1.trans (hst _ (Nat.le_of_eq HG_.out.symm))
  clear HG_ hbx hb1 hst hot
  go_wp2_with (with_reducible refine is_alloc rfl ?_; refine Rg.stop_here ?_)
  refine ⟨?_⟩
  refine box_event rfl (N := 2) rfl (cs := #[.int .i64 0, .int .i64 0, .string (⟨#[]⟩ : ByteArray), .int .i64 0, .int .i64 0, .int .i64 0, .slice none 0 0, .int .i64 0, .int .i64 0]) (t := 26) (by first | (go_simp; done) | (go_simp; rfl)) ?_
  intro g2 hg_ wa2 hbx hb1
  have HG_ := Aside0.mk hg_
  clear hg_
  go_wp2_with (with_reducible refine is_store rfl ?_; refine Rg.stop_here ?_)
  refine ⟨?_⟩
  refine wpList_store_box rfl rfl _ _ _ rfl g2 _ _ _ rfl rfl hbx bk_size26 rfl (by repeat (first | exact List.forall_mem_nil _ | refine List.forall_mem_cons.2 ⟨rfl, ?_⟩)) ?_
  intro wb2 hx2 hst hot
  have hq2 : Below wb1.heap.size wb1 wb2 := hb1.trans (hst _ (Nat.le_of_eq HG_.out.symm))
  clear HG_ hbx hb1 hst hot
  have hx1b := bk_heap_below hx1 hq2
  go_wp2_with (with_reducible refine is_alloc rfl ?_; refine Rg.stop_here ?_)
  refine ⟨?_⟩
  refine box_event rfl (N := 3) rfl (cs := #[.int .i64 0, .int .i64 0, .string (⟨#[]⟩ : ByteArray), .int .i64 0, .int .i64 0, .int .i64 0, .slice none 0 0, .int .i64 0, .int .i64 0]) (t := 26) (by first | (go_simp; done) | (go_simp; rfl)) ?_
  intro g3 hg_ wa3 hbx hb1
  have HG_ := Aside0.mk hg_
  clear hg_
  go_wp2_with (with_reducible refine is_store rfl ?_; refine Rg.stop_here ?_)
  refine ⟨?_⟩
  refine wpList_store_box rfl rfl _ _ _ rfl g3 _ _ _ rfl rfl hbx bk_size26 rfl (by repeat (first | exact List.forall_mem_nil _ | refine List.forall_mem_cons.2 ⟨rfl, ?_⟩)) ?_
  intro wb3 hx3 hst hot
  have hq3 : Below wb2.heap.size wb2 wb3 := hb1.trans (hst _ (Nat.le_of_eq HG_.out.symm))
  clear HG_ hbx hb1 hst hot
  have hx1c := bk_heap_below hx1b hq3
  have hx2c := bk_heap_below hx2 hq3
  go_wp2_with (with_reducible refine is_build rfl ?_; refine Rg.stop_here ?_)
  refine ⟨?_⟩
  refine lit_event rfl (N := 20) rfl (cs := #[.int .i64 1, .int .i64 1, .string (⟨#[82, 97, 105, 110]⟩ : ByteArray), .int .i64 0, .int .i64 0, .int .i64 0, .slice none 0 0, .int .i64 0, .int .i64 0, .int .i64 2, .int .i64 2, .string (⟨#[73, 116, 32, 114, 97, 105, 110, 101, 100, 46, 32, 32, 73, 116, 32, 115, 116, 111, 112, 112, 101, 100, 46]⟩ : ByteArray), .int .i64 0, .int .i64 0, .int .i64 0, .slice none 0 0, .int .i64 0, .int .i64 0, .int .i64 9, .int .i64 5, .string (⟨#[114, 97, 105, 110]⟩ : ByteArray), .int .i64 0, .int .i64 0, .int .i64 0, .slice none 0 0, .int .i64 0, .int .i64 0]) (t := 26) (n := 3) (by first | (go_simp; done) | (go_simp; rfl)) ?_
  intro gl hgl w4 hl4 hb4
  have hx1d := bk_heap_below hx1c hb4
  have hx2d := bk_heap_below hx2c hb4
  have hx3d := bk_heap_below hx3 hb4
  have HB := Aside0.mk ((below_step (below_step (below_step hq1 hq2) hq3) hb4 : Below w.heap.size w w4))
  clear hx1 hx1b hx1c hx2 hx2c hx3 hq1 hq2 hq3 hb4 hgl
  have hCL : Kd.C k26 w4 (some ⟨gl, 0, none⟩) 3 sn_L := bk_C_blocks sn_L (by decide) w4 gl hl4 (by decide)
  obtain ⟨S, hS⟩ : ∃ S : ByteArray, S = ⟨(m_enc sn_L).toArray⟩ := ⟨_, rfl⟩
  have hSl : S.data.toList = m_enc sn_L := by rw [hS]
  have hSz : S.size ≤ 2000000 := by
    have h1 := cd_enc_len sn_L sn_validL
    rw [← hSl, Array.length_toList] at h1
    exact h1
  have henc : block_Encode.f sn_L = some (S, 0) := by show some (m_encode sn_L) = _; rw [cd_encode_ok _ sn_validL, ← hS]
  have hE := block_Encode.calls (some ⟨gl, 0, none⟩) 3 sn_L S 0 w4 hCL (Nat.le_refl 3) henc
  have HSL := Aside0.mk hSl
  clear hS hSl henc
  go_wp2_with (go_at_call 27; refine Rg.stop_here ?_)
  refine ⟨?_⟩
  refine hE.mono ?_
  rintro e w5 ⟨rfl, hb5⟩
  have hl5 := bk_heap_below hl4 hb5
  have hx1e := bk_heap_below hx1d hb5
  have hx2e := bk_heap_below hx2d hb5
  have hx3e := bk_heap_below hx3d hb5
  have HB5 := Aside0.mk (below_step HB.out hb5)
  have hCL5 := Kd.C_below hCL hb5
  have k0 : w5.cell? ⟨gl, 0, none⟩ = some (.int .i64 1) := bk_cell hl5 0
  have k1 : w5.cell? ⟨gl, 1, none⟩ = some (.int .i64 1) := bk_cell hl5 1
  have k2 : w5.cell? ⟨gl, 2, none⟩ = some (.string (⟨#[82, 97, 105, 110]⟩ : ByteArray)) := bk_cell hl5 2
  have k3 : w5.cell? ⟨gl, 3, none⟩ = some (.int .i64 0) := bk_cell hl5 3
  have k4 : w5.cell? ⟨gl, 4, none⟩ = some (.int .i64 0) := bk_cell hl5 4
  have k5 : w5.cell? ⟨gl, 5, none⟩ = some (.int .i64 0) := bk_cell hl5 5
  have k6 : w5.cell? ⟨gl, 6, none⟩ = some (.slice none 0 0) := bk_cell hl5 6
  have k7 : w5.cell? ⟨gl, 7, none⟩ = some (.int .i64 0) := bk_cell hl5 7
  have k8 : w5.cell? ⟨gl, 8, none⟩ = some (.int .i64 0) := bk_cell hl5 8
  have hencD : block_Encode.f sn_D = some (⟨#[]⟩, 30) := by show some (m_encode sn_D) = _; rw [cd_encode_err _ sn_validD]
  have HX1 := Aside0.mk hx1e
  have HX2 := Aside0.mk hx2e
  have HX3 := Aside0.mk hx3e
  have HL5 := Aside0.mk hl5
  have HCL5 := Aside0.mk hCL5
  clear hl4 hx1d hx2d hx3d hb5 hCL hE hx1e hx2e hx3e hl5 hCL5 HB
  go_upto_region 6 with fail
  go_cut [7, 8] from 26 to 36 (fun v7 v8 wx => v8 = .int .i64 30 ∧ Below w5.heap.size w5 wx)
  case first =>
    go_region_with (go_at_call 27; refine (block_Encode.calls (some ⟨w5.heap.size, 0, none⟩) 2 sn_D ⟨#[]⟩ 30 _ ?hr (Nat.le_refl 2) hencD).mono ?_; (case hr => exact bk_C_blocks sn_D (by decide) _ _ (blk_new w5 _) (by decide)); rintro e w6 ⟨rfl, hb6⟩)
    all_goals (go_wp2_with fail; go_meet; exact ⟨rfl, below_step (below_drew (below_alloc (Below.refl _ _) _)) hb6⟩)
  case rest =>
  obtain ⟨rfl, hb6⟩ := hcut
  have hl6 := bk_heap_below HL5.out hb6
  have hx1f := bk_heap_below HX1.out hb6
  have hx2f := bk_heap_below HX2.out hb6
  have hx3f := bk_heap_below HX3.out hb6
  have hCL6 := Kd.C_below HCL5.out hb6
  have HB6 := Aside0.mk (below_step HB5.out hb6)
  clear k0 k1 k2 k3 k4 k5 k6 k7 k8 hb6 HX1 HX2 HX3 HL5 HCL5 hencD
  have hdec : block_Decode.f S = some (sn_L, 0) := by unfold block_Decode.f; rw [if_pos (by omega), cd_decode_enc sn_L sn_validL S HSL.out]
  have hdec2 : block_Decode.f (S ++ (⟨#[120]⟩ : ByteArray)) = some ([], 10) := by
    unfold block_Decode.f
    rw [if_pos (by rw [ByteArray.size_append]; show S.size + 1 ≤ _; omega), cd_decode_more sn_L sn_validL _ [120] (by rw [ByteArray.data_append, Array.toList_append, HSL.out]) (by decide)]
  have HD1 := Aside0.mk hdec
  have HD2 := Aside0.mk hdec2
  have s1 : S.size + 1 ≤ 9223372036854775807 := by omega
  clear hdec hdec2
  go_wp2_with (go_at_call 29; refine Rg.stop_here ?_)
  refine ⟨?_⟩
  refine (block_Decode.calls S sn_L 0 _ HD1.out).mono ?_
  rintro e w7 ⟨v9, rfl, hS7, hb7⟩
  obtain ⟨A9, c9, hv9, hc9, hC9⟩ := Kd.S_reads hS7
  subst hv9
  have hl7 := bk_heap_below hl6 hb7
  have hx1g := bk_heap_below hx1f hb7
  have hx2g := bk_heap_below hx2f hb7
  have hx3g := bk_heap_below hx3f hb7
  have hCL7 := Kd.C_below hCL6 hb7
  have HB7 := Aside0.mk (below_step HB6.out hb7)
  clear hl6 hx1f hx2f hx3f hCL6 hb7 hS7 HB6
  go_wp2_with (go_at_call 29; refine Rg.stop_here ?_)
  refine ⟨?_⟩
  refine (block_Decode.calls (S ++ (⟨#[120]⟩ : ByteArray)) [] 10 _ HD2.out).mono ?_
  rintro e w8 ⟨v11, rfl, hS8, hb8⟩
  obtain ⟨A11, c11, hv11, _, _⟩ := Kd.S_reads hS8
  subst hv11
  have hx1h := bk_heap_below hx1g hb8
  have hx2h := bk_heap_below hx2g hb8
  have hx3h := bk_heap_below hx3g hb8
  have hCL8 := Kd.C_below hCL7 hb8
  have hC8 := Kd.C_below hC9 hb8
  have HB8 := Aside0.mk (below_step HB7.out hb8)
  clear hl7 hx1g hx2g hx3g hCL7 hC9 hb8 hS8 HB7
  have hsent : block_Sentences.f (⟨#[68, 114, 46, 32, 74, 46, 32, 83, 109, 105, 116, 104, 32, 32, 119, 111, 110, 46, 32, 32, 82, 101, 97, 108, 108, 121, 63, 33, 32, 65, 116, 32, 51, 46, 53, 32, 116, 111, 32, 49]⟩ : ByteArray) = some [⟨#[68, 114, 46]⟩, ⟨#[74, 46, 32, 83, 109, 105, 116, 104, 32, 32, 119, 111, 110, 46]⟩, ⟨#[82, 101, 97, 108, 108, 121, 63, 33]⟩, ⟨#[65, 116, 32, 51, 46, 53, 32, 116, 111, 32, 49]⟩] := by
    unfold block_Sentences.f
    rw [if_pos (by decide), m_sentences, sn_sent]; rfl
  go_wp2_with (go_at_call 32; refine Rg.stop_here ?_)
  refine ⟨?_⟩
  refine (block_Sentences.calls _ _ _ hsent).mono ?_
  rintro e w9 ⟨v13, rfl, hR9, hb9⟩
  have hx1i := bk_heap_below hx1h hb9
  have hx2i := bk_heap_below hx2h hb9
  have hx3i := bk_heap_below hx3h hb9
  have hCL9 := Kd.C_below hCL8 hb9
  have hC9 := Kd.C_below hC8 hb9
  have HB9 := Aside0.mk (below_step HB8.out hb9)
  clear hx1h hx2h hx3h hCL8 hC8 hb9 HB8 hsent
  obtain ⟨d0, d1, d2, d3, d4, d5, d6, d7, d8⟩ := bk_Box.of hx1i
  go_wp2_with (go_at_call 19; refine Rg.stop_here ?_)
  refine ⟨?_⟩
  refine (block_Valid.calls 7 5 ⟨#[99, 105, 116, 121, 45, 104, 97, 108, 108]⟩ 0 0 0 none 0 [] 0 0 true _ (bk_C_nil _) (Nat.le_refl _) (congrArg some sn_valid1)).mono ?_
  rintro e w10 ⟨rfl, hv10⟩
  clear d0 d1 d2 d3 d4 d5 d6 d7 d8
  have hx2j := bk_heap_below hx2i hv10
  have hx3j := bk_heap_below hx3i hv10
  obtain ⟨d0, d1, d2, d3, d4, d5, d6, d7, d8⟩ := bk_Box.of hx2j
  go_wp2_with (go_at_call 19; refine Rg.stop_here ?_)
  refine ⟨?_⟩
  refine (block_Valid.calls 7 5 ⟨#[67, 105, 116, 121]⟩ 0 0 0 none 0 [] 0 0 false _ (bk_C_nil _) (Nat.le_refl _) (congrArg some sn_valid2)).mono ?_
  rintro e w11 ⟨rfl, hv11⟩
  clear d0 d1 d2 d3 d4 d5 d6 d7 d8
  have hx3k := bk_heap_below hx3j hv11
  obtain ⟨d0, d1, d2, d3, d4, d5, d6, d7, d8⟩ := bk_Box.of hx3k
  go_wp2_with (go_at_call 19; refine Rg.stop_here ?_)
  refine ⟨?_⟩
  refine (block_Valid.calls 7 3 ⟨#[]⟩ 3 0 0 none 0 [] 0 0 false _ (bk_C_nil _) (Nat.le_refl _) (congrArg some sn_valid3)).mono ?_
  rintro e w12 ⟨rfl, hv12⟩
  clear d0 d1 d2 d3 d4 d5 d6 d7 d8
  have hb12 := below_step (below_step hv10 hv11) hv12
  have hCL12 := Kd.C_below hCL9 hb12
  have hC12 := Kd.C_below hC9 hb12
  have hR12 := Kd.R_below hR9 hb12
  have HB12 := Aside0.mk (below_step HB9.out hb12)
  clear hx1i hx2i hx2j hx3i hx3j hx3k hCL9 hC9 hv10 hv11 hv12 hb12 hR9 HB9
  have hsl : block_SameList.f 100 sn_L sn_L = some true := by rw [pl_sameL sn_L sn_L (by decide) 0 (by decide) (by decide) 100 (by decide), sn_sameL]
  go_wp2_with (go_at_call 25; refine Rg.stop_here ?_)
  refine ⟨?_⟩
  refine (block_SameList.calls 100 (some ⟨gl, 0, none⟩) 3 sn_L A9 c9 sn_L true _ hCL12 (Nat.le_refl 3) hC12 hc9 hsl).mono ?_
  rintro e w13 ⟨rfl, hb13⟩
  have hCL13 := Kd.C_below hCL12 hb13
  have hR13 := Kd.R_below hR12 hb13
  have HB13 := Aside0.mk (below_step HB12.out hb13)
  clear hCL12 hC12 hR12 hb13 HB12 hsl
  obtain ⟨gs, cap, hv13, _, _, _⟩ := Kd.R_form hR13 (by decide)
  subst hv13
  have hC13 := (Kd.R_reads' hR13).2.2
  have q0 : w13.cell? ⟨gs, 0, none⟩ = some (.string (⟨#[68, 114, 46]⟩ : ByteArray)) := by
    obtain ⟨ad, e0, hx⟩ := Kd.at_string hC13 0 (by decide) (by decide)
    cases e0
    exact hx
  have q1 : w13.cell? ⟨gs, 1, none⟩ = some (.string (⟨#[74, 46, 32, 83, 109, 105, 116, 104, 32, 32, 119, 111, 110, 46]⟩ : ByteArray)) := by
    obtain ⟨ad, e0, hx⟩ := Kd.at_string hC13 1 (by decide) (by decide)
    cases e0
    exact hx
  have q2 : w13.cell? ⟨gs, 2, none⟩ = some (.string (⟨#[82, 101, 97, 108, 108, 121, 63, 33]⟩ : ByteArray)) := by
    obtain ⟨ad, e0, hx⟩ := Kd.at_string hC13 2 (by decide) (by decide)
    cases e0
    exact hx
  have q3 : w13.cell? ⟨gs, 3, none⟩ = some (.string (⟨#[65, 116, 32, 51, 46, 53, 32, 116, 111, 32, 49]⟩ : ByteArray)) := by
    obtain ⟨ad, e0, hx⟩ := Kd.at_string hC13 3 (by decide) (by decide)
    cases e0
    exact hx
  have hplain : block_Plain.f sn_L = some (⟨#[82, 97, 105, 110, 10, 73, 116, 32, 114, 97, 105, 110, 101, 100, 46, 32, 73, 116, 32, 115, 116, 111, 112, 112, 101, 100, 46, 10, 35, 114, 97, 105, 110, 10]⟩ : ByteArray) := by
    unfold block_Plain.f
    rw [if_pos (by rw [sn_plain]; decide), sn_plain]
  have HC13 := Aside0.mk hCL13
  clear hC13 hR13 hCL13
  go_wp2_with (go_at_call 34; refine Rg.stop_here ?_)
  refine ⟨?_⟩
  refine (block_Plain.calls (some ⟨gl, 0, none⟩) 3 sn_L _ _ HC13.out (Nat.le_refl 3) hplain).mono ?_
  rintro e w14 ⟨rfl, hb14⟩
  go_wp2
  go_ret
  exact ⟨by simp, below_step HB13.out hb14⟩
end Go.Proofs.YtpgjhjlhipikgaaDoor.PK
end
section
namespace Go.Proofs.YtpgjhjlhipikgaaDoor.PK
open Go.RowKit Go.Proofs.YtpgjhjlhipikgaaDoorW.PrintWords Go.Proofs.YtpgjhjlhipikgaaDoorW.PrintLast Go.Proofs.YtpgjhjlhipikgaaDoorW.PrintMore
attribute [local go_sem] max2_int min2_int max_two min_two max_three min_three max_four min_four   -- for this text's walks alone
set_option linter.unusedVariables false
set_option linter.unusedSimpArgs false
def copydesklaw03_short.l0 : Nat → List (S26) → List (S26) → Int → Option ((List (S26)))
  | 0, _, _, _ => none
  | k + 1, x0, x3, x4 => if x4 < (x0.length : Int) then (if x4 < 30 then (if 0 ≤ x4 then (if 0 ≤ (mn (((rd_T26 x0 x4).f2).size : Int) 1000) then (if (mn (((rd_T26 x0 x4).f2).size : Int) 1000) ≤ (((rd_T26 x0 x4).f2).size : Int) then (if x3.length < 1466015503701 then (copydesklaw03_short.l0 k x0 (x3 ++ [(⟨(rd_T26 x0 x4).f0, (rd_T26 x0 x4).f1, ((rd_T26 x0 x4).f2).extract 0 ((mn (((rd_T26 x0 x4).f2).size : Int) 1000) : Int).toNat, (rd_T26 x0 x4).f3, (rd_T26 x0 x4).f4, (⟨(rd_T26 x0 x4).f5.f0, (rd_T26 x0 x4).f5.f1, (rd_T26 x0 x4).f5.f2, (rd_T26 x0 x4).f5.f3⟩ : S24)⟩ : S26)]) (wrap64 (x4 + 1))) else (none)) else (none)) else (none)) else (none)) else (some x3)) else (some x3)
def copydesklaw03_short.f (k : Nat) (l0 : List (S26)) : Option ((List (S26))) := copydesklaw03_short.l0 k l0 ([] : List (S26)) 0
theorem copydesklaw03_short.mono_l : ∀ k, (∀ y0 y1 y2, LeO (copydesklaw03_short.l0 k y0 y1 y2) (copydesklaw03_short.l0 (k + 1) y0 y1 y2))
  | 0 => fun _ _ _ r h => by simp [copydesklaw03_short.l0] at h
  | k + 1 => by
    have ih0 := copydesklaw03_short.mono_l k
    · intro y0 y1 y2
      unfold copydesklaw03_short.l0
      repeat' first
      | (with_reducible exact ih0 _ _ _)
      | (with_reducible exact LeO.refl _)
      | (with_reducible exact LeO.none _)
      | (with_reducible refine LeO.ite ?_ ?_)
      | (with_reducible refine LeO.bind ?_ (fun _ => ?_))
      | exact ih0 _ _ _
      | exact LeO.none _
      | refine LeO.ite ?_ ?_
      | refine LeO.bind ?_ (fun _ => ?_)
theorem copydesklaw03_short.mono : ∀ a0 k, LeO (copydesklaw03_short.f k a0) (copydesklaw03_short.f (k + 1) a0) := by
  intro a0 k
  have ih0 := copydesklaw03_short.mono_l k
  unfold copydesklaw03_short.f
  repeat' first
      | (with_reducible exact ih0 _ _ _)
      | (with_reducible exact LeO.refl _)
      | (with_reducible exact LeO.none _)
      | (with_reducible refine LeO.ite ?_ ?_)
      | (with_reducible refine LeO.bind ?_ (fun _ => ?_))
      | exact ih0 _ _ _
      | exact LeO.none _
      | refine LeO.ite ?_ ?_
      | refine LeO.bind ?_ (fun _ => ?_)
set_option maxHeartbeats 8000000 in
set_option maxRecDepth 100000 in
theorem copydesklaw03_short.calls (k : Nat) (P0_ : Nat → Prop) (A0 : Option Addr) (c0 : Nat) (l0 : List (S26)) (r : List (S26)) (w : World) (hs0 : Kd.V k26 26 w w.heap.size (fun k_ => P0_ k_) (.slice A0 l0.length c0) l0) (h : copydesklaw03_short.f k l0 = some r) :
    Calls Tryd.prog 18 #[.slice A0 l0.length c0] w fun e w' => ∃ v0_ : Value, e = .returned (v0_) ∧ Kd.N k26 26 w' w.heap.size (fun k_ => (P0_ k_ ∨ w.heap.size ≤ k_)) v0_ r ∧ Below w.heap.size w w' := by
  have hu26 := Tryd.underlying26
  have HO0 := Aside0.mk (show Kd.V k26 26 w w.heap.size (fun k_ => (P0_ k_ ∨ w.heap.size ≤ k_)) (.slice A0 l0.length c0) l0 from Kd.V_mono hs0 (fun k_ hk => .inl hk))
  have HB := Aside0.mk (Below.refl w.heap.size w)
  have H : (copydesklaw03_short.l0 k l0 ([] : List (S26)) 0) = some r := h
  clear h
  have H' := Aside0.mk H
  clear H
  go_enter Tryd.func18, Tryd.ntmps18
  go_wp2
  go_loopg [3, 4] k (fun kq v3 v4 w' => ∃ (x3_1 : List (S26)) (x4_1 : Int), v4 = .int .i64 x4_1 ∧ Aside0 (copydesklaw03_short.l0 kq l0 x3_1 x4_1 = some r) ∧ Aside0 (kq ≤ k) ∧ Aside0 (Kd.V k26 26 w' w.heap.size (fun k_ => (P0_ k_ ∨ w.heap.size ≤ k_) ∧ some k_ ≠ (v3 : Value).ownBlock) (.slice A0 l0.length c0) l0) ∧ Aside0 (Kd.N k26 26 w' w.heap.size (fun k_ => (P0_ k_ ∨ w.heap.size ≤ k_)) v3 x3_1) ∧ Aside0 (Below w.heap.size w w'))
  case atStart => exact ⟨(([] : List (S26))), (0), (by first | rfl | (simp; done) | (simp [*]; done)), H', ⟨Nat.le_refl _⟩, ⟨by (with_reducible repeat (first | apply Kd.V_alloc | apply Kd.V_drewN | apply Kd.V_drew)); exact Kd.V_mono HO0.out (fun _ hk => ⟨hk, (by simp [Value.ownBlock])⟩)⟩, ⟨by first | exact Kd.S_nil _ _ _ _ _ | exact Kd.N_nil _ _ _ _ _ | exact Kd.V_nil _ _ _ _ _ | exact Kd.Q_nil _ _ _ _ _ | exact Kd.R_nil _ _ _ _ _⟩, ⟨by repeat (first | (with_reducible first | exact HB.out | apply below_alloc | apply pw_below_drewN | apply below_drew1) | exact HB.out)⟩⟩
  case round =>
    clear H'
    try clear c1
    obtain ⟨x3_1, x4_1, rfl, HA, HK1, HO_0, HO_3, HB⟩ := hrel
    cases gk with
    | zero => exact absurd HA.out (by simp [copydesklaw03_short.l0])
    | succ k1 =>
      have H := HA.out
      clear HA
      simp only [copydesklaw03_short.l0] at H
      by_cases c2 : x4_1 < (l0.length : Int)
      · rw [if_pos c2] at H
        have c2b0 : decide (x4_1 < (l0.length : Int)) = true := decide_eq_true c2
        clear c2
        by_cases c3 : x4_1 < 30
        · rw [if_pos c3] at H
          have c3b0 : decide (x4_1 < 30) = true := decide_eq_true c3
          clear c3
          by_cases c4 : 0 ≤ x4_1
          · rw [if_pos c4] at H
            have c4b0 : decide (0 ≤ x4_1) = true := decide_eq_true c4
            clear c4
            obtain ⟨ji5, hji5⟩ : ∃ j_ : Int, (mn (((rd_T26 l0 x4_1).f2).size : Int) 1000) = j_ := ⟨_, rfl⟩
            replace H : (if 0 ≤ (ji5) then (if (ji5) ≤ (((rd_T26 l0 x4_1).f2).size : Int) then (if x3_1.length < 1466015503701 then (copydesklaw03_short.l0 k1 l0 (x3_1 ++ [(⟨(rd_T26 l0 x4_1).f0, (rd_T26 l0 x4_1).f1, ((rd_T26 l0 x4_1).f2).extract 0 ((ji5) : Int).toNat, (rd_T26 l0 x4_1).f3, (rd_T26 l0 x4_1).f4, (⟨(rd_T26 l0 x4_1).f5.f0, (rd_T26 l0 x4_1).f5.f1, (rd_T26 l0 x4_1).f5.f2, (rd_T26 l0 x4_1).f5.f3⟩ : S24)⟩ : S26)]) (wrap64 (x4_1 + 1))) else (none)) else (none)) else (none)) = some r := by first | (rw [hji5] at H; exact H) | (simp only [hji5] at H ⊢; exact H)
            have hji5_ : (if 1000 < (((rd_T26 l0 x4_1).f2).size : Int) then 1000 else (((rd_T26 l0 x4_1).f2).size : Int)) = ji5 := hji5
            by_cases c6 : 0 ≤ (ji5)
            · rw [if_pos c6] at H
              have c6b0 := eq_true c6
              have c6b1 : decide (0 ≤ (ji5)) = true := decide_eq_true c6
              clear c6
              by_cases c7 : (ji5) ≤ (((rd_T26 l0 x4_1).f2).size : Int)
              · rw [if_pos c7] at H
                have c7b0 := eq_true c7
                have c7b1 : decide ((ji5) ≤ (((rd_T26 l0 x4_1).f2).size : Int)) = true := decide_eq_true c7
                clear c7
                by_cases c8 : x3_1.length < 1466015503701
                · rw [if_pos c8] at H
                  have LMc8 := Aside0.mk c8
                  clear c8
                  obtain ⟨y141, hy141⟩ : ∃ y_ : List (S26), y_ = (x3_1 ++ [(⟨(rd_T26 l0 x4_1).f0, (rd_T26 l0 x4_1).f1, ((rd_T26 l0 x4_1).f2).extract 0 ((ji5) : Int).toNat, (rd_T26 l0 x4_1).f3, (rd_T26 l0 x4_1).f4, (⟨(rd_T26 l0 x4_1).f5.f0, (rd_T26 l0 x4_1).f5.f1, (rd_T26 l0 x4_1).f5.f2, (rd_T26 l0 x4_1).f5.f3⟩ : S24)⟩ : S26)]) := ⟨_, rfl⟩
                  replace H : (copydesklaw03_short.l0 k1 l0 y141 (wrap64 (x4_1 + 1))) = some r := by first | (rw [hy141]; with_reducible exact H) | (have H2_ := (Option.bind_some _ _).symm.trans H; rw [hy141]; with_reducible exact H2_) | (have H2_ := (Option.bind_some _ _).symm.trans H; with_reducible exact H2_) | with_reducible exact H | (rw [hy141]; exact H) | exact H
                  have Ny141 := Aside0.mk hy141
                  clear hy141
                  have H' := Aside0.mk H
                  clear H
                  have p139 : 0 ≤ (x4_1 : Int) := of_decide_eq_true (by first | (with_reducible assumption) | assumption)
                  have q139 : x4_1 < (l0.length : Int) := of_decide_eq_true (by first | (with_reducible assumption) | assumption)
                  obtain ⟨ad139, A139_6, c139_6, e139, hx139_0, hx139_1, hx139_2, hx139_3, hx139_4, hx139_5, hx139_6, hx139_7, hx139_8, hl139_6, hi139_6⟩ := at_T26 (Kd.V_reads' HO_0.out).2.2 x4_1 p139 q139
                  cases e139
                  obtain ⟨ce139, hce139, hMe139, hcc139⟩ := Kd.V_get HO_0.out z26 x4_1 p139 (by first | exact q139 | exact of_decide_eq_true (by first | (with_reducible assumption) | assumption) | (have e_ := (Kd.V_reads' HO_0.out).1; omega))
                  obtain ⟨ua139_6, uc139_6, rfl, ul139_6, ge139_6⟩ := k26_openF hMe139
                  have hv139_6 := hcc139 6 _ rfl
                  rw [add_field _ _ 6 (by omega)] at hv139_6
                  replace hv139_6 := Option.some.inj (hv139_6.symm.trans hx139_6)
                  injection hv139_6 with hva_ hvn_ hvc_
                  rw [hva_] at ge139_6
                  rw [hvc_] at ul139_6
                  have HL139_6 := Aside0.mk (show Kd.V (Kd.int .i64) 3 _ w.heap.size _ _ ((rd_T26 l0 x4_1).f5.f1) from Kd.V_mk ul139_6 ge139_6)
                  clear hva_ hvn_ hvc_ ge139_6 ul139_6
                  clear hcc139 hce139
                  have HR139_6 := Aside0.mk hi139_6
                  have HC139_6 := Aside0.mk hl139_6
                  clear hi139_6 hl139_6
                  replace p139 := eq_true p139
                  replace q139 := eq_true q139
                  go_wp2_with (first | ((with_reducible refine gate_dst (N := 5) rfl ?_); refine box_event ?hg (N := 5) ?hd (cs := #[.int .i64 0, .int .i64 0, .string (⟨#[]⟩ : ByteArray), .int .i64 0, .int .i64 0, .int .i64 0, .slice none 0 0, .int .i64 0, .int .i64 0]) (t := 26) ?hr ?_; (case hd => rfl); (case hg => rfl); (case hr => first | (go_simp; done) | (go_simp; rfl)); intro gb140 hg w9 hbox hb; have n0_ := Aside0.mk (Kd.V_below (Kd.V_elderB (by (with_reducible repeat (first | apply Kd.V_alloc | apply Kd.V_drewN | apply Kd.V_drew)); exact HO_0.out) gb140 (Nat.le_of_eq hg.symm)) hb); have n1_ := Aside0.mk (Kd.N_below (Kd.N_elderB (by (with_reducible repeat (first | apply Kd.N_alloc | apply Kd.N_drewN | apply Kd.N_drew)); exact HO_3.out) gb140 (Nat.le_of_eq hg.symm)) hb); have n2_ := Aside0.mk (Kd.V_below (Kd.V_elderB (by (with_reducible repeat (first | apply Kd.V_alloc | apply Kd.V_drewN | apply Kd.V_drew)); exact HL139_6.out) gb140 (Nat.le_of_eq hg.symm)) hb); have n3_ := Aside0.mk (Kd.C_below (by repeat (first | (with_reducible exact HR139_6.out) | (with_reducible refine Kd.C_alloc ?_ _) | (with_reducible refine Kd.C_drewN ?_ _) | (with_reducible refine Kd.C_drew ?_) | exact HR139_6.out)) hb); have n4_ := Aside0.mk (below_step (by repeat (first | (with_reducible first | exact HB.out | apply below_alloc | apply pw_below_drewN | apply below_drew1) | exact HB.out)) hb); have n5_ := Aside0.mk (hbox); have n6_ := Aside0.mk ((by rw [hg]; exact (below_size (by repeat (first | (with_reducible first | exact HB.out | apply below_alloc | apply pw_below_drewN | apply below_drew1) | exact HB.out))) : w.heap.size ≤ gb140)); have n7_ := Aside0.mk ((by rw [hg]; exact (below_size (by repeat (first | (with_reducible first | exact HB.out | apply below_alloc | apply pw_below_drewN | apply below_drew1) | exact HB.out))) : w.heap.size ≤ gb140)); clear HO_0; clear HO_3; clear HL139_6; clear HR139_6; clear HB; have HO_0 := n0_; have HO_3 := n1_; have HL139_6 := n2_; have HR139_6 := n3_; have HB := n4_; have BK140 := n5_; have GW140 := n6_; have GE140 := n7_; clear n0_ n1_ n2_ n3_ n4_ n5_ n6_ n7_; clear hb hbox hg; have hcz10_0 : w9.cell? ⟨gb140, 0, none⟩ = some (.int .i64 0) := (blk_cell BK140.out 0).trans rfl; have hcz10_1 : w9.cell? ⟨gb140, 1, none⟩ = some (.int .i64 0) := (blk_cell BK140.out 1).trans rfl; have hcz10_2 : w9.cell? ⟨gb140, 2, none⟩ = some (.string (⟨#[]⟩ : ByteArray)) := (blk_cell BK140.out 2).trans rfl; have hcz10_3 : w9.cell? ⟨gb140, 3, none⟩ = some (.int .i64 0) := (blk_cell BK140.out 3).trans rfl; have hcz10_4 : w9.cell? ⟨gb140, 4, none⟩ = some (.int .i64 0) := (blk_cell BK140.out 4).trans rfl; have hcz10_5 : w9.cell? ⟨gb140, 5, none⟩ = some (.int .i64 0) := (blk_cell BK140.out 5).trans rfl; have hcz10_6 : w9.cell? ⟨gb140, 6, none⟩ = some (.slice none 0 0) := (blk_cell BK140.out 6).trans rfl; have hcz10_7 : w9.cell? ⟨gb140, 7, none⟩ = some (.int .i64 0) := (blk_cell BK140.out 7).trans rfl; have hcz10_8 : w9.cell? ⟨gb140, 8, none⟩ = some (.int .i64 0) := (blk_cell BK140.out 8).trans rfl; have hfz10_0 := blk_frozen BK140.out 0; have hfz10_1 := blk_frozen BK140.out 1; have hfz10_2 := blk_frozen BK140.out 2; have hfz10_3 := blk_frozen BK140.out 3; have hfz10_4 := blk_frozen BK140.out 4; have hfz10_5 := blk_frozen BK140.out 5; have hfz10_6 := blk_frozen BK140.out 6; have hfz10_7 := blk_frozen BK140.out 7; have hfz10_8 := blk_frozen BK140.out 8) | ((with_reducible refine gate_store (t := 26) (p := 5) rfl ?_); refine store_event (t := 26) (p := 5) (v := ?vo_w11) (w1 := (((((((((w9.setCell ⟨gb140, 0, none⟩ (.int .i64 ((rd_T26 l0 x4_1).f0))).setCell ⟨gb140, 1, none⟩ (.int .i64 ((rd_T26 l0 x4_1).f1))).setCell ⟨gb140, 2, none⟩ (.string ((rd_T26 l0 x4_1).f2))).setCell ⟨gb140, 3, none⟩ (.int .i64 ((rd_T26 l0 x4_1).f3))).setCell ⟨gb140, 4, none⟩ (.int .i64 ((rd_T26 l0 x4_1).f4))).setCell ⟨gb140, 5, none⟩ (.int .i64 ((rd_T26 l0 x4_1).f5.f0))).setCell ⟨gb140, 6, none⟩ (.slice A139_6 ((rd_T26 l0 x4_1).f5.f1).length c139_6)).setCell ⟨gb140, 7, none⟩ (.int .i64 ((rd_T26 l0 x4_1).f5.f2))).setCell ⟨gb140, 8, none⟩ (.int .i64 ((rd_T26 l0 x4_1).f5.f3)))) ?hg ?ho ?hn ?hr ?_; (case ho => rfl); (case hg => rfl); (case hn => rfl); (case hr => first | (go_simp; done) | (go_simp; rfl)); intro w11 hw; have n0_ : Aside0 (Kd.V k26 26 w11 w.heap.size (fun k_ => (P0_ k_ ∨ w.heap.size ≤ k_) ∧ some k_ ≠ (u3 : Value).ownBlock ∧ k_ ≠ gb140) (.slice (some ad139) l0.length c0) l0) := ⟨(by rw [hw]; exact (by (with_reducible repeat (first | apply Kd.V_alloc | apply Kd.V_drewN | apply Kd.V_drew)); exact Kd.V_mono (Kd.V_far (p := ⟨gb140, 8, none⟩) (Kd.V_far (p := ⟨gb140, 7, none⟩) (Kd.V_far (p := ⟨gb140, 6, none⟩) (Kd.V_far (p := ⟨gb140, 5, none⟩) (Kd.V_far (p := ⟨gb140, 4, none⟩) (Kd.V_far (p := ⟨gb140, 3, none⟩) (Kd.V_far (p := ⟨gb140, 2, none⟩) (Kd.V_far (p := ⟨gb140, 1, none⟩) (Kd.V_far (p := ⟨gb140, 0, none⟩) (Kd.V_mono HO_0.out (fun k_ hk => (⟨hk, hk.2⟩ : _ ∧ k_ ≠ gb140))) (fun _ hk => hk.2) (.int .i64 ((rd_T26 l0 x4_1).f0))) (fun _ hk => hk.2) (.int .i64 ((rd_T26 l0 x4_1).f1))) (fun _ hk => hk.2) (.string ((rd_T26 l0 x4_1).f2))) (fun _ hk => hk.2) (.int .i64 ((rd_T26 l0 x4_1).f3))) (fun _ hk => hk.2) (.int .i64 ((rd_T26 l0 x4_1).f4))) (fun _ hk => hk.2) (.int .i64 ((rd_T26 l0 x4_1).f5.f0))) (fun _ hk => hk.2) (.slice A139_6 ((rd_T26 l0 x4_1).f5.f1).length c139_6)) (fun _ hk => hk.2) (.int .i64 ((rd_T26 l0 x4_1).f5.f2))) (fun _ hk => hk.2) (.int .i64 ((rd_T26 l0 x4_1).f5.f3))) (fun _ hk => ⟨hk.1.1.1, ⟨hk.1.1.2, hk.1.2⟩⟩)))⟩; have n1_ : Aside0 (Kd.N k26 26 w11 w.heap.size (fun k_ => (P0_ k_ ∨ w.heap.size ≤ k_) ∧ k_ ≠ gb140) u3 x3_1) := ⟨(by rw [hw]; exact (by (with_reducible repeat (first | apply Kd.N_alloc | apply Kd.N_drewN | apply Kd.N_drew)); exact Kd.N_mono (Kd.N_far (p := ⟨gb140, 8, none⟩) (Kd.N_far (p := ⟨gb140, 7, none⟩) (Kd.N_far (p := ⟨gb140, 6, none⟩) (Kd.N_far (p := ⟨gb140, 5, none⟩) (Kd.N_far (p := ⟨gb140, 4, none⟩) (Kd.N_far (p := ⟨gb140, 3, none⟩) (Kd.N_far (p := ⟨gb140, 2, none⟩) (Kd.N_far (p := ⟨gb140, 1, none⟩) (Kd.N_far (p := ⟨gb140, 0, none⟩) (Kd.N_mono HO_3.out (fun k_ hk => (⟨hk, hk.2⟩ : _ ∧ k_ ≠ gb140))) (fun _ hk => hk.2) (.int .i64 ((rd_T26 l0 x4_1).f0))) (fun _ hk => hk.2) (.int .i64 ((rd_T26 l0 x4_1).f1))) (fun _ hk => hk.2) (.string ((rd_T26 l0 x4_1).f2))) (fun _ hk => hk.2) (.int .i64 ((rd_T26 l0 x4_1).f3))) (fun _ hk => hk.2) (.int .i64 ((rd_T26 l0 x4_1).f4))) (fun _ hk => hk.2) (.int .i64 ((rd_T26 l0 x4_1).f5.f0))) (fun _ hk => hk.2) (.slice A139_6 ((rd_T26 l0 x4_1).f5.f1).length c139_6)) (fun _ hk => hk.2) (.int .i64 ((rd_T26 l0 x4_1).f5.f2))) (fun _ hk => hk.2) (.int .i64 ((rd_T26 l0 x4_1).f5.f3))) (fun _ hk => ⟨hk.1.1, hk.1.2⟩)))⟩; have n2_ : Aside0 (Kd.V (Kd.int .i64) 3 w11 w.heap.size (fun k_ => (P0_ k_ ∨ w.heap.size ≤ k_) ∧ some k_ ≠ (u3 : Value).ownBlock ∧ k_ ≠ gb140) (.slice A139_6 ((rd_T26 l0 x4_1).f5.f1).length c139_6) ((rd_T26 l0 x4_1).f5.f1)) := ⟨(by rw [hw]; exact (by (with_reducible repeat (first | apply Kd.V_alloc | apply Kd.V_drewN | apply Kd.V_drew)); exact Kd.V_mono (Kd.V_far (p := ⟨gb140, 8, none⟩) (Kd.V_far (p := ⟨gb140, 7, none⟩) (Kd.V_far (p := ⟨gb140, 6, none⟩) (Kd.V_far (p := ⟨gb140, 5, none⟩) (Kd.V_far (p := ⟨gb140, 4, none⟩) (Kd.V_far (p := ⟨gb140, 3, none⟩) (Kd.V_far (p := ⟨gb140, 2, none⟩) (Kd.V_far (p := ⟨gb140, 1, none⟩) (Kd.V_far (p := ⟨gb140, 0, none⟩) (Kd.V_mono HL139_6.out (fun k_ hk => (⟨hk, hk.2⟩ : _ ∧ k_ ≠ gb140))) (fun _ hk => hk.2) (.int .i64 ((rd_T26 l0 x4_1).f0))) (fun _ hk => hk.2) (.int .i64 ((rd_T26 l0 x4_1).f1))) (fun _ hk => hk.2) (.string ((rd_T26 l0 x4_1).f2))) (fun _ hk => hk.2) (.int .i64 ((rd_T26 l0 x4_1).f3))) (fun _ hk => hk.2) (.int .i64 ((rd_T26 l0 x4_1).f4))) (fun _ hk => hk.2) (.int .i64 ((rd_T26 l0 x4_1).f5.f0))) (fun _ hk => hk.2) (.slice A139_6 ((rd_T26 l0 x4_1).f5.f1).length c139_6)) (fun _ hk => hk.2) (.int .i64 ((rd_T26 l0 x4_1).f5.f2))) (fun _ hk => hk.2) (.int .i64 ((rd_T26 l0 x4_1).f5.f3))) (fun _ hk => ⟨hk.1.1.1, ⟨hk.1.1.2, hk.1.2⟩⟩)))⟩; have n3_ : Aside0 (w11.heap[gb140]? = some (.cells #[.int .i64 ((rd_T26 l0 x4_1).f0), .int .i64 ((rd_T26 l0 x4_1).f1), .string ((rd_T26 l0 x4_1).f2), .int .i64 ((rd_T26 l0 x4_1).f3), .int .i64 ((rd_T26 l0 x4_1).f4), .int .i64 ((rd_T26 l0 x4_1).f5.f0), .slice A139_6 ((rd_T26 l0 x4_1).f5.f1).length c139_6, .int .i64 ((rd_T26 l0 x4_1).f5.f2), .int .i64 ((rd_T26 l0 x4_1).f5.f3)] 26 (0, 0))) := ⟨(by rw [hw]; exact (by (with_reducible repeat (first | refine blk_drewN ?_ _ | refine blk_drew ?_ | refine blk_alloc ?_ _)); refine blk_put (cs := #[.int .i64 ((rd_T26 l0 x4_1).f0), .int .i64 ((rd_T26 l0 x4_1).f1), .string ((rd_T26 l0 x4_1).f2), .int .i64 ((rd_T26 l0 x4_1).f3), .int .i64 ((rd_T26 l0 x4_1).f4), .int .i64 ((rd_T26 l0 x4_1).f5.f0), .slice A139_6 ((rd_T26 l0 x4_1).f5.f1).length c139_6, .int .i64 ((rd_T26 l0 x4_1).f5.f2), .int .i64 0]) ?_ 8 _ rfl; (with_reducible repeat (first | refine blk_drewN ?_ _ | refine blk_drew ?_ | refine blk_alloc ?_ _)); refine blk_put (cs := #[.int .i64 ((rd_T26 l0 x4_1).f0), .int .i64 ((rd_T26 l0 x4_1).f1), .string ((rd_T26 l0 x4_1).f2), .int .i64 ((rd_T26 l0 x4_1).f3), .int .i64 ((rd_T26 l0 x4_1).f4), .int .i64 ((rd_T26 l0 x4_1).f5.f0), .slice A139_6 ((rd_T26 l0 x4_1).f5.f1).length c139_6, .int .i64 0, .int .i64 0]) ?_ 7 _ rfl; (with_reducible repeat (first | refine blk_drewN ?_ _ | refine blk_drew ?_ | refine blk_alloc ?_ _)); refine blk_put (cs := #[.int .i64 ((rd_T26 l0 x4_1).f0), .int .i64 ((rd_T26 l0 x4_1).f1), .string ((rd_T26 l0 x4_1).f2), .int .i64 ((rd_T26 l0 x4_1).f3), .int .i64 ((rd_T26 l0 x4_1).f4), .int .i64 ((rd_T26 l0 x4_1).f5.f0), .slice none 0 0, .int .i64 0, .int .i64 0]) ?_ 6 _ rfl; (with_reducible repeat (first | refine blk_drewN ?_ _ | refine blk_drew ?_ | refine blk_alloc ?_ _)); refine blk_put (cs := #[.int .i64 ((rd_T26 l0 x4_1).f0), .int .i64 ((rd_T26 l0 x4_1).f1), .string ((rd_T26 l0 x4_1).f2), .int .i64 ((rd_T26 l0 x4_1).f3), .int .i64 ((rd_T26 l0 x4_1).f4), .int .i64 0, .slice none 0 0, .int .i64 0, .int .i64 0]) ?_ 5 _ rfl; (with_reducible repeat (first | refine blk_drewN ?_ _ | refine blk_drew ?_ | refine blk_alloc ?_ _)); refine blk_put (cs := #[.int .i64 ((rd_T26 l0 x4_1).f0), .int .i64 ((rd_T26 l0 x4_1).f1), .string ((rd_T26 l0 x4_1).f2), .int .i64 ((rd_T26 l0 x4_1).f3), .int .i64 0, .int .i64 0, .slice none 0 0, .int .i64 0, .int .i64 0]) ?_ 4 _ rfl; (with_reducible repeat (first | refine blk_drewN ?_ _ | refine blk_drew ?_ | refine blk_alloc ?_ _)); refine blk_put (cs := #[.int .i64 ((rd_T26 l0 x4_1).f0), .int .i64 ((rd_T26 l0 x4_1).f1), .string ((rd_T26 l0 x4_1).f2), .int .i64 0, .int .i64 0, .int .i64 0, .slice none 0 0, .int .i64 0, .int .i64 0]) ?_ 3 _ rfl; (with_reducible repeat (first | refine blk_drewN ?_ _ | refine blk_drew ?_ | refine blk_alloc ?_ _)); refine blk_put (cs := #[.int .i64 ((rd_T26 l0 x4_1).f0), .int .i64 ((rd_T26 l0 x4_1).f1), .string (⟨#[]⟩ : ByteArray), .int .i64 0, .int .i64 0, .int .i64 0, .slice none 0 0, .int .i64 0, .int .i64 0]) ?_ 2 _ rfl; (with_reducible repeat (first | refine blk_drewN ?_ _ | refine blk_drew ?_ | refine blk_alloc ?_ _)); refine blk_put (cs := #[.int .i64 ((rd_T26 l0 x4_1).f0), .int .i64 0, .string (⟨#[]⟩ : ByteArray), .int .i64 0, .int .i64 0, .int .i64 0, .slice none 0 0, .int .i64 0, .int .i64 0]) ?_ 1 _ rfl; (with_reducible repeat (first | refine blk_drewN ?_ _ | refine blk_drew ?_ | refine blk_alloc ?_ _)); refine blk_put (cs := #[.int .i64 0, .int .i64 0, .string (⟨#[]⟩ : ByteArray), .int .i64 0, .int .i64 0, .int .i64 0, .slice none 0 0, .int .i64 0, .int .i64 0]) ?_ 0 _ rfl; (with_reducible repeat (first | refine blk_drewN ?_ _ | refine blk_drew ?_ | refine blk_alloc ?_ _)); exact BK140.out))⟩; have n4_ : Aside0 (Below w.heap.size w w11) := ⟨(by rw [hw]; exact (by repeat (first | (with_reducible first | exact HB.out | apply below_alloc | apply pw_below_drewN | apply below_drew1 | refine below_set ?_ GE140.out) | exact HB.out)))⟩; clear hw; clear HO_0; clear HO_3; clear HL139_6; clear BK140; clear HB; have HO_0 := n0_; have HO_3 := n1_; have HL139_6 := n2_; have BK140 := n3_; have HB := n4_; clear n0_ n1_ n2_ n3_ n4_; have hcz12_0 : w11.cell? ⟨gb140, 0, none⟩ = some (.int .i64 ((rd_T26 l0 x4_1).f0)) := (blk_cell BK140.out 0).trans rfl; have hcz12_1 : w11.cell? ⟨gb140, 1, none⟩ = some (.int .i64 ((rd_T26 l0 x4_1).f1)) := (blk_cell BK140.out 1).trans rfl; have hcz12_2 : w11.cell? ⟨gb140, 2, none⟩ = some (.string ((rd_T26 l0 x4_1).f2)) := (blk_cell BK140.out 2).trans rfl; have hcz12_3 : w11.cell? ⟨gb140, 3, none⟩ = some (.int .i64 ((rd_T26 l0 x4_1).f3)) := (blk_cell BK140.out 3).trans rfl; have hcz12_4 : w11.cell? ⟨gb140, 4, none⟩ = some (.int .i64 ((rd_T26 l0 x4_1).f4)) := (blk_cell BK140.out 4).trans rfl; have hcz12_5 : w11.cell? ⟨gb140, 5, none⟩ = some (.int .i64 ((rd_T26 l0 x4_1).f5.f0)) := (blk_cell BK140.out 5).trans rfl; have hcz12_6 : w11.cell? ⟨gb140, 6, none⟩ = some (.slice A139_6 ((rd_T26 l0 x4_1).f5.f1).length c139_6) := (blk_cell BK140.out 6).trans rfl; have hcz12_7 : w11.cell? ⟨gb140, 7, none⟩ = some (.int .i64 ((rd_T26 l0 x4_1).f5.f2)) := (blk_cell BK140.out 7).trans rfl; have hcz12_8 : w11.cell? ⟨gb140, 8, none⟩ = some (.int .i64 ((rd_T26 l0 x4_1).f5.f3)) := (blk_cell BK140.out 8).trans rfl; have hfz12_0 := blk_frozen BK140.out 0; have hfz12_1 := blk_frozen BK140.out 1; have hfz12_2 := blk_frozen BK140.out 2; have hfz12_3 := blk_frozen BK140.out 3; have hfz12_4 := blk_frozen BK140.out 4; have hfz12_5 := blk_frozen BK140.out 5; have hfz12_6 := blk_frozen BK140.out 6; have hfz12_7 := blk_frozen BK140.out 7; have hfz12_8 := blk_frozen BK140.out 8) | ((with_reducible refine gate_store (t := 9) (p := 27) rfl ?_); refine store_event (t := 9) (p := 27) (v := ?vo_w13) (w1 := (w11.setCell ⟨gb140, 2, none⟩ (.string (((rd_T26 l0 x4_1).f2).extract 0 ((ji5) : Int).toNat)))) ?hg ?ho ?hn ?hr ?_; (case ho => rfl); (case hg => rfl); (case hn => rfl); (case hr => first | (go_simp; done) | (go_simp; rfl)); intro w13 hw; have n0_ : Aside0 (Kd.V k26 26 w13 w.heap.size (fun k_ => (P0_ k_ ∨ w.heap.size ≤ k_) ∧ some k_ ≠ (u3 : Value).ownBlock ∧ k_ ≠ gb140) (.slice (some ad139) l0.length c0) l0) := ⟨(by rw [hw]; exact (by (with_reducible repeat (first | apply Kd.V_alloc | apply Kd.V_drewN | apply Kd.V_drew)); exact Kd.V_mono (Kd.V_far (p := ⟨gb140, 2, none⟩) (Kd.V_mono HO_0.out (fun k_ hk => (⟨hk, hk.2.2⟩ : _ ∧ k_ ≠ gb140))) (fun _ hk => hk.2) (.string (((rd_T26 l0 x4_1).f2).extract 0 ((ji5) : Int).toNat))) (fun _ hk => ⟨hk.1.1, ⟨hk.1.2.1, hk.1.2.2⟩⟩)))⟩; have n1_ : Aside0 (Kd.N k26 26 w13 w.heap.size (fun k_ => (P0_ k_ ∨ w.heap.size ≤ k_) ∧ k_ ≠ gb140) u3 x3_1) := ⟨(by rw [hw]; exact (by (with_reducible repeat (first | apply Kd.N_alloc | apply Kd.N_drewN | apply Kd.N_drew)); exact Kd.N_mono (Kd.N_far (p := ⟨gb140, 2, none⟩) (Kd.N_mono HO_3.out (fun k_ hk => (⟨hk, hk.2⟩ : _ ∧ k_ ≠ gb140))) (fun _ hk => hk.2) (.string (((rd_T26 l0 x4_1).f2).extract 0 ((ji5) : Int).toNat))) (fun _ hk => ⟨hk.1.1, hk.1.2⟩)))⟩; have n2_ : Aside0 (Kd.V (Kd.int .i64) 3 w13 w.heap.size (fun k_ => (P0_ k_ ∨ w.heap.size ≤ k_) ∧ some k_ ≠ (u3 : Value).ownBlock ∧ k_ ≠ gb140) (.slice A139_6 ((rd_T26 l0 x4_1).f5.f1).length c139_6) ((rd_T26 l0 x4_1).f5.f1)) := ⟨(by rw [hw]; exact (by (with_reducible repeat (first | apply Kd.V_alloc | apply Kd.V_drewN | apply Kd.V_drew)); exact Kd.V_mono (Kd.V_far (p := ⟨gb140, 2, none⟩) (Kd.V_mono HL139_6.out (fun k_ hk => (⟨hk, hk.2.2⟩ : _ ∧ k_ ≠ gb140))) (fun _ hk => hk.2) (.string (((rd_T26 l0 x4_1).f2).extract 0 ((ji5) : Int).toNat))) (fun _ hk => ⟨hk.1.1, ⟨hk.1.2.1, hk.1.2.2⟩⟩)))⟩; have n3_ : Aside0 (w13.heap[gb140]? = some (.cells #[.int .i64 ((rd_T26 l0 x4_1).f0), .int .i64 ((rd_T26 l0 x4_1).f1), .string (((rd_T26 l0 x4_1).f2).extract 0 ((ji5) : Int).toNat), .int .i64 ((rd_T26 l0 x4_1).f3), .int .i64 ((rd_T26 l0 x4_1).f4), .int .i64 ((rd_T26 l0 x4_1).f5.f0), .slice A139_6 ((rd_T26 l0 x4_1).f5.f1).length c139_6, .int .i64 ((rd_T26 l0 x4_1).f5.f2), .int .i64 ((rd_T26 l0 x4_1).f5.f3)] 26 (0, 0))) := ⟨(by rw [hw]; exact (by (with_reducible repeat (first | refine blk_drewN ?_ _ | refine blk_drew ?_ | refine blk_alloc ?_ _)); refine blk_put (cs := #[.int .i64 ((rd_T26 l0 x4_1).f0), .int .i64 ((rd_T26 l0 x4_1).f1), .string ((rd_T26 l0 x4_1).f2), .int .i64 ((rd_T26 l0 x4_1).f3), .int .i64 ((rd_T26 l0 x4_1).f4), .int .i64 ((rd_T26 l0 x4_1).f5.f0), .slice A139_6 ((rd_T26 l0 x4_1).f5.f1).length c139_6, .int .i64 ((rd_T26 l0 x4_1).f5.f2), .int .i64 ((rd_T26 l0 x4_1).f5.f3)]) ?_ 2 _ rfl; (with_reducible repeat (first | refine blk_drewN ?_ _ | refine blk_drew ?_ | refine blk_alloc ?_ _)); exact BK140.out))⟩; have n4_ : Aside0 (Below w.heap.size w w13) := ⟨(by rw [hw]; exact (by repeat (first | (with_reducible first | exact HB.out | apply below_alloc | apply pw_below_drewN | apply below_drew1 | refine below_set ?_ GE140.out) | exact HB.out)))⟩; clear hw; clear HO_0; clear HO_3; clear HL139_6; clear BK140; clear HB; have HO_0 := n0_; have HO_3 := n1_; have HL139_6 := n2_; have BK140 := n3_; have HB := n4_; clear n0_ n1_ n2_ n3_ n4_; have hcz14_0 : w13.cell? ⟨gb140, 0, none⟩ = some (.int .i64 ((rd_T26 l0 x4_1).f0)) := (blk_cell BK140.out 0).trans rfl; have hcz14_1 : w13.cell? ⟨gb140, 1, none⟩ = some (.int .i64 ((rd_T26 l0 x4_1).f1)) := (blk_cell BK140.out 1).trans rfl; have hcz14_2 : w13.cell? ⟨gb140, 2, none⟩ = some (.string (((rd_T26 l0 x4_1).f2).extract 0 ((ji5) : Int).toNat)) := (blk_cell BK140.out 2).trans rfl; have hcz14_3 : w13.cell? ⟨gb140, 3, none⟩ = some (.int .i64 ((rd_T26 l0 x4_1).f3)) := (blk_cell BK140.out 3).trans rfl; have hcz14_4 : w13.cell? ⟨gb140, 4, none⟩ = some (.int .i64 ((rd_T26 l0 x4_1).f4)) := (blk_cell BK140.out 4).trans rfl; have hcz14_5 : w13.cell? ⟨gb140, 5, none⟩ = some (.int .i64 ((rd_T26 l0 x4_1).f5.f0)) := (blk_cell BK140.out 5).trans rfl; have hcz14_6 : w13.cell? ⟨gb140, 6, none⟩ = some (.slice A139_6 ((rd_T26 l0 x4_1).f5.f1).length c139_6) := (blk_cell BK140.out 6).trans rfl; have hcz14_7 : w13.cell? ⟨gb140, 7, none⟩ = some (.int .i64 ((rd_T26 l0 x4_1).f5.f2)) := (blk_cell BK140.out 7).trans rfl; have hcz14_8 : w13.cell? ⟨gb140, 8, none⟩ = some (.int .i64 ((rd_T26 l0 x4_1).f5.f3)) := (blk_cell BK140.out 8).trans rfl; have hfz14_0 := blk_frozen BK140.out 0; have hfz14_1 := blk_frozen BK140.out 1; have hfz14_2 := blk_frozen BK140.out 2; have hfz14_3 := blk_frozen BK140.out 3; have hfz14_4 := blk_frozen BK140.out 4; have hfz14_5 := blk_frozen BK140.out 5; have hfz14_6 := blk_frozen BK140.out 6; have hfz14_7 := blk_frozen BK140.out 7; have hfz14_8 := blk_frozen BK140.out 8) | ((with_reducible refine gate_builtin (b := .append) (xs := #[.tmp 28, .tmp 30]) rfl ?_); at_builtin; refine Kd.N_append k26 (w0 := w) w.heap.size rfl (.tmp 28) (.tmp 30) 27 26 (.agg #[(.int .i64 0), (.int .i64 0), (.string ⟨#[]⟩), (.int .i64 0), (.int .i64 0), (.int .i64 0), (.slice none 0 0), (.int .i64 0), (.int .i64 0)]) 96 rfl Tryd.underlying27 info26 rfl (by decide) (by omega) u3 x3_1 (⟨(rd_T26 l0 x4_1).f0, (rd_T26 l0 x4_1).f1, ((rd_T26 l0 x4_1).f2).extract 0 ((ji5) : Int).toNat, (rd_T26 l0 x4_1).f3, (rd_T26 l0 x4_1).f4, (⟨(rd_T26 l0 x4_1).f5.f0, (rd_T26 l0 x4_1).f5.f1, (rd_T26 l0 x4_1).f5.f2, (rd_T26 l0 x4_1).f5.f3⟩ : S24)⟩ : S26) [.int .i64 ((rd_T26 l0 x4_1).f0), .int .i64 ((rd_T26 l0 x4_1).f1), .string (((rd_T26 l0 x4_1).f2).extract 0 ((ji5) : Int).toNat), .int .i64 ((rd_T26 l0 x4_1).f3), .int .i64 ((rd_T26 l0 x4_1).f4), .int .i64 ((rd_T26 l0 x4_1).f5.f0), .slice A139_6 ((rd_T26 l0 x4_1).f5.f1).length c139_6, .int .i64 ((rd_T26 l0 x4_1).f5.f2), .int .i64 ((rd_T26 l0 x4_1).f5.f3)] (fun k_ => (P0_ k_ ∨ w.heap.size ≤ k_) ∧ k_ ≠ gb140) (fun k_ => ((fun k_ => (P0_ k_ ∨ w.heap.size ≤ k_) ∧ k_ ≠ gb140)) k_ ∧ some k_ ≠ (u3 : Value).ownBlock) rfl rfl ?aP (fun _ hk => hk) ?aF ?aO ?aB ?aS ?aL ?_; (case aP => exact (k26_mkF _ _ (⟨(rd_T26 l0 x4_1).f0, (rd_T26 l0 x4_1).f1, ((rd_T26 l0 x4_1).f2).extract 0 ((ji5) : Int).toNat, (rd_T26 l0 x4_1).f3, (rd_T26 l0 x4_1).f4, (⟨(rd_T26 l0 x4_1).f5.f0, (rd_T26 l0 x4_1).f5.f1, (rd_T26 l0 x4_1).f5.f2, (rd_T26 l0 x4_1).f5.f3⟩ : S24)⟩ : S26) (Kd.V_reads' (Kd.V_mono (ok' := (fun k_ => ((fun k_ => (P0_ k_ ∨ w.heap.size ≤ k_) ∧ k_ ≠ gb140)) k_ ∧ some k_ ≠ (u3 : Value).ownBlock)) (HL139_6.out) (fun k_ hk => ⟨⟨hk.1, hk.2.2⟩, hk.2.1⟩))).2.1 (Kd.V_F (Kd.V_mono (ok' := (fun k_ => ((fun k_ => (P0_ k_ ∨ w.heap.size ≤ k_) ∧ k_ ≠ gb140)) k_ ∧ some k_ ≠ (u3 : Value).ownBlock)) (HL139_6.out) (fun k_ hk => ⟨⟨hk.1, hk.2.2⟩, hk.2.1⟩))))); (case aB => exact (by repeat (first | (with_reducible first | exact HB.out | apply below_alloc | apply pw_below_drewN | apply below_drew1 | refine below_set ?_ GE140.out) | exact HB.out))); (case aF => exact (fun k_ hk => ⟨(.inr (Nat.le_trans (below_size (by repeat (first | (with_reducible first | exact HB.out | apply below_alloc | apply pw_below_drewN | apply below_drew1 | refine below_set ?_ GE140.out) | exact HB.out))) hk)), Kd.freshB (g := gb140) (o := .cells #[.int .i64 ((rd_T26 l0 x4_1).f0), .int .i64 ((rd_T26 l0 x4_1).f1), .string (((rd_T26 l0 x4_1).f2).extract 0 ((ji5) : Int).toNat), .int .i64 ((rd_T26 l0 x4_1).f3), .int .i64 ((rd_T26 l0 x4_1).f4), .int .i64 ((rd_T26 l0 x4_1).f5.f0), .slice A139_6 ((rd_T26 l0 x4_1).f5.f1).length c139_6, .int .i64 ((rd_T26 l0 x4_1).f5.f2), .int .i64 ((rd_T26 l0 x4_1).f5.f3)] 26 (0, 0)) (by (with_reducible repeat (first | refine blk_drewN ?_ _ | refine blk_drew ?_ | refine blk_alloc ?_ _)); exact BK140.out) k_ hk⟩)); (case aO => exact (by (with_reducible repeat (first | apply Kd.N_alloc | apply Kd.N_drewN | apply Kd.N_drew)); exact HO_3.out)); (case aS => exact (below_size (by repeat (first | (with_reducible first | exact HB.out | apply below_alloc | apply pw_below_drewN | apply below_drew1 | refine below_set ?_ GE140.out) | exact HB.out)))); (case aL => have := LMc8.out; omega); intro v142 w15 ho hb hg hat; rw [← Ny141.out] at ho; have n0_ := Aside0.mk (Kd.V_afterv (ok := (fun k_ => (P0_ k_ ∨ w.heap.size ≤ k_) ∧ k_ ≠ gb140)) (by (with_reducible repeat (first | apply Kd.V_alloc | apply Kd.V_drewN | apply Kd.V_drew)); exact Kd.V_mono HO_0.out (fun _ hk => ⟨⟨hk.1, hk.2.2⟩, hk.2.1⟩)) hg hat); have n1_ := Aside0.mk (Kd.V_afterv (ok := (fun k_ => (P0_ k_ ∨ w.heap.size ≤ k_) ∧ k_ ≠ gb140)) (by (with_reducible repeat (first | apply Kd.V_alloc | apply Kd.V_drewN | apply Kd.V_drew)); exact Kd.V_mono HL139_6.out (fun _ hk => ⟨⟨hk.1, hk.2.2⟩, hk.2.1⟩)) hg hat); have n2_ := Aside0.mk (blk_grown (g := gb140) (o := .cells #[.int .i64 ((rd_T26 l0 x4_1).f0), .int .i64 ((rd_T26 l0 x4_1).f1), .string (((rd_T26 l0 x4_1).f2).extract 0 ((ji5) : Int).toNat), .int .i64 ((rd_T26 l0 x4_1).f3), .int .i64 ((rd_T26 l0 x4_1).f4), .int .i64 ((rd_T26 l0 x4_1).f5.f0), .slice A139_6 ((rd_T26 l0 x4_1).f5.f1).length c139_6, .int .i64 ((rd_T26 l0 x4_1).f5.f2), .int .i64 ((rd_T26 l0 x4_1).f5.f3)] 26 (0, 0)) (by (with_reducible repeat (first | refine blk_drewN ?_ _ | refine blk_drew ?_ | refine blk_alloc ?_ _)); exact BK140.out) hg (Kd.N_away HO_3.out (fun _ hk => hk.2))); have n3_ := Aside0.mk (hb); have n4_ := Aside0.mk (ho); clear HO_0; clear HL139_6; clear BK140; clear HB; clear HO_3; have HO_0 := n0_; have HL139_6 := n1_; have BK140 := n2_; have HB := n3_; have HO143 := n4_; clear n0_ n1_ n2_ n3_ n4_; clear ho hb hg hat))
                  go_roundg k1
                  case measure => have := HK1.out; omega
                  case rel => exact ⟨(y141), (wrap64 (x4_1 + 1)), (by first | rfl | (simp; done) | (simp [*]; done)), H', ⟨by have := HK1.out; omega⟩, ⟨by (with_reducible repeat (first | apply Kd.V_alloc | apply Kd.V_drewN | apply Kd.V_drew)); exact Kd.V_mono HO_0.out (fun _ hk => ⟨hk.1.1, hk.2⟩)⟩, ⟨by (with_reducible repeat (first | apply Kd.N_alloc | apply Kd.N_drewN | apply Kd.N_drew)); exact Kd.N_mono HO143.out (fun _ hk => hk.1)⟩, ⟨by repeat (first | (with_reducible first | exact HB.out | apply below_alloc | apply pw_below_drewN | apply below_drew1 | refine below_set ?_ GE140.out) | exact HB.out)⟩⟩
                · rw [if_neg c8] at H
                  exact absurd H (by simp)
              · rw [if_neg c7] at H
                exact absurd H (by simp)
            · rw [if_neg c6] at H
              exact absurd H (by simp)
          · rw [if_neg c4] at H
            exact absurd H (by simp)
        · rw [if_neg c3] at H
          have c3b0 : decide (x4_1 < 30) = false := decide_eq_false c3
          clear c3
          obtain rfl := Option.some.inj H
          go_wp2
          go_ret
          exact ⟨_, by first | rfl | (simp [errW_none, errW_some] <;> rfl) | (simp [*, errW_none, errW_some] <;> rfl), by (with_reducible repeat (first | apply Kd.N_alloc | apply Kd.N_drewN | apply Kd.N_drew)); exact HO_3.out, by repeat (first | (with_reducible first | exact HB.out | apply below_alloc | apply pw_below_drewN | apply below_drew1) | exact HB.out)⟩
      · rw [if_neg c2] at H
        have c2b0 : decide (x4_1 < (l0.length : Int)) = false := decide_eq_false c2
        clear c2
        obtain rfl := Option.some.inj H
        go_wp2
        go_ret
        exact ⟨_, by first | rfl | (simp [errW_none, errW_some] <;> rfl) | (simp [*, errW_none, errW_some] <;> rfl), by (with_reducible repeat (first | apply Kd.N_alloc | apply Kd.N_drewN | apply Kd.N_drew)); exact HO_3.out, by repeat (first | (with_reducible first | exact HB.out | apply below_alloc | apply pw_below_drewN | apply below_drew1) | exact HB.out)⟩
end Go.Proofs.YtpgjhjlhipikgaaDoor.PK
end
section
namespace Go.Proofs.YtpgjhjlhipikgaaDoor.PK
open Go.RowKit Go.Proofs.YtpgjhjlhipikgaaDoorW.PrintWords Go.Proofs.YtpgjhjlhipikgaaDoorW.PrintLast Go.Proofs.YtpgjhjlhipikgaaDoorW.PrintMore
attribute [local go_sem] max2_int min2_int max_two min_two max_three min_three max_four min_four   -- for this text's walks alone
set_option linter.unusedVariables false
set_option linter.unusedSimpArgs false
def copydeskref03_IsText.l0 : Nat → ByteArray → Int → Option (Bool)
  | 0, _, _ => none
  | k + 1, x0, x3 => if x3 < (x0.size : Int) then (if 0 ≤ x3 then (if (bt x0 x3) < 32 then (some false) else (if (bt x0 x3) > 126 then (some false) else (copydeskref03_IsText.l0 k x0 (wrap64 (x3 + 1))))) else (none)) else (some (decide ((x0.size : Int) ≤ 300)))
def copydeskref03_IsText.f (k : Nat) (a0 : ByteArray) : Option (Bool) := copydeskref03_IsText.l0 k a0 0
theorem copydeskref03_IsText.mono_l : ∀ k, (∀ y0 y1, LeO (copydeskref03_IsText.l0 k y0 y1) (copydeskref03_IsText.l0 (k + 1) y0 y1))
  | 0 => fun _ _ r h => by simp [copydeskref03_IsText.l0] at h
  | k + 1 => by
    have ih0 := copydeskref03_IsText.mono_l k
    · intro y0 y1
      unfold copydeskref03_IsText.l0
      repeat' first
      | (with_reducible exact ih0 _ _)
      | (with_reducible exact LeO.refl _)
      | (with_reducible exact LeO.none _)
      | (with_reducible refine LeO.ite ?_ ?_)
      | (with_reducible refine LeO.bind ?_ (fun _ => ?_))
      | exact ih0 _ _
      | exact LeO.none _
      | refine LeO.ite ?_ ?_
      | refine LeO.bind ?_ (fun _ => ?_)
theorem copydeskref03_IsText.mono : ∀ a0 k, LeO (copydeskref03_IsText.f k a0) (copydeskref03_IsText.f (k + 1) a0) := by
  intro a0 k
  have ih0 := copydeskref03_IsText.mono_l k
  unfold copydeskref03_IsText.f
  repeat' first
      | (with_reducible exact ih0 _ _)
      | (with_reducible exact LeO.refl _)
      | (with_reducible exact LeO.none _)
      | (with_reducible refine LeO.ite ?_ ?_)
      | (with_reducible refine LeO.bind ?_ (fun _ => ?_))
      | exact ih0 _ _
      | exact LeO.none _
      | refine LeO.ite ?_ ?_
      | refine LeO.bind ?_ (fun _ => ?_)
set_option maxHeartbeats 8000000 in
set_option maxRecDepth 100000 in
theorem copydeskref03_IsText.calls (k : Nat) (a0 : ByteArray) (r : Bool) (w : World) (h : copydeskref03_IsText.f k a0 = some r) :
    Calls Tryd.prog 44 #[.string a0] w fun e w' => e = .returned (.bool r) ∧ Drawn0 w w' := by
  have H : (copydeskref03_IsText.l0 k a0 0) = some r := h
  clear h
  have H' := Aside0.mk H
  clear H
  go_enter Tryd.func44, Tryd.ntmps44
  go_wp2
  go_loopg [3] k (fun kq v3 w' => ∃ (x3_1 : Int), v3 = .int .i64 x3_1 ∧ Aside0 (copydeskref03_IsText.l0 kq a0 x3_1 = some r) ∧ Aside0 (kq ≤ k) ∧ Drawn0 w w')
  case atStart => exact ⟨(0), (by first | rfl | (simp; done) | (simp [*]; done)), H', ⟨Nat.le_refl _⟩, by repeat (first | exact Drawn0.refl _ | apply Drawn0.step)⟩
  case round =>
    clear H'
    obtain ⟨x3_1, rfl, HA, HK1, ⟨m1, rfl⟩⟩ := hrel
    cases gk with
    | zero => exact absurd HA.out (by simp [copydeskref03_IsText.l0])
    | succ k1 =>
      have H := HA.out
      clear HA
      simp only [copydeskref03_IsText.l0] at H
      by_cases c2 : x3_1 < (a0.size : Int)
      · rw [if_pos c2] at H
        have c2b0 : decide (x3_1 < (a0.size : Int)) = true := decide_eq_true c2
        clear c2
        by_cases c3 : 0 ≤ x3_1
        · rw [if_pos c3] at H
          have c3b0 : decide (0 ≤ x3_1) = true := decide_eq_true c3
          clear c3
          by_cases c5 : (bt a0 x3_1) < 32
          · rw [if_pos c5] at H
            have c5b0 : decide ((bt a0 x3_1) < 32) = true := decide_eq_true c5
            clear c5
            obtain rfl := Option.some.inj H
            have p4 : 0 ≤ (x3_1 : Int) := of_decide_eq_true (by first | (with_reducible assumption) | assumption)
            have q4 : x3_1 < (a0.size : Int) := of_decide_eq_true (by first | (with_reducible assumption) | assumption)
            have hx4 := bt_at a0 x3_1
            replace p4 := eq_true p4
            replace q4 := eq_true q4
            go_wp2
            go_ret
            exact ⟨by first | rfl | (simp; done) | (simp [*]; done), by repeat (first | exact Drawn0.refl _ | apply Drawn0.step)⟩
          · rw [if_neg c5] at H
            have c5b0 : decide ((bt a0 x3_1) < 32) = false := decide_eq_false c5
            clear c5
            by_cases c7 : (bt a0 x3_1) > 126
            · rw [if_pos c7] at H
              have c7b0 : decide (126 < (bt a0 x3_1)) = true := decide_eq_true c7
              clear c7
              obtain rfl := Option.some.inj H
              have p4 : 0 ≤ (x3_1 : Int) := of_decide_eq_true (by first | (with_reducible assumption) | assumption)
              have q4 : x3_1 < (a0.size : Int) := of_decide_eq_true (by first | (with_reducible assumption) | assumption)
              have hx4 := bt_at a0 x3_1
              replace p4 := eq_true p4
              replace q4 := eq_true q4
              have p6 : 0 ≤ (x3_1 : Int) := of_decide_eq_true (by first | (with_reducible assumption) | assumption)
              have q6 : x3_1 < (a0.size : Int) := of_decide_eq_true (by first | (with_reducible assumption) | assumption)
              have hx6 := bt_at a0 x3_1
              replace p6 := eq_true p6
              replace q6 := eq_true q6
              go_wp2
              go_ret
              exact ⟨by first | rfl | (simp; done) | (simp [*]; done), by repeat (first | exact Drawn0.refl _ | apply Drawn0.step)⟩
            · rw [if_neg c7] at H
              have c7b0 : decide (126 < (bt a0 x3_1)) = false := decide_eq_false c7
              clear c7
              have H' := Aside0.mk H
              clear H
              have p4 : 0 ≤ (x3_1 : Int) := of_decide_eq_true (by first | (with_reducible assumption) | assumption)
              have q4 : x3_1 < (a0.size : Int) := of_decide_eq_true (by first | (with_reducible assumption) | assumption)
              have hx4 := bt_at a0 x3_1
              replace p4 := eq_true p4
              replace q4 := eq_true q4
              have p6 : 0 ≤ (x3_1 : Int) := of_decide_eq_true (by first | (with_reducible assumption) | assumption)
              have q6 : x3_1 < (a0.size : Int) := of_decide_eq_true (by first | (with_reducible assumption) | assumption)
              have hx6 := bt_at a0 x3_1
              replace p6 := eq_true p6
              replace q6 := eq_true q6
              go_wp2
              go_roundg k1
              case measure => have := HK1.out; omega
              case rel => exact ⟨(wrap64 (x3_1 + 1)), (by first | rfl | (simp; done) | (simp [*]; done)), H', ⟨by have := HK1.out; omega⟩, by repeat (first | exact Drawn0.refl _ | apply Drawn0.step)⟩
        · rw [if_neg c3] at H
          exact absurd H (by simp)
      · rw [if_neg c2] at H
        have c2b0 : decide (x3_1 < (a0.size : Int)) = false := decide_eq_false c2
        clear c2
        obtain rfl := Option.some.inj H
        go_wp2
        go_ret
        exact ⟨by first | rfl | (simp; done) | (simp [*]; done), by repeat (first | exact Drawn0.refl _ | apply Drawn0.step)⟩
end Go.Proofs.YtpgjhjlhipikgaaDoor.PK
end
section
namespace Go.Proofs.YtpgjhjlhipikgaaDoor.PK
open Go.RowKit Go.Proofs.YtpgjhjlhipikgaaDoorW.PrintWords Go.Proofs.YtpgjhjlhipikgaaDoorW.PrintLast Go.Proofs.YtpgjhjlhipikgaaDoorW.PrintMore
attribute [local go_sem] max2_int min2_int max_two min_two max_three min_three max_four min_four   -- for this text's walks alone
set_option linter.unusedVariables false
set_option linter.unusedSimpArgs false
mutual
def copydeskref02_Valid.j0 : Nat → Bool → Int → List Int → Int → Int → Option (Bool)
  | 0, _, _, _, _, _ => none
  | k + 1, x32, x145000, x145001, x145002, x145003 => if x32 = true then (some false) else (copydeskref02_Valid.l0 k 0 0 x145000 x145001 x145002 x145003)
def copydeskref02_Valid.l0 : Nat → Int → Int → Int → List Int → Int → Int → Option (Bool)
  | 0, _, _, _, _, _, _ => none
  | k + 1, x3, x4, x145000, x145001, x145002, x145003 => if x4 < (x145001.length : Int) then (if 0 ≤ x4 then (if (rd x145001 x4) ≤ x3 then (some false) else (if (rd x145001 x4) > 64 then (some false) else (copydeskref02_Valid.l0 k (rd x145001 x4) (wrap64 (x4 + 1)) x145000 x145001 x145002 x145003))) else (none)) else (some true)
end
def copydeskref02_Valid.f (k : Nat) (a0_0 : Int) (l0_1 : List Int) (a0_2 : Int) (a0_3 : Int) : Option (Bool) := if a0_0 < 0 then (copydeskref02_Valid.j0 k true a0_0 l0_1 a0_2 a0_3) else (if a0_0 > 1000000000 then (copydeskref02_Valid.j0 k true a0_0 l0_1 a0_2 a0_3) else (if a0_2 < 0 then (copydeskref02_Valid.j0 k true a0_0 l0_1 a0_2 a0_3) else (if a0_2 > 5 then (copydeskref02_Valid.j0 k true a0_0 l0_1 a0_2 a0_3) else (if a0_3 < 0 then (copydeskref02_Valid.j0 k true a0_0 l0_1 a0_2 a0_3) else (copydeskref02_Valid.j0 k (decide (a0_3 > 15)) a0_0 l0_1 a0_2 a0_3)))))
theorem copydeskref02_Valid.mono_l : ∀ k, (∀ y0 y1 y2 y3 y4, LeO (copydeskref02_Valid.j0 k y0 y1 y2 y3 y4) (copydeskref02_Valid.j0 (k + 1) y0 y1 y2 y3 y4)) ∧ (∀ y0 y1 y2 y3 y4 y5, LeO (copydeskref02_Valid.l0 k y0 y1 y2 y3 y4 y5) (copydeskref02_Valid.l0 (k + 1) y0 y1 y2 y3 y4 y5))
  | 0 => ⟨fun _ _ _ _ _ r h => by simp [copydeskref02_Valid.j0] at h, fun _ _ _ _ _ _ r h => by simp [copydeskref02_Valid.l0] at h⟩
  | k + 1 => by
    obtain ⟨ih0, ih1⟩ := copydeskref02_Valid.mono_l k
    refine ⟨?_, ?_⟩
    · intro y0 y1 y2 y3 y4
      unfold copydeskref02_Valid.j0
      repeat' first
      | (with_reducible exact ih0 _ _ _ _ _)
      | (with_reducible exact ih1 _ _ _ _ _ _)
      | (with_reducible exact LeO.refl _)
      | (with_reducible exact LeO.none _)
      | (with_reducible refine LeO.ite ?_ ?_)
      | (with_reducible refine LeO.bind ?_ (fun _ => ?_))
      | exact ih0 _ _ _ _ _
      | exact ih1 _ _ _ _ _ _
      | exact LeO.none _
      | refine LeO.ite ?_ ?_
      | refine LeO.bind ?_ (fun _ => ?_)
    · intro y0 y1 y2 y3 y4 y5
      unfold copydeskref02_Valid.l0
      repeat' first
      | (with_reducible exact ih0 _ _ _ _ _)
      | (with_reducible exact ih1 _ _ _ _ _ _)
      | (with_reducible exact LeO.refl _)
      | (with_reducible exact LeO.none _)
      | (with_reducible refine LeO.ite ?_ ?_)
      | (with_reducible refine LeO.bind ?_ (fun _ => ?_))
      | exact ih0 _ _ _ _ _
      | exact ih1 _ _ _ _ _ _
      | exact LeO.none _
      | refine LeO.ite ?_ ?_
      | refine LeO.bind ?_ (fun _ => ?_)
theorem copydeskref02_Valid.mono : ∀ a0 a1 a2 a3 k, LeO (copydeskref02_Valid.f k a0 a1 a2 a3) (copydeskref02_Valid.f (k + 1) a0 a1 a2 a3) := by
  intro a0 a1 a2 a3 k
  obtain ⟨ih0, ih1⟩ := copydeskref02_Valid.mono_l k
  unfold copydeskref02_Valid.f
  repeat' first
      | (with_reducible exact ih0 _ _ _ _ _)
      | (with_reducible exact ih1 _ _ _ _ _ _)
      | (with_reducible exact LeO.refl _)
      | (with_reducible exact LeO.none _)
      | (with_reducible refine LeO.ite ?_ ?_)
      | (with_reducible refine LeO.bind ?_ (fun _ => ?_))
      | exact ih0 _ _ _ _ _
      | exact ih1 _ _ _ _ _ _
      | exact LeO.none _
      | refine LeO.ite ?_ ?_
      | refine LeO.bind ?_ (fun _ => ?_)
set_option maxHeartbeats 8000000 in
set_option maxRecDepth 100000 in
theorem copydeskref02_Valid.calls (k : Nat) (a0_0 : Int) (A0_1 : Option Addr) (c0_1 : Nat) (l0_1 : List Int) (a0_2 : Int) (a0_3 : Int) (r : Bool) (w : World) (hr0_1 : Kd.C (Kd.int .i64) w A0_1 l0_1.length l0_1) (hc0_1 : l0_1.length ≤ c0_1) (h : copydeskref02_Valid.f k a0_0 l0_1 a0_2 a0_3 = some r) :
    Calls Tryd.prog 45 #[.agg #[.int .i64 a0_0, .slice A0_1 l0_1.length c0_1, .int .i64 a0_2, .int .i64 a0_3]] w fun e w' => e = .returned (.bool r) ∧ Below w.heap.size w w' := by
  have hu24 := Tryd.underlying24
  have HR0_1 := Aside0.mk hr0_1
  have HC0_1 := Aside0.mk hc0_1
  clear hr0_1 hc0_1
  have HB := Aside0.mk (Below.refl w.heap.size w)
  have H : (if a0_0 < 0 then (copydeskref02_Valid.j0 k true a0_0 l0_1 a0_2 a0_3) else (if a0_0 > 1000000000 then (copydeskref02_Valid.j0 k true a0_0 l0_1 a0_2 a0_3) else (if a0_2 < 0 then (copydeskref02_Valid.j0 k true a0_0 l0_1 a0_2 a0_3) else (if a0_2 > 5 then (copydeskref02_Valid.j0 k true a0_0 l0_1 a0_2 a0_3) else (if a0_3 < 0 then (copydeskref02_Valid.j0 k true a0_0 l0_1 a0_2 a0_3) else (copydeskref02_Valid.j0 k (decide (a0_3 > 15)) a0_0 l0_1 a0_2 a0_3)))))) = some r := h
  clear h
  have HC2 := Aside0.mk H
  clear H
  go_enter Tryd.func45, Tryd.ntmps45
  go_upto_region 1 with (first | ((with_reducible refine gate_dst (N := 1) rfl ?_); refine box_event ?hg (N := 1) ?hd (cs := #[.int .i64 a0_0, .slice A0_1 l0_1.length c0_1, .int .i64 a0_2, .int .i64 a0_3]) (t := 24) ?hr ?_; (case hd => rfl); (case hg => rfl); (case hr => first | (go_simp; done) | (go_simp; rfl)); intro gb144 hg w3 hbox hb; have n0_ := Aside0.mk (below_step (by repeat (first | (with_reducible first | exact HB.out | apply below_alloc | apply pw_below_drewN | apply below_drew1) | exact HB.out)) hb); have n1_ := Aside0.mk (hbox); have n2_ := Aside0.mk ((by rw [hg]; exact (below_size (by repeat (first | (with_reducible first | exact HB.out | apply below_alloc | apply pw_below_drewN | apply below_drew1) | exact HB.out))) : w.heap.size ≤ gb144)); have n3_ := Aside0.mk ((by rw [hg]; exact (below_size (by repeat (first | (with_reducible first | exact HB.out | apply below_alloc | apply pw_below_drewN | apply below_drew1) | exact HB.out))) : w.heap.size ≤ gb144)); clear HB; have HB := n0_; have BK144 := n1_; have GW144 := n2_; have GE144 := n3_; clear n0_ n1_ n2_ n3_; clear hb hbox hg))
  (try simp only [Act.put, List.setIfInBounds_toArray, List.set_cons_zero, List.set_cons_succ])
  go_cut [32] (fun v32 wc => ∃ (kq : Nat) (x32_1 : Bool), v32 = .bool x32_1 ∧ Aside0 (copydeskref02_Valid.j0 kq x32_1 a0_0 l0_1 a0_2 a0_3 = some r) ∧ Aside0 (kq ≤ k) ∧ Aside0 (wc.heap[gb144]? = some (.cells #[.int .i64 a0_0, (.slice A0_1 l0_1.length c0_1), .int .i64 a0_2, .int .i64 a0_3] 24 (0, 0))) ∧ Aside0 (Below w.heap.size w wc))
  case first =>
    have H := HC2.out
    clear HC2
    by_cases c4 : a0_0 < 0
    · rw [if_pos c4] at H
      have c4b0 : decide (a0_0 < 0) = true := decide_eq_true c4
      clear c4
      (first | rw [c4b0] | (simp only [i64_w, i32_w]; rw [c4b0]) | skip)
      have H' := Aside0.mk H
      clear H
      have hcz5_0 : w3.cell? ⟨gb144, 0, none⟩ = some (.int .i64 a0_0) := (blk_cell BK144.out 0).trans rfl
      have hcz5_1 : w3.cell? ⟨gb144, 1, none⟩ = some (.slice A0_1 l0_1.length c0_1) := (blk_cell BK144.out 1).trans rfl
      have hcz5_2 : w3.cell? ⟨gb144, 2, none⟩ = some (.int .i64 a0_2) := (blk_cell BK144.out 2).trans rfl
      have hcz5_3 : w3.cell? ⟨gb144, 3, none⟩ = some (.int .i64 a0_3) := (blk_cell BK144.out 3).trans rfl
      have hfz5_0 := blk_frozen BK144.out 0
      have hfz5_1 := blk_frozen BK144.out 1
      have hfz5_2 := blk_frozen BK144.out 2
      have hfz5_3 := blk_frozen BK144.out 3
      go_wp2
      go_meet
      case rel => exact ⟨_, (true), (by first | rfl | (simp; done) | (simp [*]; done)), H', ⟨by first | omega | exact Nat.le_refl _⟩, ⟨by (with_reducible repeat (first | refine blk_drewN ?_ _ | refine blk_drew ?_ | refine blk_alloc ?_ _)); exact BK144.out⟩, ⟨by repeat (first | (with_reducible first | exact HB.out | apply below_alloc | apply pw_below_drewN | apply below_drew1 | refine below_set ?_ GE144.out) | exact HB.out)⟩⟩
    · rw [if_neg c4] at H
      have c4b0 : decide (a0_0 < 0) = false := decide_eq_false c4
      clear c4
      (first | rw [c4b0] | (simp only [i64_w, i32_w]; rw [c4b0]) | skip)
      by_cases c6 : a0_0 > 1000000000
      · rw [if_pos c6] at H
        have c6b0 : decide (1000000000 < a0_0) = true := decide_eq_true c6
        clear c6
        have H' := Aside0.mk H
        clear H
        have hcz7_0 : w3.cell? ⟨gb144, 0, none⟩ = some (.int .i64 a0_0) := (blk_cell BK144.out 0).trans rfl
        have hcz7_1 : w3.cell? ⟨gb144, 1, none⟩ = some (.slice A0_1 l0_1.length c0_1) := (blk_cell BK144.out 1).trans rfl
        have hcz7_2 : w3.cell? ⟨gb144, 2, none⟩ = some (.int .i64 a0_2) := (blk_cell BK144.out 2).trans rfl
        have hcz7_3 : w3.cell? ⟨gb144, 3, none⟩ = some (.int .i64 a0_3) := (blk_cell BK144.out 3).trans rfl
        have hfz7_0 := blk_frozen BK144.out 0
        have hfz7_1 := blk_frozen BK144.out 1
        have hfz7_2 := blk_frozen BK144.out 2
        have hfz7_3 := blk_frozen BK144.out 3
        go_wp2
        go_meet
        case rel => exact ⟨_, (true), (by first | rfl | (simp; done) | (simp [*]; done)), H', ⟨by first | omega | exact Nat.le_refl _⟩, ⟨by (with_reducible repeat (first | refine blk_drewN ?_ _ | refine blk_drew ?_ | refine blk_alloc ?_ _)); exact BK144.out⟩, ⟨by repeat (first | (with_reducible first | exact HB.out | apply below_alloc | apply pw_below_drewN | apply below_drew1 | refine below_set ?_ GE144.out) | exact HB.out)⟩⟩
      · rw [if_neg c6] at H
        have c6b0 : decide (1000000000 < a0_0) = false := decide_eq_false c6
        clear c6
        by_cases c8 : a0_2 < 0
        · rw [if_pos c8] at H
          have c8b0 : decide (a0_2 < 0) = true := decide_eq_true c8
          clear c8
          have H' := Aside0.mk H
          clear H
          have hcz9_0 : w3.cell? ⟨gb144, 0, none⟩ = some (.int .i64 a0_0) := (blk_cell BK144.out 0).trans rfl
          have hcz9_1 : w3.cell? ⟨gb144, 1, none⟩ = some (.slice A0_1 l0_1.length c0_1) := (blk_cell BK144.out 1).trans rfl
          have hcz9_2 : w3.cell? ⟨gb144, 2, none⟩ = some (.int .i64 a0_2) := (blk_cell BK144.out 2).trans rfl
          have hcz9_3 : w3.cell? ⟨gb144, 3, none⟩ = some (.int .i64 a0_3) := (blk_cell BK144.out 3).trans rfl
          have hfz9_0 := blk_frozen BK144.out 0
          have hfz9_1 := blk_frozen BK144.out 1
          have hfz9_2 := blk_frozen BK144.out 2
          have hfz9_3 := blk_frozen BK144.out 3
          go_wp2
          go_meet
          case rel => exact ⟨_, (true), (by first | rfl | (simp; done) | (simp [*]; done)), H', ⟨by first | omega | exact Nat.le_refl _⟩, ⟨by (with_reducible repeat (first | refine blk_drewN ?_ _ | refine blk_drew ?_ | refine blk_alloc ?_ _)); exact BK144.out⟩, ⟨by repeat (first | (with_reducible first | exact HB.out | apply below_alloc | apply pw_below_drewN | apply below_drew1 | refine below_set ?_ GE144.out) | exact HB.out)⟩⟩
        · rw [if_neg c8] at H
          have c8b0 : decide (a0_2 < 0) = false := decide_eq_false c8
          clear c8
          by_cases c10 : a0_2 > 5
          · rw [if_pos c10] at H
            have c10b0 : decide (5 < a0_2) = true := decide_eq_true c10
            clear c10
            have H' := Aside0.mk H
            clear H
            have hcz11_0 : w3.cell? ⟨gb144, 0, none⟩ = some (.int .i64 a0_0) := (blk_cell BK144.out 0).trans rfl
            have hcz11_1 : w3.cell? ⟨gb144, 1, none⟩ = some (.slice A0_1 l0_1.length c0_1) := (blk_cell BK144.out 1).trans rfl
            have hcz11_2 : w3.cell? ⟨gb144, 2, none⟩ = some (.int .i64 a0_2) := (blk_cell BK144.out 2).trans rfl
            have hcz11_3 : w3.cell? ⟨gb144, 3, none⟩ = some (.int .i64 a0_3) := (blk_cell BK144.out 3).trans rfl
            have hfz11_0 := blk_frozen BK144.out 0
            have hfz11_1 := blk_frozen BK144.out 1
            have hfz11_2 := blk_frozen BK144.out 2
            have hfz11_3 := blk_frozen BK144.out 3
            go_wp2
            go_meet
            case rel => exact ⟨_, (true), (by first | rfl | (simp; done) | (simp [*]; done)), H', ⟨by first | omega | exact Nat.le_refl _⟩, ⟨by (with_reducible repeat (first | refine blk_drewN ?_ _ | refine blk_drew ?_ | refine blk_alloc ?_ _)); exact BK144.out⟩, ⟨by repeat (first | (with_reducible first | exact HB.out | apply below_alloc | apply pw_below_drewN | apply below_drew1 | refine below_set ?_ GE144.out) | exact HB.out)⟩⟩
          · rw [if_neg c10] at H
            have c10b0 : decide (5 < a0_2) = false := decide_eq_false c10
            clear c10
            by_cases c12 : a0_3 < 0
            · rw [if_pos c12] at H
              have c12b0 : decide (a0_3 < 0) = true := decide_eq_true c12
              clear c12
              have H' := Aside0.mk H
              clear H
              have hcz13_0 : w3.cell? ⟨gb144, 0, none⟩ = some (.int .i64 a0_0) := (blk_cell BK144.out 0).trans rfl
              have hcz13_1 : w3.cell? ⟨gb144, 1, none⟩ = some (.slice A0_1 l0_1.length c0_1) := (blk_cell BK144.out 1).trans rfl
              have hcz13_2 : w3.cell? ⟨gb144, 2, none⟩ = some (.int .i64 a0_2) := (blk_cell BK144.out 2).trans rfl
              have hcz13_3 : w3.cell? ⟨gb144, 3, none⟩ = some (.int .i64 a0_3) := (blk_cell BK144.out 3).trans rfl
              have hfz13_0 := blk_frozen BK144.out 0
              have hfz13_1 := blk_frozen BK144.out 1
              have hfz13_2 := blk_frozen BK144.out 2
              have hfz13_3 := blk_frozen BK144.out 3
              go_wp2
              go_meet
              case rel => exact ⟨_, (true), (by first | rfl | (simp; done) | (simp [*]; done)), H', ⟨by first | omega | exact Nat.le_refl _⟩, ⟨by (with_reducible repeat (first | refine blk_drewN ?_ _ | refine blk_drew ?_ | refine blk_alloc ?_ _)); exact BK144.out⟩, ⟨by repeat (first | (with_reducible first | exact HB.out | apply below_alloc | apply pw_below_drewN | apply below_drew1 | refine below_set ?_ GE144.out) | exact HB.out)⟩⟩
            · rw [if_neg c12] at H
              have c12b0 : decide (a0_3 < 0) = false := decide_eq_false c12
              clear c12
              have H' := Aside0.mk H
              clear H
              have hcz14_0 : w3.cell? ⟨gb144, 0, none⟩ = some (.int .i64 a0_0) := (blk_cell BK144.out 0).trans rfl
              have hcz14_1 : w3.cell? ⟨gb144, 1, none⟩ = some (.slice A0_1 l0_1.length c0_1) := (blk_cell BK144.out 1).trans rfl
              have hcz14_2 : w3.cell? ⟨gb144, 2, none⟩ = some (.int .i64 a0_2) := (blk_cell BK144.out 2).trans rfl
              have hcz14_3 : w3.cell? ⟨gb144, 3, none⟩ = some (.int .i64 a0_3) := (blk_cell BK144.out 3).trans rfl
              have hfz14_0 := blk_frozen BK144.out 0
              have hfz14_1 := blk_frozen BK144.out 1
              have hfz14_2 := blk_frozen BK144.out 2
              have hfz14_3 := blk_frozen BK144.out 3
              go_wp2
              go_meet
              case rel => exact ⟨_, (decide (a0_3 > 15)), (by first | rfl | (simp; done) | (simp [*]; done)), H', ⟨by first | omega | exact Nat.le_refl _⟩, ⟨by (with_reducible repeat (first | refine blk_drewN ?_ _ | refine blk_drew ?_ | refine blk_alloc ?_ _)); exact BK144.out⟩, ⟨by repeat (first | (with_reducible first | exact HB.out | apply below_alloc | apply pw_below_drewN | apply below_drew1 | refine below_set ?_ GE144.out) | exact HB.out)⟩⟩
  case rest =>
    clear HC2
    try clear c1
    try clear p2
    try clear c4
    try clear c4b0
    try clear c6
    try clear c6b0
    try clear c8
    try clear c8b0
    try clear c10
    try clear c10b0
    try clear c12
    try clear c12b0
    try clear hcz11_0
    try clear hcz11_1
    try clear hcz11_2
    try clear hcz11_3
    try clear hcz13_0
    try clear hcz13_1
    try clear hcz13_2
    try clear hcz13_3
    try clear hcz14_0
    try clear hcz14_1
    try clear hcz14_2
    try clear hcz14_3
    try clear hcz5_0
    try clear hcz5_1
    try clear hcz5_2
    try clear hcz5_3
    try clear hcz7_0
    try clear hcz7_1
    try clear hcz7_2
    try clear hcz7_3
    try clear hcz9_0
    try clear hcz9_1
    try clear hcz9_2
    try clear hcz9_3
    try clear hfz11_0
    try clear hfz11_1
    try clear hfz11_2
    try clear hfz11_3
    try clear hfz13_0
    try clear hfz13_1
    try clear hfz13_2
    try clear hfz13_3
    try clear hfz14_0
    try clear hfz14_1
    try clear hfz14_2
    try clear hfz14_3
    try clear hfz5_0
    try clear hfz5_1
    try clear hfz5_2
    try clear hfz5_3
    try clear hfz7_0
    try clear hfz7_1
    try clear hfz7_2
    try clear hfz7_3
    try clear hfz9_0
    try clear hfz9_1
    try clear hfz9_2
    try clear hfz9_3
    obtain ⟨kq, x32_1, rfl, HA, HJ1, BK144, HB⟩ := hcut
    cases kq with
    | zero => exact absurd HA.out (by simp [copydeskref02_Valid.j0])
    | succ kj1 =>
      have H := HA.out
      clear HA
      simp only [copydeskref02_Valid.j0] at H
      by_cases c15 : x32_1 = true
      · subst c15
        have H1 : (some false) = some r := by rw [if_pos rfl] at H; exact H
        clear H
        have H := H1
        clear H1
        obtain rfl := Option.some.inj H
        go_wp2
        go_ret
        exact ⟨by first | rfl | (simp [errW_none, errW_some] <;> rfl) | (simp [*, errW_none, errW_some] <;> rfl), by repeat (first | (with_reducible first | exact HB.out | apply below_alloc | apply pw_below_drewN | apply below_drew1 | refine below_set ?_ GE144.out) | exact HB.out)⟩
      · replace c15 := Bool.eq_false_iff.mpr c15
        subst c15
        have H1 : (copydeskref02_Valid.l0 kj1 0 0 a0_0 l0_1 a0_2 a0_3) = some r := by rw [if_neg (show ¬ (false = true) by decide)] at H; exact H
        clear H
        have H := H1
        clear H1
        have H' := Aside0.mk H
        clear H
        go_wp2
        go_loopg [3, 4] kj1 (fun kq v3 v4 w' => ∃ (x3_2 : Int) (x4_2 : Int), v3 = .int .i64 x3_2 ∧ v4 = .int .i64 x4_2 ∧ Aside0 (copydeskref02_Valid.l0 kq x3_2 x4_2 a0_0 l0_1 a0_2 a0_3 = some r) ∧ Aside0 (kq ≤ kj1) ∧ Aside0 (w'.heap[gb144]? = some (.cells #[.int .i64 a0_0, (.slice A0_1 l0_1.length c0_1), .int .i64 a0_2, .int .i64 a0_3] 24 (0, 0))) ∧ Aside0 (Below w.heap.size w w'))
        case atStart => exact ⟨(0), (0), (by first | rfl | (simp; done) | (simp [*]; done)), (by first | rfl | (simp; done) | (simp [*]; done)), H', ⟨Nat.le_refl _⟩, ⟨by (with_reducible repeat (first | refine blk_drewN ?_ _ | refine blk_drew ?_ | refine blk_alloc ?_ _)); exact BK144.out⟩, ⟨by repeat (first | (with_reducible first | exact HB.out | apply below_alloc | apply pw_below_drewN | apply below_drew1 | refine below_set ?_ GE144.out) | exact HB.out)⟩⟩
        case round =>
          clear H'
          try clear c1
          try clear p2
          try clear c4
          try clear c4b0
          try clear c6
          try clear c6b0
          try clear c8
          try clear c8b0
          try clear c10
          try clear c10b0
          try clear c12
          try clear c12b0
          try clear c15
          try clear hcz11_0
          try clear hcz11_1
          try clear hcz11_2
          try clear hcz11_3
          try clear hcz13_0
          try clear hcz13_1
          try clear hcz13_2
          try clear hcz13_3
          try clear hcz14_0
          try clear hcz14_1
          try clear hcz14_2
          try clear hcz14_3
          try clear hcz5_0
          try clear hcz5_1
          try clear hcz5_2
          try clear hcz5_3
          try clear hcz7_0
          try clear hcz7_1
          try clear hcz7_2
          try clear hcz7_3
          try clear hcz9_0
          try clear hcz9_1
          try clear hcz9_2
          try clear hcz9_3
          try clear hfz11_0
          try clear hfz11_1
          try clear hfz11_2
          try clear hfz11_3
          try clear hfz13_0
          try clear hfz13_1
          try clear hfz13_2
          try clear hfz13_3
          try clear hfz14_0
          try clear hfz14_1
          try clear hfz14_2
          try clear hfz14_3
          try clear hfz5_0
          try clear hfz5_1
          try clear hfz5_2
          try clear hfz5_3
          try clear hfz7_0
          try clear hfz7_1
          try clear hfz7_2
          try clear hfz7_3
          try clear hfz9_0
          try clear hfz9_1
          try clear hfz9_2
          try clear hfz9_3
          try clear p2
          obtain ⟨x3_2, x4_2, rfl, rfl, HA, HK2, BK144, HB⟩ := hrel
          cases gk with
          | zero => exact absurd HA.out (by simp [copydeskref02_Valid.l0])
          | succ k2 =>
            have H := HA.out
            clear HA
            simp only [copydeskref02_Valid.l0] at H
            by_cases c16 : x4_2 < (l0_1.length : Int)
            · rw [if_pos c16] at H
              have c16b0 : decide (x4_2 < (l0_1.length : Int)) = true := decide_eq_true c16
              clear c16
              by_cases c17 : 0 ≤ x4_2
              · rw [if_pos c17] at H
                have c17b0 : decide (0 ≤ x4_2) = true := decide_eq_true c17
                clear c17
                by_cases c18 : (rd l0_1 x4_2) ≤ x3_2
                · rw [if_pos c18] at H
                  have c18b0 : decide ((rd l0_1 x4_2) ≤ x3_2) = true := decide_eq_true c18
                  clear c18
                  obtain rfl := Option.some.inj H
                  have hcz19_0 : wr.cell? ⟨gb144, 0, none⟩ = some (.int .i64 a0_0) := (blk_cell BK144.out 0).trans rfl
                  have hcz19_1 : wr.cell? ⟨gb144, 1, none⟩ = some (.slice A0_1 l0_1.length c0_1) := (blk_cell BK144.out 1).trans rfl
                  have hcz19_2 : wr.cell? ⟨gb144, 2, none⟩ = some (.int .i64 a0_2) := (blk_cell BK144.out 2).trans rfl
                  have hcz19_3 : wr.cell? ⟨gb144, 3, none⟩ = some (.int .i64 a0_3) := (blk_cell BK144.out 3).trans rfl
                  have hfz19_0 := blk_frozen BK144.out 0
                  have hfz19_1 := blk_frozen BK144.out 1
                  have hfz19_2 := blk_frozen BK144.out 2
                  have hfz19_3 := blk_frozen BK144.out 3
                  have p145 : 0 ≤ (x4_2 : Int) := of_decide_eq_true (by first | (with_reducible assumption) | assumption)
                  have q145 : x4_2 < (l0_1.length : Int) := of_decide_eq_true (by first | (with_reducible assumption) | assumption)
                  obtain ⟨ad145, e145, hx145_0⟩ := Kd.at_int HR0_1.out x4_2 p145 q145
                  cases e145
                  replace hx145_0 := (HB.out.cell (World.block_lt_of_cell? w _ hx145_0)).trans hx145_0
                  replace p145 := eq_true p145
                  replace q145 := eq_true q145
                  go_wp2
                  go_ret
                  exact ⟨by first | rfl | (simp [errW_none, errW_some] <;> rfl) | (simp [*, errW_none, errW_some] <;> rfl), by repeat (first | (with_reducible first | exact HB.out | apply below_alloc | apply pw_below_drewN | apply below_drew1 | refine below_set ?_ GE144.out) | exact HB.out)⟩
                · rw [if_neg c18] at H
                  have c18b0 : decide ((rd l0_1 x4_2) ≤ x3_2) = false := decide_eq_false c18
                  clear c18
                  by_cases c20 : (rd l0_1 x4_2) > 64
                  · rw [if_pos c20] at H
                    have c20b0 : decide (64 < (rd l0_1 x4_2)) = true := decide_eq_true c20
                    clear c20
                    obtain rfl := Option.some.inj H
                    have hcz21_0 : wr.cell? ⟨gb144, 0, none⟩ = some (.int .i64 a0_0) := (blk_cell BK144.out 0).trans rfl
                    have hcz21_1 : wr.cell? ⟨gb144, 1, none⟩ = some (.slice A0_1 l0_1.length c0_1) := (blk_cell BK144.out 1).trans rfl
                    have hcz21_2 : wr.cell? ⟨gb144, 2, none⟩ = some (.int .i64 a0_2) := (blk_cell BK144.out 2).trans rfl
                    have hcz21_3 : wr.cell? ⟨gb144, 3, none⟩ = some (.int .i64 a0_3) := (blk_cell BK144.out 3).trans rfl
                    have hfz21_0 := blk_frozen BK144.out 0
                    have hfz21_1 := blk_frozen BK144.out 1
                    have hfz21_2 := blk_frozen BK144.out 2
                    have hfz21_3 := blk_frozen BK144.out 3
                    have p145 : 0 ≤ (x4_2 : Int) := of_decide_eq_true (by first | (with_reducible assumption) | assumption)
                    have q145 : x4_2 < (l0_1.length : Int) := of_decide_eq_true (by first | (with_reducible assumption) | assumption)
                    obtain ⟨ad145, e145, hx145_0⟩ := Kd.at_int HR0_1.out x4_2 p145 q145
                    cases e145
                    replace hx145_0 := (HB.out.cell (World.block_lt_of_cell? w _ hx145_0)).trans hx145_0
                    replace p145 := eq_true p145
                    replace q145 := eq_true q145
                    have p146 : 0 ≤ (x4_2 : Int) := of_decide_eq_true (by first | (with_reducible assumption) | assumption)
                    have q146 : x4_2 < (l0_1.length : Int) := of_decide_eq_true (by first | (with_reducible assumption) | assumption)
                    obtain ⟨ad146, e146, hx146_0⟩ := Kd.at_int HR0_1.out x4_2 p146 q146
                    obtain rfl : ad145 = ad146 := (by injection e146)
                    replace hx146_0 := (HB.out.cell (World.block_lt_of_cell? w _ hx146_0)).trans hx146_0
                    replace p146 := eq_true p146
                    replace q146 := eq_true q146
                    go_wp2
                    go_ret
                    exact ⟨by first | rfl | (simp [errW_none, errW_some] <;> rfl) | (simp [*, errW_none, errW_some] <;> rfl), by repeat (first | (with_reducible first | exact HB.out | apply below_alloc | apply pw_below_drewN | apply below_drew1 | refine below_set ?_ GE144.out) | exact HB.out)⟩
                  · rw [if_neg c20] at H
                    have c20b0 : decide (64 < (rd l0_1 x4_2)) = false := decide_eq_false c20
                    clear c20
                    have H' := Aside0.mk H
                    clear H
                    have hcz22_0 : wr.cell? ⟨gb144, 0, none⟩ = some (.int .i64 a0_0) := (blk_cell BK144.out 0).trans rfl
                    have hcz22_1 : wr.cell? ⟨gb144, 1, none⟩ = some (.slice A0_1 l0_1.length c0_1) := (blk_cell BK144.out 1).trans rfl
                    have hcz22_2 : wr.cell? ⟨gb144, 2, none⟩ = some (.int .i64 a0_2) := (blk_cell BK144.out 2).trans rfl
                    have hcz22_3 : wr.cell? ⟨gb144, 3, none⟩ = some (.int .i64 a0_3) := (blk_cell BK144.out 3).trans rfl
                    have hfz22_0 := blk_frozen BK144.out 0
                    have hfz22_1 := blk_frozen BK144.out 1
                    have hfz22_2 := blk_frozen BK144.out 2
                    have hfz22_3 := blk_frozen BK144.out 3
                    have p145 : 0 ≤ (x4_2 : Int) := of_decide_eq_true (by first | (with_reducible assumption) | assumption)
                    have q145 : x4_2 < (l0_1.length : Int) := of_decide_eq_true (by first | (with_reducible assumption) | assumption)
                    obtain ⟨ad145, e145, hx145_0⟩ := Kd.at_int HR0_1.out x4_2 p145 q145
                    cases e145
                    replace hx145_0 := (HB.out.cell (World.block_lt_of_cell? w _ hx145_0)).trans hx145_0
                    replace p145 := eq_true p145
                    replace q145 := eq_true q145
                    have p146 : 0 ≤ (x4_2 : Int) := of_decide_eq_true (by first | (with_reducible assumption) | assumption)
                    have q146 : x4_2 < (l0_1.length : Int) := of_decide_eq_true (by first | (with_reducible assumption) | assumption)
                    obtain ⟨ad146, e146, hx146_0⟩ := Kd.at_int HR0_1.out x4_2 p146 q146
                    obtain rfl : ad145 = ad146 := (by injection e146)
                    replace hx146_0 := (HB.out.cell (World.block_lt_of_cell? w _ hx146_0)).trans hx146_0
                    replace p146 := eq_true p146
                    replace q146 := eq_true q146
                    have p147 : 0 ≤ (x4_2 : Int) := of_decide_eq_true (by first | (with_reducible assumption) | assumption)
                    have q147 : x4_2 < (l0_1.length : Int) := of_decide_eq_true (by first | (with_reducible assumption) | assumption)
                    obtain ⟨ad147, e147, hx147_0⟩ := Kd.at_int HR0_1.out x4_2 p147 q147
                    obtain rfl : ad145 = ad147 := (by injection e147)
                    replace hx147_0 := (HB.out.cell (World.block_lt_of_cell? w _ hx147_0)).trans hx147_0
                    replace p147 := eq_true p147
                    replace q147 := eq_true q147
                    go_wp2
                    go_roundg k2
                    case measure => have := HJ1.out; have := HK2.out; omega
                    case rel => exact ⟨(rd l0_1 x4_2), (wrap64 (x4_2 + 1)), (by first | rfl | (simp; done) | (simp [*]; done)), (by first | rfl | (simp; done) | (simp [*]; done)), H', ⟨by have := HJ1.out; have := HK2.out; omega⟩, ⟨by (with_reducible repeat (first | refine blk_drewN ?_ _ | refine blk_drew ?_ | refine blk_alloc ?_ _)); exact BK144.out⟩, ⟨by repeat (first | (with_reducible first | exact HB.out | apply below_alloc | apply pw_below_drewN | apply below_drew1 | refine below_set ?_ GE144.out) | exact HB.out)⟩⟩
              · rw [if_neg c17] at H
                exact absurd H (by simp)
            · rw [if_neg c16] at H
              have c16b0 : decide (x4_2 < (l0_1.length : Int)) = false := decide_eq_false c16
              clear c16
              obtain rfl := Option.some.inj H
              have hcz23_0 : wr.cell? ⟨gb144, 0, none⟩ = some (.int .i64 a0_0) := (blk_cell BK144.out 0).trans rfl
              have hcz23_1 : wr.cell? ⟨gb144, 1, none⟩ = some (.slice A0_1 l0_1.length c0_1) := (blk_cell BK144.out 1).trans rfl
              have hcz23_2 : wr.cell? ⟨gb144, 2, none⟩ = some (.int .i64 a0_2) := (blk_cell BK144.out 2).trans rfl
              have hcz23_3 : wr.cell? ⟨gb144, 3, none⟩ = some (.int .i64 a0_3) := (blk_cell BK144.out 3).trans rfl
              have hfz23_0 := blk_frozen BK144.out 0
              have hfz23_1 := blk_frozen BK144.out 1
              have hfz23_2 := blk_frozen BK144.out 2
              have hfz23_3 := blk_frozen BK144.out 3
              go_wp2
              go_ret
              exact ⟨by first | rfl | (simp [errW_none, errW_some] <;> rfl) | (simp [*, errW_none, errW_some] <;> rfl), by repeat (first | (with_reducible first | exact HB.out | apply below_alloc | apply pw_below_drewN | apply below_drew1 | refine below_set ?_ GE144.out) | exact HB.out)⟩
end Go.Proofs.YtpgjhjlhipikgaaDoor.PK
end
section
namespace Go.Proofs.YtpgjhjlhipikgaaDoor.PK
open Go.RowKit Go.Proofs.YtpgjhjlhipikgaaDoorW.PrintWords Go.Proofs.YtpgjhjlhipikgaaDoorW.PrintLast Go.Proofs.YtpgjhjlhipikgaaDoorW.PrintMore
attribute [local go_sem] max2_int min2_int max_two min_two max_three min_three max_four min_four   -- for this text's walks alone
set_option linter.unusedVariables false
set_option linter.unusedSimpArgs false
def copydeskref03_IsName.l0 : Nat → ByteArray → Int → Option (Bool)
  | 0, _, _ => none
  | k + 1, x0, x3 => if x3 < (x0.size : Int) then (if 0 ≤ x3 then (if (bt x0 x3) ≥ 97 then (if (bt x0 x3) ≤ 122 then (copydeskref03_IsName.l0 k x0 (wrap64 (x3 + 1))) else (if (bt x0 x3) ≥ 48 then (if (bt x0 x3) ≤ 57 then (copydeskref03_IsName.l0 k x0 (wrap64 (x3 + 1))) else (if ((bt x0 x3) = 45) then (copydeskref03_IsName.l0 k x0 (wrap64 (x3 + 1))) else (some false))) else (if ((bt x0 x3) = 45) then (copydeskref03_IsName.l0 k x0 (wrap64 (x3 + 1))) else (some false)))) else (if (bt x0 x3) ≥ 48 then (if (bt x0 x3) ≤ 57 then (copydeskref03_IsName.l0 k x0 (wrap64 (x3 + 1))) else (if ((bt x0 x3) = 45) then (copydeskref03_IsName.l0 k x0 (wrap64 (x3 + 1))) else (some false))) else (if ((bt x0 x3) = 45) then (copydeskref03_IsName.l0 k x0 (wrap64 (x3 + 1))) else (some false)))) else (none)) else (if (x0.size : Int) ≥ 1 then (some (decide ((x0.size : Int) ≤ 20))) else (some false))
def copydeskref03_IsName.f (k : Nat) (a0 : ByteArray) : Option (Bool) := copydeskref03_IsName.l0 k a0 0
theorem copydeskref03_IsName.mono_l : ∀ k, (∀ y0 y1, LeO (copydeskref03_IsName.l0 k y0 y1) (copydeskref03_IsName.l0 (k + 1) y0 y1))
  | 0 => fun _ _ r h => by simp [copydeskref03_IsName.l0] at h
  | k + 1 => by
    have ih0 := copydeskref03_IsName.mono_l k
    · intro y0 y1
      unfold copydeskref03_IsName.l0
      repeat' first
      | (with_reducible exact ih0 _ _)
      | (with_reducible exact LeO.refl _)
      | (with_reducible exact LeO.none _)
      | (with_reducible refine LeO.ite ?_ ?_)
      | (with_reducible refine LeO.bind ?_ (fun _ => ?_))
      | exact ih0 _ _
      | exact LeO.none _
      | refine LeO.ite ?_ ?_
      | refine LeO.bind ?_ (fun _ => ?_)
theorem copydeskref03_IsName.mono : ∀ a0 k, LeO (copydeskref03_IsName.f k a0) (copydeskref03_IsName.f (k + 1) a0) := by
  intro a0 k
  have ih0 := copydeskref03_IsName.mono_l k
  unfold copydeskref03_IsName.f
  repeat' first
      | (with_reducible exact ih0 _ _)
      | (with_reducible exact LeO.refl _)
      | (with_reducible exact LeO.none _)
      | (with_reducible refine LeO.ite ?_ ?_)
      | (with_reducible refine LeO.bind ?_ (fun _ => ?_))
      | exact ih0 _ _
      | exact LeO.none _
      | refine LeO.ite ?_ ?_
      | refine LeO.bind ?_ (fun _ => ?_)
set_option maxHeartbeats 8000000 in
set_option maxRecDepth 100000 in
theorem copydeskref03_IsName.calls (k : Nat) (a0 : ByteArray) (r : Bool) (w : World) (h : copydeskref03_IsName.f k a0 = some r) :
    Calls Tryd.prog 46 #[.string a0] w fun e w' => e = .returned (.bool r) ∧ Drawn0 w w' := by
  have H : (copydeskref03_IsName.l0 k a0 0) = some r := h
  clear h
  have H' := Aside0.mk H
  clear H
  go_enter Tryd.func46, Tryd.ntmps46
  go_wp2
  go_loopg [3] k (fun kq v3 w' => ∃ (x3_1 : Int), v3 = .int .i64 x3_1 ∧ Aside0 (copydeskref03_IsName.l0 kq a0 x3_1 = some r) ∧ Aside0 (kq ≤ k) ∧ Drawn0 w w')
  case atStart => exact ⟨(0), (by first | rfl | (simp; done) | (simp [*]; done)), H', ⟨Nat.le_refl _⟩, by repeat (first | exact Drawn0.refl _ | apply Drawn0.step)⟩
  case round =>
    clear H'
    obtain ⟨x3_1, rfl, HA, HK1, ⟨m1, rfl⟩⟩ := hrel
    cases gk with
    | zero => exact absurd HA.out (by simp [copydeskref03_IsName.l0])
    | succ k1 =>
      have H := HA.out
      clear HA
      simp only [copydeskref03_IsName.l0] at H
      by_cases c2 : x3_1 < (a0.size : Int)
      · rw [if_pos c2] at H
        have c2b0 : decide (x3_1 < (a0.size : Int)) = true := decide_eq_true c2
        clear c2
        by_cases c3 : 0 ≤ x3_1
        · rw [if_pos c3] at H
          have c3b0 : decide (0 ≤ x3_1) = true := decide_eq_true c3
          clear c3
          by_cases c5 : (bt a0 x3_1) ≥ 97
          · rw [if_pos c5] at H
            have c5b0 : decide (97 ≤ (bt a0 x3_1)) = true := decide_eq_true c5
            clear c5
            by_cases c6 : (bt a0 x3_1) ≤ 122
            · rw [if_pos c6] at H
              have c6b0 : decide ((bt a0 x3_1) ≤ 122) = true := decide_eq_true c6
              clear c6
              have H' := Aside0.mk H
              clear H
              have p4 : 0 ≤ (x3_1 : Int) := of_decide_eq_true (by first | (with_reducible assumption) | assumption)
              have q4 : x3_1 < (a0.size : Int) := of_decide_eq_true (by first | (with_reducible assumption) | assumption)
              have hx4 := bt_at a0 x3_1
              replace p4 := eq_true p4
              replace q4 := eq_true q4
              go_wp2
              go_roundg k1
              case measure => have := HK1.out; omega
              case rel => exact ⟨(wrap64 (x3_1 + 1)), (by first | rfl | (simp; done) | (simp [*]; done)), H', ⟨by have := HK1.out; omega⟩, by repeat (first | exact Drawn0.refl _ | apply Drawn0.step)⟩
            · rw [if_neg c6] at H
              have c6b0 : decide ((bt a0 x3_1) ≤ 122) = false := decide_eq_false c6
              clear c6
              by_cases c7 : (bt a0 x3_1) ≥ 48
              · rw [if_pos c7] at H
                have c7b0 : decide (48 ≤ (bt a0 x3_1)) = true := decide_eq_true c7
                clear c7
                by_cases c8 : (bt a0 x3_1) ≤ 57
                · rw [if_pos c8] at H
                  have c8b0 : decide ((bt a0 x3_1) ≤ 57) = true := decide_eq_true c8
                  clear c8
                  have H' := Aside0.mk H
                  clear H
                  have p4 : 0 ≤ (x3_1 : Int) := of_decide_eq_true (by first | (with_reducible assumption) | assumption)
                  have q4 : x3_1 < (a0.size : Int) := of_decide_eq_true (by first | (with_reducible assumption) | assumption)
                  have hx4 := bt_at a0 x3_1
                  replace p4 := eq_true p4
                  replace q4 := eq_true q4
                  go_wp2
                  go_roundg k1
                  case measure => have := HK1.out; omega
                  case rel => exact ⟨(wrap64 (x3_1 + 1)), (by first | rfl | (simp; done) | (simp [*]; done)), H', ⟨by have := HK1.out; omega⟩, by repeat (first | exact Drawn0.refl _ | apply Drawn0.step)⟩
                · rw [if_neg c8] at H
                  have c8b0 : decide ((bt a0 x3_1) ≤ 57) = false := decide_eq_false c8
                  clear c8
                  by_cases c9 : ((bt a0 x3_1) = 45)
                  · rw [if_pos c9] at H
                    have c9b0 : ((bt a0 x3_1) == 45) = true := beq_iff_eq.mpr c9
                    have c9b1 : ((bt a0 x3_1) != 45) = false := bne_eq_false_iff_eq.mpr c9
                    clear c9
                    have H' := Aside0.mk H
                    clear H
                    have p4 : 0 ≤ (x3_1 : Int) := of_decide_eq_true (by first | (with_reducible assumption) | assumption)
                    have q4 : x3_1 < (a0.size : Int) := of_decide_eq_true (by first | (with_reducible assumption) | assumption)
                    have hx4 := bt_at a0 x3_1
                    replace p4 := eq_true p4
                    replace q4 := eq_true q4
                    go_wp2
                    go_roundg k1
                    case measure => have := HK1.out; omega
                    case rel => exact ⟨(wrap64 (x3_1 + 1)), (by first | rfl | (simp; done) | (simp [*]; done)), H', ⟨by have := HK1.out; omega⟩, by repeat (first | exact Drawn0.refl _ | apply Drawn0.step)⟩
                  · rw [if_neg c9] at H
                    have c9b0 : ((bt a0 x3_1) == 45) = false := beq_eq_false_iff_ne.mpr c9
                    have c9b1 : ((bt a0 x3_1) != 45) = true := bne_iff_ne.mpr c9
                    obtain rfl := Option.some.inj H
                    have p4 : 0 ≤ (x3_1 : Int) := of_decide_eq_true (by first | (with_reducible assumption) | assumption)
                    have q4 : x3_1 < (a0.size : Int) := of_decide_eq_true (by first | (with_reducible assumption) | assumption)
                    have hx4 := bt_at a0 x3_1
                    replace p4 := eq_true p4
                    replace q4 := eq_true q4
                    go_wp2
                    go_ret
                    exact ⟨by first | rfl | (simp; done) | (simp [*]; done), by repeat (first | exact Drawn0.refl _ | apply Drawn0.step)⟩
              · rw [if_neg c7] at H
                have c7b0 : decide (48 ≤ (bt a0 x3_1)) = false := decide_eq_false c7
                clear c7
                by_cases c10 : ((bt a0 x3_1) = 45)
                · rw [if_pos c10] at H
                  have c10b0 : ((bt a0 x3_1) == 45) = true := beq_iff_eq.mpr c10
                  have c10b1 : ((bt a0 x3_1) != 45) = false := bne_eq_false_iff_eq.mpr c10
                  clear c10
                  have H' := Aside0.mk H
                  clear H
                  have p4 : 0 ≤ (x3_1 : Int) := of_decide_eq_true (by first | (with_reducible assumption) | assumption)
                  have q4 : x3_1 < (a0.size : Int) := of_decide_eq_true (by first | (with_reducible assumption) | assumption)
                  have hx4 := bt_at a0 x3_1
                  replace p4 := eq_true p4
                  replace q4 := eq_true q4
                  go_wp2
                  go_roundg k1
                  case measure => have := HK1.out; omega
                  case rel => exact ⟨(wrap64 (x3_1 + 1)), (by first | rfl | (simp; done) | (simp [*]; done)), H', ⟨by have := HK1.out; omega⟩, by repeat (first | exact Drawn0.refl _ | apply Drawn0.step)⟩
                · rw [if_neg c10] at H
                  have c10b0 : ((bt a0 x3_1) == 45) = false := beq_eq_false_iff_ne.mpr c10
                  have c10b1 : ((bt a0 x3_1) != 45) = true := bne_iff_ne.mpr c10
                  obtain rfl := Option.some.inj H
                  have p4 : 0 ≤ (x3_1 : Int) := of_decide_eq_true (by first | (with_reducible assumption) | assumption)
                  have q4 : x3_1 < (a0.size : Int) := of_decide_eq_true (by first | (with_reducible assumption) | assumption)
                  have hx4 := bt_at a0 x3_1
                  replace p4 := eq_true p4
                  replace q4 := eq_true q4
                  go_wp2
                  go_ret
                  exact ⟨by first | rfl | (simp; done) | (simp [*]; done), by repeat (first | exact Drawn0.refl _ | apply Drawn0.step)⟩
          · rw [if_neg c5] at H
            have c5b0 : decide (97 ≤ (bt a0 x3_1)) = false := decide_eq_false c5
            clear c5
            by_cases c11 : (bt a0 x3_1) ≥ 48
            · rw [if_pos c11] at H
              have c11b0 : decide (48 ≤ (bt a0 x3_1)) = true := decide_eq_true c11
              clear c11
              by_cases c12 : (bt a0 x3_1) ≤ 57
              · rw [if_pos c12] at H
                have c12b0 : decide ((bt a0 x3_1) ≤ 57) = true := decide_eq_true c12
                clear c12
                have H' := Aside0.mk H
                clear H
                have p4 : 0 ≤ (x3_1 : Int) := of_decide_eq_true (by first | (with_reducible assumption) | assumption)
                have q4 : x3_1 < (a0.size : Int) := of_decide_eq_true (by first | (with_reducible assumption) | assumption)
                have hx4 := bt_at a0 x3_1
                replace p4 := eq_true p4
                replace q4 := eq_true q4
                go_wp2
                go_roundg k1
                case measure => have := HK1.out; omega
                case rel => exact ⟨(wrap64 (x3_1 + 1)), (by first | rfl | (simp; done) | (simp [*]; done)), H', ⟨by have := HK1.out; omega⟩, by repeat (first | exact Drawn0.refl _ | apply Drawn0.step)⟩
              · rw [if_neg c12] at H
                have c12b0 : decide ((bt a0 x3_1) ≤ 57) = false := decide_eq_false c12
                clear c12
                by_cases c13 : ((bt a0 x3_1) = 45)
                · rw [if_pos c13] at H
                  have c13b0 : ((bt a0 x3_1) == 45) = true := beq_iff_eq.mpr c13
                  have c13b1 : ((bt a0 x3_1) != 45) = false := bne_eq_false_iff_eq.mpr c13
                  clear c13
                  have H' := Aside0.mk H
                  clear H
                  have p4 : 0 ≤ (x3_1 : Int) := of_decide_eq_true (by first | (with_reducible assumption) | assumption)
                  have q4 : x3_1 < (a0.size : Int) := of_decide_eq_true (by first | (with_reducible assumption) | assumption)
                  have hx4 := bt_at a0 x3_1
                  replace p4 := eq_true p4
                  replace q4 := eq_true q4
                  go_wp2
                  go_roundg k1
                  case measure => have := HK1.out; omega
                  case rel => exact ⟨(wrap64 (x3_1 + 1)), (by first | rfl | (simp; done) | (simp [*]; done)), H', ⟨by have := HK1.out; omega⟩, by repeat (first | exact Drawn0.refl _ | apply Drawn0.step)⟩
                · rw [if_neg c13] at H
                  have c13b0 : ((bt a0 x3_1) == 45) = false := beq_eq_false_iff_ne.mpr c13
                  have c13b1 : ((bt a0 x3_1) != 45) = true := bne_iff_ne.mpr c13
                  obtain rfl := Option.some.inj H
                  have p4 : 0 ≤ (x3_1 : Int) := of_decide_eq_true (by first | (with_reducible assumption) | assumption)
                  have q4 : x3_1 < (a0.size : Int) := of_decide_eq_true (by first | (with_reducible assumption) | assumption)
                  have hx4 := bt_at a0 x3_1
                  replace p4 := eq_true p4
                  replace q4 := eq_true q4
                  go_wp2
                  go_ret
                  exact ⟨by first | rfl | (simp; done) | (simp [*]; done), by repeat (first | exact Drawn0.refl _ | apply Drawn0.step)⟩
            · rw [if_neg c11] at H
              have c11b0 : decide (48 ≤ (bt a0 x3_1)) = false := decide_eq_false c11
              clear c11
              by_cases c14 : ((bt a0 x3_1) = 45)
              · rw [if_pos c14] at H
                have c14b0 : ((bt a0 x3_1) == 45) = true := beq_iff_eq.mpr c14
                have c14b1 : ((bt a0 x3_1) != 45) = false := bne_eq_false_iff_eq.mpr c14
                clear c14
                have H' := Aside0.mk H
                clear H
                have p4 : 0 ≤ (x3_1 : Int) := of_decide_eq_true (by first | (with_reducible assumption) | assumption)
                have q4 : x3_1 < (a0.size : Int) := of_decide_eq_true (by first | (with_reducible assumption) | assumption)
                have hx4 := bt_at a0 x3_1
                replace p4 := eq_true p4
                replace q4 := eq_true q4
                go_wp2
                go_roundg k1
                case measure => have := HK1.out; omega
                case rel => exact ⟨(wrap64 (x3_1 + 1)), (by first | rfl | (simp; done) | (simp [*]; done)), H', ⟨by have := HK1.out; omega⟩, by repeat (first | exact Drawn0.refl _ | apply Drawn0.step)⟩
              · rw [if_neg c14] at H
                have c14b0 : ((bt a0 x3_1) == 45) = false := beq_eq_false_iff_ne.mpr c14
                have c14b1 : ((bt a0 x3_1) != 45) = true := bne_iff_ne.mpr c14
                obtain rfl := Option.some.inj H
                have p4 : 0 ≤ (x3_1 : Int) := of_decide_eq_true (by first | (with_reducible assumption) | assumption)
                have q4 : x3_1 < (a0.size : Int) := of_decide_eq_true (by first | (with_reducible assumption) | assumption)
                have hx4 := bt_at a0 x3_1
                replace p4 := eq_true p4
                replace q4 := eq_true q4
                go_wp2
                go_ret
                exact ⟨by first | rfl | (simp; done) | (simp [*]; done), by repeat (first | exact Drawn0.refl _ | apply Drawn0.step)⟩
        · rw [if_neg c3] at H
          exact absurd H (by simp)
      · rw [if_neg c2] at H
        have c2b0 : decide (x3_1 < (a0.size : Int)) = false := decide_eq_false c2
        clear c2
        by_cases c15 : (a0.size : Int) ≥ 1
        · rw [if_pos c15] at H
          have c15b0 : decide (1 ≤ (a0.size : Int)) = true := decide_eq_true c15
          have c15b1 : decide (1 ≤ a0.size) = true := decide_eq_true (by omega)
          clear c15
          obtain rfl := Option.some.inj H
          go_wp2
          go_ret
          exact ⟨by first | rfl | (simp; done) | (simp [*]; done), by repeat (first | exact Drawn0.refl _ | apply Drawn0.step)⟩
        · rw [if_neg c15] at H
          have c15b0 : decide (1 ≤ (a0.size : Int)) = false := decide_eq_false c15
          have c15b1 : decide (1 ≤ a0.size) = false := decide_eq_false (by omega)
          clear c15
          obtain rfl := Option.some.inj H
          go_wp2
          go_ret
          exact ⟨by first | rfl | (simp; done) | (simp [*]; done), by repeat (first | exact Drawn0.refl _ | apply Drawn0.step)⟩
end Go.Proofs.YtpgjhjlhipikgaaDoor.PK
end
