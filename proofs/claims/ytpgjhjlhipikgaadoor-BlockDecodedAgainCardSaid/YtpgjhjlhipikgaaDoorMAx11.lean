/- Texts of this claim, one behind the other. -/
import Derived.Test.YtpgjhjlhipikgaaDoorMAx5
import Derived.Test.YtpgjhjlhipikgaaDoorMAx8
import Derived.Test.YtpgjhjlhipikgaaDoorMAx6
import Derived.Test.YtpgjhjlhipikgaaDoorMAx7
import Derived.Test.YtpgjhjlhipikgaaDoorMAx9
import Derived.Test.YtpgjhjlhipikgaaDoorMAx10
import Derived.Deep.Cut
import Derived.Deep.RegionWith
section
namespace Go.Proofs.YtpgjhjlhipikgaaDoor.PK
open Go.RowKit Go.Proofs.YtpgjhjlhipikgaaDoorW.PrintWords Go.Proofs.YtpgjhjlhipikgaaDoorW.PrintLast Go.Proofs.YtpgjhjlhipikgaaDoorW.PrintMore
attribute [local go_sem] max2_int min2_int max_two min_two max_three min_three max_four min_four   -- for this text's walks alone
set_option linter.unusedVariables false
set_option linter.unusedSimpArgs false

/-! ### block_Plain: function 34 -/
-- NEEDS Derived.Test.YtpgjhjlhipikgaaDoorKBox
-- NEEDS Derived.Test.YtpgjhjlhipikgaaDoorBkBuild
theorem bk_join_eq : ∀ xs : List (List UInt8), Lib.join xs [32] = m_join xs
  | [] => rfl
  | [x] => by simp [Lib.join, List.intercalate, m_join]
  | x :: y :: l => by
    have h := bk_join_eq (y :: l)
    rw [m_join, ← h]
    simp [Lib.join, List.intercalate, List.intersperse]
theorem bk_join_len : ∀ xs : List (List UInt8), xs.length ≤ (m_join xs).length + 1
  | [] => by simp
  | [x] => by simp
  | x :: y :: l => by
    have h := bk_join_len (y :: l)
    simp only [m_join, List.length_append, List.length_cons] at h ⊢
    omega
set_option maxHeartbeats 1000000 in
theorem bk_line66 (x y : Nat) (a b t : ByteArray) (W : World) (hx : W.cell? ⟨x, 0, none⟩ = some (.string a)) (hy : W.cell? ⟨y, 0, none⟩ = some (.string b)) (hl : a.size + t.size + b.size ≤ 1000000000) :
    Calls Tryd.prog 66 #[.string t, .pointer (some ⟨x, 0, none⟩), .pointer (some ⟨y, 0, none⟩)] W fun e w' => e = .returned (.string (a ++ t ++ b)) ∧ w' = W := by
  have h1 : a.size + t.size ≤ 9223372036854775807 := by omega
  have h2 : (a ++ t).size + b.size ≤ 9223372036854775807 := by rw [ByteArray.size_append]; omega
  go_enter Tryd.func66, Tryd.ntmps66
  go_wp2
  go_ret
  exact ⟨rfl, rfl⟩
set_option maxHeartbeats 1000000 in
theorem bk_spaced (t : ByteArray) (W : World) (ht : t.size ≤ 1000000000) (hl : (m_join (m_sent t.data.toList)).length ≤ 1000000000) :
    Calls Tryd.prog 67 #[.string t] W fun e w' => e = .returned (.string ⟨(m_join (m_sent t.data.toList)).toArray⟩) ∧ Below W.heap.size W w' := by
  have hxs : (m_sentences t).map (·.data.toList) = m_sent t.data.toList := by
    simp [m_sentences, List.map_map, Function.comp_def]
  obtain ⟨xs, hx⟩ : ∃ xs, m_sentences t = xs := ⟨_, rfl⟩
  have hS := block_Sentences.calls t xs W (by unfold block_Sentences.f; rw [if_pos ht, hx])
  rw [hx] at hxs
  have hn : xs.length ≤ 140737488355328 := by
    have := bk_join_len (m_sent t.data.toList)
    rw [← hxs] at this hl
    simp only [List.length_map] at this
    omega
  have hj : Lib.join (xs.map (·.data.toList)) [32] = m_join (m_sent t.data.toList) := by rw [bk_join_eq, hxs]
  have HX := Aside0.mk hj
  clear hj hxs hx
  go_enter Tryd.func67, Tryd.ntmps67
  go_wp2_with (go_at_call 32; refine Rg.stop_here ?_)
  refine ⟨?_⟩
  refine hS.mono ?_
  rintro e w1 ⟨v, rfl, hR, hb⟩
  obtain ⟨inner, hown⟩ := Kd.R_own hR
  rcases hown.2 with ⟨rfl, _⟩ | ⟨g, cap, cur, rfl, hg, hh, _⟩
  · obtain ⟨A, c, he⟩ := Kd.R_slice hR
    have h0 : xs = [] := by injection he with _ h _; exact List.eq_nil_of_length_eq_zero h.symm
    subst h0
    go_wp2_with (go_at_call 91; refine (Tryd.strings_Join_none _ _ _ _).mono ?_; rintro e w' ⟨rfl, rfl⟩)
    go_ret
    exact ⟨by rw [← HX.out]; rfl, hb⟩
  · have hrd := Kd.R_reads' hR
    have hlt := (Array.getElem?_eq_some_iff.1 hh).1
    have hcells : ∀ (j : Nat) x, xs[j]? = some x → w1.cell? ⟨g, 0 + j, none⟩ = some (.string x) := fun j x hx => by
      have hjl := (List.getElem?_eq_some_iff.1 hx).1
      obtain ⟨ad, c, e0, hc1, hK, hc⟩ := Kd.C_get hrd.2.2 ⟨#[]⟩ (j : Int) (by omega) (by omega)
      cases e0
      have hxe : xs.getD j ⟨#[]⟩ = x := by simp [List.getD_eq_getElem?_getD, hx]
      simp only [Int.toNat_natCast] at hK hc
      rw [hxe] at hK
      have hK' : c = [.string x] := hK
      subst hK'
      have := hc 0 _ rfl
      by_cases hj0 : j = 0 <;> simpa [Addr.add, Kd.string, Kd.scalar, hj0] using this
    have hcon := Tryd.strings_Join g 0 cap xs ⟨#[32]⟩ w1 hcells hlt hn hrd.2.1 (by rw [show (⟨#[32]⟩ : ByteArray).data.toList = [32] from rfl, HX.out]; omega)
    rw [show (⟨#[32]⟩ : ByteArray).data.toList = [32] from rfl, HX.out] at hcon
    clear hcells hrd hS HX hown hR
    go_wp2_with (go_at_call 91; refine hcon.mono ?_; rintro e w2 ⟨rfl, hb2⟩)
    go_ret
    exact ⟨rfl, below_step hb hb2⟩
theorem bk_line_cases (kind : Int) : ((∀ L1 L3 L4 L5, bk_kinds L1 L3 L4 L5 kind = none) ∧ ∀ t, m_line kind t = []) ∨
    ((∀ L1 L3 L4 L5, bk_kinds L1 L3 L4 L5 kind = some (.agg #[.func (.func 64) #[] #[], .bool false, .func (.func 67) #[] #[]])) ∧ ∀ t, m_line kind t = m_join (m_sent t) ++ [10]) ∨
    ∃ (T : Nat) (q : Bool) (a b : ByteArray), (∀ t, m_line kind t = a.data.toList ++ t ++ b.data.toList ++ [10]) ∧ (a.size ≤ 1 ∧ b.size ≤ 1) ∧ ∀ L1 L3 L4 L5 W B, bk_Line W B L1 ⟨#[]⟩ ⟨#[]⟩ → bk_Line W B L3 ⟨#[34]⟩ ⟨#[34]⟩ → bk_Line W B L4 ⟨#[91]⟩ ⟨#[93]⟩ → bk_Line W B L5 ⟨#[35]⟩ ⟨#[]⟩ →
      ∃ x y, W.cell? ⟨x, 0, none⟩ = some (.string a) ∧ W.cell? ⟨y, 0, none⟩ = some (.string b) ∧ bk_kinds L1 L3 L4 L5 kind = some (.agg #[.func (.func T) #[] #[], .bool q, .func (.func 66) #[] #[.pointer (some ⟨x, 0, none⟩), .pointer (some ⟨y, 0, none⟩)]]) := by
  by_cases h5 : kind = 5
  · subst h5; exact .inr (.inr ⟨_, _, ⟨#[35]⟩, ⟨#[]⟩, fun t => by simp [m_line], by decide, fun _ _ _ _ _ _ _ _ _ ⟨x, y, _, _, h, h1, h2⟩ => ⟨x, y, bk_cell h1 0, bk_cell h2 0, by subst h; rfl⟩⟩)
  by_cases h4 : kind = 4
  · subst h4; exact .inr (.inr ⟨_, _, ⟨#[91]⟩, ⟨#[93]⟩, fun t => by simp [m_line], by decide, fun _ _ _ _ _ _ _ _ ⟨x, y, _, _, h, h1, h2⟩ _ => ⟨x, y, bk_cell h1 0, bk_cell h2 0, by subst h; rfl⟩⟩)
  by_cases h3 : kind = 3
  · subst h3; exact .inr (.inr ⟨_, _, ⟨#[34]⟩, ⟨#[34]⟩, fun t => by simp [m_line], by decide, fun _ _ _ _ _ _ _ ⟨x, y, _, _, h, h1, h2⟩ _ _ => ⟨x, y, bk_cell h1 0, bk_cell h2 0, by subst h; rfl⟩⟩)
  by_cases h2 : kind = 2
  · subst h2; exact .inr (.inl ⟨fun _ _ _ _ => rfl, fun t => by simp [m_line]⟩)
  by_cases h1 : kind = 1
  · subst h1; exact .inr (.inr ⟨_, _, ⟨#[]⟩, ⟨#[]⟩, fun t => by simp [m_line], by decide, fun _ _ _ _ _ _ ⟨x, y, _, _, h, h1, h2⟩ _ _ _ => ⟨x, y, bk_cell h1 0, bk_cell h2 0, by subst h; rfl⟩⟩)
  exact .inl ⟨fun _ _ _ _ => by simp [bk_kinds, h1, h2, h3, h4, h5], fun t => by simp [m_line, h1, h2, h3, h4, h5]⟩
theorem bk_strCells (s : ByteArray) : Lib.strCells s = Lib.byteCells s.data.toList := rfl
theorem bk_byteCells_append (a b : List UInt8) : Lib.byteCells a ++ Lib.byteCells b = Lib.byteCells (a ++ b) := by simp [Lib.byteCells]
theorem bk_keptLine {W W' : World} (h : Bk.KeptT 64 5 W W') : ∀ (x : Nat) (v : Array Value), W.heap[x]? = some (Obj.cells v 9 (0, 0)) → W'.heap[x]? = some (Obj.cells v 9 (0, 0)) := fun x v hx => h.kept _ _ _ _ hx (by decide) (by decide)
theorem bk_plain_take (l : List (S26)) (j : Nat) (h : j < l.length) : m_plain (l.take (j + 1)) = m_plain (l.take j) ++ m_line l[j].f1 l[j].f2.data.toList := by
  rw [m_plain, m_plain, List.take_succ_eq_append_getElem h, List.flatMap_append]; simp
theorem bk_plain_le (l : List (S26)) (j : Nat) : (m_plain (l.take j)).length ≤ (m_plain l).length := by
  have : m_plain l = m_plain (l.take j) ++ m_plain (l.drop j) := by
    unfold m_plain; rw [← List.flatMap_append, List.take_append_drop]
  rw [this, List.length_append]; omega
def block_Plain.f (l0 : List (S26)) : Option ByteArray := if (l0.all fun b => decide (b.f2.size ≤ 1000000000)) && decide ((m_plain l0).length ≤ 1000000000) then some (⟨(m_plain l0).toArray⟩ : ByteArray) else none
set_option maxHeartbeats 4000000 in
set_option maxRecDepth 100000 in
theorem block_Plain.calls (A0 : Option Addr) (c0 : Nat) (l0 : List (S26)) (r : ByteArray) (w : World) (hr0 : Kd.C k26 w A0 l0.length l0) (hc0 : l0.length ≤ c0) (h : block_Plain.f l0 = some r) :
    Calls Tryd.prog 34 #[.slice A0 l0.length c0] w fun e w' => e = .returned (.string r) ∧ Below w.heap.size w w' := by
  unfold block_Plain.f at h
  obtain ⟨hg, hf⟩ : ((l0.all fun b => decide (b.f2.size ≤ 1000000000)) && decide ((m_plain l0).length ≤ 1000000000)) = true ∧ (⟨(m_plain l0).toArray⟩ : ByteArray) = r := by
    split at h
    · exact ⟨by assumption, Option.some.inj h⟩
    · cases h
  subst hf
  clear h
  simp only [Bool.and_eq_true, List.all_eq_true, decide_eq_true_eq] at hg
  have HG := Aside0.mk hg
  have HR := Aside0.mk hr0
  have hmax := Kd.C_max hr0
  clear hr0 hc0 hg
  have hbl0 := Lib.fresh_isBuilder 64 5 w
  have hB00 := below_alloc (Below.refl w.heap.size w) (.cells #[.pointer none, .slice none 0 0] 64)
  go_enter Tryd.func34, Tryd.ntmps34
  go_wp2_with (go_at_call 40; refine Rg.stop_here ?_)
  refine ⟨?_⟩
  refine (bk_kinds_calls _).mono ?_
  rintro e w1 ⟨mb, L1, L3, L4, L5, rfl, hmb, hI, hL1, hL3, hL4, hL5, hB0⟩
  have hbl := Bk.builder_below hbl0 hB0
  have hB1 : Below w.heap.size w w1 := below_step hB00 hB0
  obtain ⟨BL, hBL⟩ : ∃ BL, BL = (w.alloc (.cells #[.pointer none, .slice none 0 0] 64)).heap.size := ⟨_, rfl⟩
  rw [← hBL] at hL1 hL3 hL4 hL5
  clear hbl0 hB00 hB0 hmb hBL
  go_wp2
  go_loopw [12] (fun p wr => ∃ (j : Nat), p = .int .i64 (j : Int) ∧ j ≤ l0.length ∧ Lib.IsBuilder 64 5 w.heap.size w.heap.size (Lib.byteCells (m_plain (l0.take j))) wr ∧ Mp.IMap wr mb 5 (bk_kinds L1 L3 L4 L5) ∧
      bk_Line wr BL L1 ⟨#[]⟩ ⟨#[]⟩ ∧ bk_Line wr BL L3 ⟨#[34]⟩ ⟨#[34]⟩ ∧ bk_Line wr BL L4 ⟨#[91]⟩ ⟨#[93]⟩ ∧ bk_Line wr BL L5 ⟨#[35]⟩ ⟨#[]⟩ ∧ Below w.heap.size w wr)
    (fun p _ => l0.length - (intOf p).toNat)
  case atStart => exact ⟨0, rfl, Nat.zero_le _, hbl, hI, hL1, hL3, hL4, hL5, hB1⟩
  case round =>
    clear hbl hI hL1 hL3 hL4 hL5 hB1
    obtain ⟨j, rfl, hj, hbl, hI, hL1, hL3, hL4, hL5, hB⟩ := hrel
    by_cases hlt : j < l0.length
    · have hd : decide ((j : Int) < (l0.length : Int)) = true := by simp; omega
      obtain ⟨ad, A6, c6, e0, hx0, hx1, hx2, hx3, hx4, hx5, hx6, hx7, hx8, hl6, hi6⟩ := at_T26 HR.out (j : Int) (by omega) (by omega)
      rw [bk_rd l0 j hlt] at hx0 hx1 hx2 hx3 hx4 hx5 hx6 hx7 hx8 hl6 hi6
      have htake := bk_plain_take l0 j hlt
      have hsz := HG.out.1 l0[j] (List.getElem_mem hlt)
      have hle := bk_plain_le l0 (j + 1)
      obtain ⟨x, hx⟩ : ∃ x, l0[j] = x := ⟨_, rfl⟩
      rw [hx] at hx0 hx1 hx2 hx3 hx4 hx5 hx6 hx7 hx8 hl6 hi6 htake hsz
      rw [htake] at hle
      have hle2 := HG.out.2
      have HT := Aside0.mk htake
      clear hx htake hi6 hl6
      simp only [Int.toNat_natCast] at hx0 hx1 hx2 hx3 hx4 hx5 hx6 hx7 hx8
      cases e0
      replace hx0 := bk_stepc hx0 hB
      replace hx1 := bk_stepc hx1 hB
      replace hx2 := bk_stepc hx2 hB
      replace hx3 := bk_stepc hx3 hB
      replace hx4 := bk_stepc hx4 hB
      replace hx5 := bk_stepc hx5 hB
      replace hx6 := bk_stepc hx6 hB
      replace hx7 := bk_stepc hx7 hB
      replace hx8 := bk_stepc hx8 hB
      have p1 : (0 : Int) ≤ (j : Int) := by omega
      go_wp2_with (with_reducible refine is_alloc rfl ?_; refine Rg.stop_here ?_)
      refine ⟨?_⟩
      refine box_event rfl (N := 6) rfl (cs := #[.int .i64 0, .int .i64 0, .string (⟨#[]⟩ : ByteArray), .int .i64 0, .int .i64 0, .int .i64 0, .slice none 0 0, .int .i64 0, .int .i64 0]) (t := 26) (by first | (go_simp; done) | (go_simp; rfl)) ?_
      intro g hg w1 hbx hb1
      have HGg := Aside0.mk hg
      clear hg
      go_wp2_with (with_reducible refine is_store rfl ?_; refine Rg.stop_here ?_)
      refine ⟨?_⟩
      refine wpList_store_box rfl rfl _ _ _ rfl g _ _ _ rfl rfl hbx bk_size26 rfl (by repeat (first | exact List.forall_mem_nil _ | refine List.forall_mem_cons.2 ⟨rfl, ?_⟩)) ?_
      intro w2 hbx2 hst hot
      have hq2 : Below wr.heap.size wr w2 := hb1.trans (hst _ (by rw [HGg.out]; exact Nat.le_refl _))
      obtain ⟨d0, d1, d2, d3, d4, d5, d6, d7, d8⟩ := bk_Box.of hbx2
      have hI2 := hI.below hq2 hI.lt
      have hlk := hI2.look Tryd.underlying54 Tryd.underlying3 (bk_zeroKind _) x.f1 true
      clear hb1 hbx hx0 hx1 hx2 hx3 hx4 hx5 hx6 hx7 hx8 hst hot d0 d3 d4 d5 d6 d7 d8
      rcases bk_line_cases x.f1 with ⟨hk, hm⟩ | ⟨hk, hm⟩ | ⟨T, q, sa, sb, hm, hsab, hk⟩
      · rw [hk] at hlk
        dsimp only at hlk
        go_wp2_with (with_reducible refine is_alloc rfl ?_; refine Rg.stop_here ?_)
        refine ⟨?_⟩
        refine box_event rfl (N := 7) rfl (cs := #[.nilFunc, .bool false, .nilFunc]) (t := 52) (by first | (go_simp; done) | (go_simp; rfl)) ?_
        intro g3 hg3 w3 hby hb3
        have HG3 := Aside0.mk hg3
        clear hg3
        go_wp2_with (with_reducible refine is_store rfl ?_; refine Rg.stop_here ?_)
        refine ⟨?_⟩
        refine wpList_store_box rfl rfl _ _ _ rfl g3 _ _ _ rfl rfl hby bk_size52 rfl (by repeat (first | exact List.forall_mem_nil _ | refine List.forall_mem_cons.2 ⟨rfl, ?_⟩)) ?_
        intro w4 hby2 hst hot
        have hq3 : Below w2.heap.size w2 w4 := hb3.trans (hst _ (by rw [HG3.out]; exact Nat.le_refl _))
        have hq4 : Below wr.heap.size wr w4 := below_step hq2 hq3
        clear hlk hb3 hby hst hot
        go_wp2_with fail
        go_roundw
        case rel => exact ⟨j + 1, by go_num, by omega, by rw [HT.out, hm, List.append_nil]; exact Bk.builder_below hbl hq4, hI.below hq4 hI.lt, hL1.step (fun y v hy => by rw [hq4.block y (Array.getElem?_eq_some_iff.1 hy).1]; exact hy), hL3.step (fun y v hy => by rw [hq4.block y (Array.getElem?_eq_some_iff.1 hy).1]; exact hy), hL4.step (fun y v hy => by rw [hq4.block y (Array.getElem?_eq_some_iff.1 hy).1]; exact hy), hL5.step (fun y v hy => by rw [hq4.block y (Array.getElem?_eq_some_iff.1 hy).1]; exact hy), below_step hB hq4⟩
        case measure => simp [intOf]; omega
      · rw [hk] at hlk
        dsimp only at hlk
        go_wp2_with (with_reducible refine is_alloc rfl ?_; refine Rg.stop_here ?_)
        refine ⟨?_⟩
        refine box_event rfl (N := 7) rfl (cs := #[.nilFunc, .bool false, .nilFunc]) (t := 52) (by first | (go_simp; done) | (go_simp; rfl)) ?_
        intro g3 hg3 w3 hby hb3
        have HG3 := Aside0.mk hg3
        clear hg3
        go_wp2_with (with_reducible refine is_store rfl ?_; refine Rg.stop_here ?_)
        refine ⟨?_⟩
        refine wpList_store_box rfl rfl _ _ _ rfl g3 _ _ _ rfl rfl hby bk_size52 rfl (by repeat (first | exact List.forall_mem_nil _ | refine List.forall_mem_cons.2 ⟨rfl, ?_⟩)) ?_
        intro w4 hby2 hst hot
        have hq3 : Below w2.heap.size w2 w4 := hb3.trans (hst _ (by rw [HG3.out]; exact Nat.le_refl _))
        have hq4 : Below wr.heap.size wr w4 := below_step hq2 hq3
        have z2 := bk_cell hby2 2
        have d2' := bk_stepc d2 hq3
        have hml : (m_join (m_sent x.f2.data.toList)).length + 1 ≤ 1000000000 := by
          rw [hm, List.length_append, List.length_append] at hle
          simp only [List.length_singleton] at hle
          omega
        have hsp := bk_spaced x.f2 w4 hsz (by omega)
        obtain ⟨S, hS⟩ : ∃ S : ByteArray, S = ⟨(m_join (m_sent x.f2.data.toList)).toArray⟩ := ⟨_, rfl⟩
        rw [← hS] at hsp
        have hSl : S.data.toList = m_join (m_sent x.f2.data.toList) := by rw [hS]
        have hSs : S.size = (m_join (m_sent x.f2.data.toList)).length := by rw [hS]; simp [ByteArray.size]
        have HS : Aside0 ((S ++ (⟨#[10]⟩ : ByteArray)).data.toList = m_join (m_sent x.f2.data.toList) ++ [10]) := ⟨by rw [ByteArray.data_append, Array.toList_append, hSl]⟩
        have s1 : S.size + 1 ≤ 9223372036854775807 := by omega
        have s2 : (S ++ (⟨#[10]⟩ : ByteArray)).size = S.size + 1 := by rw [ByteArray.size_append]; rfl
        rw [hm, List.length_append, List.length_append, List.length_singleton] at hle
        have HSL := Aside0.mk hSl
        clear hlk hb3 hby hst hot hS hSl
        go_wp2_with fail
        refine hsp.mono ?_
        rintro e w5 ⟨rfl, hb5⟩
        have hq5 := below_step hq4 hb5
        go_wp2_with (go_at_call 52; refine Rg.stop_here ?_)
        refine ⟨?_⟩
        refine (Bk.writeString w.heap.size w.heap.size _ _ _ (Bk.builder_below hbl hq5) (by rw [Lib.byteCells, List.length_map]; omega) (below_size (below_step hB hq5))).mono ?_
        rintro e w6 ⟨rfl, hbl6, hb6, hk6⟩
        rw [bk_strCells, bk_byteCells_append] at hbl6
        have hk7 : Bk.KeptT 64 5 wr w6 := (Bk.KeptT.of_below hq5).trans hk6
        go_wp2_with fail
        go_roundw
        case rel => exact ⟨j + 1, by go_num, by omega, .inr (by rw [HT.out, hm, ← HS.out]; exact hbl6), hI.step (fun es c he => hk7.maps _ _ _ he), hL1.step (bk_keptLine hk7), hL3.step (bk_keptLine hk7), hL4.step (bk_keptLine hk7), hL5.step (bk_keptLine hk7), (below_step hB hq5).trans hb6⟩
        case measure => simp [intOf]; omega
      · obtain ⟨xa, ya, hxa, hya, hk⟩ := hk L1 L3 L4 L5 wr BL hL1 hL3 hL4 hL5
        rw [hk] at hlk
        dsimp only at hlk
        go_wp2_with (with_reducible refine is_alloc rfl ?_; refine Rg.stop_here ?_)
        refine ⟨?_⟩
        refine box_event rfl (N := 7) rfl (cs := #[.nilFunc, .bool false, .nilFunc]) (t := 52) (by first | (go_simp; done) | (go_simp; rfl)) ?_
        intro g3 hg3 w3 hby hb3
        have HG3 := Aside0.mk hg3
        clear hg3
        go_wp2_with (with_reducible refine is_store rfl ?_; refine Rg.stop_here ?_)
        refine ⟨?_⟩
        refine wpList_store_box rfl rfl _ _ _ rfl g3 _ _ _ rfl rfl hby bk_size52 rfl (by repeat (first | exact List.forall_mem_nil _ | refine List.forall_mem_cons.2 ⟨rfl, ?_⟩)) ?_
        intro w4 hby2 hst hot
        have hq3 : Below w2.heap.size w2 w4 := hb3.trans (hst _ (by rw [HG3.out]; exact Nat.le_refl _))
        have hq4 : Below wr.heap.size wr w4 := below_step hq2 hq3
        have z2 := bk_cell hby2 2
        have d2' := bk_stepc d2 hq3
        rw [hm, List.length_append, List.length_append, List.length_append, List.length_append, List.length_singleton] at hle
        have hla : sa.data.toList.length = sa.size := Array.length_toList
        have hlb : sb.data.toList.length = sb.size := Array.length_toList
        have hlt2 : x.f2.data.toList.length = x.f2.size := Array.length_toList
        have hsp := bk_line66 xa ya sa sb x.f2 w4 (bk_stepc hxa hq4) (bk_stepc hya hq4) (by omega)
        obtain ⟨S, hS⟩ : ∃ S : ByteArray, S = sa ++ x.f2 ++ sb := ⟨_, rfl⟩
        rw [← hS] at hsp
        have hSl : S.data.toList = sa.data.toList ++ x.f2.data.toList ++ sb.data.toList := by rw [hS]; simp [ByteArray.data_append]
        have hSs : S.size = sa.size + x.f2.size + sb.size := by rw [hS, ByteArray.size_append, ByteArray.size_append]
        have HS : Aside0 ((S ++ (⟨#[10]⟩ : ByteArray)).data.toList = sa.data.toList ++ x.f2.data.toList ++ sb.data.toList ++ [10]) := ⟨by rw [ByteArray.data_append, Array.toList_append, hSl]⟩
        have s1 : S.size + 1 ≤ 9223372036854775807 := by omega
        have s2 : (S ++ (⟨#[10]⟩ : ByteArray)).size = S.size + 1 := by rw [ByteArray.size_append]; rfl
        clear hlk hb3 hby hst hot hS hSl hxa hya
        go_wp2_with fail
        refine hsp.mono ?_
        rintro e w5 ⟨rfl, rfl⟩
        have hq5 := hq4
        go_wp2_with (go_at_call 52; refine Rg.stop_here ?_)
        refine ⟨?_⟩
        refine (Bk.writeString w.heap.size w.heap.size _ _ _ (Bk.builder_below hbl hq5) (by rw [Lib.byteCells, List.length_map]; omega) (below_size (below_step hB hq5))).mono ?_
        rintro e w6 ⟨rfl, hbl6, hb6, hk6⟩
        rw [bk_strCells, bk_byteCells_append] at hbl6
        have hk7 : Bk.KeptT 64 5 wr w6 := (Bk.KeptT.of_below hq5).trans hk6
        go_wp2_with fail
        go_roundw
        case rel => exact ⟨j + 1, by go_num, by omega, .inr (by rw [HT.out, hm, ← HS.out]; exact hbl6), hI.step (fun es c he => hk7.maps _ _ _ he), hL1.step (bk_keptLine hk7), hL3.step (bk_keptLine hk7), hL4.step (bk_keptLine hk7), hL5.step (bk_keptLine hk7), (below_step hB hq5).trans hb6⟩
        case measure => simp [intOf]; omega
    · have hjl : j = l0.length := by omega
      subst hjl
      have hd : decide (((l0.length : Nat) : Int) < (l0.length : Int)) = false := by simp
      rw [List.take_length] at hbl
      go_wp2_with (go_at_call 54; refine (Tryd.Builder_String_any _ _ _ _ hbl (below_size hB)).mono ?_; rintro e w5 ⟨rfl, hb5⟩)
      go_ret
      exact ⟨rfl, hB.trans hb5⟩

end Go.Proofs.YtpgjhjlhipikgaaDoor.PK
end
section
namespace Go.Proofs.YtpgjhjlhipikgaaDoor.PK
open Go.RowKit Go.Proofs.YtpgjhjlhipikgaaDoorW.PrintWords Go.Proofs.YtpgjhjlhipikgaaDoorW.PrintLast Go.Proofs.YtpgjhjlhipikgaaDoorW.PrintMore
attribute [local go_sem] max2_int min2_int max_two min_two max_three min_three max_four min_four   -- for this text's walks alone
set_option linter.unusedVariables false
set_option linter.unusedSimpArgs false

/-! ### copydesklaw03_sane: function 17 -/
-- NEEDS Derived.Test.YtpgjhjlhipikgaaDoorKDefs
-- NEEDS Derived.Test.YtpgjhjlhipikgaaDoorKWalks
-- NEEDS Derived.Test.YtpgjhjlhipikgaaDoorKCodec
-- NEEDS Derived.Deep.Cut
-- NEEDS Derived.Deep.RegionWith
theorem pl_rdn (l : List Int) (x : Nat) (h : x < l.length) : rd l (x : Int) = l[x] := by
  simp [rd, List.getD_eq_getElem?_getD, h]
theorem pl_eqi (a b : List Int) (hab : a.length = b.length) (hl : a.length ≤ 9223372036854775807) : ∀ (d k x : Nat), x + d = a.length → d < k →
    slices_Equal_int_int.l0 k a b (a.length : Int) (x : Int) = some (decide (a.drop x = b.drop x))
  | 0, k, x, hx, hk => by
    obtain ⟨k, rfl⟩ : ∃ j, k = j + 1 := ⟨k - 1, by omega⟩
    rw [slices_Equal_int_int.l0, if_neg (by omega), List.drop_eq_nil_of_le (by omega), List.drop_eq_nil_of_le (by omega)]; simp
  | d + 1, k, x, hx, hk => by
    obtain ⟨k, rfl⟩ : ∃ j, k = j + 1 := ⟨k - 1, by omega⟩
    have hlt : x < a.length := by omega
    have hlt2 : x < b.length := by omega
    have hw : wrap64 ((x : Int) + 1) = ((x + 1 : Nat) : Int) := by unfold wrap64; omega
    rw [slices_Equal_int_int.l0, if_pos (by omega), if_pos (by omega), if_pos (by omega), if_pos (by omega), pl_rdn a x hlt, pl_rdn b x hlt2, hw, pl_eqi a b hab hl d k (x + 1) (by omega) (by omega), List.drop_eq_getElem_cons hlt, List.drop_eq_getElem_cons hlt2]
    by_cases h : a[x] = b[x]
    · rw [if_pos h]; exact congrArg some (decide_eq_decide.2 ⟨fun e => by rw [h, e], fun e => (List.cons.inj e).2⟩)
    · rw [if_neg h]; exact congrArg some (decide_eq_false (fun e => h (List.cons.inj e).1)).symm
theorem pl_eqI (a b : List Int) (hl : a.length ≤ 9223372036854775807) (k : Nat) (hk : a.length < k) : slices_Equal_int_int.f k a b = some (decide (a = b)) := by
  unfold slices_Equal_int_int.f
  by_cases h : a.length = b.length
  · rw [if_pos (by omega)]
    exact pl_eqi a b h hl a.length k 0 (by omega) hk
  · rw [if_neg (by omega), decide_eq_false (fun e => h (by rw [e]))]
theorem pl_labelSame (u : Int) (l : List Int) (a d : Int) (u' : Int) (l' : List Int) (a' d' : Int) (hl : l.length ≤ 9223372036854775807) (k : Nat) (hk : l.length < k) :
    label_Same.f k u l a d u' l' a' d' = some (decide (u = u') && decide (l = l') && decide (a = a') && decide (d = d')) := by
  unfold label_Same.f
  rw [pl_eqI l l' hl k hk]
  by_cases h1 : u = u'
  · rw [if_pos h1]
    by_cases h2 : l = l'
    · by_cases h3 : a = a'
      · simp only [Option.bind_some, h1, h2, h3]; simp; by_cases h4 : d = d' <;> simp [h4]
      · simp [h1, h2, h3]
    · simp [h1, h2]
  · rw [if_neg h1]; simp [h1]
theorem pl_same (x y : Bl) (hl : x.f5.f1.length ≤ 9223372036854775807) (k : Nat) (hk : x.f5.f1.length < k) :
    block_Same.f k x.f0 x.f1 x.f2 x.f3 x.f4 x.f5.f0 x.f5.f1 x.f5.f2 x.f5.f3 y.f0 y.f1 y.f2 y.f3 y.f4 y.f5.f0 y.f5.f1 y.f5.f2 y.f5.f3 = some (m_same x y) := by
  unfold block_Same.f m_same
  rw [pl_labelSame _ _ _ _ _ _ _ _ hl k hk]
  simp only [ByteArray.toList_eq, Option.bind_some]
  by_cases h1 : x.f0 = y.f0 <;> by_cases h2 : x.f1 = y.f1 <;> by_cases h3 : x.f2.data.toList = y.f2.data.toList <;> by_cases h4 : x.f3 = y.f3 <;> by_cases h5 : x.f4 = y.f4 <;> simp [h1, h2, h3, h4, h5, Bool.and_assoc]
theorem pl_rdT (l : List Bl) (j : Nat) (h : j < l.length) : rd_T26 l (j : Int) = l[j] := by
  simp [rd_T26, List.getD_eq_getElem?_getD, h]
theorem pl_sameGo (a b : List Bl) (hab : a.length = b.length) (hl : a.length ≤ 9223372036854775807) (M : Nat) (hM : M ≤ 9223372036854775807) (ha : ∀ x ∈ a, x.f5.f1.length ≤ M) : ∀ (d k x : Nat), x + d = a.length → d + M + 1 < k →
    api_Block_49_at_block_Same.l0 k b a (a.length : Int) (x : Int) = some (m_sameL (a.drop x) (b.drop x))
  | 0, k, x, hx, hk => by
    obtain ⟨k, rfl⟩ : ∃ j, k = j + 1 := ⟨k - 1, by omega⟩
    rw [api_Block_49_at_block_Same.l0, if_neg (by omega), List.drop_eq_nil_of_le (by omega), List.drop_eq_nil_of_le (by omega)]; rfl
  | d + 1, k, x, hx, hk => by
    obtain ⟨k, rfl⟩ : ∃ j, k = j + 1 := ⟨k - 1, by omega⟩
    have hlt : x < a.length := by omega
    have hlt2 : x < b.length := by omega
    have hw : wrap64 ((x : Int) + 1) = ((x + 1 : Nat) : Int) := by unfold wrap64; omega
    have hx1 := ha a[x] (List.getElem_mem hlt)
    rw [api_Block_49_at_block_Same.l0, if_pos (by omega), if_pos (by omega), if_pos (by omega), if_pos (by omega), pl_rdT a x hlt, pl_rdT b x hlt2, pl_same a[x] b[x] (by omega) k (by omega), hw, pl_sameGo a b hab hl M hM ha d k (x + 1) (by omega) (by omega), List.drop_eq_getElem_cons hlt, List.drop_eq_getElem_cons hlt2, m_sameL]
    cases m_same a[x] b[x] <;> rfl
theorem pl_sameL_len : ∀ (a b : List Bl), a.length ≠ b.length → m_sameL a b = false
  | [], [], h => absurd rfl h
  | [], _ :: _, _ => rfl
  | _ :: _, [], _ => rfl
  | x :: a, y :: b, h => by rw [m_sameL, pl_sameL_len a b (by simpa using h), Bool.and_false]
theorem pl_sameL (a b : List Bl) (hl : a.length ≤ 9223372036854775807) (M : Nat) (hM : M ≤ 9223372036854775807) (ha : ∀ x ∈ a, x.f5.f1.length ≤ M) (k : Nat) (hk : a.length + M + 1 < k) : block_SameList.f k a b = some (m_sameL a b) := by
  unfold block_SameList.f api_Block_49_at_block_Same.f
  by_cases h : a.length = b.length
  · rw [if_pos (by omega)]
    have := pl_sameGo a b h hl M hM ha a.length k 0 (by omega) hk
    simp only [List.drop_zero] at this
    exact congrArg (fun o : Option Bool => o.bind fun t => some t) this
  · rw [if_neg (by omega), pl_sameL_len a b h]; rfl
def copydesklaw03_sane.f : Option Bool := some true
def bk_c9 (b : Bl) : List Value := [.int .i64 b.f0, .int .i64 b.f1, .string b.f2, .int .i64 b.f3, .int .i64 b.f4, .int .i64 b.f5.f0, .slice none 0 0, .int .i64 b.f5.f2, .int .i64 b.f5.f3]
theorem bk_c9_at : ∀ (bs : List Bl) (j i : Nat) (b : Bl) (u : Value), bs[j]? = some b → (bk_c9 b)[i]? = some u → (bs.flatMap bk_c9)[j * 9 + i]? = some u
  | [], j, i, b, u, h, _ => by simp at h
  | x :: bs, 0, i, b, u, h, hu => by
    have : x = b := by simpa using h
    subst this
    have hi := (List.getElem?_eq_some_iff.1 hu).1
    rw [List.flatMap_cons, List.getElem?_append_left (by simpa using hi), Nat.zero_mul, Nat.zero_add]; exact hu
  | x :: bs, j + 1, i, b, u, h, hu => by
    rw [List.flatMap_cons, List.getElem?_append_right (by show (bk_c9 x).length ≤ _; simp [bk_c9]; omega), show (j + 1) * 9 + i - (bk_c9 x).length = j * 9 + i by simp [bk_c9]; omega]
    exact bk_c9_at bs j i b u (by simpa using h) hu
theorem bk_C_nil (w : World) : Kd.C (Kd.int .i64) w none 0 [] := ⟨rfl, by omega, fun h => absurd h (by omega)⟩
theorem bk_C_blocks (bs : List Bl) (hb : ∀ b ∈ bs, b.f5.f1 = []) (W : World) (g : Nat) (h : W.heap[g]? = some (.cells (bs.flatMap bk_c9).toArray 26 (0, 0))) (hm : bs.length ≤ 9223372036854775807) : Kd.C k26 W (some ⟨g, 0, none⟩) bs.length bs :=
  ⟨rfl, hm, fun _ => ⟨_, rfl, fun j p hp => ⟨bk_c9 p, rfl, by
    have he := hb p (List.mem_of_getElem? hp)
    obtain ⟨f0, f1, f2, f3, f4, ⟨u, l, a, d⟩⟩ := p
    have he' : l = [] := he
    subst he'
    exact k26_mk W (⟨f0, f1, f2, f3, f4, ⟨u, [], a, d⟩⟩ : Bl) (A6 := none) (c6 := 0) (Nat.le_refl 0) (bk_C_nil W), fun i u hu => by
    have h1 := bk_c9_at bs j i p u hp hu
    have hc : W.cell? ⟨g, j * 9 + i, none⟩ = some u := by rw [bk_cell h]; simpa using h1
    show W.cell? ((⟨g, 0, none⟩ : Addr).add (j * 9 + i)) = _
    by_cases hz : j * 9 = 0 ∧ i = 0
    · obtain ⟨z1, z2⟩ := hz
      rw [z1, z2] at hc ⊢; simpa [Addr.add] using hc
    · simpa [Addr.add, hz] using hc⟩⟩⟩
def sn_L : List Bl := [(⟨1, 1, ⟨#[82, 97, 105, 110]⟩, 0, 0, ⟨0, [], 0, 0⟩⟩ : Bl), (⟨2, 2, ⟨#[73, 116, 32, 114, 97, 105, 110, 101, 100, 46, 32, 32, 73, 116, 32, 115, 116, 111, 112, 112, 101, 100, 46]⟩, 0, 0, ⟨0, [], 0, 0⟩⟩ : Bl), (⟨9, 5, ⟨#[114, 97, 105, 110]⟩, 0, 0, ⟨0, [], 0, 0⟩⟩ : Bl)]
def sn_D : List Bl := [(⟨1, 1, ⟨#[82, 97, 105, 110]⟩, 0, 0, ⟨0, [], 0, 0⟩⟩ : Bl), (⟨1, 1, ⟨#[82, 97, 105, 110]⟩, 0, 0, ⟨0, [], 0, 0⟩⟩ : Bl)]
theorem sn_valid1 : m_validB (⟨7, 5, ⟨#[99, 105, 116, 121, 45, 104, 97, 108, 108]⟩, 0, 0, ⟨0, [], 0, 0⟩⟩ : Bl) = true := by decide
theorem sn_valid2 : m_validB (⟨7, 5, ⟨#[67, 105, 116, 121]⟩, 0, 0, ⟨0, [], 0, 0⟩⟩ : Bl) = false := by decide
theorem sn_valid3 : m_validB (⟨7, 3, ⟨#[]⟩, 3, 0, ⟨0, [], 0, 0⟩⟩ : Bl) = false := by decide
theorem sn_validL : m_validL sn_L = true := by decide
theorem sn_validD : m_validL sn_D = false := by decide
theorem sn_sameL : m_sameL sn_L sn_L = true := by decide
theorem sn_sent : (m_sent (⟨#[68, 114, 46, 32, 74, 46, 32, 83, 109, 105, 116, 104, 32, 32, 119, 111, 110, 46, 32, 32, 82, 101, 97, 108, 108, 121, 63, 33, 32, 65, 116, 32, 51, 46, 53, 32, 116, 111, 32, 49]⟩ : ByteArray).data.toList) = [[68, 114, 46], [74, 46, 32, 83, 109, 105, 116, 104, 32, 32, 119, 111, 110, 46], [82, 101, 97, 108, 108, 121, 63, 33], [65, 116, 32, 51, 46, 53, 32, 116, 111, 32, 49]] := by decide
theorem sn_plain : m_plain sn_L = [82, 97, 105, 110, 10, 73, 116, 32, 114, 97, 105, 110, 101, 100, 46, 32, 73, 116, 32, 115, 116, 111, 112, 112, 101, 100, 46, 10, 35, 114, 97, 105, 110, 10] := by decide
set_option maxHeartbeats 4000000 in
set_option maxRecDepth 100000 in
theorem copydesklaw03_sane.calls (r : Bool) (w : World) (h : copydesklaw03_sane.f = some r) :
    Calls Tryd.prog 17 #[] w fun e w' => e = .returned (.bool r) ∧ Below w.heap.size w w' := by
  obtain rfl := Option.some.inj h
  clear h
  go_enter Tryd.func17, Tryd.ntmps17
  go_wp2_with (with_reducible refine is_alloc rfl ?_; refine Rg.stop_here ?_)
  refine ⟨?_⟩
  refine box_event rfl (N := 1) rfl (cs := #[.int .i64 0, .int .i64 0, .string (⟨#[]⟩ : ByteArray), .int .i64 0, .int .i64 0, .int .i64 0, .slice none 0 0, .int .i64 0, .int .i64 0]) (t := 26) (by first | (go_simp; done) | (go_simp; rfl)) ?_
  intro g1 hg_ wa1 hbx hb1
  have HG_ := Aside0.mk hg_
  clear hg_
  go_wp2_with (with_reducible refine is_store rfl ?_; refine Rg.stop_here ?_)
  refine ⟨?_⟩
  refine wpList_store_box rfl rfl _ _ _ rfl g1 _ _ _ rfl rfl hbx bk_size26 rfl (by repeat (first | exact List.forall_mem_nil _ | refine List.forall_mem_cons.2 ⟨rfl, ?_⟩)) ?_
  intro wb1 hx1 hst hot
  have hq1 : Below w.heap.size w wb1 := hb1.trans (hst _ (Nat.le_of_eq HG_.out.symm))
  clear HG_ hbx hb1 hst hot
  go_wp2_with (with_reducible refine is_alloc rfl ?_; refine Rg.stop_here ?_)
  refine ⟨?_⟩
  refine box_event rfl (N := 2) rfl (cs := #[.int .i64 0, .int .i64 0, .string (⟨#[]⟩ : ByteArray), .int .i64 0, .int .i64 0, .int .i64 0, .slice none 0 0, .int .i64 0, .int .i64 0]) (t := 26) (by first | (go_simp; done) | (go_simp; rfl)) ?_
  intro g2 hg_ wa2 hbx hb1
  have HG_ := Aside0.mk hg_
  clear hg_
  go_wp2_with (with_reducible refine is_store rfl ?_; refine Rg.stop_here ?_)
  refine ⟨?_⟩
  refine wpList_store_box rfl rfl _ _ _ rfl g2 _ _ _ rfl rfl hbx bk_size26 rfl (by repeat (first | exact List.forall_mem_nil _ | refine List.forall_mem_cons.2 ⟨rfl, ?_⟩)) ?_
  intro wb2 hx2 hst hot
  have hq2 : Below wb1.heap.size wb1 wb2 := hb1.trans (hst _ (Nat.le_of_eq HG_.out.symm))
  clear HG_ hbx hb1 hst hot
  have hx1b := bk_heap_below hx1 hq2
  go_wp2_with (with_reducible refine is_alloc rfl ?_; refine Rg.stop_here ?_)
  refine ⟨?_⟩
  refine box_event rfl (N := 3) rfl (cs := #[.int .i64 0, .int .i64 0, .string (⟨#[]⟩ : ByteArray), .int .i64 0, .int .i64 0, .int .i64 0, .slice none 0 0, .int .i64 0, .int .i64 0]) (t := 26) (by first | (go_simp; done) | (go_simp; rfl)) ?_
  intro g3 hg_ wa3 hbx hb1
  have HG_ := Aside0.mk hg_
  clear hg_
  go_wp2_with (with_reducible refine is_store rfl ?_; refine Rg.stop_here ?_)
  refine ⟨?_⟩
  refine wpList_store_box rfl rfl _ _ _ rfl g3 _ _ _ rfl rfl hbx bk_size26 rfl (by repeat (first | exact List.forall_mem_nil _ | refine List.forall_mem_cons.2 ⟨rfl, ?_⟩)) ?_
  intro wb3 hx3 hst hot
  have hq3 : Below wb2.heap.size wb2 wb3 := hb1.trans (hst _ (Nat.le_of_eq HG_.out.symm))
  clear HG_ hbx hb1 hst hot
  have hx1c := bk_heap_below hx1b hq3
  have hx2c := bk_heap_below hx2 hq3
  go_wp2_with (with_reducible refine is_build rfl ?_; refine Rg.stop_here ?_)
  refine ⟨?_⟩
  refine lit_event rfl (N := 20) rfl (cs := #[.int .i64 1, .int .i64 1, .string (⟨#[82, 97, 105, 110]⟩ : ByteArray), .int .i64 0, .int .i64 0, .int .i64 0, .slice none 0 0, .int .i64 0, .int .i64 0, .int .i64 2, .int .i64 2, .string (⟨#[73, 116, 32, 114, 97, 105, 110, 101, 100, 46, 32, 32, 73, 116, 32, 115, 116, 111, 112, 112, 101, 100, 46]⟩ : ByteArray), .int .i64 0, .int .i64 0, .int .i64 0, .slice none 0 0, .int .i64 0, .int .i64 0, .int .i64 9, .int .i64 5, .string (⟨#[114, 97, 105, 110]⟩ : ByteArray), .int .i64 0, .int .i64 0, .int .i64 0, .slice none 0 0, .int .i64 0, .int .i64 0]) (t := 26) (n := 3) (by first | (go_simp; done) | (go_simp; rfl)) ?_
  intro gl hgl w4 hl4 hb4
  have hx1d := bk_heap_below hx1c hb4
  have hx2d := bk_heap_below hx2c hb4
  have hx3d := bk_heap_below hx3 hb4
  have HB := Aside0.mk ((below_step (below_step (below_step hq1 hq2) hq3) hb4 : Below w.heap.size w w4))
  clear hx1 hx1b hx1c hx2 hx2c hx3 hq1 hq2 hq3 hb4 hgl
  have hCL : Kd.C k26 w4 (some ⟨gl, 0, none⟩) 3 sn_L := bk_C_blocks sn_L (by decide) w4 gl hl4 (by decide)
  obtain ⟨S, hS⟩ : ∃ S : ByteArray, S = ⟨(m_enc sn_L).toArray⟩ := ⟨_, rfl⟩
  have hSl : S.data.toList = m_enc sn_L := by rw [hS]
  have hSz : S.size ≤ 2000000 := by
    have h1 := cd_enc_len sn_L sn_validL
    rw [← hSl, Array.length_toList] at h1
    exact h1
  have henc : block_Encode.f sn_L = some (S, 0) := by show some (m_encode sn_L) = _; rw [cd_encode_ok _ sn_validL, ← hS]
  have hE := block_Encode.calls (some ⟨gl, 0, none⟩) 3 sn_L S 0 w4 hCL (Nat.le_refl 3) henc
  have HSL := Aside0.mk hSl
  clear hS hSl henc
  go_wp2_with (go_at_call 27; refine Rg.stop_here ?_)
  refine ⟨?_⟩
  refine hE.mono ?_
  rintro e w5 ⟨rfl, hb5⟩
  have hl5 := bk_heap_below hl4 hb5
  have hx1e := bk_heap_below hx1d hb5
  have hx2e := bk_heap_below hx2d hb5
  have hx3e := bk_heap_below hx3d hb5
  have HB5 := Aside0.mk (below_step HB.out hb5)
  have hCL5 := Kd.C_below hCL hb5
  have k0 : w5.cell? ⟨gl, 0, none⟩ = some (.int .i64 1) := bk_cell hl5 0
  have k1 : w5.cell? ⟨gl, 1, none⟩ = some (.int .i64 1) := bk_cell hl5 1
  have k2 : w5.cell? ⟨gl, 2, none⟩ = some (.string (⟨#[82, 97, 105, 110]⟩ : ByteArray)) := bk_cell hl5 2
  have k3 : w5.cell? ⟨gl, 3, none⟩ = some (.int .i64 0) := bk_cell hl5 3
  have k4 : w5.cell? ⟨gl, 4, none⟩ = some (.int .i64 0) := bk_cell hl5 4
  have k5 : w5.cell? ⟨gl, 5, none⟩ = some (.int .i64 0) := bk_cell hl5 5
  have k6 : w5.cell? ⟨gl, 6, none⟩ = some (.slice none 0 0) := bk_cell hl5 6
  have k7 : w5.cell? ⟨gl, 7, none⟩ = some (.int .i64 0) := bk_cell hl5 7
  have k8 : w5.cell? ⟨gl, 8, none⟩ = some (.int .i64 0) := bk_cell hl5 8
  have hencD : block_Encode.f sn_D = some (⟨#[]⟩, 30) := by show some (m_encode sn_D) = _; rw [cd_encode_err _ sn_validD]
  have HX1 := Aside0.mk hx1e
  have HX2 := Aside0.mk hx2e
  have HX3 := Aside0.mk hx3e
  have HL5 := Aside0.mk hl5
  have HCL5 := Aside0.mk hCL5
  clear hl4 hx1d hx2d hx3d hb5 hCL hE hx1e hx2e hx3e hl5 hCL5 HB
  go_upto_region 6 with fail
  go_cut [7, 8] from 26 to 36 (fun v7 v8 wx => v8 = .int .i64 30 ∧ Below w5.heap.size w5 wx)
  case first =>
    go_region_with (go_at_call 27; refine (block_Encode.calls (some ⟨w5.heap.size, 0, none⟩) 2 sn_D ⟨#[]⟩ 30 _ ?hr (Nat.le_refl 2) hencD).mono ?_; (case hr => exact bk_C_blocks sn_D (by decide) _ _ (blk_new w5 _) (by decide)); rintro e w6 ⟨rfl, hb6⟩)
    all_goals (go_wp2_with fail; go_meet; exact ⟨rfl, below_step (below_drew (below_alloc (Below.refl _ _) _)) hb6⟩)
  case rest =>
  obtain ⟨rfl, hb6⟩ := hcut
  have hl6 := bk_heap_below HL5.out hb6
  have hx1f := bk_heap_below HX1.out hb6
  have hx2f := bk_heap_below HX2.out hb6
  have hx3f := bk_heap_below HX3.out hb6
  have hCL6 := Kd.C_below HCL5.out hb6
  have HB6 := Aside0.mk (below_step HB5.out hb6)
  clear k0 k1 k2 k3 k4 k5 k6 k7 k8 hb6 HX1 HX2 HX3 HL5 HCL5 hencD
  have hdec : block_Decode.f S = some (sn_L, 0) := by unfold block_Decode.f; rw [if_pos (by omega), cd_decode_enc sn_L sn_validL S HSL.out]
  have hdec2 : block_Decode.f (S ++ (⟨#[120]⟩ : ByteArray)) = some ([], 10) := by
    unfold block_Decode.f
    rw [if_pos (by rw [ByteArray.size_append]; show S.size + 1 ≤ _; omega), cd_decode_more sn_L sn_validL _ [120] (by rw [ByteArray.data_append, Array.toList_append, HSL.out]) (by decide)]
  have HD1 := Aside0.mk hdec
  have HD2 := Aside0.mk hdec2
  have s1 : S.size + 1 ≤ 9223372036854775807 := by omega
  clear hdec hdec2
  go_wp2_with (go_at_call 29; refine Rg.stop_here ?_)
  refine ⟨?_⟩
  refine (block_Decode.calls S sn_L 0 _ HD1.out).mono ?_
  rintro e w7 ⟨v9, rfl, hS7, hb7⟩
  obtain ⟨A9, c9, hv9, hc9, hC9⟩ := Kd.S_reads hS7
  subst hv9
  have hl7 := bk_heap_below hl6 hb7
  have hx1g := bk_heap_below hx1f hb7
  have hx2g := bk_heap_below hx2f hb7
  have hx3g := bk_heap_below hx3f hb7
  have hCL7 := Kd.C_below hCL6 hb7
  have HB7 := Aside0.mk (below_step HB6.out hb7)
  clear hl6 hx1f hx2f hx3f hCL6 hb7 hS7 HB6
  go_wp2_with (go_at_call 29; refine Rg.stop_here ?_)
  refine ⟨?_⟩
  refine (block_Decode.calls (S ++ (⟨#[120]⟩ : ByteArray)) [] 10 _ HD2.out).mono ?_
  rintro e w8 ⟨v11, rfl, hS8, hb8⟩
  obtain ⟨A11, c11, hv11, _, _⟩ := Kd.S_reads hS8
  subst hv11
  have hx1h := bk_heap_below hx1g hb8
  have hx2h := bk_heap_below hx2g hb8
  have hx3h := bk_heap_below hx3g hb8
  have hCL8 := Kd.C_below hCL7 hb8
  have hC8 := Kd.C_below hC9 hb8
  have HB8 := Aside0.mk (below_step HB7.out hb8)
  clear hl7 hx1g hx2g hx3g hCL7 hC9 hb8 hS8 HB7
  have hsent : block_Sentences.f (⟨#[68, 114, 46, 32, 74, 46, 32, 83, 109, 105, 116, 104, 32, 32, 119, 111, 110, 46, 32, 32, 82, 101, 97, 108, 108, 121, 63, 33, 32, 65, 116, 32, 51, 46, 53, 32, 116, 111, 32, 49]⟩ : ByteArray) = some [⟨#[68, 114, 46]⟩, ⟨#[74, 46, 32, 83, 109, 105, 116, 104, 32, 32, 119, 111, 110, 46]⟩, ⟨#[82, 101, 97, 108, 108, 121, 63, 33]⟩, ⟨#[65, 116, 32, 51, 46, 53, 32, 116, 111, 32, 49]⟩] := by
    unfold block_Sentences.f
    rw [if_pos (by decide), m_sentences, sn_sent]; rfl
  go_wp2_with (go_at_call 32; refine Rg.stop_here ?_)
  refine ⟨?_⟩
  refine (block_Sentences.calls _ _ _ hsent).mono ?_
  rintro e w9 ⟨v13, rfl, hR9, hb9⟩
  have hx1i := bk_heap_below hx1h hb9
  have hx2i := bk_heap_below hx2h hb9
  have hx3i := bk_heap_below hx3h hb9
  have hCL9 := Kd.C_below hCL8 hb9
  have hC9 := Kd.C_below hC8 hb9
  have HB9 := Aside0.mk (below_step HB8.out hb9)
  clear hx1h hx2h hx3h hCL8 hC8 hb9 HB8 hsent
  obtain ⟨d0, d1, d2, d3, d4, d5, d6, d7, d8⟩ := bk_Box.of hx1i
  go_wp2_with (go_at_call 19; refine Rg.stop_here ?_)
  refine ⟨?_⟩
  refine (block_Valid.calls 7 5 ⟨#[99, 105, 116, 121, 45, 104, 97, 108, 108]⟩ 0 0 0 none 0 [] 0 0 true _ (bk_C_nil _) (Nat.le_refl _) (congrArg some sn_valid1)).mono ?_
  rintro e w10 ⟨rfl, hv10⟩
  clear d0 d1 d2 d3 d4 d5 d6 d7 d8
  have hx2j := bk_heap_below hx2i hv10
  have hx3j := bk_heap_below hx3i hv10
  obtain ⟨d0, d1, d2, d3, d4, d5, d6, d7, d8⟩ := bk_Box.of hx2j
  go_wp2_with (go_at_call 19; refine Rg.stop_here ?_)
  refine ⟨?_⟩
  refine (block_Valid.calls 7 5 ⟨#[67, 105, 116, 121]⟩ 0 0 0 none 0 [] 0 0 false _ (bk_C_nil _) (Nat.le_refl _) (congrArg some sn_valid2)).mono ?_
  rintro e w11 ⟨rfl, hv11⟩
  clear d0 d1 d2 d3 d4 d5 d6 d7 d8
  have hx3k := bk_heap_below hx3j hv11
  obtain ⟨d0, d1, d2, d3, d4, d5, d6, d7, d8⟩ := bk_Box.of hx3k
  go_wp2_with (go_at_call 19; refine Rg.stop_here ?_)
  refine ⟨?_⟩
  refine (block_Valid.calls 7 3 ⟨#[]⟩ 3 0 0 none 0 [] 0 0 false _ (bk_C_nil _) (Nat.le_refl _) (congrArg some sn_valid3)).mono ?_
  rintro e w12 ⟨rfl, hv12⟩
  clear d0 d1 d2 d3 d4 d5 d6 d7 d8
  have hb12 := below_step (below_step hv10 hv11) hv12
  have hCL12 := Kd.C_below hCL9 hb12
  have hC12 := Kd.C_below hC9 hb12
  have hR12 := Kd.R_below hR9 hb12
  have HB12 := Aside0.mk (below_step HB9.out hb12)
  clear hx1i hx2i hx2j hx3i hx3j hx3k hCL9 hC9 hv10 hv11 hv12 hb12 hR9 HB9
  have hsl : block_SameList.f 100 sn_L sn_L = some true := by rw [pl_sameL sn_L sn_L (by decide) 0 (by decide) (by decide) 100 (by decide), sn_sameL]
  go_wp2_with (go_at_call 25; refine Rg.stop_here ?_)
  refine ⟨?_⟩
  refine (block_SameList.calls 100 (some ⟨gl, 0, none⟩) 3 sn_L A9 c9 sn_L true _ hCL12 (Nat.le_refl 3) hC12 hc9 hsl).mono ?_
  rintro e w13 ⟨rfl, hb13⟩
  have hCL13 := Kd.C_below hCL12 hb13
  have hR13 := Kd.R_below hR12 hb13
  have HB13 := Aside0.mk (below_step HB12.out hb13)
  clear hCL12 hC12 hR12 hb13 HB12 hsl
  obtain ⟨gs, cap, hv13, _, _, _⟩ := Kd.R_form hR13 (by decide)
  subst hv13
  have hC13 := (Kd.R_reads' hR13).2.2
  have q0 : w13.cell? ⟨gs, 0, none⟩ = some (.string (⟨#[68, 114, 46]⟩ : ByteArray)) := by
    obtain ⟨ad, e0, hx⟩ := Kd.at_string hC13 0 (by decide) (by decide)
    cases e0
    exact hx
  have q1 : w13.cell? ⟨gs, 1, none⟩ = some (.string (⟨#[74, 46, 32, 83, 109, 105, 116, 104, 32, 32, 119, 111, 110, 46]⟩ : ByteArray)) := by
    obtain ⟨ad, e0, hx⟩ := Kd.at_string hC13 1 (by decide) (by decide)
    cases e0
    exact hx
  have q2 : w13.cell? ⟨gs, 2, none⟩ = some (.string (⟨#[82, 101, 97, 108, 108, 121, 63, 33]⟩ : ByteArray)) := by
    obtain ⟨ad, e0, hx⟩ := Kd.at_string hC13 2 (by decide) (by decide)
    cases e0
    exact hx
  have q3 : w13.cell? ⟨gs, 3, none⟩ = some (.string (⟨#[65, 116, 32, 51, 46, 53, 32, 116, 111, 32, 49]⟩ : ByteArray)) := by
    obtain ⟨ad, e0, hx⟩ := Kd.at_string hC13 3 (by decide) (by decide)
    cases e0
    exact hx
  have hplain : block_Plain.f sn_L = some (⟨#[82, 97, 105, 110, 10, 73, 116, 32, 114, 97, 105, 110, 101, 100, 46, 32, 73, 116, 32, 115, 116, 111, 112, 112, 101, 100, 46, 10, 35, 114, 97, 105, 110, 10]⟩ : ByteArray) := by
    unfold block_Plain.f
    rw [if_pos (by rw [sn_plain]; decide), sn_plain]
  have HC13 := Aside0.mk hCL13
  clear hC13 hR13 hCL13
  go_wp2_with (go_at_call 34; refine Rg.stop_here ?_)
  refine ⟨?_⟩
  refine (block_Plain.calls (some ⟨gl, 0, none⟩) 3 sn_L _ _ HC13.out (Nat.le_refl 3) hplain).mono ?_
  rintro e w14 ⟨rfl, hb14⟩
  go_wp2
  go_ret
  exact ⟨by simp, below_step HB13.out hb14⟩

end Go.Proofs.YtpgjhjlhipikgaaDoor.PK
end
section
namespace Go.Proofs.YtpgjhjlhipikgaaDoor.PK
open Go.RowKit Go.Proofs.YtpgjhjlhipikgaaDoorW.PrintWords Go.Proofs.YtpgjhjlhipikgaaDoorW.PrintLast Go.Proofs.YtpgjhjlhipikgaaDoorW.PrintMore
attribute [local go_sem] max2_int min2_int max_two min_two max_three min_three max_four min_four   -- for this text's walks alone
set_option linter.unusedVariables false
set_option linter.unusedSimpArgs false

/-! ### copydesklaw03_BlockDecodedAgain: function 10 -/
def copydesklaw03_BlockDecodedAgain.f (a0 : ByteArray) : Option (Bool) := (copydesklaw03_sane.f).bind fun t308 => (if 0 ≤ (mn (a0.size : Int) 20000) then (if (mn (a0.size : Int) 20000) ≤ (a0.size : Int) then ((block_Decode.f (a0.extract 0 ((mn (a0.size : Int) 20000) : Int).toNat)).bind fun bt309 => (if bt309.2 = 0 then ((block_Encode.f bt309.1).bind fun bt313 => (if t308 = true then (if bt313.2 = 0 then (if (a0.extract 0 ((mn (a0.size : Int) 20000) : Int).toNat).toList = bt313.1.toList then ((block_ValidList.f bt309.1).bind fun t315 => (some t315)) else (some false)) else (some false)) else (some false))) else (if t308 = true then (if (bt309.1.length : Int) = 0 then (if bt309.2 = 10 then (some true) else (some (bt309.2 == 30))) else (some false)) else (some false)))) else (none)) else (none))
set_option maxHeartbeats 8000000 in
set_option maxRecDepth 100000 in
theorem copydesklaw03_BlockDecodedAgain.calls (a0 : ByteArray) (r : Bool) (w : World) (h : copydesklaw03_BlockDecodedAgain.f a0 = some r) :
    Calls Tryd.prog 10 #[.string a0] w fun e w' => e = .returned (.bool r) ∧ Below w.heap.size w w' := by
  have HB := Aside0.mk (Below.refl w.heap.size w)
  have H : ((copydesklaw03_sane.f).bind fun t308 => (if 0 ≤ (mn (a0.size : Int) 20000) then (if (mn (a0.size : Int) 20000) ≤ (a0.size : Int) then ((block_Decode.f (a0.extract 0 ((mn (a0.size : Int) 20000) : Int).toNat)).bind fun bt309 => (if bt309.2 = 0 then ((block_Encode.f bt309.1).bind fun bt313 => (if t308 = true then (if bt313.2 = 0 then (if (a0.extract 0 ((mn (a0.size : Int) 20000) : Int).toNat).toList = bt313.1.toList then ((block_ValidList.f bt309.1).bind fun t315 => (some t315)) else (some false)) else (some false)) else (some false))) else (if t308 = true then (if (bt309.1.length : Int) = 0 then (if bt309.2 = 10 then (some true) else (some (bt309.2 == 30))) else (some false)) else (some false)))) else (none)) else (none))) = some r := h
  clear h
  replace H := Option.bind_eq_some_iff.mp H
  obtain ⟨t308, A20, H⟩ := H
  replace H : (if 0 ≤ (mn (a0.size : Int) 20000) then (if (mn (a0.size : Int) 20000) ≤ (a0.size : Int) then ((block_Decode.f (a0.extract 0 ((mn (a0.size : Int) 20000) : Int).toNat)).bind fun bt309 => (if bt309.2 = 0 then ((block_Encode.f bt309.1).bind fun bt313 => (if t308 = true then (if bt313.2 = 0 then (if (a0.extract 0 ((mn (a0.size : Int) 20000) : Int).toNat).toList = bt313.1.toList then ((block_ValidList.f bt309.1).bind fun t315 => (some t315)) else (some false)) else (some false)) else (some false))) else (if t308 = true then (if (bt309.1.length : Int) = 0 then (if bt309.2 = 10 then (some true) else (some (bt309.2 == 30))) else (some false)) else (some false)))) else (none)) else (none)) = some r := H
  have A2 := Aside0.mk A20
  clear A20
  obtain ⟨ji3, hji3⟩ : ∃ j_ : Int, (mn (a0.size : Int) 20000) = j_ := ⟨_, rfl⟩
  replace H : (if 0 ≤ (ji3) then (if (ji3) ≤ (a0.size : Int) then ((block_Decode.f (a0.extract 0 ((ji3) : Int).toNat)).bind fun bt309 => (if bt309.2 = 0 then ((block_Encode.f bt309.1).bind fun bt313 => (if t308 = true then (if bt313.2 = 0 then (if (a0.extract 0 ((ji3) : Int).toNat).toList = bt313.1.toList then ((block_ValidList.f bt309.1).bind fun t315 => (some t315)) else (some false)) else (some false)) else (some false))) else (if t308 = true then (if (bt309.1.length : Int) = 0 then (if bt309.2 = 10 then (some true) else (some (bt309.2 == 30))) else (some false)) else (some false)))) else (none)) else (none)) = some r := by first | (rw [hji3] at H; exact H) | (simp only [hji3] at H ⊢; exact H)
  (try rw [hji3] at A2)
  (try (have hji3h : ji3 ≤ 20000 := by (rw [← hji3]; unfold mn; (repeat' split) <;> omega)))
  (try (have hji3g : ji3 ≤ 64 := by omega))
  (try (have hji3l : 0 ≤ ji3 := by (rw [← hji3]; unfold mn; (repeat' split) <;> omega)))
  (try (have hji3m : 0 ≤ ji3 := by omega))
  have hji3_ : (if 20000 < (a0.size : Int) then 20000 else (a0.size : Int)) = ji3 := hji3
  by_cases c4 : 0 ≤ (ji3)
  · rw [if_pos c4] at H
    have c4b0 := eq_true c4
    have c4b1 : decide (0 ≤ (ji3)) = true := decide_eq_true c4
    clear c4
    by_cases c5 : (ji3) ≤ (a0.size : Int)
    · rw [if_pos c5] at H
      have c5b0 := eq_true c5
      have c5b1 : decide ((ji3) ≤ (a0.size : Int)) = true := decide_eq_true c5
      clear c5
      replace H := Option.bind_eq_some_iff.mp H
      obtain ⟨⟨t309, t310⟩, A60, H⟩ := H
      replace H : (if t310 = 0 then ((block_Encode.f t309).bind fun bt313 => (if t308 = true then (if bt313.2 = 0 then (if (a0.extract 0 ((ji3) : Int).toNat).toList = bt313.1.toList then ((block_ValidList.f t309).bind fun t315 => (some t315)) else (some false)) else (some false)) else (some false))) else (if t308 = true then (if (t309.length : Int) = 0 then (if t310 = 10 then (some true) else (some (t310 == 30))) else (some false)) else (some false))) = some r := H
      have A6 := Aside0.mk A60
      clear A60
      by_cases c7 : t310 = 0
      · rw [if_pos c7] at H
        have c7b0 : (t310 == 0) = true := beq_iff_eq.mpr c7
        have c7b1 : (t310 != 0) = false := bne_eq_false_iff_eq.mpr c7
        clear c7
        replace H := Option.bind_eq_some_iff.mp H
        obtain ⟨⟨t313, t314⟩, A80, H⟩ := H
        replace H : (if t308 = true then (if t314 = 0 then (if (a0.extract 0 ((ji3) : Int).toNat).toList = t313.toList then ((block_ValidList.f t309).bind fun t315 => (some t315)) else (some false)) else (some false)) else (some false)) = some r := H
        have A8 := Aside0.mk A80
        clear A80
        by_cases c9 : t308 = true
        · subst c9
          have H1 : (if t314 = 0 then (if (a0.extract 0 ((ji3) : Int).toNat).toList = t313.toList then ((block_ValidList.f t309).bind fun t315 => (some t315)) else (some false)) else (some false)) = some r := by rw [if_pos rfl] at H; exact H
          clear H
          have H := H1
          clear H1
          by_cases c10 : t314 = 0
          · rw [if_pos c10] at H
            have c10b0 : (t314 == 0) = true := beq_iff_eq.mpr c10
            have c10b1 : (t314 != 0) = false := bne_eq_false_iff_eq.mpr c10
            clear c10
            by_cases c11 : (a0.extract 0 ((ji3) : Int).toNat).toList = t313.toList
            · rw [if_pos c11] at H
              have c11b0 : ((a0.extract 0 ((ji3) : Int).toNat).toList == t313.toList) = true := beq_iff_eq.mpr c11
              have c11b1 : ((a0.extract 0 ((ji3) : Int).toNat).toList != t313.toList) = false := bne_eq_false_iff_eq.mpr c11
              clear c11
              replace H := Option.bind_eq_some_iff.mp H
              obtain ⟨t315, A120, H⟩ := H
              replace H : (some t315) = some r := H
              have A12 := Aside0.mk A120
              clear A120
              obtain rfl := Option.some.inj H
              go_enter Tryd.func10, Tryd.ntmps10
              go_wp2_with (first | ((with_reducible refine gate_callee (f := 17) rfl ?_); refine goesL_ (some 8) rfl rfl Tryd.func17 (by kernel_rfl) rfl #[] rfl (by (try simp only [List.map_toArray, List.map_cons, List.map_nil]); first | done | rfl | (simp only [List.length_drop, List.length_take]; rfl)) ?_; (with_reducible refine (copydesklaw03_sane.calls  true _ A2.out).mono ?_); rintro e w13 ⟨rfl, hb⟩; refine ⟨_, rfl, ?_⟩; have n0_ := Aside0.mk (below_step (by repeat (first | (with_reducible first | exact HB.out | apply below_alloc | apply pw_below_drewN | apply below_drew1) | exact HB.out)) hb); clear HB; have HB := n0_; clear n0_; (try clear hb); (try clear hb2); (try clear hk); (try clear hi)) | ((with_reducible refine gate_callee (f := 29) rfl ?_); refine goesL_ (some 16) rfl rfl Tryd.func29 (by kernel_rfl) rfl #[.string (a0.extract 0 ((ji3) : Int).toNat)] rfl (by (try simp only [List.map_toArray, List.map_cons, List.map_nil]); first | done | (simp only [hji3]; rfl) | rfl | (simp only [List.length_drop, List.length_take]; rfl)) ?_; (with_reducible refine (block_Decode.calls (a0.extract 0 ((ji3) : Int).toNat) t309 t310 _ A6.out).mono ?_); rintro e w14 ⟨v311, rfl, ho0, hb⟩; refine ⟨_, rfl, ?_⟩; have n0_ := Aside0.mk (Kd.S_lower ho0 (below_size (by repeat (first | (with_reducible first | exact HB.out | apply below_alloc | apply pw_below_drewN | apply below_drew1) | exact HB.out)))); have n1_ := Aside0.mk (below_step (by repeat (first | (with_reducible first | exact HB.out | apply below_alloc | apply pw_below_drewN | apply below_drew1) | exact HB.out)) hb); clear HB; have HO312 := n0_; have HB := n1_; clear n0_ n1_; (try clear hb); (try clear hb2); (try clear hk); (try clear hi); (try clear ho0); obtain ⟨Ao15, co15, eo15⟩ := Kd.S_slice HO312.out; subst eo15) | ((with_reducible refine gate_callee (f := 27) rfl ?_); refine goesL_ (some 37) rfl rfl Tryd.func27 (by kernel_rfl) rfl #[.slice Ao15 t309.length co15] rfl (by (try simp only [List.map_toArray, List.map_cons, List.map_nil]); first | done | rfl | (simp only [List.length_drop, List.length_take]; rfl)) ?_; (with_reducible refine (block_Encode.calls _ _ t309 t313 t314 _ ?side1 ?side2 A8.out).mono ?_); (case side1 => repeat (first | exact (Kd.S_reads' HO312.out).2.2 | (with_reducible refine Kd.C_alloc ?_ _) | (with_reducible refine Kd.C_drewN ?_ _) | (with_reducible refine Kd.C_drew ?_))); (case side2 => exact (Kd.S_reads' HO312.out).2.1); rintro e w16 ⟨rfl, hb⟩; refine ⟨_, rfl, ?_⟩; have n0_ := Aside0.mk (Kd.S_below (by (with_reducible repeat (first | apply Kd.S_alloc | apply Kd.S_drewN | apply Kd.S_drew)); exact HO312.out) hb); have n1_ := Aside0.mk (below_step (by repeat (first | (with_reducible first | exact HB.out | apply below_alloc | apply pw_below_drewN | apply below_drew1) | exact HB.out)) hb); clear HO312; clear HB; have HO312 := n0_; have HB := n1_; clear n0_ n1_; (try clear hb); (try clear hb2); (try clear hk); (try clear hi)) | (go_at_call 21; (with_reducible refine (block_ValidList.calls _ _ t309 t315 _ ?side1 ?side2 A12.out).mono ?_); (case side1 => repeat (first | exact (Kd.S_reads' HO312.out).2.2 | (with_reducible refine Kd.C_alloc ?_ _) | (with_reducible refine Kd.C_drewN ?_ _) | (with_reducible refine Kd.C_drew ?_))); (case side2 => exact (Kd.S_reads' HO312.out).2.1); rintro e w17 ⟨rfl, hb⟩; have n0_ := Aside0.mk (Kd.S_below (by (with_reducible repeat (first | apply Kd.S_alloc | apply Kd.S_drewN | apply Kd.S_drew)); exact HO312.out) hb); have n1_ := Aside0.mk (below_step (by repeat (first | (with_reducible first | exact HB.out | apply below_alloc | apply pw_below_drewN | apply below_drew1) | exact HB.out)) hb); clear HO312; clear HB; have HO312 := n0_; have HB := n1_; clear n0_ n1_; (try clear hb); (try clear hb2); (try clear hk); (try clear hi)))
              go_ret
              exact ⟨by first | rfl | (simp [errW_none, errW_some] <;> rfl) | (simp only [← hji3]; first | rfl | (simp [errW_none, errW_some] <;> rfl)) | (simp [*, errW_none, errW_some] <;> rfl), by repeat (first | (with_reducible first | exact HB.out | apply below_alloc | apply pw_below_drewN | apply below_drew1) | exact HB.out)⟩
            · rw [if_neg c11] at H
              have c11b0 : ((a0.extract 0 ((ji3) : Int).toNat).toList == t313.toList) = false := beq_eq_false_iff_ne.mpr c11
              have c11b1 : ((a0.extract 0 ((ji3) : Int).toNat).toList != t313.toList) = true := bne_iff_ne.mpr c11
              obtain rfl := Option.some.inj H
              go_enter Tryd.func10, Tryd.ntmps10
              go_wp2_with (first | ((with_reducible refine gate_callee (f := 17) rfl ?_); refine goesL_ (some 8) rfl rfl Tryd.func17 (by kernel_rfl) rfl #[] rfl (by (try simp only [List.map_toArray, List.map_cons, List.map_nil]); first | done | rfl | (simp only [List.length_drop, List.length_take]; rfl)) ?_; (with_reducible refine (copydesklaw03_sane.calls  true _ A2.out).mono ?_); rintro e w18 ⟨rfl, hb⟩; refine ⟨_, rfl, ?_⟩; have n0_ := Aside0.mk (below_step (by repeat (first | (with_reducible first | exact HB.out | apply below_alloc | apply pw_below_drewN | apply below_drew1) | exact HB.out)) hb); clear HB; have HB := n0_; clear n0_; (try clear hb); (try clear hb2); (try clear hk); (try clear hi)) | ((with_reducible refine gate_callee (f := 29) rfl ?_); refine goesL_ (some 16) rfl rfl Tryd.func29 (by kernel_rfl) rfl #[.string (a0.extract 0 ((ji3) : Int).toNat)] rfl (by (try simp only [List.map_toArray, List.map_cons, List.map_nil]); first | done | (simp only [hji3]; rfl) | rfl | (simp only [List.length_drop, List.length_take]; rfl)) ?_; (with_reducible refine (block_Decode.calls (a0.extract 0 ((ji3) : Int).toNat) t309 t310 _ A6.out).mono ?_); rintro e w19 ⟨v311, rfl, ho0, hb⟩; refine ⟨_, rfl, ?_⟩; have n0_ := Aside0.mk (Kd.S_lower ho0 (below_size (by repeat (first | (with_reducible first | exact HB.out | apply below_alloc | apply pw_below_drewN | apply below_drew1) | exact HB.out)))); have n1_ := Aside0.mk (below_step (by repeat (first | (with_reducible first | exact HB.out | apply below_alloc | apply pw_below_drewN | apply below_drew1) | exact HB.out)) hb); clear HB; have HO312 := n0_; have HB := n1_; clear n0_ n1_; (try clear hb); (try clear hb2); (try clear hk); (try clear hi); (try clear ho0); obtain ⟨Ao20, co20, eo20⟩ := Kd.S_slice HO312.out; subst eo20) | ((with_reducible refine gate_callee (f := 27) rfl ?_); refine goesL_ (some 37) rfl rfl Tryd.func27 (by kernel_rfl) rfl #[.slice Ao20 t309.length co20] rfl (by (try simp only [List.map_toArray, List.map_cons, List.map_nil]); first | done | rfl | (simp only [List.length_drop, List.length_take]; rfl)) ?_; (with_reducible refine (block_Encode.calls _ _ t309 t313 t314 _ ?side1 ?side2 A8.out).mono ?_); (case side1 => repeat (first | exact (Kd.S_reads' HO312.out).2.2 | (with_reducible refine Kd.C_alloc ?_ _) | (with_reducible refine Kd.C_drewN ?_ _) | (with_reducible refine Kd.C_drew ?_))); (case side2 => exact (Kd.S_reads' HO312.out).2.1); rintro e w21 ⟨rfl, hb⟩; refine ⟨_, rfl, ?_⟩; have n0_ := Aside0.mk (Kd.S_below (by (with_reducible repeat (first | apply Kd.S_alloc | apply Kd.S_drewN | apply Kd.S_drew)); exact HO312.out) hb); have n1_ := Aside0.mk (below_step (by repeat (first | (with_reducible first | exact HB.out | apply below_alloc | apply pw_below_drewN | apply below_drew1) | exact HB.out)) hb); clear HO312; clear HB; have HO312 := n0_; have HB := n1_; clear n0_ n1_; (try clear hb); (try clear hb2); (try clear hk); (try clear hi)))
              go_ret
              exact ⟨by first | rfl | (simp [errW_none, errW_some] <;> rfl) | (simp only [← hji3]; first | rfl | (simp [errW_none, errW_some] <;> rfl)) | (simp [*, errW_none, errW_some] <;> rfl), by repeat (first | (with_reducible first | exact HB.out | apply below_alloc | apply pw_below_drewN | apply below_drew1) | exact HB.out)⟩
          · rw [if_neg c10] at H
            have c10b0 : (t314 == 0) = false := beq_eq_false_iff_ne.mpr c10
            have c10b1 : (t314 != 0) = true := bne_iff_ne.mpr c10
            obtain rfl := Option.some.inj H
            go_enter Tryd.func10, Tryd.ntmps10
            go_wp2_with (first | ((with_reducible refine gate_callee (f := 17) rfl ?_); refine goesL_ (some 8) rfl rfl Tryd.func17 (by kernel_rfl) rfl #[] rfl (by (try simp only [List.map_toArray, List.map_cons, List.map_nil]); first | done | rfl | (simp only [List.length_drop, List.length_take]; rfl)) ?_; (with_reducible refine (copydesklaw03_sane.calls  true _ A2.out).mono ?_); rintro e w22 ⟨rfl, hb⟩; refine ⟨_, rfl, ?_⟩; have n0_ := Aside0.mk (below_step (by repeat (first | (with_reducible first | exact HB.out | apply below_alloc | apply pw_below_drewN | apply below_drew1) | exact HB.out)) hb); clear HB; have HB := n0_; clear n0_; (try clear hb); (try clear hb2); (try clear hk); (try clear hi)) | ((with_reducible refine gate_callee (f := 29) rfl ?_); refine goesL_ (some 16) rfl rfl Tryd.func29 (by kernel_rfl) rfl #[.string (a0.extract 0 ((ji3) : Int).toNat)] rfl (by (try simp only [List.map_toArray, List.map_cons, List.map_nil]); first | done | (simp only [hji3]; rfl) | rfl | (simp only [List.length_drop, List.length_take]; rfl)) ?_; (with_reducible refine (block_Decode.calls (a0.extract 0 ((ji3) : Int).toNat) t309 t310 _ A6.out).mono ?_); rintro e w23 ⟨v311, rfl, ho0, hb⟩; refine ⟨_, rfl, ?_⟩; have n0_ := Aside0.mk (Kd.S_lower ho0 (below_size (by repeat (first | (with_reducible first | exact HB.out | apply below_alloc | apply pw_below_drewN | apply below_drew1) | exact HB.out)))); have n1_ := Aside0.mk (below_step (by repeat (first | (with_reducible first | exact HB.out | apply below_alloc | apply pw_below_drewN | apply below_drew1) | exact HB.out)) hb); clear HB; have HO312 := n0_; have HB := n1_; clear n0_ n1_; (try clear hb); (try clear hb2); (try clear hk); (try clear hi); (try clear ho0); obtain ⟨Ao24, co24, eo24⟩ := Kd.S_slice HO312.out; subst eo24) | ((with_reducible refine gate_callee (f := 27) rfl ?_); refine goesL_ (some 37) rfl rfl Tryd.func27 (by kernel_rfl) rfl #[.slice Ao24 t309.length co24] rfl (by (try simp only [List.map_toArray, List.map_cons, List.map_nil]); first | done | rfl | (simp only [List.length_drop, List.length_take]; rfl)) ?_; (with_reducible refine (block_Encode.calls _ _ t309 t313 t314 _ ?side1 ?side2 A8.out).mono ?_); (case side1 => repeat (first | exact (Kd.S_reads' HO312.out).2.2 | (with_reducible refine Kd.C_alloc ?_ _) | (with_reducible refine Kd.C_drewN ?_ _) | (with_reducible refine Kd.C_drew ?_))); (case side2 => exact (Kd.S_reads' HO312.out).2.1); rintro e w25 ⟨rfl, hb⟩; refine ⟨_, rfl, ?_⟩; have n0_ := Aside0.mk (Kd.S_below (by (with_reducible repeat (first | apply Kd.S_alloc | apply Kd.S_drewN | apply Kd.S_drew)); exact HO312.out) hb); have n1_ := Aside0.mk (below_step (by repeat (first | (with_reducible first | exact HB.out | apply below_alloc | apply pw_below_drewN | apply below_drew1) | exact HB.out)) hb); clear HO312; clear HB; have HO312 := n0_; have HB := n1_; clear n0_ n1_; (try clear hb); (try clear hb2); (try clear hk); (try clear hi)))
            go_ret
            exact ⟨by first | rfl | (simp [errW_none, errW_some] <;> rfl) | (simp only [← hji3]; first | rfl | (simp [errW_none, errW_some] <;> rfl)) | (simp [*, errW_none, errW_some] <;> rfl), by repeat (first | (with_reducible first | exact HB.out | apply below_alloc | apply pw_below_drewN | apply below_drew1) | exact HB.out)⟩
        · replace c9 := Bool.eq_false_iff.mpr c9
          subst c9
          have H1 : (some false) = some r := by rw [if_neg (show ¬ (false = true) by decide)] at H; exact H
          clear H
          have H := H1
          clear H1
          obtain rfl := Option.some.inj H
          go_enter Tryd.func10, Tryd.ntmps10
          go_wp2_with (first | ((with_reducible refine gate_callee (f := 17) rfl ?_); refine goesL_ (some 8) rfl rfl Tryd.func17 (by kernel_rfl) rfl #[] rfl (by (try simp only [List.map_toArray, List.map_cons, List.map_nil]); first | done | rfl | (simp only [List.length_drop, List.length_take]; rfl)) ?_; (with_reducible refine (copydesklaw03_sane.calls  false _ A2.out).mono ?_); rintro e w26 ⟨rfl, hb⟩; refine ⟨_, rfl, ?_⟩; have n0_ := Aside0.mk (below_step (by repeat (first | (with_reducible first | exact HB.out | apply below_alloc | apply pw_below_drewN | apply below_drew1) | exact HB.out)) hb); clear HB; have HB := n0_; clear n0_; (try clear hb); (try clear hb2); (try clear hk); (try clear hi)) | ((with_reducible refine gate_callee (f := 29) rfl ?_); refine goesL_ (some 16) rfl rfl Tryd.func29 (by kernel_rfl) rfl #[.string (a0.extract 0 ((ji3) : Int).toNat)] rfl (by (try simp only [List.map_toArray, List.map_cons, List.map_nil]); first | done | (simp only [hji3]; rfl) | rfl | (simp only [List.length_drop, List.length_take]; rfl)) ?_; (with_reducible refine (block_Decode.calls (a0.extract 0 ((ji3) : Int).toNat) t309 t310 _ A6.out).mono ?_); rintro e w27 ⟨v311, rfl, ho0, hb⟩; refine ⟨_, rfl, ?_⟩; have n0_ := Aside0.mk (Kd.S_lower ho0 (below_size (by repeat (first | (with_reducible first | exact HB.out | apply below_alloc | apply pw_below_drewN | apply below_drew1) | exact HB.out)))); have n1_ := Aside0.mk (below_step (by repeat (first | (with_reducible first | exact HB.out | apply below_alloc | apply pw_below_drewN | apply below_drew1) | exact HB.out)) hb); clear HB; have HO312 := n0_; have HB := n1_; clear n0_ n1_; (try clear hb); (try clear hb2); (try clear hk); (try clear hi); (try clear ho0); obtain ⟨Ao28, co28, eo28⟩ := Kd.S_slice HO312.out; subst eo28) | ((with_reducible refine gate_callee (f := 27) rfl ?_); refine goesL_ (some 37) rfl rfl Tryd.func27 (by kernel_rfl) rfl #[.slice Ao28 t309.length co28] rfl (by (try simp only [List.map_toArray, List.map_cons, List.map_nil]); first | done | rfl | (simp only [List.length_drop, List.length_take]; rfl)) ?_; (with_reducible refine (block_Encode.calls _ _ t309 t313 t314 _ ?side1 ?side2 A8.out).mono ?_); (case side1 => repeat (first | exact (Kd.S_reads' HO312.out).2.2 | (with_reducible refine Kd.C_alloc ?_ _) | (with_reducible refine Kd.C_drewN ?_ _) | (with_reducible refine Kd.C_drew ?_))); (case side2 => exact (Kd.S_reads' HO312.out).2.1); rintro e w29 ⟨rfl, hb⟩; refine ⟨_, rfl, ?_⟩; have n0_ := Aside0.mk (Kd.S_below (by (with_reducible repeat (first | apply Kd.S_alloc | apply Kd.S_drewN | apply Kd.S_drew)); exact HO312.out) hb); have n1_ := Aside0.mk (below_step (by repeat (first | (with_reducible first | exact HB.out | apply below_alloc | apply pw_below_drewN | apply below_drew1) | exact HB.out)) hb); clear HO312; clear HB; have HO312 := n0_; have HB := n1_; clear n0_ n1_; (try clear hb); (try clear hb2); (try clear hk); (try clear hi)))
          go_ret
          exact ⟨by first | rfl | (simp [errW_none, errW_some] <;> rfl) | (simp only [← hji3]; first | rfl | (simp [errW_none, errW_some] <;> rfl)) | (simp [*, errW_none, errW_some] <;> rfl), by repeat (first | (with_reducible first | exact HB.out | apply below_alloc | apply pw_below_drewN | apply below_drew1) | exact HB.out)⟩
      · rw [if_neg c7] at H
        have c7b0 : (t310 == 0) = false := beq_eq_false_iff_ne.mpr c7
        have c7b1 : (t310 != 0) = true := bne_iff_ne.mpr c7
        by_cases c30 : t308 = true
        · subst c30
          have H1 : (if (t309.length : Int) = 0 then (if t310 = 10 then (some true) else (some (t310 == 30))) else (some false)) = some r := by rw [if_pos rfl] at H; exact H
          clear H
          have H := H1
          clear H1
          by_cases c31 : (t309.length : Int) = 0
          · rw [if_pos c31] at H
            have c31b0 : ((t309.length : Int) == 0) = true := beq_iff_eq.mpr c31
            have c31b1 : ((t309.length : Int) != 0) = false := bne_eq_false_iff_eq.mpr c31
            clear c31
            by_cases c32 : t310 = 10
            · rw [if_pos c32] at H
              have c32b0 : (t310 == 10) = true := beq_iff_eq.mpr c32
              have c32b1 : (t310 != 10) = false := bne_eq_false_iff_eq.mpr c32
              clear c32
              obtain rfl := Option.some.inj H
              go_enter Tryd.func10, Tryd.ntmps10
              go_wp2_with (first | ((with_reducible refine gate_callee (f := 17) rfl ?_); refine goesL_ (some 8) rfl rfl Tryd.func17 (by kernel_rfl) rfl #[] rfl (by (try simp only [List.map_toArray, List.map_cons, List.map_nil]); first | done | rfl | (simp only [List.length_drop, List.length_take]; rfl)) ?_; (with_reducible refine (copydesklaw03_sane.calls  true _ A2.out).mono ?_); rintro e w33 ⟨rfl, hb⟩; refine ⟨_, rfl, ?_⟩; have n0_ := Aside0.mk (below_step (by repeat (first | (with_reducible first | exact HB.out | apply below_alloc | apply pw_below_drewN | apply below_drew1) | exact HB.out)) hb); clear HB; have HB := n0_; clear n0_; (try clear hb); (try clear hb2); (try clear hk); (try clear hi)) | ((with_reducible refine gate_callee (f := 29) rfl ?_); refine goesL_ (some 16) rfl rfl Tryd.func29 (by kernel_rfl) rfl #[.string (a0.extract 0 ((ji3) : Int).toNat)] rfl (by (try simp only [List.map_toArray, List.map_cons, List.map_nil]); first | done | (simp only [hji3]; rfl) | rfl | (simp only [List.length_drop, List.length_take]; rfl)) ?_; (with_reducible refine (block_Decode.calls (a0.extract 0 ((ji3) : Int).toNat) t309 t310 _ A6.out).mono ?_); rintro e w34 ⟨v311, rfl, ho0, hb⟩; refine ⟨_, rfl, ?_⟩; have n0_ := Aside0.mk (Kd.S_lower ho0 (below_size (by repeat (first | (with_reducible first | exact HB.out | apply below_alloc | apply pw_below_drewN | apply below_drew1) | exact HB.out)))); have n1_ := Aside0.mk (below_step (by repeat (first | (with_reducible first | exact HB.out | apply below_alloc | apply pw_below_drewN | apply below_drew1) | exact HB.out)) hb); clear HB; have HO312 := n0_; have HB := n1_; clear n0_ n1_; (try clear hb); (try clear hb2); (try clear hk); (try clear hi); (try clear ho0); obtain ⟨Ao35, co35, eo35⟩ := Kd.S_slice HO312.out; subst eo35))
              go_ret
              exact ⟨by first | rfl | (simp [errW_none, errW_some] <;> rfl) | (simp only [← hji3]; first | rfl | (simp [errW_none, errW_some] <;> rfl)) | (simp [*, errW_none, errW_some] <;> rfl), by repeat (first | (with_reducible first | exact HB.out | apply below_alloc | apply pw_below_drewN | apply below_drew1) | exact HB.out)⟩
            · rw [if_neg c32] at H
              have c32b0 : (t310 == 10) = false := beq_eq_false_iff_ne.mpr c32
              have c32b1 : (t310 != 10) = true := bne_iff_ne.mpr c32
              obtain rfl := Option.some.inj H
              go_enter Tryd.func10, Tryd.ntmps10
              go_wp2_with (first | ((with_reducible refine gate_callee (f := 17) rfl ?_); refine goesL_ (some 8) rfl rfl Tryd.func17 (by kernel_rfl) rfl #[] rfl (by (try simp only [List.map_toArray, List.map_cons, List.map_nil]); first | done | rfl | (simp only [List.length_drop, List.length_take]; rfl)) ?_; (with_reducible refine (copydesklaw03_sane.calls  true _ A2.out).mono ?_); rintro e w36 ⟨rfl, hb⟩; refine ⟨_, rfl, ?_⟩; have n0_ := Aside0.mk (below_step (by repeat (first | (with_reducible first | exact HB.out | apply below_alloc | apply pw_below_drewN | apply below_drew1) | exact HB.out)) hb); clear HB; have HB := n0_; clear n0_; (try clear hb); (try clear hb2); (try clear hk); (try clear hi)) | ((with_reducible refine gate_callee (f := 29) rfl ?_); refine goesL_ (some 16) rfl rfl Tryd.func29 (by kernel_rfl) rfl #[.string (a0.extract 0 ((ji3) : Int).toNat)] rfl (by (try simp only [List.map_toArray, List.map_cons, List.map_nil]); first | done | (simp only [hji3]; rfl) | rfl | (simp only [List.length_drop, List.length_take]; rfl)) ?_; (with_reducible refine (block_Decode.calls (a0.extract 0 ((ji3) : Int).toNat) t309 t310 _ A6.out).mono ?_); rintro e w37 ⟨v311, rfl, ho0, hb⟩; refine ⟨_, rfl, ?_⟩; have n0_ := Aside0.mk (Kd.S_lower ho0 (below_size (by repeat (first | (with_reducible first | exact HB.out | apply below_alloc | apply pw_below_drewN | apply below_drew1) | exact HB.out)))); have n1_ := Aside0.mk (below_step (by repeat (first | (with_reducible first | exact HB.out | apply below_alloc | apply pw_below_drewN | apply below_drew1) | exact HB.out)) hb); clear HB; have HO312 := n0_; have HB := n1_; clear n0_ n1_; (try clear hb); (try clear hb2); (try clear hk); (try clear hi); (try clear ho0); obtain ⟨Ao38, co38, eo38⟩ := Kd.S_slice HO312.out; subst eo38))
              go_ret
              exact ⟨by first | rfl | (simp [errW_none, errW_some] <;> rfl) | (simp only [← hji3]; first | rfl | (simp [errW_none, errW_some] <;> rfl)) | (simp [*, errW_none, errW_some] <;> rfl), by repeat (first | (with_reducible first | exact HB.out | apply below_alloc | apply pw_below_drewN | apply below_drew1) | exact HB.out)⟩
          · rw [if_neg c31] at H
            have c31b0 : ((t309.length : Int) == 0) = false := beq_eq_false_iff_ne.mpr c31
            have c31b1 : ((t309.length : Int) != 0) = true := bne_iff_ne.mpr c31
            have c31b2 : ¬ (t309 = []) := fun h_ => c31 (by rw [h_]; rfl)
            obtain rfl := Option.some.inj H
            go_enter Tryd.func10, Tryd.ntmps10
            go_wp2_with (first | ((with_reducible refine gate_callee (f := 17) rfl ?_); refine goesL_ (some 8) rfl rfl Tryd.func17 (by kernel_rfl) rfl #[] rfl (by (try simp only [List.map_toArray, List.map_cons, List.map_nil]); first | done | rfl | (simp only [List.length_drop, List.length_take]; rfl)) ?_; (with_reducible refine (copydesklaw03_sane.calls  true _ A2.out).mono ?_); rintro e w39 ⟨rfl, hb⟩; refine ⟨_, rfl, ?_⟩; have n0_ := Aside0.mk (below_step (by repeat (first | (with_reducible first | exact HB.out | apply below_alloc | apply pw_below_drewN | apply below_drew1) | exact HB.out)) hb); clear HB; have HB := n0_; clear n0_; (try clear hb); (try clear hb2); (try clear hk); (try clear hi)) | ((with_reducible refine gate_callee (f := 29) rfl ?_); refine goesL_ (some 16) rfl rfl Tryd.func29 (by kernel_rfl) rfl #[.string (a0.extract 0 ((ji3) : Int).toNat)] rfl (by (try simp only [List.map_toArray, List.map_cons, List.map_nil]); first | done | (simp only [hji3]; rfl) | rfl | (simp only [List.length_drop, List.length_take]; rfl)) ?_; (with_reducible refine (block_Decode.calls (a0.extract 0 ((ji3) : Int).toNat) t309 t310 _ A6.out).mono ?_); rintro e w40 ⟨v311, rfl, ho0, hb⟩; refine ⟨_, rfl, ?_⟩; have n0_ := Aside0.mk (Kd.S_lower ho0 (below_size (by repeat (first | (with_reducible first | exact HB.out | apply below_alloc | apply pw_below_drewN | apply below_drew1) | exact HB.out)))); have n1_ := Aside0.mk (below_step (by repeat (first | (with_reducible first | exact HB.out | apply below_alloc | apply pw_below_drewN | apply below_drew1) | exact HB.out)) hb); clear HB; have HO312 := n0_; have HB := n1_; clear n0_ n1_; (try clear hb); (try clear hb2); (try clear hk); (try clear hi); (try clear ho0); obtain ⟨Ao41, co41, eo41⟩ := Kd.S_slice HO312.out; subst eo41))
            go_ret
            exact ⟨by first | rfl | (simp [errW_none, errW_some] <;> rfl) | (simp only [← hji3]; first | rfl | (simp [errW_none, errW_some] <;> rfl)) | (simp [*, errW_none, errW_some] <;> rfl), by repeat (first | (with_reducible first | exact HB.out | apply below_alloc | apply pw_below_drewN | apply below_drew1) | exact HB.out)⟩
        · replace c30 := Bool.eq_false_iff.mpr c30
          subst c30
          have H1 : (some false) = some r := by rw [if_neg (show ¬ (false = true) by decide)] at H; exact H
          clear H
          have H := H1
          clear H1
          obtain rfl := Option.some.inj H
          go_enter Tryd.func10, Tryd.ntmps10
          go_wp2_with (first | ((with_reducible refine gate_callee (f := 17) rfl ?_); refine goesL_ (some 8) rfl rfl Tryd.func17 (by kernel_rfl) rfl #[] rfl (by (try simp only [List.map_toArray, List.map_cons, List.map_nil]); first | done | rfl | (simp only [List.length_drop, List.length_take]; rfl)) ?_; (with_reducible refine (copydesklaw03_sane.calls  false _ A2.out).mono ?_); rintro e w42 ⟨rfl, hb⟩; refine ⟨_, rfl, ?_⟩; have n0_ := Aside0.mk (below_step (by repeat (first | (with_reducible first | exact HB.out | apply below_alloc | apply pw_below_drewN | apply below_drew1) | exact HB.out)) hb); clear HB; have HB := n0_; clear n0_; (try clear hb); (try clear hb2); (try clear hk); (try clear hi)) | ((with_reducible refine gate_callee (f := 29) rfl ?_); refine goesL_ (some 16) rfl rfl Tryd.func29 (by kernel_rfl) rfl #[.string (a0.extract 0 ((ji3) : Int).toNat)] rfl (by (try simp only [List.map_toArray, List.map_cons, List.map_nil]); first | done | (simp only [hji3]; rfl) | rfl | (simp only [List.length_drop, List.length_take]; rfl)) ?_; (with_reducible refine (block_Decode.calls (a0.extract 0 ((ji3) : Int).toNat) t309 t310 _ A6.out).mono ?_); rintro e w43 ⟨v311, rfl, ho0, hb⟩; refine ⟨_, rfl, ?_⟩; have n0_ := Aside0.mk (Kd.S_lower ho0 (below_size (by repeat (first | (with_reducible first | exact HB.out | apply below_alloc | apply pw_below_drewN | apply below_drew1) | exact HB.out)))); have n1_ := Aside0.mk (below_step (by repeat (first | (with_reducible first | exact HB.out | apply below_alloc | apply pw_below_drewN | apply below_drew1) | exact HB.out)) hb); clear HB; have HO312 := n0_; have HB := n1_; clear n0_ n1_; (try clear hb); (try clear hb2); (try clear hk); (try clear hi); (try clear ho0)))
          go_ret
          exact ⟨by first | rfl | (simp [errW_none, errW_some] <;> rfl) | (simp only [← hji3]; first | rfl | (simp [errW_none, errW_some] <;> rfl)) | (simp [*, errW_none, errW_some] <;> rfl), by repeat (first | (with_reducible first | exact HB.out | apply below_alloc | apply pw_below_drewN | apply below_drew1) | exact HB.out)⟩
    · rw [if_neg c5] at H
      exact absurd H (by simp)
  · rw [if_neg c4] at H
    exact absurd H (by simp)

/-- THE ONE PURE STATEMENT of copydesklaw03_BlockDecodedAgain: yours. -/
def copydesklaw03_BlockDecodedAgain.Pure : Prop := ∀ (a0 : ByteArray), a0.size ≤ 140737488351232 → copydesklaw03_BlockDecodedAgain.f a0 = some true
theorem copydesklaw03_BlockDecodedAgain.walk (P : copydesklaw03_BlockDecodedAgain.Pure) (a0 : ByteArray) (w : World) (w0 : a0.size ≤ 140737488351232) :
    Calls Tryd.prog 10 #[.string a0] w fun e w' => e = .returned (.bool true) ∧ Below w.heap.size w w' := by
  have h := P a0 w0
  refine (copydesklaw03_BlockDecodedAgain.calls a0 true w h).mono ?_
  rintro e w' ⟨rfl, hd⟩
  exact ⟨rfl, hd⟩

end Go.Proofs.YtpgjhjlhipikgaaDoor.PK
end
section
set_option linter.unusedVariables false
set_option linter.unusedSimpArgs false
namespace Go.Proofs.YtpgjhjlhipikgaaDoor.Pure
open Go.RowKit Go.Proofs.YtpgjhjlhipikgaaDoor.PK Go.Proofs.YtpgjhjlhipikgaaDoorW.PrintWords Go.Proofs.YtpgjhjlhipikgaaDoorW.PrintLast
theorem mn_eq (a b : Int) : mn a b = if b < a then b else a := rfl
theorem cut_spec (a0 : ByteArray) (m : Int) (hm : 0 ≤ m) : 0 ≤ mn (a0.size : Int) m ∧ mn (a0.size : Int) m ≤ (a0.size : Int) ∧ (a0.extract 0 (mn (a0.size : Int) m).toNat).size ≤ m.toNat := by
  rw [mn_eq]
  refine ⟨by split <;> omega, by split <;> omega, ?_⟩
  rw [ByteArray.size_extract]
  split <;> omega
theorem BlockDecodedAgain : copydesklaw03_BlockDecodedAgain.Pure := by
  intro a0 _
  obtain ⟨h1, h2, h3⟩ := cut_spec a0 20000 (by omega)
  unfold copydesklaw03_BlockDecodedAgain.f copydesklaw03_sane.f
  rw [Option.bind_some, if_pos h1, if_pos h2]
  generalize a0.extract 0 (mn (a0.size : Int) 20000).toNat = s at h3 ⊢
  obtain ⟨l, e⟩ : ∃ l, m_decode s = l := ⟨_, rfl⟩
  obtain ⟨l, er⟩ := l
  have hd : block_Decode.f s = some (l, er) := by unfold block_Decode.f; rw [if_pos (by omega), e]
  rw [hd, Option.bind_some]
  rcases cd_decoded s l er e with ⟨rfl, hv, he⟩ | ⟨rfl, rfl | rfl⟩
  · have hE : block_Encode.f l = some (s, 0) := by show some (m_encode l) = _; rw [he]
    have hV : block_ValidList.f l = some true := by show some (m_validL l) = _; rw [hv]
    dsimp only
    rw [if_pos rfl, hE, Option.bind_some, if_pos rfl]
    dsimp only
    rw [if_pos rfl, if_pos rfl, hV]; rfl
  · dsimp only
    rfl
  · dsimp only
    rfl
end Go.Proofs.YtpgjhjlhipikgaaDoor.Pure
end
