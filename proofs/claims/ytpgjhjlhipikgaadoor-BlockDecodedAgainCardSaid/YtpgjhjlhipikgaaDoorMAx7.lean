/- Texts of this claim, one behind the other. -/
import Derived.Test.YtpgjhjlhipikgaaDoorMAx5
import Derived.Test.YtpgjhjlhipikgaaDoorMAx6
import Derived.Deep.DeepMust
import Derived.Shelf.Abstract
import Derived.Lib.VarintBits
import Derived.Lib.Zigzag
import Derived.Maps.OwnIn
import Derived.WalkKit
import Derived.Lib.Builder
import Derived.Lib.AppendStr
import Derived.Lib.UnsafeStr
import Derived.Laws.Externs
section
namespace Go.Proofs.YtpgjhjlhipikgaaDoor.PK
open Go.RowKit Go.Proofs.YtpgjhjlhipikgaaDoorW.PrintWords Go.Proofs.YtpgjhjlhipikgaaDoorW.PrintLast Go.Proofs.YtpgjhjlhipikgaaDoorW.PrintMore
attribute [local go_sem] max2_int min2_int max_two min_two max_three min_three max_four min_four   -- for this text's walks alone
set_option linter.unusedVariables false
set_option linter.unusedSimpArgs false

/-! ### wire_PutInt: function 51 -/
-- NEEDS Derived.Test.YtpgjhjlhipikgaaDoorKDefs
-- NEEDS Derived.Test.YtpgjhjlhipikgaaDoorKRange
-- NEEDS Derived.Deep.DeepMust
-- NEEDS Derived.Shelf.Abstract
-- NEEDS Derived.Lib.VarintBits
-- NEEDS Derived.Lib.Zigzag
-- NEEDS Derived.Maps.OwnIn
def wire_PutInt.f (a0 : Int) : Option (ByteArray × Int) := some (m_putInt a0)
/-- The groups of a number, each with the word whether it is the last. -/
def m_grp : Nat → Nat → List (Nat × Bool)
  | 0, _ => []
  | k + 1, z => if z < 128 then [(z, true)] else (z % 128, false) :: m_grp k (z / 128)
def bk_enc (x : Nat × Bool) : Array Value := #[.int .u8 (x.1 : Int), .bool x.2]
def bk_Ab (zb : Nat) (A B : World) : Prop := ∃ c v : Value, A.heap[zb]? = some (.cells #[c] 95 (0, 0)) ∧ B = A.setCell ⟨zb, 0, none⟩ v
def bk_Kp (zb : Nat) (A B : World) : Prop := B.heap[zb]? = A.heap[zb]?
def bk_Nx (z : Nat) (pre : List (Nat × Bool)) (x : Nat × Bool) : Prop := ∃ rest, pre ++ x :: rest = m_grp 10 z
theorem m_grp_lt (k z : Nat) (h : z < 128) : m_grp (k + 1) z = [(z, true)] := by simp [m_grp, h]
theorem m_grp_ge (k z : Nat) (h : ¬ z < 128) : m_grp (k + 1) z = (z % 128, false) :: m_grp k (z / 128) := by simp [m_grp, h]
theorem bk_u64_and127 (x : Int) (h₀ : 0 ≤ x) (h₁ : x < 18446744073709551616) : bits .and .u64 x 127 = x % 128 := bits_mask .u64 64 (by decide) wraps_u64 7 (by decide) x h₀ h₁

set_option maxHeartbeats 1000000 in
theorem bk_groups (zb z : Nat) (hz : z < 128 ^ 10) (hz2 : z < 18446744073709551616) (W : World) (hzb : W.heap[zb]? = some (.cells #[.int .u64 (z : Int)] 95 (0, 0))) :
    Rg.Iter Tryd.prog 94 #[.pointer (some ⟨zb, 0, none⟩)] bk_enc (bk_Ab zb) (bk_Kp zb) (bk_Nx z) (fun xs => xs = m_grp 10 z) (fun _ => True) W := by
  intro l J Jx hJ hJx hY h0
  refine callsIn_of_wp Tryd.func94 rfl trivial ?_ rfl
  simp only [Tryd.ntmps94, List.size_toArray, List.length_cons, List.length_nil, Nat.reduceAdd, Nat.reduceSub, Array.replicate_succ, Array.replicate_zero, List.push_toArray, List.append_toArray, List.nil_append, List.cons_append]
  gi_wp2
  gi_loopw [3] (fun p wr => ∃ (pre : List (Nat × Bool)) (k y : Nat), pre ++ m_grp (k + 1) y = m_grp 10 z ∧ y < 128 ^ (k + 1) ∧ y < 18446744073709551616 ∧ wr.heap[zb]? = some (.cells #[.int .u64 (y : Int)] 95 (0, 0)) ∧ J pre wr)
    (fun p wr => match wr.cell? ⟨zb, 0, none⟩ with | some (.int _ y) => y.toNat | _ => 0)
  case atStart =>
    exact ⟨[], 9, z, rfl, hz, hz2, hzb, h0⟩
  case round =>
    obtain ⟨pre, k, y, hp, hk, hyz, hb, hJs⟩ := hrel
    have hc : wr.cell? ⟨zb, 0, none⟩ = some (.int .u64 (y : Int)) := by simp [World.cell?, hb]
    have hfz : wr.frozen? ⟨zb, 0, none⟩ = false := by simp [World.frozen?, hb]
    have hbits := bk_u64_and127 (y : Int) (by omega) (by omega)
    have hHP := Aside0.mk hp
    have hHB := Aside0.mk hb
    clear hp hb hzb
    by_cases hlt : y < 128
    · rw [show ((y : Int) % 128) = (y : Int) from by omega] at hbits
      have hd : decide ((y : Int) < 128) = true := by simp; omega
      obtain ⟨fn, tmps, assign, body, hy, hR⟩ := hY pre (y, true) wr hJs ⟨[], by rw [← hHP.out, m_grp_lt _ _ hlt]⟩
      dsimp only [bk_enc] at hy
      gi_wp2
      refine ⟨rfl, hR.mono ?_⟩
      rintro e W3 (⟨rfl, hJ3, hk3⟩ | ⟨rfl, hJx3⟩)
      · gi_wp2
        refine bodyPost_ret (results_none rfl _ _ _) rfl ?_
        exact ⟨⟨_, rfl⟩, .inl ⟨_, by rw [← hHP.out, m_grp_lt _ _ hlt], hJ3⟩⟩
      · gi_wp2
        refine bodyPost_ret (results_none rfl _ _ _) rfl ?_
        exact ⟨⟨_, rfl⟩, .inr ⟨_, trivial, hJx3⟩⟩
    · have hd : decide ((y : Int) < 128) = false := by simp; omega
      have h128 : ((y : Int) % 128) = ((y % 128 : Nat) : Int) := by omega
      rw [h128] at hbits
      have hlt2 : y % 128 < 128 := Nat.mod_lt _ (by decide)
      obtain ⟨m, hm⟩ : ∃ m, y % 128 = m := ⟨_, rfl⟩
      obtain ⟨q, hq⟩ : ∃ q, y / 128 = q := ⟨_, rfl⟩
      have hq2 : (y : Int) / 128 = (q : Int) := by omega
      have hqlt : q < y := by omega
      have HM := Aside0.mk hm
      have HQ := Aside0.mk hq
      rw [hm] at hbits hlt2
      clear hm hq h128
      obtain ⟨k', rfl⟩ : ∃ k', k = k' + 1 := ⟨k - 1, by
        rcases Nat.eq_zero_or_pos k with h | h
        · subst h; simp at hk; omega
        · omega⟩
      obtain ⟨fn, tmps, assign, body, hy, hR⟩ := hY pre (m, false) wr hJs ⟨m_grp (k' + 1) q, by rw [← hHP.out, m_grp_ge _ _ hlt, HM.out, HQ.out]⟩
      dsimp only [bk_enc] at hy
      gi_wp2
      refine ⟨rfl, hR.mono ?_⟩
      rintro e W3 (⟨rfl, hJ3, hk3⟩ | ⟨rfl, hJx3⟩)
      · have hb3 : W3.heap[zb]? = some (.cells #[.int .u64 (y : Int)] 95 (0, 0)) := hk3.trans hHB.out
        have hc3 : W3.cell? ⟨zb, 0, none⟩ = some (.int .u64 (y : Int)) := by simp [World.cell?, hb3]
        have hf3 : W3.frozen? ⟨zb, 0, none⟩ = false := by simp [World.frozen?, hb3]
        have HB3 := Aside0.mk hb3
        clear hb3 hk3
        gi_wp2
        go_roundw
        case rel =>
          refine ⟨pre ++ [(m, false)], k', q, ?_, ?_, by omega, ?_, hJ _ _ _ hJ3 ⟨_, _, HB3.out, rfl⟩⟩
          · rw [← hHP.out, m_grp_ge _ _ hlt, HM.out, HQ.out]; simp
          · rw [← HQ.out]; rw [Nat.pow_succ] at hk; omega
          · simp [World.setCell, Array.getElem?_modify, HB3.out]
        case measure =>
          simp [World.cell?, World.setCell, Array.getElem?_modify, HB3.out, hHB.out]
          omega
      · gi_wp2
        refine bodyPost_ret (results_none rfl _ _ _) rfl ?_
        exact ⟨⟨_, rfl⟩, .inr ⟨_, trivial, hJx3⟩⟩
theorem bk_groupsOf (x : Int) (w : World) :
    Calls Tryd.prog 75 #[.int .u64 x] w fun e w' => e = .returned (.func (.func 94) #[] #[.pointer (some ⟨w.heap.size, 0, none⟩)]) ∧ w' = w.alloc (.cells #[.int .u64 x] 95) := by
  go_enter Tryd.func75, Tryd.ntmps75
  go_wp2
  go_ret
  exact ⟨rfl, rfl⟩
set_option maxHeartbeats 1000000 in
theorem bk_putIntNo (n : Int) (w : World) (h : n < -4611686018427387903 ∨ 4611686018427387903 < n) :
    Calls Tryd.prog 51 #[.int .i64 n] w fun e w' => e = .returned (.tuple #[.string ⟨#[]⟩, .int .i64 10]) ∧ Below w.heap.size w w' := by
  by_cases h1 : n < -4611686018427387903
  · go_enter Tryd.func51, Tryd.ntmps51
    go_wp2
    go_ret2
    exact ⟨rfl, Below.refl _ _⟩
  · have h2 : 4611686018427387903 < n := by omega
    go_enter Tryd.func51, Tryd.ntmps51
    go_wp2
    go_ret2
    exact ⟨rfl, Below.refl _ _⟩
theorem bk_zig (n : Int) (h1 : -4611686018427387904 ≤ n) (h2 : n ≤ 4611686018427387903) :
    bits .xor .u64 (IntKind.u64.wrap (IntKind.u64.wrap n * 2)) (IntKind.u64.wrap (n / 9223372036854775808)) = ((m_zig n : Nat) : Int) := by
  have comm : ∀ a b : Int, bits .xor .u64 a b = bits .xor .u64 b a := fun a b => by
    show IntKind.u64.wrap ((BitVec.ofInt 64 a ^^^ BitVec.ofInt 64 b).toNat : Int) = IntKind.u64.wrap ((BitVec.ofInt 64 b ^^^ BitVec.ofInt 64 a).toNat : Int)
    rw [BitVec.xor_comm]
  by_cases h : n < 0
  · have e1 : n / 9223372036854775808 = -1 := by omega
    have e2 : IntKind.u64.wrap (-1) = IntKind.u64.max := by decide
    rw [e1, e2, comm, Lib.zigzag_neg (by omega) h]
    unfold Lib.zigzag m_zig
    rw [if_neg (by omega), if_pos h]
    omega
  · have e1 : n / 9223372036854775808 = 0 := by omega
    have e2 : IntKind.u64.wrap 0 = ((0 : Nat) : Int) := by decide
    have e3 : IntKind.u64.wrap (IntKind.u64.wrap n * 2) = ((n.toNat * 2 : Nat) : Int) := by rw [IntKind.wrap_u64, IntKind.wrap_u64]; omega
    rw [e1, e2, e3, bits_xor_u64_nat _ _ (by omega) (by omega)]
    unfold m_zig
    rw [if_neg h]
    simp
theorem m_zig_lt (n : Int) (h1 : -4611686018427387904 ≤ n) (h2 : n ≤ 4611686018427387903) : m_zig n < 9223372036854775808 := by
  unfold m_zig; split <;> omega
def bk_byte (x : Nat × Bool) : Int := if x.2 then (x.1 : Int) else (x.1 : Int) + 128
theorem m_grp_mem : ∀ (k z : Nat) (x : Nat × Bool), x ∈ m_grp k z → x.1 < 128
  | 0, _, _, h => by simp [m_grp] at h
  | k + 1, z, x, h => by
    by_cases hz : z < 128
    · rw [m_grp_lt _ _ hz] at h
      simp at h; subst h; exact hz
    · rw [m_grp_ge _ _ hz] at h
      rcases List.mem_cons.1 h with h | h
      · subst h; exact Nat.mod_lt _ (by decide)
      · exact m_grp_mem k _ x h
theorem m_grp_len : ∀ (k z : Nat), (m_grp k z).length ≤ k
  | 0, _ => by simp [m_grp]
  | k + 1, z => by
    by_cases hz : z < 128
    · rw [m_grp_lt _ _ hz]; simp
    · rw [m_grp_ge _ _ hz]; simp; exact m_grp_len k _
theorem m_grp_vint : ∀ (k z : Nat), (m_grp k z).map bk_byte = (m_vint k z).map (fun c => (c.toNat : Int))
  | 0, _ => rfl
  | k + 1, z => by
    by_cases hz : z < 128
    · rw [m_grp_lt _ _ hz]
      simp [m_vint, hz, bk_byte]
      omega
    · rw [m_grp_ge _ _ hz]
      simp only [m_vint, if_neg hz, List.map_cons, m_grp_vint k]
      congr 1
      simp [bk_byte]
      omega
theorem infoU8 : (Tryd.prog.info? 5).map (fun i => (i.zero, i.size, i.bytes)) = some (some (.int .u8 0), 1, 1) := by kernel_rfl
def bk_I (w : World) (pre : List (Nat × Bool)) (W : World) : Prop :=
  ∃ v : Value, W.heap[w.heap.size]? = some (.cells #[v] 62 (0, 0)) ∧ W.ownsRow w.heap.size 5 1 v pre.length (pre.map (fun x => Value.int .u8 (bk_byte x))) ∧ Below w.heap.size w W ∧ ∃ c : Value, W.heap[w.heap.size + 1]? = some (.cells #[c] 95 (0, 0))
attribute [local go_sem] Oper.semAt_some
set_option maxHeartbeats 2000000 in
set_option maxRecDepth 100000 in
theorem bk_putIntYes (n : Int) (w : World) (h1 : -4611686018427387903 ≤ n) (h2 : n ≤ 4611686018427387903) :
    Calls Tryd.prog 51 #[.int .i64 n] w fun e w' => e = .returned (.tuple #[.string ⟨(m_int n).toArray⟩, .int .i64 0]) ∧ Below w.heap.size w w' := by
  have hz := bk_zig n (by omega) h2
  have hzl := m_zig_lt n (by omega) h2
  obtain ⟨z, hzz⟩ : ∃ z, m_zig n = z := ⟨_, rfl⟩
  rw [hzz] at hz hzl
  have HZ := Aside0.mk hzz
  clear hzz
  refine (callsIn_wide (n := 0)).1 (callsIn_of_wp_marks Tryd.func51 rfl trivial ?_ rfl)
  simp only [Tryd.ntmps51, List.size_toArray, List.length_cons, List.length_nil, Nat.reduceAdd, Nat.reduceSub, Array.replicate_succ, Array.replicate_zero, List.push_toArray, List.append_toArray, List.nil_append, List.cons_append]
  gi_wp2_with fail
  refine ⟨trivial, rfl, (callsIn_wide.2 (bk_groupsOf _ _)).mono ?_⟩
  rintro e w' ⟨rfl, rfl⟩
  gi_wp2_with fail
  obtain ⟨i0, hi, hz0, hz1, hz2⟩ := info_parts infoU8
  obtain ⟨w1, hw1⟩ : ∃ w1, (w.alloc (.cells #[.slice none 0 0] 62)).alloc (.cells #[.int .u64 (z : Int)] 95) = w1 := ⟨_, rfl⟩
  have hsz : w1.heap.size = w.heap.size + 2 := by rw [← hw1]; simp
  have hob : w1.heap[w.heap.size]? = some (.cells #[.slice none 0 0] 62 (0, 0)) := by
    rw [← hw1]; exact (Below.heap_alloc _ _ _ (by simp)).trans (heap_alloc_new w _)
  have hzb : w1.heap[w.heap.size + 1]? = some (.cells #[.int .u64 (z : Int)] 95 (0, 0)) := by
    rw [← hw1]; have := heap_alloc_new (w.alloc (.cells #[.slice none 0 0] 62)) (.cells #[.int .u64 (z : Int)] 95); rwa [World.size_alloc] at this
  have hbel : Below w.heap.size w w1 := by rw [← hw1]; exact ((Below.refl _ w).alloc (Nat.le_refl _) _).alloc (by simp) _
  rw [hw1]
  clear hw1
  refine Rg.wp_range (P := Tryd.prog) rfl (enters_of Tryd.func94 (by kernel_rfl) rfl) (encs := bk_enc) (Ab := bk_Ab (w.heap.size + 1)) (Kp := bk_Kp (w.heap.size + 1)) (Nx := bk_Nx z) (S := fun xs => xs = m_grp 10 z) (Sp := fun _ => True)
    ?hAb ?hKt ?hKu ?it (fun _ => rfl) (bk_I w) (fun _ _ _ => False) ?hI (fun _ _ _ _ h _ => h) ?hIA (fun _ _ _ _ h _ => h) ?h0 ?a1 ?assign ?body ?done ?stop
  case assign =>
    intro l x W K hK
    simp only [bk_enc]
    gi_wp2
    exact hK
  case hAb =>
    rintro A C k o ⟨c, v, hc, rfl⟩ ho hn
    rw [Below.heap_setCell _ _ _ _ (fun he => ?_)]
    · exact ho
    · have : k = w.heap.size + 1 := by simpa using he
      subst this
      rw [hc] at ho; injection ho with ho; subst ho; cases hn
  case hKt => intro A C E h k; exact k.trans h
  case hKu => intro A C h; exact h.low _ (by omega)
  case it => intro W hW; exact bk_groups _ z (by omega) (by omega) W (hW.cells _ _ hzb rfl)
  case hI =>
    rintro s A C ⟨v, h1, h2, h3, c, h4⟩ hT
    exact ⟨v, hT.cells _ _ h1 rfl, hT.owns h2, h3.trans (hT.below.mono (by omega)), c, hT.cells _ _ h4 rfl⟩
  case hIA =>
    rintro s A C ⟨v, h1, h2, h3, h4⟩ ⟨c, u, hc, rfl⟩
    refine ⟨v, ?_, Rg.owns_set hc (by decide) h2 0 u, h3.setCell (p := ⟨w.heap.size + 1, 0, none⟩) (by simp) u, u, ?_⟩
    · rw [Below.heap_setCell _ _ _ _ (by simp)]; exact h1
    · simp [World.setCell, Array.getElem?_modify, hc]
  case h0 => exact ⟨_, hob, by simpa using World.ownsRow_nil _ _ _ _, hbel, _, hzb⟩
  case body =>
    rintro l pre ⟨g, b⟩ W ⟨v, hv, hown, hB, cz, hzW⟩ hx
    obtain ⟨rest, hx⟩ := hx
    have hg : g < 128 := m_grp_mem 10 z (g, b) (by rw [← hx]; simp)
    have hlen : pre.length < 10 := by have := m_grp_len 10 z; rw [← hx] at this; simp at this; omega
    have hor : bits .or .u8 (g : Int) 128 = (g : Int) + 128 := bits_join_low .u8 8 (by decide) wraps_u8 7 (g : Int) 128 (by omega) (by omega) (by omega) (by decide) (by decide) (by decide)
    have hc : W.cell? ⟨w.heap.size, 0, none⟩ = some v := by simp [World.cell?, hv]
    have hf : W.frozen? ⟨w.heap.size, 0, none⟩ = false := by simp [World.frozen?, hv]
    have hlt : w.heap.size < W.heap.size := (Array.getElem?_eq_some_iff.1 hv).1
    have hbs : w.heap.size ≤ W.heap.size := by omega
    have fin : ∀ (c : Int) (v' : Value) (W1 : World), bk_byte (g, b) = c →
        W1.ownsRow w.heap.size 5 1 v' (pre.length + 1) (pre.map (fun x => Value.int .u8 (bk_byte x)) ++ [.int .u8 c]) → (W.alloc (.cells #[.int .u8 c] 5)).grownBy W1 v.ownBlock →
        W1.heap[w.heap.size]? = some (.cells #[v] 62 (0, 0)) ∧
        (W1.heap[w.heap.size]? = some (.cells #[v] 62 (0, 0)) → KeepsFrom w1.heap.size W (W1.setCell ⟨w.heap.size, 0, none⟩ v') ∧ bk_Kp (w.heap.size + 1) W (W1.setCell ⟨w.heap.size, 0, none⟩ v') ∧ bk_I w (pre ++ [(g, b)]) (W1.setCell ⟨w.heap.size, 0, none⟩ v')) := by
      intro c v' W1 hcb ho hg1
      have hz1 := Rg.block_append hown hzW (by decide) hg1
      have hv1 := Rg.block_append hown hv (by decide) hg1
      refine ⟨hv1, fun _ => ⟨(Rg.keeps_append hown hg1).trans (Rg.keeps_set _ _), ?_, v', ?_, ?_, ?_, cz, ?_⟩⟩
      · unfold bk_Kp
        rw [Below.heap_setCell _ _ _ _ (by simp), hz1, hzW]
      · simp [World.setCell, Array.getElem?_modify, hv1]
      · have := Rg.owns_set hv1 (by decide) ho 0 v'
        simpa [hcb] using this
      · exact (Rg.below_append hB hbs (Nat.le_refl _) hown hg1).setCell (p := ⟨w.heap.size, 0, none⟩) (Nat.le_refl _) _
      · rw [Below.heap_setCell _ _ _ _ (by simp)]; exact hz1
    have HX := Aside0.mk hx
    have HV := Aside0.mk hv
    clear hx hv hz hzb hob hzW
    cases b with
    | false =>
      gi_wp2_with (gi_at_builtin; refine Rg.stop_here ?_)
      refine ⟨?_⟩
      refine wpListIn_append_own _ rfl _ _ 62 rfl w.heap.size 5 i0 (.int .u8 0) 1 1 Tryd.underlying62 hi hz0 hz1 hz2 rfl (by decide) _ _ _ rfl (hown.alloc _) ⟨W.heap.size, 0, none⟩ 1 1 [.int .u8 ((g : Int) + 128)] rfl rfl (cell_one_new _ _ _) (by simp [Value.oneCell']) (by simp only [maxLen]; omega) (by clear hor; omega) (by first | (simp; done) | (simp; omega)) ?_
      intro v' W1 hown' hgrow _
      obtain ⟨g', cap', rfl⟩ := Rg.owns_shape hown'
      obtain ⟨hv1, hfin⟩ := fin _ _ _ (by simp [bk_byte]) hown' hgrow
      have hc1 : W1.cell? ⟨w.heap.size, 0, none⟩ = some v := by simp [World.cell?, hv1]
      have hf1 : W1.frozen? ⟨w.heap.size, 0, none⟩ = false := by simp [World.frozen?, hv1]
      have HF := Aside0.mk hfin
      have HV1 := Aside0.mk hv1
      clear hfin hv1 hown' hgrow
      gi_wp2
      exact HF.out HV1.out
    | true =>
      gi_wp2_with (gi_at_builtin; refine Rg.stop_here ?_)
      refine ⟨?_⟩
      refine wpListIn_append_own _ rfl _ _ 62 rfl w.heap.size 5 i0 (.int .u8 0) 1 1 Tryd.underlying62 hi hz0 hz1 hz2 rfl (by decide) _ _ _ rfl (hown.alloc _) ⟨W.heap.size, 0, none⟩ 1 1 [.int .u8 (g : Int)] rfl rfl (cell_one_new _ _ _) (by simp [Value.oneCell']) (by simp only [maxLen]; omega) (by clear hor; omega) (by first | (simp; done) | (simp; omega)) ?_
      intro v' W1 hown' hgrow _
      obtain ⟨g', cap', rfl⟩ := Rg.owns_shape hown'
      obtain ⟨hv1, hfin⟩ := fin _ _ _ (by simp [bk_byte]) hown' hgrow
      have hc1 : W1.cell? ⟨w.heap.size, 0, none⟩ = some v := by simp [World.cell?, hv1]
      have hf1 : W1.frozen? ⟨w.heap.size, 0, none⟩ = false := by simp [World.frozen?, hv1]
      have HF := Aside0.mk hfin
      have HV1 := Aside0.mk hv1
      clear hfin hv1 hown' hgrow
      gi_wp2
      exact HF.out HV1.out
  case done =>
    rintro D xs W hD rfl ⟨v, hv, hown, hB, cz, hzW⟩ hdd
    have hc : W.cell? ⟨w.heap.size, 0, none⟩ = some v := by simp [World.cell?, hv]
    have hconv : (convert 62 9 v).run Tryd.prog W = .ok (.string ⟨(m_int n).toArray⟩) W := by
      have ho2 : W.ownsRow w.heap.size 5 1 v (m_grp 10 z).length (nums .u8 ((m_grp 10 z).map bk_byte)) := by
        simpa [nums, Function.comp_def] using hown
      rw [own_string Tryd.underlying62 Tryd.underlying5 Tryd.underlying9 ho2, m_grp_vint]
      unfold m_int
      rw [HZ.out]
      simp [strOfNums, Function.comp_def]
    have HD := Aside0.mk hdd
    clear hdd hown hzW hz hob hzb hv
    gi_wp2
    refine ⟨by simp, .inl ⟨_, _, rfl, run_takeDeferred HD.out, ?_⟩⟩
    exact ⟨_, results_tmp2 rfl _ _ _, rfl, hB.trans ((Rg.Turn.put HD.out rfl hD _).below.mono (by omega))⟩
  case stop =>
    rintro D c pre W _ _ h
    exact h.elim
theorem wire_PutInt.calls (a0 : Int) (r1 : ByteArray) (r2 : Int) (w : World) (h : wire_PutInt.f a0 = some (r1, r2)) :
    Calls Tryd.prog 51 #[.int .i64 a0] w fun e w' => e = .returned (.tuple #[.string r1, .int .i64 r2]) ∧ Below w.heap.size w w' := by
  have h' := Option.some.inj h
  unfold m_putInt m_fits at h'
  by_cases h1 : -4611686018427387903 ≤ a0 <;> by_cases h2 : a0 ≤ 4611686018427387903
  · simp [h1, h2] at h'
    obtain ⟨rfl, rfl⟩ := h'
    exact bk_putIntYes a0 w h1 h2
  all_goals
    simp [h1, h2] at h'
    obtain ⟨rfl, rfl⟩ := h'
    exact bk_putIntNo a0 w (by omega)

end Go.Proofs.YtpgjhjlhipikgaaDoor.PK
end
section
namespace Go.Proofs.YtpgjhjlhipikgaaDoor.PK
open Go.RowKit Go.Proofs.YtpgjhjlhipikgaaDoorW.PrintWords Go.Proofs.YtpgjhjlhipikgaaDoorW.PrintLast Go.Proofs.YtpgjhjlhipikgaaDoorW.PrintMore
attribute [local go_sem] max2_int min2_int max_two min_two max_three min_three max_four min_four   -- for this text's walks alone
set_option linter.unusedVariables false
set_option linter.unusedSimpArgs false

/-! ### wire_PutString: function 53 -/
def wire_PutString.f (a0 : ByteArray) : Option (ByteArray × Int) := if (a0.size : Int) > 65536 then (some ((⟨#[]⟩ : ByteArray), 10)) else ((wire_PutInt.f (a0.size : Int)).bind fun bt137 => (if bt137.1.size + a0.size ≤ 9223372036854775807 then (some (bt137.1 ++ a0, 0)) else (none)))
set_option maxHeartbeats 8000000 in
set_option maxRecDepth 100000 in
theorem wire_PutString.calls (a0 : ByteArray) (r1 : ByteArray) (r2 : Int) (w : World) (h : wire_PutString.f a0 = some (r1, r2)) :
    Calls Tryd.prog 53 #[.string a0] w fun e w' => e = .returned (.tuple #[.string r1, .int .i64 r2]) ∧ Below w.heap.size w w' := by
  have HB := Aside0.mk (Below.refl w.heap.size w)
  have H : (if (a0.size : Int) > 65536 then (some ((⟨#[]⟩ : ByteArray), 10)) else ((wire_PutInt.f (a0.size : Int)).bind fun bt137 => (if bt137.1.size + a0.size ≤ 9223372036854775807 then (some (bt137.1 ++ a0, 0)) else (none)))) = some (r1, r2) := h
  clear h
  by_cases c2 : (a0.size : Int) > 65536
  · rw [if_pos c2] at H
    have c2b0 : decide (65536 < (a0.size : Int)) = true := decide_eq_true c2
    have c2b1 : decide (65536 < a0.size) = true := decide_eq_true (by omega)
    clear c2
    simp only [Option.some.injEq, Prod.mk.injEq] at H
    obtain ⟨rfl, rfl⟩ := H
    go_enter Tryd.func53, Tryd.ntmps53
    go_wp2
    go_ret2
    exact ⟨by first | rfl | (simp [errW_none, errW_some] <;> rfl) | (simp [*, errW_none, errW_some] <;> rfl), by repeat (first | (with_reducible first | exact HB.out | apply below_alloc | apply pw_below_drewN | apply below_drew1) | exact HB.out)⟩
  · rw [if_neg c2] at H
    have c2b0 : decide (65536 < (a0.size : Int)) = false := decide_eq_false c2
    have c2b1 : decide (65536 < a0.size) = false := decide_eq_false (by omega)
    clear c2
    replace H := Option.bind_eq_some_iff.mp H
    obtain ⟨⟨t137, t138⟩, A30, H⟩ := H
    replace H : (if t137.size + a0.size ≤ 9223372036854775807 then (some (t137 ++ a0, 0)) else (none)) = some (r1, r2) := H
    have A3 := Aside0.mk A30
    clear A30
    by_cases c4 : t137.size + a0.size ≤ 9223372036854775807
    · rw [if_pos c4] at H
      have c4b0 := eq_true c4
      have c4b1 : decide (t137.size + a0.size ≤ 9223372036854775807) = true := decide_eq_true c4
      try have c4b2 : (9223372036854775807 < t137.size + a0.size) = False := eq_false (Nat.not_lt.2 c4)
      simp only [Option.some.injEq, Prod.mk.injEq] at H
      obtain ⟨rfl, rfl⟩ := H
      go_enter Tryd.func53, Tryd.ntmps53
      go_wp2_with (first | ((with_reducible refine gate_callee (f := 51) rfl ?_); refine goesL_ (some 12) rfl rfl Tryd.func51 (by kernel_rfl) rfl #[.int .i64 (a0.size : Int)] rfl (by (try simp only [List.map_toArray, List.map_cons, List.map_nil]); first | done | rfl | (simp only [List.length_drop, List.length_take]; rfl)) ?_; (with_reducible refine (wire_PutInt.calls (a0.size : Int) t137 t138 _ A3.out).mono ?_); rintro e w5 ⟨rfl, hb⟩; refine ⟨_, rfl, ?_⟩; have n0_ := Aside0.mk (below_step (by repeat (first | (with_reducible first | exact HB.out | apply below_alloc | apply pw_below_drewN | apply below_drew1) | exact HB.out)) hb); clear HB; have HB := n0_; clear n0_; (try clear hb); (try clear hb2); (try clear hk); (try clear hi)))
      go_ret2
      exact ⟨by first | rfl | (simp [errW_none, errW_some] <;> rfl) | (simp [*, errW_none, errW_some] <;> rfl), by repeat (first | (with_reducible first | exact HB.out | apply below_alloc | apply pw_below_drewN | apply below_drew1) | exact HB.out)⟩
    · rw [if_neg c4] at H
      exact absurd H (by simp)

end Go.Proofs.YtpgjhjlhipikgaaDoor.PK
end
section
set_option linter.unusedVariables false
namespace Go.Proofs.YtpgjhjlhipikgaaDoor.PK
open Go.RowKit Go.Proofs.YtpgjhjlhipikgaaDoorW.PrintWords Go.Proofs.YtpgjhjlhipikgaaDoorW.PrintLast Go.Proofs.YtpgjhjlhipikgaaDoorW.PrintMore
section
variable {P : Program} {ops : Array Oper} {rest : List Oper} {o : Oper} {a : Act} {Q : Exit → Act → World → Prop}
/-- The goal's next operation writes out a slice. -/
theorem is_build {W : World} {t : TypeId} {n : Nat} {ps : Array (Nat × Operand)} (_ : o.op = .buildSlice t n ps) (h : wpList P ops Q (o :: rest) a W) : wpList P ops Q (o :: rest) a W := h
theorem lit_event {W : World} (hgd : o.guard = none) {N : Tmp} (_hd : o.dst = some N) {cs : Array Value} {t : TypeId} {n : Nat}
    (hrun : (execOp a.eval o).run P W = .ok (.value (.slice (some ⟨W.heap.size, 0, none⟩) n n)) (W.alloc (.cells cs t (0, 0))))
    (h : ∀ g, g = W.heap.size → ∀ w1, w1.heap[g]? = some (.cells cs t (0, 0)) → Below W.heap.size W w1 → wpList P ops Q rest (a.put o.dst (.slice (some ⟨g, 0, none⟩) n n)) w1) : wpList P ops Q (o :: rest) a W :=
  Kd.event_run hgd hrun (h _ rfl _ (blk_new W _) (below_alloc (Below.refl _ _) _))
end
theorem bk_heap_below {W W' : World} {k : Nat} {o : Obj} (h : W.heap[k]? = some o) (hb : Below W.heap.size W W') : W'.heap[k]? = some o := (hb.block k (Array.getElem?_eq_some_iff.1 h).1).trans h
theorem bk_below_mono {B C : Nat} {w w' : World} (h : Below C w w') (hB : B ≤ C) : Below B w w' := ⟨h.os, h.tape, h.output, h.size, fun i hi => h.block i (by omega)⟩
end Go.Proofs.YtpgjhjlhipikgaaDoor.PK
end
section
set_option linter.unusedVariables false
namespace Go.Proofs.YtpgjhjlhipikgaaDoor.Bk
open Go.RowKit Go.Shelf

theorem sizeBuilder : (Tryd.prog.info? 64).map (·.size) = some 2 := by kernel_rfl
theorem liesBuilder : liesAt Tryd.prog Tryd.prog.depth 64 (2 / Tryd.prog.cellsOf 64) 0 64 1 = true := by kernel_rfl
theorem infoByte : (Tryd.prog.info? 5).map (fun i => (i.zero, i.size, i.bytes)) = some (some (.int .u8 0), 1, 1) := by kernel_rfl

set_option maxHeartbeats 1000000 in
set_option maxRecDepth 100000 in
theorem copyCheck_used (b : Nat) (w : World) (h0 : w.cell? ⟨b, 0, none⟩ = some (.pointer (some ⟨b, 0, none⟩))) :
    Calls Tryd.prog 76 #[.pointer (some ⟨b, 0, none⟩)] w fun e w' => e = .returned (.tuple #[]) ∧ w' = w := by
  obtain ⟨j, hj, _⟩ := Option.map_eq_some_iff.1 sizeBuilder
  go_enter Tryd.func76, Tryd.ntmps76
  go_wp2
  rw [Lib.run_neq_ptr_same w _ Tryd.underlying61 hj]
  go_wp2
  go_end0
  exact ⟨rfl, rfl⟩

set_option maxHeartbeats 1000000 in
set_option maxRecDepth 100000 in
theorem copyCheck_fresh (b : Nat) (w : World) (h0 : w.cell? ⟨b, 0, none⟩ = some (.pointer none)) (hsh : w.shape? b = some (64, 2)) (hfz : w.frozen? ⟨b, 0, none⟩ = false) :
    Calls Tryd.prog 76 #[.pointer (some ⟨b, 0, none⟩)] w fun e w' => e = .returned (.tuple #[]) ∧ w' = w.setCell ⟨b, 0, none⟩ (.pointer (some ⟨b, 0, none⟩)) := by
  obtain ⟨j, hj, hjs⟩ := Option.map_eq_some_iff.1 sizeBuilder
  go_enter Tryd.func76, Tryd.ntmps76
  go_wp2
  rw [Lib.run_to_unsafe w ⟨b, 0, none⟩ Tryd.underlying61 Tryd.underlying111 hj (by rw [hjs]; decide) hsh (Nat.zero_lt_succ 1)]
  simp only [Result.andThen]
  rw [Oper.upon_value]
  go_wp2
  rw [run_callFunc_extern Tryd.func95 (by kernel_rfl) (by kernel_rfl) (by kernel_rfl) (e := Extern.AbiNoEscape.same) (by kernel_rfl)]
  rw [Lib.run_noEscape]
  simp only [Result.andThen]
  rw [Oper.upon_value]
  go_wp2
  rw [Lib.run_from_unsafe w ⟨b, 0, none⟩ Tryd.underlying111 Tryd.underlying61 hj hsh liesBuilder]
  simp only [Result.andThen]
  rw [Oper.upon_value]
  go_wp2
  go_end0
  exact ⟨rfl, rfl⟩

/-- Rows of cells of types other than these two, and maps, are as they were. -/
structure KeptT (T e : TypeId) (w w' : World) : Prop where mk ::
  size : w.heap.size ≤ w'.heap.size
  kept : ∀ (k : Nat) (cs : Array Value) (t : TypeId) (fr : Nat × Nat), w.heap[k]? = some (Obj.cells cs t fr) → t ≠ T → t ≠ e → w'.heap[k]? = some (Obj.cells cs t fr)
  maps : ∀ (k : Nat) (es : Array MapEntry) (c : Nat), w.heap[k]? = some (Obj.map es c) → w'.heap[k]? = some (Obj.map es c)
theorem KeptT.refl (T e : TypeId) (w : World) : KeptT T e w w := ⟨Nat.le_refl _, fun _ _ _ _ h _ _ => h, fun _ _ _ h => h⟩
theorem KeptT.trans {T e : TypeId} {a b c : World} (h : KeptT T e a b) (h' : KeptT T e b c) : KeptT T e a c :=
  ⟨Nat.le_trans h.size h'.size, fun k cs t fr hk h1 h2 => h'.kept k cs t fr (h.kept k cs t fr hk h1 h2) h1 h2, fun k es cl hk => h'.maps k es cl (h.maps k es cl hk)⟩
theorem KeptT.of_below {T e : TypeId} {a b : World} (h : Below a.heap.size a b) : KeptT T e a b :=
  ⟨h.size, fun k cs t fr hk _ _ => by rw [h.block k (Array.getElem?_eq_some_iff.1 hk).1]; exact hk, fun k es c hk => by rw [h.block k (Array.getElem?_eq_some_iff.1 hk).1]; exact hk⟩
theorem KeptT.setCell {T e : TypeId} {w : World} {b : Nat} {cs : Array Value} {t : TypeId} {fr : Nat × Nat} (hb : w.heap[b]? = some (.cells cs t fr)) (ht : t = T ∨ t = e) (j : Nat) (v : Value) : KeptT T e w (w.setCell ⟨b, j, none⟩ v) :=
  ⟨by simp [World.setCell], fun k cs' t' fr' hk h1 h2 => by
    by_cases hkb : k = b
    · subst hkb
      rw [hb] at hk
      injection hk with hk
      injection hk with _ ht' _
      rcases ht with h | h
      · exact absurd (ht'.symm.trans h) h1
      · exact absurd (ht'.symm.trans h) h2
    · rw [Below.heap_setCell _ _ _ _ (fun he => hkb (by simpa using he))]; exact hk,
   fun k es c hk => by
    have hkb : k ≠ b := by
      rintro rfl
      rw [hb] at hk
      cases hk
    rw [Below.heap_setCell _ _ _ _ (fun he => hkb (by simpa using he))]; exact hk⟩
theorem KeptT.grown {T e : TypeId} {w w' : World} {B n size : Nat} {v : Value} {xs : List Value} (hown : w.ownsRow B e size v n xs) (hg : w.grownBy w' v.ownBlock) : KeptT T e w w' := by
  have hne : ∀ k, (∀ cs t fr, w.heap[k]? = some (Obj.cells cs t fr) → t ≠ e) → some k ≠ v.ownBlock := fun k hc he => by
    rcases hown.2 with ⟨rfl, _⟩ | ⟨g, cap, cur, rfl, _, hh, _⟩
    · simp [Value.ownBlock] at he
    · have : k = g := by simpa [Value.ownBlock] using he
      subst this
      exact hc _ _ _ hh rfl
  refine ⟨hg.size, fun k cs t fr hk _ h2 => ?_, fun k es c hk => ?_⟩
  · rw [hg.block k (Array.getElem?_eq_some_iff.1 hk).1 (hne k (fun cs' t' fr' h => by rw [hk] at h; cases h; exact h2))]
    exact hk
  · rw [hg.block k (Array.getElem?_eq_some_iff.1 hk).1 (hne k (fun cs' t' fr' h => by rw [hk] at h; cases h))]
    exact hk

/-- A builder stays what it is while what is new is written. -/
theorem builder_below {T e : TypeId} {B b : Nat} {bs : List Value} {w w' : World} (h : Lib.IsBuilder T e B b bs w) (hb : Below w.heap.size w w') : Lib.IsBuilder T e B b bs w' := by
  have hg : w.grownBy w' none := ⟨hb.os, hb.tape, hb.output, hb.size, fun i hi _ => hb.block i hi⟩
  have one : ∀ p, Lib.BuilderAt T e B b p bs w → Lib.BuilderAt T e B b p bs w' := fun p hp => by
    have hlt := hp.lt
    obtain ⟨hB, v, hv, hown, hne⟩ := hp
    refine ⟨hB, v, (hb.block b hlt).trans hv, hown.kept hg ?_, hne⟩
    cases ho : v.ownBlock with
    | none => exact .inl rfl
    | some k => exact .inr (by simp)
  rcases h with h | h
  · exact .inl (one _ h)
  · exact .inr (one _ h)
theorem copyCheckK (B b : Nat) (bs : List Value) (w : World) (h : Lib.IsBuilder 64 5 B b bs w) :
    Calls Tryd.prog 76 #[.pointer (some ⟨b, 0, none⟩)] w fun e w' => e = .returned (.tuple #[]) ∧ Lib.BuilderAt 64 5 B b (.pointer (some ⟨b, 0, none⟩)) bs w' ∧ Below B w w' ∧ KeptT 64 5 w w' := by
  rcases h with h | h
  · refine (copyCheck_fresh b w h.cell0 h.shape h.frozen0).mono ?_
    rintro e w' ⟨rfl, rfl⟩
    obtain ⟨hB, v, hv, hr⟩ := id h
    exact ⟨rfl, h.used _, (Below.refl B w).setCell (p := ⟨b, 0, none⟩) hB _, KeptT.setCell hv (.inl rfl) 0 _⟩
  · refine (copyCheck_used b w h.cell0).mono ?_
    rintro e w' ⟨rfl, rfl⟩
    exact ⟨rfl, h, Below.refl B _, KeptT.refl _ _ _⟩

set_option maxHeartbeats 2000000 in
set_option maxRecDepth 100000 in
theorem writeString (B b : Nat) (bs : List Value) (s : ByteArray) (w : World) (h : Lib.IsBuilder 64 5 B b bs w) (hlen : bs.length + s.size ≤ 140737488355328) (hBw : B ≤ w.heap.size) :
    Calls Tryd.prog 52 #[.pointer (some ⟨b, 0, none⟩), .string s] w fun e w' => e = .returned (.tuple #[.int .i64 s.size, .nilIface]) ∧
      Lib.BuilderAt 64 5 B b (.pointer (some ⟨b, 0, none⟩)) (bs ++ Lib.strCells s) w' ∧ Below B w w' ∧ KeptT 64 5 w w' := by
  obtain ⟨i0, hi, hz0, hz1, hz2⟩ := info_parts infoByte
  go_enter Tryd.func52, Tryd.ntmps52
  go_wp2_with (go_at_call 76; refine (copyCheckK B b bs _ h).mono ?_)
  rintro e w1 ⟨rfl, h1, hb1, hk1⟩
  obtain ⟨hB, v, hbk, hown, hne⟩ := h1
  have c0 : w1.cell? ⟨b, 0, none⟩ = some (.pointer (some ⟨b, 0, none⟩)) := by rw [Lib.cell_of_heap hbk]; rfl
  have c1 : w1.cell? ⟨b, 1, none⟩ = some v := by rw [Lib.cell_of_heap hbk]; rfl
  go_wp2_with (at_builtin; refine Lib.wpList_append_own_string _ rfl _ _ 62 9 rfl B 5 i0 Tryd.underlying62 Tryd.underlying9 hi hz0 hz1 hz2 _ _ _ rfl hown s rfl ?c3 ?c4 ?c5 ?_)
  case c3 => unfold maxLen; omega
  case c4 => omega
  case c5 => have := hb1.size; omega
  intro v' w2 hown' hgrow _
  have hlt : b < w1.heap.size := (Array.getElem?_eq_some_iff.1 hbk).1
  have hb2 : w2.heap[b]? = some (.cells #[.pointer (some ⟨b, 0, none⟩), v] 64 (0, 0)) := by
    rw [hgrow.block b hlt (fun e => hne e.symm)]
    exact hbk
  have d0 : w2.cell? ⟨b, 0, none⟩ = some (.pointer (some ⟨b, 0, none⟩)) := by rw [Lib.cell_of_heap hb2]; rfl
  have d1 : w2.cell? ⟨b, 1, none⟩ = some v := by rw [Lib.cell_of_heap hb2]; rfl
  have f1 : w2.frozen? ⟨b, 1, none⟩ = false := Lib.frozen_of_heap hb2 1
  obtain ⟨ao, n', cap, rfl⟩ : ∃ ao n' cap, v' = .slice ao n' cap := by
    rcases hown'.2 with ⟨hv, _⟩ | ⟨g, cap, cur, hv, _⟩
    · exact ⟨_, _, _, hv⟩
    · exact ⟨_, _, _, hv⟩
  have hK2 := KeptT.grown (T := 64) hown hgrow
  go_wp2
  go_ret2
  refine ⟨rfl, ?_, ?_, ?_⟩
  · exact Lib.BuilderAt.put (T := 64) (e := 5) hB hb2 (bs' := bs ++ Lib.strCells s) (by simpa [Lib.strCells_length] using hown') (by decide)
  · exact (hb1.grown hgrow (by have := hb1.size; omega) (fun k hk => (hown.lt k hk).1)).setCell (p := ⟨b, 1, none⟩) hB _
  · exact (hk1.trans hK2).trans (KeptT.setCell hb2 (.inl rfl) 1 _)
end Go.Proofs.YtpgjhjlhipikgaaDoor.Bk
end
section
set_option linter.unusedVariables false
set_option linter.unusedSimpArgs false
namespace Go.Proofs.YtpgjhjlhipikgaaDoor.PK
open Go.RowKit Go.Proofs.YtpgjhjlhipikgaaDoorW.PrintWords Go.Proofs.YtpgjhjlhipikgaaDoorW.PrintLast Go.Proofs.YtpgjhjlhipikgaaDoorW.PrintMore
theorem cd_zig (n : Int) : m_unzig (m_zig n) = n := by
  unfold m_unzig m_zig
  split <;> split <;> omega
theorem cd_unzig (z : Nat) : m_zig (m_unzig z) = z := by
  unfold m_zig m_unzig
  split <;> split <;> omega
theorem cd_toNat (n : Nat) (h : n < 256) : (UInt8.ofNat n).toNat = n := by simp [UInt8.toNat_ofNat']; omega
theorem cd_ofNat (c : UInt8) : UInt8.ofNat c.toNat = c := by simp
theorem cd_vint_small (k z : Nat) (h : z < 128) : m_vint (k + 1) z = [UInt8.ofNat z] := by rw [m_vint, if_pos h]
theorem cd_vint_big (k z : Nat) (h : ¬ z < 128) : m_vint (k + 1) z = UInt8.ofNat (z % 128 + 128) :: m_vint k (z / 128) := by rw [m_vint, if_neg h]
theorem cd_rdz_vint : ∀ (k k' i z : Nat) (r : List UInt8), z < 128 ^ (k + 1) → k ≤ k' → (i = 0 ∨ z ≠ 0) → m_rdz (k + 1) i (m_vint (k' + 1) z ++ r) = some (z, r) := by
  intro k
  induction k with
  | zero =>
    intro k' i z r hz hk hi
    have hz' : z < 128 := by simpa using hz
    rw [cd_vint_small _ _ hz', List.singleton_append, m_rdz, cd_toNat z (by omega), if_neg (by omega), if_neg (by omega)]
  | succ k ih =>
    intro k' i z r hz hk hi
    by_cases h : z < 128
    · rw [cd_vint_small _ _ h, List.singleton_append, m_rdz, cd_toNat z (by omega), if_neg (by omega), if_neg (by omega)]
    · obtain ⟨k', rfl⟩ : ∃ j, k' = j + 1 := ⟨k' - 1, by omega⟩
      rw [cd_vint_big _ _ h, List.cons_append, m_rdz, cd_toNat _ (by omega), if_pos (by omega), ih k' (i + 1) (z / 128) r ?_ (by omega) (.inr (by omega))]
      · simp only [Option.map_some, Option.some.injEq, Prod.mk.injEq, and_true]; omega
      · rw [Nat.pow_succ] at hz; exact Nat.div_lt_of_lt_mul (by omega)
theorem cd_rdz_inv : ∀ (k i : Nat) (l r : List UInt8) (z : Nat), m_rdz k i l = some (z, r) → z < 128 ^ k ∧ (0 < i → z ≠ 0) ∧ ∀ k', k ≤ k' → l = m_vint k' z ++ r := by
  intro k
  induction k with
  | zero => intro i l r z h; cases h
  | succ k ih =>
    intro i l r z h
    cases l with
    | nil => cases h
    | cons c l =>
      rw [m_rdz] at h
      have hc : c.toNat < 256 := c.toNat_lt
      by_cases h1 : 128 ≤ c.toNat
      · rw [if_pos h1] at h
        obtain ⟨⟨z', r'⟩, h2, h3⟩ := Option.map_eq_some_iff.1 h
        obtain ⟨e1, e2⟩ := Prod.mk.inj h3
        dsimp only at e1 e2
        obtain ⟨a1, a2, a3⟩ := ih _ _ _ _ h2
        have a2' := a2 (by omega)
        subst e2
        refine ⟨by rw [Nat.pow_succ]; omega, fun _ => by omega, fun k' hk' => ?_⟩
        obtain ⟨k', rfl⟩ : ∃ j, k' = j + 1 := ⟨k' - 1, by omega⟩
        rw [cd_vint_big _ _ (by omega), show z % 128 + 128 = c.toNat by omega, show z / 128 = z' by omega, cd_ofNat, List.cons_append, ← a3 k' (by omega)]
      · rw [if_neg h1] at h
        by_cases h2 : c.toNat = 0 ∧ 0 < i
        · rw [if_pos h2] at h; cases h
        · rw [if_neg h2] at h
          obtain ⟨e1, e2⟩ := Prod.mk.inj (Option.some.inj h)
          subst e2
          refine ⟨by rw [Nat.pow_succ]; have := Nat.pow_pos (n := k) (show 0 < 128 by decide); omega, fun _ => by omega, fun k' hk' => ?_⟩
          obtain ⟨k', rfl⟩ : ∃ j, k' = j + 1 := ⟨k' - 1, by omega⟩
          rw [cd_vint_small _ _ (by omega), ← e1, cd_ofNat, List.singleton_append]
/-- A number of which only the first bytes are there is not read. -/
theorem cd_rdz_pre : ∀ (k i : Nat) (l r p q : List UInt8) (z : Nat), m_rdz k i l = some (z, r) → l = p ++ q → m_rdz k i p = none ∨ ∃ p', r = p' ++ q ∧ m_rdz k i p = some (z, p') := by
  intro k
  induction k with
  | zero => intro i l r p q z h; cases h
  | succ k ih =>
    intro i l r p q z h hl
    cases p with
    | nil => exact .inl rfl
    | cons c p =>
      subst hl
      rw [List.cons_append, m_rdz] at h
      rw [m_rdz]
      by_cases h1 : 128 ≤ c.toNat
      · rw [if_pos h1] at h ⊢
        obtain ⟨⟨z', r'⟩, h2, h3⟩ := Option.map_eq_some_iff.1 h
        obtain ⟨e1, e2⟩ := Prod.mk.inj h3
        dsimp only at e1 e2
        subst e2
        rcases ih _ _ _ _ _ _ h2 rfl with h4 | ⟨p', h4, h5⟩
        · exact .inl (by rw [h4]; rfl)
        · exact .inr ⟨p', h4, by rw [h5]; simp [e1]⟩
      · rw [if_neg h1] at h ⊢
        by_cases h2 : c.toNat = 0 ∧ 0 < i
        · rw [if_pos h2] at h; cases h
        · rw [if_neg h2] at h ⊢
          obtain ⟨e1, e2⟩ := Prod.mk.inj (Option.some.inj h)
          exact .inr ⟨p, e2.symm, by rw [e1]⟩
theorem cd_fits (n : Int) : m_fits n = true ↔ -4611686018427387903 ≤ n ∧ n ≤ 4611686018427387903 := by simp [m_fits]

/-- A reading step and the encoding that it reads: of the values that are allowed; and of what is cut off it tells that nothing is there. -/
structure Codec {α : Type} (one : Rd α) (enc : α → List UInt8) (ok : α → Prop) : Prop where mk ::
  back : ∀ x r, ok x → one (enc x ++ r) = .ok (x, r)
  only : ∀ l x r, one l = .ok (x, r) → ok x ∧ l = enc x ++ r
  pre : ∀ l x r p q, one l = .ok (x, r) → l = p ++ q → one p = .error 10 ∨ ∃ p', r = p' ++ q ∧ one p = .ok (x, p')
theorem cd_int : Codec rdI m_int (fun n => m_fits n = true) where
  back n r h := by
    rw [cd_fits] at h
    have hz : m_zig n < 128 ^ (8 + 1) := by unfold m_zig; split <;> omega
    unfold rdI m_rdInt m_int
    rw [cd_rdz_vint 8 9 0 _ r hz (by omega) (.inl rfl)]
    simp only [cd_zig]
    rw [if_neg (by omega)]
  only l n r h := by
    unfold rdI m_rdInt at h
    cases h1 : m_rdz 9 0 l with
    | none => rw [h1] at h; cases h
    | some p =>
      obtain ⟨z, r'⟩ := p
      rw [h1] at h
      dsimp only at h
      by_cases h2 : m_unzig z < -4611686018427387903
      · rw [if_pos h2] at h; cases h
      · rw [if_neg h2] at h
        dsimp only at h
        injection h with h
        obtain ⟨e1, e2⟩ := Prod.mk.inj h
        obtain ⟨a1, _, a3⟩ := cd_rdz_inv _ _ _ _ _ h1
        refine ⟨?_, ?_⟩
        · rw [cd_fits, ← e1]
          have : m_unzig z ≤ 4611686018427387903 := by unfold m_unzig; split <;> omega
          omega
        · rw [a3 10 (by omega), ← e1, ← e2]
          unfold m_int
          rw [cd_unzig]
  pre l n r p q h hl := by
    unfold rdI m_rdInt at h ⊢
    cases h1 : m_rdz 9 0 l with
    | none => rw [h1] at h; cases h
    | some x =>
      obtain ⟨z, r'⟩ := x
      rw [h1] at h
      dsimp only at h
      by_cases h2 : m_unzig z < -4611686018427387903
      · rw [if_pos h2] at h; cases h
      · rw [if_neg h2] at h
        dsimp only at h
        injection h with h
        obtain ⟨e1, e2⟩ := Prod.mk.inj h
        subst e2
        rcases cd_rdz_pre _ _ _ _ _ _ _ h1 hl with h3 | ⟨p', h3, h4⟩
        · exact .inl (by rw [h3])
        · refine .inr ⟨p', h3, ?_⟩
          rw [h4]
          dsimp only
          rw [if_neg h2]
          dsimp only
          rw [e1]
theorem cd_rdI_eq (l : List UInt8) : rdI l = match m_rdInt l with | none => .error 10 | some p => .ok p := rfl
theorem cd_rdStr (l : List UInt8) : rdS l = match rdI l with
    | .error e => .error 10
    | .ok (n, r) => if n < 0 ∨ 65536 < n ∨ (r.length : Int) < n then .error 10 else .ok (r.take n.toNat, r.drop n.toNat) := by
  unfold rdS m_rdStr rdI
  cases h : m_rdInt l with
  | none => rfl
  | some p =>
    obtain ⟨n, r⟩ := p
    dsimp only
    by_cases h2 : n < 0 ∨ 65536 < n ∨ (r.length : Int) < n
    · rw [if_pos h2, if_pos h2]
    · rw [if_neg h2, if_neg h2]
theorem cd_rdI_err (l : List UInt8) (e : Int) (h : rdI l = .error e) : e = 10 := by
  unfold rdI at h
  cases h1 : m_rdInt l with
  | none => rw [h1] at h; injection h with h; exact h.symm
  | some p => rw [h1] at h; cases h
theorem cd_str : Codec rdS m_str (fun t => t.length ≤ 65536) where
  back t r h := by
    rw [cd_rdStr]
    unfold m_str
    rw [List.append_assoc, cd_int.back _ _ ((cd_fits _).2 (by omega))]
    dsimp only
    rw [if_neg (by rw [List.length_append]; omega)]
    (simp)
  only l t r h := by
    rw [cd_rdStr] at h
    cases h1 : rdI l with
    | error e => rw [h1] at h; cases h
    | ok p =>
      obtain ⟨n, r'⟩ := p
      rw [h1] at h
      dsimp only at h
      by_cases h2 : n < 0 ∨ 65536 < n ∨ (r'.length : Int) < n
      · rw [if_pos h2] at h; cases h
      · rw [if_neg h2] at h
        injection h with h
        obtain ⟨e1, e2⟩ := Prod.mk.inj h
        obtain ⟨a1, a2⟩ := cd_int.only _ _ _ h1
        have hl : t.length = n.toNat := by rw [← e1, List.length_take]; omega
        refine ⟨by omega, ?_⟩
        unfold m_str
        rw [a2, hl, show ((n.toNat : Nat) : Int) = n by omega, ← e1, ← e2, List.append_assoc, List.take_append_drop]
  pre l t r p q h hl := by
    rw [cd_rdStr] at h ⊢
    cases h1 : rdI l with
    | error e => rw [h1] at h; cases h
    | ok x =>
      obtain ⟨n, r'⟩ := x
      rw [h1] at h
      dsimp only at h
      by_cases h2 : n < 0 ∨ 65536 < n ∨ (r'.length : Int) < n
      · rw [if_pos h2] at h; cases h
      · rw [if_neg h2] at h
        injection h with h
        obtain ⟨e1, e2⟩ := Prod.mk.inj h
        rcases cd_int.pre _ _ _ _ _ h1 hl with h3 | ⟨p', h3, h4⟩
        · exact .inl (by rw [h3])
        · rw [h4]
          dsimp only
          subst h3
          rw [List.length_append] at h2
          by_cases h5 : (p'.length : Int) < n
          · exact .inl (by rw [if_pos (by omega)])
          · refine .inr ⟨p'.drop n.toNat, ?_, ?_⟩
            · rw [← e2, List.drop_append_of_le_length (by omega)]
            · rw [if_neg (by omega), ← e1, List.take_append_of_le_length (by omega)]
theorem cd_rdN_zero {α : Type} (one : Rd α) (l : List UInt8) : rdN one 0 l = .ok ([], l) := rfl
theorem cd_rdB_eq (l : List UInt8) : rdB l = rdBind rdI (fun id l => rdBind rdI (fun kind l => rdBind rdS (fun text l => rdBind rdI (fun story l => rdBind rdI (fun ref l => rdBind rdI (fun u l => rdBind (rdL 64 rdI) (fun after l => rdBind rdI (fun a l => rdBind rdI (fun d l => .ok (⟨id, kind, ⟨text.toArray⟩, story, ref, ⟨u, after, a, d⟩⟩, l)) l) l) l) l) l) l) l) l) l := rfl
theorem cd_rdN_bind {α : Type} (one : Rd α) (n : Nat) (l : List UInt8) : rdN one (n + 1) l = rdBind one (fun x l => rdBind (rdN one n) (fun xs l => .ok (x :: xs, l)) l) l := rfl
theorem cd_rdL_bind {α : Type} (most : Int) (one : Rd α) (l : List UInt8) : rdL most one l = rdBind rdI (fun n l => if n < 0 ∨ most < n then .error 30 else rdN one n.toNat l) l := rfl
theorem cd_bind_ok {α β : Type} {one : Rd α} {next : α → List UInt8 → Except Int β} {l l' : List UInt8} {x : α} (h : one l = .ok (x, l')) : rdBind one next l = next x l' := by unfold rdBind; rw [h]
theorem cd_bind_err {α β : Type} {one : Rd α} {next : α → List UInt8 → Except Int β} {l : List UInt8} {e : Int} (h : one l = .error e) : rdBind one next l = .error e := by unfold rdBind; rw [h]
theorem cd_step {α β : Type} {one : Rd α} {enc : α → List UInt8} {ok : α → Prop} (hc : Codec one enc ok) {next : α → List UInt8 → Except Int β} :
    (∀ l y, rdBind one next l = Except.ok y → ∃ x l', one l = .ok (x, l') ∧ ok x ∧ l = enc x ++ l' ∧ next x l' = .ok y) := by
  intro l y h
  cases h1 : one l with
  | error e => rw [cd_bind_err h1] at h; cases h
  | ok p =>
    obtain ⟨x, l'⟩ := p
    rw [cd_bind_ok h1] at h
    exact ⟨x, l', rfl, (hc.only _ _ _ h1).1, (hc.only _ _ _ h1).2, h⟩
theorem cd_rdN {α : Type} {one : Rd α} {enc : α → List UInt8} {ok : α → Prop} (hc : Codec one enc ok) (n : Nat) : Codec (rdN one n) (fun xs => xs.flatMap enc) (fun xs => xs.length = n ∧ ∀ x ∈ xs, ok x) := by
  induction n with
  | zero =>
    refine ⟨fun xs r h => ?_, fun l xs r h => ?_, fun l xs r p q h hl => ?_⟩
    · rw [List.eq_nil_of_length_eq_zero h.1]; rfl
    · rw [cd_rdN_zero] at h
      injection h with h
      obtain ⟨e1, e2⟩ := Prod.mk.inj h
      subst e1; subst e2
      exact ⟨⟨rfl, by simp⟩, rfl⟩
    · rw [cd_rdN_zero] at h ⊢
      injection h with h
      obtain ⟨e1, e2⟩ := Prod.mk.inj h
      exact .inr ⟨p, by rw [← e2, hl], by rw [e1]⟩
  | succ n ih =>
    refine ⟨fun xs r h => ?_, fun l xs r h => ?_, fun l xs r p q h hl => ?_⟩
    · cases xs with
      | nil => exact absurd h.1 (by simp)
      | cons x xs =>
        obtain ⟨h1, h2⟩ := h
        show rdN one (n + 1) ((x :: xs).flatMap enc ++ r) = _
        rw [cd_rdN_bind, List.flatMap_cons, List.append_assoc, cd_bind_ok (hc.back x _ (h2 x (by simp))), cd_bind_ok (ih.back xs r ⟨by simpa using h1, fun y hy => h2 y (by simp [hy])⟩)]
    · rw [cd_rdN_bind] at h
      obtain ⟨x, l1, _, o1, q_x, h⟩ := cd_step hc _ _ h
      obtain ⟨ys, l2, _, o2, q_ys, h⟩ := cd_step ih _ _ h
      injection h with h
      obtain ⟨e1, e2⟩ := Prod.mk.inj h
      subst e1; subst e2
      refine ⟨⟨by simp [o2.1], ?_⟩, by rw [q_x, q_ys, List.flatMap_cons, List.append_assoc]⟩
      intro y hy
      rcases List.mem_cons.1 hy with rfl | hy
      · exact o1
      · exact o2.2 y hy
    · rw [cd_rdN_bind] at h ⊢
      obtain ⟨x, l1, g1, _, _, h⟩ := cd_step hc _ _ h
      rcases hc.pre _ _ _ _ _ g1 hl with h3 | ⟨p', h3, h4⟩
      · exact .inl (cd_bind_err h3)
      rw [cd_bind_ok h4]
      obtain ⟨ys, l2, g2, _, _, h⟩ := cd_step ih _ _ h
      rcases ih.pre _ _ _ _ _ g2 h3 with h5 | ⟨p2, h5, h6⟩
      · exact .inl (cd_bind_err h5)
      rw [cd_bind_ok h6]
      injection h with h
      obtain ⟨e1, e2⟩ := Prod.mk.inj h
      exact .inr ⟨p2, by rw [← e2, h5], by rw [← e1]⟩
theorem cd_rdL {α : Type} {one : Rd α} {enc : α → List UInt8} {ok : α → Prop} (hc : Codec one enc ok) (most : Nat) (hm : (most : Int) ≤ 1000000) : Codec (rdL most one) (fun xs => m_int xs.length ++ xs.flatMap enc) (fun xs => xs.length ≤ most ∧ ∀ x ∈ xs, ok x) where
  back xs r h := by
    rw [cd_rdL_bind, List.append_assoc, cd_bind_ok (cd_int.back _ _ ((cd_fits _).2 (by omega))), if_neg (by omega), Int.toNat_natCast, (cd_rdN hc xs.length).back xs r ⟨rfl, h.2⟩]
  only l xs r h := by
    rw [cd_rdL_bind] at h
    obtain ⟨n, l1, _, _, q_n, h⟩ := cd_step cd_int _ _ h
    by_cases h2 : n < 0 ∨ (most : Int) < n
    · rw [if_pos h2] at h; cases h
    · rw [if_neg h2] at h
      obtain ⟨⟨b1, b2⟩, b3⟩ := (cd_rdN hc _).only _ _ _ h
      refine ⟨⟨by omega, b2⟩, ?_⟩
      show _ = (m_int xs.length ++ _) ++ r
      rw [q_n, b3, b1, show ((n.toNat : Nat) : Int) = n by omega, List.append_assoc]
  pre l xs r p q h hl := by
    rw [cd_rdL_bind] at h ⊢
    obtain ⟨n, l1, g1, _, _, h⟩ := cd_step cd_int _ _ h
    rcases cd_int.pre _ _ _ _ _ g1 hl with h3 | ⟨p', h3, h4⟩
    · exact .inl (cd_bind_err h3)
    rw [cd_bind_ok h4]
    by_cases h2 : n < 0 ∨ (most : Int) < n
    · rw [if_pos h2] at h; cases h
    · rw [if_neg h2] at h ⊢
      exact (cd_rdN hc _).pre _ _ _ _ _ h h3
/-- What an encoded block's fields are. -/
def m_okB (b : Bl) : Prop := m_fits b.f0 = true ∧ m_fits b.f1 = true ∧ b.f2.data.toList.length ≤ 65536 ∧ m_fits b.f3 = true ∧ m_fits b.f4 = true ∧ m_fits b.f5.f0 = true ∧ (b.f5.f1.length ≤ 64 ∧ ∀ x ∈ b.f5.f1, m_fits x = true) ∧ m_fits b.f5.f2 = true ∧ m_fits b.f5.f3 = true
theorem cd_ints : Codec (rdL 64 rdI) (fun xs => m_int xs.length ++ xs.flatMap m_int) (fun xs => xs.length ≤ 64 ∧ ∀ x ∈ xs, m_fits x = true) := cd_rdL cd_int 64 (by omega)
theorem cd_block : Codec rdB m_encB m_okB where
  back b r h := by
    obtain ⟨h0, h1, h2, h3, h4, h5, h6, h7, h8⟩ := h
    rw [cd_rdB_eq]
    unfold m_encB
    simp only [List.append_assoc]
    rw [cd_bind_ok (cd_int.back _ _ h0)]
    rw [cd_bind_ok (cd_int.back _ _ h1)]
    rw [cd_bind_ok (cd_str.back _ _ h2)]
    rw [cd_bind_ok (cd_int.back _ _ h3)]
    rw [cd_bind_ok (cd_int.back _ _ h4)]
    rw [cd_bind_ok (cd_int.back _ _ h5)]
    rw [← List.append_assoc (m_int (b.f5.f1.length : Int)), cd_bind_ok (cd_ints.back _ _ h6)]
    rw [cd_bind_ok (cd_int.back _ _ h7)]
    rw [cd_bind_ok (cd_int.back _ _ h8)]
  only l b r h := by
    rw [cd_rdB_eq] at h
    obtain ⟨x0, l0, _, o0, q_x0, h⟩ := cd_step cd_int _ _ h
    obtain ⟨x1, l1, _, o1, q_x1, h⟩ := cd_step cd_int _ _ h
    obtain ⟨x2, l2, _, o2, q_x2, h⟩ := cd_step cd_str _ _ h
    obtain ⟨x3, l3, _, o3, q_x3, h⟩ := cd_step cd_int _ _ h
    obtain ⟨x4, l4, _, o4, q_x4, h⟩ := cd_step cd_int _ _ h
    obtain ⟨x5, l5, _, o5, q_x5, h⟩ := cd_step cd_int _ _ h
    obtain ⟨x6, l6, _, o6, q_x6, h⟩ := cd_step cd_ints _ _ h
    obtain ⟨x7, l7, _, o7, q_x7, h⟩ := cd_step cd_int _ _ h
    obtain ⟨x8, l8, _, o8, q_x8, h⟩ := cd_step cd_int _ _ h
    injection h with h
    obtain ⟨e1, e2⟩ := Prod.mk.inj h
    subst e1; subst e2
    refine ⟨⟨o0, o1, o2, o3, o4, o5, o6, o7, o8⟩, ?_⟩
    rw [q_x0, q_x1, q_x2, q_x3, q_x4, q_x5, q_x6, q_x7, q_x8]
    simp only [m_encB, List.append_assoc]
  pre l b r p q h hl := by
    rw [cd_rdB_eq] at h ⊢
    obtain ⟨x0, l0, g0, _, _, h⟩ := cd_step cd_int _ _ h
    rcases cd_int.pre _ _ _ _ _ g0 hl with e0 | ⟨p0, hl, e0⟩
    · exact .inl (cd_bind_err e0)
    rw [cd_bind_ok e0]
    obtain ⟨x1, l1, g1, _, _, h⟩ := cd_step cd_int _ _ h
    rcases cd_int.pre _ _ _ _ _ g1 hl with e0 | ⟨p1, hl, e0⟩
    · exact .inl (cd_bind_err e0)
    rw [cd_bind_ok e0]
    obtain ⟨x2, l2, g2, _, _, h⟩ := cd_step cd_str _ _ h
    rcases cd_str.pre _ _ _ _ _ g2 hl with e0 | ⟨p2, hl, e0⟩
    · exact .inl (cd_bind_err e0)
    rw [cd_bind_ok e0]
    obtain ⟨x3, l3, g3, _, _, h⟩ := cd_step cd_int _ _ h
    rcases cd_int.pre _ _ _ _ _ g3 hl with e0 | ⟨p3, hl, e0⟩
    · exact .inl (cd_bind_err e0)
    rw [cd_bind_ok e0]
    obtain ⟨x4, l4, g4, _, _, h⟩ := cd_step cd_int _ _ h
    rcases cd_int.pre _ _ _ _ _ g4 hl with e0 | ⟨p4, hl, e0⟩
    · exact .inl (cd_bind_err e0)
    rw [cd_bind_ok e0]
    obtain ⟨x5, l5, g5, _, _, h⟩ := cd_step cd_int _ _ h
    rcases cd_int.pre _ _ _ _ _ g5 hl with e0 | ⟨p5, hl, e0⟩
    · exact .inl (cd_bind_err e0)
    rw [cd_bind_ok e0]
    obtain ⟨x6, l6, g6, _, _, h⟩ := cd_step cd_ints _ _ h
    rcases cd_ints.pre _ _ _ _ _ g6 hl with e0 | ⟨p6, hl, e0⟩
    · exact .inl (cd_bind_err e0)
    rw [cd_bind_ok e0]
    obtain ⟨x7, l7, g7, _, _, h⟩ := cd_step cd_int _ _ h
    rcases cd_int.pre _ _ _ _ _ g7 hl with e0 | ⟨p7, hl, e0⟩
    · exact .inl (cd_bind_err e0)
    rw [cd_bind_ok e0]
    obtain ⟨x8, l8, g8, _, _, h⟩ := cd_step cd_int _ _ h
    rcases cd_int.pre _ _ _ _ _ g8 hl with e0 | ⟨p8, hl, e0⟩
    · exact .inl (cd_bind_err e0)
    rw [cd_bind_ok e0]
    injection h with h
    obtain ⟨e1, e2⟩ := Prod.mk.inj h
    subst e1; subst e2
    exact .inr ⟨p8, hl, rfl⟩
theorem cd_list : Codec (rdL 24 rdB) m_enc (fun l => l.length ≤ 24 ∧ ∀ b ∈ l, m_okB b) := cd_rdL cd_block 24 (by omega)

/-! what a valid list is -/
theorem cd_asc_lb : ∀ (l : List Int) (lo : Int), (∀ x ∈ l, lo ≤ x) → m_asc l = true → (∀ x ∈ l, x ≤ 64) → (l.length : Int) ≤ 65 - lo ∨ l = []
  | [], _, _, _, _ => .inr rfl
  | [x], lo, h1, _, h3 => by
    have := h1 x (by simp); have := h3 x (by simp)
    left; simp; omega
  | x :: y :: l, lo, h1, h2, h3 => by
    simp only [m_asc, Bool.and_eq_true, decide_eq_true_eq] at h2
    have hx := h1 x (by simp)
    have hall : ∀ z ∈ y :: l, x + 1 ≤ z := by
      have key : ∀ (m : List Int) (y : Int), m_asc (y :: m) = true → ∀ z ∈ y :: m, y ≤ z := by
        intro m
        induction m with
        | nil => intro y _ z hz; simp at hz; omega
        | cons a m ih =>
          intro y hm z hz
          simp only [m_asc, Bool.and_eq_true, decide_eq_true_eq] at hm
          rcases List.mem_cons.1 hz with rfl | hz
          · omega
          · have := ih a hm.2 z hz; omega
      intro z hz
      have := key l y h2.2 z hz
      omega
    rcases cd_asc_lb (y :: l) (x + 1) hall h2.2 (fun z hz => h3 z (by simp [hz])) with h | h
    · left; simp only [List.length_cons] at h ⊢; omega
    · cases h
theorem cd_label_ok (u : Int) (l : List Int) (a d : Int) (h : m_label u l a d = true) : m_fits u = true ∧ (l.length ≤ 64 ∧ ∀ x ∈ l, m_fits x = true) ∧ m_fits a = true ∧ m_fits d = true := by
  simp only [m_label, Bool.and_eq_true, decide_eq_true_eq, List.all_eq_true] at h
  obtain ⟨⟨⟨⟨⟨⟨⟨h1, h2⟩, h3⟩, h4⟩, h5⟩, h6⟩, h7⟩, h8⟩ := h
  simp only [cd_fits]
  refine ⟨by omega, ⟨?_, fun x hx => by have := h3 x hx; omega⟩, by omega, by omega⟩
  rcases cd_asc_lb l 1 (fun x hx => (h3 x hx).1) h4 (fun x hx => (h3 x hx).2) with h | h
  · omega
  · subst h; simp
theorem cd_valid_ok (b : Bl) (h : m_validB b = true) : m_okB b := by
  unfold m_validB m_valid at h
  simp only [Bool.and_eq_true, decide_eq_true_eq] at h
  obtain ⟨⟨⟨⟨h1, h2⟩, h3⟩, h4⟩, h5⟩ := h
  obtain ⟨l1, l2, l3, l4⟩ := cd_label_ok _ _ _ _ h3
  have ht : b.f2.data.toList.length ≤ 300 := by
    simp only [m_text, Bool.and_eq_true, decide_eq_true_eq] at h4
    simpa using h4.1
  unfold m_okB
  refine ⟨(cd_fits _).2 (by omega), ?_, by omega, ?_, ?_, l1, l2, l3, l4⟩
  · rw [cd_fits]
    by_cases k1 : b.f1 = 1 ∨ b.f1 = 2 ∨ b.f1 = 4
    · omega
    · rw [if_neg k1] at h5
      by_cases k2 : b.f1 = 5
      · omega
      · rw [if_neg k2] at h5
        by_cases k3 : b.f1 = 3
        · omega
        · rw [if_neg k3] at h5; cases h5
  · rw [cd_fits]
    split at h5
    · simp only [Bool.and_eq_true, decide_eq_true_eq] at h5; omega
    · split at h5
      · simp only [Bool.and_eq_true, decide_eq_true_eq] at h5; omega
      · split at h5
        · simp only [Bool.and_eq_true, decide_eq_true_eq] at h5; omega
        · cases h5
  · rw [cd_fits]
    split at h5
    · simp only [Bool.and_eq_true, decide_eq_true_eq] at h5; omega
    · split at h5
      · simp only [Bool.and_eq_true, decide_eq_true_eq] at h5; omega
      · split at h5
        · simp only [Bool.and_eq_true, decide_eq_true_eq] at h5; omega
        · cases h5
theorem cd_fresh_ok : ∀ (l : List Bl) (ids : List Int), m_fresh ids l = true → ∀ b ∈ l, m_validB b = true
  | [], _, _ => by simp
  | x :: l, ids, h => by
    simp only [m_fresh, Bool.and_eq_true] at h
    intro b hb
    rcases List.mem_cons.1 hb with rfl | hb
    · exact h.1.2
    · exact cd_fresh_ok l _ h.2 b hb
theorem cd_validL_ok (l : List Bl) (h : m_validL l = true) : l.length ≤ 24 ∧ ∀ b ∈ l, m_okB b := by
  simp only [m_validL, Bool.and_eq_true, decide_eq_true_eq] at h
  exact ⟨h.1, fun b hb => cd_valid_ok b (cd_fresh_ok l [] h.2 b hb)⟩
theorem cd_ba (a : ByteArray) : (⟨a.data.toList.toArray⟩ : ByteArray) = a := by cases a; simp
theorem cd_ba_inj (a b : ByteArray) (h : a.data.toList = b.data.toList) : a = b := by rw [← cd_ba a, h, cd_ba]

/-! the laws -/
theorem cd_encode_ok (l : List Bl) (h : m_validL l = true) : m_encode l = (⟨(m_enc l).toArray⟩, 0) := by unfold m_encode; rw [if_pos h]
theorem cd_encode_err (l : List Bl) (h : m_validL l = false) : m_encode l = (⟨#[]⟩, 30) := by unfold m_encode; rw [if_neg (by simp [h])]
/-- Decoding the encoding of a valid list. -/
theorem cd_decode_enc (l : List Bl) (h : m_validL l = true) (s : ByteArray) (hs : s.data.toList = m_enc l) : m_decode s = (l, 0) := by
  unfold m_decode
  have := cd_list.back l [] (cd_validL_ok l h)
  rw [List.append_nil] at this
  rw [hs, this]
  dsimp only
  rw [if_neg (by simp), if_pos h]
/-- Which errors a reading step tells. -/
def Errs {α : Type} (one : Rd α) : Prop := ∀ l e, one l = .error e → e = 10 ∨ e = 30
theorem cd_errs_step {α β : Type} {one : Rd α} (h1 : Errs one) {next : α → List UInt8 → Except Int β} (h2 : ∀ x l e, next x l = .error e → e = 10 ∨ e = 30) :
    ∀ l e, rdBind one next l = Except.error e → e = 10 ∨ e = 30 := by
  intro l e h
  cases h3 : one l with
  | error e' =>
    rw [cd_bind_err h3] at h
    injection h with h
    subst h
    exact h1 _ _ h3
  | ok p =>
    obtain ⟨x, l'⟩ := p
    rw [cd_bind_ok h3] at h
    exact h2 _ _ _ h
theorem cd_errsI : Errs rdI := fun l e h => .inl (cd_rdI_err l e h)
theorem cd_errsS : Errs rdS := fun l e h => by
  unfold rdS at h
  cases h1 : m_rdStr l with
  | none => rw [h1] at h; injection h with h; exact .inl h.symm
  | some p => rw [h1] at h; cases h
theorem cd_errsN {α : Type} {one : Rd α} (h : Errs one) : ∀ n, Errs (rdN one n)
  | 0 => fun l e h => by rw [cd_rdN_zero] at h; cases h
  | n + 1 => fun l e h' => by
    rw [cd_rdN_bind] at h'
    refine cd_errs_step h (fun x l e h2 => ?_) l e h'
    refine cd_errs_step (cd_errsN h n) (next := fun xs l2 => .ok (x :: xs, l2)) (fun x l e h3 => ?_) l e h2
    cases h3
theorem cd_errsL {α : Type} {one : Rd α} (h : Errs one) (most : Int) : Errs (rdL most one) := fun l e h' => by
  rw [cd_rdL_bind] at h'
  refine cd_errs_step cd_errsI (fun n l e h2 => ?_) l e h'
  by_cases h3 : n < 0 ∨ most < n
  · rw [if_pos h3] at h2; injection h2 with h2; exact .inr h2.symm
  · rw [if_neg h3] at h2; exact cd_errsN h _ _ _ h2
theorem cd_errsB : Errs rdB := by
  intro l e h
  rw [cd_rdB_eq] at h
  refine cd_errs_step cd_errsI (fun x0 l e h => ?_) l e h
  refine cd_errs_step cd_errsI (fun x1 l e h => ?_) l e h
  refine cd_errs_step cd_errsS (fun x2 l e h => ?_) l e h
  refine cd_errs_step cd_errsI (fun x3 l e h => ?_) l e h
  refine cd_errs_step cd_errsI (fun x4 l e h => ?_) l e h
  refine cd_errs_step cd_errsI (fun x5 l e h => ?_) l e h
  refine cd_errs_step (cd_errsL cd_errsI 64) (fun x6 l e h => ?_) l e h
  refine cd_errs_step cd_errsI (fun x7 l e h => ?_) l e h
  refine cd_errs_step cd_errsI (fun x8 l e h => ?_) l e h
  cases h
theorem cd_errs_list : Errs (rdL 24 rdB) := cd_errsL cd_errsB 24
/-- Encoding what was decoded. -/
theorem cd_decoded (s : ByteArray) (l : List Bl) (e : Int) (h : m_decode s = (l, e)) : (e = 0 ∧ m_validL l = true ∧ m_encode l = (s, 0)) ∨ (l = [] ∧ (e = 10 ∨ e = 30)) := by
  unfold m_decode at h
  cases h1 : rdL 24 rdB s.data.toList with
  | error e' =>
    rw [h1] at h
    dsimp only at h
    obtain ⟨e1, e2⟩ := Prod.mk.inj h
    subst e2
    exact .inr ⟨e1.symm, cd_errs_list _ _ h1⟩
  | ok p =>
    obtain ⟨l', r⟩ := p
    rw [h1] at h
    dsimp only at h
    by_cases hr : r ≠ []
    · rw [if_pos hr] at h
      obtain ⟨e1, e2⟩ := Prod.mk.inj h
      exact .inr ⟨e1.symm, .inl e2.symm⟩
    · rw [if_neg hr] at h
      have hr' : r = [] := by simpa using hr
      subst hr'
      by_cases hv : m_validL l' = true
      · rw [if_pos hv] at h
        obtain ⟨e1, e2⟩ := Prod.mk.inj h
        subst e1
        refine .inl ⟨e2.symm, hv, ?_⟩
        rw [cd_encode_ok _ hv]
        have := (cd_list.only _ _ _ h1).2
        rw [List.append_nil] at this
        rw [← this, cd_ba]
      · rw [if_neg hv] at h
        obtain ⟨e1, e2⟩ := Prod.mk.inj h
        exact .inr ⟨e1.symm, .inr e2.symm⟩
/-- A proper beginning of an encoding, and an encoding with more behind it. -/
theorem cd_decode_pre (l : List Bl) (h : m_validL l = true) (s : ByteArray) (q : List UInt8) (hs : m_enc l = s.data.toList ++ q) (hq : q ≠ []) : m_decode s = ([], 10) := by
  have h1 := cd_list.back l [] (cd_validL_ok l h)
  rw [List.append_nil] at h1
  unfold m_decode
  rcases cd_list.pre _ _ _ _ _ h1 hs with h2 | ⟨p', h2, _⟩
  · rw [h2]
  · have := congrArg List.length h2
    simp only [List.length_nil, List.length_append] at this
    exact absurd (List.eq_nil_of_length_eq_zero (by omega)) hq
theorem cd_decode_more (l : List Bl) (h : m_validL l = true) (s : ByteArray) (q : List UInt8) (hs : s.data.toList = m_enc l ++ q) (hq : q ≠ []) : m_decode s = ([], 10) := by
  have h1 := cd_list.back l q (cd_validL_ok l h)
  unfold m_decode
  rw [hs, h1]
  dsimp only
  rw [if_pos hq]
end Go.Proofs.YtpgjhjlhipikgaaDoor.PK
end
section
namespace Go.Proofs.YtpgjhjlhipikgaaDoor.PK
open Go.RowKit Go.Proofs.YtpgjhjlhipikgaaDoorW.PrintWords Go.Proofs.YtpgjhjlhipikgaaDoorW.PrintLast Go.Proofs.YtpgjhjlhipikgaaDoorW.PrintMore
attribute [local go_sem] max2_int min2_int max_two min_two max_three min_three max_four min_four   -- for this text's walks alone
set_option linter.unusedVariables false
set_option linter.unusedSimpArgs false

/-! ### block_Encode: function 27 -/
-- NEEDS Derived.Test.YtpgjhjlhipikgaaDoorKDefs
-- NEEDS Derived.Test.YtpgjhjlhipikgaaDoorKBox
-- NEEDS Derived.Test.YtpgjhjlhipikgaaDoorKWalks
-- NEEDS Derived.Test.YtpgjhjlhipikgaaDoorBkBuild
-- NEEDS Derived.Test.YtpgjhjlhipikgaaDoorKCodec
def block_Encode.f (l0 : List (S26)) : Option (ByteArray × Int) := some (m_encode l0)
theorem bk_byteCells_app (a b : List UInt8) : Lib.byteCells a ++ Lib.byteCells b = Lib.byteCells (a ++ b) := by simp [Lib.byteCells]
theorem bk_byteCells_len (a : List UInt8) : (Lib.byteCells a).length = a.length := by simp [Lib.byteCells]
theorem cd_vint_len : ∀ (k z : Nat), (m_vint k z).length ≤ k
  | 0, z => by simp [m_vint]
  | k + 1, z => by
    rw [m_vint]
    split
    · simp
    · simp only [List.length_cons]; have := cd_vint_len k (z / 128); omega
theorem cd_int_len (n : Int) : (m_int n).length ≤ 10 := cd_vint_len 10 _
theorem cd_flat_len {α : Type} (f : α → List UInt8) (c : Nat) : ∀ (l : List α), (∀ x ∈ l, (f x).length ≤ c) → (l.flatMap f).length ≤ c * l.length
  | [], _ => by simp
  | x :: l, h => by
    have h1 := h x (by simp)
    have h2 := cd_flat_len f c l (fun y hy => h y (by simp [hy]))
    rw [List.flatMap_cons, List.length_append, List.length_cons, Nat.mul_succ]; omega
theorem cd_encB_len (b : Bl) (h : m_okB b) : (m_encB b).length ≤ 70000 := by
  obtain ⟨_, _, h2, _, _, _, h6, _, _⟩ := h
  have := cd_flat_len m_int 10 b.f5.f1 (fun x _ => cd_int_len x)
  simp only [m_encB, m_str, List.length_append]
  have e0 := cd_int_len b.f0
  have e1 := cd_int_len b.f1
  have e2 := cd_int_len (b.f2.data.toList.length : Int)
  have e3 := cd_int_len b.f3
  have e4 := cd_int_len b.f4
  have e5 := cd_int_len b.f5.f0
  have e6 := cd_int_len (b.f5.f1.length : Int)
  have e7 := cd_int_len b.f5.f2
  have e8 := cd_int_len b.f5.f3
  omega
theorem cd_enc_len (l : List Bl) (h : m_validL l = true) : (m_enc l).length ≤ 2000000 := by
  obtain ⟨h1, h2⟩ := cd_validL_ok l h
  have := cd_flat_len m_encB 70000 l (fun b hb => cd_encB_len b (h2 b hb))
  have e := cd_int_len (l.length : Int)
  rw [m_enc, List.length_append]; omega
/-- A list of numbers is written. -/
theorem bk_ints_take (l : List Int) (j : Nat) (h : j < l.length) : (l.take (j + 1)).flatMap m_int = (l.take j).flatMap m_int ++ m_int l[j] := by
  rw [List.take_succ_eq_append_getElem h, List.flatMap_append]; simp
set_option maxHeartbeats 2000000 in
set_option maxRecDepth 100000 in
theorem bk_ints (B b : Nat) (A : Option Addr) (c : Nat) (l : List Int) (bs : List UInt8) (w : World) (hl : l.length ≤ 1000000)
    (hst : ∀ w', Below B w w' → Bk.KeptT 64 5 w w' → Kd.C (Kd.int .i64) w' A l.length l)
    (hb : Lib.IsBuilder 64 5 B b (Lib.byteCells bs) w) (hBw : B ≤ w.heap.size) (hfit : ∀ x ∈ l, m_fits x = true) (hlen : bs.length + 10 * l.length ≤ 1000000000) :
    Calls Tryd.prog 50 #[.slice A l.length c, .pointer (some ⟨b, 0, none⟩)] w fun e w' => e = .returned (.tuple #[]) ∧
      Lib.IsBuilder 64 5 B b (Lib.byteCells (bs ++ l.flatMap m_int)) w' ∧ Below B w w' ∧ Bk.KeptT 64 5 w w' := by
  have HST := Aside0.mk hst
  have HF := Aside0.mk hfit
  clear hst hfit
  go_enter Tryd.func50, Tryd.ntmps50
  go_wp2
  go_loopw [9] (fun p wr => ∃ (j : Nat), p = .int .i64 (j : Int) ∧ j ≤ l.length ∧ Lib.IsBuilder 64 5 B b (Lib.byteCells (bs ++ (l.take j).flatMap m_int)) wr ∧ Below B w wr ∧ Bk.KeptT 64 5 w wr)
    (fun p _ => l.length - (intOf p).toNat)
  case atStart => exact ⟨0, rfl, Nat.zero_le _, by rw [List.take_zero, List.flatMap_nil, List.append_nil]; exact hb, Below.refl _ _, Bk.KeptT.refl _ _ _⟩
  case round =>
    clear hb
    obtain ⟨j, rfl, hj, hbl, hB, hK⟩ := hrel
    by_cases hlt : j < l.length
    · have hd : decide ((j : Int) < (l.length : Int)) = true := by simp; omega
      obtain ⟨ad, e0, hx⟩ := Kd.at_int (HST.out wr hB hK) (j : Int) (by omega) (by omega)
      cases e0
      have hrd : rd l (j : Int) = l[j] := by simp [rd, List.getD_eq_getElem?_getD, hlt]
      rw [hrd] at hx
      simp only [Int.toNat_natCast] at hx
      have htake := bk_ints_take l j hlt
      have hfj := HF.out l[j] (List.getElem_mem hlt)
      have hfl := cd_flat_len m_int 10 (l.take j) (fun x _ => cd_int_len x)
      rw [List.length_take, Nat.min_eq_left (by omega)] at hfl
      obtain ⟨x, hxx⟩ : ∃ x, l[j] = x := ⟨_, rfl⟩
      rw [hxx] at hx htake hfj
      have hil := cd_int_len x
      have HT := Aside0.mk htake
      have hput := wire_PutInt.calls x ⟨(m_int x).toArray⟩ 0
      have hputf : wire_PutInt.f x = some (⟨(m_int x).toArray⟩, 0) := by
        show some (m_putInt x) = _
        rw [m_putInt, if_pos hfj]
      obtain ⟨S, hS⟩ : ∃ S : ByteArray, S = ⟨(m_int x).toArray⟩ := ⟨_, rfl⟩
      rw [← hS] at hput hputf
      have hSs : S.size = (m_int x).length := by rw [hS]; simp [ByteArray.size]
      have HS : Aside0 (S.data.toList = m_int x) := ⟨by rw [hS]⟩
      have hpc : ∀ w1, Calls Tryd.prog 51 #[.int .i64 x] w1 fun e w' => e = .returned (.tuple #[.string S, .int .i64 0]) ∧ Below w1.heap.size w1 w' := fun w1 => hput w1 hputf
      clear hput hputf hS hxx htake hrd hfj
      have p1 : (0 : Int) ≤ (j : Int) := by omega
      go_wp2_with (go_at_call 51; refine Rg.stop_here ?_)
      refine ⟨?_⟩
      refine (hpc _).mono ?_
      rintro e w5 ⟨rfl, hb5⟩
      go_wp2_with (go_at_call 52; refine Rg.stop_here ?_)
      refine ⟨?_⟩
      refine (Bk.writeString B b _ _ _ (Bk.builder_below hbl hb5) (by rw [bk_byteCells_len, List.length_append]; omega) (Nat.le_trans (Nat.le_trans hBw hB.size) hb5.size)).mono ?_
      rintro e w6 ⟨rfl, hbl6, hb6, hk6⟩
      rw [show Lib.strCells S = Lib.byteCells S.data.toList from rfl, HS.out, bk_byteCells_app, List.append_assoc, ← HT.out] at hbl6
      have hB5 : Below B wr w5 := ⟨hb5.os, hb5.tape, hb5.output, hb5.size, fun i hi => hb5.block i (by have := hB.size; omega)⟩
      go_wp2_with fail
      go_roundw
      case rel => exact ⟨j + 1, by go_num, by omega, .inr hbl6, (hB.trans hB5).trans hb6, (hK.trans (Bk.KeptT.of_below hb5)).trans hk6⟩
      case measure => simp [intOf]; omega
    · have hjl : j = l.length := by omega
      subst hjl
      have hd : decide (((l.length : Nat) : Int) < (l.length : Int)) = false := by simp
      rw [List.take_length] at hbl
      go_wp2
      go_end0
      exact ⟨rfl, hbl, hB, hK⟩
theorem bk_C_lit (l : List Int) (W : World) (g : Nat) (h : W.heap[g]? = some (.cells (l.map (Value.int .i64)).toArray 3 (0, 0))) (hm : l.length ≤ 9223372036854775807) : Kd.C (Kd.int .i64) W (some ⟨g, 0, none⟩) l.length l :=
  ⟨rfl, hm, fun _ => ⟨_, rfl, fun j p hp => ⟨[.int .i64 p], rfl, rfl, fun i u hu => by
    have hi : i = 0 := by
      have := (List.getElem?_eq_some_iff.1 hu).1
      simp at this; exact this
    subst hi
    have hu' : u = .int .i64 p := (Option.some.inj hu).symm
    subst hu'
    have hc : W.cell? ⟨g, j, none⟩ = some (.int .i64 p) := by
      rw [bk_cell h j]; simp [hp]
    show W.cell? ((⟨g, 0, none⟩ : Addr).add (j * 1 + 0)) = _
    by_cases hj : j = 0
    · subst hj; simpa [Addr.add] using hc
    · simpa [Addr.add, hj] using hc⟩⟩⟩
theorem bk_ints_lit (B b g n : Nat) (l : List Int) (hn : l.length = n) (bs : List UInt8) (w : World) (hl : l.length ≤ 1000000) (hg : w.heap[g]? = some (.cells (l.map (Value.int .i64)).toArray 3 (0, 0)))
    (hb : Lib.IsBuilder 64 5 B b (Lib.byteCells bs) w) (hBw : B ≤ w.heap.size) (hfit : ∀ x ∈ l, m_fits x = true) (hlen : bs.length + 10 * l.length ≤ 1000000000) :
    Calls Tryd.prog 50 #[.slice (some ⟨g, 0, none⟩) n n, .pointer (some ⟨b, 0, none⟩)] w fun e w' => e = .returned (.tuple #[]) ∧
      Lib.IsBuilder 64 5 B b (Lib.byteCells (bs ++ l.flatMap m_int)) w' ∧ Below B w w' ∧ Bk.KeptT 64 5 w w' := by
  subst hn
  exact bk_ints B b _ _ l bs w hl (fun w' hB hK => bk_C_lit l w' g (hK.kept _ _ _ _ hg (by decide) (by decide)) (by omega)) hb hBw hfit hlen
theorem bk_putString (s : ByteArray) (w : World) (h : s.size ≤ 65536) : ∃ S : ByteArray, S.data.toList = m_str s.data.toList ∧ Calls Tryd.prog 53 #[.string s] w fun e w' => e = .returned (.tuple #[.string S, .int .i64 0]) ∧ Below w.heap.size w w' := by
  have hf : m_fits (s.size : Int) = true := (cd_fits _).2 (by omega)
  have hp : wire_PutInt.f (s.size : Int) = some (⟨(m_int (s.size : Int)).toArray⟩, 0) := by
    show some (m_putInt _) = _
    rw [m_putInt, if_pos hf]
  have hl := cd_int_len (s.size : Int)
  refine ⟨⟨(m_int (s.size : Int)).toArray⟩ ++ s, ?_, wire_PutString.calls s _ _ w ?_⟩
  · rw [ByteArray.data_append, Array.toList_append, m_str, Array.length_toList]; rfl
  · unfold wire_PutString.f
    rw [if_neg (by omega), hp]
    show (if _ then _ else _) = _
    rw [if_pos]
    simp only [ByteArray.size, List.size_toArray] at hl h ⊢
    omega
theorem bk_enc_take (l : List Bl) (j : Nat) (h : j < l.length) : (l.take (j + 1)).flatMap m_encB = (l.take j).flatMap m_encB ++ m_encB l[j] := by
  rw [List.take_succ_eq_append_getElem h, List.flatMap_append]; simp
theorem bk_isBuilder_of {w : World} {B b : Nat} (hB : B ≤ b) (h : w.heap[b]? = some (.cells #[.pointer none, .slice none 0 0] 64 (0, 0))) : Lib.IsBuilder 64 5 B b [] w :=
  Or.inl ⟨hB, .slice none 0 0, h, World.ownsRow_nil _ _ _ _, by simp [Value.ownBlock]⟩
set_option maxHeartbeats 4000000 in
set_option maxRecDepth 100000 in
theorem block_Encode.calls (A0 : Option Addr) (c0 : Nat) (l0 : List (S26)) (r1 : ByteArray) (r2 : Int) (w : World) (hr0 : Kd.C k26 w A0 l0.length l0) (hc0 : l0.length ≤ c0) (h : block_Encode.f l0 = some (r1, r2)) :
    Calls Tryd.prog 27 #[.slice A0 l0.length c0] w fun e w' => e = .returned (.tuple #[.string r1, .int .i64 r2]) ∧ Below w.heap.size w w' := by
  have h' := Option.some.inj h
  clear h
  have HR := Aside0.mk hr0
  have hmax := Kd.C_max hr0
  have hvl := block_ValidList.calls A0 c0 l0 (m_validL l0) w hr0 hc0 rfl
  clear hr0 hc0
  cases hv : m_validL l0 with
  | false =>
    rw [hv] at hvl
    rw [cd_encode_err l0 hv] at h'
    obtain ⟨rfl, rfl⟩ := Prod.mk.inj h'
    go_enter Tryd.func27, Tryd.ntmps27
    go_wp2_with (go_at_call 21; refine hvl.mono ?_; rintro e w1 ⟨rfl, hb1⟩)
    go_ret2
    exact ⟨rfl, hb1⟩
  | true =>
    rw [hv] at hvl
    rw [cd_encode_ok l0 hv] at h'
    obtain ⟨rfl, rfl⟩ := Prod.mk.inj h'
    have HOK := Aside0.mk (cd_validL_ok l0 hv)
    have hlen24 := HOK.out.1
    go_enter Tryd.func27, Tryd.ntmps27
    go_wp2_with (first | (go_at_call 21; refine hvl.mono ?_; rintro e w1 ⟨rfl, hb1⟩) | (with_reducible refine is_alloc rfl ?_; refine Rg.stop_here ?_))
    refine ⟨?_⟩
    refine box_event rfl (N := 4) rfl (cs := #[.pointer none, .slice none 0 0]) (t := 64) (by first | (go_simp; done) | (go_simp; rfl)) ?_
    intro b hb w2 hbx hb2
    have hB := Nat.le_of_eq hb.symm
    have hbl := bk_isBuilder_of hB hbx
    have HB := Aside0.mk hB
    have hB1s := hb1.size
    obtain ⟨B, hBe⟩ : ∃ B, B = w1.heap.size := ⟨_, rfl⟩
    rw [← hBe] at hbl hb2 hB1s
    have HB1 := Aside0.mk hb1
    have HBE := Aside0.mk hBe
    have hBw2 : B ≤ w2.heap.size := Nat.le_trans (Nat.le_of_eq HBE.out) hb2.size
    clear hb hbx hB hb1 hvl hBe
    go_wp2_with (with_reducible refine is_build rfl ?_; refine Rg.stop_here ?_)
    refine ⟨?_⟩
    refine lit_event rfl (N := 17) rfl (cs := #[.int .i64 (l0.length : Int)]) (t := 3) (n := 1) (by first | (go_simp; done) | (go_simp; rfl)) ?_
    intro g3 hg3 w3 hl3 hb3
    have hbl3 := Bk.builder_below hbl hb3
    have hB3 : Below B w1 w3 := hb2.trans (bk_below_mono hb3 hBw2)
    clear hg3 hbl hb3 hb2 hBw2
    go_wp2_with fail
    refine (bk_ints_lit B b g3 1 [(l0.length : Int)] rfl [] w3 (by simp) hl3 hbl3 (Nat.le_trans (Nat.le_of_eq HBE.out) hB3.size) (by simp; rw [cd_fits]; omega) (by simp)).mono ?_
    rintro e w4 ⟨rfl, hbl4, hb4, hk4⟩
    have hB4 := hB3.trans hb4
    rw [List.nil_append, show [(l0.length : Int)].flatMap m_int = m_int (l0.length : Int) from List.flatMap_singleton ..] at hbl4
    clear hl3 hbl3 hB3 hb4 hk4
    go_wp2
    go_loopw [21] (fun p wr => ∃ (j : Nat), p = .int .i64 (j : Int) ∧ j ≤ l0.length ∧ Lib.IsBuilder 64 5 B b (Lib.byteCells (m_int (l0.length : Int) ++ (l0.take j).flatMap m_encB)) wr ∧ Below B w1 wr)
      (fun p _ => l0.length - (intOf p).toNat)
    case atStart => exact ⟨0, rfl, Nat.zero_le _, by rw [List.take_zero, List.flatMap_nil, List.append_nil]; exact hbl4, hB4⟩
    case round =>
      clear hbl4 hB4
      obtain ⟨j, rfl, hj, hbl, hB⟩ := hrel
      have hBB : ∀ w', Below B w1 w' → Below w.heap.size w w' := fun w' h => below_step HB1.out (HBE.out ▸ h)
      by_cases hlt : j < l0.length
      · have hd : decide ((j : Int) < (l0.length : Int)) = true := by simp; omega
        obtain ⟨ad, A6, c6, e0, hx0, hx1, hx2, hx3, hx4, hx5, hx6, hx7, hx8, hl6, hi6⟩ := at_T26 HR.out (j : Int) (by omega) (by omega)
        rw [bk_rd l0 j hlt] at hx0 hx1 hx2 hx3 hx4 hx5 hx6 hx7 hx8 hl6 hi6
        have htake := bk_enc_take l0 j hlt
        have hok := HOK.out.2 l0[j] (List.getElem_mem hlt)
        have hfl := cd_flat_len m_encB 70000 (l0.take j) (fun y hy => cd_encB_len y (HOK.out.2 y (List.mem_of_mem_take hy)))
        rw [List.length_take, Nat.min_eq_left (by omega)] at hfl
        have hil := cd_int_len (l0.length : Int)
        obtain ⟨x, hx⟩ : ∃ x, l0[j] = x := ⟨_, rfl⟩
        rw [hx] at hx0 hx1 hx2 hx3 hx4 hx5 hx6 hx7 hx8 hl6 hi6 htake hok
        obtain ⟨bs0, hbs0⟩ : ∃ bs0, bs0 = m_int (l0.length : Int) ++ (l0.take j).flatMap m_encB := ⟨_, rfl⟩
        have hbs0l : bs0.length ≤ 2000000 := by rw [hbs0, List.length_append]; omega
        rw [← hbs0] at hbl
        have hfin : bs0 ++ m_encB x = m_int (l0.length : Int) ++ (l0.take (j + 1)).flatMap m_encB := by rw [htake, hbs0, List.append_assoc]
        have HT := Aside0.mk hfin
        have HI6 := Aside0.mk hi6
        obtain ⟨o0, o1, o2, o3, o4, o5, ⟨o6l, o6⟩, o7, o8⟩ := hok
        have O6 := Aside0.mk o6
        clear hx htake hi6 hfl hil hbs0 hfin o6
        simp only [Int.toNat_natCast] at hx0 hx1 hx2 hx3 hx4 hx5 hx6 hx7 hx8
        cases e0
        have hBr := hBB wr hB
        replace hx0 := bk_stepc hx0 hBr
        replace hx1 := bk_stepc hx1 hBr
        replace hx2 := bk_stepc hx2 hBr
        replace hx3 := bk_stepc hx3 hBr
        replace hx4 := bk_stepc hx4 hBr
        replace hx5 := bk_stepc hx5 hBr
        replace hx6 := bk_stepc hx6 hBr
        replace hx7 := bk_stepc hx7 hBr
        replace hx8 := bk_stepc hx8 hBr
        have p1 : (0 : Int) ≤ (j : Int) := by omega
        go_wp2_with (with_reducible refine is_alloc rfl ?_; refine Rg.stop_here ?_)
        refine ⟨?_⟩
        refine box_event rfl (N := 7) rfl (cs := #[.int .i64 0, .int .i64 0, .string (⟨#[]⟩ : ByteArray), .int .i64 0, .int .i64 0, .int .i64 0, .slice none 0 0, .int .i64 0, .int .i64 0]) (t := 26) (by first | (go_simp; done) | (go_simp; rfl)) ?_
        intro gb hg v1 hbx hb1
        have HGg := Aside0.mk hg
        clear hg
        go_wp2_with (with_reducible refine is_store rfl ?_; refine Rg.stop_here ?_)
        refine ⟨?_⟩
        refine wpList_store_box rfl rfl _ _ _ rfl gb _ _ _ rfl rfl hbx bk_size26 rfl (by repeat (first | exact List.forall_mem_nil _ | refine List.forall_mem_cons.2 ⟨rfl, ?_⟩)) ?_
        intro v2 hbx2 hst hot
        have hq2 : Below wr.heap.size wr v2 := hb1.trans (hst _ (by rw [HGg.out]; exact Nat.le_refl _))
        have hBle : B ≤ wr.heap.size := Nat.le_trans (Nat.le_of_eq HBE.out) hB.size
        have hB2 : Below B w1 v2 := hB.trans (bk_below_mono hq2 hBle)
        have hbl2 := Bk.builder_below hbl hq2
        obtain ⟨d0, d1, d2, d3, d4, d5, d6, d7, d8⟩ := bk_Box.of hbx2
        clear hb1 hbx hx0 hx1 hx2 hx3 hx4 hx5 hx6 hx7 hx8 hst hot hbl hB hBr
        obtain ⟨S, hS, hput⟩ := bk_putString x.f2 v2 (by rw [Array.length_toList] at o2; exact o2)
        have HS := Aside0.mk hS
        clear hS
        go_wp2_with (go_at_call 53; refine Rg.stop_here ?_)
        refine ⟨?_⟩
        refine hput.mono ?_
        rintro e v3 ⟨rfl, hb3⟩
        have hBle2 : B ≤ v2.heap.size := Nat.le_trans (Nat.le_of_eq HBE.out) hB2.size
        have hB3 : Below B w1 v3 := hB2.trans (bk_below_mono hb3 hBle2)
        have hbl3 := Bk.builder_below hbl2 hb3
        have hbx3 := bk_heap_below hbx2 hb3
        clear d0 d1 d2 d3 d4 d5 d6 d7 d8 hbx2 hput hb3 hB2 hbl2 hq2 hBle
        obtain ⟨d0, d1, d2, d3, d4, d5, d6, d7, d8⟩ := bk_Box.of hbx3
        go_wp2_with (with_reducible refine is_build rfl ?_; refine Rg.stop_here ?_)
        refine ⟨?_⟩
        refine lit_event rfl (N := 36) rfl (cs := #[.int .i64 x.f0, .int .i64 x.f1]) (t := 3) (n := 2) (by first | (go_simp; done) | (go_simp; rfl)) ?_
        intro g4 hg4 v4 hl4 hb4
        have hB4 : Below B w1 v4 := hB3.trans (bk_below_mono hb4 (Nat.le_trans (Nat.le_of_eq HBE.out) hB3.size))
        have hbl4 := Bk.builder_below hbl3 hb4
        have hbx4 := bk_heap_below hbx3 hb4
        clear d0 d1 d2 d3 d4 d5 d6 d7 d8 hbx3 hb4 hB3 hbl3 hg4
        go_wp2_with fail
        refine (bk_ints_lit B b g4 2 [x.f0, x.f1] rfl bs0 v4 (by simp) hl4 hbl4 (Nat.le_trans (Nat.le_of_eq HBE.out) hB4.size) (by simp [o0, o1]) (by simp; omega)).mono ?_
        rintro e v5 ⟨rfl, hbl5, hb5, hk5⟩
        have hB5 := hB4.trans hb5
        have hbx5 := hk5.kept _ _ _ _ hbx4 (by decide) (by decide)
        clear hl4 hbl4 hB4 hb5 hk5 hbx4
        obtain ⟨bs1, hbs1⟩ : ∃ bs1, bs1 = bs0 ++ [x.f0, x.f1].flatMap m_int := ⟨_, rfl⟩
        have hbs1l : bs1.length ≤ 2000000 + 20 := by
          have := cd_flat_len m_int 10 [x.f0, x.f1] (fun y _ => cd_int_len y)
          rw [hbs1, List.length_append]; simp only [List.length_cons, List.length_nil] at this; omega
        rw [← hbs1] at hbl5
        have HBS1 := Aside0.mk hbs1
        clear hbs1
        go_wp2_with (go_at_call 52; refine Rg.stop_here ?_)
        refine ⟨?_⟩
        have hSl : S.size ≤ 65546 := by
          have h1 := congrArg List.length HS.out
          have h2 := cd_int_len (x.f2.data.toList.length : Int)
          rw [Array.length_toList, m_str, List.length_append] at h1
          show S.data.size ≤ _
          omega
        refine (Bk.writeString B b _ S v5 hbl5 (by rw [bk_byteCells_len]; omega) (Nat.le_trans (Nat.le_of_eq HBE.out) hB5.size)).mono ?_
        rintro e v6 ⟨rfl, hbl6, hb6, hk6⟩
        rw [show Lib.strCells S = Lib.byteCells S.data.toList from rfl, HS.out, bk_byteCells_app] at hbl6
        have hB6 := hB5.trans hb6
        have hbx6 := hk6.kept _ _ _ _ hbx5 (by decide) (by decide)
        clear hbl5 hB5 hb6 hk6 hbx5
        obtain ⟨bs2, hbs2⟩ : ∃ bs2, bs2 = bs1 ++ m_str x.f2.data.toList := ⟨_, rfl⟩
        have hbs2l : bs2.length ≤ 2000000 + 20 + 65546 := by
          rw [hbs2, List.length_append, ← HS.out]
          have : S.data.size ≤ 65546 := hSl
          have h3 : S.data.toList.length = S.data.size := Array.length_toList
          omega
        rw [← hbs2] at hbl6
        have HBS2 := Aside0.mk hbs2
        clear hbs2 hSl
        obtain ⟨d0, d1, d2, d3, d4, d5, d6, d7, d8⟩ := bk_Box.of hbx6
        go_wp2_with (with_reducible refine is_build rfl ?_; refine Rg.stop_here ?_)
        refine ⟨?_⟩
        refine lit_event rfl (N := 52) rfl (cs := #[.int .i64 x.f3, .int .i64 x.f4, .int .i64 x.f5.f0, .int .i64 (x.f5.f1.length : Int)]) (t := 3) (n := 4) (by first | (go_simp; done) | (go_simp; rfl)) ?_
        intro g7 hg7 v7 hl7 hb7
        have hB7 : Below B w1 v7 := hB6.trans (bk_below_mono hb7 (Nat.le_trans (Nat.le_of_eq HBE.out) hB6.size))
        have hbl7 := Bk.builder_below (.inr hbl6) hb7
        have hbx7 := bk_heap_below hbx6 hb7
        clear d0 d1 d2 d3 d4 d5 d6 d7 d8 hbx6 hb7 hB6 hbl6 hg7
        go_wp2_with fail
        refine (bk_ints_lit B b g7 4 [x.f3, x.f4, x.f5.f0, (x.f5.f1.length : Int)] rfl bs2 v7 (by simp) hl7 hbl7 (Nat.le_trans (Nat.le_of_eq HBE.out) hB7.size) (by simp [o3, o4, o5]; rw [cd_fits]; omega) (by simp; omega)).mono ?_
        rintro e v8 ⟨rfl, hbl8, hb8, hk8⟩
        have hB8 := hB7.trans hb8
        have hbx8 := hk8.kept _ _ _ _ hbx7 (by decide) (by decide)
        clear hl7 hbl7 hB7 hb8 hk8 hbx7
        obtain ⟨bs3, hbs3⟩ : ∃ bs3, bs3 = bs2 ++ [x.f3, x.f4, x.f5.f0, (x.f5.f1.length : Int)].flatMap m_int := ⟨_, rfl⟩
        have hbs3l : bs3.length ≤ 2000000 + 20 + 65546 + 40 := by
          have := cd_flat_len m_int 10 [x.f3, x.f4, x.f5.f0, (x.f5.f1.length : Int)] (fun y _ => cd_int_len y)
          rw [hbs3, List.length_append]; simp only [List.length_cons, List.length_nil] at this; omega
        rw [← hbs3] at hbl8
        have HBS3 := Aside0.mk hbs3
        clear hbs3
        obtain ⟨d0, d1, d2, d3, d4, d5, d6, d7, d8⟩ := bk_Box.of hbx8
        go_wp2_with fail
        refine (bk_ints B b A6 c6 x.f5.f1 bs3 v8 (by omega) (fun w' hb' _ => Kd.C_below HI6.out (hBB w' (hB8.trans hb'))) hbl8 (Nat.le_trans (Nat.le_of_eq HBE.out) hB8.size) O6.out (by omega)).mono ?_
        rintro e v9 ⟨rfl, hbl9, hb9, hk9⟩
        have hB9 := hB8.trans hb9
        have hbx9 := hk9.kept _ _ _ _ hbx8 (by decide) (by decide)
        clear d0 d1 d2 d3 d4 d5 d6 d7 d8 hbl8 hB8 hb9 hk9 hbx8
        obtain ⟨bs4, hbs4⟩ : ∃ bs4, bs4 = bs3 ++ x.f5.f1.flatMap m_int := ⟨_, rfl⟩
        have hbs4l : bs4.length ≤ 2000000 + 20 + 65546 + 40 + 640 := by
          have := cd_flat_len m_int 10 x.f5.f1 (fun y _ => cd_int_len y)
          rw [hbs4, List.length_append]; omega
        rw [← hbs4] at hbl9
        have HBS4 := Aside0.mk hbs4
        clear hbs4
        obtain ⟨d0, d1, d2, d3, d4, d5, d6, d7, d8⟩ := bk_Box.of hbx9
        go_wp2_with (with_reducible refine is_build rfl ?_; refine Rg.stop_here ?_)
        refine ⟨?_⟩
        refine lit_event rfl (N := 66) rfl (cs := #[.int .i64 x.f5.f2, .int .i64 x.f5.f3]) (t := 3) (n := 2) (by first | (go_simp; done) | (go_simp; rfl)) ?_
        intro g10 hg10 v10 hl10 hb10
        have hB10 : Below B w1 v10 := hB9.trans (bk_below_mono hb10 (Nat.le_trans (Nat.le_of_eq HBE.out) hB9.size))
        have hbl10 := Bk.builder_below hbl9 hb10
        clear d0 d1 d2 d3 d4 d5 d6 d7 d8 hbx9 hb10 hB9 hbl9 hg10
        go_wp2_with fail
        refine (bk_ints_lit B b g10 2 [x.f5.f2, x.f5.f3] rfl bs4 v10 (by simp) hl10 hbl10 (Nat.le_trans (Nat.le_of_eq HBE.out) hB10.size) (by simp [o7, o8]) (by simp; omega)).mono ?_
        rintro e v11 ⟨rfl, hbl11, hb11, hk11⟩
        have hB11 := hB10.trans hb11
        go_wp2_with fail
        go_roundw
        case rel => exact ⟨j + 1, by go_num, by omega, by rw [← HT.out, show bs0 ++ m_encB x = bs4 ++ [x.f5.f2, x.f5.f3].flatMap m_int by rw [HBS4.out, HBS3.out, HBS2.out, HBS1.out]; simp [m_encB, m_str]]; exact hbl11, hB11⟩
        case measure => simp [intOf]; omega
      · have hjl : j = l0.length := by omega
        subst hjl
        have hd : decide (((l0.length : Nat) : Int) < (l0.length : Int)) = false := by simp
        rw [List.take_length] at hbl
        go_wp2_with (go_at_call 54; refine (Tryd.Builder_String_any _ _ _ _ hbl (Nat.le_trans (Nat.le_of_eq HBE.out) hB.size)).mono ?_; rintro e w5 ⟨rfl, hb5⟩)
        go_ret2
        exact ⟨rfl, hBB _ (hB.trans hb5)⟩

end Go.Proofs.YtpgjhjlhipikgaaDoor.PK
end
section
namespace Go.Proofs.YtpgjhjlhipikgaaDoor.PK
open Go.RowKit Go.Proofs.YtpgjhjlhipikgaaDoorW.PrintWords Go.Proofs.YtpgjhjlhipikgaaDoorW.PrintLast Go.Proofs.YtpgjhjlhipikgaaDoorW.PrintMore
attribute [local go_sem] max2_int min2_int max_two min_two max_three min_three max_four min_four   -- for this text's walks alone
set_option linter.unusedVariables false
set_option linter.unusedSimpArgs false

/-! ### wire_Int: function 79 -/
mutual
def wire_Int.j0 : Nat → ByteArray → Int → Bool → Option (Int × Int × Int)
  | 0, _, _, _ => none
  | k + 1, x0, x1, x18 => if x18 = true then (some (0, 0, 2)) else (wire_Int.l0 k x0 x1 0 0)
def wire_Int.l0 : Nat → ByteArray → Int → Int → Int → Option (Int × Int × Int)
  | 0, _, _, _, _ => none
  | k + 1, x0, x1, x7, x19 => if x19 < 9 then (if (wrap64 (x1 + x19)) ≥ (x0.size : Int) then (some (0, 0, 10)) else (if 0 ≤ (wrap64 (x1 + x19)) then (if (wrap64 (x1 + x19)) < (x0.size : Int) then (if 0 ≤ (wrap64 (7 * x19)) then (if (bt x0 (wrap64 (x1 + x19))) ≥ 128 then (wire_Int.l0 k x0 x1 (Go.bits .or .u64 x7 (shl .u64 (IntKind.u64.wrap (Go.bits .and .u8 (bt x0 (wrap64 (x1 + x19))) 127)) (wrap64 (7 * x19)))) (wrap64 (x19 + 1))) else (if (bt x0 (wrap64 (x1 + x19))) = 0 then (if x19 > 0 then (some (0, 0, 10)) else (if (Go.bits .xor .i64 (wrap64 ((Go.bits .or .u64 x7 (shl .u64 (IntKind.u64.wrap (Go.bits .and .u8 (bt x0 (wrap64 (x1 + x19))) 127)) (wrap64 (7 * x19)))) / 2)) (wrap64 (-(wrap64 (Go.bits .and .u64 (Go.bits .or .u64 x7 (shl .u64 (IntKind.u64.wrap (Go.bits .and .u8 (bt x0 (wrap64 (x1 + x19))) 127)) (wrap64 (7 * x19)))) 1))))) < (-4611686018427387903) then (some (0, 0, 10)) else (some (Go.bits .xor .i64 (wrap64 ((Go.bits .or .u64 x7 (shl .u64 (IntKind.u64.wrap (Go.bits .and .u8 (bt x0 (wrap64 (x1 + x19))) 127)) (wrap64 (7 * x19)))) / 2)) (wrap64 (-(wrap64 (Go.bits .and .u64 (Go.bits .or .u64 x7 (shl .u64 (IntKind.u64.wrap (Go.bits .and .u8 (bt x0 (wrap64 (x1 + x19))) 127)) (wrap64 (7 * x19)))) 1)))), wrap64 ((wrap64 (x1 + x19)) + 1), 0)))) else (if (Go.bits .xor .i64 (wrap64 ((Go.bits .or .u64 x7 (shl .u64 (IntKind.u64.wrap (Go.bits .and .u8 (bt x0 (wrap64 (x1 + x19))) 127)) (wrap64 (7 * x19)))) / 2)) (wrap64 (-(wrap64 (Go.bits .and .u64 (Go.bits .or .u64 x7 (shl .u64 (IntKind.u64.wrap (Go.bits .and .u8 (bt x0 (wrap64 (x1 + x19))) 127)) (wrap64 (7 * x19)))) 1))))) < (-4611686018427387903) then (some (0, 0, 10)) else (some (Go.bits .xor .i64 (wrap64 ((Go.bits .or .u64 x7 (shl .u64 (IntKind.u64.wrap (Go.bits .and .u8 (bt x0 (wrap64 (x1 + x19))) 127)) (wrap64 (7 * x19)))) / 2)) (wrap64 (-(wrap64 (Go.bits .and .u64 (Go.bits .or .u64 x7 (shl .u64 (IntKind.u64.wrap (Go.bits .and .u8 (bt x0 (wrap64 (x1 + x19))) 127)) (wrap64 (7 * x19)))) 1)))), wrap64 ((wrap64 (x1 + x19)) + 1), 0))))) else (none)) else (none)) else (none))) else (some (0, 0, 10))
end
def wire_Int.f (k : Nat) (a0 : ByteArray) (a1 : Int) : Option (Int × Int × Int) := if a1 < 0 then (wire_Int.j0 k a0 a1 true) else (wire_Int.j0 k a0 a1 (decide (a1 > (a0.size : Int))))
theorem wire_Int.mono_l : ∀ k, (∀ y0 y1 y2, LeO (wire_Int.j0 k y0 y1 y2) (wire_Int.j0 (k + 1) y0 y1 y2)) ∧ (∀ y0 y1 y2 y3, LeO (wire_Int.l0 k y0 y1 y2 y3) (wire_Int.l0 (k + 1) y0 y1 y2 y3))
  | 0 => ⟨fun _ _ _ r h => by simp [wire_Int.j0] at h, fun _ _ _ _ r h => by simp [wire_Int.l0] at h⟩
  | k + 1 => by
    obtain ⟨ih0, ih1⟩ := wire_Int.mono_l k
    refine ⟨?_, ?_⟩
    · intro y0 y1 y2
      unfold wire_Int.j0
      repeat' first
      | (with_reducible exact ih0 _ _ _)
      | (with_reducible exact ih1 _ _ _ _)
      | (with_reducible exact LeO.refl _)
      | (with_reducible exact LeO.none _)
      | (with_reducible refine LeO.ite ?_ ?_)
      | (with_reducible refine LeO.bind ?_ (fun _ => ?_))
      | exact ih0 _ _ _
      | exact ih1 _ _ _ _
      | exact LeO.none _
      | refine LeO.ite ?_ ?_
      | refine LeO.bind ?_ (fun _ => ?_)
    · intro y0 y1 y2 y3
      unfold wire_Int.l0
      repeat' first
      | (with_reducible exact ih0 _ _ _)
      | (with_reducible exact ih1 _ _ _ _)
      | (with_reducible exact LeO.refl _)
      | (with_reducible exact LeO.none _)
      | (with_reducible refine LeO.ite ?_ ?_)
      | (with_reducible refine LeO.bind ?_ (fun _ => ?_))
      | exact ih0 _ _ _
      | exact ih1 _ _ _ _
      | exact LeO.none _
      | refine LeO.ite ?_ ?_
      | refine LeO.bind ?_ (fun _ => ?_)
theorem wire_Int.mono : ∀ a0 a1 k, LeO (wire_Int.f k a0 a1) (wire_Int.f (k + 1) a0 a1) := by
  intro a0 a1 k
  obtain ⟨ih0, ih1⟩ := wire_Int.mono_l k
  unfold wire_Int.f
  repeat' first
      | (with_reducible exact ih0 _ _ _)
      | (with_reducible exact ih1 _ _ _ _)
      | (with_reducible exact LeO.refl _)
      | (with_reducible exact LeO.none _)
      | (with_reducible refine LeO.ite ?_ ?_)
      | (with_reducible refine LeO.bind ?_ (fun _ => ?_))
      | exact ih0 _ _ _
      | exact ih1 _ _ _ _
      | exact LeO.none _
      | refine LeO.ite ?_ ?_
      | refine LeO.bind ?_ (fun _ => ?_)
set_option maxHeartbeats 8000000 in
set_option maxRecDepth 100000 in
theorem wire_Int.calls (k : Nat) (a0 : ByteArray) (a1 : Int) (r1 : Int) (r2 : Int) (r3 : Int) (w : World) (h : wire_Int.f k a0 a1 = some (r1, r2, r3)) :
    Calls Tryd.prog 79 #[.string a0, .int .i64 a1] w fun e w' => e = .returned (.tuple #[.int .i64 r1, .int .i64 r2, .int .i64 r3]) ∧ Drawn0 w w' := by
  have H : (if a1 < 0 then (wire_Int.j0 k a0 a1 true) else (wire_Int.j0 k a0 a1 (decide (a1 > (a0.size : Int))))) = some (r1, r2, r3) := h
  clear h
  have HC3 := Aside0.mk H
  clear H
  go_enter Tryd.func79, Tryd.ntmps79
  go_upto_region 1 with (fail)
  go_cut [18] (fun v18 wc => ∃ (kq : Nat) (x18_2 : Bool), v18 = .bool x18_2 ∧ Aside0 (wire_Int.j0 kq a0 a1 x18_2 = some (r1, r2, r3)) ∧ Aside0 (kq ≤ k) ∧ Drawn0 w wc)
  case first =>
    have H := HC3.out
    clear HC3
    by_cases c4 : a1 < 0
    · rw [if_pos c4] at H
      have c4b0 : decide (a1 < 0) = true := decide_eq_true c4
      clear c4
      (first | rw [c4b0] | (simp only [i64_w, i32_w]; rw [c4b0]) | skip)
      have H' := Aside0.mk H
      clear H
      go_wp2
      go_meet
      case rel => exact ⟨_, (true), (by first | rfl | (simp; done) | (simp [*]; done)), H', ⟨by first | omega | exact Nat.le_refl _⟩, by repeat (first | exact Drawn0.refl _ | apply Drawn0.step)⟩
    · rw [if_neg c4] at H
      have c4b0 : decide (a1 < 0) = false := decide_eq_false c4
      clear c4
      (first | rw [c4b0] | (simp only [i64_w, i32_w]; rw [c4b0]) | skip)
      have H' := Aside0.mk H
      clear H
      go_wp2
      go_meet
      case rel => exact ⟨_, (decide (a1 > (a0.size : Int))), (by first | rfl | (simp; done) | (simp [*]; done)), H', ⟨by first | omega | exact Nat.le_refl _⟩, by repeat (first | exact Drawn0.refl _ | apply Drawn0.step)⟩
  case rest =>
    clear HC3
    try clear p2
    try clear c4
    try clear c4b0
    obtain ⟨kq, x18_2, rfl, HA, HJ2, ⟨mc2, rfl⟩⟩ := hcut
    cases kq with
    | zero => exact absurd HA.out (by simp [wire_Int.j0])
    | succ kj2 =>
      have H := HA.out
      clear HA
      simp only [wire_Int.j0] at H
      by_cases c5 : x18_2 = true
      · subst c5
        have H1 : (some (0, 0, 2)) = some (r1, r2, r3) := by rw [if_pos rfl] at H; exact H
        clear H
        have H := H1
        clear H1
        simp only [Option.some.injEq, Prod.mk.injEq] at H
        obtain ⟨rfl, rfl, rfl⟩ := H
        go_wp2
        go_ret3
        exact ⟨by first | rfl | (simp; done) | (simp [*]; done), by repeat (first | exact Drawn0.refl _ | apply Drawn0.step)⟩
      · replace c5 := Bool.eq_false_iff.mpr c5
        subst c5
        have H1 : (wire_Int.l0 kj2 a0 a1 0 0) = some (r1, r2, r3) := by rw [if_neg (show ¬ (false = true) by decide)] at H; exact H
        clear H
        have H := H1
        clear H1
        have H' := Aside0.mk H
        clear H
        go_wp2
        go_loopg [7, 19] kj2 (fun kq v7 v19 w' => ∃ (x7_2 : Int) (x19_2 : Int), v7 = .int .u64 x7_2 ∧ v19 = .int .i64 x19_2 ∧ Aside0 (wire_Int.l0 kq a0 a1 x7_2 x19_2 = some (r1, r2, r3)) ∧ Aside0 (kq ≤ kj2) ∧ Drawn0 w w')
        case atStart => exact ⟨(0), (0), (by first | rfl | (simp; done) | (simp [*]; done)), (by first | rfl | (simp; done) | (simp [*]; done)), H', ⟨Nat.le_refl _⟩, by repeat (first | exact Drawn0.refl _ | apply Drawn0.step)⟩
        case round =>
          clear H'
          try clear c2
          try clear p2
          try clear c4
          try clear c4b0
          try clear c5
          try clear p2
          obtain ⟨x7_2, x19_2, rfl, rfl, HA, HK2, ⟨m2, rfl⟩⟩ := hrel
          cases gk with
          | zero => exact absurd HA.out (by simp [wire_Int.l0])
          | succ k2 =>
            have H := HA.out
            clear HA
            simp only [wire_Int.l0] at H
            by_cases c6 : x19_2 < 9
            · rw [if_pos c6] at H
              have c6b0 : decide (x19_2 < 9) = true := decide_eq_true c6
              clear c6
              by_cases c7 : (wrap64 (a1 + x19_2)) ≥ (a0.size : Int)
              · rw [if_pos c7] at H
                have c7b0 : decide ((a0.size : Int) ≤ (wrap64 (a1 + x19_2))) = true := decide_eq_true c7
                clear c7
                simp only [Option.some.injEq, Prod.mk.injEq] at H
                obtain ⟨rfl, rfl, rfl⟩ := H
                go_wp2
                go_ret3
                exact ⟨by first | rfl | (simp; done) | (simp [*]; done), by repeat (first | exact Drawn0.refl _ | apply Drawn0.step)⟩
              · rw [if_neg c7] at H
                have c7b0 : decide ((a0.size : Int) ≤ (wrap64 (a1 + x19_2))) = false := decide_eq_false c7
                clear c7
                obtain ⟨ji8, hji8⟩ : ∃ j_ : Int, (wrap64 (a1 + x19_2)) = j_ := ⟨_, rfl⟩
                replace H : (if 0 ≤ (ji8) then (if (ji8) < (a0.size : Int) then (if 0 ≤ (wrap64 (7 * x19_2)) then (if (bt a0 (ji8)) ≥ 128 then (wire_Int.l0 k2 a0 a1 (Go.bits .or .u64 x7_2 (shl .u64 (IntKind.u64.wrap (Go.bits .and .u8 (bt a0 (ji8)) 127)) (wrap64 (7 * x19_2)))) (wrap64 (x19_2 + 1))) else (if (bt a0 (ji8)) = 0 then (if x19_2 > 0 then (some (0, 0, 10)) else (if (Go.bits .xor .i64 (wrap64 ((Go.bits .or .u64 x7_2 (shl .u64 (IntKind.u64.wrap (Go.bits .and .u8 (bt a0 (ji8)) 127)) (wrap64 (7 * x19_2)))) / 2)) (wrap64 (-(wrap64 (Go.bits .and .u64 (Go.bits .or .u64 x7_2 (shl .u64 (IntKind.u64.wrap (Go.bits .and .u8 (bt a0 (ji8)) 127)) (wrap64 (7 * x19_2)))) 1))))) < (-4611686018427387903) then (some (0, 0, 10)) else (some (Go.bits .xor .i64 (wrap64 ((Go.bits .or .u64 x7_2 (shl .u64 (IntKind.u64.wrap (Go.bits .and .u8 (bt a0 (ji8)) 127)) (wrap64 (7 * x19_2)))) / 2)) (wrap64 (-(wrap64 (Go.bits .and .u64 (Go.bits .or .u64 x7_2 (shl .u64 (IntKind.u64.wrap (Go.bits .and .u8 (bt a0 (ji8)) 127)) (wrap64 (7 * x19_2)))) 1)))), wrap64 ((ji8) + 1), 0)))) else (if (Go.bits .xor .i64 (wrap64 ((Go.bits .or .u64 x7_2 (shl .u64 (IntKind.u64.wrap (Go.bits .and .u8 (bt a0 (ji8)) 127)) (wrap64 (7 * x19_2)))) / 2)) (wrap64 (-(wrap64 (Go.bits .and .u64 (Go.bits .or .u64 x7_2 (shl .u64 (IntKind.u64.wrap (Go.bits .and .u8 (bt a0 (ji8)) 127)) (wrap64 (7 * x19_2)))) 1))))) < (-4611686018427387903) then (some (0, 0, 10)) else (some (Go.bits .xor .i64 (wrap64 ((Go.bits .or .u64 x7_2 (shl .u64 (IntKind.u64.wrap (Go.bits .and .u8 (bt a0 (ji8)) 127)) (wrap64 (7 * x19_2)))) / 2)) (wrap64 (-(wrap64 (Go.bits .and .u64 (Go.bits .or .u64 x7_2 (shl .u64 (IntKind.u64.wrap (Go.bits .and .u8 (bt a0 (ji8)) 127)) (wrap64 (7 * x19_2)))) 1)))), wrap64 ((ji8) + 1), 0))))) else (none)) else (none)) else (none)) = some (r1, r2, r3) := by first | (rw [hji8] at H; exact H) | (simp only [hji8] at H ⊢; exact H)
                (try rw [hji8] at c7b0)
                have hji8w : (IntKind.i64.wrap (a1 + x19_2)) = ji8 := (i64_w _).trans hji8
                by_cases c9 : 0 ≤ (ji8)
                · rw [if_pos c9] at H
                  have c9b0 : decide (0 ≤ (ji8)) = true := decide_eq_true c9
                  clear c9
                  by_cases c10 : (ji8) < (a0.size : Int)
                  · rw [if_pos c10] at H
                    have c10b0 : decide ((ji8) < (a0.size : Int)) = true := decide_eq_true c10
                    clear c10
                    obtain ⟨ji12, hji12⟩ : ∃ j_ : Int, (wrap64 (7 * x19_2)) = j_ := ⟨_, rfl⟩
                    replace H : (if 0 ≤ (ji12) then (if (bt a0 (ji8)) ≥ 128 then (wire_Int.l0 k2 a0 a1 (Go.bits .or .u64 x7_2 (shl .u64 (IntKind.u64.wrap (Go.bits .and .u8 (bt a0 (ji8)) 127)) (ji12))) (wrap64 (x19_2 + 1))) else (if (bt a0 (ji8)) = 0 then (if x19_2 > 0 then (some (0, 0, 10)) else (if (Go.bits .xor .i64 (wrap64 ((Go.bits .or .u64 x7_2 (shl .u64 (IntKind.u64.wrap (Go.bits .and .u8 (bt a0 (ji8)) 127)) (ji12))) / 2)) (wrap64 (-(wrap64 (Go.bits .and .u64 (Go.bits .or .u64 x7_2 (shl .u64 (IntKind.u64.wrap (Go.bits .and .u8 (bt a0 (ji8)) 127)) (ji12))) 1))))) < (-4611686018427387903) then (some (0, 0, 10)) else (some (Go.bits .xor .i64 (wrap64 ((Go.bits .or .u64 x7_2 (shl .u64 (IntKind.u64.wrap (Go.bits .and .u8 (bt a0 (ji8)) 127)) (ji12))) / 2)) (wrap64 (-(wrap64 (Go.bits .and .u64 (Go.bits .or .u64 x7_2 (shl .u64 (IntKind.u64.wrap (Go.bits .and .u8 (bt a0 (ji8)) 127)) (ji12))) 1)))), wrap64 ((ji8) + 1), 0)))) else (if (Go.bits .xor .i64 (wrap64 ((Go.bits .or .u64 x7_2 (shl .u64 (IntKind.u64.wrap (Go.bits .and .u8 (bt a0 (ji8)) 127)) (ji12))) / 2)) (wrap64 (-(wrap64 (Go.bits .and .u64 (Go.bits .or .u64 x7_2 (shl .u64 (IntKind.u64.wrap (Go.bits .and .u8 (bt a0 (ji8)) 127)) (ji12))) 1))))) < (-4611686018427387903) then (some (0, 0, 10)) else (some (Go.bits .xor .i64 (wrap64 ((Go.bits .or .u64 x7_2 (shl .u64 (IntKind.u64.wrap (Go.bits .and .u8 (bt a0 (ji8)) 127)) (ji12))) / 2)) (wrap64 (-(wrap64 (Go.bits .and .u64 (Go.bits .or .u64 x7_2 (shl .u64 (IntKind.u64.wrap (Go.bits .and .u8 (bt a0 (ji8)) 127)) (ji12))) 1)))), wrap64 ((ji8) + 1), 0))))) else (none)) = some (r1, r2, r3) := by first | (rw [hji12] at H; exact H) | (simp only [hji12] at H ⊢; exact H)
                    have hji12w : (IntKind.i64.wrap (7 * x19_2)) = ji12 := (i64_w _).trans hji12
                    by_cases c13 : 0 ≤ (ji12)
                    · rw [if_pos c13] at H
                      have c13b0 := eq_true c13
                      have c13b1 : decide (0 ≤ (ji12)) = true := decide_eq_true c13
                      clear c13
                      obtain ⟨ji14, hji14⟩ : ∃ j_ : Int, (shl .u64 (IntKind.u64.wrap (Go.bits .and .u8 (bt a0 (ji8)) 127)) (ji12)) = j_ := ⟨_, rfl⟩
                      replace H : (if (bt a0 (ji8)) ≥ 128 then (wire_Int.l0 k2 a0 a1 (Go.bits .or .u64 x7_2 (ji14)) (wrap64 (x19_2 + 1))) else (if (bt a0 (ji8)) = 0 then (if x19_2 > 0 then (some (0, 0, 10)) else (if (Go.bits .xor .i64 (wrap64 ((Go.bits .or .u64 x7_2 (ji14)) / 2)) (wrap64 (-(wrap64 (Go.bits .and .u64 (Go.bits .or .u64 x7_2 (ji14)) 1))))) < (-4611686018427387903) then (some (0, 0, 10)) else (some (Go.bits .xor .i64 (wrap64 ((Go.bits .or .u64 x7_2 (ji14)) / 2)) (wrap64 (-(wrap64 (Go.bits .and .u64 (Go.bits .or .u64 x7_2 (ji14)) 1)))), wrap64 ((ji8) + 1), 0)))) else (if (Go.bits .xor .i64 (wrap64 ((Go.bits .or .u64 x7_2 (ji14)) / 2)) (wrap64 (-(wrap64 (Go.bits .and .u64 (Go.bits .or .u64 x7_2 (ji14)) 1))))) < (-4611686018427387903) then (some (0, 0, 10)) else (some (Go.bits .xor .i64 (wrap64 ((Go.bits .or .u64 x7_2 (ji14)) / 2)) (wrap64 (-(wrap64 (Go.bits .and .u64 (Go.bits .or .u64 x7_2 (ji14)) 1)))), wrap64 ((ji8) + 1), 0))))) = some (r1, r2, r3) := by first | (rw [hji14] at H; exact H) | (simp only [hji14] at H ⊢; exact H)
                      have hji14_ : (IntKind.u64.wrap ((IntKind.u64.wrap (Go.bits .and .u8 (bt a0 (ji8)) 127)) * 2 ^ min (ji12).toNat 64)) = ji14 := hji14
                      have hji14z : (ji12) ≤ 64 → (IntKind.u64.wrap ((IntKind.u64.wrap (Go.bits .and .u8 (bt a0 (ji8)) 127)) * 2 ^ (ji12).toNat)) = ji14 := shl_small hji14
                      by_cases c15 : (bt a0 (ji8)) ≥ 128
                      · rw [if_pos c15] at H
                        have c15b0 : decide (128 ≤ (bt a0 (ji8))) = true := decide_eq_true c15
                        clear c15
                        have H' := Aside0.mk H
                        clear H
                        have p11 : 0 ≤ ((ji8) : Int) := of_decide_eq_true (by first | (with_reducible assumption) | assumption)
                        have q11 : (ji8) < (a0.size : Int) := of_decide_eq_true (by first | (with_reducible assumption) | assumption)
                        have hx11 := bt_at a0 (ji8)
                        replace p11 := eq_true p11
                        replace q11 := eq_true q11
                        go_wp2
                        go_roundg k2
                        case measure => have := HJ2.out; have := HK2.out; omega
                        case rel => exact ⟨(Go.bits .or .u64 x7_2 (ji14)), (wrap64 (x19_2 + 1)), (by first | rfl | (simp; done) | (simp only [← hji14] <;> (first | rfl | simp)) | (simp [*]; done)), (by first | rfl | (simp; done) | (simp [*]; done)), H', ⟨by have := HJ2.out; have := HK2.out; omega⟩, by repeat (first | exact Drawn0.refl _ | apply Drawn0.step)⟩
                      · rw [if_neg c15] at H
                        have c15b0 : decide (128 ≤ (bt a0 (ji8))) = false := decide_eq_false c15
                        clear c15
                        by_cases c16 : (bt a0 (ji8)) = 0
                        · rw [if_pos c16] at H
                          have c16b0 : ((bt a0 (ji8)) == 0) = true := beq_iff_eq.mpr c16
                          have c16b1 : ((bt a0 (ji8)) != 0) = false := bne_eq_false_iff_eq.mpr c16
                          clear c16
                          by_cases c17 : x19_2 > 0
                          · rw [if_pos c17] at H
                            have c17b0 : decide (0 < x19_2) = true := decide_eq_true c17
                            clear c17
                            simp only [Option.some.injEq, Prod.mk.injEq] at H
                            obtain ⟨rfl, rfl, rfl⟩ := H
                            have p11 : 0 ≤ ((ji8) : Int) := of_decide_eq_true (by first | (with_reducible assumption) | assumption)
                            have q11 : (ji8) < (a0.size : Int) := of_decide_eq_true (by first | (with_reducible assumption) | assumption)
                            have hx11 := bt_at a0 (ji8)
                            replace p11 := eq_true p11
                            replace q11 := eq_true q11
                            go_wp2
                            go_ret3
                            exact ⟨by first | rfl | (simp; done) | (simp only [← hji8, ← hji12, ← hji14] <;> (first | rfl | simp)) | (simp [*]; done), by repeat (first | exact Drawn0.refl _ | apply Drawn0.step)⟩
                          · rw [if_neg c17] at H
                            have c17b0 : decide (0 < x19_2) = false := decide_eq_false c17
                            clear c17
                            by_cases c18 : (Go.bits .xor .i64 (wrap64 ((Go.bits .or .u64 x7_2 (ji14)) / 2)) (wrap64 (-(wrap64 (Go.bits .and .u64 (Go.bits .or .u64 x7_2 (ji14)) 1))))) < (-4611686018427387903)
                            · rw [if_pos c18] at H
                              have c18b0 : decide ((Go.bits .xor .i64 (wrap64 ((Go.bits .or .u64 x7_2 (ji14)) / 2)) (wrap64 (-(wrap64 (Go.bits .and .u64 (Go.bits .or .u64 x7_2 (ji14)) 1))))) < (-4611686018427387903)) = true := decide_eq_true c18
                              clear c18
                              simp only [Option.some.injEq, Prod.mk.injEq] at H
                              obtain ⟨rfl, rfl, rfl⟩ := H
                              have p11 : 0 ≤ ((ji8) : Int) := of_decide_eq_true (by first | (with_reducible assumption) | assumption)
                              have q11 : (ji8) < (a0.size : Int) := of_decide_eq_true (by first | (with_reducible assumption) | assumption)
                              have hx11 := bt_at a0 (ji8)
                              replace p11 := eq_true p11
                              replace q11 := eq_true q11
                              go_wp2
                              go_ret3
                              exact ⟨by first | rfl | (simp; done) | (simp only [← hji8, ← hji12, ← hji14] <;> (first | rfl | simp)) | (simp [*]; done), by repeat (first | exact Drawn0.refl _ | apply Drawn0.step)⟩
                            · rw [if_neg c18] at H
                              have c18b0 : decide ((Go.bits .xor .i64 (wrap64 ((Go.bits .or .u64 x7_2 (ji14)) / 2)) (wrap64 (-(wrap64 (Go.bits .and .u64 (Go.bits .or .u64 x7_2 (ji14)) 1))))) < (-4611686018427387903)) = false := decide_eq_false c18
                              clear c18
                              simp only [Option.some.injEq, Prod.mk.injEq] at H
                              obtain ⟨rfl, rfl, rfl⟩ := H
                              have p11 : 0 ≤ ((ji8) : Int) := of_decide_eq_true (by first | (with_reducible assumption) | assumption)
                              have q11 : (ji8) < (a0.size : Int) := of_decide_eq_true (by first | (with_reducible assumption) | assumption)
                              have hx11 := bt_at a0 (ji8)
                              replace p11 := eq_true p11
                              replace q11 := eq_true q11
                              go_wp2
                              go_ret3
                              exact ⟨by first | rfl | (simp; done) | (simp only [← hji8, ← hji12, ← hji14] <;> (first | rfl | simp)) | (simp [*]; done), by repeat (first | exact Drawn0.refl _ | apply Drawn0.step)⟩
                        · rw [if_neg c16] at H
                          have c16b0 : ((bt a0 (ji8)) == 0) = false := beq_eq_false_iff_ne.mpr c16
                          have c16b1 : ((bt a0 (ji8)) != 0) = true := bne_iff_ne.mpr c16
                          by_cases c19 : (Go.bits .xor .i64 (wrap64 ((Go.bits .or .u64 x7_2 (ji14)) / 2)) (wrap64 (-(wrap64 (Go.bits .and .u64 (Go.bits .or .u64 x7_2 (ji14)) 1))))) < (-4611686018427387903)
                          · rw [if_pos c19] at H
                            have c19b0 : decide ((Go.bits .xor .i64 (wrap64 ((Go.bits .or .u64 x7_2 (ji14)) / 2)) (wrap64 (-(wrap64 (Go.bits .and .u64 (Go.bits .or .u64 x7_2 (ji14)) 1))))) < (-4611686018427387903)) = true := decide_eq_true c19
                            clear c19
                            simp only [Option.some.injEq, Prod.mk.injEq] at H
                            obtain ⟨rfl, rfl, rfl⟩ := H
                            have p11 : 0 ≤ ((ji8) : Int) := of_decide_eq_true (by first | (with_reducible assumption) | assumption)
                            have q11 : (ji8) < (a0.size : Int) := of_decide_eq_true (by first | (with_reducible assumption) | assumption)
                            have hx11 := bt_at a0 (ji8)
                            replace p11 := eq_true p11
                            replace q11 := eq_true q11
                            go_wp2
                            go_ret3
                            exact ⟨by first | rfl | (simp; done) | (simp only [← hji8, ← hji12, ← hji14] <;> (first | rfl | simp)) | (simp [*]; done), by repeat (first | exact Drawn0.refl _ | apply Drawn0.step)⟩
                          · rw [if_neg c19] at H
                            have c19b0 : decide ((Go.bits .xor .i64 (wrap64 ((Go.bits .or .u64 x7_2 (ji14)) / 2)) (wrap64 (-(wrap64 (Go.bits .and .u64 (Go.bits .or .u64 x7_2 (ji14)) 1))))) < (-4611686018427387903)) = false := decide_eq_false c19
                            clear c19
                            simp only [Option.some.injEq, Prod.mk.injEq] at H
                            obtain ⟨rfl, rfl, rfl⟩ := H
                            have p11 : 0 ≤ ((ji8) : Int) := of_decide_eq_true (by first | (with_reducible assumption) | assumption)
                            have q11 : (ji8) < (a0.size : Int) := of_decide_eq_true (by first | (with_reducible assumption) | assumption)
                            have hx11 := bt_at a0 (ji8)
                            replace p11 := eq_true p11
                            replace q11 := eq_true q11
                            go_wp2
                            go_ret3
                            exact ⟨by first | rfl | (simp; done) | (simp only [← hji8, ← hji12, ← hji14] <;> (first | rfl | simp)) | (simp [*]; done), by repeat (first | exact Drawn0.refl _ | apply Drawn0.step)⟩
                    · rw [if_neg c13] at H
                      exact absurd H (by simp)
                  · rw [if_neg c10] at H
                    exact absurd H (by simp)
                · rw [if_neg c9] at H
                  exact absurd H (by simp)
            · rw [if_neg c6] at H
              have c6b0 : decide (x19_2 < 9) = false := decide_eq_false c6
              clear c6
              simp only [Option.some.injEq, Prod.mk.injEq] at H
              obtain ⟨rfl, rfl, rfl⟩ := H
              go_wp2
              go_ret3
              exact ⟨by first | rfl | (simp; done) | (simp [*]; done), by repeat (first | exact Drawn0.refl _ | apply Drawn0.step)⟩

end Go.Proofs.YtpgjhjlhipikgaaDoor.PK
end
