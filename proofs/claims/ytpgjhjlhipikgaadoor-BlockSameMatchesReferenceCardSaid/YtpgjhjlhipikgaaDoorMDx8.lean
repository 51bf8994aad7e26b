/- Texts of this claim, one behind the other. -/
import Derived.Test.YtpgjhjlhipikgaaDoorMDx3
import Derived.Deep.DeepMust
import Derived.Shelf.Abstract
import Derived.Lib.VarintBits
import Derived.Lib.Zigzag
import Derived.Maps.OwnIn
import Derived.Test.YtpgjhjlhipikgaaDoorMDx7
import Derived.Test.YtpgjhjlhipikgaaDoorMDx4
import Derived.Test.YtpgjhjlhipikgaaDoorMDx5
section
namespace Go.Proofs.YtpgjhjlhipikgaaDoor.PK
open Go.RowKit Go.Proofs.YtpgjhjlhipikgaaDoorW.PrintWords Go.Proofs.YtpgjhjlhipikgaaDoorW.PrintLast Go.Proofs.YtpgjhjlhipikgaaDoorW.PrintMore
attribute [local go_sem] max2_int min2_int max_two min_two max_three min_three max_four min_four   -- for this text's walks alone
set_option linter.unusedVariables false
set_option linter.unusedSimpArgs false
def wire_PutInt.f (a0 : Int) : Option (ByteArray × Int) := some (m_putInt a0)
def m_grp : Nat → Nat → List (Nat × Bool)
  | 0, _ => []
  | k + 1, z => if z < 128 then [(z, true)] else (z % 128, false) :: m_grp k (z / 128)
def bk_enc (x : Nat × Bool) : Array Value := #[.int .u8 (x.1 : Int), .bool x.2]
def bk_Ab (zb : Nat) (A B : World) : Prop := ∃ c v : Value, A.heap[zb]? = some (.cells #[c] 95 (0, 0)) ∧ B = A.setCell ⟨zb, 0, none⟩ v
def bk_Kp (zb : Nat) (A B : World) : Prop := B.heap[zb]? = A.heap[zb]?
def bk_Nx (z : Nat) (pre : List (Nat × Bool)) (x : Nat × Bool) : Prop := ∃ rest, pre ++ x :: rest = m_grp 10 z
theorem m_grp_lt (k z : Nat) (h : z < 128) : m_grp (k + 1) z = [(z, true)] := by simp [m_grp, h]
theorem m_grp_ge (k z : Nat) (h : ¬ z < 128) : m_grp (k + 1) z = (z % 128, false) :: m_grp k (z / 128) := by simp [m_grp, h]
theorem bk_u64_and127 (x : Int) (h₀ : 0 ≤ x) (h₁ : x < 18446744073709551616) : bits .and .u64 x 127 = x % 128 := bits_mask .u64 64 (by decide) wraps_u64 7 (by decide) x h₀ h₁
set_option maxHeartbeats 1000000 in
theorem bk_groups (zb z : Nat) (hz : z < 128 ^ 10) (hz2 : z < 18446744073709551616) (W : World) (hzb : W.heap[zb]? = some (.cells #[.int .u64 (z : Int)] 95 (0, 0))) :
    Rg.Iter Tryd.prog 94 #[.pointer (some ⟨zb, 0, none⟩)] bk_enc (bk_Ab zb) (bk_Kp zb) (bk_Nx z) (fun xs => xs = m_grp 10 z) (fun _ => True) W := by
  intro l J Jx hJ hJx hY h0
  refine callsIn_of_wp Tryd.func94 rfl trivial ?_ rfl
  simp only [Tryd.ntmps94, List.size_toArray, List.length_cons, List.length_nil, Nat.reduceAdd, Nat.reduceSub, Array.replicate_succ, Array.replicate_zero, List.push_toArray, List.append_toArray, List.nil_append, List.cons_append]
  gi_wp2
  gi_loopw [3] (fun p wr => ∃ (pre : List (Nat × Bool)) (k y : Nat), pre ++ m_grp (k + 1) y = m_grp 10 z ∧ y < 128 ^ (k + 1) ∧ y < 18446744073709551616 ∧ wr.heap[zb]? = some (.cells #[.int .u64 (y : Int)] 95 (0, 0)) ∧ J pre wr)
    (fun p wr => match wr.cell? ⟨zb, 0, none⟩ with | some (.int _ y) => y.toNat | _ => 0)
  case atStart =>
    exact ⟨[], 9, z, rfl, hz, hz2, hzb, h0⟩
  case round =>
    obtain ⟨pre, k, y, hp, hk, hyz, hb, hJs⟩ := hrel
    have hc : wr.cell? ⟨zb, 0, none⟩ = some (.int .u64 (y : Int)) := by simp [World.cell?, hb]
    have hfz : wr.frozen? ⟨zb, 0, none⟩ = false := by simp [World.frozen?, hb]
    have hbits := bk_u64_and127 (y : Int) (by omega) (by omega)
    have hHP := Aside0.mk hp
    have hHB := Aside0.mk hb
    clear hp hb hzb
    by_cases hlt : y < 128
    · rw [show ((y : Int) % 128) = (y : Int) from by omega] at hbits
      have hd : decide ((y : Int) < 128) = true := by simp; omega
      obtain ⟨fn, tmps, assign, body, hy, hR⟩ := hY pre (y, true) wr hJs ⟨[], by rw [← hHP.out, m_grp_lt _ _ hlt]⟩
      dsimp only [bk_enc] at hy
      gi_wp2
      refine ⟨rfl, hR.mono ?_⟩
      rintro e W3 (⟨rfl, hJ3, hk3⟩ | ⟨rfl, hJx3⟩)
      · gi_wp2
        refine bodyPost_ret (results_none rfl _ _ _) rfl ?_
        exact ⟨⟨_, rfl⟩, .inl ⟨_, by rw [← hHP.out, m_grp_lt _ _ hlt], hJ3⟩⟩
      · gi_wp2
        refine bodyPost_ret (results_none rfl _ _ _) rfl ?_
        exact ⟨⟨_, rfl⟩, .inr ⟨_, trivial, hJx3⟩⟩
    · have hd : decide ((y : Int) < 128) = false := by simp; omega
      have h128 : ((y : Int) % 128) = ((y % 128 : Nat) : Int) := by omega
      rw [h128] at hbits
      have hlt2 : y % 128 < 128 := Nat.mod_lt _ (by decide)
      obtain ⟨m, hm⟩ : ∃ m, y % 128 = m := ⟨_, rfl⟩
      obtain ⟨q, hq⟩ : ∃ q, y / 128 = q := ⟨_, rfl⟩
      have hq2 : (y : Int) / 128 = (q : Int) := by omega
      have hqlt : q < y := by omega
      have HM := Aside0.mk hm
      have HQ := Aside0.mk hq
      rw [hm] at hbits hlt2
      clear hm hq h128
      obtain ⟨k', rfl⟩ : ∃ k', k = k' + 1 := ⟨k - 1, by
        rcases Nat.eq_zero_or_pos k with h | h
        · subst h; simp at hk; omega
        · omega⟩
      obtain ⟨fn, tmps, assign, body, hy, hR⟩ := hY pre (m, false) wr hJs ⟨m_grp (k' + 1) q, by rw [← hHP.out, m_grp_ge _ _ hlt, HM.out, HQ.out]⟩
      dsimp only [bk_enc] at hy
      gi_wp2
      refine ⟨rfl, hR.mono ?_⟩
      rintro e W3 (⟨rfl, hJ3, hk3⟩ | ⟨rfl, hJx3⟩)
      · have hb3 : W3.heap[zb]? = some (.cells #[.int .u64 (y : Int)] 95 (0, 0)) := hk3.trans hHB.out
        have hc3 : W3.cell? ⟨zb, 0, none⟩ = some (.int .u64 (y : Int)) := by simp [World.cell?, hb3]
        have hf3 : W3.frozen? ⟨zb, 0, none⟩ = false := by simp [World.frozen?, hb3]
        have HB3 := Aside0.mk hb3
        clear hb3 hk3
        gi_wp2
        go_roundw
        case rel =>
          refine ⟨pre ++ [(m, false)], k', q, ?_, ?_, by omega, ?_, hJ _ _ _ hJ3 ⟨_, _, HB3.out, rfl⟩⟩
          · rw [← hHP.out, m_grp_ge _ _ hlt, HM.out, HQ.out]; simp
          · rw [← HQ.out]; rw [Nat.pow_succ] at hk; omega
          · simp [World.setCell, Array.getElem?_modify, HB3.out]
        case measure =>
          simp [World.cell?, World.setCell, Array.getElem?_modify, HB3.out, hHB.out]
          omega
      · gi_wp2
        refine bodyPost_ret (results_none rfl _ _ _) rfl ?_
        exact ⟨⟨_, rfl⟩, .inr ⟨_, trivial, hJx3⟩⟩
theorem bk_groupsOf (x : Int) (w : World) :
    Calls Tryd.prog 75 #[.int .u64 x] w fun e w' => e = .returned (.func (.func 94) #[] #[.pointer (some ⟨w.heap.size, 0, none⟩)]) ∧ w' = w.alloc (.cells #[.int .u64 x] 95) := by
  go_enter Tryd.func75, Tryd.ntmps75
  go_wp2
  go_ret
  exact ⟨rfl, rfl⟩
set_option maxHeartbeats 1000000 in
theorem bk_putIntNo (n : Int) (w : World) (h : n < -4611686018427387903 ∨ 4611686018427387903 < n) :
    Calls Tryd.prog 51 #[.int .i64 n] w fun e w' => e = .returned (.tuple #[.string ⟨#[]⟩, .int .i64 10]) ∧ Below w.heap.size w w' := by
  by_cases h1 : n < -4611686018427387903
  · go_enter Tryd.func51, Tryd.ntmps51
    go_wp2
    go_ret2
    exact ⟨rfl, Below.refl _ _⟩
  · have h2 : 4611686018427387903 < n := by omega
    go_enter Tryd.func51, Tryd.ntmps51
    go_wp2
    go_ret2
    exact ⟨rfl, Below.refl _ _⟩
theorem bk_zig (n : Int) (h1 : -4611686018427387904 ≤ n) (h2 : n ≤ 4611686018427387903) :
    bits .xor .u64 (IntKind.u64.wrap (IntKind.u64.wrap n * 2)) (IntKind.u64.wrap (n / 9223372036854775808)) = ((m_zig n : Nat) : Int) := by
  have comm : ∀ a b : Int, bits .xor .u64 a b = bits .xor .u64 b a := fun a b => by
    show IntKind.u64.wrap ((BitVec.ofInt 64 a ^^^ BitVec.ofInt 64 b).toNat : Int) = IntKind.u64.wrap ((BitVec.ofInt 64 b ^^^ BitVec.ofInt 64 a).toNat : Int)
    rw [BitVec.xor_comm]
  by_cases h : n < 0
  · have e1 : n / 9223372036854775808 = -1 := by omega
    have e2 : IntKind.u64.wrap (-1) = IntKind.u64.max := by decide
    rw [e1, e2, comm, Lib.zigzag_neg (by omega) h]
    unfold Lib.zigzag m_zig
    rw [if_neg (by omega), if_pos h]
    omega
  · have e1 : n / 9223372036854775808 = 0 := by omega
    have e2 : IntKind.u64.wrap 0 = ((0 : Nat) : Int) := by decide
    have e3 : IntKind.u64.wrap (IntKind.u64.wrap n * 2) = ((n.toNat * 2 : Nat) : Int) := by rw [IntKind.wrap_u64, IntKind.wrap_u64]; omega
    rw [e1, e2, e3, bits_xor_u64_nat _ _ (by omega) (by omega)]
    unfold m_zig
    rw [if_neg h]
    simp
theorem m_zig_lt (n : Int) (h1 : -4611686018427387904 ≤ n) (h2 : n ≤ 4611686018427387903) : m_zig n < 9223372036854775808 := by
  unfold m_zig; split <;> omega
def bk_byte (x : Nat × Bool) : Int := if x.2 then (x.1 : Int) else (x.1 : Int) + 128
theorem m_grp_mem : ∀ (k z : Nat) (x : Nat × Bool), x ∈ m_grp k z → x.1 < 128
  | 0, _, _, h => by simp [m_grp] at h
  | k + 1, z, x, h => by
    by_cases hz : z < 128
    · rw [m_grp_lt _ _ hz] at h
      simp at h; subst h; exact hz
    · rw [m_grp_ge _ _ hz] at h
      rcases List.mem_cons.1 h with h | h
      · subst h; exact Nat.mod_lt _ (by decide)
      · exact m_grp_mem k _ x h
theorem m_grp_len : ∀ (k z : Nat), (m_grp k z).length ≤ k
  | 0, _ => by simp [m_grp]
  | k + 1, z => by
    by_cases hz : z < 128
    · rw [m_grp_lt _ _ hz]; simp
    · rw [m_grp_ge _ _ hz]; simp; exact m_grp_len k _
theorem m_grp_vint : ∀ (k z : Nat), (m_grp k z).map bk_byte = (m_vint k z).map (fun c => (c.toNat : Int))
  | 0, _ => rfl
  | k + 1, z => by
    by_cases hz : z < 128
    · rw [m_grp_lt _ _ hz]
      simp [m_vint, hz, bk_byte]
      omega
    · rw [m_grp_ge _ _ hz]
      simp only [m_vint, if_neg hz, List.map_cons, m_grp_vint k]
      congr 1
      simp [bk_byte]
      omega
theorem infoU8 : (Tryd.prog.info? 5).map (fun i => (i.zero, i.size, i.bytes)) = some (some (.int .u8 0), 1, 1) := by kernel_rfl
def bk_I (w : World) (pre : List (Nat × Bool)) (W : World) : Prop :=
  ∃ v : Value, W.heap[w.heap.size]? = some (.cells #[v] 62 (0, 0)) ∧ W.ownsRow w.heap.size 5 1 v pre.length (pre.map (fun x => Value.int .u8 (bk_byte x))) ∧ Below w.heap.size w W ∧ ∃ c : Value, W.heap[w.heap.size + 1]? = some (.cells #[c] 95 (0, 0))
attribute [local go_sem] Oper.semAt_some
set_option maxHeartbeats 2000000 in
set_option maxRecDepth 100000 in
theorem bk_putIntYes (n : Int) (w : World) (h1 : -4611686018427387903 ≤ n) (h2 : n ≤ 4611686018427387903) :
    Calls Tryd.prog 51 #[.int .i64 n] w fun e w' => e = .returned (.tuple #[.string ⟨(m_int n).toArray⟩, .int .i64 0]) ∧ Below w.heap.size w w' := by
  have hz := bk_zig n (by omega) h2
  have hzl := m_zig_lt n (by omega) h2
  obtain ⟨z, hzz⟩ : ∃ z, m_zig n = z := ⟨_, rfl⟩
  rw [hzz] at hz hzl
  have HZ := Aside0.mk hzz
  clear hzz
  refine (callsIn_wide (n := 0)).1 (callsIn_of_wp_marks Tryd.func51 rfl trivial ?_ rfl)
  simp only [Tryd.ntmps51, List.size_toArray, List.length_cons, List.length_nil, Nat.reduceAdd, Nat.reduceSub, Array.replicate_succ, Array.replicate_zero, List.push_toArray, List.append_toArray, List.nil_append, List.cons_append]
  gi_wp2_with fail
  refine ⟨trivial, rfl, (callsIn_wide.2 (bk_groupsOf _ _)).mono ?_⟩
  rintro e w' ⟨rfl, rfl⟩
  gi_wp2_with fail
  obtain ⟨i0, hi, hz0, hz1, hz2⟩ := info_parts infoU8
  obtain ⟨w1, hw1⟩ : ∃ w1, (w.alloc (.cells #[.slice none 0 0] 62)).alloc (.cells #[.int .u64 (z : Int)] 95) = w1 := ⟨_, rfl⟩
  have hsz : w1.heap.size = w.heap.size + 2 := by rw [← hw1]; simp
  have hob : w1.heap[w.heap.size]? = some (.cells #[.slice none 0 0] 62 (0, 0)) := by
    rw [← hw1]; exact (Below.heap_alloc _ _ _ (by simp)).trans (heap_alloc_new w _)
  have hzb : w1.heap[w.heap.size + 1]? = some (.cells #[.int .u64 (z : Int)] 95 (0, 0)) := by
    rw [← hw1]; have := heap_alloc_new (w.alloc (.cells #[.slice none 0 0] 62)) (.cells #[.int .u64 (z : Int)] 95); rwa [World.size_alloc] at this
  have hbel : Below w.heap.size w w1 := by rw [← hw1]; exact ((Below.refl _ w).alloc (Nat.le_refl _) _).alloc (by simp) _
  rw [hw1]
  clear hw1
  refine Rg.wp_range (P := Tryd.prog) rfl (enters_of Tryd.func94 (by kernel_rfl) rfl) (encs := bk_enc) (Ab := bk_Ab (w.heap.size + 1)) (Kp := bk_Kp (w.heap.size + 1)) (Nx := bk_Nx z) (S := fun xs => xs = m_grp 10 z) (Sp := fun _ => True)
    ?hAb ?hKt ?hKu ?it (fun _ => rfl) (bk_I w) (fun _ _ _ => False) ?hI (fun _ _ _ _ h _ => h) ?hIA (fun _ _ _ _ h _ => h) ?h0 ?a1 ?assign ?body ?done ?stop
  case assign =>
    intro l x W K hK
    simp only [bk_enc]
    gi_wp2
    exact hK
  case hAb =>
    rintro A C k o ⟨c, v, hc, rfl⟩ ho hn
    rw [Below.heap_setCell _ _ _ _ (fun he => ?_)]
    · exact ho
    · have : k = w.heap.size + 1 := by simpa using he
      subst this
      rw [hc] at ho; injection ho with ho; subst ho; cases hn
  case hKt => intro A C E h k; exact k.trans h
  case hKu => intro A C h; exact h.low _ (by omega)
  case it => intro W hW; exact bk_groups _ z (by omega) (by omega) W (hW.cells _ _ hzb rfl)
  case hI =>
    rintro s A C ⟨v, h1, h2, h3, c, h4⟩ hT
    exact ⟨v, hT.cells _ _ h1 rfl, hT.owns h2, h3.trans (hT.below.mono (by omega)), c, hT.cells _ _ h4 rfl⟩
  case hIA =>
    rintro s A C ⟨v, h1, h2, h3, h4⟩ ⟨c, u, hc, rfl⟩
    refine ⟨v, ?_, Rg.owns_set hc (by decide) h2 0 u, h3.setCell (p := ⟨w.heap.size + 1, 0, none⟩) (by simp) u, u, ?_⟩
    · rw [Below.heap_setCell _ _ _ _ (by simp)]; exact h1
    · simp [World.setCell, Array.getElem?_modify, hc]
  case h0 => exact ⟨_, hob, by simpa using World.ownsRow_nil _ _ _ _, hbel, _, hzb⟩
  case body =>
    rintro l pre ⟨g, b⟩ W ⟨v, hv, hown, hB, cz, hzW⟩ hx
    obtain ⟨rest, hx⟩ := hx
    have hg : g < 128 := m_grp_mem 10 z (g, b) (by rw [← hx]; simp)
    have hlen : pre.length < 10 := by have := m_grp_len 10 z; rw [← hx] at this; simp at this; omega
    have hor : bits .or .u8 (g : Int) 128 = (g : Int) + 128 := bits_join_low .u8 8 (by decide) wraps_u8 7 (g : Int) 128 (by omega) (by omega) (by omega) (by decide) (by decide) (by decide)
    have hc : W.cell? ⟨w.heap.size, 0, none⟩ = some v := by simp [World.cell?, hv]
    have hf : W.frozen? ⟨w.heap.size, 0, none⟩ = false := by simp [World.frozen?, hv]
    have hlt : w.heap.size < W.heap.size := (Array.getElem?_eq_some_iff.1 hv).1
    have hbs : w.heap.size ≤ W.heap.size := by omega
    have fin : ∀ (c : Int) (v' : Value) (W1 : World), bk_byte (g, b) = c →
        W1.ownsRow w.heap.size 5 1 v' (pre.length + 1) (pre.map (fun x => Value.int .u8 (bk_byte x)) ++ [.int .u8 c]) → (W.alloc (.cells #[.int .u8 c] 5)).grownBy W1 v.ownBlock →
        W1.heap[w.heap.size]? = some (.cells #[v] 62 (0, 0)) ∧
        (W1.heap[w.heap.size]? = some (.cells #[v] 62 (0, 0)) → KeepsFrom w1.heap.size W (W1.setCell ⟨w.heap.size, 0, none⟩ v') ∧ bk_Kp (w.heap.size + 1) W (W1.setCell ⟨w.heap.size, 0, none⟩ v') ∧ bk_I w (pre ++ [(g, b)]) (W1.setCell ⟨w.heap.size, 0, none⟩ v')) := by
      intro c v' W1 hcb ho hg1
      have hz1 := Rg.block_append hown hzW (by decide) hg1
      have hv1 := Rg.block_append hown hv (by decide) hg1
      refine ⟨hv1, fun _ => ⟨(Rg.keeps_append hown hg1).trans (Rg.keeps_set _ _), ?_, v', ?_, ?_, ?_, cz, ?_⟩⟩
      · unfold bk_Kp
        rw [Below.heap_setCell _ _ _ _ (by simp), hz1, hzW]
      · simp [World.setCell, Array.getElem?_modify, hv1]
      · have := Rg.owns_set hv1 (by decide) ho 0 v'
        simpa [hcb] using this
      · exact (Rg.below_append hB hbs (Nat.le_refl _) hown hg1).setCell (p := ⟨w.heap.size, 0, none⟩) (Nat.le_refl _) _
      · rw [Below.heap_setCell _ _ _ _ (by simp)]; exact hz1
    have HX := Aside0.mk hx
    have HV := Aside0.mk hv
    clear hx hv hz hzb hob hzW
    cases b with
    | false =>
      gi_wp2_with (gi_at_builtin; refine Rg.stop_here ?_)
      refine ⟨?_⟩
      refine wpListIn_append_own _ rfl _ _ 62 rfl w.heap.size 5 i0 (.int .u8 0) 1 1 Tryd.underlying62 hi hz0 hz1 hz2 rfl (by decide) _ _ _ rfl (hown.alloc _) ⟨W.heap.size, 0, none⟩ 1 1 [.int .u8 ((g : Int) + 128)] rfl rfl (cell_one_new _ _ _) (by simp [Value.oneCell']) (by simp only [maxLen]; omega) (by clear hor; omega) (by first | (simp; done) | (simp; omega)) ?_
      intro v' W1 hown' hgrow _
      obtain ⟨g', cap', rfl⟩ := Rg.owns_shape hown'
      obtain ⟨hv1, hfin⟩ := fin _ _ _ (by simp [bk_byte]) hown' hgrow
      have hc1 : W1.cell? ⟨w.heap.size, 0, none⟩ = some v := by simp [World.cell?, hv1]
      have hf1 : W1.frozen? ⟨w.heap.size, 0, none⟩ = false := by simp [World.frozen?, hv1]
      have HF := Aside0.mk hfin
      have HV1 := Aside0.mk hv1
      clear hfin hv1 hown' hgrow
      gi_wp2
      exact HF.out HV1.out
    | true =>
      gi_wp2_with (gi_at_builtin; refine Rg.stop_here ?_)
      refine ⟨?_⟩
      refine wpListIn_append_own _ rfl _ _ 62 rfl w.heap.size 5 i0 (.int .u8 0) 1 1 Tryd.underlying62 hi hz0 hz1 hz2 rfl (by decide) _ _ _ rfl (hown.alloc _) ⟨W.heap.size, 0, none⟩ 1 1 [.int .u8 (g : Int)] rfl rfl (cell_one_new _ _ _) (by simp [Value.oneCell']) (by simp only [maxLen]; omega) (by clear hor; omega) (by first | (simp; done) | (simp; omega)) ?_
      intro v' W1 hown' hgrow _
      obtain ⟨g', cap', rfl⟩ := Rg.owns_shape hown'
      obtain ⟨hv1, hfin⟩ := fin _ _ _ (by simp [bk_byte]) hown' hgrow
      have hc1 : W1.cell? ⟨w.heap.size, 0, none⟩ = some v := by simp [World.cell?, hv1]
      have hf1 : W1.frozen? ⟨w.heap.size, 0, none⟩ = false := by simp [World.frozen?, hv1]
      have HF := Aside0.mk hfin
      have HV1 := Aside0.mk hv1
      clear hfin hv1 hown' hgrow
      gi_wp2
      exact HF.out HV1.out
  case done =>
    rintro D xs W hD rfl ⟨v, hv, hown, hB, cz, hzW⟩ hdd
    have hc : W.cell? ⟨w.heap.size, 0, none⟩ = some v := by simp [World.cell?, hv]
    have hconv : (convert 62 9 v).run Tryd.prog W = .ok (.string ⟨(m_int n).toArray⟩) W := by
      have ho2 : W.ownsRow w.heap.size 5 1 v (m_grp 10 z).length (nums .u8 ((m_grp 10 z).map bk_byte)) := by
        simpa [nums, Function.comp_def] using hown
      rw [own_string Tryd.underlying62 Tryd.underlying5 Tryd.underlying9 ho2, m_grp_vint]
      unfold m_int
      rw [HZ.out]
      simp [strOfNums, Function.comp_def]
    have HD := Aside0.mk hdd
    clear hdd hown hzW hz hob hzb hv
    gi_wp2
    refine ⟨by simp, .inl ⟨_, _, rfl, run_takeDeferred HD.out, ?_⟩⟩
    exact ⟨_, results_tmp2 rfl _ _ _, rfl, hB.trans ((Rg.Turn.put HD.out rfl hD _).below.mono (by omega))⟩
  case stop =>
    rintro D c pre W _ _ h
    exact h.elim
theorem wire_PutInt.calls (a0 : Int) (r1 : ByteArray) (r2 : Int) (w : World) (h : wire_PutInt.f a0 = some (r1, r2)) :
    Calls Tryd.prog 51 #[.int .i64 a0] w fun e w' => e = .returned (.tuple #[.string r1, .int .i64 r2]) ∧ Below w.heap.size w w' := by
  have h' := Option.some.inj h
  unfold m_putInt m_fits at h'
  by_cases h1 : -4611686018427387903 ≤ a0 <;> by_cases h2 : a0 ≤ 4611686018427387903
  · simp [h1, h2] at h'
    obtain ⟨rfl, rfl⟩ := h'
    exact bk_putIntYes a0 w h1 h2
  all_goals
    simp [h1, h2] at h'
    obtain ⟨rfl, rfl⟩ := h'
    exact bk_putIntNo a0 w (by omega)
end Go.Proofs.YtpgjhjlhipikgaaDoor.PK
end
section
namespace Go.Proofs.YtpgjhjlhipikgaaDoor.PK
open Go.RowKit Go.Proofs.YtpgjhjlhipikgaaDoorW.PrintWords Go.Proofs.YtpgjhjlhipikgaaDoorW.PrintLast Go.Proofs.YtpgjhjlhipikgaaDoorW.PrintMore
attribute [local go_sem] max2_int min2_int max_two min_two max_three min_three max_four min_four   -- for this text's walks alone
set_option linter.unusedVariables false
set_option linter.unusedSimpArgs false
def wire_PutString.f (a0 : ByteArray) : Option (ByteArray × Int) := if (a0.size : Int) > 65536 then (some ((⟨#[]⟩ : ByteArray), 10)) else ((wire_PutInt.f (a0.size : Int)).bind fun bt137 => (if bt137.1.size + a0.size ≤ 9223372036854775807 then (some (bt137.1 ++ a0, 0)) else (none)))
set_option maxHeartbeats 8000000 in
set_option maxRecDepth 100000 in
theorem wire_PutString.calls (a0 : ByteArray) (r1 : ByteArray) (r2 : Int) (w : World) (h : wire_PutString.f a0 = some (r1, r2)) :
    Calls Tryd.prog 53 #[.string a0] w fun e w' => e = .returned (.tuple #[.string r1, .int .i64 r2]) ∧ Below w.heap.size w w' := by
  have HB := Aside0.mk (Below.refl w.heap.size w)
  have H : (if (a0.size : Int) > 65536 then (some ((⟨#[]⟩ : ByteArray), 10)) else ((wire_PutInt.f (a0.size : Int)).bind fun bt137 => (if bt137.1.size + a0.size ≤ 9223372036854775807 then (some (bt137.1 ++ a0, 0)) else (none)))) = some (r1, r2) := h
  clear h
  by_cases c2 : (a0.size : Int) > 65536
  · rw [if_pos c2] at H
    have c2b0 : decide (65536 < (a0.size : Int)) = true := decide_eq_true c2
    have c2b1 : decide (65536 < a0.size) = true := decide_eq_true (by omega)
    clear c2
    simp only [Option.some.injEq, Prod.mk.injEq] at H
    obtain ⟨rfl, rfl⟩ := H
    go_enter Tryd.func53, Tryd.ntmps53
    go_wp2
    go_ret2
    exact ⟨by first | rfl | (simp [errW_none, errW_some] <;> rfl) | (simp [*, errW_none, errW_some] <;> rfl), by repeat (first | (with_reducible first | exact HB.out | apply below_alloc | apply pw_below_drewN | apply below_drew1) | exact HB.out)⟩
  · rw [if_neg c2] at H
    have c2b0 : decide (65536 < (a0.size : Int)) = false := decide_eq_false c2
    have c2b1 : decide (65536 < a0.size) = false := decide_eq_false (by omega)
    clear c2
    replace H := Option.bind_eq_some_iff.mp H
    obtain ⟨⟨t137, t138⟩, A30, H⟩ := H
    replace H : (if t137.size + a0.size ≤ 9223372036854775807 then (some (t137 ++ a0, 0)) else (none)) = some (r1, r2) := H
    have A3 := Aside0.mk A30
    clear A30
    by_cases c4 : t137.size + a0.size ≤ 9223372036854775807
    · rw [if_pos c4] at H
      have c4b0 := eq_true c4
      have c4b1 : decide (t137.size + a0.size ≤ 9223372036854775807) = true := decide_eq_true c4
      try have c4b2 : (9223372036854775807 < t137.size + a0.size) = False := eq_false (Nat.not_lt.2 c4)
      simp only [Option.some.injEq, Prod.mk.injEq] at H
      obtain ⟨rfl, rfl⟩ := H
      go_enter Tryd.func53, Tryd.ntmps53
      go_wp2_with (first | ((with_reducible refine gate_callee (f := 51) rfl ?_); refine goesL_ (some 12) rfl rfl Tryd.func51 (by kernel_rfl) rfl #[.int .i64 (a0.size : Int)] rfl (by (try simp only [List.map_toArray, List.map_cons, List.map_nil]); first | done | rfl | (simp only [List.length_drop, List.length_take]; rfl)) ?_; (with_reducible refine (wire_PutInt.calls (a0.size : Int) t137 t138 _ A3.out).mono ?_); rintro e w5 ⟨rfl, hb⟩; refine ⟨_, rfl, ?_⟩; have n0_ := Aside0.mk (below_step (by repeat (first | (with_reducible first | exact HB.out | apply below_alloc | apply pw_below_drewN | apply below_drew1) | exact HB.out)) hb); clear HB; have HB := n0_; clear n0_; (try clear hb); (try clear hb2); (try clear hk); (try clear hi)))
      go_ret2
      exact ⟨by first | rfl | (simp [errW_none, errW_some] <;> rfl) | (simp [*, errW_none, errW_some] <;> rfl), by repeat (first | (with_reducible first | exact HB.out | apply below_alloc | apply pw_below_drewN | apply below_drew1) | exact HB.out)⟩
    · rw [if_neg c4] at H
      exact absurd H (by simp)
end Go.Proofs.YtpgjhjlhipikgaaDoor.PK
end
section
namespace Go.Proofs.YtpgjhjlhipikgaaDoor.PK
open Go.RowKit Go.Proofs.YtpgjhjlhipikgaaDoorW.PrintWords Go.Proofs.YtpgjhjlhipikgaaDoorW.PrintLast Go.Proofs.YtpgjhjlhipikgaaDoorW.PrintMore
attribute [local go_sem] max2_int min2_int max_two min_two max_three min_three max_four min_four   -- for this text's walks alone
set_option linter.unusedVariables false
set_option linter.unusedSimpArgs false
def block_Encode.f (l0 : List (S26)) : Option (ByteArray × Int) := some (m_encode l0)
theorem bk_byteCells_app (a b : List UInt8) : Lib.byteCells a ++ Lib.byteCells b = Lib.byteCells (a ++ b) := by simp [Lib.byteCells]
theorem bk_byteCells_len (a : List UInt8) : (Lib.byteCells a).length = a.length := by simp [Lib.byteCells]
theorem cd_vint_len : ∀ (k z : Nat), (m_vint k z).length ≤ k
  | 0, z => by simp [m_vint]
  | k + 1, z => by
    rw [m_vint]
    split
    · simp
    · simp only [List.length_cons]; have := cd_vint_len k (z / 128); omega
theorem cd_int_len (n : Int) : (m_int n).length ≤ 10 := cd_vint_len 10 _
theorem cd_flat_len {α : Type} (f : α → List UInt8) (c : Nat) : ∀ (l : List α), (∀ x ∈ l, (f x).length ≤ c) → (l.flatMap f).length ≤ c * l.length
  | [], _ => by simp
  | x :: l, h => by
    have h1 := h x (by simp)
    have h2 := cd_flat_len f c l (fun y hy => h y (by simp [hy]))
    rw [List.flatMap_cons, List.length_append, List.length_cons, Nat.mul_succ]; omega
theorem cd_encB_len (b : Bl) (h : m_okB b) : (m_encB b).length ≤ 70000 := by
  obtain ⟨_, _, h2, _, _, _, h6, _, _⟩ := h
  have := cd_flat_len m_int 10 b.f5.f1 (fun x _ => cd_int_len x)
  simp only [m_encB, m_str, List.length_append]
  have e0 := cd_int_len b.f0
  have e1 := cd_int_len b.f1
  have e2 := cd_int_len (b.f2.data.toList.length : Int)
  have e3 := cd_int_len b.f3
  have e4 := cd_int_len b.f4
  have e5 := cd_int_len b.f5.f0
  have e6 := cd_int_len (b.f5.f1.length : Int)
  have e7 := cd_int_len b.f5.f2
  have e8 := cd_int_len b.f5.f3
  omega
theorem cd_enc_len (l : List Bl) (h : m_validL l = true) : (m_enc l).length ≤ 2000000 := by
  obtain ⟨h1, h2⟩ := cd_validL_ok l h
  have := cd_flat_len m_encB 70000 l (fun b hb => cd_encB_len b (h2 b hb))
  have e := cd_int_len (l.length : Int)
  rw [m_enc, List.length_append]; omega
theorem bk_ints_take (l : List Int) (j : Nat) (h : j < l.length) : (l.take (j + 1)).flatMap m_int = (l.take j).flatMap m_int ++ m_int l[j] := by
  rw [List.take_succ_eq_append_getElem h, List.flatMap_append]; simp
set_option maxHeartbeats 2000000 in
set_option maxRecDepth 100000 in
theorem bk_ints (B b : Nat) (A : Option Addr) (c : Nat) (l : List Int) (bs : List UInt8) (w : World) (hl : l.length ≤ 1000000)
    (hst : ∀ w', Below B w w' → Bk.KeptT 64 5 w w' → Kd.C (Kd.int .i64) w' A l.length l)
    (hb : Lib.IsBuilder 64 5 B b (Lib.byteCells bs) w) (hBw : B ≤ w.heap.size) (hfit : ∀ x ∈ l, m_fits x = true) (hlen : bs.length + 10 * l.length ≤ 1000000000) :
    Calls Tryd.prog 50 #[.slice A l.length c, .pointer (some ⟨b, 0, none⟩)] w fun e w' => e = .returned (.tuple #[]) ∧
      Lib.IsBuilder 64 5 B b (Lib.byteCells (bs ++ l.flatMap m_int)) w' ∧ Below B w w' ∧ Bk.KeptT 64 5 w w' := by
  have HST := Aside0.mk hst
  have HF := Aside0.mk hfit
  clear hst hfit
  go_enter Tryd.func50, Tryd.ntmps50
  go_wp2
  go_loopw [9] (fun p wr => ∃ (j : Nat), p = .int .i64 (j : Int) ∧ j ≤ l.length ∧ Lib.IsBuilder 64 5 B b (Lib.byteCells (bs ++ (l.take j).flatMap m_int)) wr ∧ Below B w wr ∧ Bk.KeptT 64 5 w wr)
    (fun p _ => l.length - (intOf p).toNat)
  case atStart => exact ⟨0, rfl, Nat.zero_le _, by rw [List.take_zero, List.flatMap_nil, List.append_nil]; exact hb, Below.refl _ _, Bk.KeptT.refl _ _ _⟩
  case round =>
    clear hb
    obtain ⟨j, rfl, hj, hbl, hB, hK⟩ := hrel
    by_cases hlt : j < l.length
    · have hd : decide ((j : Int) < (l.length : Int)) = true := by simp; omega
      obtain ⟨ad, e0, hx⟩ := Kd.at_int (HST.out wr hB hK) (j : Int) (by omega) (by omega)
      cases e0
      have hrd : rd l (j : Int) = l[j] := by simp [rd, List.getD_eq_getElem?_getD, hlt]
      rw [hrd] at hx
      simp only [Int.toNat_natCast] at hx
      have htake := bk_ints_take l j hlt
      have hfj := HF.out l[j] (List.getElem_mem hlt)
      have hfl := cd_flat_len m_int 10 (l.take j) (fun x _ => cd_int_len x)
      rw [List.length_take, Nat.min_eq_left (by omega)] at hfl
      obtain ⟨x, hxx⟩ : ∃ x, l[j] = x := ⟨_, rfl⟩
      rw [hxx] at hx htake hfj
      have hil := cd_int_len x
      have HT := Aside0.mk htake
      have hput := wire_PutInt.calls x ⟨(m_int x).toArray⟩ 0
      have hputf : wire_PutInt.f x = some (⟨(m_int x).toArray⟩, 0) := by
        show some (m_putInt x) = _
        rw [m_putInt, if_pos hfj]
      obtain ⟨S, hS⟩ : ∃ S : ByteArray, S = ⟨(m_int x).toArray⟩ := ⟨_, rfl⟩
      rw [← hS] at hput hputf
      have hSs : S.size = (m_int x).length := by rw [hS]; simp [ByteArray.size]
      have HS : Aside0 (S.data.toList = m_int x) := ⟨by rw [hS]⟩
      have hpc : ∀ w1, Calls Tryd.prog 51 #[.int .i64 x] w1 fun e w' => e = .returned (.tuple #[.string S, .int .i64 0]) ∧ Below w1.heap.size w1 w' := fun w1 => hput w1 hputf
      clear hput hputf hS hxx htake hrd hfj
      have p1 : (0 : Int) ≤ (j : Int) := by omega
      go_wp2_with (go_at_call 51; refine Rg.stop_here ?_)
      refine ⟨?_⟩
      refine (hpc _).mono ?_
      rintro e w5 ⟨rfl, hb5⟩
      go_wp2_with (go_at_call 52; refine Rg.stop_here ?_)
      refine ⟨?_⟩
      refine (Bk.writeString B b _ _ _ (Bk.builder_below hbl hb5) (by rw [bk_byteCells_len, List.length_append]; omega) (Nat.le_trans (Nat.le_trans hBw hB.size) hb5.size)).mono ?_
      rintro e w6 ⟨rfl, hbl6, hb6, hk6⟩
      rw [show Lib.strCells S = Lib.byteCells S.data.toList from rfl, HS.out, bk_byteCells_app, List.append_assoc, ← HT.out] at hbl6
      have hB5 : Below B wr w5 := ⟨hb5.os, hb5.tape, hb5.output, hb5.size, fun i hi => hb5.block i (by have := hB.size; omega)⟩
      go_wp2_with fail
      go_roundw
      case rel => exact ⟨j + 1, by go_num, by omega, .inr hbl6, (hB.trans hB5).trans hb6, (hK.trans (Bk.KeptT.of_below hb5)).trans hk6⟩
      case measure => simp [intOf]; omega
    · have hjl : j = l.length := by omega
      subst hjl
      have hd : decide (((l.length : Nat) : Int) < (l.length : Int)) = false := by simp
      rw [List.take_length] at hbl
      go_wp2
      go_end0
      exact ⟨rfl, hbl, hB, hK⟩
theorem bk_C_lit (l : List Int) (W : World) (g : Nat) (h : W.heap[g]? = some (.cells (l.map (Value.int .i64)).toArray 3 (0, 0))) (hm : l.length ≤ 9223372036854775807) : Kd.C (Kd.int .i64) W (some ⟨g, 0, none⟩) l.length l :=
  ⟨rfl, hm, fun _ => ⟨_, rfl, fun j p hp => ⟨[.int .i64 p], rfl, rfl, fun i u hu => by
    have hi : i = 0 := by
      have := (List.getElem?_eq_some_iff.1 hu).1
      simp at this; exact this
    subst hi
    have hu' : u = .int .i64 p := (Option.some.inj hu).symm
    subst hu'
    have hc : W.cell? ⟨g, j, none⟩ = some (.int .i64 p) := by
      rw [bk_cell h j]; simp [hp]
    show W.cell? ((⟨g, 0, none⟩ : Addr).add (j * 1 + 0)) = _
    by_cases hj : j = 0
    · subst hj; simpa [Addr.add] using hc
    · simpa [Addr.add, hj] using hc⟩⟩⟩
theorem bk_ints_lit (B b g n : Nat) (l : List Int) (hn : l.length = n) (bs : List UInt8) (w : World) (hl : l.length ≤ 1000000) (hg : w.heap[g]? = some (.cells (l.map (Value.int .i64)).toArray 3 (0, 0)))
    (hb : Lib.IsBuilder 64 5 B b (Lib.byteCells bs) w) (hBw : B ≤ w.heap.size) (hfit : ∀ x ∈ l, m_fits x = true) (hlen : bs.length + 10 * l.length ≤ 1000000000) :
    Calls Tryd.prog 50 #[.slice (some ⟨g, 0, none⟩) n n, .pointer (some ⟨b, 0, none⟩)] w fun e w' => e = .returned (.tuple #[]) ∧
      Lib.IsBuilder 64 5 B b (Lib.byteCells (bs ++ l.flatMap m_int)) w' ∧ Below B w w' ∧ Bk.KeptT 64 5 w w' := by
  subst hn
  exact bk_ints B b _ _ l bs w hl (fun w' hB hK => bk_C_lit l w' g (hK.kept _ _ _ _ hg (by decide) (by decide)) (by omega)) hb hBw hfit hlen
theorem bk_putString (s : ByteArray) (w : World) (h : s.size ≤ 65536) : ∃ S : ByteArray, S.data.toList = m_str s.data.toList ∧ Calls Tryd.prog 53 #[.string s] w fun e w' => e = .returned (.tuple #[.string S, .int .i64 0]) ∧ Below w.heap.size w w' := by
  have hf : m_fits (s.size : Int) = true := (cd_fits _).2 (by omega)
  have hp : wire_PutInt.f (s.size : Int) = some (⟨(m_int (s.size : Int)).toArray⟩, 0) := by
    show some (m_putInt _) = _
    rw [m_putInt, if_pos hf]
  have hl := cd_int_len (s.size : Int)
  refine ⟨⟨(m_int (s.size : Int)).toArray⟩ ++ s, ?_, wire_PutString.calls s _ _ w ?_⟩
  · rw [ByteArray.data_append, Array.toList_append, m_str, Array.length_toList]; rfl
  · unfold wire_PutString.f
    rw [if_neg (by omega), hp]
    show (if _ then _ else _) = _
    rw [if_pos]
    simp only [ByteArray.size, List.size_toArray] at hl h ⊢
    omega
theorem bk_enc_take (l : List Bl) (j : Nat) (h : j < l.length) : (l.take (j + 1)).flatMap m_encB = (l.take j).flatMap m_encB ++ m_encB l[j] := by
  rw [List.take_succ_eq_append_getElem h, List.flatMap_append]; simp
theorem bk_isBuilder_of {w : World} {B b : Nat} (hB : B ≤ b) (h : w.heap[b]? = some (.cells #[.pointer none, .slice none 0 0] 64 (0, 0))) : Lib.IsBuilder 64 5 B b [] w :=
  Or.inl ⟨hB, .slice none 0 0, h, World.ownsRow_nil _ _ _ _, by simp [Value.ownBlock]⟩
set_option maxHeartbeats 4000000 in
set_option maxRecDepth 100000 in
theorem block_Encode.calls (A0 : Option Addr) (c0 : Nat) (l0 : List (S26)) (r1 : ByteArray) (r2 : Int) (w : World) (hr0 : Kd.C k26 w A0 l0.length l0) (hc0 : l0.length ≤ c0) (h : block_Encode.f l0 = some (r1, r2)) :
    Calls Tryd.prog 27 #[.slice A0 l0.length c0] w fun e w' => e = .returned (.tuple #[.string r1, .int .i64 r2]) ∧ Below w.heap.size w w' := by
  have h' := Option.some.inj h
  clear h
  have HR := Aside0.mk hr0
  have hmax := Kd.C_max hr0
  have hvl := block_ValidList.calls A0 c0 l0 (m_validL l0) w hr0 hc0 rfl
  clear hr0 hc0
  cases hv : m_validL l0 with
  | false =>
    rw [hv] at hvl
    rw [cd_encode_err l0 hv] at h'
    obtain ⟨rfl, rfl⟩ := Prod.mk.inj h'
    go_enter Tryd.func27, Tryd.ntmps27
    go_wp2_with (go_at_call 21; refine hvl.mono ?_; rintro e w1 ⟨rfl, hb1⟩)
    go_ret2
    exact ⟨rfl, hb1⟩
  | true =>
    rw [hv] at hvl
    rw [cd_encode_ok l0 hv] at h'
    obtain ⟨rfl, rfl⟩ := Prod.mk.inj h'
    have HOK := Aside0.mk (cd_validL_ok l0 hv)
    have hlen24 := HOK.out.1
    go_enter Tryd.func27, Tryd.ntmps27
    go_wp2_with (first | (go_at_call 21; refine hvl.mono ?_; rintro e w1 ⟨rfl, hb1⟩) | (with_reducible refine is_alloc rfl ?_; refine Rg.stop_here ?_))
    refine ⟨?_⟩
    refine box_event rfl (N := 4) rfl (cs := #[.pointer none, .slice none 0 0]) (t := 64) (by first | (go_simp; done) | (go_simp; rfl)) ?_
    intro b hb w2 hbx hb2
    have hB := Nat.le_of_eq hb.symm
    have hbl := bk_isBuilder_of hB hbx
    have HB := Aside0.mk hB
    have hB1s := hb1.size
    obtain ⟨B, hBe⟩ : ∃ B, B = w1.heap.size := ⟨_, rfl⟩
    rw [← hBe] at hbl hb2 hB1s
    have HB1 := Aside0.mk hb1
    have HBE := Aside0.mk hBe
    have hBw2 : B ≤ w2.heap.size := Nat.le_trans (Nat.le_of_eq HBE.out) hb2.size
    clear hb hbx hB hb1 hvl hBe
    go_wp2_with (with_reducible refine is_build rfl ?_; refine Rg.stop_here ?_)
    refine ⟨?_⟩
    refine lit_event rfl (N := 17) rfl (cs := #[.int .i64 (l0.length : Int)]) (t := 3) (n := 1) (by first | (go_simp; done) | (go_simp; rfl)) ?_
    intro g3 hg3 w3 hl3 hb3
    have hbl3 := Bk.builder_below hbl hb3
    have hB3 : Below B w1 w3 := hb2.trans (bk_below_mono hb3 hBw2)
    clear hg3 hbl hb3 hb2 hBw2
    go_wp2_with fail
    refine (bk_ints_lit B b g3 1 [(l0.length : Int)] rfl [] w3 (by simp) hl3 hbl3 (Nat.le_trans (Nat.le_of_eq HBE.out) hB3.size) (by simp; rw [cd_fits]; omega) (by simp)).mono ?_
    rintro e w4 ⟨rfl, hbl4, hb4, hk4⟩
    have hB4 := hB3.trans hb4
    rw [List.nil_append, show [(l0.length : Int)].flatMap m_int = m_int (l0.length : Int) from List.flatMap_singleton ..] at hbl4
    clear hl3 hbl3 hB3 hb4 hk4
    go_wp2
    go_loopw [21] (fun p wr => ∃ (j : Nat), p = .int .i64 (j : Int) ∧ j ≤ l0.length ∧ Lib.IsBuilder 64 5 B b (Lib.byteCells (m_int (l0.length : Int) ++ (l0.take j).flatMap m_encB)) wr ∧ Below B w1 wr)
      (fun p _ => l0.length - (intOf p).toNat)
    case atStart => exact ⟨0, rfl, Nat.zero_le _, by rw [List.take_zero, List.flatMap_nil, List.append_nil]; exact hbl4, hB4⟩
    case round =>
      clear hbl4 hB4
      obtain ⟨j, rfl, hj, hbl, hB⟩ := hrel
      have hBB : ∀ w', Below B w1 w' → Below w.heap.size w w' := fun w' h => below_step HB1.out (HBE.out ▸ h)
      by_cases hlt : j < l0.length
      · have hd : decide ((j : Int) < (l0.length : Int)) = true := by simp; omega
        obtain ⟨ad, A6, c6, e0, hx0, hx1, hx2, hx3, hx4, hx5, hx6, hx7, hx8, hl6, hi6⟩ := at_T26 HR.out (j : Int) (by omega) (by omega)
        rw [bk_rd l0 j hlt] at hx0 hx1 hx2 hx3 hx4 hx5 hx6 hx7 hx8 hl6 hi6
        have htake := bk_enc_take l0 j hlt
        have hok := HOK.out.2 l0[j] (List.getElem_mem hlt)
        have hfl := cd_flat_len m_encB 70000 (l0.take j) (fun y hy => cd_encB_len y (HOK.out.2 y (List.mem_of_mem_take hy)))
        rw [List.length_take, Nat.min_eq_left (by omega)] at hfl
        have hil := cd_int_len (l0.length : Int)
        obtain ⟨x, hx⟩ : ∃ x, l0[j] = x := ⟨_, rfl⟩
        rw [hx] at hx0 hx1 hx2 hx3 hx4 hx5 hx6 hx7 hx8 hl6 hi6 htake hok
        obtain ⟨bs0, hbs0⟩ : ∃ bs0, bs0 = m_int (l0.length : Int) ++ (l0.take j).flatMap m_encB := ⟨_, rfl⟩
        have hbs0l : bs0.length ≤ 2000000 := by rw [hbs0, List.length_append]; omega
        rw [← hbs0] at hbl
        have hfin : bs0 ++ m_encB x = m_int (l0.length : Int) ++ (l0.take (j + 1)).flatMap m_encB := by rw [htake, hbs0, List.append_assoc]
        have HT := Aside0.mk hfin
        have HI6 := Aside0.mk hi6
        obtain ⟨o0, o1, o2, o3, o4, o5, ⟨o6l, o6⟩, o7, o8⟩ := hok
        have O6 := Aside0.mk o6
        clear hx htake hi6 hfl hil hbs0 hfin o6
        simp only [Int.toNat_natCast] at hx0 hx1 hx2 hx3 hx4 hx5 hx6 hx7 hx8
        cases e0
        have hBr := hBB wr hB
        replace hx0 := bk_stepc hx0 hBr
        replace hx1 := bk_stepc hx1 hBr
        replace hx2 := bk_stepc hx2 hBr
        replace hx3 := bk_stepc hx3 hBr
        replace hx4 := bk_stepc hx4 hBr
        replace hx5 := bk_stepc hx5 hBr
        replace hx6 := bk_stepc hx6 hBr
        replace hx7 := bk_stepc hx7 hBr
        replace hx8 := bk_stepc hx8 hBr
        have p1 : (0 : Int) ≤ (j : Int) := by omega
        go_wp2_with (with_reducible refine is_alloc rfl ?_; refine Rg.stop_here ?_)
        refine ⟨?_⟩
        refine box_event rfl (N := 7) rfl (cs := #[.int .i64 0, .int .i64 0, .string (⟨#[]⟩ : ByteArray), .int .i64 0, .int .i64 0, .int .i64 0, .slice none 0 0, .int .i64 0, .int .i64 0]) (t := 26) (by first | (go_simp; done) | (go_simp; rfl)) ?_
        intro gb hg v1 hbx hb1
        have HGg := Aside0.mk hg
        clear hg
        go_wp2_with (with_reducible refine is_store rfl ?_; refine Rg.stop_here ?_)
        refine ⟨?_⟩
        refine wpList_store_box rfl rfl _ _ _ rfl gb _ _ _ rfl rfl hbx bk_size26 rfl (by repeat (first | exact List.forall_mem_nil _ | refine List.forall_mem_cons.2 ⟨rfl, ?_⟩)) ?_
        intro v2 hbx2 hst hot
        have hq2 : Below wr.heap.size wr v2 := hb1.trans (hst _ (by rw [HGg.out]; exact Nat.le_refl _))
        have hBle : B ≤ wr.heap.size := Nat.le_trans (Nat.le_of_eq HBE.out) hB.size
        have hB2 : Below B w1 v2 := hB.trans (bk_below_mono hq2 hBle)
        have hbl2 := Bk.builder_below hbl hq2
        obtain ⟨d0, d1, d2, d3, d4, d5, d6, d7, d8⟩ := bk_Box.of hbx2
        clear hb1 hbx hx0 hx1 hx2 hx3 hx4 hx5 hx6 hx7 hx8 hst hot hbl hB hBr
        obtain ⟨S, hS, hput⟩ := bk_putString x.f2 v2 (by rw [Array.length_toList] at o2; exact o2)
        have HS := Aside0.mk hS
        clear hS
        go_wp2_with (go_at_call 53; refine Rg.stop_here ?_)
        refine ⟨?_⟩
        refine hput.mono ?_
        rintro e v3 ⟨rfl, hb3⟩
        have hBle2 : B ≤ v2.heap.size := Nat.le_trans (Nat.le_of_eq HBE.out) hB2.size
        have hB3 : Below B w1 v3 := hB2.trans (bk_below_mono hb3 hBle2)
        have hbl3 := Bk.builder_below hbl2 hb3
        have hbx3 := bk_heap_below hbx2 hb3
        clear d0 d1 d2 d3 d4 d5 d6 d7 d8 hbx2 hput hb3 hB2 hbl2 hq2 hBle
        obtain ⟨d0, d1, d2, d3, d4, d5, d6, d7, d8⟩ := bk_Box.of hbx3
        go_wp2_with (with_reducible refine is_build rfl ?_; refine Rg.stop_here ?_)
        refine ⟨?_⟩
        refine lit_event rfl (N := 36) rfl (cs := #[.int .i64 x.f0, .int .i64 x.f1]) (t := 3) (n := 2) (by first | (go_simp; done) | (go_simp; rfl)) ?_
        intro g4 hg4 v4 hl4 hb4
        have hB4 : Below B w1 v4 := hB3.trans (bk_below_mono hb4 (Nat.le_trans (Nat.le_of_eq HBE.out) hB3.size))
        have hbl4 := Bk.builder_below hbl3 hb4
        have hbx4 := bk_heap_below hbx3 hb4
        clear d0 d1 d2 d3 d4 d5 d6 d7 d8 hbx3 hb4 hB3 hbl3 hg4
        go_wp2_with fail
        refine (bk_ints_lit B b g4 2 [x.f0, x.f1] rfl bs0 v4 (by simp) hl4 hbl4 (Nat.le_trans (Nat.le_of_eq HBE.out) hB4.size) (by simp [o0, o1]) (by simp; omega)).mono ?_
        rintro e v5 ⟨rfl, hbl5, hb5, hk5⟩
        have hB5 := hB4.trans hb5
        have hbx5 := hk5.kept _ _ _ _ hbx4 (by decide) (by decide)
        clear hl4 hbl4 hB4 hb5 hk5 hbx4
        obtain ⟨bs1, hbs1⟩ : ∃ bs1, bs1 = bs0 ++ [x.f0, x.f1].flatMap m_int := ⟨_, rfl⟩
        have hbs1l : bs1.length ≤ 2000000 + 20 := by
          have := cd_flat_len m_int 10 [x.f0, x.f1] (fun y _ => cd_int_len y)
          rw [hbs1, List.length_append]; simp only [List.length_cons, List.length_nil] at this; omega
        rw [← hbs1] at hbl5
        have HBS1 := Aside0.mk hbs1
        clear hbs1
        go_wp2_with (go_at_call 52; refine Rg.stop_here ?_)
        refine ⟨?_⟩
        have hSl : S.size ≤ 65546 := by
          have h1 := congrArg List.length HS.out
          have h2 := cd_int_len (x.f2.data.toList.length : Int)
          rw [Array.length_toList, m_str, List.length_append] at h1
          show S.data.size ≤ _
          omega
        refine (Bk.writeString B b _ S v5 hbl5 (by rw [bk_byteCells_len]; omega) (Nat.le_trans (Nat.le_of_eq HBE.out) hB5.size)).mono ?_
        rintro e v6 ⟨rfl, hbl6, hb6, hk6⟩
        rw [show Lib.strCells S = Lib.byteCells S.data.toList from rfl, HS.out, bk_byteCells_app] at hbl6
        have hB6 := hB5.trans hb6
        have hbx6 := hk6.kept _ _ _ _ hbx5 (by decide) (by decide)
        clear hbl5 hB5 hb6 hk6 hbx5
        obtain ⟨bs2, hbs2⟩ : ∃ bs2, bs2 = bs1 ++ m_str x.f2.data.toList := ⟨_, rfl⟩
        have hbs2l : bs2.length ≤ 2000000 + 20 + 65546 := by
          rw [hbs2, List.length_append, ← HS.out]
          have : S.data.size ≤ 65546 := hSl
          have h3 : S.data.toList.length = S.data.size := Array.length_toList
          omega
        rw [← hbs2] at hbl6
        have HBS2 := Aside0.mk hbs2
        clear hbs2 hSl
        obtain ⟨d0, d1, d2, d3, d4, d5, d6, d7, d8⟩ := bk_Box.of hbx6
        go_wp2_with (with_reducible refine is_build rfl ?_; refine Rg.stop_here ?_)
        refine ⟨?_⟩
        refine lit_event rfl (N := 52) rfl (cs := #[.int .i64 x.f3, .int .i64 x.f4, .int .i64 x.f5.f0, .int .i64 (x.f5.f1.length : Int)]) (t := 3) (n := 4) (by first | (go_simp; done) | (go_simp; rfl)) ?_
        intro g7 hg7 v7 hl7 hb7
        have hB7 : Below B w1 v7 := hB6.trans (bk_below_mono hb7 (Nat.le_trans (Nat.le_of_eq HBE.out) hB6.size))
        have hbl7 := Bk.builder_below (.inr hbl6) hb7
        have hbx7 := bk_heap_below hbx6 hb7
        clear d0 d1 d2 d3 d4 d5 d6 d7 d8 hbx6 hb7 hB6 hbl6 hg7
        go_wp2_with fail
        refine (bk_ints_lit B b g7 4 [x.f3, x.f4, x.f5.f0, (x.f5.f1.length : Int)] rfl bs2 v7 (by simp) hl7 hbl7 (Nat.le_trans (Nat.le_of_eq HBE.out) hB7.size) (by simp [o3, o4, o5]; rw [cd_fits]; omega) (by simp; omega)).mono ?_
        rintro e v8 ⟨rfl, hbl8, hb8, hk8⟩
        have hB8 := hB7.trans hb8
        have hbx8 := hk8.kept _ _ _ _ hbx7 (by decide) (by decide)
        clear hl7 hbl7 hB7 hb8 hk8 hbx7
        obtain ⟨bs3, hbs3⟩ : ∃ bs3, bs3 = bs2 ++ [x.f3, x.f4, x.f5.f0, (x.f5.f1.length : Int)].flatMap m_int := ⟨_, rfl⟩
        have hbs3l : bs3.length ≤ 2000000 + 20 + 65546 + 40 := by
          have := cd_flat_len m_int 10 [x.f3, x.f4, x.f5.f0, (x.f5.f1.length : Int)] (fun y _ => cd_int_len y)
          rw [hbs3, List.length_append]; simp only [List.length_cons, List.length_nil] at this; omega
        rw [← hbs3] at hbl8
        have HBS3 := Aside0.mk hbs3
        clear hbs3
        obtain ⟨d0, d1, d2, d3, d4, d5, d6, d7, d8⟩ := bk_Box.of hbx8
        go_wp2_with fail
        refine (bk_ints B b A6 c6 x.f5.f1 bs3 v8 (by omega) (fun w' hb' _ => Kd.C_below HI6.out (hBB w' (hB8.trans hb'))) hbl8 (Nat.le_trans (Nat.le_of_eq HBE.out) hB8.size) O6.out (by omega)).mono ?_
        rintro e v9 ⟨rfl, hbl9, hb9, hk9⟩
        have hB9 := hB8.trans hb9
        have hbx9 := hk9.kept _ _ _ _ hbx8 (by decide) (by decide)
        clear d0 d1 d2 d3 d4 d5 d6 d7 d8 hbl8 hB8 hb9 hk9 hbx8
        obtain ⟨bs4, hbs4⟩ : ∃ bs4, bs4 = bs3 ++ x.f5.f1.flatMap m_int := ⟨_, rfl⟩
        have hbs4l : bs4.length ≤ 2000000 + 20 + 65546 + 40 + 640 := by
          have := cd_flat_len m_int 10 x.f5.f1 (fun y _ => cd_int_len y)
          rw [hbs4, List.length_append]; omega
        rw [← hbs4] at hbl9
        have HBS4 := Aside0.mk hbs4
        clear hbs4
        obtain ⟨d0, d1, d2, d3, d4, d5, d6, d7, d8⟩ := bk_Box.of hbx9
        go_wp2_with (with_reducible refine is_build rfl ?_; refine Rg.stop_here ?_)
        refine ⟨?_⟩
        refine lit_event rfl (N := 66) rfl (cs := #[.int .i64 x.f5.f2, .int .i64 x.f5.f3]) (t := 3) (n := 2) (by first | (go_simp; done) | (go_simp; rfl)) ?_
        intro g10 hg10 v10 hl10 hb10
        have hB10 : Below B w1 v10 := hB9.trans (bk_below_mono hb10 (Nat.le_trans (Nat.le_of_eq HBE.out) hB9.size))
        have hbl10 := Bk.builder_below hbl9 hb10
        clear d0 d1 d2 d3 d4 d5 d6 d7 d8 hbx9 hb10 hB9 hbl9 hg10
        go_wp2_with fail
        refine (bk_ints_lit B b g10 2 [x.f5.f2, x.f5.f3] rfl bs4 v10 (by simp) hl10 hbl10 (Nat.le_trans (Nat.le_of_eq HBE.out) hB10.size) (by simp [o7, o8]) (by simp; omega)).mono ?_
        rintro e v11 ⟨rfl, hbl11, hb11, hk11⟩
        have hB11 := hB10.trans hb11
        go_wp2_with fail
        go_roundw
        case rel => exact ⟨j + 1, by go_num, by omega, by rw [← HT.out, show bs0 ++ m_encB x = bs4 ++ [x.f5.f2, x.f5.f3].flatMap m_int by rw [HBS4.out, HBS3.out, HBS2.out, HBS1.out]; simp [m_encB, m_str]]; exact hbl11, hB11⟩
        case measure => simp [intOf]; omega
      · have hjl : j = l0.length := by omega
        subst hjl
        have hd : decide (((l0.length : Nat) : Int) < (l0.length : Int)) = false := by simp
        rw [List.take_length] at hbl
        go_wp2_with (go_at_call 54; refine (Tryd.Builder_String_any _ _ _ _ hbl (Nat.le_trans (Nat.le_of_eq HBE.out) hB.size)).mono ?_; rintro e w5 ⟨rfl, hb5⟩)
        go_ret2
        exact ⟨rfl, hBB _ (hB.trans hb5)⟩
end Go.Proofs.YtpgjhjlhipikgaaDoor.PK
end
section
namespace Go.Proofs.YtpgjhjlhipikgaaDoor.PK
open Go.RowKit Go.Proofs.YtpgjhjlhipikgaaDoorW.PrintWords Go.Proofs.YtpgjhjlhipikgaaDoorW.PrintLast Go.Proofs.YtpgjhjlhipikgaaDoorW.PrintMore
attribute [local go_sem] max2_int min2_int max_two min_two max_three min_three max_four min_four   -- for this text's walks alone
set_option linter.unusedVariables false
set_option linter.unusedSimpArgs false
mutual
def wire_Int.j0 : Nat → ByteArray → Int → Bool → Option (Int × Int × Int)
  | 0, _, _, _ => none
  | k + 1, x0, x1, x18 => if x18 = true then (some (0, 0, 2)) else (wire_Int.l0 k x0 x1 0 0)
def wire_Int.l0 : Nat → ByteArray → Int → Int → Int → Option (Int × Int × Int)
  | 0, _, _, _, _ => none
  | k + 1, x0, x1, x7, x19 => if x19 < 9 then (if (wrap64 (x1 + x19)) ≥ (x0.size : Int) then (some (0, 0, 10)) else (if 0 ≤ (wrap64 (x1 + x19)) then (if (wrap64 (x1 + x19)) < (x0.size : Int) then (if 0 ≤ (wrap64 (7 * x19)) then (if (bt x0 (wrap64 (x1 + x19))) ≥ 128 then (wire_Int.l0 k x0 x1 (Go.bits .or .u64 x7 (shl .u64 (IntKind.u64.wrap (Go.bits .and .u8 (bt x0 (wrap64 (x1 + x19))) 127)) (wrap64 (7 * x19)))) (wrap64 (x19 + 1))) else (if (bt x0 (wrap64 (x1 + x19))) = 0 then (if x19 > 0 then (some (0, 0, 10)) else (if (Go.bits .xor .i64 (wrap64 ((Go.bits .or .u64 x7 (shl .u64 (IntKind.u64.wrap (Go.bits .and .u8 (bt x0 (wrap64 (x1 + x19))) 127)) (wrap64 (7 * x19)))) / 2)) (wrap64 (-(wrap64 (Go.bits .and .u64 (Go.bits .or .u64 x7 (shl .u64 (IntKind.u64.wrap (Go.bits .and .u8 (bt x0 (wrap64 (x1 + x19))) 127)) (wrap64 (7 * x19)))) 1))))) < (-4611686018427387903) then (some (0, 0, 10)) else (some (Go.bits .xor .i64 (wrap64 ((Go.bits .or .u64 x7 (shl .u64 (IntKind.u64.wrap (Go.bits .and .u8 (bt x0 (wrap64 (x1 + x19))) 127)) (wrap64 (7 * x19)))) / 2)) (wrap64 (-(wrap64 (Go.bits .and .u64 (Go.bits .or .u64 x7 (shl .u64 (IntKind.u64.wrap (Go.bits .and .u8 (bt x0 (wrap64 (x1 + x19))) 127)) (wrap64 (7 * x19)))) 1)))), wrap64 ((wrap64 (x1 + x19)) + 1), 0)))) else (if (Go.bits .xor .i64 (wrap64 ((Go.bits .or .u64 x7 (shl .u64 (IntKind.u64.wrap (Go.bits .and .u8 (bt x0 (wrap64 (x1 + x19))) 127)) (wrap64 (7 * x19)))) / 2)) (wrap64 (-(wrap64 (Go.bits .and .u64 (Go.bits .or .u64 x7 (shl .u64 (IntKind.u64.wrap (Go.bits .and .u8 (bt x0 (wrap64 (x1 + x19))) 127)) (wrap64 (7 * x19)))) 1))))) < (-4611686018427387903) then (some (0, 0, 10)) else (some (Go.bits .xor .i64 (wrap64 ((Go.bits .or .u64 x7 (shl .u64 (IntKind.u64.wrap (Go.bits .and .u8 (bt x0 (wrap64 (x1 + x19))) 127)) (wrap64 (7 * x19)))) / 2)) (wrap64 (-(wrap64 (Go.bits .and .u64 (Go.bits .or .u64 x7 (shl .u64 (IntKind.u64.wrap (Go.bits .and .u8 (bt x0 (wrap64 (x1 + x19))) 127)) (wrap64 (7 * x19)))) 1)))), wrap64 ((wrap64 (x1 + x19)) + 1), 0))))) else (none)) else (none)) else (none))) else (some (0, 0, 10))
end
def wire_Int.f (k : Nat) (a0 : ByteArray) (a1 : Int) : Option (Int × Int × Int) := if a1 < 0 then (wire_Int.j0 k a0 a1 true) else (wire_Int.j0 k a0 a1 (decide (a1 > (a0.size : Int))))
theorem wire_Int.mono_l : ∀ k, (∀ y0 y1 y2, LeO (wire_Int.j0 k y0 y1 y2) (wire_Int.j0 (k + 1) y0 y1 y2)) ∧ (∀ y0 y1 y2 y3, LeO (wire_Int.l0 k y0 y1 y2 y3) (wire_Int.l0 (k + 1) y0 y1 y2 y3))
  | 0 => ⟨fun _ _ _ r h => by simp [wire_Int.j0] at h, fun _ _ _ _ r h => by simp [wire_Int.l0] at h⟩
  | k + 1 => by
    obtain ⟨ih0, ih1⟩ := wire_Int.mono_l k
    refine ⟨?_, ?_⟩
    · intro y0 y1 y2
      unfold wire_Int.j0
      repeat' first
      | (with_reducible exact ih0 _ _ _)
      | (with_reducible exact ih1 _ _ _ _)
      | (with_reducible exact LeO.refl _)
      | (with_reducible exact LeO.none _)
      | (with_reducible refine LeO.ite ?_ ?_)
      | (with_reducible refine LeO.bind ?_ (fun _ => ?_))
      | exact ih0 _ _ _
      | exact ih1 _ _ _ _
      | exact LeO.none _
      | refine LeO.ite ?_ ?_
      | refine LeO.bind ?_ (fun _ => ?_)
    · intro y0 y1 y2 y3
      unfold wire_Int.l0
      repeat' first
      | (with_reducible exact ih0 _ _ _)
      | (with_reducible exact ih1 _ _ _ _)
      | (with_reducible exact LeO.refl _)
      | (with_reducible exact LeO.none _)
      | (with_reducible refine LeO.ite ?_ ?_)
      | (with_reducible refine LeO.bind ?_ (fun _ => ?_))
      | exact ih0 _ _ _
      | exact ih1 _ _ _ _
      | exact LeO.none _
      | refine LeO.ite ?_ ?_
      | refine LeO.bind ?_ (fun _ => ?_)
theorem wire_Int.mono : ∀ a0 a1 k, LeO (wire_Int.f k a0 a1) (wire_Int.f (k + 1) a0 a1) := by
  intro a0 a1 k
  obtain ⟨ih0, ih1⟩ := wire_Int.mono_l k
  unfold wire_Int.f
  repeat' first
      | (with_reducible exact ih0 _ _ _)
      | (with_reducible exact ih1 _ _ _ _)
      | (with_reducible exact LeO.refl _)
      | (with_reducible exact LeO.none _)
      | (with_reducible refine LeO.ite ?_ ?_)
      | (with_reducible refine LeO.bind ?_ (fun _ => ?_))
      | exact ih0 _ _ _
      | exact ih1 _ _ _ _
      | exact LeO.none _
      | refine LeO.ite ?_ ?_
      | refine LeO.bind ?_ (fun _ => ?_)
set_option maxHeartbeats 8000000 in
set_option maxRecDepth 100000 in
theorem wire_Int.calls (k : Nat) (a0 : ByteArray) (a1 : Int) (r1 : Int) (r2 : Int) (r3 : Int) (w : World) (h : wire_Int.f k a0 a1 = some (r1, r2, r3)) :
    Calls Tryd.prog 79 #[.string a0, .int .i64 a1] w fun e w' => e = .returned (.tuple #[.int .i64 r1, .int .i64 r2, .int .i64 r3]) ∧ Drawn0 w w' := by
  have H : (if a1 < 0 then (wire_Int.j0 k a0 a1 true) else (wire_Int.j0 k a0 a1 (decide (a1 > (a0.size : Int))))) = some (r1, r2, r3) := h
  clear h
  have HC3 := Aside0.mk H
  clear H
  go_enter Tryd.func79, Tryd.ntmps79
  go_upto_region 1 with (fail)
  go_cut [18] (fun v18 wc => ∃ (kq : Nat) (x18_2 : Bool), v18 = .bool x18_2 ∧ Aside0 (wire_Int.j0 kq a0 a1 x18_2 = some (r1, r2, r3)) ∧ Aside0 (kq ≤ k) ∧ Drawn0 w wc)
  case first =>
    have H := HC3.out
    clear HC3
    by_cases c4 : a1 < 0
    · rw [if_pos c4] at H
      have c4b0 : decide (a1 < 0) = true := decide_eq_true c4
      clear c4
      (first | rw [c4b0] | (simp only [i64_w, i32_w]; rw [c4b0]) | skip)
      have H' := Aside0.mk H
      clear H
      go_wp2
      go_meet
      case rel => exact ⟨_, (true), (by first | rfl | (simp; done) | (simp [*]; done)), H', ⟨by first | omega | exact Nat.le_refl _⟩, by repeat (first | exact Drawn0.refl _ | apply Drawn0.step)⟩
    · rw [if_neg c4] at H
      have c4b0 : decide (a1 < 0) = false := decide_eq_false c4
      clear c4
      (first | rw [c4b0] | (simp only [i64_w, i32_w]; rw [c4b0]) | skip)
      have H' := Aside0.mk H
      clear H
      go_wp2
      go_meet
      case rel => exact ⟨_, (decide (a1 > (a0.size : Int))), (by first | rfl | (simp; done) | (simp [*]; done)), H', ⟨by first | omega | exact Nat.le_refl _⟩, by repeat (first | exact Drawn0.refl _ | apply Drawn0.step)⟩
  case rest =>
    clear HC3
    try clear p2
    try clear c4
    try clear c4b0
    obtain ⟨kq, x18_2, rfl, HA, HJ2, ⟨mc2, rfl⟩⟩ := hcut
    cases kq with
    | zero => exact absurd HA.out (by simp [wire_Int.j0])
    | succ kj2 =>
      have H := HA.out
      clear HA
      simp only [wire_Int.j0] at H
      by_cases c5 : x18_2 = true
      · subst c5
        have H1 : (some (0, 0, 2)) = some (r1, r2, r3) := by rw [if_pos rfl] at H; exact H
        clear H
        have H := H1
        clear H1
        simp only [Option.some.injEq, Prod.mk.injEq] at H
        obtain ⟨rfl, rfl, rfl⟩ := H
        go_wp2
        go_ret3
        exact ⟨by first | rfl | (simp; done) | (simp [*]; done), by repeat (first | exact Drawn0.refl _ | apply Drawn0.step)⟩
      · replace c5 := Bool.eq_false_iff.mpr c5
        subst c5
        have H1 : (wire_Int.l0 kj2 a0 a1 0 0) = some (r1, r2, r3) := by rw [if_neg (show ¬ (false = true) by decide)] at H; exact H
        clear H
        have H := H1
        clear H1
        have H' := Aside0.mk H
        clear H
        go_wp2
        go_loopg [7, 19] kj2 (fun kq v7 v19 w' => ∃ (x7_2 : Int) (x19_2 : Int), v7 = .int .u64 x7_2 ∧ v19 = .int .i64 x19_2 ∧ Aside0 (wire_Int.l0 kq a0 a1 x7_2 x19_2 = some (r1, r2, r3)) ∧ Aside0 (kq ≤ kj2) ∧ Drawn0 w w')
        case atStart => exact ⟨(0), (0), (by first | rfl | (simp; done) | (simp [*]; done)), (by first | rfl | (simp; done) | (simp [*]; done)), H', ⟨Nat.le_refl _⟩, by repeat (first | exact Drawn0.refl _ | apply Drawn0.step)⟩
        case round =>
          clear H'
          try clear c2
          try clear p2
          try clear c4
          try clear c4b0
          try clear c5
          try clear p2
          obtain ⟨x7_2, x19_2, rfl, rfl, HA, HK2, ⟨m2, rfl⟩⟩ := hrel
          cases gk with
          | zero => exact absurd HA.out (by simp [wire_Int.l0])
          | succ k2 =>
            have H := HA.out
            clear HA
            simp only [wire_Int.l0] at H
            by_cases c6 : x19_2 < 9
            · rw [if_pos c6] at H
              have c6b0 : decide (x19_2 < 9) = true := decide_eq_true c6
              clear c6
              by_cases c7 : (wrap64 (a1 + x19_2)) ≥ (a0.size : Int)
              · rw [if_pos c7] at H
                have c7b0 : decide ((a0.size : Int) ≤ (wrap64 (a1 + x19_2))) = true := decide_eq_true c7
                clear c7
                simp only [Option.some.injEq, Prod.mk.injEq] at H
                obtain ⟨rfl, rfl, rfl⟩ := H
                go_wp2
                go_ret3
                exact ⟨by first | rfl | (simp; done) | (simp [*]; done), by repeat (first | exact Drawn0.refl _ | apply Drawn0.step)⟩
              · rw [if_neg c7] at H
                have c7b0 : decide ((a0.size : Int) ≤ (wrap64 (a1 + x19_2))) = false := decide_eq_false c7
                clear c7
                obtain ⟨ji8, hji8⟩ : ∃ j_ : Int, (wrap64 (a1 + x19_2)) = j_ := ⟨_, rfl⟩
                replace H : (if 0 ≤ (ji8) then (if (ji8) < (a0.size : Int) then (if 0 ≤ (wrap64 (7 * x19_2)) then (if (bt a0 (ji8)) ≥ 128 then (wire_Int.l0 k2 a0 a1 (Go.bits .or .u64 x7_2 (shl .u64 (IntKind.u64.wrap (Go.bits .and .u8 (bt a0 (ji8)) 127)) (wrap64 (7 * x19_2)))) (wrap64 (x19_2 + 1))) else (if (bt a0 (ji8)) = 0 then (if x19_2 > 0 then (some (0, 0, 10)) else (if (Go.bits .xor .i64 (wrap64 ((Go.bits .or .u64 x7_2 (shl .u64 (IntKind.u64.wrap (Go.bits .and .u8 (bt a0 (ji8)) 127)) (wrap64 (7 * x19_2)))) / 2)) (wrap64 (-(wrap64 (Go.bits .and .u64 (Go.bits .or .u64 x7_2 (shl .u64 (IntKind.u64.wrap (Go.bits .and .u8 (bt a0 (ji8)) 127)) (wrap64 (7 * x19_2)))) 1))))) < (-4611686018427387903) then (some (0, 0, 10)) else (some (Go.bits .xor .i64 (wrap64 ((Go.bits .or .u64 x7_2 (shl .u64 (IntKind.u64.wrap (Go.bits .and .u8 (bt a0 (ji8)) 127)) (wrap64 (7 * x19_2)))) / 2)) (wrap64 (-(wrap64 (Go.bits .and .u64 (Go.bits .or .u64 x7_2 (shl .u64 (IntKind.u64.wrap (Go.bits .and .u8 (bt a0 (ji8)) 127)) (wrap64 (7 * x19_2)))) 1)))), wrap64 ((ji8) + 1), 0)))) else (if (Go.bits .xor .i64 (wrap64 ((Go.bits .or .u64 x7_2 (shl .u64 (IntKind.u64.wrap (Go.bits .and .u8 (bt a0 (ji8)) 127)) (wrap64 (7 * x19_2)))) / 2)) (wrap64 (-(wrap64 (Go.bits .and .u64 (Go.bits .or .u64 x7_2 (shl .u64 (IntKind.u64.wrap (Go.bits .and .u8 (bt a0 (ji8)) 127)) (wrap64 (7 * x19_2)))) 1))))) < (-4611686018427387903) then (some (0, 0, 10)) else (some (Go.bits .xor .i64 (wrap64 ((Go.bits .or .u64 x7_2 (shl .u64 (IntKind.u64.wrap (Go.bits .and .u8 (bt a0 (ji8)) 127)) (wrap64 (7 * x19_2)))) / 2)) (wrap64 (-(wrap64 (Go.bits .and .u64 (Go.bits .or .u64 x7_2 (shl .u64 (IntKind.u64.wrap (Go.bits .and .u8 (bt a0 (ji8)) 127)) (wrap64 (7 * x19_2)))) 1)))), wrap64 ((ji8) + 1), 0))))) else (none)) else (none)) else (none)) = some (r1, r2, r3) := by first | (rw [hji8] at H; exact H) | (simp only [hji8] at H ⊢; exact H)
                (try rw [hji8] at c7b0)
                have hji8w : (IntKind.i64.wrap (a1 + x19_2)) = ji8 := (i64_w _).trans hji8
                by_cases c9 : 0 ≤ (ji8)
                · rw [if_pos c9] at H
                  have c9b0 : decide (0 ≤ (ji8)) = true := decide_eq_true c9
                  clear c9
                  by_cases c10 : (ji8) < (a0.size : Int)
                  · rw [if_pos c10] at H
                    have c10b0 : decide ((ji8) < (a0.size : Int)) = true := decide_eq_true c10
                    clear c10
                    obtain ⟨ji12, hji12⟩ : ∃ j_ : Int, (wrap64 (7 * x19_2)) = j_ := ⟨_, rfl⟩
                    replace H : (if 0 ≤ (ji12) then (if (bt a0 (ji8)) ≥ 128 then (wire_Int.l0 k2 a0 a1 (Go.bits .or .u64 x7_2 (shl .u64 (IntKind.u64.wrap (Go.bits .and .u8 (bt a0 (ji8)) 127)) (ji12))) (wrap64 (x19_2 + 1))) else (if (bt a0 (ji8)) = 0 then (if x19_2 > 0 then (some (0, 0, 10)) else (if (Go.bits .xor .i64 (wrap64 ((Go.bits .or .u64 x7_2 (shl .u64 (IntKind.u64.wrap (Go.bits .and .u8 (bt a0 (ji8)) 127)) (ji12))) / 2)) (wrap64 (-(wrap64 (Go.bits .and .u64 (Go.bits .or .u64 x7_2 (shl .u64 (IntKind.u64.wrap (Go.bits .and .u8 (bt a0 (ji8)) 127)) (ji12))) 1))))) < (-4611686018427387903) then (some (0, 0, 10)) else (some (Go.bits .xor .i64 (wrap64 ((Go.bits .or .u64 x7_2 (shl .u64 (IntKind.u64.wrap (Go.bits .and .u8 (bt a0 (ji8)) 127)) (ji12))) / 2)) (wrap64 (-(wrap64 (Go.bits .and .u64 (Go.bits .or .u64 x7_2 (shl .u64 (IntKind.u64.wrap (Go.bits .and .u8 (bt a0 (ji8)) 127)) (ji12))) 1)))), wrap64 ((ji8) + 1), 0)))) else (if (Go.bits .xor .i64 (wrap64 ((Go.bits .or .u64 x7_2 (shl .u64 (IntKind.u64.wrap (Go.bits .and .u8 (bt a0 (ji8)) 127)) (ji12))) / 2)) (wrap64 (-(wrap64 (Go.bits .and .u64 (Go.bits .or .u64 x7_2 (shl .u64 (IntKind.u64.wrap (Go.bits .and .u8 (bt a0 (ji8)) 127)) (ji12))) 1))))) < (-4611686018427387903) then (some (0, 0, 10)) else (some (Go.bits .xor .i64 (wrap64 ((Go.bits .or .u64 x7_2 (shl .u64 (IntKind.u64.wrap (Go.bits .and .u8 (bt a0 (ji8)) 127)) (ji12))) / 2)) (wrap64 (-(wrap64 (Go.bits .and .u64 (Go.bits .or .u64 x7_2 (shl .u64 (IntKind.u64.wrap (Go.bits .and .u8 (bt a0 (ji8)) 127)) (ji12))) 1)))), wrap64 ((ji8) + 1), 0))))) else (none)) = some (r1, r2, r3) := by first | (rw [hji12] at H; exact H) | (simp only [hji12] at H ⊢; exact H)
                    have hji12w : (IntKind.i64.wrap (7 * x19_2)) = ji12 := (i64_w _).trans hji12
                    by_cases c13 : 0 ≤ (ji12)
                    · rw [if_pos c13] at H
                      have c13b0 := eq_true c13
                      have c13b1 : decide (0 ≤ (ji12)) = true := decide_eq_true c13
                      clear c13
                      obtain ⟨ji14, hji14⟩ : ∃ j_ : Int, (shl .u64 (IntKind.u64.wrap (Go.bits .and .u8 (bt a0 (ji8)) 127)) (ji12)) = j_ := ⟨_, rfl⟩
                      replace H : (if (bt a0 (ji8)) ≥ 128 then (wire_Int.l0 k2 a0 a1 (Go.bits .or .u64 x7_2 (ji14)) (wrap64 (x19_2 + 1))) else (if (bt a0 (ji8)) = 0 then (if x19_2 > 0 then (some (0, 0, 10)) else (if (Go.bits .xor .i64 (wrap64 ((Go.bits .or .u64 x7_2 (ji14)) / 2)) (wrap64 (-(wrap64 (Go.bits .and .u64 (Go.bits .or .u64 x7_2 (ji14)) 1))))) < (-4611686018427387903) then (some (0, 0, 10)) else (some (Go.bits .xor .i64 (wrap64 ((Go.bits .or .u64 x7_2 (ji14)) / 2)) (wrap64 (-(wrap64 (Go.bits .and .u64 (Go.bits .or .u64 x7_2 (ji14)) 1)))), wrap64 ((ji8) + 1), 0)))) else (if (Go.bits .xor .i64 (wrap64 ((Go.bits .or .u64 x7_2 (ji14)) / 2)) (wrap64 (-(wrap64 (Go.bits .and .u64 (Go.bits .or .u64 x7_2 (ji14)) 1))))) < (-4611686018427387903) then (some (0, 0, 10)) else (some (Go.bits .xor .i64 (wrap64 ((Go.bits .or .u64 x7_2 (ji14)) / 2)) (wrap64 (-(wrap64 (Go.bits .and .u64 (Go.bits .or .u64 x7_2 (ji14)) 1)))), wrap64 ((ji8) + 1), 0))))) = some (r1, r2, r3) := by first | (rw [hji14] at H; exact H) | (simp only [hji14] at H ⊢; exact H)
                      have hji14_ : (IntKind.u64.wrap ((IntKind.u64.wrap (Go.bits .and .u8 (bt a0 (ji8)) 127)) * 2 ^ min (ji12).toNat 64)) = ji14 := hji14
                      have hji14z : (ji12) ≤ 64 → (IntKind.u64.wrap ((IntKind.u64.wrap (Go.bits .and .u8 (bt a0 (ji8)) 127)) * 2 ^ (ji12).toNat)) = ji14 := shl_small hji14
                      by_cases c15 : (bt a0 (ji8)) ≥ 128
                      · rw [if_pos c15] at H
                        have c15b0 : decide (128 ≤ (bt a0 (ji8))) = true := decide_eq_true c15
                        clear c15
                        have H' := Aside0.mk H
                        clear H
                        have p11 : 0 ≤ ((ji8) : Int) := of_decide_eq_true (by first | (with_reducible assumption) | assumption)
                        have q11 : (ji8) < (a0.size : Int) := of_decide_eq_true (by first | (with_reducible assumption) | assumption)
                        have hx11 := bt_at a0 (ji8)
                        replace p11 := eq_true p11
                        replace q11 := eq_true q11
                        go_wp2
                        go_roundg k2
                        case measure => have := HJ2.out; have := HK2.out; omega
                        case rel => exact ⟨(Go.bits .or .u64 x7_2 (ji14)), (wrap64 (x19_2 + 1)), (by first | rfl | (simp; done) | (simp only [← hji14] <;> (first | rfl | simp)) | (simp [*]; done)), (by first | rfl | (simp; done) | (simp [*]; done)), H', ⟨by have := HJ2.out; have := HK2.out; omega⟩, by repeat (first | exact Drawn0.refl _ | apply Drawn0.step)⟩
                      · rw [if_neg c15] at H
                        have c15b0 : decide (128 ≤ (bt a0 (ji8))) = false := decide_eq_false c15
                        clear c15
                        by_cases c16 : (bt a0 (ji8)) = 0
                        · rw [if_pos c16] at H
                          have c16b0 : ((bt a0 (ji8)) == 0) = true := beq_iff_eq.mpr c16
                          have c16b1 : ((bt a0 (ji8)) != 0) = false := bne_eq_false_iff_eq.mpr c16
                          clear c16
                          by_cases c17 : x19_2 > 0
                          · rw [if_pos c17] at H
                            have c17b0 : decide (0 < x19_2) = true := decide_eq_true c17
                            clear c17
                            simp only [Option.some.injEq, Prod.mk.injEq] at H
                            obtain ⟨rfl, rfl, rfl⟩ := H
                            have p11 : 0 ≤ ((ji8) : Int) := of_decide_eq_true (by first | (with_reducible assumption) | assumption)
                            have q11 : (ji8) < (a0.size : Int) := of_decide_eq_true (by first | (with_reducible assumption) | assumption)
                            have hx11 := bt_at a0 (ji8)
                            replace p11 := eq_true p11
                            replace q11 := eq_true q11
                            go_wp2
                            go_ret3
                            exact ⟨by first | rfl | (simp; done) | (simp only [← hji8, ← hji12, ← hji14] <;> (first | rfl | simp)) | (simp [*]; done), by repeat (first | exact Drawn0.refl _ | apply Drawn0.step)⟩
                          · rw [if_neg c17] at H
                            have c17b0 : decide (0 < x19_2) = false := decide_eq_false c17
                            clear c17
                            by_cases c18 : (Go.bits .xor .i64 (wrap64 ((Go.bits .or .u64 x7_2 (ji14)) / 2)) (wrap64 (-(wrap64 (Go.bits .and .u64 (Go.bits .or .u64 x7_2 (ji14)) 1))))) < (-4611686018427387903)
                            · rw [if_pos c18] at H
                              have c18b0 : decide ((Go.bits .xor .i64 (wrap64 ((Go.bits .or .u64 x7_2 (ji14)) / 2)) (wrap64 (-(wrap64 (Go.bits .and .u64 (Go.bits .or .u64 x7_2 (ji14)) 1))))) < (-4611686018427387903)) = true := decide_eq_true c18
                              clear c18
                              simp only [Option.some.injEq, Prod.mk.injEq] at H
                              obtain ⟨rfl, rfl, rfl⟩ := H
                              have p11 : 0 ≤ ((ji8) : Int) := of_decide_eq_true (by first | (with_reducible assumption) | assumption)
                              have q11 : (ji8) < (a0.size : Int) := of_decide_eq_true (by first | (with_reducible assumption) | assumption)
                              have hx11 := bt_at a0 (ji8)
                              replace p11 := eq_true p11
                              replace q11 := eq_true q11
                              go_wp2
                              go_ret3
                              exact ⟨by first | rfl | (simp; done) | (simp only [← hji8, ← hji12, ← hji14] <;> (first | rfl | simp)) | (simp [*]; done), by repeat (first | exact Drawn0.refl _ | apply Drawn0.step)⟩
                            · rw [if_neg c18] at H
                              have c18b0 : decide ((Go.bits .xor .i64 (wrap64 ((Go.bits .or .u64 x7_2 (ji14)) / 2)) (wrap64 (-(wrap64 (Go.bits .and .u64 (Go.bits .or .u64 x7_2 (ji14)) 1))))) < (-4611686018427387903)) = false := decide_eq_false c18
                              clear c18
                              simp only [Option.some.injEq, Prod.mk.injEq] at H
                              obtain ⟨rfl, rfl, rfl⟩ := H
                              have p11 : 0 ≤ ((ji8) : Int) := of_decide_eq_true (by first | (with_reducible assumption) | assumption)
                              have q11 : (ji8) < (a0.size : Int) := of_decide_eq_true (by first | (with_reducible assumption) | assumption)
                              have hx11 := bt_at a0 (ji8)
                              replace p11 := eq_true p11
                              replace q11 := eq_true q11
                              go_wp2
                              go_ret3
                              exact ⟨by first | rfl | (simp; done) | (simp only [← hji8, ← hji12, ← hji14] <;> (first | rfl | simp)) | (simp [*]; done), by repeat (first | exact Drawn0.refl _ | apply Drawn0.step)⟩
                        · rw [if_neg c16] at H
                          have c16b0 : ((bt a0 (ji8)) == 0) = false := beq_eq_false_iff_ne.mpr c16
                          have c16b1 : ((bt a0 (ji8)) != 0) = true := bne_iff_ne.mpr c16
                          by_cases c19 : (Go.bits .xor .i64 (wrap64 ((Go.bits .or .u64 x7_2 (ji14)) / 2)) (wrap64 (-(wrap64 (Go.bits .and .u64 (Go.bits .or .u64 x7_2 (ji14)) 1))))) < (-4611686018427387903)
                          · rw [if_pos c19] at H
                            have c19b0 : decide ((Go.bits .xor .i64 (wrap64 ((Go.bits .or .u64 x7_2 (ji14)) / 2)) (wrap64 (-(wrap64 (Go.bits .and .u64 (Go.bits .or .u64 x7_2 (ji14)) 1))))) < (-4611686018427387903)) = true := decide_eq_true c19
                            clear c19
                            simp only [Option.some.injEq, Prod.mk.injEq] at H
                            obtain ⟨rfl, rfl, rfl⟩ := H
                            have p11 : 0 ≤ ((ji8) : Int) := of_decide_eq_true (by first | (with_reducible assumption) | assumption)
                            have q11 : (ji8) < (a0.size : Int) := of_decide_eq_true (by first | (with_reducible assumption) | assumption)
                            have hx11 := bt_at a0 (ji8)
                            replace p11 := eq_true p11
                            replace q11 := eq_true q11
                            go_wp2
                            go_ret3
                            exact ⟨by first | rfl | (simp; done) | (simp only [← hji8, ← hji12, ← hji14] <;> (first | rfl | simp)) | (simp [*]; done), by repeat (first | exact Drawn0.refl _ | apply Drawn0.step)⟩
                          · rw [if_neg c19] at H
                            have c19b0 : decide ((Go.bits .xor .i64 (wrap64 ((Go.bits .or .u64 x7_2 (ji14)) / 2)) (wrap64 (-(wrap64 (Go.bits .and .u64 (Go.bits .or .u64 x7_2 (ji14)) 1))))) < (-4611686018427387903)) = false := decide_eq_false c19
                            clear c19
                            simp only [Option.some.injEq, Prod.mk.injEq] at H
                            obtain ⟨rfl, rfl, rfl⟩ := H
                            have p11 : 0 ≤ ((ji8) : Int) := of_decide_eq_true (by first | (with_reducible assumption) | assumption)
                            have q11 : (ji8) < (a0.size : Int) := of_decide_eq_true (by first | (with_reducible assumption) | assumption)
                            have hx11 := bt_at a0 (ji8)
                            replace p11 := eq_true p11
                            replace q11 := eq_true q11
                            go_wp2
                            go_ret3
                            exact ⟨by first | rfl | (simp; done) | (simp only [← hji8, ← hji12, ← hji14] <;> (first | rfl | simp)) | (simp [*]; done), by repeat (first | exact Drawn0.refl _ | apply Drawn0.step)⟩
                    · rw [if_neg c13] at H
                      exact absurd H (by simp)
                  · rw [if_neg c10] at H
                    exact absurd H (by simp)
                · rw [if_neg c9] at H
                  exact absurd H (by simp)
            · rw [if_neg c6] at H
              have c6b0 : decide (x19_2 < 9) = false := decide_eq_false c6
              clear c6
              simp only [Option.some.injEq, Prod.mk.injEq] at H
              obtain ⟨rfl, rfl, rfl⟩ := H
              go_wp2
              go_ret3
              exact ⟨by first | rfl | (simp; done) | (simp [*]; done), by repeat (first | exact Drawn0.refl _ | apply Drawn0.step)⟩
end Go.Proofs.YtpgjhjlhipikgaaDoor.PK
end
section
namespace Go.Proofs.YtpgjhjlhipikgaaDoor.PK
open Go.RowKit Go.Proofs.YtpgjhjlhipikgaaDoorW.PrintWords Go.Proofs.YtpgjhjlhipikgaaDoorW.PrintLast Go.Proofs.YtpgjhjlhipikgaaDoorW.PrintMore
attribute [local go_sem] max2_int min2_int max_two min_two max_three min_three max_four min_four   -- for this text's walks alone
set_option linter.unusedVariables false
set_option linter.unusedSimpArgs false
theorem pl_unzig (z : Nat) (hz : z < 9223372036854775808) : Go.bits .xor .i64 (wrap64 ((z : Int) / 2)) (wrap64 (-(wrap64 (Go.bits .and .u64 (z : Int) 1)))) = m_unzig z := by
  rw [Go.Lib.u64_and1 _ (by omega) (by omega)]
  have hw : wrap64 ((z : Int) / 2) = ((z / 2 : Nat) : Int) := by unfold wrap64; omega
  rw [hw]
  unfold m_unzig
  by_cases h : z % 2 = 1
  · rw [if_pos h, show wrap64 (-(wrap64 ((z : Int) % 2))) = -1 by unfold wrap64; omega]
    have hc : Go.bits .xor .i64 (((z / 2 : Nat) : Int)) (-1) = Go.bits .xor .i64 (-1) (((z / 2 : Nat) : Int)) := by
      show IntKind.i64.wrap ((BitVec.ofInt 64 ((z / 2 : Nat) : Int) ^^^ BitVec.ofInt 64 (-1)).toNat : Int) = IntKind.i64.wrap ((BitVec.ofInt 64 (-1) ^^^ BitVec.ofInt 64 ((z / 2 : Nat) : Int)).toNat : Int)
      rw [BitVec.xor_comm]
    rw [hc, Go.Lib.i64_not _ (by omega)]
  · rw [if_neg h, show wrap64 (-(wrap64 ((z : Int) % 2))) = 0 by unfold wrap64; omega]
    show IntKind.i64.wrap ((BitVec.ofInt 64 ((z / 2 : Nat) : Int) ^^^ BitVec.ofInt 64 0).toNat : Int) = _
    rw [show BitVec.ofInt 64 0 = 0#64 from rfl, BitVec.xor_zero, BitVec.ofInt_natCast, BitVec.toNat_ofNat, Nat.mod_eq_of_lt (by omega), IntKind.wrap_i64]
    omega
def pl_ans (s : ByteArray) (o : Option (Nat × List UInt8)) : Option (Int × Int × Int) := match o with
  | none => some (0, 0, 10)
  | some (z, r) => if m_unzig z < -4611686018427387903 then some (0, 0, 10) else some (m_unzig z, (s.size : Int) - (r.length : Int), 0)
theorem pl_or (z b t : Nat) (hz : z < 2 ^ (7 * t)) (hb : b < 128) (ht : t ≤ 8) (x : Int) (hx : x = (b : Int)) : Go.bits .or .u64 (z : Int) (shl .u64 (IntKind.u64.wrap x) (wrap64 (7 * (t : Int)))) = ((z + b * 2 ^ (7 * t) : Nat) : Int) := by
  have hw : wrap64 (7 * (t : Int)) = ((7 * t : Nat) : Int) := by unfold wrap64; omega
  have hp : b * 2 ^ (7 * t) < 9223372036854775808 := by
    have h1 : b * 2 ^ (7 * t) < 128 * 2 ^ (7 * t) := Nat.mul_lt_mul_of_pos_right hb (Nat.two_pow_pos _)
    have h2 : 2 ^ (7 * t) ≤ 2 ^ 56 := Nat.pow_le_pow_right (by decide) (by omega)
    have h3 : (2 : Nat) ^ 56 = 72057594037927936 := by decide
    omega
  have hs : shl .u64 (IntKind.u64.wrap x) (wrap64 (7 * (t : Int))) = ((b * 2 ^ (7 * t) : Nat) : Int) := by
    unfold shl
    rw [hw, hx, wraps_u64 (b : Int) (by omega) (by omega), Int.toNat_natCast, show min (7 * t) (IntKind.u64.bits) = 7 * t from Nat.min_eq_left (by show 7 * t ≤ 64; omega), show (b : Int) * 2 ^ (7 * t) = ((b * 2 ^ (7 * t) : Nat) : Int) by push_cast; rfl, wraps_u64 _ (by omega) (by omega)]
  have hzi : (z : Int) < 2 ^ (7 * t) := by exact_mod_cast hz
  have h64 : z < 18446744073709551616 := by
    have h2 : 2 ^ (7 * t) ≤ 2 ^ 56 := Nat.pow_le_pow_right (by decide) (by omega)
    have h3 : (2 : Nat) ^ 56 = 72057594037927936 := by decide
    omega
  have hzj : (z : Int) < 2 ^ 64 := by
    have : (2 : Int) ^ 64 = 18446744073709551616 := by decide
    omega
  have hbj : ((b * 2 ^ (7 * t) : Nat) : Int) < 2 ^ 64 := by
    have : (2 : Int) ^ 64 = 18446744073709551616 := by decide
    omega
  have hbm : ((b * 2 ^ (7 * t) : Nat) : Int) % 2 ^ (7 * t) = 0 := by
    rw [show ((b * 2 ^ (7 * t) : Nat) : Int) = (b : Int) * 2 ^ (7 * t) by push_cast; rfl]; exact Int.mul_emod_left _ _
  rw [hs, bits_join_low .u64 64 (by decide) wraps_u64 (7 * t) (z : Int) _ (by omega) hzi hzj (by omega) hbm hbj]
  push_cast
  rfl
theorem pl_step (s : ByteArray) (i z x b I Z U W7 : Int) (k : Nat) (h1 : x < 9) (hw : wrap64 (i + x) = I) (h2 : ¬ I ≥ (s.size : Int)) (h3 : 0 ≤ I) (h4 : I < (s.size : Int)) (hw7 : wrap64 (7 * x) = W7) (h5 : 0 ≤ W7) (hb : bt s I = b)
    (hZ : Go.bits .or .u64 z (shl .u64 (IntKind.u64.wrap (Go.bits .and .u8 b 127)) W7) = Z) :
    wire_Int.l0 (k + 1) s i z x = if b ≥ 128 then wire_Int.l0 k s i Z (wrap64 (x + 1)) else if b = 0 then (if x > 0 then some (0, 0, 10) else (if (Go.bits .xor .i64 (wrap64 (Z / 2)) (wrap64 (-(wrap64 (Go.bits .and .u64 Z 1))))) < (-4611686018427387903) then some (0, 0, 10) else some (Go.bits .xor .i64 (wrap64 (Z / 2)) (wrap64 (-(wrap64 (Go.bits .and .u64 Z 1)))), wrap64 (I + 1), 0)))
      else (if (Go.bits .xor .i64 (wrap64 (Z / 2)) (wrap64 (-(wrap64 (Go.bits .and .u64 Z 1))))) < (-4611686018427387903) then some (0, 0, 10) else some (Go.bits .xor .i64 (wrap64 (Z / 2)) (wrap64 (-(wrap64 (Go.bits .and .u64 Z 1)))), wrap64 (I + 1), 0)) := by
  rw [wire_Int.l0, if_pos h1, hw, if_neg h2, if_pos h3, if_pos h4, hw7, if_pos h5, hb, hZ]
theorem pl_end (s : ByteArray) (i z x I : Int) (k : Nat) (h1 : x < 9) (hw : wrap64 (i + x) = I) (h2 : I ≥ (s.size : Int)) : wire_Int.l0 (k + 1) s i z x = some (0, 0, 10) := by
  rw [wire_Int.l0, if_pos h1, hw, if_pos h2]
theorem pl_none (s : ByteArray) (i z x : Int) (k : Nat) (h1 : ¬ x < 9) : wire_Int.l0 (k + 1) s i z x = some (0, 0, 10) := by
  rw [wire_Int.l0, if_neg h1]
theorem pl_pow (t : Nat) (ht : t ≤ 8) : 2 ^ (7 * t) ≤ 72057594037927936 := Nat.le_trans (Nat.pow_le_pow_right (by decide) (by omega : 7 * t ≤ 56)) (by decide)
theorem pl_mapped (z c t P : Nat) (hP : P = 2 ^ (7 * t)) (hc : 128 ≤ c) (hc2 : c < 256) (p : Nat) : z + c % 128 * P + p * 2 ^ (7 * (t + 1)) = z + (c - 128 + 128 * p) * P := by
  rw [show c % 128 = c - 128 by omega, show 7 * (t + 1) = 7 * t + 7 by omega, Nat.pow_add, ← hP, Nat.add_mul, Nat.add_assoc, show p * (P * 2 ^ 7) = 128 * p * P by rw [Nat.mul_comm P, ← Nat.mul_assoc, Nat.mul_comm p]]
theorem pl_lt1 (z c t : Nat) (hz : z < 2 ^ (7 * t)) (hc : c < 128) : z + c * 2 ^ (7 * t) < 2 ^ (7 * (t + 1)) := by
  rw [show 7 * (t + 1) = 7 * t + 7 by omega, Nat.pow_add]
  have : c * 2 ^ (7 * t) ≤ 127 * 2 ^ (7 * t) := Nat.mul_le_mul_right _ (by omega)
  omega
theorem pl_lt2 (z c t : Nat) (hz : z < 2 ^ (7 * t)) (hc : c < 128) (ht : t ≤ 8) : z + c * 2 ^ (7 * t) < 9223372036854775808 := by
  have a1 : c * 2 ^ (7 * t) ≤ 127 * 2 ^ (7 * t) := Nat.mul_le_mul_right _ (by omega)
  have a2 := pl_pow t ht
  omega
theorem pl_w1 (n : Nat) (h : n ≤ 2000000000) : wrap64 ((n : Int) + 1) = ((n + 1 : Nat) : Int) := by unfold wrap64; omega
theorem pl_wadd (i t : Nat) (hi : i ≤ 1000000000) (ht : t ≤ 9) : wrap64 ((i : Int) + (t : Int)) = ((i + t : Nat) : Int) := by unfold wrap64; omega
theorem pl_w7 (t : Nat) (ht : t ≤ 9) : wrap64 (7 * (t : Int)) = ((7 * t : Nat) : Int) := by unfold wrap64; omega
theorem pl_rdz_cons (d t : Nat) (c : UInt8) (l : List UInt8) : m_rdz (d + 1) t (c :: l) = if 128 ≤ c.toNat then (m_rdz d (t + 1) l).map (fun p => (c.toNat - 128 + 128 * p.1, p.2)) else if c.toNat = 0 ∧ 0 < t then none else some (c.toNat, l) := rfl
theorem pl_and (c : UInt8) : Go.bits .and .u8 (c.toNat : Int) 127 = ((c.toNat % 128 : Nat) : Int) := by
  have hc8 : c.toNat < 256 := c.toNat_lt
  rw [Go.u8_and127 _ (by omega) (by omega)]; omega
theorem pl_byte (s : ByteArray) (n : Nat) (h : n < s.size) : ∃ c : UInt8, bk_rest s n = c :: bk_rest s (n + 1) ∧ bt s (n : Int) = (c.toNat : Int) := by
  obtain ⟨c, hc⟩ : ∃ c, s.data.toList[n]? = some c := ⟨_, List.getElem?_eq_getElem (by rw [Array.length_toList]; exact h)⟩
  obtain ⟨h1, h2⟩ := List.getElem?_eq_some_iff.1 hc
  refine ⟨c, ?_, ?_⟩
  · show s.data.toList.drop n = _
    rw [List.drop_eq_getElem_cons h1, h2]
  · unfold bt
    rw [dif_pos (by rw [Int.toNat_natCast]; exact h)]
    simp only [Int.toNat_natCast]
    rw [← h2]
    rfl
theorem pl_int_end (s : ByteArray) (n : Nat) (h : n ≤ s.size) : (s.size : Int) - ((bk_rest s n).length : Int) = (n : Int) := by rw [bk_rest_len]; omega
set_option maxHeartbeats 1000000 in
theorem pl_int (s : ByteArray) (i : Nat) (hs : s.size ≤ 1000000000) (hi : i ≤ s.size) : ∀ (d k t z : Nat), t + d = 9 → d < k → z < 2 ^ (7 * t) →
    wire_Int.l0 k s (i : Int) (z : Int) (t : Int) = pl_ans s ((m_rdz d t (bk_rest s (i + t))).map (fun p => (z + p.1 * 2 ^ (7 * t), p.2)))
  | 0, k, t, z, ht, hk, hz => by
    obtain ⟨k, rfl⟩ : ∃ j, k = j + 1 := ⟨k - 1, by omega⟩
    rw [pl_none _ _ _ _ _ (by omega)]; rfl
  | d + 1, k, t, z, ht, hk, hz => by
    obtain ⟨k, rfl⟩ : ∃ j, k = j + 1 := ⟨k - 1, by omega⟩
    have HZ := Aside0.mk hz
    clear hz
    have ht9 : (t : Int) < 9 := by omega
    have ht8 : t ≤ 8 := by omega
    have hkd : d < k := by omega
    have htd : t + 1 + d = 9 := by omega
    have hw := pl_wadd i t (Nat.le_trans hi hs) (Nat.le_succ_of_le ht8)
    by_cases hlt : i + t < s.size
    · obtain ⟨c, hrest, hbt⟩ := pl_byte s (i + t) hlt
      have hc8 : c.toNat < 256 := c.toNat_lt
      have hmod : c.toNat % 128 < 128 := Nat.mod_lt _ (by decide)
      have g2 : ¬ ((i + t : Nat) : Int) ≥ (s.size : Int) := by omega
      have g3 : 0 ≤ ((i + t : Nat) : Int) := by omega
      have g4 : ((i + t : Nat) : Int) < (s.size : Int) := by omega
      have g5 : 0 ≤ ((7 * t : Nat) : Int) := by omega
      have hor := pl_or z (c.toNat % 128) t HZ.out hmod ht8 _ (pl_and c)
      rw [pl_w7 t (Nat.le_succ_of_le ht8)] at hor
      have hst := pl_step s (i : Int) (z : Int) (t : Int) (c.toNat : Int) ((i + t : Nat) : Int) _ 0 _ k ht9 hw g2 g3 g4 (pl_w7 t (Nat.le_succ_of_le ht8)) g5 hbt hor
      rw [pl_w1 t (by omega), pl_w1 (i + t) (by omega)] at hst
      rw [hst, hrest, pl_rdz_cons]
      clear hst hor hbt g2 g3 g4 g5
      by_cases h1 : 128 ≤ c.toNat
      · have h1' : (c.toNat : Int) ≥ 128 := by omega
        rw [if_pos h1', if_pos h1, pl_int s i hs hi d k (t + 1) _ htd hkd (pl_lt1 z _ t HZ.out hmod), Option.map_map, ← Nat.add_assoc]
        congr 1
        congr 1
        funext p
        exact congrArg (fun q => (q, p.2)) (pl_mapped z c.toNat t _ rfl h1 hc8 p.1)
      · have hm : c.toNat % 128 = c.toNat := Nat.mod_eq_of_lt (by omega)
        have hz3 := pl_lt2 z (c.toNat % 128) t HZ.out hmod ht8
        have hlen := pl_int_end s (i + t + 1) hlt
        have h1' : ¬ (c.toNat : Int) ≥ 128 := by omega
        rw [if_neg h1', if_neg h1, pl_unzig _ hz3, hm]
        by_cases h2 : c.toNat = 0
        · have h2' : (c.toNat : Int) = 0 := by omega
          rw [if_pos h2']
          by_cases h3 : 0 < t
          · have h3' : (t : Int) > 0 := by omega
            rw [if_pos h3', if_pos ⟨h2, h3⟩]; rfl
          · have h3' : ¬ (t : Int) > 0 := by omega
            have h4' : ¬ (c.toNat = 0 ∧ 0 < t) := fun h => h3 h.2
            rw [if_neg h3', if_neg h4']
            simp only [Option.map_some, pl_ans, hlen]
        · have h2' : ¬ (c.toNat : Int) = 0 := by omega
          have h4' : ¬ (c.toNat = 0 ∧ 0 < t) := fun h => h2 h.1
          rw [if_neg h2', if_neg h4']
          simp only [Option.map_some, pl_ans, hlen]
    · have hge : ((i + t : Nat) : Int) ≥ (s.size : Int) := by omega
      rw [pl_end _ _ _ _ _ _ ht9 hw hge, show bk_rest s (i + t) = [] from List.drop_eq_nil_of_le (by rw [Array.length_toList]; show s.size ≤ _; omega)]
      rfl
theorem pl_drawn {W w' : World} (h : Drawn0 W w') : ∃ m, w' = W.drewN m := by
  obtain ⟨m, h⟩ := h
  exact ⟨m, by subst h; rfl⟩
theorem pl_rint : bk_Reads 79 (Value.int .i64) rdI := by
  intro s i hi hs
  have hf : wire_Int.f 30 s (i : Int) = pl_ans s (m_rdz 9 0 (bk_rest s i)) := by
    unfold wire_Int.f
    rw [if_neg (by omega), show decide ((i : Int) > (s.size : Int)) = false from decide_eq_false (by omega), wire_Int.j0, if_neg (by decide)]
    have := pl_int s i hs hi 9 29 0 0 (by omega) (by omega) (by decide)
    rw [Nat.add_zero] at this
    refine this.trans ?_
    congr 1
    cases m_rdz 9 0 (bk_rest s i) with
    | none => rfl
    | some p => simp
  have hone : ∀ (z : Nat) (r : List UInt8), m_rdz 9 0 (bk_rest s i) = some (z, r) → rdI (bk_rest s i) = (if m_unzig z < -4611686018427387903 then .error 10 else .ok (m_unzig z, r)) := fun z r h => by
    unfold rdI m_rdInt
    rw [h]
    dsimp only
    by_cases h2 : m_unzig z < -4611686018427387903
    · rw [if_pos h2, if_pos h2]
    · rw [if_neg h2, if_neg h2]
  cases h : m_rdz 9 0 (bk_rest s i) with
  | none =>
    rw [h] at hf
    exact .inr ⟨by unfold rdI m_rdInt; rw [h], 0, 0, 10, by decide, fun W => (wire_Int.calls 30 s i 0 0 10 W hf).mono (fun e w' h => ⟨h.1, pl_drawn h.2⟩)⟩
  | some p =>
    obtain ⟨z, r⟩ := p
    rw [h] at hf
    have ho := hone z r h
    by_cases hlo : m_unzig z < -4611686018427387903
    · rw [if_pos hlo] at ho
      simp only [pl_ans, if_pos hlo] at hf
      exact .inr ⟨ho, 0, 0, 10, by decide, fun W => (wire_Int.calls 30 s i 0 0 10 W hf).mono (fun e w' h => ⟨h.1, pl_drawn h.2⟩)⟩
    · rw [if_neg hlo] at ho
      simp only [pl_ans, if_neg hlo] at hf
      obtain ⟨_, _, a3⟩ := cd_rdz_inv _ _ _ _ _ h
      have hl := congrArg List.length (a3 9 (Nat.le_refl _))
      rw [bk_rest_len, List.length_append] at hl
      have hr : r = bk_rest s (s.size - r.length) := by
        have h1 : bk_rest s i = m_vint 9 z ++ r := a3 9 (Nat.le_refl _)
        have h2 : r = (bk_rest s i).drop (m_vint 9 z).length := by rw [h1, List.drop_left]
        rw [bk_rest_drop, show i + (m_vint 9 z).length = s.size - r.length by omega] at h2
        exact h2
      refine .inl ⟨m_unzig z, s.size - r.length, by omega, by rw [ho, ← hr], fun W => ?_⟩
      have hj : (s.size : Int) - (r.length : Int) = ((s.size - r.length : Nat) : Int) := by omega
      rw [hj] at hf
      exact (wire_Int.calls 30 s i _ _ 0 W hf).mono (fun e w' h => ⟨h.1, pl_drawn h.2⟩)
def block_Decode.f (a0 : ByteArray) : Option (List (S26) × Int) := if a0.size ≤ 1000000000 then some (m_decode a0) else none
theorem pl_decode_err (s : ByteArray) (e : Int) (h : rdL 24 rdB s.data.toList = .error e) : m_decode s = ([], e) := by unfold m_decode; rw [h]
theorem pl_decode_ok (s : ByteArray) (l : List Bl) (r : List UInt8) (h : rdL 24 rdB s.data.toList = .ok (l, r)) : m_decode s = if r ≠ [] then ([], 10) else if m_validL l then (l, 0) else ([], 30) := by unfold m_decode; rw [h]
theorem pl_rest_nil (s : ByteArray) (j : Nat) : bk_rest s j ≠ [] ↔ j < s.size := by
  rw [← List.length_pos_iff, bk_rest_len]; omega
set_option maxHeartbeats 2000000 in
set_option maxRecDepth 100000 in
theorem block_Decode.calls (a0 : ByteArray) (r1 : List (S26)) (r2 : Int) (w : World) (h : block_Decode.f a0 = some (r1, r2)) :
    Calls Tryd.prog 29 #[.string a0] w fun e w' => ∃ v0_ : Value, e = .returned (.tuple #[v0_, .int .i64 r2]) ∧ Kd.S k26 26 w' w.heap.size (fun _ => True) v0_ r1 ∧ Below w.heap.size w w' := by
  unfold block_Decode.f at h
  obtain ⟨hs, hd⟩ : a0.size ≤ 1000000000 ∧ m_decode a0 = (r1, r2) := by
    split at h
    · exact ⟨by assumption, Option.some.inj h⟩
    · cases h
  clear h
  have HD := Aside0.mk hd
  clear hd
  go_enter Tryd.func29, Tryd.ntmps29
  go_wp2_with (with_reducible refine is_box rfl ?_; refine Rg.stop_here ?_)
  refine ⟨?_⟩
  refine box_event rfl (N := 8) rfl (cs := #[.string a0, .int .i64 0, .int .i64 0]) (t := 75) (by first | (go_simp; done) | (go_simp; rfl)) ?_
  intro r hr w1 hbx hb1
  have hrge : w.heap.size ≤ r := Nat.le_of_eq hr.symm
  have HRG := Aside0.mk hrge
  have HB1 := Aside0.mk hb1
  clear hr hrge hb1
  go_wp2_with (go_at_call 57; refine Rg.stop_here ?_)
  refine ⟨?_⟩
  refine (bk_list_block pl_rint (bk_rstring pl_rint) a0 0 0 r 24 w1 (Nat.zero_le _) hs hbx (by omega) (by omega)).mono ?_
  rintro en w2 ⟨xs, v, j, e', rfl, hS, hr2, hp, hg2⟩
  have hB2 : Below w.heap.size w w2 := ⟨hg2.os.trans HB1.out.os, hg2.tape.trans HB1.out.tape, hg2.output.trans HB1.out.output, Nat.le_trans HB1.out.size hg2.size, fun i hi => (hg2.block i (Nat.lt_of_lt_of_le hi HB1.out.size) (fun h => by have h2 := Option.some.inj h; have := HRG.out; omega)).trans (HB1.out.block i hi)⟩
  have hS2 := Kd.S_mono (ok' := fun _ => True) (Kd.S_lower hS HB1.out.size) (fun _ _ => trivial)
  obtain ⟨A, c, hv, hcl, hC⟩ := Kd.S_reads hS2
  subst hv
  unfold bk_rdr at hr2
  have c1 : w2.cell? ⟨r, 1, none⟩ = some (.int .i64 (j : Int)) := bk_cell hr2 1
  have c2 : w2.cell? ⟨r, 2, none⟩ = some (.int .i64 e') := bk_cell hr2 2
  obtain ⟨hj, _, hp0⟩ := hp
  have hp1 := hp0 rfl
  rw [show bk_rest a0 0 = a0.data.toList from rfl] at hp1
  have HS2 := Aside0.mk hS2
  have HB2 := Aside0.mk hB2
  have HC := Aside0.mk hC
  clear hbx hS hg2 hr2 hp0 hS2 hB2 hC HB1
  cases hrd : rdL 24 rdB a0.data.toList with
  | error er =>
    rw [hrd] at hp1
    obtain ⟨rfl, hne⟩ := hp1
    have hm := HD.out
    rw [pl_decode_err a0 _ hrd] at hm
    obtain ⟨rfl, rfl⟩ := Prod.mk.inj hm
    have hneb : (e' == 0) = false := by simpa using hne
    clear hrd hm
    go_wp2
    go_quiet (fail)
    go_wp2
    go_ret2
    exact ⟨_, rfl, Kd.S_nil _ _ _ _ _, pw_below_drewN HB2.out _⟩
  | ok p =>
    obtain ⟨ys, rr⟩ := p
    rw [hrd] at hp1
    obtain ⟨rfl, rfl, rfl⟩ := hp1
    have hm := HD.out
    rw [pl_decode_ok a0 _ _ hrd] at hm
    clear hrd
    by_cases hlt : j < a0.size
    · rw [if_pos ((pl_rest_nil a0 j).2 hlt)] at hm
      obtain ⟨rfl, rfl⟩ := Prod.mk.inj hm
      have d1 : decide ((j : Int) < (a0.size : Int)) = true := by simp; omega
      clear hm
      go_wp2
      go_ret2
      exact ⟨_, rfl, Kd.S_nil _ _ _ _ _, HB2.out⟩
    · rw [if_neg (fun h => hlt ((pl_rest_nil a0 j).1 h))] at hm
      have d1 : decide ((j : Int) < (a0.size : Int)) = false := by simp; omega
      have hvl := block_ValidList.calls A c xs (m_validL xs) w2 HC.out hcl rfl
      cases hv : m_validL xs with
      | false =>
        rw [hv] at hm hvl
        rw [if_neg (by decide)] at hm
        obtain ⟨rfl, rfl⟩ := Prod.mk.inj hm
        clear hm
        go_wp2_with (go_at_call 21; refine hvl.mono ?_; rintro e w3 ⟨rfl, hb3⟩)
        go_ret2
        exact ⟨_, rfl, Kd.S_nil _ _ _ _ _, below_step HB2.out hb3⟩
      | true =>
        rw [hv] at hm hvl
        rw [if_pos rfl] at hm
        obtain ⟨rfl, rfl⟩ := Prod.mk.inj hm
        clear hm
        go_wp2_with (go_at_call 21; refine hvl.mono ?_; rintro e w3 ⟨rfl, hb3⟩)
        go_ret2
        exact ⟨_, rfl, Kd.S_below HS2.out hb3, below_step HB2.out hb3⟩
end Go.Proofs.YtpgjhjlhipikgaaDoor.PK
end
section
namespace Go.Proofs.YtpgjhjlhipikgaaDoor.PK
open Go.RowKit Go.Proofs.YtpgjhjlhipikgaaDoorW.PrintWords Go.Proofs.YtpgjhjlhipikgaaDoorW.PrintLast Go.Proofs.YtpgjhjlhipikgaaDoorW.PrintMore
attribute [local go_sem] max2_int min2_int max_two min_two max_three min_three max_four min_four   -- for this text's walks alone
set_option linter.unusedVariables false
set_option linter.unusedSimpArgs false
theorem bk_join_eq : ∀ xs : List (List UInt8), Lib.join xs [32] = m_join xs
  | [] => rfl
  | [x] => by simp [Lib.join, List.intercalate, m_join]
  | x :: y :: l => by
    have h := bk_join_eq (y :: l)
    rw [m_join, ← h]
    simp [Lib.join, List.intercalate, List.intersperse]
theorem bk_join_len : ∀ xs : List (List UInt8), xs.length ≤ (m_join xs).length + 1
  | [] => by simp
  | [x] => by simp
  | x :: y :: l => by
    have h := bk_join_len (y :: l)
    simp only [m_join, List.length_append, List.length_cons] at h ⊢
    omega
set_option maxHeartbeats 1000000 in
theorem bk_line66 (x y : Nat) (a b t : ByteArray) (W : World) (hx : W.cell? ⟨x, 0, none⟩ = some (.string a)) (hy : W.cell? ⟨y, 0, none⟩ = some (.string b)) (hl : a.size + t.size + b.size ≤ 1000000000) :
    Calls Tryd.prog 66 #[.string t, .pointer (some ⟨x, 0, none⟩), .pointer (some ⟨y, 0, none⟩)] W fun e w' => e = .returned (.string (a ++ t ++ b)) ∧ w' = W := by
  have h1 : a.size + t.size ≤ 9223372036854775807 := by omega
  have h2 : (a ++ t).size + b.size ≤ 9223372036854775807 := by rw [ByteArray.size_append]; omega
  go_enter Tryd.func66, Tryd.ntmps66
  go_wp2
  go_ret
  exact ⟨rfl, rfl⟩
set_option maxHeartbeats 1000000 in
theorem bk_spaced (t : ByteArray) (W : World) (ht : t.size ≤ 1000000000) (hl : (m_join (m_sent t.data.toList)).length ≤ 1000000000) :
    Calls Tryd.prog 67 #[.string t] W fun e w' => e = .returned (.string ⟨(m_join (m_sent t.data.toList)).toArray⟩) ∧ Below W.heap.size W w' := by
  have hxs : (m_sentences t).map (·.data.toList) = m_sent t.data.toList := by
    simp [m_sentences, List.map_map, Function.comp_def]
  obtain ⟨xs, hx⟩ : ∃ xs, m_sentences t = xs := ⟨_, rfl⟩
  have hS := block_Sentences.calls t xs W (by unfold block_Sentences.f; rw [if_pos ht, hx])
  rw [hx] at hxs
  have hn : xs.length ≤ 140737488355328 := by
    have := bk_join_len (m_sent t.data.toList)
    rw [← hxs] at this hl
    simp only [List.length_map] at this
    omega
  have hj : Lib.join (xs.map (·.data.toList)) [32] = m_join (m_sent t.data.toList) := by rw [bk_join_eq, hxs]
  have HX := Aside0.mk hj
  clear hj hxs hx
  go_enter Tryd.func67, Tryd.ntmps67
  go_wp2_with (go_at_call 32; refine Rg.stop_here ?_)
  refine ⟨?_⟩
  refine hS.mono ?_
  rintro e w1 ⟨v, rfl, hR, hb⟩
  obtain ⟨inner, hown⟩ := Kd.R_own hR
  rcases hown.2 with ⟨rfl, _⟩ | ⟨g, cap, cur, rfl, hg, hh, _⟩
  · obtain ⟨A, c, he⟩ := Kd.R_slice hR
    have h0 : xs = [] := by injection he with _ h _; exact List.eq_nil_of_length_eq_zero h.symm
    subst h0
    go_wp2_with (go_at_call 91; refine (Tryd.strings_Join_none _ _ _ _).mono ?_; rintro e w' ⟨rfl, rfl⟩)
    go_ret
    exact ⟨by rw [← HX.out]; rfl, hb⟩
  · have hrd := Kd.R_reads' hR
    have hlt := (Array.getElem?_eq_some_iff.1 hh).1
    have hcells : ∀ (j : Nat) x, xs[j]? = some x → w1.cell? ⟨g, 0 + j, none⟩ = some (.string x) := fun j x hx => by
      have hjl := (List.getElem?_eq_some_iff.1 hx).1
      obtain ⟨ad, c, e0, hc1, hK, hc⟩ := Kd.C_get hrd.2.2 ⟨#[]⟩ (j : Int) (by omega) (by omega)
      cases e0
      have hxe : xs.getD j ⟨#[]⟩ = x := by simp [List.getD_eq_getElem?_getD, hx]
      simp only [Int.toNat_natCast] at hK hc
      rw [hxe] at hK
      have hK' : c = [.string x] := hK
      subst hK'
      have := hc 0 _ rfl
      by_cases hj0 : j = 0 <;> simpa [Addr.add, Kd.string, Kd.scalar, hj0] using this
    have hcon := Tryd.strings_Join g 0 cap xs ⟨#[32]⟩ w1 hcells hlt hn hrd.2.1 (by rw [show (⟨#[32]⟩ : ByteArray).data.toList = [32] from rfl, HX.out]; omega)
    rw [show (⟨#[32]⟩ : ByteArray).data.toList = [32] from rfl, HX.out] at hcon
    clear hcells hrd hS HX hown hR
    go_wp2_with (go_at_call 91; refine hcon.mono ?_; rintro e w2 ⟨rfl, hb2⟩)
    go_ret
    exact ⟨rfl, below_step hb hb2⟩
theorem bk_line_cases (kind : Int) : ((∀ L1 L3 L4 L5, bk_kinds L1 L3 L4 L5 kind = none) ∧ ∀ t, m_line kind t = []) ∨
    ((∀ L1 L3 L4 L5, bk_kinds L1 L3 L4 L5 kind = some (.agg #[.func (.func 64) #[] #[], .bool false, .func (.func 67) #[] #[]])) ∧ ∀ t, m_line kind t = m_join (m_sent t) ++ [10]) ∨
    ∃ (T : Nat) (q : Bool) (a b : ByteArray), (∀ t, m_line kind t = a.data.toList ++ t ++ b.data.toList ++ [10]) ∧ (a.size ≤ 1 ∧ b.size ≤ 1) ∧ ∀ L1 L3 L4 L5 W B, bk_Line W B L1 ⟨#[]⟩ ⟨#[]⟩ → bk_Line W B L3 ⟨#[34]⟩ ⟨#[34]⟩ → bk_Line W B L4 ⟨#[91]⟩ ⟨#[93]⟩ → bk_Line W B L5 ⟨#[35]⟩ ⟨#[]⟩ →
      ∃ x y, W.cell? ⟨x, 0, none⟩ = some (.string a) ∧ W.cell? ⟨y, 0, none⟩ = some (.string b) ∧ bk_kinds L1 L3 L4 L5 kind = some (.agg #[.func (.func T) #[] #[], .bool q, .func (.func 66) #[] #[.pointer (some ⟨x, 0, none⟩), .pointer (some ⟨y, 0, none⟩)]]) := by
  by_cases h5 : kind = 5
  · subst h5; exact .inr (.inr ⟨_, _, ⟨#[35]⟩, ⟨#[]⟩, fun t => by simp [m_line], by decide, fun _ _ _ _ _ _ _ _ _ ⟨x, y, _, _, h, h1, h2⟩ => ⟨x, y, bk_cell h1 0, bk_cell h2 0, by subst h; rfl⟩⟩)
  by_cases h4 : kind = 4
  · subst h4; exact .inr (.inr ⟨_, _, ⟨#[91]⟩, ⟨#[93]⟩, fun t => by simp [m_line], by decide, fun _ _ _ _ _ _ _ _ ⟨x, y, _, _, h, h1, h2⟩ _ => ⟨x, y, bk_cell h1 0, bk_cell h2 0, by subst h; rfl⟩⟩)
  by_cases h3 : kind = 3
  · subst h3; exact .inr (.inr ⟨_, _, ⟨#[34]⟩, ⟨#[34]⟩, fun t => by simp [m_line], by decide, fun _ _ _ _ _ _ _ ⟨x, y, _, _, h, h1, h2⟩ _ _ => ⟨x, y, bk_cell h1 0, bk_cell h2 0, by subst h; rfl⟩⟩)
  by_cases h2 : kind = 2
  · subst h2; exact .inr (.inl ⟨fun _ _ _ _ => rfl, fun t => by simp [m_line]⟩)
  by_cases h1 : kind = 1
  · subst h1; exact .inr (.inr ⟨_, _, ⟨#[]⟩, ⟨#[]⟩, fun t => by simp [m_line], by decide, fun _ _ _ _ _ _ ⟨x, y, _, _, h, h1, h2⟩ _ _ _ => ⟨x, y, bk_cell h1 0, bk_cell h2 0, by subst h; rfl⟩⟩)
  exact .inl ⟨fun _ _ _ _ => by simp [bk_kinds, h1, h2, h3, h4, h5], fun t => by simp [m_line, h1, h2, h3, h4, h5]⟩
theorem bk_strCells (s : ByteArray) : Lib.strCells s = Lib.byteCells s.data.toList := rfl
theorem bk_byteCells_append (a b : List UInt8) : Lib.byteCells a ++ Lib.byteCells b = Lib.byteCells (a ++ b) := by simp [Lib.byteCells]
theorem bk_keptLine {W W' : World} (h : Bk.KeptT 64 5 W W') : ∀ (x : Nat) (v : Array Value), W.heap[x]? = some (Obj.cells v 9 (0, 0)) → W'.heap[x]? = some (Obj.cells v 9 (0, 0)) := fun x v hx => h.kept _ _ _ _ hx (by decide) (by decide)
theorem bk_plain_take (l : List (S26)) (j : Nat) (h : j < l.length) : m_plain (l.take (j + 1)) = m_plain (l.take j) ++ m_line l[j].f1 l[j].f2.data.toList := by
  rw [m_plain, m_plain, List.take_succ_eq_append_getElem h, List.flatMap_append]; simp
theorem bk_plain_le (l : List (S26)) (j : Nat) : (m_plain (l.take j)).length ≤ (m_plain l).length := by
  have : m_plain l = m_plain (l.take j) ++ m_plain (l.drop j) := by
    unfold m_plain; rw [← List.flatMap_append, List.take_append_drop]
  rw [this, List.length_append]; omega
def block_Plain.f (l0 : List (S26)) : Option ByteArray := if (l0.all fun b => decide (b.f2.size ≤ 1000000000)) && decide ((m_plain l0).length ≤ 1000000000) then some (⟨(m_plain l0).toArray⟩ : ByteArray) else none
set_option maxHeartbeats 4000000 in
set_option maxRecDepth 100000 in
theorem block_Plain.calls (A0 : Option Addr) (c0 : Nat) (l0 : List (S26)) (r : ByteArray) (w : World) (hr0 : Kd.C k26 w A0 l0.length l0) (hc0 : l0.length ≤ c0) (h : block_Plain.f l0 = some r) :
    Calls Tryd.prog 34 #[.slice A0 l0.length c0] w fun e w' => e = .returned (.string r) ∧ Below w.heap.size w w' := by
  unfold block_Plain.f at h
  obtain ⟨hg, hf⟩ : ((l0.all fun b => decide (b.f2.size ≤ 1000000000)) && decide ((m_plain l0).length ≤ 1000000000)) = true ∧ (⟨(m_plain l0).toArray⟩ : ByteArray) = r := by
    split at h
    · exact ⟨by assumption, Option.some.inj h⟩
    · cases h
  subst hf
  clear h
  simp only [Bool.and_eq_true, List.all_eq_true, decide_eq_true_eq] at hg
  have HG := Aside0.mk hg
  have HR := Aside0.mk hr0
  have hmax := Kd.C_max hr0
  clear hr0 hc0 hg
  have hbl0 := Lib.fresh_isBuilder 64 5 w
  have hB00 := below_alloc (Below.refl w.heap.size w) (.cells #[.pointer none, .slice none 0 0] 64)
  go_enter Tryd.func34, Tryd.ntmps34
  go_wp2_with (go_at_call 40; refine Rg.stop_here ?_)
  refine ⟨?_⟩
  refine (bk_kinds_calls _).mono ?_
  rintro e w1 ⟨mb, L1, L3, L4, L5, rfl, hmb, hI, hL1, hL3, hL4, hL5, hB0⟩
  have hbl := Bk.builder_below hbl0 hB0
  have hB1 : Below w.heap.size w w1 := below_step hB00 hB0
  obtain ⟨BL, hBL⟩ : ∃ BL, BL = (w.alloc (.cells #[.pointer none, .slice none 0 0] 64)).heap.size := ⟨_, rfl⟩
  rw [← hBL] at hL1 hL3 hL4 hL5
  clear hbl0 hB00 hB0 hmb hBL
  go_wp2
  go_loopw [12] (fun p wr => ∃ (j : Nat), p = .int .i64 (j : Int) ∧ j ≤ l0.length ∧ Lib.IsBuilder 64 5 w.heap.size w.heap.size (Lib.byteCells (m_plain (l0.take j))) wr ∧ Mp.IMap wr mb 5 (bk_kinds L1 L3 L4 L5) ∧
      bk_Line wr BL L1 ⟨#[]⟩ ⟨#[]⟩ ∧ bk_Line wr BL L3 ⟨#[34]⟩ ⟨#[34]⟩ ∧ bk_Line wr BL L4 ⟨#[91]⟩ ⟨#[93]⟩ ∧ bk_Line wr BL L5 ⟨#[35]⟩ ⟨#[]⟩ ∧ Below w.heap.size w wr)
    (fun p _ => l0.length - (intOf p).toNat)
  case atStart => exact ⟨0, rfl, Nat.zero_le _, hbl, hI, hL1, hL3, hL4, hL5, hB1⟩
  case round =>
    clear hbl hI hL1 hL3 hL4 hL5 hB1
    obtain ⟨j, rfl, hj, hbl, hI, hL1, hL3, hL4, hL5, hB⟩ := hrel
    by_cases hlt : j < l0.length
    · have hd : decide ((j : Int) < (l0.length : Int)) = true := by simp; omega
      obtain ⟨ad, A6, c6, e0, hx0, hx1, hx2, hx3, hx4, hx5, hx6, hx7, hx8, hl6, hi6⟩ := at_T26 HR.out (j : Int) (by omega) (by omega)
      rw [bk_rd l0 j hlt] at hx0 hx1 hx2 hx3 hx4 hx5 hx6 hx7 hx8 hl6 hi6
      have htake := bk_plain_take l0 j hlt
      have hsz := HG.out.1 l0[j] (List.getElem_mem hlt)
      have hle := bk_plain_le l0 (j + 1)
      obtain ⟨x, hx⟩ : ∃ x, l0[j] = x := ⟨_, rfl⟩
      rw [hx] at hx0 hx1 hx2 hx3 hx4 hx5 hx6 hx7 hx8 hl6 hi6 htake hsz
      rw [htake] at hle
      have hle2 := HG.out.2
      have HT := Aside0.mk htake
      clear hx htake hi6 hl6
      simp only [Int.toNat_natCast] at hx0 hx1 hx2 hx3 hx4 hx5 hx6 hx7 hx8
      cases e0
      replace hx0 := bk_stepc hx0 hB
      replace hx1 := bk_stepc hx1 hB
      replace hx2 := bk_stepc hx2 hB
      replace hx3 := bk_stepc hx3 hB
      replace hx4 := bk_stepc hx4 hB
      replace hx5 := bk_stepc hx5 hB
      replace hx6 := bk_stepc hx6 hB
      replace hx7 := bk_stepc hx7 hB
      replace hx8 := bk_stepc hx8 hB
      have p1 : (0 : Int) ≤ (j : Int) := by omega
      go_wp2_with (with_reducible refine is_alloc rfl ?_; refine Rg.stop_here ?_)
      refine ⟨?_⟩
      refine box_event rfl (N := 6) rfl (cs := #[.int .i64 0, .int .i64 0, .string (⟨#[]⟩ : ByteArray), .int .i64 0, .int .i64 0, .int .i64 0, .slice none 0 0, .int .i64 0, .int .i64 0]) (t := 26) (by first | (go_simp; done) | (go_simp; rfl)) ?_
      intro g hg w1 hbx hb1
      have HGg := Aside0.mk hg
      clear hg
      go_wp2_with (with_reducible refine is_store rfl ?_; refine Rg.stop_here ?_)
      refine ⟨?_⟩
      refine wpList_store_box rfl rfl _ _ _ rfl g _ _ _ rfl rfl hbx bk_size26 rfl (by repeat (first | exact List.forall_mem_nil _ | refine List.forall_mem_cons.2 ⟨rfl, ?_⟩)) ?_
      intro w2 hbx2 hst hot
      have hq2 : Below wr.heap.size wr w2 := hb1.trans (hst _ (by rw [HGg.out]; exact Nat.le_refl _))
      obtain ⟨d0, d1, d2, d3, d4, d5, d6, d7, d8⟩ := bk_Box.of hbx2
      have hI2 := hI.below hq2 hI.lt
      have hlk := hI2.look Tryd.underlying54 Tryd.underlying3 (bk_zeroKind _) x.f1 true
      clear hb1 hbx hx0 hx1 hx2 hx3 hx4 hx5 hx6 hx7 hx8 hst hot d0 d3 d4 d5 d6 d7 d8
      rcases bk_line_cases x.f1 with ⟨hk, hm⟩ | ⟨hk, hm⟩ | ⟨T, q, sa, sb, hm, hsab, hk⟩
      · rw [hk] at hlk
        dsimp only at hlk
        go_wp2_with (with_reducible refine is_alloc rfl ?_; refine Rg.stop_here ?_)
        refine ⟨?_⟩
        refine box_event rfl (N := 7) rfl (cs := #[.nilFunc, .bool false, .nilFunc]) (t := 52) (by first | (go_simp; done) | (go_simp; rfl)) ?_
        intro g3 hg3 w3 hby hb3
        have HG3 := Aside0.mk hg3
        clear hg3
        go_wp2_with (with_reducible refine is_store rfl ?_; refine Rg.stop_here ?_)
        refine ⟨?_⟩
        refine wpList_store_box rfl rfl _ _ _ rfl g3 _ _ _ rfl rfl hby bk_size52 rfl (by repeat (first | exact List.forall_mem_nil _ | refine List.forall_mem_cons.2 ⟨rfl, ?_⟩)) ?_
        intro w4 hby2 hst hot
        have hq3 : Below w2.heap.size w2 w4 := hb3.trans (hst _ (by rw [HG3.out]; exact Nat.le_refl _))
        have hq4 : Below wr.heap.size wr w4 := below_step hq2 hq3
        clear hlk hb3 hby hst hot
        go_wp2_with fail
        go_roundw
        case rel => exact ⟨j + 1, by go_num, by omega, by rw [HT.out, hm, List.append_nil]; exact Bk.builder_below hbl hq4, hI.below hq4 hI.lt, hL1.step (fun y v hy => by rw [hq4.block y (Array.getElem?_eq_some_iff.1 hy).1]; exact hy), hL3.step (fun y v hy => by rw [hq4.block y (Array.getElem?_eq_some_iff.1 hy).1]; exact hy), hL4.step (fun y v hy => by rw [hq4.block y (Array.getElem?_eq_some_iff.1 hy).1]; exact hy), hL5.step (fun y v hy => by rw [hq4.block y (Array.getElem?_eq_some_iff.1 hy).1]; exact hy), below_step hB hq4⟩
        case measure => simp [intOf]; omega
      · rw [hk] at hlk
        dsimp only at hlk
        go_wp2_with (with_reducible refine is_alloc rfl ?_; refine Rg.stop_here ?_)
        refine ⟨?_⟩
        refine box_event rfl (N := 7) rfl (cs := #[.nilFunc, .bool false, .nilFunc]) (t := 52) (by first | (go_simp; done) | (go_simp; rfl)) ?_
        intro g3 hg3 w3 hby hb3
        have HG3 := Aside0.mk hg3
        clear hg3
        go_wp2_with (with_reducible refine is_store rfl ?_; refine Rg.stop_here ?_)
        refine ⟨?_⟩
        refine wpList_store_box rfl rfl _ _ _ rfl g3 _ _ _ rfl rfl hby bk_size52 rfl (by repeat (first | exact List.forall_mem_nil _ | refine List.forall_mem_cons.2 ⟨rfl, ?_⟩)) ?_
        intro w4 hby2 hst hot
        have hq3 : Below w2.heap.size w2 w4 := hb3.trans (hst _ (by rw [HG3.out]; exact Nat.le_refl _))
        have hq4 : Below wr.heap.size wr w4 := below_step hq2 hq3
        have z2 := bk_cell hby2 2
        have d2' := bk_stepc d2 hq3
        have hml : (m_join (m_sent x.f2.data.toList)).length + 1 ≤ 1000000000 := by
          rw [hm, List.length_append, List.length_append] at hle
          simp only [List.length_singleton] at hle
          omega
        have hsp := bk_spaced x.f2 w4 hsz (by omega)
        obtain ⟨S, hS⟩ : ∃ S : ByteArray, S = ⟨(m_join (m_sent x.f2.data.toList)).toArray⟩ := ⟨_, rfl⟩
        rw [← hS] at hsp
        have hSl : S.data.toList = m_join (m_sent x.f2.data.toList) := by rw [hS]
        have hSs : S.size = (m_join (m_sent x.f2.data.toList)).length := by rw [hS]; simp [ByteArray.size]
        have HS : Aside0 ((S ++ (⟨#[10]⟩ : ByteArray)).data.toList = m_join (m_sent x.f2.data.toList) ++ [10]) := ⟨by rw [ByteArray.data_append, Array.toList_append, hSl]⟩
        have s1 : S.size + 1 ≤ 9223372036854775807 := by omega
        have s2 : (S ++ (⟨#[10]⟩ : ByteArray)).size = S.size + 1 := by rw [ByteArray.size_append]; rfl
        rw [hm, List.length_append, List.length_append, List.length_singleton] at hle
        have HSL := Aside0.mk hSl
        clear hlk hb3 hby hst hot hS hSl
        go_wp2_with fail
        refine hsp.mono ?_
        rintro e w5 ⟨rfl, hb5⟩
        have hq5 := below_step hq4 hb5
        go_wp2_with (go_at_call 52; refine Rg.stop_here ?_)
        refine ⟨?_⟩
        refine (Bk.writeString w.heap.size w.heap.size _ _ _ (Bk.builder_below hbl hq5) (by rw [Lib.byteCells, List.length_map]; omega) (below_size (below_step hB hq5))).mono ?_
        rintro e w6 ⟨rfl, hbl6, hb6, hk6⟩
        rw [bk_strCells, bk_byteCells_append] at hbl6
        have hk7 : Bk.KeptT 64 5 wr w6 := (Bk.KeptT.of_below hq5).trans hk6
        go_wp2_with fail
        go_roundw
        case rel => exact ⟨j + 1, by go_num, by omega, .inr (by rw [HT.out, hm, ← HS.out]; exact hbl6), hI.step (fun es c he => hk7.maps _ _ _ he), hL1.step (bk_keptLine hk7), hL3.step (bk_keptLine hk7), hL4.step (bk_keptLine hk7), hL5.step (bk_keptLine hk7), (below_step hB hq5).trans hb6⟩
        case measure => simp [intOf]; omega
      · obtain ⟨xa, ya, hxa, hya, hk⟩ := hk L1 L3 L4 L5 wr BL hL1 hL3 hL4 hL5
        rw [hk] at hlk
        dsimp only at hlk
        go_wp2_with (with_reducible refine is_alloc rfl ?_; refine Rg.stop_here ?_)
        refine ⟨?_⟩
        refine box_event rfl (N := 7) rfl (cs := #[.nilFunc, .bool false, .nilFunc]) (t := 52) (by first | (go_simp; done) | (go_simp; rfl)) ?_
        intro g3 hg3 w3 hby hb3
        have HG3 := Aside0.mk hg3
        clear hg3
        go_wp2_with (with_reducible refine is_store rfl ?_; refine Rg.stop_here ?_)
        refine ⟨?_⟩
        refine wpList_store_box rfl rfl _ _ _ rfl g3 _ _ _ rfl rfl hby bk_size52 rfl (by repeat (first | exact List.forall_mem_nil _ | refine List.forall_mem_cons.2 ⟨rfl, ?_⟩)) ?_
        intro w4 hby2 hst hot
        have hq3 : Below w2.heap.size w2 w4 := hb3.trans (hst _ (by rw [HG3.out]; exact Nat.le_refl _))
        have hq4 : Below wr.heap.size wr w4 := below_step hq2 hq3
        have z2 := bk_cell hby2 2
        have d2' := bk_stepc d2 hq3
        rw [hm, List.length_append, List.length_append, List.length_append, List.length_append, List.length_singleton] at hle
        have hla : sa.data.toList.length = sa.size := Array.length_toList
        have hlb : sb.data.toList.length = sb.size := Array.length_toList
        have hlt2 : x.f2.data.toList.length = x.f2.size := Array.length_toList
        have hsp := bk_line66 xa ya sa sb x.f2 w4 (bk_stepc hxa hq4) (bk_stepc hya hq4) (by omega)
        obtain ⟨S, hS⟩ : ∃ S : ByteArray, S = sa ++ x.f2 ++ sb := ⟨_, rfl⟩
        rw [← hS] at hsp
        have hSl : S.data.toList = sa.data.toList ++ x.f2.data.toList ++ sb.data.toList := by rw [hS]; simp [ByteArray.data_append]
        have hSs : S.size = sa.size + x.f2.size + sb.size := by rw [hS, ByteArray.size_append, ByteArray.size_append]
        have HS : Aside0 ((S ++ (⟨#[10]⟩ : ByteArray)).data.toList = sa.data.toList ++ x.f2.data.toList ++ sb.data.toList ++ [10]) := ⟨by rw [ByteArray.data_append, Array.toList_append, hSl]⟩
        have s1 : S.size + 1 ≤ 9223372036854775807 := by omega
        have s2 : (S ++ (⟨#[10]⟩ : ByteArray)).size = S.size + 1 := by rw [ByteArray.size_append]; rfl
        clear hlk hb3 hby hst hot hS hSl hxa hya
        go_wp2_with fail
        refine hsp.mono ?_
        rintro e w5 ⟨rfl, rfl⟩
        have hq5 := hq4
        go_wp2_with (go_at_call 52; refine Rg.stop_here ?_)
        refine ⟨?_⟩
        refine (Bk.writeString w.heap.size w.heap.size _ _ _ (Bk.builder_below hbl hq5) (by rw [Lib.byteCells, List.length_map]; omega) (below_size (below_step hB hq5))).mono ?_
        rintro e w6 ⟨rfl, hbl6, hb6, hk6⟩
        rw [bk_strCells, bk_byteCells_append] at hbl6
        have hk7 : Bk.KeptT 64 5 wr w6 := (Bk.KeptT.of_below hq5).trans hk6
        go_wp2_with fail
        go_roundw
        case rel => exact ⟨j + 1, by go_num, by omega, .inr (by rw [HT.out, hm, ← HS.out]; exact hbl6), hI.step (fun es c he => hk7.maps _ _ _ he), hL1.step (bk_keptLine hk7), hL3.step (bk_keptLine hk7), hL4.step (bk_keptLine hk7), hL5.step (bk_keptLine hk7), (below_step hB hq5).trans hb6⟩
        case measure => simp [intOf]; omega
    · have hjl : j = l0.length := by omega
      subst hjl
      have hd : decide (((l0.length : Nat) : Int) < (l0.length : Int)) = false := by simp
      rw [List.take_length] at hbl
      go_wp2_with (go_at_call 54; refine (Tryd.Builder_String_any _ _ _ _ hbl (below_size hB)).mono ?_; rintro e w5 ⟨rfl, hb5⟩)
      go_ret
      exact ⟨rfl, hB.trans hb5⟩
end Go.Proofs.YtpgjhjlhipikgaaDoor.PK
end
