/- Texts of this claim, one behind the other. -/
import Derived.Test.YtpgjhjlhipikgaaDoorMDx3
import Derived.Test.YtpgjhjlhipikgaaDoorMLx1
import Derived.Test.YtpgjhjlhipikgaaDoorMDx8
import Derived.Test.YtpgjhjlhipikgaaDoorMDx9
import Derived.Test.YtpgjhjlhipikgaaDoorMDx4
section
namespace Go.Proofs.YtpgjhjlhipikgaaDoor.PK
open Go.RowKit Go.Proofs.YtpgjhjlhipikgaaDoorW.PrintWords Go.Proofs.YtpgjhjlhipikgaaDoorW.PrintLast Go.Proofs.YtpgjhjlhipikgaaDoorW.PrintMore
attribute [local go_sem] max2_int min2_int max_two min_two max_three min_three max_four min_four   -- for this text's walks alone
set_option linter.unusedVariables false
set_option linter.unusedSimpArgs false
def copydeskref03_Sentences.l0 : Nat → ByteArray → List ByteArray → Int → Int → Option (List ByteArray)
  | 0, _, _, _, _ => none
  | k + 1, x0, x3, x4, x5 => if x5 < (x0.size : Int) then ((copydeskref03_ends.f k x0 x5).bind fun t260 => (if t260 = true then (if 0 ≤ x4 then (if x4 ≤ (wrap64 (x5 + 1)) then (if (wrap64 (x5 + 1)) ≤ (x0.size : Int) then ((copydeskref03_trimmed.f k (x0.extract (x4 : Int).toNat ((wrap64 (x5 + 1)) : Int).toNat)).bind fun t261 => (if x3.length < 8796093022208 then (copydeskref03_Sentences.l0 k x0 (x3 ++ [t261]) (wrap64 (x5 + 1)) (wrap64 (x5 + 1))) else (none))) else (none)) else (none)) else (none)) else (copydeskref03_Sentences.l0 k x0 x3 x4 (wrap64 (x5 + 1))))) else (if 0 ≤ x4 then (if x4 ≤ (x0.size : Int) then ((copydeskref03_trimmed.f k (x0.extract (x4 : Int).toNat x0.size)).bind fun t256 => (if t256.toList = ([] : List UInt8) then (some x3) else (if x3.length < 8796093022208 then (some (x3 ++ [t256])) else (none)))) else (none)) else (none))
def copydeskref03_Sentences.f (k : Nat) (a0 : ByteArray) : Option (List ByteArray) := copydeskref03_Sentences.l0 k a0 ([] : List ByteArray) 0 0
theorem copydeskref03_Sentences.mono_l : ∀ k, (∀ y0 y1 y2 y3, LeO (copydeskref03_Sentences.l0 k y0 y1 y2 y3) (copydeskref03_Sentences.l0 (k + 1) y0 y1 y2 y3))
  | 0 => fun _ _ _ _ r h => by simp [copydeskref03_Sentences.l0] at h
  | k + 1 => by
    have ih0 := copydeskref03_Sentences.mono_l k
    · intro y0 y1 y2 y3
      unfold copydeskref03_Sentences.l0
      repeat' first
      | (with_reducible exact ih0 _ _ _ _)
      | (with_reducible exact copydeskref03_ends.mono _ _ _)
      | (with_reducible exact copydeskref03_trimmed.mono _ _)
      | (with_reducible exact LeO.refl _)
      | (with_reducible exact LeO.none _)
      | (with_reducible refine LeO.ite ?_ ?_)
      | (with_reducible refine LeO.bind ?_ (fun _ => ?_))
      | exact ih0 _ _ _ _
      | exact copydeskref03_ends.mono _ _ _
      | exact copydeskref03_trimmed.mono _ _
      | exact LeO.none _
      | refine LeO.ite ?_ ?_
      | refine LeO.bind ?_ (fun _ => ?_)
theorem copydeskref03_Sentences.mono : ∀ a0 k, LeO (copydeskref03_Sentences.f k a0) (copydeskref03_Sentences.f (k + 1) a0) := by
  intro a0 k
  have ih0 := copydeskref03_Sentences.mono_l k
  unfold copydeskref03_Sentences.f
  repeat' first
      | (with_reducible exact ih0 _ _ _ _)
      | (with_reducible exact copydeskref03_ends.mono _ _ _)
      | (with_reducible exact copydeskref03_trimmed.mono _ _)
      | (with_reducible exact LeO.refl _)
      | (with_reducible exact LeO.none _)
      | (with_reducible refine LeO.ite ?_ ?_)
      | (with_reducible refine LeO.bind ?_ (fun _ => ?_))
      | exact ih0 _ _ _ _
      | exact copydeskref03_ends.mono _ _ _
      | exact copydeskref03_trimmed.mono _ _
      | exact LeO.none _
      | refine LeO.ite ?_ ?_
      | refine LeO.bind ?_ (fun _ => ?_)
set_option maxHeartbeats 8000000 in
set_option maxRecDepth 100000 in
theorem copydeskref03_Sentences.calls (k : Nat) (a0 : ByteArray) (r : List ByteArray) (w : World) (h : copydeskref03_Sentences.f k a0 = some r) :
    Calls Tryd.prog 33 #[.string a0] w fun e w' => ∃ v0_ : Value, e = .returned (v0_) ∧ Kd.R Kd.string 9 w' w.heap.size (fun _ => True) v0_ r ∧ Below w.heap.size w w' := by
  have HB := Aside0.mk (Below.refl w.heap.size w)
  have H : (copydeskref03_Sentences.l0 k a0 ([] : List ByteArray) 0 0) = some r := h
  clear h
  have H' := Aside0.mk H
  clear H
  go_enter Tryd.func33, Tryd.ntmps33
  go_wp2
  go_loopg [3, 4, 5] k (fun kq v3 v4 v5 w' => ∃ (x3_1 : List ByteArray) (x4_1 : Int) (x5_1 : Int), v4 = .int .i64 x4_1 ∧ v5 = .int .i64 x5_1 ∧ Aside0 (copydeskref03_Sentences.l0 kq a0 x3_1 x4_1 x5_1 = some r) ∧ Aside0 (kq ≤ k) ∧ Aside0 (Kd.R Kd.string 9 w' w.heap.size (fun _ => True) v3 x3_1) ∧ Aside0 (Below w.heap.size w w'))
  case atStart => exact ⟨(([] : List ByteArray)), (0), (0), (by first | rfl | (simp; done) | (simp [*]; done)), (by first | rfl | (simp; done) | (simp [*]; done)), H', ⟨Nat.le_refl _⟩, ⟨by first | exact Kd.R_nil _ _ _ _ _ | exact Kd.N_nil _ _ _ _ _ | exact Kd.V_nil _ _ _ _ _ | exact Kd.Q_nil _ _ _ _ _ | exact Kd.S_nil _ _ _ _ _⟩, ⟨by repeat (first | (with_reducible first | exact HB.out | apply below_alloc | apply pw_below_drewN | apply below_drew1) | exact HB.out)⟩⟩
  case round =>
    clear H'
    obtain ⟨x3_1, x4_1, x5_1, rfl, rfl, HA, HK1, HO_3, HB⟩ := hrel
    cases gk with
    | zero => exact absurd HA.out (by simp [copydeskref03_Sentences.l0])
    | succ k1 =>
      have H := HA.out
      clear HA
      simp only [copydeskref03_Sentences.l0] at H
      by_cases c2 : x5_1 < (a0.size : Int)
      · rw [if_pos c2] at H
        have c2b0 : decide (x5_1 < (a0.size : Int)) = true := decide_eq_true c2
        clear c2
        replace H := Option.bind_eq_some_iff.mp H
        obtain ⟨t260, A30, H⟩ := H
        replace H : (if t260 = true then (if 0 ≤ x4_1 then (if x4_1 ≤ (wrap64 (x5_1 + 1)) then (if (wrap64 (x5_1 + 1)) ≤ (a0.size : Int) then ((copydeskref03_trimmed.f k1 (a0.extract (x4_1 : Int).toNat ((wrap64 (x5_1 + 1)) : Int).toNat)).bind fun t261 => (if x3_1.length < 8796093022208 then (copydeskref03_Sentences.l0 k1 a0 (x3_1 ++ [t261]) (wrap64 (x5_1 + 1)) (wrap64 (x5_1 + 1))) else (none))) else (none)) else (none)) else (none)) else (copydeskref03_Sentences.l0 k1 a0 x3_1 x4_1 (wrap64 (x5_1 + 1)))) = some r := H
        have A3 := Aside0.mk A30
        clear A30
        by_cases c4 : t260 = true
        · subst c4
          have H1 : (if 0 ≤ x4_1 then (if x4_1 ≤ (wrap64 (x5_1 + 1)) then (if (wrap64 (x5_1 + 1)) ≤ (a0.size : Int) then ((copydeskref03_trimmed.f k1 (a0.extract (x4_1 : Int).toNat ((wrap64 (x5_1 + 1)) : Int).toNat)).bind fun t261 => (if x3_1.length < 8796093022208 then (copydeskref03_Sentences.l0 k1 a0 (x3_1 ++ [t261]) (wrap64 (x5_1 + 1)) (wrap64 (x5_1 + 1))) else (none))) else (none)) else (none)) else (none)) = some r := by rw [if_pos rfl] at H; exact H
          clear H
          have H := H1
          clear H1
          by_cases c5 : 0 ≤ x4_1
          · rw [if_pos c5] at H
            have c5b0 := eq_true c5
            have c5b1 : decide (0 ≤ x4_1) = true := decide_eq_true c5
            clear c5
            by_cases c6 : x4_1 ≤ (wrap64 (x5_1 + 1))
            · rw [if_pos c6] at H
              have c6b0 := eq_true c6
              have c6b1 : decide (x4_1 ≤ (wrap64 (x5_1 + 1))) = true := decide_eq_true c6
              by_cases c7 : (wrap64 (x5_1 + 1)) ≤ (a0.size : Int)
              · rw [if_pos c7] at H
                have c7b0 := eq_true c7
                have c7b1 : decide ((wrap64 (x5_1 + 1)) ≤ (a0.size : Int)) = true := decide_eq_true c7
                replace H := Option.bind_eq_some_iff.mp H
                obtain ⟨t261, A80, H⟩ := H
                replace H : (if x3_1.length < 8796093022208 then (copydeskref03_Sentences.l0 k1 a0 (x3_1 ++ [t261]) (wrap64 (x5_1 + 1)) (wrap64 (x5_1 + 1))) else (none)) = some r := H
                have A8 := Aside0.mk A80
                clear A80
                by_cases c9 : x3_1.length < 8796093022208
                · rw [if_pos c9] at H
                  have LMc9 := Aside0.mk c9
                  clear c9
                  obtain ⟨y262, hy262⟩ : ∃ y_ : List ByteArray, y_ = (x3_1 ++ [t261]) := ⟨_, rfl⟩
                  replace H : (copydeskref03_Sentences.l0 k1 a0 y262 (wrap64 (x5_1 + 1)) (wrap64 (x5_1 + 1))) = some r := by first | (rw [hy262]; with_reducible exact H) | (have H2_ := (Option.bind_some _ _).symm.trans H; rw [hy262]; with_reducible exact H2_) | (have H2_ := (Option.bind_some _ _).symm.trans H; with_reducible exact H2_) | with_reducible exact H | (rw [hy262]; exact H) | exact H
                  have Ny262 := Aside0.mk hy262
                  clear hy262
                  have H' := Aside0.mk H
                  clear H
                  go_wp2_with (first | ((with_reducible refine gate_callee (f := 62) rfl ?_); refine goesL_ (some 16) rfl rfl Tryd.func62 (by kernel_rfl) rfl #[.string a0, .int .i64 x5_1] rfl (by (try simp only [List.map_toArray, List.map_cons, List.map_nil]); first | done | rfl | (simp only [List.length_drop, List.length_take]; rfl)) ?_; (with_reducible refine (copydeskref03_ends.calls k1 a0 x5_1 true _ A3.out).mono ?_); rintro e w' ⟨rfl, ⟨nd, rfl⟩⟩; refine ⟨_, rfl, ?_⟩) | ((with_reducible refine gate_callee (f := 63) rfl ?_); refine goesL_ (some 24) rfl rfl Tryd.func63 (by kernel_rfl) rfl #[.string (a0.extract (x4_1 : Int).toNat ((wrap64 (x5_1 + 1)) : Int).toNat)] rfl (by (try simp only [List.map_toArray, List.map_cons, List.map_nil]); first | done | rfl | (simp only [List.length_drop, List.length_take]; rfl)) ?_; (with_reducible refine (copydeskref03_trimmed.calls k1 (a0.extract (x4_1 : Int).toNat ((wrap64 (x5_1 + 1)) : Int).toNat) t261 _ A8.out).mono ?_); rintro e w' ⟨rfl, ⟨nd, rfl⟩⟩; refine ⟨_, rfl, ?_⟩) | ((with_reducible refine gate_builtin (b := .append) (xs := #[.tmp 18, .tmp 25]) rfl ?_); at_builtin; refine Kd.R_append Kd.string (w0 := w) w.heap.size rfl (.tmp 18) (.tmp 25) 42 9 (.string ⟨#[]⟩) 16 rfl Tryd.underlying42 info9 rfl (by decide) (by omega) u3 x3_1 t261 [.string t261] (fun _ => True) (fun _ => False) rfl rfl ?aP (fun _ hk => hk.elim) ?aF ?aO ?aB ?aS ?aL ?_; (case aP => exact rfl); (case aB => exact (by repeat (first | (with_reducible first | exact HB.out | apply below_alloc | apply pw_below_drewN | apply below_drew1) | exact HB.out))); (case aF => exact (fun _ _ => trivial)); (case aO => exact (by (with_reducible repeat (first | apply Kd.R_alloc | apply Kd.R_drewN | apply Kd.R_drew)); exact HO_3.out)); (case aS => exact (below_size (by repeat (first | (with_reducible first | exact HB.out | apply below_alloc | apply pw_below_drewN | apply below_drew1) | exact HB.out)))); (case aL => have := LMc9.out; omega); intro v263 w10 ho hb hg hat; rw [← Ny262.out] at ho; have n0_ := Aside0.mk (hb); have n1_ := Aside0.mk (ho); clear HB; clear HO_3; have HB := n0_; have HO264 := n1_; clear n0_ n1_; clear ho hb hg hat))
                  go_roundg k1
                  case measure => have := HK1.out; omega
                  case rel => exact ⟨(y262), (wrap64 (x5_1 + 1)), (wrap64 (x5_1 + 1)), (by first | rfl | (simp; done) | (simp [*]; done)), (by first | rfl | (simp; done) | (simp [*]; done)), H', ⟨by have := HK1.out; omega⟩, ⟨by (with_reducible repeat (first | apply Kd.R_alloc | apply Kd.R_drewN | apply Kd.R_drew)); exact HO264.out⟩, ⟨by repeat (first | (with_reducible first | exact HB.out | apply below_alloc | apply pw_below_drewN | apply below_drew1) | exact HB.out)⟩⟩
                · rw [if_neg c9] at H
                  exact absurd H (by simp)
              · rw [if_neg c7] at H
                exact absurd H (by simp)
            · rw [if_neg c6] at H
              exact absurd H (by simp)
          · rw [if_neg c5] at H
            exact absurd H (by simp)
        · replace c4 := Bool.eq_false_iff.mpr c4
          subst c4
          have H1 : (copydeskref03_Sentences.l0 k1 a0 x3_1 x4_1 (wrap64 (x5_1 + 1))) = some r := by rw [if_neg (show ¬ (false = true) by decide)] at H; exact H
          clear H
          have H := H1
          clear H1
          have H' := Aside0.mk H
          clear H
          go_wp2_with (first | ((with_reducible refine gate_callee (f := 62) rfl ?_); refine goesL_ (some 16) rfl rfl Tryd.func62 (by kernel_rfl) rfl #[.string a0, .int .i64 x5_1] rfl (by (try simp only [List.map_toArray, List.map_cons, List.map_nil]); first | done | rfl | (simp only [List.length_drop, List.length_take]; rfl)) ?_; (with_reducible refine (copydeskref03_ends.calls k1 a0 x5_1 false _ A3.out).mono ?_); rintro e w' ⟨rfl, ⟨nd, rfl⟩⟩; refine ⟨_, rfl, ?_⟩))
          go_roundg k1
          case measure => have := HK1.out; omega
          case rel => exact ⟨(x3_1), (x4_1), (wrap64 (x5_1 + 1)), (by first | rfl | (simp; done) | (simp [*]; done)), (by first | rfl | (simp; done) | (simp [*]; done)), H', ⟨by have := HK1.out; omega⟩, ⟨by (with_reducible repeat (first | apply Kd.R_alloc | apply Kd.R_drewN | apply Kd.R_drew)); exact HO_3.out⟩, ⟨by repeat (first | (with_reducible first | exact HB.out | apply below_alloc | apply pw_below_drewN | apply below_drew1) | exact HB.out)⟩⟩
      · rw [if_neg c2] at H
        have c2b0 : decide (x5_1 < (a0.size : Int)) = false := decide_eq_false c2
        clear c2
        by_cases c11 : 0 ≤ x4_1
        · rw [if_pos c11] at H
          have c11b0 := eq_true c11
          have c11b1 : decide (0 ≤ x4_1) = true := decide_eq_true c11
          clear c11
          by_cases c12 : x4_1 ≤ (a0.size : Int)
          · rw [if_pos c12] at H
            have c12b0 := eq_true c12
            have c12b1 : decide (x4_1 ≤ (a0.size : Int)) = true := decide_eq_true c12
            clear c12
            replace H := Option.bind_eq_some_iff.mp H
            obtain ⟨t256, A130, H⟩ := H
            replace H : (if t256.toList = ([] : List UInt8) then (some x3_1) else (if x3_1.length < 8796093022208 then (some (x3_1 ++ [t256])) else (none))) = some r := H
            have A13 := Aside0.mk A130
            clear A130
            by_cases c14 : t256.toList = ([] : List UInt8)
            · rw [if_pos c14] at H
              have c14b0 : (t256.toList == ([] : List UInt8)) = true := beq_iff_eq.mpr c14
              have c14b1 : (t256.toList != ([] : List UInt8)) = false := bne_eq_false_iff_eq.mpr c14
              clear c14
              obtain rfl := Option.some.inj H
              go_wp2_with (first | ((with_reducible refine gate_callee (f := 63) rfl ?_); refine goesL_ (some 32) rfl rfl Tryd.func63 (by kernel_rfl) rfl #[.string (a0.extract (x4_1 : Int).toNat a0.size)] rfl (by (try simp only [List.map_toArray, List.map_cons, List.map_nil]); first | done | rfl | (simp only [List.length_drop, List.length_take]; rfl)) ?_; (with_reducible refine (copydeskref03_trimmed.calls k1 (a0.extract (x4_1 : Int).toNat a0.size) t256 _ A13.out).mono ?_); rintro e w' ⟨rfl, ⟨nd, rfl⟩⟩; refine ⟨_, rfl, ?_⟩))
              go_ret
              exact ⟨_, by first | rfl | (simp [errW_none, errW_some] <;> rfl) | (simp [*, errW_none, errW_some] <;> rfl), by (with_reducible repeat (first | apply Kd.R_alloc | apply Kd.R_drewN | apply Kd.R_drew)); exact HO_3.out, by repeat (first | (with_reducible first | exact HB.out | apply below_alloc | apply pw_below_drewN | apply below_drew1) | exact HB.out)⟩
            · rw [if_neg c14] at H
              have c14b0 : (t256.toList == ([] : List UInt8)) = false := beq_eq_false_iff_ne.mpr c14
              have c14b1 : (t256.toList != ([] : List UInt8)) = true := bne_iff_ne.mpr c14
              by_cases c15 : x3_1.length < 8796093022208
              · rw [if_pos c15] at H
                have LMc15 := Aside0.mk c15
                clear c15
                obtain ⟨y257, hy257⟩ : ∃ y_ : List ByteArray, y_ = (x3_1 ++ [t256]) := ⟨_, rfl⟩
                replace H : (some y257) = some r := by first | (rw [hy257]; with_reducible exact H) | (have H2_ := (Option.bind_some _ _).symm.trans H; rw [hy257]; with_reducible exact H2_) | (have H2_ := (Option.bind_some _ _).symm.trans H; with_reducible exact H2_) | with_reducible exact H | (rw [hy257]; exact H) | exact H
                have Ny257 := Aside0.mk hy257
                clear hy257
                obtain rfl := Option.some.inj H
                go_wp2_with (first | ((with_reducible refine gate_callee (f := 63) rfl ?_); refine goesL_ (some 32) rfl rfl Tryd.func63 (by kernel_rfl) rfl #[.string (a0.extract (x4_1 : Int).toNat a0.size)] rfl (by (try simp only [List.map_toArray, List.map_cons, List.map_nil]); first | done | rfl | (simp only [List.length_drop, List.length_take]; rfl)) ?_; (with_reducible refine (copydeskref03_trimmed.calls k1 (a0.extract (x4_1 : Int).toNat a0.size) t256 _ A13.out).mono ?_); rintro e w' ⟨rfl, ⟨nd, rfl⟩⟩; refine ⟨_, rfl, ?_⟩) | ((with_reducible refine gate_builtin (b := .append) (xs := #[.tmp 35, .tmp 37]) rfl ?_); at_builtin; refine Kd.R_append Kd.string (w0 := w) w.heap.size rfl (.tmp 35) (.tmp 37) 42 9 (.string ⟨#[]⟩) 16 rfl Tryd.underlying42 info9 rfl (by decide) (by omega) u3 x3_1 t256 [.string t256] (fun _ => True) (fun _ => False) rfl rfl ?aP (fun _ hk => hk.elim) ?aF ?aO ?aB ?aS ?aL ?_; (case aP => exact rfl); (case aB => exact (by repeat (first | (with_reducible first | exact HB.out | apply below_alloc | apply pw_below_drewN | apply below_drew1) | exact HB.out))); (case aF => exact (fun _ _ => trivial)); (case aO => exact (by (with_reducible repeat (first | apply Kd.R_alloc | apply Kd.R_drewN | apply Kd.R_drew)); exact HO_3.out)); (case aS => exact (below_size (by repeat (first | (with_reducible first | exact HB.out | apply below_alloc | apply pw_below_drewN | apply below_drew1) | exact HB.out)))); (case aL => have := LMc15.out; omega); intro v258 w16 ho hb hg hat; rw [← Ny257.out] at ho; have n0_ := Aside0.mk (hb); have n1_ := Aside0.mk (ho); clear HB; clear HO_3; have HB := n0_; have HO259 := n1_; clear n0_ n1_; clear ho hb hg hat))
                go_ret
                exact ⟨_, by first | rfl | (simp [errW_none, errW_some] <;> rfl) | (simp [*, errW_none, errW_some] <;> rfl), by (with_reducible repeat (first | apply Kd.R_alloc | apply Kd.R_drewN | apply Kd.R_drew)); exact HO259.out, by repeat (first | (with_reducible first | exact HB.out | apply below_alloc | apply pw_below_drewN | apply below_drew1) | exact HB.out)⟩
              · rw [if_neg c15] at H
                exact absurd H (by simp)
          · rw [if_neg c12] at H
            exact absurd H (by simp)
        · rw [if_neg c11] at H
          exact absurd H (by simp)
end Go.Proofs.YtpgjhjlhipikgaaDoor.PK
end
section
namespace Go.Proofs.YtpgjhjlhipikgaaDoor.PK
open Go.RowKit Go.Proofs.YtpgjhjlhipikgaaDoorW.PrintWords Go.Proofs.YtpgjhjlhipikgaaDoorW.PrintLast Go.Proofs.YtpgjhjlhipikgaaDoorW.PrintMore
attribute [local go_sem] max2_int min2_int max_two min_two max_three min_three max_four min_four   -- for this text's walks alone
set_option linter.unusedVariables false
set_option linter.unusedSimpArgs false
mutual
def copydeskref03_Plain.l0 : Nat → List (S26) → ByteArray → Int → Option (ByteArray)
  | 0, _, _, _ => none
  | k + 1, x0, x3, x4 => if x4 < (x0.length : Int) then (if 0 ≤ x4 then (if ((rd_T26 x0 x4).f1) = 1 then (if x3.size + ((rd_T26 x0 x4).f2).size ≤ 9223372036854775807 then (if (x3 ++ ((rd_T26 x0 x4).f2)).size + 1 ≤ 9223372036854775807 then (copydeskref03_Plain.l0 k x0 ((x3 ++ ((rd_T26 x0 x4).f2)) ++ (⟨#[10]⟩ : ByteArray)) (wrap64 (x4 + 1))) else (none)) else (none)) else (if ((rd_T26 x0 x4).f1) = 2 then ((copydeskref03_Sentences.f k ((rd_T26 x0 x4).f2)).bind fun t276 => (copydeskref03_Plain.l1 k x0 x3 x4 t276 0)) else (if ((rd_T26 x0 x4).f1) = 3 then (if x3.size + 1 ≤ 9223372036854775807 then (if (x3 ++ (⟨#[34]⟩ : ByteArray)).size + ((rd_T26 x0 x4).f2).size ≤ 9223372036854775807 then (if ((x3 ++ (⟨#[34]⟩ : ByteArray)) ++ ((rd_T26 x0 x4).f2)).size + 2 ≤ 9223372036854775807 then (copydeskref03_Plain.l0 k x0 (((x3 ++ (⟨#[34]⟩ : ByteArray)) ++ ((rd_T26 x0 x4).f2)) ++ (⟨#[34, 10]⟩ : ByteArray)) (wrap64 (x4 + 1))) else (none)) else (none)) else (none)) else (if ((rd_T26 x0 x4).f1) = 4 then (if x3.size + 1 ≤ 9223372036854775807 then (if (x3 ++ (⟨#[91]⟩ : ByteArray)).size + ((rd_T26 x0 x4).f2).size ≤ 9223372036854775807 then (if ((x3 ++ (⟨#[91]⟩ : ByteArray)) ++ ((rd_T26 x0 x4).f2)).size + 2 ≤ 9223372036854775807 then (copydeskref03_Plain.l0 k x0 (((x3 ++ (⟨#[91]⟩ : ByteArray)) ++ ((rd_T26 x0 x4).f2)) ++ (⟨#[93, 10]⟩ : ByteArray)) (wrap64 (x4 + 1))) else (none)) else (none)) else (none)) else (if ((rd_T26 x0 x4).f1) = 5 then (if x3.size + 1 ≤ 9223372036854775807 then (if (x3 ++ (⟨#[35]⟩ : ByteArray)).size + ((rd_T26 x0 x4).f2).size ≤ 9223372036854775807 then (if ((x3 ++ (⟨#[35]⟩ : ByteArray)) ++ ((rd_T26 x0 x4).f2)).size + 1 ≤ 9223372036854775807 then (copydeskref03_Plain.l0 k x0 (((x3 ++ (⟨#[35]⟩ : ByteArray)) ++ ((rd_T26 x0 x4).f2)) ++ (⟨#[10]⟩ : ByteArray)) (wrap64 (x4 + 1))) else (none)) else (none)) else (none)) else (copydeskref03_Plain.l0 k x0 x3 (wrap64 (x4 + 1)))))))) else (none)) else (some x3)
def copydeskref03_Plain.l1 : Nat → List (S26) → ByteArray → Int → List ByteArray → Int → Option (ByteArray)
  | 0, _, _, _, _, _ => none
  | k + 1, x0, x3, x4, x5, x6 => if x6 < (x5.length : Int) then (if x6 > 0 then (if x3.size + 1 ≤ 9223372036854775807 then (if 0 ≤ x6 then (if (x3 ++ (⟨#[32]⟩ : ByteArray)).size + (rdOf ByteArray.empty x5 x6).size ≤ 9223372036854775807 then (copydeskref03_Plain.l1 k x0 ((x3 ++ (⟨#[32]⟩ : ByteArray)) ++ (rdOf ByteArray.empty x5 x6)) x4 x5 (wrap64 (x6 + 1))) else (none)) else (none)) else (none)) else (if 0 ≤ x6 then (if x3.size + (rdOf ByteArray.empty x5 x6).size ≤ 9223372036854775807 then (copydeskref03_Plain.l1 k x0 (x3 ++ (rdOf ByteArray.empty x5 x6)) x4 x5 (wrap64 (x6 + 1))) else (none)) else (none))) else (if x3.size + 1 ≤ 9223372036854775807 then (copydeskref03_Plain.l0 k x0 (x3 ++ (⟨#[10]⟩ : ByteArray)) (wrap64 (x4 + 1))) else (none))
end
def copydeskref03_Plain.f (k : Nat) (l0 : List (S26)) : Option (ByteArray) := copydeskref03_Plain.l0 k l0 (⟨#[]⟩ : ByteArray) 0
theorem copydeskref03_Plain.mono_l : ∀ k, (∀ y0 y1 y2, LeO (copydeskref03_Plain.l0 k y0 y1 y2) (copydeskref03_Plain.l0 (k + 1) y0 y1 y2)) ∧ (∀ y0 y1 y2 y3 y4, LeO (copydeskref03_Plain.l1 k y0 y1 y2 y3 y4) (copydeskref03_Plain.l1 (k + 1) y0 y1 y2 y3 y4))
  | 0 => ⟨fun _ _ _ r h => by simp [copydeskref03_Plain.l0] at h, fun _ _ _ _ _ r h => by simp [copydeskref03_Plain.l1] at h⟩
  | k + 1 => by
    obtain ⟨ih0, ih1⟩ := copydeskref03_Plain.mono_l k
    refine ⟨?_, ?_⟩
    · intro y0 y1 y2
      unfold copydeskref03_Plain.l0
      repeat' first
      | (with_reducible exact ih0 _ _ _)
      | (with_reducible exact ih1 _ _ _ _ _)
      | (with_reducible exact copydeskref03_Sentences.mono _ _)
      | (with_reducible exact LeO.refl _)
      | (with_reducible exact LeO.none _)
      | (with_reducible refine LeO.ite ?_ ?_)
      | (with_reducible refine LeO.bind ?_ (fun _ => ?_))
      | exact ih0 _ _ _
      | exact ih1 _ _ _ _ _
      | exact copydeskref03_Sentences.mono _ _
      | exact LeO.none _
      | refine LeO.ite ?_ ?_
      | refine LeO.bind ?_ (fun _ => ?_)
    · intro y0 y1 y2 y3 y4
      unfold copydeskref03_Plain.l1
      repeat' first
      | (with_reducible exact ih0 _ _ _)
      | (with_reducible exact ih1 _ _ _ _ _)
      | (with_reducible exact copydeskref03_Sentences.mono _ _)
      | (with_reducible exact LeO.refl _)
      | (with_reducible exact LeO.none _)
      | (with_reducible refine LeO.ite ?_ ?_)
      | (with_reducible refine LeO.bind ?_ (fun _ => ?_))
      | exact ih0 _ _ _
      | exact ih1 _ _ _ _ _
      | exact copydeskref03_Sentences.mono _ _
      | exact LeO.none _
      | refine LeO.ite ?_ ?_
      | refine LeO.bind ?_ (fun _ => ?_)
theorem copydeskref03_Plain.mono : ∀ a0 k, LeO (copydeskref03_Plain.f k a0) (copydeskref03_Plain.f (k + 1) a0) := by
  intro a0 k
  obtain ⟨ih0, ih1⟩ := copydeskref03_Plain.mono_l k
  unfold copydeskref03_Plain.f
  repeat' first
      | (with_reducible exact ih0 _ _ _)
      | (with_reducible exact ih1 _ _ _ _ _)
      | (with_reducible exact copydeskref03_Sentences.mono _ _)
      | (with_reducible exact LeO.refl _)
      | (with_reducible exact LeO.none _)
      | (with_reducible refine LeO.ite ?_ ?_)
      | (with_reducible refine LeO.bind ?_ (fun _ => ?_))
      | exact ih0 _ _ _
      | exact ih1 _ _ _ _ _
      | exact copydeskref03_Sentences.mono _ _
      | exact LeO.none _
      | refine LeO.ite ?_ ?_
      | refine LeO.bind ?_ (fun _ => ?_)
set_option maxHeartbeats 8000000 in
set_option maxRecDepth 100000 in
theorem copydeskref03_Plain.calls (k : Nat) (A0 : Option Addr) (c0 : Nat) (l0 : List (S26)) (r : ByteArray) (w : World) (hr0 : Kd.C k26 w A0 l0.length l0) (hc0 : l0.length ≤ c0) (h : copydeskref03_Plain.f k l0 = some r) :
    Calls Tryd.prog 35 #[.slice A0 l0.length c0] w fun e w' => e = .returned (.string r) ∧ Below w.heap.size w w' := by
  have HR0 := Aside0.mk hr0
  have HC0 := Aside0.mk hc0
  clear hr0 hc0
  have HB := Aside0.mk (Below.refl w.heap.size w)
  have H : (copydeskref03_Plain.l0 k l0 (⟨#[]⟩ : ByteArray) 0) = some r := h
  clear h
  have H' := Aside0.mk H
  clear H
  go_enter Tryd.func35, Tryd.ntmps35
  go_wp2
  go_loopg [3, 4] k (fun kq v3 v4 w' => ∃ (x3_1 : ByteArray) (x4_1 : Int), v3 = .string x3_1 ∧ v4 = .int .i64 x4_1 ∧ Aside0 (copydeskref03_Plain.l0 kq l0 x3_1 x4_1 = some r) ∧ Aside0 (kq ≤ k) ∧ Aside0 (Below w.heap.size w w'))
  case atStart => exact ⟨((⟨#[]⟩ : ByteArray)), (0), (by first | rfl | (simp; done) | (simp [*]; done)), (by first | rfl | (simp; done) | (simp [*]; done)), H', ⟨Nat.le_refl _⟩, ⟨by repeat (first | (with_reducible first | exact HB.out | apply below_alloc | apply pw_below_drewN | apply below_drew1) | exact HB.out)⟩⟩
  case round =>
    clear H'
    obtain ⟨x3_1, x4_1, rfl, rfl, HA, HK1, HB⟩ := hrel
    cases gk with
    | zero => exact absurd HA.out (by simp [copydeskref03_Plain.l0])
    | succ k1 =>
      have H := HA.out
      clear HA
      simp only [copydeskref03_Plain.l0] at H
      by_cases c2 : x4_1 < (l0.length : Int)
      · rw [if_pos c2] at H
        have c2b0 : decide (x4_1 < (l0.length : Int)) = true := decide_eq_true c2
        clear c2
        by_cases c3 : 0 ≤ x4_1
        · rw [if_pos c3] at H
          have c3b0 : decide (0 ≤ x4_1) = true := decide_eq_true c3
          clear c3
          by_cases c4 : ((rd_T26 l0 x4_1).f1) = 1
          · rw [if_pos c4] at H
            have c4b0 : (((rd_T26 l0 x4_1).f1) == 1) = true := beq_iff_eq.mpr c4
            have c4b1 : (((rd_T26 l0 x4_1).f1) != 1) = false := bne_eq_false_iff_eq.mpr c4
            clear c4
            by_cases c5 : x3_1.size + ((rd_T26 l0 x4_1).f2).size ≤ 9223372036854775807
            · rw [if_pos c5] at H
              have c5b0 := eq_true c5
              have c5b1 : decide (x3_1.size + ((rd_T26 l0 x4_1).f2).size ≤ 9223372036854775807) = true := decide_eq_true c5
              try have c5b2 : (9223372036854775807 < x3_1.size + ((rd_T26 l0 x4_1).f2).size) = False := eq_false (Nat.not_lt.2 c5)
              try have c5b3 := c5
              try rw [ByteArray.size_append] at c5b3
              try rw [ByteArray.size_append] at c5b3
              try have c5b4 := Nat.not_lt.2 c5b3
              try simp only [show ∀ (a b : UInt8), (⟨#[a, b]⟩ : ByteArray).size = 2 from fun _ _ => rfl, show ∀ (a : UInt8), (⟨#[a]⟩ : ByteArray).size = 1 from fun _ => rfl, Nat.reduceLeDiff] at c5b3
              by_cases c6 : (x3_1 ++ ((rd_T26 l0 x4_1).f2)).size + 1 ≤ 9223372036854775807
              · rw [if_pos c6] at H
                have c6b0 := eq_true c6
                have c6b1 : decide ((x3_1 ++ ((rd_T26 l0 x4_1).f2)).size + 1 ≤ 9223372036854775807) = true := decide_eq_true c6
                try have c6b2 : (9223372036854775807 < (x3_1 ++ ((rd_T26 l0 x4_1).f2)).size + 1) = False := eq_false (Nat.not_lt.2 c6)
                try have c6b3 := c6
                try rw [ByteArray.size_append] at c6b3
                try rw [ByteArray.size_append] at c6b3
                try have c6b4 := Nat.not_lt.2 c6b3
                try simp only [show ∀ (a b : UInt8), (⟨#[a, b]⟩ : ByteArray).size = 2 from fun _ _ => rfl, show ∀ (a : UInt8), (⟨#[a]⟩ : ByteArray).size = 1 from fun _ => rfl, Nat.reduceLeDiff] at c6b3
                have H' := Aside0.mk H
                clear H
                have p273 : 0 ≤ (x4_1 : Int) := of_decide_eq_true (by first | (with_reducible assumption) | assumption)
                have q273 : x4_1 < (l0.length : Int) := of_decide_eq_true (by first | (with_reducible assumption) | assumption)
                obtain ⟨ad273, A273_6, c273_6, e273, hx273_0, hx273_1, hx273_2, hx273_3, hx273_4, hx273_5, hx273_6, hx273_7, hx273_8, hl273_6, hi273_6⟩ := at_T26 HR0.out x4_1 p273 q273
                cases e273
                replace hx273_0 := (HB.out.cell (World.block_lt_of_cell? w _ hx273_0)).trans hx273_0
                replace hx273_1 := (HB.out.cell (World.block_lt_of_cell? w _ hx273_1)).trans hx273_1
                replace hx273_2 := (HB.out.cell (World.block_lt_of_cell? w _ hx273_2)).trans hx273_2
                replace hx273_3 := (HB.out.cell (World.block_lt_of_cell? w _ hx273_3)).trans hx273_3
                replace hx273_4 := (HB.out.cell (World.block_lt_of_cell? w _ hx273_4)).trans hx273_4
                replace hx273_5 := (HB.out.cell (World.block_lt_of_cell? w _ hx273_5)).trans hx273_5
                replace hx273_6 := (HB.out.cell (World.block_lt_of_cell? w _ hx273_6)).trans hx273_6
                replace hx273_7 := (HB.out.cell (World.block_lt_of_cell? w _ hx273_7)).trans hx273_7
                replace hx273_8 := (HB.out.cell (World.block_lt_of_cell? w _ hx273_8)).trans hx273_8
                have HR273_6 := Aside0.mk hi273_6
                have HC273_6 := Aside0.mk hl273_6
                clear hi273_6 hl273_6
                replace p273 := eq_true p273
                replace q273 := eq_true q273
                have p274 : 0 ≤ (x4_1 : Int) := of_decide_eq_true (by first | (with_reducible assumption) | assumption)
                have q274 : x4_1 < (l0.length : Int) := of_decide_eq_true (by first | (with_reducible assumption) | assumption)
                obtain ⟨ad274, A274_6, c274_6, e274, hx274_0, hx274_1, hx274_2, hx274_3, hx274_4, hx274_5, hx274_6, hx274_7, hx274_8, hl274_6, hi274_6⟩ := at_T26 HR0.out x4_1 p274 q274
                obtain rfl : ad273 = ad274 := (by injection e274)
                replace hx274_0 := (HB.out.cell (World.block_lt_of_cell? w _ hx274_0)).trans hx274_0
                replace hx274_1 := (HB.out.cell (World.block_lt_of_cell? w _ hx274_1)).trans hx274_1
                replace hx274_2 := (HB.out.cell (World.block_lt_of_cell? w _ hx274_2)).trans hx274_2
                replace hx274_3 := (HB.out.cell (World.block_lt_of_cell? w _ hx274_3)).trans hx274_3
                replace hx274_4 := (HB.out.cell (World.block_lt_of_cell? w _ hx274_4)).trans hx274_4
                replace hx274_5 := (HB.out.cell (World.block_lt_of_cell? w _ hx274_5)).trans hx274_5
                replace hx274_6 := (HB.out.cell (World.block_lt_of_cell? w _ hx274_6)).trans hx274_6
                replace hx274_7 := (HB.out.cell (World.block_lt_of_cell? w _ hx274_7)).trans hx274_7
                replace hx274_8 := (HB.out.cell (World.block_lt_of_cell? w _ hx274_8)).trans hx274_8
                have HR274_6 := Aside0.mk hi274_6
                have HC274_6 := Aside0.mk hl274_6
                clear hi274_6 hl274_6
                replace p274 := eq_true p274
                replace q274 := eq_true q274
                have ea_ := Option.some.inj (hx273_6.symm.trans hx274_6)
                injection ea_ with ea_ en_ ec_
                subst ea_
                subst ec_
                clear en_
                go_wp2
                go_roundg k1
                case measure => have := HK1.out; omega
                case rel => exact ⟨((x3_1 ++ ((rd_T26 l0 x4_1).f2)) ++ (⟨#[10]⟩ : ByteArray)), (wrap64 (x4_1 + 1)), (by first | rfl | (simp; done) | (simp [*]; done)), (by first | rfl | (simp; done) | (simp [*]; done)), H', ⟨by have := HK1.out; omega⟩, ⟨by repeat (first | (with_reducible first | exact HB.out | apply below_alloc | apply pw_below_drewN | apply below_drew1) | exact HB.out)⟩⟩
              · rw [if_neg c6] at H
                exact absurd H (by simp)
            · rw [if_neg c5] at H
              exact absurd H (by simp)
          · rw [if_neg c4] at H
            have c4b0 : (((rd_T26 l0 x4_1).f1) == 1) = false := beq_eq_false_iff_ne.mpr c4
            have c4b1 : (((rd_T26 l0 x4_1).f1) != 1) = true := bne_iff_ne.mpr c4
            by_cases c7 : ((rd_T26 l0 x4_1).f1) = 2
            · rw [if_pos c7] at H
              have c7b0 : (((rd_T26 l0 x4_1).f1) == 2) = true := beq_iff_eq.mpr c7
              have c7b1 : (((rd_T26 l0 x4_1).f1) != 2) = false := bne_eq_false_iff_eq.mpr c7
              clear c7
              replace H := Option.bind_eq_some_iff.mp H
              obtain ⟨t276, A80, H⟩ := H
              replace H : (copydeskref03_Plain.l1 k1 l0 x3_1 x4_1 t276 0) = some r := H
              have A8 := Aside0.mk A80
              clear A80
              have H' := Aside0.mk H
              clear H
              have p273 : 0 ≤ (x4_1 : Int) := of_decide_eq_true (by first | (with_reducible assumption) | assumption)
              have q273 : x4_1 < (l0.length : Int) := of_decide_eq_true (by first | (with_reducible assumption) | assumption)
              obtain ⟨ad273, A273_6, c273_6, e273, hx273_0, hx273_1, hx273_2, hx273_3, hx273_4, hx273_5, hx273_6, hx273_7, hx273_8, hl273_6, hi273_6⟩ := at_T26 HR0.out x4_1 p273 q273
              cases e273
              replace hx273_0 := (HB.out.cell (World.block_lt_of_cell? w _ hx273_0)).trans hx273_0
              replace hx273_1 := (HB.out.cell (World.block_lt_of_cell? w _ hx273_1)).trans hx273_1
              replace hx273_2 := (HB.out.cell (World.block_lt_of_cell? w _ hx273_2)).trans hx273_2
              replace hx273_3 := (HB.out.cell (World.block_lt_of_cell? w _ hx273_3)).trans hx273_3
              replace hx273_4 := (HB.out.cell (World.block_lt_of_cell? w _ hx273_4)).trans hx273_4
              replace hx273_5 := (HB.out.cell (World.block_lt_of_cell? w _ hx273_5)).trans hx273_5
              replace hx273_6 := (HB.out.cell (World.block_lt_of_cell? w _ hx273_6)).trans hx273_6
              replace hx273_7 := (HB.out.cell (World.block_lt_of_cell? w _ hx273_7)).trans hx273_7
              replace hx273_8 := (HB.out.cell (World.block_lt_of_cell? w _ hx273_8)).trans hx273_8
              have HR273_6 := Aside0.mk hi273_6
              have HC273_6 := Aside0.mk hl273_6
              clear hi273_6 hl273_6
              replace p273 := eq_true p273
              replace q273 := eq_true q273
              have p275 : 0 ≤ (x4_1 : Int) := of_decide_eq_true (by first | (with_reducible assumption) | assumption)
              have q275 : x4_1 < (l0.length : Int) := of_decide_eq_true (by first | (with_reducible assumption) | assumption)
              obtain ⟨ad275, A275_6, c275_6, e275, hx275_0, hx275_1, hx275_2, hx275_3, hx275_4, hx275_5, hx275_6, hx275_7, hx275_8, hl275_6, hi275_6⟩ := at_T26 HR0.out x4_1 p275 q275
              obtain rfl : ad273 = ad275 := (by injection e275)
              replace hx275_0 := (HB.out.cell (World.block_lt_of_cell? w _ hx275_0)).trans hx275_0
              replace hx275_1 := (HB.out.cell (World.block_lt_of_cell? w _ hx275_1)).trans hx275_1
              replace hx275_2 := (HB.out.cell (World.block_lt_of_cell? w _ hx275_2)).trans hx275_2
              replace hx275_3 := (HB.out.cell (World.block_lt_of_cell? w _ hx275_3)).trans hx275_3
              replace hx275_4 := (HB.out.cell (World.block_lt_of_cell? w _ hx275_4)).trans hx275_4
              replace hx275_5 := (HB.out.cell (World.block_lt_of_cell? w _ hx275_5)).trans hx275_5
              replace hx275_6 := (HB.out.cell (World.block_lt_of_cell? w _ hx275_6)).trans hx275_6
              replace hx275_7 := (HB.out.cell (World.block_lt_of_cell? w _ hx275_7)).trans hx275_7
              replace hx275_8 := (HB.out.cell (World.block_lt_of_cell? w _ hx275_8)).trans hx275_8
              have HR275_6 := Aside0.mk hi275_6
              have HC275_6 := Aside0.mk hl275_6
              clear hi275_6 hl275_6
              replace p275 := eq_true p275
              replace q275 := eq_true q275
              have ea_ := Option.some.inj (hx273_6.symm.trans hx275_6)
              injection ea_ with ea_ en_ ec_
              subst ea_
              subst ec_
              clear en_
              go_wp2_with (first | ((with_reducible refine gate_callee (f := 33) rfl ?_); refine goesL_ (some 35) rfl rfl Tryd.func33 (by kernel_rfl) rfl #[.string ((rd_T26 l0 x4_1).f2)] rfl (by (try simp only [List.map_toArray, List.map_cons, List.map_nil]); first | done | rfl | (simp only [List.length_drop, List.length_take]; rfl)) ?_; (with_reducible refine (copydeskref03_Sentences.calls k1 ((rd_T26 l0 x4_1).f2) t276 _ A8.out).mono ?_); rintro e w9 ⟨v277, rfl, ho0, hb⟩; refine ⟨_, rfl, ?_⟩; have n0_ := Aside0.mk (Kd.R_lower ho0 (below_size (by repeat (first | (with_reducible first | exact HB.out | apply below_alloc | apply pw_below_drewN | apply below_drew1) | exact HB.out)))); have n1_ := Aside0.mk (below_step (by repeat (first | (with_reducible first | exact HB.out | apply below_alloc | apply pw_below_drewN | apply below_drew1) | exact HB.out)) hb); clear HB; have HO278 := n0_; have HB := n1_; clear n0_ n1_; (try clear hb); (try clear hb2); (try clear hk); (try clear hi); (try clear ho0)))
              go_loopg [3, 6] k1 (fun kq v3 v6 w' => ∃ (x3_2 : ByteArray) (x6_2 : Int), v3 = .string x3_2 ∧ v6 = .int .i64 x6_2 ∧ Aside0 (copydeskref03_Plain.l1 kq l0 x3_2 x4_1 t276 x6_2 = some r) ∧ Aside0 (kq ≤ k1) ∧ Aside0 (Kd.R Kd.string 9 w' w.heap.size (fun _ => True) v277 t276) ∧ Aside0 (Below w.heap.size w w'))
              case atStart => exact ⟨(x3_1), (0), (by first | rfl | (simp; done) | (simp [*]; done)), (by first | rfl | (simp; done) | (simp [*]; done)), H', ⟨Nat.le_refl _⟩, ⟨by (with_reducible repeat (first | apply Kd.R_alloc | apply Kd.R_drewN | apply Kd.R_drew)); exact HO278.out⟩, ⟨by repeat (first | (with_reducible first | exact HB.out | apply below_alloc | apply pw_below_drewN | apply below_drew1) | exact HB.out)⟩⟩
              case round =>
                clear H'
                try clear c2
                try clear c2b0
                try clear p2
                try clear q2
                try clear hx2
                try clear c3
                try clear c3b0
                try clear c4
                try clear c4b0
                try clear c4b1
                try clear c5
                try clear c5b0
                try clear c5b1
                try clear c5b2
                try clear c6
                try clear c6b0
                try clear c6b1
                try clear c6b2
                try clear p6
                try clear c7
                try clear c7b0
                try clear c7b1
                try clear hx273_0
                try clear hx273_1
                try clear hx273_2
                try clear hx273_3
                try clear hx273_4
                try clear hx273_5
                try clear hx273_6
                try clear hx273_7
                try clear hx273_8
                try clear hx274_0
                try clear hx274_1
                try clear hx274_2
                try clear hx274_3
                try clear hx274_4
                try clear hx274_5
                try clear hx274_6
                try clear hx274_7
                try clear hx274_8
                try clear hx275_0
                try clear hx275_1
                try clear hx275_2
                try clear hx275_3
                try clear hx275_4
                try clear hx275_5
                try clear hx275_6
                try clear hx275_7
                try clear hx275_8
                try clear p273
                try clear p274
                try clear p275
                try clear q273
                try clear q274
                try clear q275
                obtain ⟨x3_2, x6_2, rfl, rfl, HA, HK2, HO_5, HB⟩ := hrel
                cases gk with
                | zero => exact absurd HA.out (by simp [copydeskref03_Plain.l1])
                | succ k2 =>
                  have H := HA.out
                  clear HA
                  simp only [copydeskref03_Plain.l1] at H
                  by_cases c10 : x6_2 < (t276.length : Int)
                  · rw [if_pos c10] at H
                    have c10b0 : decide (x6_2 < (t276.length : Int)) = true := decide_eq_true c10
                    clear c10
                    by_cases c11 : x6_2 > 0
                    · rw [if_pos c11] at H
                      have c11b0 : decide (0 < x6_2) = true := decide_eq_true c11
                      clear c11
                      by_cases c12 : x3_2.size + 1 ≤ 9223372036854775807
                      · rw [if_pos c12] at H
                        have c12b0 := eq_true c12
                        have c12b1 : decide (x3_2.size + 1 ≤ 9223372036854775807) = true := decide_eq_true c12
                        try have c12b2 : (9223372036854775807 < x3_2.size + 1) = False := eq_false (Nat.not_lt.2 c12)
                        try have c12b3 := c12
                        try rw [ByteArray.size_append] at c12b3
                        try rw [ByteArray.size_append] at c12b3
                        try have c12b4 := Nat.not_lt.2 c12b3
                        try simp only [show ∀ (a b : UInt8), (⟨#[a, b]⟩ : ByteArray).size = 2 from fun _ _ => rfl, show ∀ (a : UInt8), (⟨#[a]⟩ : ByteArray).size = 1 from fun _ => rfl, Nat.reduceLeDiff] at c12b3
                        by_cases c13 : 0 ≤ x6_2
                        · rw [if_pos c13] at H
                          have c13b0 : decide (0 ≤ x6_2) = true := decide_eq_true c13
                          clear c13
                          by_cases c14 : (x3_2 ++ (⟨#[32]⟩ : ByteArray)).size + (rdOf ByteArray.empty t276 x6_2).size ≤ 9223372036854775807
                          · rw [if_pos c14] at H
                            have c14b0 := eq_true c14
                            have c14b1 : decide ((x3_2 ++ (⟨#[32]⟩ : ByteArray)).size + (rdOf ByteArray.empty t276 x6_2).size ≤ 9223372036854775807) = true := decide_eq_true c14
                            try have c14b2 : (9223372036854775807 < (x3_2 ++ (⟨#[32]⟩ : ByteArray)).size + (rdOf ByteArray.empty t276 x6_2).size) = False := eq_false (Nat.not_lt.2 c14)
                            try have c14b3 := c14
                            try rw [ByteArray.size_append] at c14b3
                            try rw [ByteArray.size_append] at c14b3
                            try have c14b4 := Nat.not_lt.2 c14b3
                            try simp only [show ∀ (a b : UInt8), (⟨#[a, b]⟩ : ByteArray).size = 2 from fun _ _ => rfl, show ∀ (a : UInt8), (⟨#[a]⟩ : ByteArray).size = 1 from fun _ => rfl, Nat.reduceLeDiff] at c14b3
                            have H' := Aside0.mk H
                            clear H
                            obtain ⟨Ao15, co15, eo15⟩ := Kd.R_slice HO_5.out
                            subst eo15
                            have p279 : 0 ≤ (x6_2 : Int) := of_decide_eq_true (by first | (with_reducible assumption) | assumption)
                            have q279 : x6_2 < (t276.length : Int) := of_decide_eq_true (by first | (with_reducible assumption) | assumption)
                            obtain ⟨ad279, e279, hx279_0⟩ := Kd.at_string (Kd.R_reads' HO_5.out).2.2 x6_2 p279 q279
                            cases e279
                            replace p279 := eq_true p279
                            replace q279 := eq_true q279
                            go_wp2
                            go_roundg k2
                            case measure => have := HK1.out; have := HK2.out; omega
                            case rel => exact ⟨((x3_2 ++ (⟨#[32]⟩ : ByteArray)) ++ (rdOf ByteArray.empty t276 x6_2)), (wrap64 (x6_2 + 1)), (by first | rfl | (simp; done) | (simp [*]; done)), (by first | rfl | (simp; done) | (simp [*]; done)), H', ⟨by have := HK1.out; have := HK2.out; omega⟩, ⟨by (with_reducible repeat (first | apply Kd.R_alloc | apply Kd.R_drewN | apply Kd.R_drew)); exact HO_5.out⟩, ⟨by repeat (first | (with_reducible first | exact HB.out | apply below_alloc | apply pw_below_drewN | apply below_drew1) | exact HB.out)⟩⟩
                          · rw [if_neg c14] at H
                            exact absurd H (by simp)
                        · rw [if_neg c13] at H
                          exact absurd H (by simp)
                      · rw [if_neg c12] at H
                        exact absurd H (by simp)
                    · rw [if_neg c11] at H
                      have c11b0 : decide (0 < x6_2) = false := decide_eq_false c11
                      clear c11
                      by_cases c16 : 0 ≤ x6_2
                      · rw [if_pos c16] at H
                        have c16b0 : decide (0 ≤ x6_2) = true := decide_eq_true c16
                        clear c16
                        by_cases c17 : x3_2.size + (rdOf ByteArray.empty t276 x6_2).size ≤ 9223372036854775807
                        · rw [if_pos c17] at H
                          have c17b0 := eq_true c17
                          have c17b1 : decide (x3_2.size + (rdOf ByteArray.empty t276 x6_2).size ≤ 9223372036854775807) = true := decide_eq_true c17
                          try have c17b2 : (9223372036854775807 < x3_2.size + (rdOf ByteArray.empty t276 x6_2).size) = False := eq_false (Nat.not_lt.2 c17)
                          try have c17b3 := c17
                          try rw [ByteArray.size_append] at c17b3
                          try rw [ByteArray.size_append] at c17b3
                          try have c17b4 := Nat.not_lt.2 c17b3
                          try simp only [show ∀ (a b : UInt8), (⟨#[a, b]⟩ : ByteArray).size = 2 from fun _ _ => rfl, show ∀ (a : UInt8), (⟨#[a]⟩ : ByteArray).size = 1 from fun _ => rfl, Nat.reduceLeDiff] at c17b3
                          have H' := Aside0.mk H
                          clear H
                          obtain ⟨Ao18, co18, eo18⟩ := Kd.R_slice HO_5.out
                          subst eo18
                          have p280 : 0 ≤ (x6_2 : Int) := of_decide_eq_true (by first | (with_reducible assumption) | assumption)
                          have q280 : x6_2 < (t276.length : Int) := of_decide_eq_true (by first | (with_reducible assumption) | assumption)
                          obtain ⟨ad280, e280, hx280_0⟩ := Kd.at_string (Kd.R_reads' HO_5.out).2.2 x6_2 p280 q280
                          cases e280
                          replace p280 := eq_true p280
                          replace q280 := eq_true q280
                          go_wp2
                          go_roundg k2
                          case measure => have := HK1.out; have := HK2.out; omega
                          case rel => exact ⟨(x3_2 ++ (rdOf ByteArray.empty t276 x6_2)), (wrap64 (x6_2 + 1)), (by first | rfl | (simp; done) | (simp [*]; done)), (by first | rfl | (simp; done) | (simp [*]; done)), H', ⟨by have := HK1.out; have := HK2.out; omega⟩, ⟨by (with_reducible repeat (first | apply Kd.R_alloc | apply Kd.R_drewN | apply Kd.R_drew)); exact HO_5.out⟩, ⟨by repeat (first | (with_reducible first | exact HB.out | apply below_alloc | apply pw_below_drewN | apply below_drew1) | exact HB.out)⟩⟩
                        · rw [if_neg c17] at H
                          exact absurd H (by simp)
                      · rw [if_neg c16] at H
                        exact absurd H (by simp)
                  · rw [if_neg c10] at H
                    have c10b0 : decide (x6_2 < (t276.length : Int)) = false := decide_eq_false c10
                    clear c10
                    by_cases c19 : x3_2.size + 1 ≤ 9223372036854775807
                    · rw [if_pos c19] at H
                      have c19b0 := eq_true c19
                      have c19b1 : decide (x3_2.size + 1 ≤ 9223372036854775807) = true := decide_eq_true c19
                      try have c19b2 : (9223372036854775807 < x3_2.size + 1) = False := eq_false (Nat.not_lt.2 c19)
                      try have c19b3 := c19
                      try rw [ByteArray.size_append] at c19b3
                      try rw [ByteArray.size_append] at c19b3
                      try have c19b4 := Nat.not_lt.2 c19b3
                      try simp only [show ∀ (a b : UInt8), (⟨#[a, b]⟩ : ByteArray).size = 2 from fun _ _ => rfl, show ∀ (a : UInt8), (⟨#[a]⟩ : ByteArray).size = 1 from fun _ => rfl, Nat.reduceLeDiff] at c19b3
                      have H' := Aside0.mk H
                      clear H
                      obtain ⟨Ao20, co20, eo20⟩ := Kd.R_slice HO_5.out
                      subst eo20
                      go_wp2
                      go_roundg k2
                      case measure => have := HK1.out; have := HK2.out; omega
                      case rel => exact ⟨(x3_2 ++ (⟨#[10]⟩ : ByteArray)), (wrap64 (x4_1 + 1)), (by first | rfl | (simp; done) | (simp [*]; done)), (by first | rfl | (simp; done) | (simp [*]; done)), H', ⟨by have := HK1.out; have := HK2.out; omega⟩, ⟨by repeat (first | (with_reducible first | exact HB.out | apply below_alloc | apply pw_below_drewN | apply below_drew1) | exact HB.out)⟩⟩
                    · rw [if_neg c19] at H
                      exact absurd H (by simp)
            · rw [if_neg c7] at H
              have c7b0 : (((rd_T26 l0 x4_1).f1) == 2) = false := beq_eq_false_iff_ne.mpr c7
              have c7b1 : (((rd_T26 l0 x4_1).f1) != 2) = true := bne_iff_ne.mpr c7
              by_cases c21 : ((rd_T26 l0 x4_1).f1) = 3
              · rw [if_pos c21] at H
                have c21b0 : (((rd_T26 l0 x4_1).f1) == 3) = true := beq_iff_eq.mpr c21
                have c21b1 : (((rd_T26 l0 x4_1).f1) != 3) = false := bne_eq_false_iff_eq.mpr c21
                clear c21
                by_cases c22 : x3_1.size + 1 ≤ 9223372036854775807
                · rw [if_pos c22] at H
                  have c22b0 := eq_true c22
                  have c22b1 : decide (x3_1.size + 1 ≤ 9223372036854775807) = true := decide_eq_true c22
                  try have c22b2 : (9223372036854775807 < x3_1.size + 1) = False := eq_false (Nat.not_lt.2 c22)
                  try have c22b3 := c22
                  try rw [ByteArray.size_append] at c22b3
                  try rw [ByteArray.size_append] at c22b3
                  try have c22b4 := Nat.not_lt.2 c22b3
                  try simp only [show ∀ (a b : UInt8), (⟨#[a, b]⟩ : ByteArray).size = 2 from fun _ _ => rfl, show ∀ (a : UInt8), (⟨#[a]⟩ : ByteArray).size = 1 from fun _ => rfl, Nat.reduceLeDiff] at c22b3
                  by_cases c23 : (x3_1 ++ (⟨#[34]⟩ : ByteArray)).size + ((rd_T26 l0 x4_1).f2).size ≤ 9223372036854775807
                  · rw [if_pos c23] at H
                    have c23b0 := eq_true c23
                    have c23b1 : decide ((x3_1 ++ (⟨#[34]⟩ : ByteArray)).size + ((rd_T26 l0 x4_1).f2).size ≤ 9223372036854775807) = true := decide_eq_true c23
                    try have c23b2 : (9223372036854775807 < (x3_1 ++ (⟨#[34]⟩ : ByteArray)).size + ((rd_T26 l0 x4_1).f2).size) = False := eq_false (Nat.not_lt.2 c23)
                    try have c23b3 := c23
                    try rw [ByteArray.size_append] at c23b3
                    try rw [ByteArray.size_append] at c23b3
                    try have c23b4 := Nat.not_lt.2 c23b3
                    try simp only [show ∀ (a b : UInt8), (⟨#[a, b]⟩ : ByteArray).size = 2 from fun _ _ => rfl, show ∀ (a : UInt8), (⟨#[a]⟩ : ByteArray).size = 1 from fun _ => rfl, Nat.reduceLeDiff] at c23b3
                    by_cases c24 : ((x3_1 ++ (⟨#[34]⟩ : ByteArray)) ++ ((rd_T26 l0 x4_1).f2)).size + 2 ≤ 9223372036854775807
                    · rw [if_pos c24] at H
                      have c24b0 := eq_true c24
                      have c24b1 : decide (((x3_1 ++ (⟨#[34]⟩ : ByteArray)) ++ ((rd_T26 l0 x4_1).f2)).size + 2 ≤ 9223372036854775807) = true := decide_eq_true c24
                      try have c24b2 : (9223372036854775807 < ((x3_1 ++ (⟨#[34]⟩ : ByteArray)) ++ ((rd_T26 l0 x4_1).f2)).size + 2) = False := eq_false (Nat.not_lt.2 c24)
                      try have c24b3 := c24
                      try rw [ByteArray.size_append] at c24b3
                      try rw [ByteArray.size_append] at c24b3
                      try have c24b4 := Nat.not_lt.2 c24b3
                      try simp only [show ∀ (a b : UInt8), (⟨#[a, b]⟩ : ByteArray).size = 2 from fun _ _ => rfl, show ∀ (a : UInt8), (⟨#[a]⟩ : ByteArray).size = 1 from fun _ => rfl, Nat.reduceLeDiff] at c24b3
                      have H' := Aside0.mk H
                      clear H
                      have p273 : 0 ≤ (x4_1 : Int) := of_decide_eq_true (by first | (with_reducible assumption) | assumption)
                      have q273 : x4_1 < (l0.length : Int) := of_decide_eq_true (by first | (with_reducible assumption) | assumption)
                      obtain ⟨ad273, A273_6, c273_6, e273, hx273_0, hx273_1, hx273_2, hx273_3, hx273_4, hx273_5, hx273_6, hx273_7, hx273_8, hl273_6, hi273_6⟩ := at_T26 HR0.out x4_1 p273 q273
                      cases e273
                      replace hx273_0 := (HB.out.cell (World.block_lt_of_cell? w _ hx273_0)).trans hx273_0
                      replace hx273_1 := (HB.out.cell (World.block_lt_of_cell? w _ hx273_1)).trans hx273_1
                      replace hx273_2 := (HB.out.cell (World.block_lt_of_cell? w _ hx273_2)).trans hx273_2
                      replace hx273_3 := (HB.out.cell (World.block_lt_of_cell? w _ hx273_3)).trans hx273_3
                      replace hx273_4 := (HB.out.cell (World.block_lt_of_cell? w _ hx273_4)).trans hx273_4
                      replace hx273_5 := (HB.out.cell (World.block_lt_of_cell? w _ hx273_5)).trans hx273_5
                      replace hx273_6 := (HB.out.cell (World.block_lt_of_cell? w _ hx273_6)).trans hx273_6
                      replace hx273_7 := (HB.out.cell (World.block_lt_of_cell? w _ hx273_7)).trans hx273_7
                      replace hx273_8 := (HB.out.cell (World.block_lt_of_cell? w _ hx273_8)).trans hx273_8
                      have HR273_6 := Aside0.mk hi273_6
                      have HC273_6 := Aside0.mk hl273_6
                      clear hi273_6 hl273_6
                      replace p273 := eq_true p273
                      replace q273 := eq_true q273
                      have p281 : 0 ≤ (x4_1 : Int) := of_decide_eq_true (by first | (with_reducible assumption) | assumption)
                      have q281 : x4_1 < (l0.length : Int) := of_decide_eq_true (by first | (with_reducible assumption) | assumption)
                      obtain ⟨ad281, A281_6, c281_6, e281, hx281_0, hx281_1, hx281_2, hx281_3, hx281_4, hx281_5, hx281_6, hx281_7, hx281_8, hl281_6, hi281_6⟩ := at_T26 HR0.out x4_1 p281 q281
                      obtain rfl : ad273 = ad281 := (by injection e281)
                      replace hx281_0 := (HB.out.cell (World.block_lt_of_cell? w _ hx281_0)).trans hx281_0
                      replace hx281_1 := (HB.out.cell (World.block_lt_of_cell? w _ hx281_1)).trans hx281_1
                      replace hx281_2 := (HB.out.cell (World.block_lt_of_cell? w _ hx281_2)).trans hx281_2
                      replace hx281_3 := (HB.out.cell (World.block_lt_of_cell? w _ hx281_3)).trans hx281_3
                      replace hx281_4 := (HB.out.cell (World.block_lt_of_cell? w _ hx281_4)).trans hx281_4
                      replace hx281_5 := (HB.out.cell (World.block_lt_of_cell? w _ hx281_5)).trans hx281_5
                      replace hx281_6 := (HB.out.cell (World.block_lt_of_cell? w _ hx281_6)).trans hx281_6
                      replace hx281_7 := (HB.out.cell (World.block_lt_of_cell? w _ hx281_7)).trans hx281_7
                      replace hx281_8 := (HB.out.cell (World.block_lt_of_cell? w _ hx281_8)).trans hx281_8
                      have HR281_6 := Aside0.mk hi281_6
                      have HC281_6 := Aside0.mk hl281_6
                      clear hi281_6 hl281_6
                      replace p281 := eq_true p281
                      replace q281 := eq_true q281
                      have ea_ := Option.some.inj (hx273_6.symm.trans hx281_6)
                      injection ea_ with ea_ en_ ec_
                      subst ea_
                      subst ec_
                      clear en_
                      go_wp2
                      go_roundg k1
                      case measure => have := HK1.out; omega
                      case rel => exact ⟨(((x3_1 ++ (⟨#[34]⟩ : ByteArray)) ++ ((rd_T26 l0 x4_1).f2)) ++ (⟨#[34, 10]⟩ : ByteArray)), (wrap64 (x4_1 + 1)), (by first | rfl | (simp; done) | (simp [*]; done)), (by first | rfl | (simp; done) | (simp [*]; done)), H', ⟨by have := HK1.out; omega⟩, ⟨by repeat (first | (with_reducible first | exact HB.out | apply below_alloc | apply pw_below_drewN | apply below_drew1) | exact HB.out)⟩⟩
                    · rw [if_neg c24] at H
                      exact absurd H (by simp)
                  · rw [if_neg c23] at H
                    exact absurd H (by simp)
                · rw [if_neg c22] at H
                  exact absurd H (by simp)
              · rw [if_neg c21] at H
                have c21b0 : (((rd_T26 l0 x4_1).f1) == 3) = false := beq_eq_false_iff_ne.mpr c21
                have c21b1 : (((rd_T26 l0 x4_1).f1) != 3) = true := bne_iff_ne.mpr c21
                by_cases c25 : ((rd_T26 l0 x4_1).f1) = 4
                · rw [if_pos c25] at H
                  have c25b0 : (((rd_T26 l0 x4_1).f1) == 4) = true := beq_iff_eq.mpr c25
                  have c25b1 : (((rd_T26 l0 x4_1).f1) != 4) = false := bne_eq_false_iff_eq.mpr c25
                  clear c25
                  by_cases c26 : x3_1.size + 1 ≤ 9223372036854775807
                  · rw [if_pos c26] at H
                    have c26b0 := eq_true c26
                    have c26b1 : decide (x3_1.size + 1 ≤ 9223372036854775807) = true := decide_eq_true c26
                    try have c26b2 : (9223372036854775807 < x3_1.size + 1) = False := eq_false (Nat.not_lt.2 c26)
                    try have c26b3 := c26
                    try rw [ByteArray.size_append] at c26b3
                    try rw [ByteArray.size_append] at c26b3
                    try have c26b4 := Nat.not_lt.2 c26b3
                    try simp only [show ∀ (a b : UInt8), (⟨#[a, b]⟩ : ByteArray).size = 2 from fun _ _ => rfl, show ∀ (a : UInt8), (⟨#[a]⟩ : ByteArray).size = 1 from fun _ => rfl, Nat.reduceLeDiff] at c26b3
                    by_cases c27 : (x3_1 ++ (⟨#[91]⟩ : ByteArray)).size + ((rd_T26 l0 x4_1).f2).size ≤ 9223372036854775807
                    · rw [if_pos c27] at H
                      have c27b0 := eq_true c27
                      have c27b1 : decide ((x3_1 ++ (⟨#[91]⟩ : ByteArray)).size + ((rd_T26 l0 x4_1).f2).size ≤ 9223372036854775807) = true := decide_eq_true c27
                      try have c27b2 : (9223372036854775807 < (x3_1 ++ (⟨#[91]⟩ : ByteArray)).size + ((rd_T26 l0 x4_1).f2).size) = False := eq_false (Nat.not_lt.2 c27)
                      try have c27b3 := c27
                      try rw [ByteArray.size_append] at c27b3
                      try rw [ByteArray.size_append] at c27b3
                      try have c27b4 := Nat.not_lt.2 c27b3
                      try simp only [show ∀ (a b : UInt8), (⟨#[a, b]⟩ : ByteArray).size = 2 from fun _ _ => rfl, show ∀ (a : UInt8), (⟨#[a]⟩ : ByteArray).size = 1 from fun _ => rfl, Nat.reduceLeDiff] at c27b3
                      by_cases c28 : ((x3_1 ++ (⟨#[91]⟩ : ByteArray)) ++ ((rd_T26 l0 x4_1).f2)).size + 2 ≤ 9223372036854775807
                      · rw [if_pos c28] at H
                        have c28b0 := eq_true c28
                        have c28b1 : decide (((x3_1 ++ (⟨#[91]⟩ : ByteArray)) ++ ((rd_T26 l0 x4_1).f2)).size + 2 ≤ 9223372036854775807) = true := decide_eq_true c28
                        try have c28b2 : (9223372036854775807 < ((x3_1 ++ (⟨#[91]⟩ : ByteArray)) ++ ((rd_T26 l0 x4_1).f2)).size + 2) = False := eq_false (Nat.not_lt.2 c28)
                        try have c28b3 := c28
                        try rw [ByteArray.size_append] at c28b3
                        try rw [ByteArray.size_append] at c28b3
                        try have c28b4 := Nat.not_lt.2 c28b3
                        try simp only [show ∀ (a b : UInt8), (⟨#[a, b]⟩ : ByteArray).size = 2 from fun _ _ => rfl, show ∀ (a : UInt8), (⟨#[a]⟩ : ByteArray).size = 1 from fun _ => rfl, Nat.reduceLeDiff] at c28b3
                        have H' := Aside0.mk H
                        clear H
                        have p273 : 0 ≤ (x4_1 : Int) := of_decide_eq_true (by first | (with_reducible assumption) | assumption)
                        have q273 : x4_1 < (l0.length : Int) := of_decide_eq_true (by first | (with_reducible assumption) | assumption)
                        obtain ⟨ad273, A273_6, c273_6, e273, hx273_0, hx273_1, hx273_2, hx273_3, hx273_4, hx273_5, hx273_6, hx273_7, hx273_8, hl273_6, hi273_6⟩ := at_T26 HR0.out x4_1 p273 q273
                        cases e273
                        replace hx273_0 := (HB.out.cell (World.block_lt_of_cell? w _ hx273_0)).trans hx273_0
                        replace hx273_1 := (HB.out.cell (World.block_lt_of_cell? w _ hx273_1)).trans hx273_1
                        replace hx273_2 := (HB.out.cell (World.block_lt_of_cell? w _ hx273_2)).trans hx273_2
                        replace hx273_3 := (HB.out.cell (World.block_lt_of_cell? w _ hx273_3)).trans hx273_3
                        replace hx273_4 := (HB.out.cell (World.block_lt_of_cell? w _ hx273_4)).trans hx273_4
                        replace hx273_5 := (HB.out.cell (World.block_lt_of_cell? w _ hx273_5)).trans hx273_5
                        replace hx273_6 := (HB.out.cell (World.block_lt_of_cell? w _ hx273_6)).trans hx273_6
                        replace hx273_7 := (HB.out.cell (World.block_lt_of_cell? w _ hx273_7)).trans hx273_7
                        replace hx273_8 := (HB.out.cell (World.block_lt_of_cell? w _ hx273_8)).trans hx273_8
                        have HR273_6 := Aside0.mk hi273_6
                        have HC273_6 := Aside0.mk hl273_6
                        clear hi273_6 hl273_6
                        replace p273 := eq_true p273
                        replace q273 := eq_true q273
                        have p282 : 0 ≤ (x4_1 : Int) := of_decide_eq_true (by first | (with_reducible assumption) | assumption)
                        have q282 : x4_1 < (l0.length : Int) := of_decide_eq_true (by first | (with_reducible assumption) | assumption)
                        obtain ⟨ad282, A282_6, c282_6, e282, hx282_0, hx282_1, hx282_2, hx282_3, hx282_4, hx282_5, hx282_6, hx282_7, hx282_8, hl282_6, hi282_6⟩ := at_T26 HR0.out x4_1 p282 q282
                        obtain rfl : ad273 = ad282 := (by injection e282)
                        replace hx282_0 := (HB.out.cell (World.block_lt_of_cell? w _ hx282_0)).trans hx282_0
                        replace hx282_1 := (HB.out.cell (World.block_lt_of_cell? w _ hx282_1)).trans hx282_1
                        replace hx282_2 := (HB.out.cell (World.block_lt_of_cell? w _ hx282_2)).trans hx282_2
                        replace hx282_3 := (HB.out.cell (World.block_lt_of_cell? w _ hx282_3)).trans hx282_3
                        replace hx282_4 := (HB.out.cell (World.block_lt_of_cell? w _ hx282_4)).trans hx282_4
                        replace hx282_5 := (HB.out.cell (World.block_lt_of_cell? w _ hx282_5)).trans hx282_5
                        replace hx282_6 := (HB.out.cell (World.block_lt_of_cell? w _ hx282_6)).trans hx282_6
                        replace hx282_7 := (HB.out.cell (World.block_lt_of_cell? w _ hx282_7)).trans hx282_7
                        replace hx282_8 := (HB.out.cell (World.block_lt_of_cell? w _ hx282_8)).trans hx282_8
                        have HR282_6 := Aside0.mk hi282_6
                        have HC282_6 := Aside0.mk hl282_6
                        clear hi282_6 hl282_6
                        replace p282 := eq_true p282
                        replace q282 := eq_true q282
                        have ea_ := Option.some.inj (hx273_6.symm.trans hx282_6)
                        injection ea_ with ea_ en_ ec_
                        subst ea_
                        subst ec_
                        clear en_
                        go_wp2
                        go_roundg k1
                        case measure => have := HK1.out; omega
                        case rel => exact ⟨(((x3_1 ++ (⟨#[91]⟩ : ByteArray)) ++ ((rd_T26 l0 x4_1).f2)) ++ (⟨#[93, 10]⟩ : ByteArray)), (wrap64 (x4_1 + 1)), (by first | rfl | (simp; done) | (simp [*]; done)), (by first | rfl | (simp; done) | (simp [*]; done)), H', ⟨by have := HK1.out; omega⟩, ⟨by repeat (first | (with_reducible first | exact HB.out | apply below_alloc | apply pw_below_drewN | apply below_drew1) | exact HB.out)⟩⟩
                      · rw [if_neg c28] at H
                        exact absurd H (by simp)
                    · rw [if_neg c27] at H
                      exact absurd H (by simp)
                  · rw [if_neg c26] at H
                    exact absurd H (by simp)
                · rw [if_neg c25] at H
                  have c25b0 : (((rd_T26 l0 x4_1).f1) == 4) = false := beq_eq_false_iff_ne.mpr c25
                  have c25b1 : (((rd_T26 l0 x4_1).f1) != 4) = true := bne_iff_ne.mpr c25
                  by_cases c29 : ((rd_T26 l0 x4_1).f1) = 5
                  · rw [if_pos c29] at H
                    have c29b0 : (((rd_T26 l0 x4_1).f1) == 5) = true := beq_iff_eq.mpr c29
                    have c29b1 : (((rd_T26 l0 x4_1).f1) != 5) = false := bne_eq_false_iff_eq.mpr c29
                    clear c29
                    by_cases c30 : x3_1.size + 1 ≤ 9223372036854775807
                    · rw [if_pos c30] at H
                      have c30b0 := eq_true c30
                      have c30b1 : decide (x3_1.size + 1 ≤ 9223372036854775807) = true := decide_eq_true c30
                      try have c30b2 : (9223372036854775807 < x3_1.size + 1) = False := eq_false (Nat.not_lt.2 c30)
                      try have c30b3 := c30
                      try rw [ByteArray.size_append] at c30b3
                      try rw [ByteArray.size_append] at c30b3
                      try have c30b4 := Nat.not_lt.2 c30b3
                      try simp only [show ∀ (a b : UInt8), (⟨#[a, b]⟩ : ByteArray).size = 2 from fun _ _ => rfl, show ∀ (a : UInt8), (⟨#[a]⟩ : ByteArray).size = 1 from fun _ => rfl, Nat.reduceLeDiff] at c30b3
                      by_cases c31 : (x3_1 ++ (⟨#[35]⟩ : ByteArray)).size + ((rd_T26 l0 x4_1).f2).size ≤ 9223372036854775807
                      · rw [if_pos c31] at H
                        have c31b0 := eq_true c31
                        have c31b1 : decide ((x3_1 ++ (⟨#[35]⟩ : ByteArray)).size + ((rd_T26 l0 x4_1).f2).size ≤ 9223372036854775807) = true := decide_eq_true c31
                        try have c31b2 : (9223372036854775807 < (x3_1 ++ (⟨#[35]⟩ : ByteArray)).size + ((rd_T26 l0 x4_1).f2).size) = False := eq_false (Nat.not_lt.2 c31)
                        try have c31b3 := c31
                        try rw [ByteArray.size_append] at c31b3
                        try rw [ByteArray.size_append] at c31b3
                        try have c31b4 := Nat.not_lt.2 c31b3
                        try simp only [show ∀ (a b : UInt8), (⟨#[a, b]⟩ : ByteArray).size = 2 from fun _ _ => rfl, show ∀ (a : UInt8), (⟨#[a]⟩ : ByteArray).size = 1 from fun _ => rfl, Nat.reduceLeDiff] at c31b3
                        by_cases c32 : ((x3_1 ++ (⟨#[35]⟩ : ByteArray)) ++ ((rd_T26 l0 x4_1).f2)).size + 1 ≤ 9223372036854775807
                        · rw [if_pos c32] at H
                          have c32b0 := eq_true c32
                          have c32b1 : decide (((x3_1 ++ (⟨#[35]⟩ : ByteArray)) ++ ((rd_T26 l0 x4_1).f2)).size + 1 ≤ 9223372036854775807) = true := decide_eq_true c32
                          try have c32b2 : (9223372036854775807 < ((x3_1 ++ (⟨#[35]⟩ : ByteArray)) ++ ((rd_T26 l0 x4_1).f2)).size + 1) = False := eq_false (Nat.not_lt.2 c32)
                          try have c32b3 := c32
                          try rw [ByteArray.size_append] at c32b3
                          try rw [ByteArray.size_append] at c32b3
                          try have c32b4 := Nat.not_lt.2 c32b3
                          try simp only [show ∀ (a b : UInt8), (⟨#[a, b]⟩ : ByteArray).size = 2 from fun _ _ => rfl, show ∀ (a : UInt8), (⟨#[a]⟩ : ByteArray).size = 1 from fun _ => rfl, Nat.reduceLeDiff] at c32b3
                          have H' := Aside0.mk H
                          clear H
                          have p273 : 0 ≤ (x4_1 : Int) := of_decide_eq_true (by first | (with_reducible assumption) | assumption)
                          have q273 : x4_1 < (l0.length : Int) := of_decide_eq_true (by first | (with_reducible assumption) | assumption)
                          obtain ⟨ad273, A273_6, c273_6, e273, hx273_0, hx273_1, hx273_2, hx273_3, hx273_4, hx273_5, hx273_6, hx273_7, hx273_8, hl273_6, hi273_6⟩ := at_T26 HR0.out x4_1 p273 q273
                          cases e273
                          replace hx273_0 := (HB.out.cell (World.block_lt_of_cell? w _ hx273_0)).trans hx273_0
                          replace hx273_1 := (HB.out.cell (World.block_lt_of_cell? w _ hx273_1)).trans hx273_1
                          replace hx273_2 := (HB.out.cell (World.block_lt_of_cell? w _ hx273_2)).trans hx273_2
                          replace hx273_3 := (HB.out.cell (World.block_lt_of_cell? w _ hx273_3)).trans hx273_3
                          replace hx273_4 := (HB.out.cell (World.block_lt_of_cell? w _ hx273_4)).trans hx273_4
                          replace hx273_5 := (HB.out.cell (World.block_lt_of_cell? w _ hx273_5)).trans hx273_5
                          replace hx273_6 := (HB.out.cell (World.block_lt_of_cell? w _ hx273_6)).trans hx273_6
                          replace hx273_7 := (HB.out.cell (World.block_lt_of_cell? w _ hx273_7)).trans hx273_7
                          replace hx273_8 := (HB.out.cell (World.block_lt_of_cell? w _ hx273_8)).trans hx273_8
                          have HR273_6 := Aside0.mk hi273_6
                          have HC273_6 := Aside0.mk hl273_6
                          clear hi273_6 hl273_6
                          replace p273 := eq_true p273
                          replace q273 := eq_true q273
                          have p283 : 0 ≤ (x4_1 : Int) := of_decide_eq_true (by first | (with_reducible assumption) | assumption)
                          have q283 : x4_1 < (l0.length : Int) := of_decide_eq_true (by first | (with_reducible assumption) | assumption)
                          obtain ⟨ad283, A283_6, c283_6, e283, hx283_0, hx283_1, hx283_2, hx283_3, hx283_4, hx283_5, hx283_6, hx283_7, hx283_8, hl283_6, hi283_6⟩ := at_T26 HR0.out x4_1 p283 q283
                          obtain rfl : ad273 = ad283 := (by injection e283)
                          replace hx283_0 := (HB.out.cell (World.block_lt_of_cell? w _ hx283_0)).trans hx283_0
                          replace hx283_1 := (HB.out.cell (World.block_lt_of_cell? w _ hx283_1)).trans hx283_1
                          replace hx283_2 := (HB.out.cell (World.block_lt_of_cell? w _ hx283_2)).trans hx283_2
                          replace hx283_3 := (HB.out.cell (World.block_lt_of_cell? w _ hx283_3)).trans hx283_3
                          replace hx283_4 := (HB.out.cell (World.block_lt_of_cell? w _ hx283_4)).trans hx283_4
                          replace hx283_5 := (HB.out.cell (World.block_lt_of_cell? w _ hx283_5)).trans hx283_5
                          replace hx283_6 := (HB.out.cell (World.block_lt_of_cell? w _ hx283_6)).trans hx283_6
                          replace hx283_7 := (HB.out.cell (World.block_lt_of_cell? w _ hx283_7)).trans hx283_7
                          replace hx283_8 := (HB.out.cell (World.block_lt_of_cell? w _ hx283_8)).trans hx283_8
                          have HR283_6 := Aside0.mk hi283_6
                          have HC283_6 := Aside0.mk hl283_6
                          clear hi283_6 hl283_6
                          replace p283 := eq_true p283
                          replace q283 := eq_true q283
                          have ea_ := Option.some.inj (hx273_6.symm.trans hx283_6)
                          injection ea_ with ea_ en_ ec_
                          subst ea_
                          subst ec_
                          clear en_
                          go_wp2
                          go_roundg k1
                          case measure => have := HK1.out; omega
                          case rel => exact ⟨(((x3_1 ++ (⟨#[35]⟩ : ByteArray)) ++ ((rd_T26 l0 x4_1).f2)) ++ (⟨#[10]⟩ : ByteArray)), (wrap64 (x4_1 + 1)), (by first | rfl | (simp; done) | (simp [*]; done)), (by first | rfl | (simp; done) | (simp [*]; done)), H', ⟨by have := HK1.out; omega⟩, ⟨by repeat (first | (with_reducible first | exact HB.out | apply below_alloc | apply pw_below_drewN | apply below_drew1) | exact HB.out)⟩⟩
                        · rw [if_neg c32] at H
                          exact absurd H (by simp)
                      · rw [if_neg c31] at H
                        exact absurd H (by simp)
                    · rw [if_neg c30] at H
                      exact absurd H (by simp)
                  · rw [if_neg c29] at H
                    have c29b0 : (((rd_T26 l0 x4_1).f1) == 5) = false := beq_eq_false_iff_ne.mpr c29
                    have c29b1 : (((rd_T26 l0 x4_1).f1) != 5) = true := bne_iff_ne.mpr c29
                    have H' := Aside0.mk H
                    clear H
                    have p273 : 0 ≤ (x4_1 : Int) := of_decide_eq_true (by first | (with_reducible assumption) | assumption)
                    have q273 : x4_1 < (l0.length : Int) := of_decide_eq_true (by first | (with_reducible assumption) | assumption)
                    obtain ⟨ad273, A273_6, c273_6, e273, hx273_0, hx273_1, hx273_2, hx273_3, hx273_4, hx273_5, hx273_6, hx273_7, hx273_8, hl273_6, hi273_6⟩ := at_T26 HR0.out x4_1 p273 q273
                    cases e273
                    replace hx273_0 := (HB.out.cell (World.block_lt_of_cell? w _ hx273_0)).trans hx273_0
                    replace hx273_1 := (HB.out.cell (World.block_lt_of_cell? w _ hx273_1)).trans hx273_1
                    replace hx273_2 := (HB.out.cell (World.block_lt_of_cell? w _ hx273_2)).trans hx273_2
                    replace hx273_3 := (HB.out.cell (World.block_lt_of_cell? w _ hx273_3)).trans hx273_3
                    replace hx273_4 := (HB.out.cell (World.block_lt_of_cell? w _ hx273_4)).trans hx273_4
                    replace hx273_5 := (HB.out.cell (World.block_lt_of_cell? w _ hx273_5)).trans hx273_5
                    replace hx273_6 := (HB.out.cell (World.block_lt_of_cell? w _ hx273_6)).trans hx273_6
                    replace hx273_7 := (HB.out.cell (World.block_lt_of_cell? w _ hx273_7)).trans hx273_7
                    replace hx273_8 := (HB.out.cell (World.block_lt_of_cell? w _ hx273_8)).trans hx273_8
                    have HR273_6 := Aside0.mk hi273_6
                    have HC273_6 := Aside0.mk hl273_6
                    clear hi273_6 hl273_6
                    replace p273 := eq_true p273
                    replace q273 := eq_true q273
                    go_wp2
                    go_roundg k1
                    case measure => have := HK1.out; omega
                    case rel => exact ⟨(x3_1), (wrap64 (x4_1 + 1)), (by first | rfl | (simp; done) | (simp [*]; done)), (by first | rfl | (simp; done) | (simp [*]; done)), H', ⟨by have := HK1.out; omega⟩, ⟨by repeat (first | (with_reducible first | exact HB.out | apply below_alloc | apply pw_below_drewN | apply below_drew1) | exact HB.out)⟩⟩
        · rw [if_neg c3] at H
          exact absurd H (by simp)
      · rw [if_neg c2] at H
        have c2b0 : decide (x4_1 < (l0.length : Int)) = false := decide_eq_false c2
        clear c2
        obtain rfl := Option.some.inj H
        go_wp2
        go_ret
        exact ⟨by first | rfl | (simp [errW_none, errW_some] <;> rfl) | (simp [*, errW_none, errW_some] <;> rfl), by repeat (first | (with_reducible first | exact HB.out | apply below_alloc | apply pw_below_drewN | apply below_drew1) | exact HB.out)⟩
end Go.Proofs.YtpgjhjlhipikgaaDoor.PK
end
section
namespace Go.Proofs.YtpgjhjlhipikgaaDoor.PK
open Go.RowKit Go.Proofs.YtpgjhjlhipikgaaDoorW.PrintWords Go.Proofs.YtpgjhjlhipikgaaDoorW.PrintLast Go.Proofs.YtpgjhjlhipikgaaDoorW.PrintMore
attribute [local go_sem] max2_int min2_int max_two min_two max_three min_three max_four min_four   -- for this text's walks alone
set_option linter.unusedVariables false
set_option linter.unusedSimpArgs false
def copydesklaw03_BlockPlainMatchesReference.f (k : Nat) (l0 : List (S26)) : Option (Bool) := (copydesklaw03_sane.f).bind fun t284 => ((copydesklaw03_short.f k l0).bind fun t285 => (if t284 = true then ((block_Plain.f t285).bind fun t288 => ((copydeskref03_Plain.f k t285).bind fun t289 => (some (t288.toList == t289.toList)))) else (some false)))
theorem copydesklaw03_BlockPlainMatchesReference.mono : ∀ a0 k, LeO (copydesklaw03_BlockPlainMatchesReference.f k a0) (copydesklaw03_BlockPlainMatchesReference.f (k + 1) a0) := by
  intro a0 k
  unfold copydesklaw03_BlockPlainMatchesReference.f
  repeat' first
      | (with_reducible exact copydesklaw03_short.mono _ _)
      | (with_reducible exact copydeskref03_Plain.mono _ _)
      | (with_reducible exact LeO.refl _)
      | (with_reducible exact LeO.none _)
      | (with_reducible refine LeO.ite ?_ ?_)
      | (with_reducible refine LeO.bind ?_ (fun _ => ?_))
      | exact copydesklaw03_short.mono _ _
      | exact copydeskref03_Plain.mono _ _
      | exact LeO.none _
      | refine LeO.ite ?_ ?_
      | refine LeO.bind ?_ (fun _ => ?_)
set_option maxHeartbeats 8000000 in
set_option maxRecDepth 100000 in
theorem copydesklaw03_BlockPlainMatchesReference.calls (k : Nat) (A0 : Option Addr) (c0 : Nat) (l0 : List (S26)) (r : Bool) (w : World) (hr0 : Kd.C k26 w A0 l0.length l0) (hc0 : l0.length ≤ c0) (h : copydesklaw03_BlockPlainMatchesReference.f k l0 = some r) :
    Calls Tryd.prog 8 #[.slice A0 l0.length c0] w fun e w' => e = .returned (.bool r) ∧ Below w.heap.size w w' := by
  have HR0 := Aside0.mk hr0
  have HC0 := Aside0.mk hc0
  clear hr0 hc0
  have HB := Aside0.mk (Below.refl w.heap.size w)
  have H : ((copydesklaw03_sane.f).bind fun t284 => ((copydesklaw03_short.f k l0).bind fun t285 => (if t284 = true then ((block_Plain.f t285).bind fun t288 => ((copydeskref03_Plain.f k t285).bind fun t289 => (some (t288.toList == t289.toList)))) else (some false)))) = some r := h
  clear h
  replace H := Option.bind_eq_some_iff.mp H
  obtain ⟨t284, A20, H⟩ := H
  replace H : ((copydesklaw03_short.f k l0).bind fun t285 => (if t284 = true then ((block_Plain.f t285).bind fun t288 => ((copydeskref03_Plain.f k t285).bind fun t289 => (some (t288.toList == t289.toList)))) else (some false))) = some r := H
  have A2 := Aside0.mk A20
  clear A20
  replace H := Option.bind_eq_some_iff.mp H
  obtain ⟨t285, A30, H⟩ := H
  replace H : (if t284 = true then ((block_Plain.f t285).bind fun t288 => ((copydeskref03_Plain.f k t285).bind fun t289 => (some (t288.toList == t289.toList)))) else (some false)) = some r := H
  have A3 := Aside0.mk A30
  clear A30
  by_cases c4 : t284 = true
  · subst c4
    have H1 : ((block_Plain.f t285).bind fun t288 => ((copydeskref03_Plain.f k t285).bind fun t289 => (some (t288.toList == t289.toList)))) = some r := by rw [if_pos rfl] at H; exact H
    clear H
    have H := H1
    clear H1
    replace H := Option.bind_eq_some_iff.mp H
    obtain ⟨t288, A50, H⟩ := H
    replace H : ((copydeskref03_Plain.f k t285).bind fun t289 => (some (t288.toList == t289.toList))) = some r := H
    have A5 := Aside0.mk A50
    clear A50
    replace H := Option.bind_eq_some_iff.mp H
    obtain ⟨t289, A60, H⟩ := H
    replace H : (some (t288.toList == t289.toList)) = some r := H
    have A6 := Aside0.mk A60
    clear A60
    obtain rfl := Option.some.inj H
    go_enter Tryd.func8, Tryd.ntmps8
    go_wp2_with (first | ((with_reducible refine gate_callee (f := 17) rfl ?_); refine goesL_ (some 4) rfl rfl Tryd.func17 (by kernel_rfl) rfl #[] rfl (by (try simp only [List.map_toArray, List.map_cons, List.map_nil]); first | done | rfl | (simp only [List.length_drop, List.length_take]; rfl)) ?_; (with_reducible refine (copydesklaw03_sane.calls  true _ A2.out).mono ?_); rintro e w7 ⟨rfl, hb⟩; refine ⟨_, rfl, ?_⟩; have n0_ := Aside0.mk (below_step (by repeat (first | (with_reducible first | exact HB.out | apply below_alloc | apply pw_below_drewN | apply below_drew1) | exact HB.out)) hb); clear HB; have HB := n0_; clear n0_; (try clear hb); (try clear hb2); (try clear hk); (try clear hi)) | ((with_reducible refine gate_callee (f := 18) rfl ?_); refine goesL_ (some 6) rfl rfl Tryd.func18 (by kernel_rfl) rfl #[.slice A0 l0.length c0] rfl (by (try simp only [List.map_toArray, List.map_cons, List.map_nil]); first | done | rfl | (simp only [List.length_drop, List.length_take]; rfl)) ?_; (with_reducible refine (copydesklaw03_short.calls k (fun k_ => k_ < w.heap.size) _ _ l0 t285 _ ?side1 A3.out).mono ?_); (case side1 => exact Kd.V_mk HC0.out (Kd.F_below (Kd.C_F k26_heap HR0.out) (by repeat (first | (with_reducible first | exact HB.out | apply below_alloc | apply pw_below_drewN | apply below_drew1) | exact HB.out)))); rintro e w8 ⟨v286, rfl, ho0, hb⟩; refine ⟨_, rfl, ?_⟩; have n0_ := Aside0.mk (Kd.N_lower (Kd.N_mono (ok' := fun k_ => True) ho0 (fun k_ hk_ => trivial)) (below_size (by repeat (first | (with_reducible first | exact HB.out | apply below_alloc | apply pw_below_drewN | apply below_drew1) | exact HB.out)))); have n1_ := Aside0.mk (below_step (by repeat (first | (with_reducible first | exact HB.out | apply below_alloc | apply pw_below_drewN | apply below_drew1) | exact HB.out)) hb); clear HB; have HO287 := n0_; have HB := n1_; clear n0_ n1_; (try clear hb); (try clear hb2); (try clear hk); (try clear hi); (try clear ho0); obtain ⟨Ao9, co9, eo9⟩ := Kd.N_slice HO287.out; subst eo9) | (go_at_call 34; (with_reducible refine (block_Plain.calls _ _ t285 t288 _ ?side1 ?side2 A5.out).mono ?_); (case side1 => repeat (first | exact (Kd.N_reads' HO287.out).2.2 | (with_reducible refine Kd.C_alloc ?_ _) | (with_reducible refine Kd.C_drewN ?_ _) | (with_reducible refine Kd.C_drew ?_))); (case side2 => exact (Kd.N_reads' HO287.out).2.1); rintro e w10 ⟨rfl, hb⟩; have n0_ := Aside0.mk (Kd.N_below (by (with_reducible repeat (first | apply Kd.N_alloc | apply Kd.N_drewN | apply Kd.N_drew)); exact HO287.out) hb); have n1_ := Aside0.mk (below_step (by repeat (first | (with_reducible first | exact HB.out | apply below_alloc | apply pw_below_drewN | apply below_drew1) | exact HB.out)) hb); clear HO287; clear HB; have HO287 := n0_; have HB := n1_; clear n0_ n1_; (try clear hb); (try clear hb2); (try clear hk); (try clear hi)) | (go_at_call 35; (with_reducible refine (copydeskref03_Plain.calls k _ _ t285 t289 _ ?side1 ?side2 A6.out).mono ?_); (case side1 => repeat (first | exact (Kd.N_reads' HO287.out).2.2 | (with_reducible refine Kd.C_alloc ?_ _) | (with_reducible refine Kd.C_drewN ?_ _) | (with_reducible refine Kd.C_drew ?_))); (case side2 => exact (Kd.N_reads' HO287.out).2.1); rintro e w11 ⟨rfl, hb⟩; have n0_ := Aside0.mk (Kd.N_below (by (with_reducible repeat (first | apply Kd.N_alloc | apply Kd.N_drewN | apply Kd.N_drew)); exact HO287.out) hb); have n1_ := Aside0.mk (below_step (by repeat (first | (with_reducible first | exact HB.out | apply below_alloc | apply pw_below_drewN | apply below_drew1) | exact HB.out)) hb); clear HO287; clear HB; have HO287 := n0_; have HB := n1_; clear n0_ n1_; (try clear hb); (try clear hb2); (try clear hk); (try clear hi)))
    go_ret
    exact ⟨by first | rfl | (simp [errW_none, errW_some] <;> rfl) | (simp [*, errW_none, errW_some] <;> rfl), by repeat (first | (with_reducible first | exact HB.out | apply below_alloc | apply pw_below_drewN | apply below_drew1) | exact HB.out)⟩
  · replace c4 := Bool.eq_false_iff.mpr c4
    subst c4
    have H1 : (some false) = some r := by rw [if_neg (show ¬ (false = true) by decide)] at H; exact H
    clear H
    have H := H1
    clear H1
    obtain rfl := Option.some.inj H
    go_enter Tryd.func8, Tryd.ntmps8
    go_wp2_with (first | ((with_reducible refine gate_callee (f := 17) rfl ?_); refine goesL_ (some 4) rfl rfl Tryd.func17 (by kernel_rfl) rfl #[] rfl (by (try simp only [List.map_toArray, List.map_cons, List.map_nil]); first | done | rfl | (simp only [List.length_drop, List.length_take]; rfl)) ?_; (with_reducible refine (copydesklaw03_sane.calls  false _ A2.out).mono ?_); rintro e w12 ⟨rfl, hb⟩; refine ⟨_, rfl, ?_⟩; have n0_ := Aside0.mk (below_step (by repeat (first | (with_reducible first | exact HB.out | apply below_alloc | apply pw_below_drewN | apply below_drew1) | exact HB.out)) hb); clear HB; have HB := n0_; clear n0_; (try clear hb); (try clear hb2); (try clear hk); (try clear hi)) | ((with_reducible refine gate_callee (f := 18) rfl ?_); refine goesL_ (some 6) rfl rfl Tryd.func18 (by kernel_rfl) rfl #[.slice A0 l0.length c0] rfl (by (try simp only [List.map_toArray, List.map_cons, List.map_nil]); first | done | rfl | (simp only [List.length_drop, List.length_take]; rfl)) ?_; (with_reducible refine (copydesklaw03_short.calls k (fun k_ => k_ < w.heap.size) _ _ l0 t285 _ ?side1 A3.out).mono ?_); (case side1 => exact Kd.V_mk HC0.out (Kd.F_below (Kd.C_F k26_heap HR0.out) (by repeat (first | (with_reducible first | exact HB.out | apply below_alloc | apply pw_below_drewN | apply below_drew1) | exact HB.out)))); rintro e w13 ⟨v286, rfl, ho0, hb⟩; refine ⟨_, rfl, ?_⟩; have n0_ := Aside0.mk (Kd.N_lower (Kd.N_mono (ok' := fun k_ => True) ho0 (fun k_ hk_ => trivial)) (below_size (by repeat (first | (with_reducible first | exact HB.out | apply below_alloc | apply pw_below_drewN | apply below_drew1) | exact HB.out)))); have n1_ := Aside0.mk (below_step (by repeat (first | (with_reducible first | exact HB.out | apply below_alloc | apply pw_below_drewN | apply below_drew1) | exact HB.out)) hb); clear HB; have HO287 := n0_; have HB := n1_; clear n0_ n1_; (try clear hb); (try clear hb2); (try clear hk); (try clear hi); (try clear ho0)))
    go_ret
    exact ⟨by first | rfl | (simp [errW_none, errW_some] <;> rfl) | (simp [*, errW_none, errW_some] <;> rfl), by repeat (first | (with_reducible first | exact HB.out | apply below_alloc | apply pw_below_drewN | apply below_drew1) | exact HB.out)⟩
end Go.Proofs.YtpgjhjlhipikgaaDoor.PK
end
section
set_option linter.unusedVariables false
set_option linter.unusedSimpArgs false
namespace Go.Proofs.YtpgjhjlhipikgaaDoor.PK
open Go.RowKit Go.Proofs.YtpgjhjlhipikgaaDoorW.PrintWords Go.Proofs.YtpgjhjlhipikgaaDoorW.PrintLast Go.Proofs.YtpgjhjlhipikgaaDoorW.PrintMore
theorem sl_at_left (a b : List UInt8) (i : Nat) (h : i < a.length) : m_at (a ++ b) i = m_at a i := by
  simp [m_at, List.getD_eq_getElem?_getD, List.getElem?_append_left h]
theorem sl_at_right (a b : List UInt8) (i : Nat) : m_at (a ++ b) (a.length + i) = m_at b i := by
  simp [m_at, List.getD_eq_getElem?_getD, List.getElem?_append_right]
theorem sl_space_not (l : List UInt8) (i : Nat) (h : m_at l i = 32) : m_ends l i = false := by
  unfold m_ends; rw [h]; rfl
theorem sl_space_initial (l : List UInt8) (i : Nat) (h : m_at l i = 32) : m_initial l i = false := by
  unfold m_initial; rw [h]; rfl
def AllSp (s : List UInt8) : Prop := ∀ c ∈ s, c = 32
theorem AllSp.at {s : List UInt8} (h : AllSp s) (i : Nat) (hi : i < s.length) : m_at s i = 32 := by
  have := h s[i] (List.getElem_mem hi)
  simp [m_at, List.getD_eq_getElem?_getD, hi, this]
def SpHead (s : List UInt8) : Prop := s = [] ∨ ∃ t, s = 32 :: t
theorem SpHead.at {s : List UInt8} (h : SpHead s) (hs : s ≠ []) : m_at s 0 = 32 := by
  rcases h with h | ⟨t, rfl⟩
  · exact absurd h hs
  · rfl
theorem sl_ends_mid (sp x rest : List UInt8) (hsp : AllSp sp) (hr : SpHead rest) (j : Nat) (hj : j < x.length) : m_ends (sp ++ x ++ rest) (sp.length + j) = m_ends x j := by
  have e0 : ∀ k, k < x.length → m_at (sp ++ x ++ rest) (sp.length + k) = m_at x k := fun k hk => by
    rw [sl_at_left _ _ _ (by simp; omega), sl_at_right]
  have e1 : (decide ((sp ++ x ++ rest).length ≤ sp.length + j + 1) || m_at (sp ++ x ++ rest) (sp.length + j + 1) == 32) = (decide (x.length ≤ j + 1) || m_at x (j + 1) == 32) := by
    by_cases h : j + 1 < x.length
    · rw [show sp.length + j + 1 = sp.length + (j + 1) by omega, e0 _ h]
      congr 1
      rw [decide_eq_false (by simp; omega), decide_eq_false (by omega)]
    · have hx : x.length = j + 1 := by omega
      rw [decide_eq_true (show x.length ≤ j + 1 by omega), Bool.true_or]
      by_cases hn : rest = []
      · subst hn
        rw [decide_eq_true (by simp; omega), Bool.true_or]
      · have : m_at (sp ++ x ++ rest) (sp.length + j + 1) = 32 := by
          rw [show sp.length + j + 1 = (sp ++ x).length + 0 by simp; omega, sl_at_right]
          exact hr.at hn
        rw [this]; simp
  have e2 : (decide (1 ≤ sp.length + j) && m_initial (sp ++ x ++ rest) (sp.length + j - 1)) = (decide (1 ≤ j) && m_initial x (j - 1)) := by
    rcases Nat.eq_zero_or_pos j with h | h
    · subst h
      rw [decide_eq_false (show ¬ 1 ≤ 0 by omega), Bool.false_and]
      rcases Nat.eq_zero_or_pos sp.length with hs | hs
      · rw [hs]; rfl
      · rw [sl_space_initial _ _ (by rw [List.append_assoc, sl_at_left _ _ _ (by omega)]; exact hsp.at _ (by omega)), Bool.and_false]
    · rw [decide_eq_true (show 1 ≤ sp.length + j by omega), decide_eq_true (show 1 ≤ j by omega), Bool.true_and, Bool.true_and]
      unfold m_initial
      rw [show sp.length + j - 1 = sp.length + (j - 1) by omega, e0 _ (by omega)]
      congr 1
      by_cases h1 : j - 1 = 0
      · rw [decide_eq_true h1, Bool.true_or, h1]
        rcases Nat.eq_zero_or_pos sp.length with hs | hs
        · rw [decide_eq_true (by omega), Bool.true_or]
        · rw [show m_at (sp ++ x ++ rest) (sp.length + 0 - 1) = 32 by rw [List.append_assoc, sl_at_left _ _ _ (by omega)]; exact hsp.at _ (by omega)]
          simp
      · rw [decide_eq_false h1, decide_eq_false (by omega), show sp.length + (j - 1) - 1 = sp.length + (j - 1 - 1) by omega, e0 _ (by omega)]
  unfold m_ends
  rw [e0 _ hj, e1]
  congr 1
  congr 1
  rw [Bool.and_assoc, Bool.and_assoc, e2]
theorem sl_ends_sp (sp y : List UInt8) (hsp : AllSp sp) (j : Nat) (hj : j < sp.length) : m_ends (sp ++ y) j = false :=
  sl_space_not _ _ (by rw [sl_at_left _ _ _ hj]; exact hsp.at _ hj)
theorem sl_ends_rest (pre rest : List UInt8) (hr : SpHead rest) (j : Nat) (hj : j < rest.length) : m_ends (pre ++ rest) (pre.length + j) = m_ends rest j := by
  rcases hr with h | ⟨t, rfl⟩
  · subst h; simp at hj
  · cases j with
    | zero => rw [sl_space_not (32 :: t) 0 rfl, sl_space_not]; rw [sl_at_right]; rfl
    | succ j =>
      have h := sl_ends_mid (pre ++ [32]) t [] 
      have e0 : ∀ k, m_at (pre ++ 32 :: t) (pre.length + k) = m_at (32 :: t) k := fun k => sl_at_right _ _ _
      unfold m_ends
      rw [e0, show pre.length + (j + 1) + 1 = pre.length + (j + 1 + 1) by omega, e0]
      have e1 : decide ((pre ++ 32 :: t).length ≤ pre.length + (j + 1 + 1)) = decide ((32 :: t).length ≤ j + 1 + 1) := by
        rw [decide_eq_decide]; simp <;> omega
      rw [e1]
      congr 1
      rw [decide_eq_true (show 1 ≤ pre.length + (j + 1) by omega), decide_eq_true (show 1 ≤ j + 1 by omega)]
      congr 2
      cases j with
      | zero =>
        rw [sl_space_initial (32 :: t) _ rfl, sl_space_initial]
        rw [show pre.length + (0 + 1) - 1 = pre.length + 0 by omega, e0]; rfl
      | succ j =>
        unfold m_initial
        rw [show pre.length + (j + 1 + 1) - 1 = pre.length + (j + 1) by omega, e0, show pre.length + (j + 1) - 1 = pre.length + j by omega, e0, decide_eq_false (show ¬ pre.length + (j + 1) = 0 by omega), decide_eq_false (show ¬ j + 1 + 1 - 1 = 0 by omega)]
        rfl
theorem sl_go_skip (l : List UInt8) : ∀ (k d i a : Nat), (∀ j, i ≤ j → j < i + k → m_ends l j = false) → m_sentGo l (k + d) i a = m_sentGo l d (i + k) a
  | 0, d, i, a, _ => by rw [Nat.zero_add, Nat.add_zero]
  | k + 1, d, i, a, h => by
    rw [show k + 1 + d = (k + d) + 1 by omega, m_sentGo, h i (Nat.le_refl _) (by omega), if_neg (by simp), sl_go_skip l k d (i + 1) a (fun j h1 h2 => h j (by omega) (by omega)), show i + 1 + k = i + (k + 1) by omega]
theorem sl_go_shift (pre rest : List UInt8) (hr : SpHead rest) : ∀ (d i a : Nat), i + d = rest.length → a ≤ i → m_sentGo (pre ++ rest) d (pre.length + i) (pre.length + a) = m_sentGo rest d i a
  | 0, i, a, _, _ => by rw [m_sentGo, m_sentGo, List.drop_append, List.drop_eq_nil_of_le (show pre.length ≤ pre.length + a by omega), Nat.add_sub_cancel_left]; rfl
  | d + 1, i, a, h, ha => by
    rw [m_sentGo, m_sentGo, sl_ends_rest pre rest hr i (by omega), List.drop_append, List.drop_eq_nil_of_le (show pre.length ≤ pre.length + a by omega), Nat.add_sub_cancel_left, List.nil_append,
      show pre.length + i + 1 - (pre.length + a) = i + 1 - a by omega, show pre.length + i + 1 = pre.length + (i + 1) by omega, sl_go_shift pre rest hr d (i + 1) (i + 1) (by omega) (Nat.le_refl _), sl_go_shift pre rest hr d (i + 1) a (by omega) (by omega)]
theorem sl_dropWhile_sp (sp x : List UInt8) (hsp : AllSp sp) : (sp ++ x).dropWhile (· == 32) = x.dropWhile (· == 32) := by
  induction sp with
  | nil => rfl
  | cons c sp ih =>
    have hc : c = 32 := hsp c (by simp)
    subst hc
    rw [List.cons_append, List.dropWhile_cons_of_pos (by rfl), ih (fun c hc => hsp c (by simp [hc]))]
theorem AllSp.reverse {s : List UInt8} (h : AllSp s) : AllSp s.reverse := fun c hc => h c (List.mem_reverse.1 hc)
def Neat (x : List UInt8) : Prop := x.head? ≠ some 32 ∧ x.getLast? ≠ some 32 ∧ x ≠ []
theorem sl_dropWhile_neat (x : List UInt8) (h : x.head? ≠ some 32) : x.dropWhile (· == 32) = x := by
  cases x with
  | nil => rfl
  | cons c x => rw [List.dropWhile_cons_of_neg]; simpa using h
theorem sl_trim (sp x sq : List UInt8) (h1 : AllSp sp) (h2 : AllSp sq) (hx : Neat x) : m_trim (sp ++ x ++ sq) = x := by
  obtain ⟨n1, n2, n3⟩ := hx
  unfold m_trim
  rw [List.reverse_append, sl_dropWhile_sp _ _ h2.reverse, List.reverse_append]
  obtain ⟨y, c, rfl⟩ : ∃ y c, x = y ++ [c] := ⟨x.dropLast, x.getLast n3, (List.dropLast_concat_getLast n3).symm⟩
  have hc : (c == 32) = false := by simpa using n2
  rw [List.reverse_append, List.reverse_singleton, List.singleton_append, List.cons_append, List.dropWhile_cons_of_neg (by simp [hc]), List.reverse_cons, List.reverse_append, List.reverse_reverse, List.reverse_reverse, List.append_assoc, sl_dropWhile_sp _ _ h1, sl_dropWhile_neat _ n1]
theorem sl_trim_sp (s : List UInt8) (h : AllSp s) : m_trim s = [] := by
  have h1 : s.reverse.dropWhile (· == 32) = [] := by
    have := sl_dropWhile_sp s.reverse [] h.reverse
    rw [List.append_nil] at this
    exact this
  unfold m_trim
  rw [h1]; rfl
theorem sl_head_split (l : List UInt8) : ∃ sp y, l = sp ++ y ∧ AllSp sp ∧ y.head? ≠ some 32 := by
  induction l with
  | nil => exact ⟨[], [], rfl, (fun _ h => by cases h), by simp⟩
  | cons c l ih =>
    by_cases hc : c = 32
    · obtain ⟨sp, y, h1, h2, h3⟩ := ih
      refine ⟨c :: sp, y, by rw [h1]; rfl, fun d hd => ?_, h3⟩
      rcases List.mem_cons.1 hd with rfl | hd
      · exact hc
      · exact h2 d hd
    · exact ⟨[], c :: l, rfl, (fun _ h => by cases h), by simpa using hc⟩
theorem sl_split (l : List UInt8) : AllSp l ∨ ∃ sp x sq, l = sp ++ x ++ sq ∧ AllSp sp ∧ AllSp sq ∧ Neat x := by
  obtain ⟨sp, y, h1, h2, h3⟩ := sl_head_split l
  by_cases hy : y = []
  · left; rw [h1, hy, List.append_nil]; exact h2
  · right
    obtain ⟨sq, z, g1, g2, g3⟩ := sl_head_split y.reverse
    have hyz : y = z.reverse ++ sq.reverse := by rw [← List.reverse_append, ← g1, List.reverse_reverse]
    refine ⟨sp, z.reverse, sq.reverse, by rw [h1, hyz, List.append_assoc], h2, g2.reverse, ?_, by rw [List.getLast?_reverse]; exact g3, ?_⟩
    · cases hz : z.reverse with
      | nil => simp
      | cons c z' =>
        rw [hyz, hz] at h3
        simpa using h3
    · intro hz
      rw [hz, List.nil_append] at hyz
      cases hs : sq.reverse with
      | nil => exact hy (by rw [hyz, hs])
      | cons c s' =>
        rw [hyz, hs] at h3
        have := g2.reverse c (by rw [hs]; simp)
        subst this
        simp at h3
def Ended (x : List UInt8) : Prop := Neat x ∧ m_ends x (x.length - 1) = true ∧ ∀ j, j + 1 < x.length → m_ends x j = false
def Open (x : List UInt8) : Prop := Neat x ∧ ∀ j, j < x.length → m_ends x j = false
theorem sl_sent_sp (s : List UInt8) (h : AllSp s) : m_sent s = [] := by
  unfold m_sent
  have := sl_go_skip s s.length 0 0 0 (fun j _ hj => sl_space_not _ _ (h.at j (by omega)))
  rw [Nat.add_zero] at this
  rw [this, m_sentGo, List.drop_zero, sl_trim_sp s h, if_pos rfl]
theorem sl_sent_open (sp x sq : List UInt8) (h1 : AllSp sp) (h2 : AllSp sq) (hx : Open x) : m_sent (sp ++ x ++ sq) = [x] := by
  have hq : SpHead sq := by
    cases sq with
    | nil => exact .inl rfl
    | cons c s => exact .inr ⟨s, by rw [h2 c (by simp)]⟩
  unfold m_sent
  have := sl_go_skip (sp ++ x ++ sq) (sp ++ x ++ sq).length 0 0 0 (fun j _ hj => by
    by_cases a : j < sp.length
    · rw [List.append_assoc]; exact sl_ends_sp _ _ h1 j a
    · by_cases b : j < sp.length + x.length
      · obtain ⟨k, rfl⟩ : ∃ k, j = sp.length + k := ⟨j - sp.length, by omega⟩
        rw [sl_ends_mid sp x sq h1 hq k (by omega)]
        exact hx.2 k (by omega)
      · refine sl_space_not _ _ ?_
        obtain ⟨k, rfl⟩ : ∃ k, j = (sp ++ x).length + k := ⟨j - (sp ++ x).length, by simp; omega⟩
        rw [sl_at_right]
        exact h2.at k (by simp at hj; omega))
  rw [Nat.add_zero] at this
  rw [this, m_sentGo, List.drop_zero, sl_trim _ _ _ h1 h2 hx.1, if_neg hx.1.2.2]
theorem sl_sent_ended (sp x rest : List UInt8) (h1 : AllSp sp) (hr : SpHead rest) (hx : Ended x) : m_sent (sp ++ x ++ rest) = x :: m_sent rest := by
  have hn : 0 < x.length := List.length_pos_iff.2 hx.1.2.2
  unfold m_sent
  have hlen : (sp ++ x ++ rest).length = (sp.length + (x.length - 1)) + (1 + rest.length) := by simp; omega
  rw [hlen, sl_go_skip (sp ++ x ++ rest) (sp.length + (x.length - 1)) (1 + rest.length) 0 0 (fun j _ hj => by
    by_cases a : j < sp.length
    · rw [List.append_assoc]; exact sl_ends_sp _ _ h1 j a
    · obtain ⟨k, rfl⟩ : ∃ k, j = sp.length + k := ⟨j - sp.length, by omega⟩
      rw [sl_ends_mid sp x rest h1 hr k (by omega)]
      exact hx.2.2 k (by omega)),
    Nat.add_comm 1, m_sentGo, Nat.zero_add, sl_ends_mid sp x rest h1 hr _ (by omega), hx.2.1, if_pos rfl, List.drop_zero, Nat.sub_zero]
  have e : sp.length + (x.length - 1) + 1 = (sp ++ x).length := by simp; omega
  rw [e, List.take_left]
  have ht := sl_trim sp x [] h1 (fun _ h => by cases h) hx.1
  rw [List.append_nil] at ht
  rw [ht]
  congr 1
  have := sl_go_shift (sp ++ x) rest hr rest.length 0 0 (Nat.zero_add _) (Nat.le_refl _)
  rw [Nat.add_zero] at this
  exact this
theorem sl_cases (l : List UInt8) : AllSp l ∨ (∃ sp x sq, l = sp ++ x ++ sq ∧ AllSp sp ∧ AllSp sq ∧ Open x) ∨ (∃ sp x rest, l = sp ++ x ++ rest ∧ AllSp sp ∧ SpHead rest ∧ Ended x) := by
  by_cases hex : ∃ i, i < l.length ∧ m_ends l i = true
  · have hfind : ∃ i, (i < l.length ∧ m_ends l i = true) ∧ ∀ j, j < i → m_ends l j = false := by
      obtain ⟨i, hi⟩ := hex
      induction i using Nat.strongRecOn with
      | _ i ih =>
        by_cases h : ∃ j, j < i ∧ m_ends l j = true
        · obtain ⟨j, hj, hj2⟩ := h
          exact ih j hj ⟨by omega, hj2⟩
        · exact ⟨i, hi, fun j hj => by
            cases hb : m_ends l j with
            | false => rfl
            | true => exact absurd ⟨j, hj, hb⟩ h⟩
    obtain ⟨i, ⟨hi, he⟩, hmin⟩ := hfind
    refine .inr (.inr ?_)
    have hsplit : l = l.take (i + 1) ++ l.drop (i + 1) := (List.take_append_drop _ _).symm
    have hlen : (l.take (i + 1)).length = i + 1 := by rw [List.length_take]; omega
    have hchar : m_at l i ≠ 32 := fun h => by rw [sl_space_not _ _ h] at he; cases he
    have hlast : m_at (l.take (i + 1)) i ≠ 32 := by
      rw [← sl_at_left _ (l.drop (i + 1)) i (by omega), ← hsplit]; exact hchar
    have hrest : SpHead (l.drop (i + 1)) := by
      cases hd : l.drop (i + 1) with
      | nil => exact .inl rfl
      | cons c t =>
        refine .inr ⟨t, ?_⟩
        have hl2 : i + 1 < l.length := by
          have := congrArg List.length hd
          simp at this; omega
        unfold m_ends at he
        simp only [Bool.and_eq_true, Bool.or_eq_true, decide_eq_true_eq, beq_iff_eq] at he
        rcases he.1.2 with h | h
        · omega
        · have h' : m_at (l.take (i + 1) ++ l.drop (i + 1)) ((l.take (i + 1)).length + 0) = 32 := by rw [← hsplit, hlen]; exact h
          rw [sl_at_right, hd] at h'
          rw [show c = 32 from h']
    rcases sl_split (l.take (i + 1)) with h | ⟨sp, x, sq, h1, h2, h3, h4⟩
    · exact absurd (h.at i (by omega)) hlast
    · have hsq : sq = [] := by
        cases hq : sq with
        | nil => rfl
        | cons c s =>
          exfalso
          apply hlast
          have hll := congrArg List.length h1
          rw [hlen] at hll
          simp only [List.length_append] at hll
          have hpos : 0 < sq.length := by rw [hq]; simp
          rw [h1, show i = (sp ++ x).length + (sq.length - 1) by simp; omega, sl_at_right]
          exact h3.at _ (by omega)
      subst hsq
      rw [List.append_nil] at h1
      have hll := congrArg List.length h1
      rw [hlen] at hll
      simp only [List.length_append] at hll
      have hn : 0 < x.length := List.length_pos_iff.2 h4.2.2
      have hl : l = sp ++ x ++ l.drop (i + 1) := by rw [← h1]; exact hsplit
      refine ⟨sp, x, l.drop (i + 1), hl, h2, hrest, h4, ?_, fun j hj => ?_⟩
      · rw [← sl_ends_mid sp x _ h2 hrest _ (by omega), ← hl, show sp.length + (x.length - 1) = i by omega]; exact he
      · rw [← sl_ends_mid sp x _ h2 hrest _ (by omega), ← hl]; exact hmin _ (by omega)
  · have hno : ∀ j, j < l.length → m_ends l j = false := fun j hj => by
      cases hb : m_ends l j with
      | false => rfl
      | true => exact absurd ⟨j, hj, hb⟩ hex
    rcases sl_split l with h | ⟨sp, x, sq, h1, h2, h3, h4⟩
    · exact .inl h
    · refine .inr (.inl ⟨sp, x, sq, h1, h2, h3, h4, fun j hj => ?_⟩)
      have hq : SpHead sq := by
        cases sq with
        | nil => exact .inl rfl
        | cons c s => exact .inr ⟨s, by rw [h3 c (by simp)]⟩
      rw [← sl_ends_mid sp x sq h2 hq j hj, ← h1]
      exact hno _ (by rw [h1]; simp; omega)
inductive Parts : List UInt8 → List (List UInt8) → Prop where
  | none (s : List UInt8) (h : AllSp s) : Parts s []
  | last (sp x sq : List UInt8) (h1 : AllSp sp) (h2 : AllSp sq) (hx : Open x) : Parts (sp ++ x ++ sq) [x]
  | more (sp x rest : List UInt8) (xs : List (List UInt8)) (h1 : AllSp sp) (hr : SpHead rest) (hx : Ended x) (h : Parts rest xs) : Parts (sp ++ x ++ rest) (x :: xs)
theorem sl_parts (l : List UInt8) : Parts l (m_sent l) := by
  have key : ∀ n (l : List UInt8), l.length = n → Parts l (m_sent l) := by
    intro n
    induction n using Nat.strongRecOn with
    | _ n ih =>
      intro l hl
      rcases sl_cases l with h | ⟨sp, x, sq, rfl, h2, h3, h4⟩ | ⟨sp, x, rest, rfl, h2, h3, h4⟩
      · rw [sl_sent_sp l h]; exact .none l h
      · rw [sl_sent_open sp x sq h2 h3 h4]; exact .last sp x sq h2 h3 h4
      · rw [sl_sent_ended sp x rest h2 h3 h4]
        have hn : 0 < x.length := List.length_pos_iff.2 h4.1.2.2
        exact .more sp x rest _ h2 h3 h4 (ih rest.length (by simp at hl; omega) rest rfl)
  exact key _ l rfl
theorem Parts.join_len {l : List UInt8} {xs : List (List UInt8)} (h : Parts l xs) : (m_join xs).length ≤ 2 * l.length := by
  induction h with
  | none s h => simp [m_join]
  | last sp x sq h1 h2 hx => simp [m_join]; omega
  | more sp x rest xs h1 hr hx h ih =>
    have hn : 0 < x.length := List.length_pos_iff.2 hx.1.2.2
    cases xs with
    | nil => simp [m_join]; omega
    | cons y ys =>
      simp only [m_join, List.length_append, List.length_cons] at ih ⊢
      omega
end Go.Proofs.YtpgjhjlhipikgaaDoor.PK
end
section
set_option linter.unusedVariables false
set_option linter.unusedSimpArgs false
namespace Go.Proofs.YtpgjhjlhipikgaaDoor.PK
open Go.RowKit Go.Proofs.YtpgjhjlhipikgaaDoorW.PrintWords Go.Proofs.YtpgjhjlhipikgaaDoorW.PrintLast Go.Proofs.YtpgjhjlhipikgaaDoorW.PrintMore
theorem pu_mn (a b : Int) : mn a b = if b < a then b else a := rfl
theorem pu_cut (a0 : ByteArray) (m : Int) (hm : 0 ≤ m) : 0 ≤ mn (a0.size : Int) m ∧ mn (a0.size : Int) m ≤ (a0.size : Int) ∧ (a0.extract 0 (mn (a0.size : Int) m).toNat).size ≤ m.toNat := by
  rw [pu_mn]
  refine ⟨by split <;> omega, by split <;> omega, ?_⟩
  rw [ByteArray.size_extract]
  split <;> omega
theorem pu_w1 (n : Nat) (h : n ≤ 9000000000000000000) : wrap64 ((n : Int) + 1) = ((n + 1 : Nat) : Int) := by unfold wrap64; omega
theorem pu_rd (xs : List ByteArray) (j : Nat) (h : j < xs.length) : rdOf ByteArray.empty xs (j : Int) = xs[j] := by
  simp [rdOf, List.getD_eq_getElem?_getD, h]
theorem pu_bt (s : ByteArray) (n : Nat) (h : n < s.size) : bt s (n : Int) = ((m_at s.data.toList n).toNat : Int) := by
  unfold bt
  rw [dif_pos (by rw [Int.toNat_natCast]; exact h)]
  have h2 : n < s.data.toList.length := by rw [Array.length_toList]; exact h
  simp only [Int.toNat_natCast, m_at, List.getD_eq_getElem?_getD, List.getElem?_eq_getElem h2, Option.getD_some]
  rfl
theorem pu_size (l : List UInt8) : (⟨l.toArray⟩ : ByteArray).size = l.length := by simp [ByteArray.size]
theorem pu_len (s : ByteArray) : s.data.toList.length = s.size := Array.length_toList
theorem pu_app (a b : List UInt8) : (⟨a.toArray⟩ : ByteArray) ++ ⟨b.toArray⟩ = ⟨(a ++ b).toArray⟩ := cd_ba_inj _ _ (by rw [ByteArray.data_append, Array.toList_append])
theorem pu_toList (s : ByteArray) : s.toList = s.data.toList := ByteArray.toList_eq ..
theorem pu_nat32 (c : UInt8) : ((c.toNat : Int) = 32) ↔ c = 32 := by
  constructor
  · intro h; apply UInt8.toNat_inj.1; show c.toNat = 32; omega
  · rintro rfl; rfl
theorem Parts.len {l : List UInt8} {xs : List (List UInt8)} (h : Parts l xs) : (∀ x ∈ xs, x.length ≤ l.length) ∧ xs.length ≤ l.length := by
  induction h with
  | none s h => simp
  | last sp x sq h1 h2 hx =>
    have hn : 0 < x.length := List.length_pos_iff.2 hx.1.2.2
    exact ⟨by simp; omega, by simp; omega⟩
  | more sp x rest xs h1 hr hx h ih =>
    have hn : 0 < x.length := List.length_pos_iff.2 hx.1.2.2
    refine ⟨?_, by simp; omega⟩
    intro y hy
    rcases List.mem_cons.1 hy with rfl | hy
    · simp; omega
    · have := ih.1 y hy; simp; omega
def m_bas (ys : List (List UInt8)) : List ByteArray := ys.map (fun x => ⟨x.toArray⟩)
theorem m_bas_get (ys : List (List UInt8)) (j : Nat) (h : j < ys.length) (h' : j < (m_bas ys).length) : (m_bas ys)[j] = ⟨(ys[j]).toArray⟩ := by simp [m_bas]
theorem m_bas_len (ys : List (List UInt8)) : (m_bas ys).length = ys.length := by simp [m_bas]
end Go.Proofs.YtpgjhjlhipikgaaDoor.PK
end
