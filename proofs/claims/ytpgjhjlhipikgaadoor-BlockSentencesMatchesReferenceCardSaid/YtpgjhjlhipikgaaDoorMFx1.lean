/- Texts of this claim, one behind the other. -/
import Derived.Test.YtpgjhjlhipikgaaDoorMCx5
import Derived.Test.YtpgjhjlhipikgaaDoorMCx7
import Derived.Test.YtpgjhjlhipikgaaDoorMCx11
section
namespace Go.Proofs.YtpgjhjlhipikgaaDoor.PK
open Go.RowKit Go.Proofs.YtpgjhjlhipikgaaDoorW.PrintWords Go.Proofs.YtpgjhjlhipikgaaDoorW.PrintLast Go.Proofs.YtpgjhjlhipikgaaDoorW.PrintMore
attribute [local go_sem] max2_int min2_int max_two min_two max_three min_three max_four min_four   -- for this text's walks alone
set_option linter.unusedVariables false
set_option linter.unusedSimpArgs false

/-! ### copydeskref03_SameStrings: function 31 -/
def copydeskref03_SameStrings.l0 : Nat → List ByteArray → List ByteArray → Int → Option (Bool)
  | 0, _, _, _ => none
  | k + 1, x0, x1, x5 => if x5 < (x0.length : Int) then (if 0 ≤ x5 then (if x5 < (x1.length : Int) then (if (rdOf ByteArray.empty x0 x5).toList = (rdOf ByteArray.empty x1 x5).toList then (copydeskref03_SameStrings.l0 k x0 x1 (wrap64 (x5 + 1))) else (some false)) else (none)) else (none)) else (some true)
def copydeskref03_SameStrings.f (k : Nat) (l0 : List ByteArray) (l1 : List ByteArray) : Option (Bool) := if (l0.length : Int) = (l1.length : Int) then (copydeskref03_SameStrings.l0 k l0 l1 0) else (some false)
theorem copydeskref03_SameStrings.mono_l : ∀ k, (∀ y0 y1 y2, LeO (copydeskref03_SameStrings.l0 k y0 y1 y2) (copydeskref03_SameStrings.l0 (k + 1) y0 y1 y2))
  | 0 => fun _ _ _ r h => by simp [copydeskref03_SameStrings.l0] at h
  | k + 1 => by
    have ih0 := copydeskref03_SameStrings.mono_l k
    · intro y0 y1 y2
      unfold copydeskref03_SameStrings.l0
      repeat' first
      | (with_reducible exact ih0 _ _ _)
      | (with_reducible exact LeO.refl _)
      | (with_reducible exact LeO.none _)
      | (with_reducible refine LeO.ite ?_ ?_)
      | (with_reducible refine LeO.bind ?_ (fun _ => ?_))
      | exact ih0 _ _ _
      | exact LeO.none _
      | refine LeO.ite ?_ ?_
      | refine LeO.bind ?_ (fun _ => ?_)
theorem copydeskref03_SameStrings.mono : ∀ a0 a1 k, LeO (copydeskref03_SameStrings.f k a0 a1) (copydeskref03_SameStrings.f (k + 1) a0 a1) := by
  intro a0 a1 k
  have ih0 := copydeskref03_SameStrings.mono_l k
  unfold copydeskref03_SameStrings.f
  repeat' first
      | (with_reducible exact ih0 _ _ _)
      | (with_reducible exact LeO.refl _)
      | (with_reducible exact LeO.none _)
      | (with_reducible refine LeO.ite ?_ ?_)
      | (with_reducible refine LeO.bind ?_ (fun _ => ?_))
      | exact ih0 _ _ _
      | exact LeO.none _
      | refine LeO.ite ?_ ?_
      | refine LeO.bind ?_ (fun _ => ?_)
set_option maxHeartbeats 8000000 in
set_option maxRecDepth 100000 in
theorem copydeskref03_SameStrings.calls (k : Nat) (A0 : Option Addr) (c0 : Nat) (l0 : List ByteArray) (A1 : Option Addr) (c1 : Nat) (l1 : List ByteArray) (r : Bool) (w : World) (hr0 : Kd.C Kd.string w A0 l0.length l0) (hc0 : l0.length ≤ c0) (hr1 : Kd.C Kd.string w A1 l1.length l1) (hc1 : l1.length ≤ c1) (h : copydeskref03_SameStrings.f k l0 l1 = some r) :
    Calls Tryd.prog 31 #[.slice A0 l0.length c0, .slice A1 l1.length c1] w fun e w' => e = .returned (.bool r) ∧ Drawn0 w w' := by
  have HR0 := Aside0.mk hr0
  have HC0 := Aside0.mk hc0
  clear hr0 hc0
  have HR1 := Aside0.mk hr1
  have HC1 := Aside0.mk hc1
  clear hr1 hc1
  have H : (if (l0.length : Int) = (l1.length : Int) then (copydeskref03_SameStrings.l0 k l0 l1 0) else (some false)) = some r := h
  clear h
  by_cases c3 : (l0.length : Int) = (l1.length : Int)
  · rw [if_pos c3] at H
    have c3b0 : ((l0.length : Int) == (l1.length : Int)) = true := beq_iff_eq.mpr c3
    have c3b1 : ((l0.length : Int) != (l1.length : Int)) = false := bne_eq_false_iff_eq.mpr c3
    have c3b2 : (l0.length == l1.length) = true := by first | simpa using c3 | (simp at c3 ⊢; omega)
    clear c3
    have H' := Aside0.mk H
    clear H
    go_enter Tryd.func31, Tryd.ntmps31
    go_wp2
    repeat (go_quiet (fail); try go_wp2)
    go_loopg [5] k (fun kq v5 w' => ∃ (x5_1 : Int), v5 = .int .i64 x5_1 ∧ Aside0 (copydeskref03_SameStrings.l0 kq l0 l1 x5_1 = some r) ∧ Aside0 (kq ≤ k) ∧ Drawn0 w w')
    case atStart => exact ⟨(0), (by first | rfl | (simp; done) | (simp [*]; done)), H', ⟨Nat.le_refl _⟩, by repeat (first | exact Drawn0.refl _ | apply Drawn0.step)⟩
    case round =>
      clear H'
      try clear c1
      try clear p2
      try clear c3
      try clear c3b0
      try clear c3b1
      try clear c3b2
      obtain ⟨x5_1, rfl, HA, HK1, ⟨m1, rfl⟩⟩ := hrel
      cases gk with
      | zero => exact absurd HA.out (by simp [copydeskref03_SameStrings.l0])
      | succ k1 =>
        have H := HA.out
        clear HA
        simp only [copydeskref03_SameStrings.l0] at H
        by_cases c4 : x5_1 < (l0.length : Int)
        · rw [if_pos c4] at H
          have c4b0 : decide (x5_1 < (l0.length : Int)) = true := decide_eq_true c4
          clear c4
          by_cases c5 : 0 ≤ x5_1
          · rw [if_pos c5] at H
            have c5b0 : decide (0 ≤ x5_1) = true := decide_eq_true c5
            clear c5
            by_cases c6 : x5_1 < (l1.length : Int)
            · rw [if_pos c6] at H
              have c6b0 : decide (x5_1 < (l1.length : Int)) = true := decide_eq_true c6
              clear c6
              by_cases c7 : (rdOf ByteArray.empty l0 x5_1).toList = (rdOf ByteArray.empty l1 x5_1).toList
              · rw [if_pos c7] at H
                have c7b0 : ((rdOf ByteArray.empty l0 x5_1).toList == (rdOf ByteArray.empty l1 x5_1).toList) = true := beq_iff_eq.mpr c7
                have c7b1 : ((rdOf ByteArray.empty l0 x5_1).toList != (rdOf ByteArray.empty l1 x5_1).toList) = false := bne_eq_false_iff_eq.mpr c7
                clear c7
                have H' := Aside0.mk H
                clear H
                have p254 : 0 ≤ (x5_1 : Int) := of_decide_eq_true (by first | (with_reducible assumption) | assumption)
                have q254 : x5_1 < (l0.length : Int) := of_decide_eq_true (by first | (with_reducible assumption) | assumption)
                obtain ⟨ad254, e254, hx254_0⟩ := Kd.at_string HR0.out x5_1 p254 q254
                cases e254
                replace p254 := eq_true p254
                replace q254 := eq_true q254
                have p255 : 0 ≤ (x5_1 : Int) := of_decide_eq_true (by first | (with_reducible assumption) | assumption)
                have q255 : x5_1 < (l1.length : Int) := of_decide_eq_true (by first | (with_reducible assumption) | assumption)
                obtain ⟨ad255, e255, hx255_0⟩ := Kd.at_string HR1.out x5_1 p255 q255
                cases e255
                replace p255 := eq_true p255
                replace q255 := eq_true q255
                go_wp2
                repeat (go_quiet (fail); try go_wp2)
                go_roundg k1
                case measure => have := HK1.out; omega
                case rel => exact ⟨(wrap64 (x5_1 + 1)), (by first | rfl | (simp; done) | (simp [*]; done)), H', ⟨by have := HK1.out; omega⟩, by repeat (first | exact Drawn0.refl _ | apply Drawn0.step)⟩
              · rw [if_neg c7] at H
                have c7b0 : ((rdOf ByteArray.empty l0 x5_1).toList == (rdOf ByteArray.empty l1 x5_1).toList) = false := beq_eq_false_iff_ne.mpr c7
                have c7b1 : ((rdOf ByteArray.empty l0 x5_1).toList != (rdOf ByteArray.empty l1 x5_1).toList) = true := bne_iff_ne.mpr c7
                obtain rfl := Option.some.inj H
                have p254 : 0 ≤ (x5_1 : Int) := of_decide_eq_true (by first | (with_reducible assumption) | assumption)
                have q254 : x5_1 < (l0.length : Int) := of_decide_eq_true (by first | (with_reducible assumption) | assumption)
                obtain ⟨ad254, e254, hx254_0⟩ := Kd.at_string HR0.out x5_1 p254 q254
                cases e254
                replace p254 := eq_true p254
                replace q254 := eq_true q254
                have p255 : 0 ≤ (x5_1 : Int) := of_decide_eq_true (by first | (with_reducible assumption) | assumption)
                have q255 : x5_1 < (l1.length : Int) := of_decide_eq_true (by first | (with_reducible assumption) | assumption)
                obtain ⟨ad255, e255, hx255_0⟩ := Kd.at_string HR1.out x5_1 p255 q255
                cases e255
                replace p255 := eq_true p255
                replace q255 := eq_true q255
                go_wp2
                repeat (go_quiet (fail); try go_wp2)
                go_ret
                exact ⟨by first | rfl | (simp; done) | (simp [*]; done), by repeat (first | exact Drawn0.refl _ | apply Drawn0.step)⟩
            · rw [if_neg c6] at H
              exact absurd H (by simp)
          · rw [if_neg c5] at H
            exact absurd H (by simp)
        · rw [if_neg c4] at H
          have c4b0 : decide (x5_1 < (l0.length : Int)) = false := decide_eq_false c4
          clear c4
          obtain rfl := Option.some.inj H
          go_wp2
          repeat (go_quiet (fail); try go_wp2)
          go_ret
          exact ⟨by first | rfl | (simp; done) | (simp [*]; done), by repeat (first | exact Drawn0.refl _ | apply Drawn0.step)⟩
  · rw [if_neg c3] at H
    have c3b0 : ((l0.length : Int) == (l1.length : Int)) = false := beq_eq_false_iff_ne.mpr c3
    have c3b1 : ((l0.length : Int) != (l1.length : Int)) = true := bne_iff_ne.mpr c3
    have c3b2 : (l0.length == l1.length) = false := by first | simpa using c3 | (simp at c3 ⊢; omega)
    obtain rfl := Option.some.inj H
    go_enter Tryd.func31, Tryd.ntmps31
    go_wp2
    repeat (go_quiet (fail); try go_wp2)
    go_ret
    exact ⟨by first | rfl | (simp; done) | (simp [*]; done), by repeat (first | exact Drawn0.refl _ | apply Drawn0.step)⟩

end Go.Proofs.YtpgjhjlhipikgaaDoor.PK
end
section
namespace Go.Proofs.YtpgjhjlhipikgaaDoor.PK
open Go.RowKit Go.Proofs.YtpgjhjlhipikgaaDoorW.PrintWords Go.Proofs.YtpgjhjlhipikgaaDoorW.PrintLast Go.Proofs.YtpgjhjlhipikgaaDoorW.PrintMore
attribute [local go_sem] max2_int min2_int max_two min_two max_three min_three max_four min_four   -- for this text's walks alone
set_option linter.unusedVariables false
set_option linter.unusedSimpArgs false

/-! ### copydeskref03_ends: function 62 -/
def copydeskref03_ends.j0 : Nat → ByteArray → Int → Bool → Option (Bool)
  | 0, _, _, _ => none
  | k + 1, x0, x1, x22 => if x22 = true then (some false) else (if (wrap64 (x1 + 1)) < (x0.size : Int) then (if 0 ≤ (wrap64 (x1 + 1)) then (if (bt x0 (wrap64 (x1 + 1))) = 32 then (if (wrap64 (x1 - 1)) ≥ 0 then (if 0 ≤ (wrap64 (x1 - 1)) then (if (wrap64 (x1 - 1)) < (x0.size : Int) then (if (bt x0 (wrap64 (x1 - 1))) ≥ 65 then (if (bt x0 (wrap64 (x1 - 1))) ≤ 90 then (if (wrap64 (x1 - 1)) = 0 then (if 0 ≤ x1 then (if x1 < (x0.size : Int) then (if (bt x0 x1) = 46 then (some (!true)) else (some true)) else (none)) else (none)) else (if 0 ≤ (wrap64 ((wrap64 (x1 - 1)) - 1)) then (if (wrap64 ((wrap64 (x1 - 1)) - 1)) < (x0.size : Int) then (if 0 ≤ x1 then (if x1 < (x0.size : Int) then (if (bt x0 x1) = 46 then (some (!((bt x0 (wrap64 ((wrap64 (x1 - 1)) - 1))) == 32))) else (some true)) else (none)) else (none)) else (none)) else (none))) else (if 0 ≤ x1 then (if x1 < (x0.size : Int) then (if (bt x0 x1) = 46 then (some (!false)) else (some true)) else (none)) else (none))) else (if 0 ≤ x1 then (if x1 < (x0.size : Int) then (if (bt x0 x1) = 46 then (some (!false)) else (some true)) else (none)) else (none))) else (none)) else (none)) else (if 0 ≤ x1 then (if x1 < (x0.size : Int) then (if (bt x0 x1) = 46 then (some (!false)) else (some true)) else (none)) else (none))) else (some false)) else (none)) else (if (wrap64 (x1 - 1)) ≥ 0 then (if 0 ≤ (wrap64 (x1 - 1)) then (if (wrap64 (x1 - 1)) < (x0.size : Int) then (if (bt x0 (wrap64 (x1 - 1))) ≥ 65 then (if (bt x0 (wrap64 (x1 - 1))) ≤ 90 then (if (wrap64 (x1 - 1)) = 0 then (if 0 ≤ x1 then (if x1 < (x0.size : Int) then (if (bt x0 x1) = 46 then (some (!true)) else (some true)) else (none)) else (none)) else (if 0 ≤ (wrap64 ((wrap64 (x1 - 1)) - 1)) then (if (wrap64 ((wrap64 (x1 - 1)) - 1)) < (x0.size : Int) then (if 0 ≤ x1 then (if x1 < (x0.size : Int) then (if (bt x0 x1) = 46 then (some (!((bt x0 (wrap64 ((wrap64 (x1 - 1)) - 1))) == 32))) else (some true)) else (none)) else (none)) else (none)) else (none))) else (if 0 ≤ x1 then (if x1 < (x0.size : Int) then (if (bt x0 x1) = 46 then (some (!false)) else (some true)) else (none)) else (none))) else (if 0 ≤ x1 then (if x1 < (x0.size : Int) then (if (bt x0 x1) = 46 then (some (!false)) else (some true)) else (none)) else (none))) else (none)) else (none)) else (if 0 ≤ x1 then (if x1 < (x0.size : Int) then (if (bt x0 x1) = 46 then (some (!false)) else (some true)) else (none)) else (none))))
def copydeskref03_ends.f (k : Nat) (a0 : ByteArray) (a1 : Int) : Option (Bool) := if 0 ≤ a1 then (if a1 < (a0.size : Int) then (if (bt a0 a1) = 46 then (copydeskref03_ends.j0 k a0 a1 false) else (if (bt a0 a1) = 33 then (copydeskref03_ends.j0 k a0 a1 false) else (copydeskref03_ends.j0 k a0 a1 ((bt a0 a1) != 63)))) else (none)) else (none)
theorem copydeskref03_ends.mono_l : ∀ k, (∀ y0 y1 y2, LeO (copydeskref03_ends.j0 k y0 y1 y2) (copydeskref03_ends.j0 (k + 1) y0 y1 y2))
  | 0 => fun _ _ _ r h => by simp [copydeskref03_ends.j0] at h
  | k + 1 => by
    have ih0 := copydeskref03_ends.mono_l k
    · intro y0 y1 y2
      unfold copydeskref03_ends.j0
      repeat' first
      | (with_reducible exact ih0 _ _ _)
      | (with_reducible exact LeO.refl _)
      | (with_reducible exact LeO.none _)
      | (with_reducible refine LeO.ite ?_ ?_)
      | (with_reducible refine LeO.bind ?_ (fun _ => ?_))
      | exact ih0 _ _ _
      | exact LeO.none _
      | refine LeO.ite ?_ ?_
      | refine LeO.bind ?_ (fun _ => ?_)
theorem copydeskref03_ends.mono : ∀ a0 a1 k, LeO (copydeskref03_ends.f k a0 a1) (copydeskref03_ends.f (k + 1) a0 a1) := by
  intro a0 a1 k
  have ih0 := copydeskref03_ends.mono_l k
  unfold copydeskref03_ends.f
  repeat' first
      | (with_reducible exact ih0 _ _ _)
      | (with_reducible exact LeO.refl _)
      | (with_reducible exact LeO.none _)
      | (with_reducible refine LeO.ite ?_ ?_)
      | (with_reducible refine LeO.bind ?_ (fun _ => ?_))
      | exact ih0 _ _ _
      | exact LeO.none _
      | refine LeO.ite ?_ ?_
      | refine LeO.bind ?_ (fun _ => ?_)
set_option maxHeartbeats 8000000 in
set_option maxRecDepth 100000 in
theorem copydeskref03_ends.calls (k : Nat) (a0 : ByteArray) (a1 : Int) (r : Bool) (w : World) (h : copydeskref03_ends.f k a0 a1 = some r) :
    Calls Tryd.prog 62 #[.string a0, .int .i64 a1] w fun e w' => e = .returned (.bool r) ∧ Drawn0 w w' := by
  have H : (if 0 ≤ a1 then (if a1 < (a0.size : Int) then (if (bt a0 a1) = 46 then (copydeskref03_ends.j0 k a0 a1 false) else (if (bt a0 a1) = 33 then (copydeskref03_ends.j0 k a0 a1 false) else (copydeskref03_ends.j0 k a0 a1 ((bt a0 a1) != 63)))) else (none)) else (none)) = some r := h
  clear h
  have HC3 := Aside0.mk H
  clear H
  go_enter Tryd.func62, Tryd.ntmps62
  go_upto_region 1 with (fail)
  go_cut [22] (fun v22 wc => ∃ (kq : Nat) (x22_2 : Bool), v22 = .bool x22_2 ∧ Aside0 (copydeskref03_ends.j0 kq a0 a1 x22_2 = some r) ∧ Aside0 (kq ≤ k) ∧ Drawn0 w wc)
  case first =>
    have H := HC3.out
    clear HC3
    by_cases c4 : 0 ≤ a1
    · rw [if_pos c4] at H
      have c4b0 : decide (0 ≤ a1) = true := decide_eq_true c4
      clear c4
      (first | rw [c4b0] | (simp only [i64_w, i32_w]; rw [c4b0]) | skip)
      by_cases c5 : a1 < (a0.size : Int)
      · rw [if_pos c5] at H
        have c5b0 : decide (a1 < (a0.size : Int)) = true := decide_eq_true c5
        clear c5
        by_cases c7 : (bt a0 a1) = 46
        · rw [if_pos c7] at H
          have c7b0 : ((bt a0 a1) == 46) = true := beq_iff_eq.mpr c7
          have c7b1 : ((bt a0 a1) != 46) = false := bne_eq_false_iff_eq.mpr c7
          clear c7
          have H' := Aside0.mk H
          clear H
          have p6 : 0 ≤ (a1 : Int) := of_decide_eq_true (by first | (with_reducible assumption) | assumption)
          have q6 : a1 < (a0.size : Int) := of_decide_eq_true (by first | (with_reducible assumption) | assumption)
          have hx6 := bt_at a0 a1
          replace p6 := eq_true p6
          replace q6 := eq_true q6
          go_wp2
          go_meet
          case rel => exact ⟨_, (false), (by first | rfl | (simp; done) | (simp [*]; done)), H', ⟨by first | omega | exact Nat.le_refl _⟩, by repeat (first | exact Drawn0.refl _ | apply Drawn0.step)⟩
        · rw [if_neg c7] at H
          have c7b0 : ((bt a0 a1) == 46) = false := beq_eq_false_iff_ne.mpr c7
          have c7b1 : ((bt a0 a1) != 46) = true := bne_iff_ne.mpr c7
          by_cases c9 : (bt a0 a1) = 33
          · rw [if_pos c9] at H
            have c9b0 : ((bt a0 a1) == 33) = true := beq_iff_eq.mpr c9
            have c9b1 : ((bt a0 a1) != 33) = false := bne_eq_false_iff_eq.mpr c9
            clear c9
            have H' := Aside0.mk H
            clear H
            have p6 : 0 ≤ (a1 : Int) := of_decide_eq_true (by first | (with_reducible assumption) | assumption)
            have q6 : a1 < (a0.size : Int) := of_decide_eq_true (by first | (with_reducible assumption) | assumption)
            have hx6 := bt_at a0 a1
            replace p6 := eq_true p6
            replace q6 := eq_true q6
            have p8 : 0 ≤ (a1 : Int) := of_decide_eq_true (by first | (with_reducible assumption) | assumption)
            have q8 : a1 < (a0.size : Int) := of_decide_eq_true (by first | (with_reducible assumption) | assumption)
            have hx8 := bt_at a0 a1
            replace p8 := eq_true p8
            replace q8 := eq_true q8
            go_wp2
            go_meet
            case rel => exact ⟨_, (false), (by first | rfl | (simp; done) | (simp [*]; done)), H', ⟨by first | omega | exact Nat.le_refl _⟩, by repeat (first | exact Drawn0.refl _ | apply Drawn0.step)⟩
          · rw [if_neg c9] at H
            have c9b0 : ((bt a0 a1) == 33) = false := beq_eq_false_iff_ne.mpr c9
            have c9b1 : ((bt a0 a1) != 33) = true := bne_iff_ne.mpr c9
            have H' := Aside0.mk H
            clear H
            have p6 : 0 ≤ (a1 : Int) := of_decide_eq_true (by first | (with_reducible assumption) | assumption)
            have q6 : a1 < (a0.size : Int) := of_decide_eq_true (by first | (with_reducible assumption) | assumption)
            have hx6 := bt_at a0 a1
            replace p6 := eq_true p6
            replace q6 := eq_true q6
            have p8 : 0 ≤ (a1 : Int) := of_decide_eq_true (by first | (with_reducible assumption) | assumption)
            have q8 : a1 < (a0.size : Int) := of_decide_eq_true (by first | (with_reducible assumption) | assumption)
            have hx8 := bt_at a0 a1
            replace p8 := eq_true p8
            replace q8 := eq_true q8
            have p10 : 0 ≤ (a1 : Int) := of_decide_eq_true (by first | (with_reducible assumption) | assumption)
            have q10 : a1 < (a0.size : Int) := of_decide_eq_true (by first | (with_reducible assumption) | assumption)
            have hx10 := bt_at a0 a1
            replace p10 := eq_true p10
            replace q10 := eq_true q10
            go_wp2
            go_meet
            case rel => exact ⟨_, (((bt a0 a1) != 63)), (by first | rfl | (simp; done) | (simp [*]; done)), H', ⟨by first | omega | exact Nat.le_refl _⟩, by repeat (first | exact Drawn0.refl _ | apply Drawn0.step)⟩
      · rw [if_neg c5] at H
        exact absurd H (by simp)
    · rw [if_neg c4] at H
      exact absurd H (by simp)
  case rest =>
    clear HC3
    try clear p1
    try clear q1
    try clear hx1
    try clear p2
    try clear c4
    try clear c4b0
    try clear c5
    try clear c5b0
    try clear c6
    try clear p6
    try clear q6
    try clear hx6
    try clear c7
    try clear c7b0
    try clear c7b1
    try clear p8
    try clear q8
    try clear hx8
    try clear c9
    try clear c9b0
    try clear c9b1
    try clear p10
    try clear q10
    try clear hx10
    try clear p10
    try clear p6
    try clear p8
    try clear q10
    try clear q6
    try clear q8
    obtain ⟨kq, x22_2, rfl, HA, HJ2, ⟨mc2, rfl⟩⟩ := hcut
    cases kq with
    | zero => exact absurd HA.out (by simp [copydeskref03_ends.j0])
    | succ kj2 =>
      have H := HA.out
      clear HA
      simp only [copydeskref03_ends.j0] at H
      by_cases c11 : x22_2 = true
      · subst c11
        have H1 : (some false) = some r := by rw [if_pos rfl] at H; exact H
        clear H
        have H := H1
        clear H1
        obtain rfl := Option.some.inj H
        go_wp2
        go_ret
        exact ⟨by first | rfl | (simp; done) | (simp [*]; done), by repeat (first | exact Drawn0.refl _ | apply Drawn0.step)⟩
      · replace c11 := Bool.eq_false_iff.mpr c11
        subst c11
        have H1 : (if (wrap64 (a1 + 1)) < (a0.size : Int) then (if 0 ≤ (wrap64 (a1 + 1)) then (if (bt a0 (wrap64 (a1 + 1))) = 32 then (if (wrap64 (a1 - 1)) ≥ 0 then (if 0 ≤ (wrap64 (a1 - 1)) then (if (wrap64 (a1 - 1)) < (a0.size : Int) then (if (bt a0 (wrap64 (a1 - 1))) ≥ 65 then (if (bt a0 (wrap64 (a1 - 1))) ≤ 90 then (if (wrap64 (a1 - 1)) = 0 then (if 0 ≤ a1 then (if a1 < (a0.size : Int) then (if (bt a0 a1) = 46 then (some (!true)) else (some true)) else (none)) else (none)) else (if 0 ≤ (wrap64 ((wrap64 (a1 - 1)) - 1)) then (if (wrap64 ((wrap64 (a1 - 1)) - 1)) < (a0.size : Int) then (if 0 ≤ a1 then (if a1 < (a0.size : Int) then (if (bt a0 a1) = 46 then (some (!((bt a0 (wrap64 ((wrap64 (a1 - 1)) - 1))) == 32))) else (some true)) else (none)) else (none)) else (none)) else (none))) else (if 0 ≤ a1 then (if a1 < (a0.size : Int) then (if (bt a0 a1) = 46 then (some (!false)) else (some true)) else (none)) else (none))) else (if 0 ≤ a1 then (if a1 < (a0.size : Int) then (if (bt a0 a1) = 46 then (some (!false)) else (some true)) else (none)) else (none))) else (none)) else (none)) else (if 0 ≤ a1 then (if a1 < (a0.size : Int) then (if (bt a0 a1) = 46 then (some (!false)) else (some true)) else (none)) else (none))) else (some false)) else (none)) else (if (wrap64 (a1 - 1)) ≥ 0 then (if 0 ≤ (wrap64 (a1 - 1)) then (if (wrap64 (a1 - 1)) < (a0.size : Int) then (if (bt a0 (wrap64 (a1 - 1))) ≥ 65 then (if (bt a0 (wrap64 (a1 - 1))) ≤ 90 then (if (wrap64 (a1 - 1)) = 0 then (if 0 ≤ a1 then (if a1 < (a0.size : Int) then (if (bt a0 a1) = 46 then (some (!true)) else (some true)) else (none)) else (none)) else (if 0 ≤ (wrap64 ((wrap64 (a1 - 1)) - 1)) then (if (wrap64 ((wrap64 (a1 - 1)) - 1)) < (a0.size : Int) then (if 0 ≤ a1 then (if a1 < (a0.size : Int) then (if (bt a0 a1) = 46 then (some (!((bt a0 (wrap64 ((wrap64 (a1 - 1)) - 1))) == 32))) else (some true)) else (none)) else (none)) else (none)) else (none))) else (if 0 ≤ a1 then (if a1 < (a0.size : Int) then (if (bt a0 a1) = 46 then (some (!false)) else (some true)) else (none)) else (none))) else (if 0 ≤ a1 then (if a1 < (a0.size : Int) then (if (bt a0 a1) = 46 then (some (!false)) else (some true)) else (none)) else (none))) else (none)) else (none)) else (if 0 ≤ a1 then (if a1 < (a0.size : Int) then (if (bt a0 a1) = 46 then (some (!false)) else (some true)) else (none)) else (none)))) = some r := by rw [if_neg (show ¬ (false = true) by decide)] at H; exact H
        clear H
        have H := H1
        clear H1
        by_cases c12 : (wrap64 (a1 + 1)) < (a0.size : Int)
        · rw [if_pos c12] at H
          have c12b0 : decide ((wrap64 (a1 + 1)) < (a0.size : Int)) = true := decide_eq_true c12
          clear c12
          obtain ⟨ji13, hji13⟩ : ∃ j_ : Int, (wrap64 (a1 + 1)) = j_ := ⟨_, rfl⟩
          replace H : (if 0 ≤ (ji13) then (if (bt a0 (ji13)) = 32 then (if (wrap64 (a1 - 1)) ≥ 0 then (if 0 ≤ (wrap64 (a1 - 1)) then (if (wrap64 (a1 - 1)) < (a0.size : Int) then (if (bt a0 (wrap64 (a1 - 1))) ≥ 65 then (if (bt a0 (wrap64 (a1 - 1))) ≤ 90 then (if (wrap64 (a1 - 1)) = 0 then (if 0 ≤ a1 then (if a1 < (a0.size : Int) then (if (bt a0 a1) = 46 then (some (!true)) else (some true)) else (none)) else (none)) else (if 0 ≤ (wrap64 ((wrap64 (a1 - 1)) - 1)) then (if (wrap64 ((wrap64 (a1 - 1)) - 1)) < (a0.size : Int) then (if 0 ≤ a1 then (if a1 < (a0.size : Int) then (if (bt a0 a1) = 46 then (some (!((bt a0 (wrap64 ((wrap64 (a1 - 1)) - 1))) == 32))) else (some true)) else (none)) else (none)) else (none)) else (none))) else (if 0 ≤ a1 then (if a1 < (a0.size : Int) then (if (bt a0 a1) = 46 then (some (!false)) else (some true)) else (none)) else (none))) else (if 0 ≤ a1 then (if a1 < (a0.size : Int) then (if (bt a0 a1) = 46 then (some (!false)) else (some true)) else (none)) else (none))) else (none)) else (none)) else (if 0 ≤ a1 then (if a1 < (a0.size : Int) then (if (bt a0 a1) = 46 then (some (!false)) else (some true)) else (none)) else (none))) else (some false)) else (none)) = some r := by first | (rw [hji13] at H; exact H) | (simp only [hji13] at H ⊢; exact H)
          (try rw [hji13] at c12b0)
          have hji13w : (IntKind.i64.wrap (a1 + 1)) = ji13 := (i64_w _).trans hji13
          by_cases c14 : 0 ≤ (ji13)
          · rw [if_pos c14] at H
            have c14b0 : decide (0 ≤ (ji13)) = true := decide_eq_true c14
            clear c14
            by_cases c16 : (bt a0 (ji13)) = 32
            · rw [if_pos c16] at H
              have c16b0 : ((bt a0 (ji13)) == 32) = true := beq_iff_eq.mpr c16
              have c16b1 : ((bt a0 (ji13)) != 32) = false := bne_eq_false_iff_eq.mpr c16
              clear c16
              by_cases c17 : (wrap64 (a1 - 1)) ≥ 0
              · rw [if_pos c17] at H
                have c17b0 : decide (0 ≤ (wrap64 (a1 - 1))) = true := decide_eq_true c17
                clear c17
                obtain ⟨ji18, hji18⟩ : ∃ j_ : Int, (wrap64 (a1 - 1)) = j_ := ⟨_, rfl⟩
                replace H : (if 0 ≤ (ji18) then (if (ji18) < (a0.size : Int) then (if (bt a0 (ji18)) ≥ 65 then (if (bt a0 (ji18)) ≤ 90 then (if (ji18) = 0 then (if 0 ≤ a1 then (if a1 < (a0.size : Int) then (if (bt a0 a1) = 46 then (some (!true)) else (some true)) else (none)) else (none)) else (if 0 ≤ (wrap64 ((ji18) - 1)) then (if (wrap64 ((ji18) - 1)) < (a0.size : Int) then (if 0 ≤ a1 then (if a1 < (a0.size : Int) then (if (bt a0 a1) = 46 then (some (!((bt a0 (wrap64 ((ji18) - 1))) == 32))) else (some true)) else (none)) else (none)) else (none)) else (none))) else (if 0 ≤ a1 then (if a1 < (a0.size : Int) then (if (bt a0 a1) = 46 then (some (!false)) else (some true)) else (none)) else (none))) else (if 0 ≤ a1 then (if a1 < (a0.size : Int) then (if (bt a0 a1) = 46 then (some (!false)) else (some true)) else (none)) else (none))) else (none)) else (none)) = some r := by first | (rw [hji18] at H; exact H) | (simp only [hji18] at H ⊢; exact H)
                (try rw [hji18] at c17b0)
                have hji18w : (IntKind.i64.wrap (a1 - 1)) = ji18 := (i64_w _).trans hji18
                by_cases c19 : 0 ≤ (ji18)
                · rw [if_pos c19] at H
                  have c19b0 : decide (0 ≤ (ji18)) = true := decide_eq_true c19
                  clear c19
                  by_cases c20 : (ji18) < (a0.size : Int)
                  · rw [if_pos c20] at H
                    have c20b0 : decide ((ji18) < (a0.size : Int)) = true := decide_eq_true c20
                    clear c20
                    by_cases c22 : (bt a0 (ji18)) ≥ 65
                    · rw [if_pos c22] at H
                      have c22b0 : decide (65 ≤ (bt a0 (ji18))) = true := decide_eq_true c22
                      clear c22
                      by_cases c24 : (bt a0 (ji18)) ≤ 90
                      · rw [if_pos c24] at H
                        have c24b0 : decide ((bt a0 (ji18)) ≤ 90) = true := decide_eq_true c24
                        clear c24
                        by_cases c25 : (ji18) = 0
                        · rw [if_pos c25] at H
                          have c25b0 : ((ji18) == 0) = true := beq_iff_eq.mpr c25
                          have c25b1 : ((ji18) != 0) = false := bne_eq_false_iff_eq.mpr c25
                          clear c25
                          by_cases c26 : 0 ≤ a1
                          · rw [if_pos c26] at H
                            have c26b0 : decide (0 ≤ a1) = true := decide_eq_true c26
                            clear c26
                            by_cases c27 : a1 < (a0.size : Int)
                            · rw [if_pos c27] at H
                              have c27b0 : decide (a1 < (a0.size : Int)) = true := decide_eq_true c27
                              clear c27
                              by_cases c29 : (bt a0 a1) = 46
                              · rw [if_pos c29] at H
                                have c29b0 : ((bt a0 a1) == 46) = true := beq_iff_eq.mpr c29
                                have c29b1 : ((bt a0 a1) != 46) = false := bne_eq_false_iff_eq.mpr c29
                                clear c29
                                obtain rfl := Option.some.inj H
                                have p15 : 0 ≤ ((ji13) : Int) := of_decide_eq_true (by first | (with_reducible assumption) | assumption)
                                have q15 : (ji13) < (a0.size : Int) := of_decide_eq_true (by first | (with_reducible assumption) | assumption)
                                have hx15 := bt_at a0 (ji13)
                                replace p15 := eq_true p15
                                replace q15 := eq_true q15
                                have p21 : 0 ≤ ((ji18) : Int) := of_decide_eq_true (by first | (with_reducible assumption) | assumption)
                                have q21 : (ji18) < (a0.size : Int) := of_decide_eq_true (by first | (with_reducible assumption) | assumption)
                                have hx21 := bt_at a0 (ji18)
                                replace p21 := eq_true p21
                                replace q21 := eq_true q21
                                have p23 : 0 ≤ ((ji18) : Int) := of_decide_eq_true (by first | (with_reducible assumption) | assumption)
                                have q23 : (ji18) < (a0.size : Int) := of_decide_eq_true (by first | (with_reducible assumption) | assumption)
                                have hx23 := bt_at a0 (ji18)
                                replace p23 := eq_true p23
                                replace q23 := eq_true q23
                                have p28 : 0 ≤ (a1 : Int) := of_decide_eq_true (by first | (with_reducible assumption) | assumption)
                                have q28 : a1 < (a0.size : Int) := of_decide_eq_true (by first | (with_reducible assumption) | assumption)
                                have hx28 := bt_at a0 a1
                                replace p28 := eq_true p28
                                replace q28 := eq_true q28
                                go_wp2
                                go_ret
                                exact ⟨by first | rfl | (simp; done) | (simp only [← hji13, ← hji18] <;> (first | rfl | simp)) | (simp [*]; done), by repeat (first | exact Drawn0.refl _ | apply Drawn0.step)⟩
                              · rw [if_neg c29] at H
                                have c29b0 : ((bt a0 a1) == 46) = false := beq_eq_false_iff_ne.mpr c29
                                have c29b1 : ((bt a0 a1) != 46) = true := bne_iff_ne.mpr c29
                                obtain rfl := Option.some.inj H
                                have p15 : 0 ≤ ((ji13) : Int) := of_decide_eq_true (by first | (with_reducible assumption) | assumption)
                                have q15 : (ji13) < (a0.size : Int) := of_decide_eq_true (by first | (with_reducible assumption) | assumption)
                                have hx15 := bt_at a0 (ji13)
                                replace p15 := eq_true p15
                                replace q15 := eq_true q15
                                have p21 : 0 ≤ ((ji18) : Int) := of_decide_eq_true (by first | (with_reducible assumption) | assumption)
                                have q21 : (ji18) < (a0.size : Int) := of_decide_eq_true (by first | (with_reducible assumption) | assumption)
                                have hx21 := bt_at a0 (ji18)
                                replace p21 := eq_true p21
                                replace q21 := eq_true q21
                                have p23 : 0 ≤ ((ji18) : Int) := of_decide_eq_true (by first | (with_reducible assumption) | assumption)
                                have q23 : (ji18) < (a0.size : Int) := of_decide_eq_true (by first | (with_reducible assumption) | assumption)
                                have hx23 := bt_at a0 (ji18)
                                replace p23 := eq_true p23
                                replace q23 := eq_true q23
                                have p28 : 0 ≤ (a1 : Int) := of_decide_eq_true (by first | (with_reducible assumption) | assumption)
                                have q28 : a1 < (a0.size : Int) := of_decide_eq_true (by first | (with_reducible assumption) | assumption)
                                have hx28 := bt_at a0 a1
                                replace p28 := eq_true p28
                                replace q28 := eq_true q28
                                go_wp2
                                go_ret
                                exact ⟨by first | rfl | (simp; done) | (simp only [← hji13, ← hji18] <;> (first | rfl | simp)) | (simp [*]; done), by repeat (first | exact Drawn0.refl _ | apply Drawn0.step)⟩
                            · rw [if_neg c27] at H
                              exact absurd H (by simp)
                          · rw [if_neg c26] at H
                            exact absurd H (by simp)
                        · rw [if_neg c25] at H
                          have c25b0 : ((ji18) == 0) = false := beq_eq_false_iff_ne.mpr c25
                          have c25b1 : ((ji18) != 0) = true := bne_iff_ne.mpr c25
                          obtain ⟨ji30, hji30⟩ : ∃ j_ : Int, (wrap64 ((ji18) - 1)) = j_ := ⟨_, rfl⟩
                          replace H : (if 0 ≤ (ji30) then (if (ji30) < (a0.size : Int) then (if 0 ≤ a1 then (if a1 < (a0.size : Int) then (if (bt a0 a1) = 46 then (some (!((bt a0 (ji30)) == 32))) else (some true)) else (none)) else (none)) else (none)) else (none)) = some r := by first | (rw [hji30] at H; exact H) | (simp only [hji30] at H ⊢; exact H)
                          have hji30w : (IntKind.i64.wrap ((ji18) - 1)) = ji30 := (i64_w _).trans hji30
                          by_cases c31 : 0 ≤ (ji30)
                          · rw [if_pos c31] at H
                            have c31b0 : decide (0 ≤ (ji30)) = true := decide_eq_true c31
                            clear c31
                            by_cases c32 : (ji30) < (a0.size : Int)
                            · rw [if_pos c32] at H
                              have c32b0 : decide ((ji30) < (a0.size : Int)) = true := decide_eq_true c32
                              clear c32
                              by_cases c34 : 0 ≤ a1
                              · rw [if_pos c34] at H
                                have c34b0 : decide (0 ≤ a1) = true := decide_eq_true c34
                                clear c34
                                by_cases c35 : a1 < (a0.size : Int)
                                · rw [if_pos c35] at H
                                  have c35b0 : decide (a1 < (a0.size : Int)) = true := decide_eq_true c35
                                  clear c35
                                  by_cases c37 : (bt a0 a1) = 46
                                  · rw [if_pos c37] at H
                                    have c37b0 : ((bt a0 a1) == 46) = true := beq_iff_eq.mpr c37
                                    have c37b1 : ((bt a0 a1) != 46) = false := bne_eq_false_iff_eq.mpr c37
                                    clear c37
                                    obtain rfl := Option.some.inj H
                                    have p15 : 0 ≤ ((ji13) : Int) := of_decide_eq_true (by first | (with_reducible assumption) | assumption)
                                    have q15 : (ji13) < (a0.size : Int) := of_decide_eq_true (by first | (with_reducible assumption) | assumption)
                                    have hx15 := bt_at a0 (ji13)
                                    replace p15 := eq_true p15
                                    replace q15 := eq_true q15
                                    have p21 : 0 ≤ ((ji18) : Int) := of_decide_eq_true (by first | (with_reducible assumption) | assumption)
                                    have q21 : (ji18) < (a0.size : Int) := of_decide_eq_true (by first | (with_reducible assumption) | assumption)
                                    have hx21 := bt_at a0 (ji18)
                                    replace p21 := eq_true p21
                                    replace q21 := eq_true q21
                                    have p23 : 0 ≤ ((ji18) : Int) := of_decide_eq_true (by first | (with_reducible assumption) | assumption)
                                    have q23 : (ji18) < (a0.size : Int) := of_decide_eq_true (by first | (with_reducible assumption) | assumption)
                                    have hx23 := bt_at a0 (ji18)
                                    replace p23 := eq_true p23
                                    replace q23 := eq_true q23
                                    have p33 : 0 ≤ ((ji30) : Int) := of_decide_eq_true (by first | (with_reducible assumption) | assumption)
                                    have q33 : (ji30) < (a0.size : Int) := of_decide_eq_true (by first | (with_reducible assumption) | assumption)
                                    have hx33 := bt_at a0 (ji30)
                                    replace p33 := eq_true p33
                                    replace q33 := eq_true q33
                                    have p36 : 0 ≤ (a1 : Int) := of_decide_eq_true (by first | (with_reducible assumption) | assumption)
                                    have q36 : a1 < (a0.size : Int) := of_decide_eq_true (by first | (with_reducible assumption) | assumption)
                                    have hx36 := bt_at a0 a1
                                    replace p36 := eq_true p36
                                    replace q36 := eq_true q36
                                    go_wp2
                                    go_ret
                                    exact ⟨by first | rfl | (simp; done) | (simp only [← hji13, ← hji18, ← hji30] <;> (first | rfl | simp)) | (simp [*]; done), by repeat (first | exact Drawn0.refl _ | apply Drawn0.step)⟩
                                  · rw [if_neg c37] at H
                                    have c37b0 : ((bt a0 a1) == 46) = false := beq_eq_false_iff_ne.mpr c37
                                    have c37b1 : ((bt a0 a1) != 46) = true := bne_iff_ne.mpr c37
                                    obtain rfl := Option.some.inj H
                                    have p15 : 0 ≤ ((ji13) : Int) := of_decide_eq_true (by first | (with_reducible assumption) | assumption)
                                    have q15 : (ji13) < (a0.size : Int) := of_decide_eq_true (by first | (with_reducible assumption) | assumption)
                                    have hx15 := bt_at a0 (ji13)
                                    replace p15 := eq_true p15
                                    replace q15 := eq_true q15
                                    have p21 : 0 ≤ ((ji18) : Int) := of_decide_eq_true (by first | (with_reducible assumption) | assumption)
                                    have q21 : (ji18) < (a0.size : Int) := of_decide_eq_true (by first | (with_reducible assumption) | assumption)
                                    have hx21 := bt_at a0 (ji18)
                                    replace p21 := eq_true p21
                                    replace q21 := eq_true q21
                                    have p23 : 0 ≤ ((ji18) : Int) := of_decide_eq_true (by first | (with_reducible assumption) | assumption)
                                    have q23 : (ji18) < (a0.size : Int) := of_decide_eq_true (by first | (with_reducible assumption) | assumption)
                                    have hx23 := bt_at a0 (ji18)
                                    replace p23 := eq_true p23
                                    replace q23 := eq_true q23
                                    have p33 : 0 ≤ ((ji30) : Int) := of_decide_eq_true (by first | (with_reducible assumption) | assumption)
                                    have q33 : (ji30) < (a0.size : Int) := of_decide_eq_true (by first | (with_reducible assumption) | assumption)
                                    have hx33 := bt_at a0 (ji30)
                                    replace p33 := eq_true p33
                                    replace q33 := eq_true q33
                                    have p36 : 0 ≤ (a1 : Int) := of_decide_eq_true (by first | (with_reducible assumption) | assumption)
                                    have q36 : a1 < (a0.size : Int) := of_decide_eq_true (by first | (with_reducible assumption) | assumption)
                                    have hx36 := bt_at a0 a1
                                    replace p36 := eq_true p36
                                    replace q36 := eq_true q36
                                    go_wp2
                                    go_ret
                                    exact ⟨by first | rfl | (simp; done) | (simp only [← hji13, ← hji18, ← hji30] <;> (first | rfl | simp)) | (simp [*]; done), by repeat (first | exact Drawn0.refl _ | apply Drawn0.step)⟩
                                · rw [if_neg c35] at H
                                  exact absurd H (by simp)
                              · rw [if_neg c34] at H
                                exact absurd H (by simp)
                            · rw [if_neg c32] at H
                              exact absurd H (by simp)
                          · rw [if_neg c31] at H
                            exact absurd H (by simp)
                      · rw [if_neg c24] at H
                        have c24b0 : decide ((bt a0 (ji18)) ≤ 90) = false := decide_eq_false c24
                        clear c24
                        by_cases c38 : 0 ≤ a1
                        · rw [if_pos c38] at H
                          have c38b0 : decide (0 ≤ a1) = true := decide_eq_true c38
                          clear c38
                          by_cases c39 : a1 < (a0.size : Int)
                          · rw [if_pos c39] at H
                            have c39b0 : decide (a1 < (a0.size : Int)) = true := decide_eq_true c39
                            clear c39
                            by_cases c41 : (bt a0 a1) = 46
                            · rw [if_pos c41] at H
                              have c41b0 : ((bt a0 a1) == 46) = true := beq_iff_eq.mpr c41
                              have c41b1 : ((bt a0 a1) != 46) = false := bne_eq_false_iff_eq.mpr c41
                              clear c41
                              obtain rfl := Option.some.inj H
                              have p15 : 0 ≤ ((ji13) : Int) := of_decide_eq_true (by first | (with_reducible assumption) | assumption)
                              have q15 : (ji13) < (a0.size : Int) := of_decide_eq_true (by first | (with_reducible assumption) | assumption)
                              have hx15 := bt_at a0 (ji13)
                              replace p15 := eq_true p15
                              replace q15 := eq_true q15
                              have p21 : 0 ≤ ((ji18) : Int) := of_decide_eq_true (by first | (with_reducible assumption) | assumption)
                              have q21 : (ji18) < (a0.size : Int) := of_decide_eq_true (by first | (with_reducible assumption) | assumption)
                              have hx21 := bt_at a0 (ji18)
                              replace p21 := eq_true p21
                              replace q21 := eq_true q21
                              have p23 : 0 ≤ ((ji18) : Int) := of_decide_eq_true (by first | (with_reducible assumption) | assumption)
                              have q23 : (ji18) < (a0.size : Int) := of_decide_eq_true (by first | (with_reducible assumption) | assumption)
                              have hx23 := bt_at a0 (ji18)
                              replace p23 := eq_true p23
                              replace q23 := eq_true q23
                              have p40 : 0 ≤ (a1 : Int) := of_decide_eq_true (by first | (with_reducible assumption) | assumption)
                              have q40 : a1 < (a0.size : Int) := of_decide_eq_true (by first | (with_reducible assumption) | assumption)
                              have hx40 := bt_at a0 a1
                              replace p40 := eq_true p40
                              replace q40 := eq_true q40
                              go_wp2
                              go_ret
                              exact ⟨by first | rfl | (simp; done) | (simp only [← hji13, ← hji18] <;> (first | rfl | simp)) | (simp [*]; done), by repeat (first | exact Drawn0.refl _ | apply Drawn0.step)⟩
                            · rw [if_neg c41] at H
                              have c41b0 : ((bt a0 a1) == 46) = false := beq_eq_false_iff_ne.mpr c41
                              have c41b1 : ((bt a0 a1) != 46) = true := bne_iff_ne.mpr c41
                              obtain rfl := Option.some.inj H
                              have p15 : 0 ≤ ((ji13) : Int) := of_decide_eq_true (by first | (with_reducible assumption) | assumption)
                              have q15 : (ji13) < (a0.size : Int) := of_decide_eq_true (by first | (with_reducible assumption) | assumption)
                              have hx15 := bt_at a0 (ji13)
                              replace p15 := eq_true p15
                              replace q15 := eq_true q15
                              have p21 : 0 ≤ ((ji18) : Int) := of_decide_eq_true (by first | (with_reducible assumption) | assumption)
                              have q21 : (ji18) < (a0.size : Int) := of_decide_eq_true (by first | (with_reducible assumption) | assumption)
                              have hx21 := bt_at a0 (ji18)
                              replace p21 := eq_true p21
                              replace q21 := eq_true q21
                              have p23 : 0 ≤ ((ji18) : Int) := of_decide_eq_true (by first | (with_reducible assumption) | assumption)
                              have q23 : (ji18) < (a0.size : Int) := of_decide_eq_true (by first | (with_reducible assumption) | assumption)
                              have hx23 := bt_at a0 (ji18)
                              replace p23 := eq_true p23
                              replace q23 := eq_true q23
                              have p40 : 0 ≤ (a1 : Int) := of_decide_eq_true (by first | (with_reducible assumption) | assumption)
                              have q40 : a1 < (a0.size : Int) := of_decide_eq_true (by first | (with_reducible assumption) | assumption)
                              have hx40 := bt_at a0 a1
                              replace p40 := eq_true p40
                              replace q40 := eq_true q40
                              go_wp2
                              go_ret
                              exact ⟨by first | rfl | (simp; done) | (simp only [← hji13, ← hji18] <;> (first | rfl | simp)) | (simp [*]; done), by repeat (first | exact Drawn0.refl _ | apply Drawn0.step)⟩
                          · rw [if_neg c39] at H
                            exact absurd H (by simp)
                        · rw [if_neg c38] at H
                          exact absurd H (by simp)
                    · rw [if_neg c22] at H
                      have c22b0 : decide (65 ≤ (bt a0 (ji18))) = false := decide_eq_false c22
                      clear c22
                      by_cases c42 : 0 ≤ a1
                      · rw [if_pos c42] at H
                        have c42b0 : decide (0 ≤ a1) = true := decide_eq_true c42
                        clear c42
                        by_cases c43 : a1 < (a0.size : Int)
                        · rw [if_pos c43] at H
                          have c43b0 : decide (a1 < (a0.size : Int)) = true := decide_eq_true c43
                          clear c43
                          by_cases c45 : (bt a0 a1) = 46
                          · rw [if_pos c45] at H
                            have c45b0 : ((bt a0 a1) == 46) = true := beq_iff_eq.mpr c45
                            have c45b1 : ((bt a0 a1) != 46) = false := bne_eq_false_iff_eq.mpr c45
                            clear c45
                            obtain rfl := Option.some.inj H
                            have p15 : 0 ≤ ((ji13) : Int) := of_decide_eq_true (by first | (with_reducible assumption) | assumption)
                            have q15 : (ji13) < (a0.size : Int) := of_decide_eq_true (by first | (with_reducible assumption) | assumption)
                            have hx15 := bt_at a0 (ji13)
                            replace p15 := eq_true p15
                            replace q15 := eq_true q15
                            have p21 : 0 ≤ ((ji18) : Int) := of_decide_eq_true (by first | (with_reducible assumption) | assumption)
                            have q21 : (ji18) < (a0.size : Int) := of_decide_eq_true (by first | (with_reducible assumption) | assumption)
                            have hx21 := bt_at a0 (ji18)
                            replace p21 := eq_true p21
                            replace q21 := eq_true q21
                            have p44 : 0 ≤ (a1 : Int) := of_decide_eq_true (by first | (with_reducible assumption) | assumption)
                            have q44 : a1 < (a0.size : Int) := of_decide_eq_true (by first | (with_reducible assumption) | assumption)
                            have hx44 := bt_at a0 a1
                            replace p44 := eq_true p44
                            replace q44 := eq_true q44
                            go_wp2
                            go_ret
                            exact ⟨by first | rfl | (simp; done) | (simp only [← hji13, ← hji18] <;> (first | rfl | simp)) | (simp [*]; done), by repeat (first | exact Drawn0.refl _ | apply Drawn0.step)⟩
                          · rw [if_neg c45] at H
                            have c45b0 : ((bt a0 a1) == 46) = false := beq_eq_false_iff_ne.mpr c45
                            have c45b1 : ((bt a0 a1) != 46) = true := bne_iff_ne.mpr c45
                            obtain rfl := Option.some.inj H
                            have p15 : 0 ≤ ((ji13) : Int) := of_decide_eq_true (by first | (with_reducible assumption) | assumption)
                            have q15 : (ji13) < (a0.size : Int) := of_decide_eq_true (by first | (with_reducible assumption) | assumption)
                            have hx15 := bt_at a0 (ji13)
                            replace p15 := eq_true p15
                            replace q15 := eq_true q15
                            have p21 : 0 ≤ ((ji18) : Int) := of_decide_eq_true (by first | (with_reducible assumption) | assumption)
                            have q21 : (ji18) < (a0.size : Int) := of_decide_eq_true (by first | (with_reducible assumption) | assumption)
                            have hx21 := bt_at a0 (ji18)
                            replace p21 := eq_true p21
                            replace q21 := eq_true q21
                            have p44 : 0 ≤ (a1 : Int) := of_decide_eq_true (by first | (with_reducible assumption) | assumption)
                            have q44 : a1 < (a0.size : Int) := of_decide_eq_true (by first | (with_reducible assumption) | assumption)
                            have hx44 := bt_at a0 a1
                            replace p44 := eq_true p44
                            replace q44 := eq_true q44
                            go_wp2
                            go_ret
                            exact ⟨by first | rfl | (simp; done) | (simp only [← hji13, ← hji18] <;> (first | rfl | simp)) | (simp [*]; done), by repeat (first | exact Drawn0.refl _ | apply Drawn0.step)⟩
                        · rw [if_neg c43] at H
                          exact absurd H (by simp)
                      · rw [if_neg c42] at H
                        exact absurd H (by simp)
                  · rw [if_neg c20] at H
                    exact absurd H (by simp)
                · rw [if_neg c19] at H
                  exact absurd H (by simp)
              · rw [if_neg c17] at H
                have c17b0 : decide (0 ≤ (wrap64 (a1 - 1))) = false := decide_eq_false c17
                clear c17
                by_cases c46 : 0 ≤ a1
                · rw [if_pos c46] at H
                  have c46b0 : decide (0 ≤ a1) = true := decide_eq_true c46
                  clear c46
                  by_cases c47 : a1 < (a0.size : Int)
                  · rw [if_pos c47] at H
                    have c47b0 : decide (a1 < (a0.size : Int)) = true := decide_eq_true c47
                    clear c47
                    by_cases c49 : (bt a0 a1) = 46
                    · rw [if_pos c49] at H
                      have c49b0 : ((bt a0 a1) == 46) = true := beq_iff_eq.mpr c49
                      have c49b1 : ((bt a0 a1) != 46) = false := bne_eq_false_iff_eq.mpr c49
                      clear c49
                      obtain rfl := Option.some.inj H
                      have p15 : 0 ≤ ((ji13) : Int) := of_decide_eq_true (by first | (with_reducible assumption) | assumption)
                      have q15 : (ji13) < (a0.size : Int) := of_decide_eq_true (by first | (with_reducible assumption) | assumption)
                      have hx15 := bt_at a0 (ji13)
                      replace p15 := eq_true p15
                      replace q15 := eq_true q15
                      have p48 : 0 ≤ (a1 : Int) := of_decide_eq_true (by first | (with_reducible assumption) | assumption)
                      have q48 : a1 < (a0.size : Int) := of_decide_eq_true (by first | (with_reducible assumption) | assumption)
                      have hx48 := bt_at a0 a1
                      replace p48 := eq_true p48
                      replace q48 := eq_true q48
                      go_wp2
                      go_ret
                      exact ⟨by first | rfl | (simp; done) | (simp only [← hji13] <;> (first | rfl | simp)) | (simp [*]; done), by repeat (first | exact Drawn0.refl _ | apply Drawn0.step)⟩
                    · rw [if_neg c49] at H
                      have c49b0 : ((bt a0 a1) == 46) = false := beq_eq_false_iff_ne.mpr c49
                      have c49b1 : ((bt a0 a1) != 46) = true := bne_iff_ne.mpr c49
                      obtain rfl := Option.some.inj H
                      have p15 : 0 ≤ ((ji13) : Int) := of_decide_eq_true (by first | (with_reducible assumption) | assumption)
                      have q15 : (ji13) < (a0.size : Int) := of_decide_eq_true (by first | (with_reducible assumption) | assumption)
                      have hx15 := bt_at a0 (ji13)
                      replace p15 := eq_true p15
                      replace q15 := eq_true q15
                      have p48 : 0 ≤ (a1 : Int) := of_decide_eq_true (by first | (with_reducible assumption) | assumption)
                      have q48 : a1 < (a0.size : Int) := of_decide_eq_true (by first | (with_reducible assumption) | assumption)
                      have hx48 := bt_at a0 a1
                      replace p48 := eq_true p48
                      replace q48 := eq_true q48
                      go_wp2
                      go_ret
                      exact ⟨by first | rfl | (simp; done) | (simp only [← hji13] <;> (first | rfl | simp)) | (simp [*]; done), by repeat (first | exact Drawn0.refl _ | apply Drawn0.step)⟩
                  · rw [if_neg c47] at H
                    exact absurd H (by simp)
                · rw [if_neg c46] at H
                  exact absurd H (by simp)
            · rw [if_neg c16] at H
              have c16b0 : ((bt a0 (ji13)) == 32) = false := beq_eq_false_iff_ne.mpr c16
              have c16b1 : ((bt a0 (ji13)) != 32) = true := bne_iff_ne.mpr c16
              obtain rfl := Option.some.inj H
              have p15 : 0 ≤ ((ji13) : Int) := of_decide_eq_true (by first | (with_reducible assumption) | assumption)
              have q15 : (ji13) < (a0.size : Int) := of_decide_eq_true (by first | (with_reducible assumption) | assumption)
              have hx15 := bt_at a0 (ji13)
              replace p15 := eq_true p15
              replace q15 := eq_true q15
              go_wp2
              go_ret
              exact ⟨by first | rfl | (simp; done) | (simp only [← hji13] <;> (first | rfl | simp)) | (simp [*]; done), by repeat (first | exact Drawn0.refl _ | apply Drawn0.step)⟩
          · rw [if_neg c14] at H
            exact absurd H (by simp)
        · rw [if_neg c12] at H
          have c12b0 : decide ((wrap64 (a1 + 1)) < (a0.size : Int)) = false := decide_eq_false c12
          clear c12
          by_cases c50 : (wrap64 (a1 - 1)) ≥ 0
          · rw [if_pos c50] at H
            have c50b0 : decide (0 ≤ (wrap64 (a1 - 1))) = true := decide_eq_true c50
            clear c50
            obtain ⟨ji51, hji51⟩ : ∃ j_ : Int, (wrap64 (a1 - 1)) = j_ := ⟨_, rfl⟩
            replace H : (if 0 ≤ (ji51) then (if (ji51) < (a0.size : Int) then (if (bt a0 (ji51)) ≥ 65 then (if (bt a0 (ji51)) ≤ 90 then (if (ji51) = 0 then (if 0 ≤ a1 then (if a1 < (a0.size : Int) then (if (bt a0 a1) = 46 then (some (!true)) else (some true)) else (none)) else (none)) else (if 0 ≤ (wrap64 ((ji51) - 1)) then (if (wrap64 ((ji51) - 1)) < (a0.size : Int) then (if 0 ≤ a1 then (if a1 < (a0.size : Int) then (if (bt a0 a1) = 46 then (some (!((bt a0 (wrap64 ((ji51) - 1))) == 32))) else (some true)) else (none)) else (none)) else (none)) else (none))) else (if 0 ≤ a1 then (if a1 < (a0.size : Int) then (if (bt a0 a1) = 46 then (some (!false)) else (some true)) else (none)) else (none))) else (if 0 ≤ a1 then (if a1 < (a0.size : Int) then (if (bt a0 a1) = 46 then (some (!false)) else (some true)) else (none)) else (none))) else (none)) else (none)) = some r := by first | (rw [hji51] at H; exact H) | (simp only [hji51] at H ⊢; exact H)
            (try rw [hji51] at c50b0)
            have hji51w : (IntKind.i64.wrap (a1 - 1)) = ji51 := (i64_w _).trans hji51
            by_cases c52 : 0 ≤ (ji51)
            · rw [if_pos c52] at H
              have c52b0 : decide (0 ≤ (ji51)) = true := decide_eq_true c52
              clear c52
              by_cases c53 : (ji51) < (a0.size : Int)
              · rw [if_pos c53] at H
                have c53b0 : decide ((ji51) < (a0.size : Int)) = true := decide_eq_true c53
                clear c53
                by_cases c55 : (bt a0 (ji51)) ≥ 65
                · rw [if_pos c55] at H
                  have c55b0 : decide (65 ≤ (bt a0 (ji51))) = true := decide_eq_true c55
                  clear c55
                  by_cases c57 : (bt a0 (ji51)) ≤ 90
                  · rw [if_pos c57] at H
                    have c57b0 : decide ((bt a0 (ji51)) ≤ 90) = true := decide_eq_true c57
                    clear c57
                    by_cases c58 : (ji51) = 0
                    · rw [if_pos c58] at H
                      have c58b0 : ((ji51) == 0) = true := beq_iff_eq.mpr c58
                      have c58b1 : ((ji51) != 0) = false := bne_eq_false_iff_eq.mpr c58
                      clear c58
                      by_cases c59 : 0 ≤ a1
                      · rw [if_pos c59] at H
                        have c59b0 : decide (0 ≤ a1) = true := decide_eq_true c59
                        clear c59
                        by_cases c60 : a1 < (a0.size : Int)
                        · rw [if_pos c60] at H
                          have c60b0 : decide (a1 < (a0.size : Int)) = true := decide_eq_true c60
                          clear c60
                          by_cases c62 : (bt a0 a1) = 46
                          · rw [if_pos c62] at H
                            have c62b0 : ((bt a0 a1) == 46) = true := beq_iff_eq.mpr c62
                            have c62b1 : ((bt a0 a1) != 46) = false := bne_eq_false_iff_eq.mpr c62
                            clear c62
                            obtain rfl := Option.some.inj H
                            have p54 : 0 ≤ ((ji51) : Int) := of_decide_eq_true (by first | (with_reducible assumption) | assumption)
                            have q54 : (ji51) < (a0.size : Int) := of_decide_eq_true (by first | (with_reducible assumption) | assumption)
                            have hx54 := bt_at a0 (ji51)
                            replace p54 := eq_true p54
                            replace q54 := eq_true q54
                            have p56 : 0 ≤ ((ji51) : Int) := of_decide_eq_true (by first | (with_reducible assumption) | assumption)
                            have q56 : (ji51) < (a0.size : Int) := of_decide_eq_true (by first | (with_reducible assumption) | assumption)
                            have hx56 := bt_at a0 (ji51)
                            replace p56 := eq_true p56
                            replace q56 := eq_true q56
                            have p61 : 0 ≤ (a1 : Int) := of_decide_eq_true (by first | (with_reducible assumption) | assumption)
                            have q61 : a1 < (a0.size : Int) := of_decide_eq_true (by first | (with_reducible assumption) | assumption)
                            have hx61 := bt_at a0 a1
                            replace p61 := eq_true p61
                            replace q61 := eq_true q61
                            go_wp2
                            go_ret
                            exact ⟨by first | rfl | (simp; done) | (simp only [← hji51] <;> (first | rfl | simp)) | (simp [*]; done), by repeat (first | exact Drawn0.refl _ | apply Drawn0.step)⟩
                          · rw [if_neg c62] at H
                            have c62b0 : ((bt a0 a1) == 46) = false := beq_eq_false_iff_ne.mpr c62
                            have c62b1 : ((bt a0 a1) != 46) = true := bne_iff_ne.mpr c62
                            obtain rfl := Option.some.inj H
                            have p54 : 0 ≤ ((ji51) : Int) := of_decide_eq_true (by first | (with_reducible assumption) | assumption)
                            have q54 : (ji51) < (a0.size : Int) := of_decide_eq_true (by first | (with_reducible assumption) | assumption)
                            have hx54 := bt_at a0 (ji51)
                            replace p54 := eq_true p54
                            replace q54 := eq_true q54
                            have p56 : 0 ≤ ((ji51) : Int) := of_decide_eq_true (by first | (with_reducible assumption) | assumption)
                            have q56 : (ji51) < (a0.size : Int) := of_decide_eq_true (by first | (with_reducible assumption) | assumption)
                            have hx56 := bt_at a0 (ji51)
                            replace p56 := eq_true p56
                            replace q56 := eq_true q56
                            have p61 : 0 ≤ (a1 : Int) := of_decide_eq_true (by first | (with_reducible assumption) | assumption)
                            have q61 : a1 < (a0.size : Int) := of_decide_eq_true (by first | (with_reducible assumption) | assumption)
                            have hx61 := bt_at a0 a1
                            replace p61 := eq_true p61
                            replace q61 := eq_true q61
                            go_wp2
                            go_ret
                            exact ⟨by first | rfl | (simp; done) | (simp only [← hji51] <;> (first | rfl | simp)) | (simp [*]; done), by repeat (first | exact Drawn0.refl _ | apply Drawn0.step)⟩
                        · rw [if_neg c60] at H
                          exact absurd H (by simp)
                      · rw [if_neg c59] at H
                        exact absurd H (by simp)
                    · rw [if_neg c58] at H
                      have c58b0 : ((ji51) == 0) = false := beq_eq_false_iff_ne.mpr c58
                      have c58b1 : ((ji51) != 0) = true := bne_iff_ne.mpr c58
                      obtain ⟨ji63, hji63⟩ : ∃ j_ : Int, (wrap64 ((ji51) - 1)) = j_ := ⟨_, rfl⟩
                      replace H : (if 0 ≤ (ji63) then (if (ji63) < (a0.size : Int) then (if 0 ≤ a1 then (if a1 < (a0.size : Int) then (if (bt a0 a1) = 46 then (some (!((bt a0 (ji63)) == 32))) else (some true)) else (none)) else (none)) else (none)) else (none)) = some r := by first | (rw [hji63] at H; exact H) | (simp only [hji63] at H ⊢; exact H)
                      have hji63w : (IntKind.i64.wrap ((ji51) - 1)) = ji63 := (i64_w _).trans hji63
                      by_cases c64 : 0 ≤ (ji63)
                      · rw [if_pos c64] at H
                        have c64b0 : decide (0 ≤ (ji63)) = true := decide_eq_true c64
                        clear c64
                        by_cases c65 : (ji63) < (a0.size : Int)
                        · rw [if_pos c65] at H
                          have c65b0 : decide ((ji63) < (a0.size : Int)) = true := decide_eq_true c65
                          clear c65
                          by_cases c67 : 0 ≤ a1
                          · rw [if_pos c67] at H
                            have c67b0 : decide (0 ≤ a1) = true := decide_eq_true c67
                            clear c67
                            by_cases c68 : a1 < (a0.size : Int)
                            · rw [if_pos c68] at H
                              have c68b0 : decide (a1 < (a0.size : Int)) = true := decide_eq_true c68
                              clear c68
                              by_cases c70 : (bt a0 a1) = 46
                              · rw [if_pos c70] at H
                                have c70b0 : ((bt a0 a1) == 46) = true := beq_iff_eq.mpr c70
                                have c70b1 : ((bt a0 a1) != 46) = false := bne_eq_false_iff_eq.mpr c70
                                clear c70
                                obtain rfl := Option.some.inj H
                                have p54 : 0 ≤ ((ji51) : Int) := of_decide_eq_true (by first | (with_reducible assumption) | assumption)
                                have q54 : (ji51) < (a0.size : Int) := of_decide_eq_true (by first | (with_reducible assumption) | assumption)
                                have hx54 := bt_at a0 (ji51)
                                replace p54 := eq_true p54
                                replace q54 := eq_true q54
                                have p56 : 0 ≤ ((ji51) : Int) := of_decide_eq_true (by first | (with_reducible assumption) | assumption)
                                have q56 : (ji51) < (a0.size : Int) := of_decide_eq_true (by first | (with_reducible assumption) | assumption)
                                have hx56 := bt_at a0 (ji51)
                                replace p56 := eq_true p56
                                replace q56 := eq_true q56
                                have p66 : 0 ≤ ((ji63) : Int) := of_decide_eq_true (by first | (with_reducible assumption) | assumption)
                                have q66 : (ji63) < (a0.size : Int) := of_decide_eq_true (by first | (with_reducible assumption) | assumption)
                                have hx66 := bt_at a0 (ji63)
                                replace p66 := eq_true p66
                                replace q66 := eq_true q66
                                have p69 : 0 ≤ (a1 : Int) := of_decide_eq_true (by first | (with_reducible assumption) | assumption)
                                have q69 : a1 < (a0.size : Int) := of_decide_eq_true (by first | (with_reducible assumption) | assumption)
                                have hx69 := bt_at a0 a1
                                replace p69 := eq_true p69
                                replace q69 := eq_true q69
                                go_wp2
                                go_ret
                                exact ⟨by first | rfl | (simp; done) | (simp only [← hji51, ← hji63] <;> (first | rfl | simp)) | (simp [*]; done), by repeat (first | exact Drawn0.refl _ | apply Drawn0.step)⟩
                              · rw [if_neg c70] at H
                                have c70b0 : ((bt a0 a1) == 46) = false := beq_eq_false_iff_ne.mpr c70
                                have c70b1 : ((bt a0 a1) != 46) = true := bne_iff_ne.mpr c70
                                obtain rfl := Option.some.inj H
                                have p54 : 0 ≤ ((ji51) : Int) := of_decide_eq_true (by first | (with_reducible assumption) | assumption)
                                have q54 : (ji51) < (a0.size : Int) := of_decide_eq_true (by first | (with_reducible assumption) | assumption)
                                have hx54 := bt_at a0 (ji51)
                                replace p54 := eq_true p54
                                replace q54 := eq_true q54
                                have p56 : 0 ≤ ((ji51) : Int) := of_decide_eq_true (by first | (with_reducible assumption) | assumption)
                                have q56 : (ji51) < (a0.size : Int) := of_decide_eq_true (by first | (with_reducible assumption) | assumption)
                                have hx56 := bt_at a0 (ji51)
                                replace p56 := eq_true p56
                                replace q56 := eq_true q56
                                have p66 : 0 ≤ ((ji63) : Int) := of_decide_eq_true (by first | (with_reducible assumption) | assumption)
                                have q66 : (ji63) < (a0.size : Int) := of_decide_eq_true (by first | (with_reducible assumption) | assumption)
                                have hx66 := bt_at a0 (ji63)
                                replace p66 := eq_true p66
                                replace q66 := eq_true q66
                                have p69 : 0 ≤ (a1 : Int) := of_decide_eq_true (by first | (with_reducible assumption) | assumption)
                                have q69 : a1 < (a0.size : Int) := of_decide_eq_true (by first | (with_reducible assumption) | assumption)
                                have hx69 := bt_at a0 a1
                                replace p69 := eq_true p69
                                replace q69 := eq_true q69
                                go_wp2
                                go_ret
                                exact ⟨by first | rfl | (simp; done) | (simp only [← hji51, ← hji63] <;> (first | rfl | simp)) | (simp [*]; done), by repeat (first | exact Drawn0.refl _ | apply Drawn0.step)⟩
                            · rw [if_neg c68] at H
                              exact absurd H (by simp)
                          · rw [if_neg c67] at H
                            exact absurd H (by simp)
                        · rw [if_neg c65] at H
                          exact absurd H (by simp)
                      · rw [if_neg c64] at H
                        exact absurd H (by simp)
                  · rw [if_neg c57] at H
                    have c57b0 : decide ((bt a0 (ji51)) ≤ 90) = false := decide_eq_false c57
                    clear c57
                    by_cases c71 : 0 ≤ a1
                    · rw [if_pos c71] at H
                      have c71b0 : decide (0 ≤ a1) = true := decide_eq_true c71
                      clear c71
                      by_cases c72 : a1 < (a0.size : Int)
                      · rw [if_pos c72] at H
                        have c72b0 : decide (a1 < (a0.size : Int)) = true := decide_eq_true c72
                        clear c72
                        by_cases c74 : (bt a0 a1) = 46
                        · rw [if_pos c74] at H
                          have c74b0 : ((bt a0 a1) == 46) = true := beq_iff_eq.mpr c74
                          have c74b1 : ((bt a0 a1) != 46) = false := bne_eq_false_iff_eq.mpr c74
                          clear c74
                          obtain rfl := Option.some.inj H
                          have p54 : 0 ≤ ((ji51) : Int) := of_decide_eq_true (by first | (with_reducible assumption) | assumption)
                          have q54 : (ji51) < (a0.size : Int) := of_decide_eq_true (by first | (with_reducible assumption) | assumption)
                          have hx54 := bt_at a0 (ji51)
                          replace p54 := eq_true p54
                          replace q54 := eq_true q54
                          have p56 : 0 ≤ ((ji51) : Int) := of_decide_eq_true (by first | (with_reducible assumption) | assumption)
                          have q56 : (ji51) < (a0.size : Int) := of_decide_eq_true (by first | (with_reducible assumption) | assumption)
                          have hx56 := bt_at a0 (ji51)
                          replace p56 := eq_true p56
                          replace q56 := eq_true q56
                          have p73 : 0 ≤ (a1 : Int) := of_decide_eq_true (by first | (with_reducible assumption) | assumption)
                          have q73 : a1 < (a0.size : Int) := of_decide_eq_true (by first | (with_reducible assumption) | assumption)
                          have hx73 := bt_at a0 a1
                          replace p73 := eq_true p73
                          replace q73 := eq_true q73
                          go_wp2
                          go_ret
                          exact ⟨by first | rfl | (simp; done) | (simp only [← hji51] <;> (first | rfl | simp)) | (simp [*]; done), by repeat (first | exact Drawn0.refl _ | apply Drawn0.step)⟩
                        · rw [if_neg c74] at H
                          have c74b0 : ((bt a0 a1) == 46) = false := beq_eq_false_iff_ne.mpr c74
                          have c74b1 : ((bt a0 a1) != 46) = true := bne_iff_ne.mpr c74
                          obtain rfl := Option.some.inj H
                          have p54 : 0 ≤ ((ji51) : Int) := of_decide_eq_true (by first | (with_reducible assumption) | assumption)
                          have q54 : (ji51) < (a0.size : Int) := of_decide_eq_true (by first | (with_reducible assumption) | assumption)
                          have hx54 := bt_at a0 (ji51)
                          replace p54 := eq_true p54
                          replace q54 := eq_true q54
                          have p56 : 0 ≤ ((ji51) : Int) := of_decide_eq_true (by first | (with_reducible assumption) | assumption)
                          have q56 : (ji51) < (a0.size : Int) := of_decide_eq_true (by first | (with_reducible assumption) | assumption)
                          have hx56 := bt_at a0 (ji51)
                          replace p56 := eq_true p56
                          replace q56 := eq_true q56
                          have p73 : 0 ≤ (a1 : Int) := of_decide_eq_true (by first | (with_reducible assumption) | assumption)
                          have q73 : a1 < (a0.size : Int) := of_decide_eq_true (by first | (with_reducible assumption) | assumption)
                          have hx73 := bt_at a0 a1
                          replace p73 := eq_true p73
                          replace q73 := eq_true q73
                          go_wp2
                          go_ret
                          exact ⟨by first | rfl | (simp; done) | (simp only [← hji51] <;> (first | rfl | simp)) | (simp [*]; done), by repeat (first | exact Drawn0.refl _ | apply Drawn0.step)⟩
                      · rw [if_neg c72] at H
                        exact absurd H (by simp)
                    · rw [if_neg c71] at H
                      exact absurd H (by simp)
                · rw [if_neg c55] at H
                  have c55b0 : decide (65 ≤ (bt a0 (ji51))) = false := decide_eq_false c55
                  clear c55
                  by_cases c75 : 0 ≤ a1
                  · rw [if_pos c75] at H
                    have c75b0 : decide (0 ≤ a1) = true := decide_eq_true c75
                    clear c75
                    by_cases c76 : a1 < (a0.size : Int)
                    · rw [if_pos c76] at H
                      have c76b0 : decide (a1 < (a0.size : Int)) = true := decide_eq_true c76
                      clear c76
                      by_cases c78 : (bt a0 a1) = 46
                      · rw [if_pos c78] at H
                        have c78b0 : ((bt a0 a1) == 46) = true := beq_iff_eq.mpr c78
                        have c78b1 : ((bt a0 a1) != 46) = false := bne_eq_false_iff_eq.mpr c78
                        clear c78
                        obtain rfl := Option.some.inj H
                        have p54 : 0 ≤ ((ji51) : Int) := of_decide_eq_true (by first | (with_reducible assumption) | assumption)
                        have q54 : (ji51) < (a0.size : Int) := of_decide_eq_true (by first | (with_reducible assumption) | assumption)
                        have hx54 := bt_at a0 (ji51)
                        replace p54 := eq_true p54
                        replace q54 := eq_true q54
                        have p77 : 0 ≤ (a1 : Int) := of_decide_eq_true (by first | (with_reducible assumption) | assumption)
                        have q77 : a1 < (a0.size : Int) := of_decide_eq_true (by first | (with_reducible assumption) | assumption)
                        have hx77 := bt_at a0 a1
                        replace p77 := eq_true p77
                        replace q77 := eq_true q77
                        go_wp2
                        go_ret
                        exact ⟨by first | rfl | (simp; done) | (simp only [← hji51] <;> (first | rfl | simp)) | (simp [*]; done), by repeat (first | exact Drawn0.refl _ | apply Drawn0.step)⟩
                      · rw [if_neg c78] at H
                        have c78b0 : ((bt a0 a1) == 46) = false := beq_eq_false_iff_ne.mpr c78
                        have c78b1 : ((bt a0 a1) != 46) = true := bne_iff_ne.mpr c78
                        obtain rfl := Option.some.inj H
                        have p54 : 0 ≤ ((ji51) : Int) := of_decide_eq_true (by first | (with_reducible assumption) | assumption)
                        have q54 : (ji51) < (a0.size : Int) := of_decide_eq_true (by first | (with_reducible assumption) | assumption)
                        have hx54 := bt_at a0 (ji51)
                        replace p54 := eq_true p54
                        replace q54 := eq_true q54
                        have p77 : 0 ≤ (a1 : Int) := of_decide_eq_true (by first | (with_reducible assumption) | assumption)
                        have q77 : a1 < (a0.size : Int) := of_decide_eq_true (by first | (with_reducible assumption) | assumption)
                        have hx77 := bt_at a0 a1
                        replace p77 := eq_true p77
                        replace q77 := eq_true q77
                        go_wp2
                        go_ret
                        exact ⟨by first | rfl | (simp; done) | (simp only [← hji51] <;> (first | rfl | simp)) | (simp [*]; done), by repeat (first | exact Drawn0.refl _ | apply Drawn0.step)⟩
                    · rw [if_neg c76] at H
                      exact absurd H (by simp)
                  · rw [if_neg c75] at H
                    exact absurd H (by simp)
              · rw [if_neg c53] at H
                exact absurd H (by simp)
            · rw [if_neg c52] at H
              exact absurd H (by simp)
          · rw [if_neg c50] at H
            have c50b0 : decide (0 ≤ (wrap64 (a1 - 1))) = false := decide_eq_false c50
            clear c50
            by_cases c79 : 0 ≤ a1
            · rw [if_pos c79] at H
              have c79b0 : decide (0 ≤ a1) = true := decide_eq_true c79
              clear c79
              by_cases c80 : a1 < (a0.size : Int)
              · rw [if_pos c80] at H
                have c80b0 : decide (a1 < (a0.size : Int)) = true := decide_eq_true c80
                clear c80
                by_cases c82 : (bt a0 a1) = 46
                · rw [if_pos c82] at H
                  have c82b0 : ((bt a0 a1) == 46) = true := beq_iff_eq.mpr c82
                  have c82b1 : ((bt a0 a1) != 46) = false := bne_eq_false_iff_eq.mpr c82
                  clear c82
                  obtain rfl := Option.some.inj H
                  have p81 : 0 ≤ (a1 : Int) := of_decide_eq_true (by first | (with_reducible assumption) | assumption)
                  have q81 : a1 < (a0.size : Int) := of_decide_eq_true (by first | (with_reducible assumption) | assumption)
                  have hx81 := bt_at a0 a1
                  replace p81 := eq_true p81
                  replace q81 := eq_true q81
                  go_wp2
                  go_ret
                  exact ⟨by first | rfl | (simp; done) | (simp [*]; done), by repeat (first | exact Drawn0.refl _ | apply Drawn0.step)⟩
                · rw [if_neg c82] at H
                  have c82b0 : ((bt a0 a1) == 46) = false := beq_eq_false_iff_ne.mpr c82
                  have c82b1 : ((bt a0 a1) != 46) = true := bne_iff_ne.mpr c82
                  obtain rfl := Option.some.inj H
                  have p81 : 0 ≤ (a1 : Int) := of_decide_eq_true (by first | (with_reducible assumption) | assumption)
                  have q81 : a1 < (a0.size : Int) := of_decide_eq_true (by first | (with_reducible assumption) | assumption)
                  have hx81 := bt_at a0 a1
                  replace p81 := eq_true p81
                  replace q81 := eq_true q81
                  go_wp2
                  go_ret
                  exact ⟨by first | rfl | (simp; done) | (simp [*]; done), by repeat (first | exact Drawn0.refl _ | apply Drawn0.step)⟩
              · rw [if_neg c80] at H
                exact absurd H (by simp)
            · rw [if_neg c79] at H
              exact absurd H (by simp)

end Go.Proofs.YtpgjhjlhipikgaaDoor.PK
end
section
namespace Go.Proofs.YtpgjhjlhipikgaaDoor.PK
open Go.RowKit Go.Proofs.YtpgjhjlhipikgaaDoorW.PrintWords Go.Proofs.YtpgjhjlhipikgaaDoorW.PrintLast Go.Proofs.YtpgjhjlhipikgaaDoorW.PrintMore
attribute [local go_sem] max2_int min2_int max_two min_two max_three min_three max_four min_four   -- for this text's walks alone
set_option linter.unusedVariables false
set_option linter.unusedSimpArgs false

/-! ### copydeskref03_trimmed: function 63 -/
mutual
def copydeskref03_trimmed.j1 : Nat → ByteArray → Option (ByteArray)
  | 0, _ => none
  | k + 1, x0 => copydeskref03_trimmed.l1 k x0
def copydeskref03_trimmed.l1 : Nat → ByteArray → Option (ByteArray)
  | 0, _ => none
  | k + 1, x0 => if x0.toList = ([] : List UInt8) then (some x0) else (if 0 ≤ (wrap64 ((x0.size : Int) - 1)) then (if (wrap64 ((x0.size : Int) - 1)) < (x0.size : Int) then (if (bt x0 (wrap64 ((x0.size : Int) - 1))) = 32 then (if (wrap64 ((x0.size : Int) - 1)) ≤ (x0.size : Int) then (copydeskref03_trimmed.l1 k (x0.extract 0 ((wrap64 ((x0.size : Int) - 1)) : Int).toNat)) else (none)) else (some x0)) else (none)) else (none))
def copydeskref03_trimmed.l0 : Nat → ByteArray → Option (ByteArray)
  | 0, _ => none
  | k + 1, x0 => if x0.toList = ([] : List UInt8) then (copydeskref03_trimmed.j1 k x0) else (if 0 < (x0.size : Int) then (if (bt x0 0) = 32 then (if 1 ≤ (x0.size : Int) then (copydeskref03_trimmed.l0 k (x0.extract 1 x0.size)) else (none)) else (copydeskref03_trimmed.j1 k x0)) else (none))
end
def copydeskref03_trimmed.f (k : Nat) (a0 : ByteArray) : Option (ByteArray) := copydeskref03_trimmed.l0 k a0
theorem copydeskref03_trimmed.mono_l : ∀ k, (∀ y0, LeO (copydeskref03_trimmed.j1 k y0) (copydeskref03_trimmed.j1 (k + 1) y0)) ∧ (∀ y0, LeO (copydeskref03_trimmed.l1 k y0) (copydeskref03_trimmed.l1 (k + 1) y0)) ∧ (∀ y0, LeO (copydeskref03_trimmed.l0 k y0) (copydeskref03_trimmed.l0 (k + 1) y0))
  | 0 => ⟨fun _ r h => by simp [copydeskref03_trimmed.j1] at h, fun _ r h => by simp [copydeskref03_trimmed.l1] at h, fun _ r h => by simp [copydeskref03_trimmed.l0] at h⟩
  | k + 1 => by
    obtain ⟨ih0, ih1, ih2⟩ := copydeskref03_trimmed.mono_l k
    refine ⟨?_, ?_, ?_⟩
    · intro y0
      unfold copydeskref03_trimmed.j1
      repeat' first
      | (with_reducible exact ih0 _)
      | (with_reducible exact ih1 _)
      | (with_reducible exact ih2 _)
      | (with_reducible exact LeO.refl _)
      | (with_reducible exact LeO.none _)
      | (with_reducible refine LeO.ite ?_ ?_)
      | (with_reducible refine LeO.bind ?_ (fun _ => ?_))
      | exact ih0 _
      | exact ih1 _
      | exact ih2 _
      | exact LeO.none _
      | refine LeO.ite ?_ ?_
      | refine LeO.bind ?_ (fun _ => ?_)
    · intro y0
      unfold copydeskref03_trimmed.l1
      repeat' first
      | (with_reducible exact ih0 _)
      | (with_reducible exact ih1 _)
      | (with_reducible exact ih2 _)
      | (with_reducible exact LeO.refl _)
      | (with_reducible exact LeO.none _)
      | (with_reducible refine LeO.ite ?_ ?_)
      | (with_reducible refine LeO.bind ?_ (fun _ => ?_))
      | exact ih0 _
      | exact ih1 _
      | exact ih2 _
      | exact LeO.none _
      | refine LeO.ite ?_ ?_
      | refine LeO.bind ?_ (fun _ => ?_)
    · intro y0
      unfold copydeskref03_trimmed.l0
      repeat' first
      | (with_reducible exact ih0 _)
      | (with_reducible exact ih1 _)
      | (with_reducible exact ih2 _)
      | (with_reducible exact LeO.refl _)
      | (with_reducible exact LeO.none _)
      | (with_reducible refine LeO.ite ?_ ?_)
      | (with_reducible refine LeO.bind ?_ (fun _ => ?_))
      | exact ih0 _
      | exact ih1 _
      | exact ih2 _
      | exact LeO.none _
      | refine LeO.ite ?_ ?_
      | refine LeO.bind ?_ (fun _ => ?_)
theorem copydeskref03_trimmed.mono : ∀ a0 k, LeO (copydeskref03_trimmed.f k a0) (copydeskref03_trimmed.f (k + 1) a0) := by
  intro a0 k
  obtain ⟨ih0, ih1, ih2⟩ := copydeskref03_trimmed.mono_l k
  unfold copydeskref03_trimmed.f
  repeat' first
      | (with_reducible exact ih0 _)
      | (with_reducible exact ih1 _)
      | (with_reducible exact ih2 _)
      | (with_reducible exact LeO.refl _)
      | (with_reducible exact LeO.none _)
      | (with_reducible refine LeO.ite ?_ ?_)
      | (with_reducible refine LeO.bind ?_ (fun _ => ?_))
      | exact ih0 _
      | exact ih1 _
      | exact ih2 _
      | exact LeO.none _
      | refine LeO.ite ?_ ?_
      | refine LeO.bind ?_ (fun _ => ?_)
set_option maxHeartbeats 8000000 in
set_option maxRecDepth 100000 in
theorem copydeskref03_trimmed.calls (k : Nat) (a0 : ByteArray) (r : ByteArray) (w : World) (h : copydeskref03_trimmed.f k a0 = some r) :
    Calls Tryd.prog 63 #[.string a0] w fun e w' => e = .returned (.string r) ∧ Drawn0 w w' := by
  have H : (copydeskref03_trimmed.l0 k a0) = some r := h
  clear h
  have HC2 := Aside0.mk H
  clear H
  go_enter Tryd.func63, Tryd.ntmps63
  go_upto_block 0 with (fail)
  go_cut [0] (fun v0 wc => ∃ (kq : Nat) (x0_1 : ByteArray), v0 = .string x0_1 ∧ Aside0 (copydeskref03_trimmed.j1 kq x0_1 = some r) ∧ Aside0 (kq ≤ k) ∧ Drawn0 w wc)
  case first =>
    have H := HC2.out
    clear HC2
    have H' := Aside0.mk H
    clear H
    go_wp2
    go_loopg [0] k (fun kq v0 w' => ∃ (x0_1 : ByteArray), v0 = .string x0_1 ∧ Aside0 (copydeskref03_trimmed.l0 kq x0_1 = some r) ∧ Aside0 (kq ≤ k) ∧ Drawn0 w w')
    case atStart => exact ⟨(a0), (by first | rfl | (simp; done) | (simp [*]; done)), H', ⟨Nat.le_refl _⟩, by repeat (first | exact Drawn0.refl _ | apply Drawn0.step)⟩
    case round =>
      clear H'
      try clear p2
      obtain ⟨x0_1, rfl, HA, HK1, ⟨m1, rfl⟩⟩ := hrel
      cases gk with
      | zero => exact absurd HA.out (by simp [copydeskref03_trimmed.l0])
      | succ k1 =>
        have H := HA.out
        clear HA
        simp only [copydeskref03_trimmed.l0] at H
        by_cases c3 : x0_1.toList = ([] : List UInt8)
        · rw [if_pos c3] at H
          have c3b0 : (x0_1.toList == ([] : List UInt8)) = true := beq_iff_eq.mpr c3
          have c3b1 : (x0_1.toList != ([] : List UInt8)) = false := bne_eq_false_iff_eq.mpr c3
          clear c3
          (first | rw [c3b0] | (simp only [i64_w, i32_w]; rw [c3b0]) | skip)
          have H' := Aside0.mk H
          clear H
          go_wp2
          go_meet
          case rel => exact ⟨_, (x0_1), (by first | rfl | (simp; done) | (simp [*]; done)), H', ⟨by have := HK1.out; first | omega | exact Nat.le_refl _⟩, by repeat (first | exact Drawn0.refl _ | apply Drawn0.step)⟩
        · rw [if_neg c3] at H
          have c3b0 : (x0_1.toList == ([] : List UInt8)) = false := beq_eq_false_iff_ne.mpr c3
          have c3b1 : (x0_1.toList != ([] : List UInt8)) = true := bne_iff_ne.mpr c3
          (first | rw [c3b0] | (simp only [i64_w, i32_w]; rw [c3b0]) | skip)
          by_cases c4 : 0 < (x0_1.size : Int)
          · rw [if_pos c4] at H
            have c4b0 : decide (0 < (x0_1.size : Int)) = true := decide_eq_true c4
            have c4b1 : decide (0 < x0_1.size) = true := decide_eq_true (by omega)
            clear c4
            by_cases c6 : (bt x0_1 0) = 32
            · rw [if_pos c6] at H
              have c6b0 : ((bt x0_1 0) == 32) = true := beq_iff_eq.mpr c6
              have c6b1 : ((bt x0_1 0) != 32) = false := bne_eq_false_iff_eq.mpr c6
              clear c6
              by_cases c7 : 1 ≤ (x0_1.size : Int)
              · rw [if_pos c7] at H
                have c7b0 := eq_true c7
                have c7b1 : decide (1 ≤ (x0_1.size : Int)) = true := decide_eq_true c7
                clear c7
                have H' := Aside0.mk H
                clear H
                have p5 : 0 ≤ (0 : Int) := (by omega)
                have q5 : 0 < x0_1.size := (by have : (0 : Int) < (x0_1.size : Int) := of_decide_eq_true (by first | (with_reducible assumption) | assumption); omega)
                have hx5 : ∀ h : 0 < x0_1.size, ((x0_1[0]'h).toNat : Int) = bt x0_1 0 := bt_at x0_1 0
                clear p5
                have qi5 : (0 < (x0_1.size : Int)) = True := eq_true (of_decide_eq_true (by first | (with_reducible assumption) | assumption))
                replace q5 := eq_true q5
                go_wp2
                go_roundg k1
                case measure => have := HK1.out; omega
                case rel => exact ⟨(x0_1.extract 1 x0_1.size), (by first | rfl | (simp; done) | (simp [*]; done)), H', ⟨by have := HK1.out; omega⟩, by repeat (first | exact Drawn0.refl _ | apply Drawn0.step)⟩
              · rw [if_neg c7] at H
                exact absurd H (by simp)
            · rw [if_neg c6] at H
              have c6b0 : ((bt x0_1 0) == 32) = false := beq_eq_false_iff_ne.mpr c6
              have c6b1 : ((bt x0_1 0) != 32) = true := bne_iff_ne.mpr c6
              have H' := Aside0.mk H
              clear H
              have p5 : 0 ≤ (0 : Int) := (by omega)
              have q5 : 0 < x0_1.size := (by have : (0 : Int) < (x0_1.size : Int) := of_decide_eq_true (by first | (with_reducible assumption) | assumption); omega)
              have hx5 : ∀ h : 0 < x0_1.size, ((x0_1[0]'h).toNat : Int) = bt x0_1 0 := bt_at x0_1 0
              clear p5
              have qi5 : (0 < (x0_1.size : Int)) = True := eq_true (of_decide_eq_true (by first | (with_reducible assumption) | assumption))
              replace q5 := eq_true q5
              go_wp2
              go_meet
              case rel => exact ⟨_, (x0_1), (by first | rfl | (simp; done) | (simp [*]; done)), H', ⟨by have := HK1.out; first | omega | exact Nat.le_refl _⟩, by repeat (first | exact Drawn0.refl _ | apply Drawn0.step)⟩
          · rw [if_neg c4] at H
            exact absurd H (by simp)
  case rest =>
    clear HC2
    try clear p2
    try clear c3
    try clear c3b0
    try clear c3b1
    try clear c4
    try clear c4b0
    try clear c4b1
    try clear p5
    try clear q5
    try clear hx5
    try clear qi5
    try clear c6
    try clear c6b0
    try clear c6b1
    try clear c7
    try clear c7b0
    try clear c7b1
    try clear p2
    try clear p5
    try clear q5
    obtain ⟨kq, x0_1, rfl, HA, HJ1, ⟨mc1, rfl⟩⟩ := hcut
    cases kq with
    | zero => exact absurd HA.out (by simp [copydeskref03_trimmed.j1])
    | succ kj1 =>
      have H := HA.out
      clear HA
      simp only [copydeskref03_trimmed.j1] at H
      have H' := Aside0.mk H
      clear H
      go_wp2
      go_loopg [0] kj1 (fun kq v0 w' => ∃ (x0_2 : ByteArray), v0 = .string x0_2 ∧ Aside0 (copydeskref03_trimmed.l1 kq x0_2 = some r) ∧ Aside0 (kq ≤ kj1) ∧ Drawn0 w w')
      case atStart => exact ⟨(x0_1), (by first | rfl | (simp; done) | (simp [*]; done)), H', ⟨Nat.le_refl _⟩, by repeat (first | exact Drawn0.refl _ | apply Drawn0.step)⟩
      case round =>
        clear H'
        try clear c1
        try clear p2
        try clear c3
        try clear c3b0
        try clear c3b1
        try clear c4
        try clear c4b0
        try clear c4b1
        try clear p5
        try clear q5
        try clear hx5
        try clear qi5
        try clear c6
        try clear c6b0
        try clear c6b1
        try clear c7
        try clear c7b0
        try clear c7b1
        try clear p2
        try clear p5
        try clear q5
        obtain ⟨x0_2, rfl, HA, HK2, ⟨m2, rfl⟩⟩ := hrel
        cases gk with
        | zero => exact absurd HA.out (by simp [copydeskref03_trimmed.l1])
        | succ k2 =>
          have H := HA.out
          clear HA
          simp only [copydeskref03_trimmed.l1] at H
          by_cases c8 : x0_2.toList = ([] : List UInt8)
          · rw [if_pos c8] at H
            have c8b0 : (x0_2.toList == ([] : List UInt8)) = true := beq_iff_eq.mpr c8
            have c8b1 : (x0_2.toList != ([] : List UInt8)) = false := bne_eq_false_iff_eq.mpr c8
            clear c8
            obtain rfl := Option.some.inj H
            go_wp2
            go_ret
            exact ⟨by first | rfl | (simp; done) | (simp [*]; done), by repeat (first | exact Drawn0.refl _ | apply Drawn0.step)⟩
          · rw [if_neg c8] at H
            have c8b0 : (x0_2.toList == ([] : List UInt8)) = false := beq_eq_false_iff_ne.mpr c8
            have c8b1 : (x0_2.toList != ([] : List UInt8)) = true := bne_iff_ne.mpr c8
            obtain ⟨ji9, hji9⟩ : ∃ j_ : Int, (wrap64 ((x0_2.size : Int) - 1)) = j_ := ⟨_, rfl⟩
            replace H : (if 0 ≤ (ji9) then (if (ji9) < (x0_2.size : Int) then (if (bt x0_2 (ji9)) = 32 then (if (ji9) ≤ (x0_2.size : Int) then (copydeskref03_trimmed.l1 k2 (x0_2.extract 0 ((ji9) : Int).toNat)) else (none)) else (some x0_2)) else (none)) else (none)) = some r := by first | (rw [hji9] at H; exact H) | (simp only [hji9] at H ⊢; exact H)
            have hji9w : (IntKind.i64.wrap ((x0_2.size : Int) - 1)) = ji9 := (i64_w _).trans hji9
            by_cases c10 : 0 ≤ (ji9)
            · rw [if_pos c10] at H
              have c10b0 : decide (0 ≤ (ji9)) = true := decide_eq_true c10
              clear c10
              by_cases c11 : (ji9) < (x0_2.size : Int)
              · rw [if_pos c11] at H
                have c11b0 : decide ((ji9) < (x0_2.size : Int)) = true := decide_eq_true c11
                clear c11
                by_cases c13 : (bt x0_2 (ji9)) = 32
                · rw [if_pos c13] at H
                  have c13b0 : ((bt x0_2 (ji9)) == 32) = true := beq_iff_eq.mpr c13
                  have c13b1 : ((bt x0_2 (ji9)) != 32) = false := bne_eq_false_iff_eq.mpr c13
                  clear c13
                  have c14b0 := eq_true (of_decide_eq_true (by first | (with_reducible assumption) | assumption) : 0 ≤ (ji9))
                  by_cases c15 : (ji9) ≤ (x0_2.size : Int)
                  · rw [if_pos c15] at H
                    have c15b0 := eq_true c15
                    have c15b1 : decide ((ji9) ≤ (x0_2.size : Int)) = true := decide_eq_true c15
                    clear c15
                    have H' := Aside0.mk H
                    clear H
                    have p12 : 0 ≤ ((ji9) : Int) := of_decide_eq_true (by first | (with_reducible assumption) | assumption)
                    have q12 : (ji9) < (x0_2.size : Int) := of_decide_eq_true (by first | (with_reducible assumption) | assumption)
                    have hx12 := bt_at x0_2 (ji9)
                    replace p12 := eq_true p12
                    replace q12 := eq_true q12
                    go_wp2
                    go_roundg k2
                    case measure => have := HJ1.out; have := HK2.out; omega
                    case rel => exact ⟨(x0_2.extract 0 ((ji9) : Int).toNat), (by first | rfl | (simp; done) | (simp only [← hji9] <;> (first | rfl | simp)) | (simp [*]; done)), H', ⟨by have := HJ1.out; have := HK2.out; omega⟩, by repeat (first | exact Drawn0.refl _ | apply Drawn0.step)⟩
                  · rw [if_neg c15] at H
                    exact absurd H (by simp)
                · rw [if_neg c13] at H
                  have c13b0 : ((bt x0_2 (ji9)) == 32) = false := beq_eq_false_iff_ne.mpr c13
                  have c13b1 : ((bt x0_2 (ji9)) != 32) = true := bne_iff_ne.mpr c13
                  obtain rfl := Option.some.inj H
                  have p12 : 0 ≤ ((ji9) : Int) := of_decide_eq_true (by first | (with_reducible assumption) | assumption)
                  have q12 : (ji9) < (x0_2.size : Int) := of_decide_eq_true (by first | (with_reducible assumption) | assumption)
                  have hx12 := bt_at x0_2 (ji9)
                  replace p12 := eq_true p12
                  replace q12 := eq_true q12
                  go_wp2
                  go_ret
                  exact ⟨by first | rfl | (simp; done) | (simp only [← hji9] <;> (first | rfl | simp)) | (simp [*]; done), by repeat (first | exact Drawn0.refl _ | apply Drawn0.step)⟩
              · rw [if_neg c11] at H
                exact absurd H (by simp)
            · rw [if_neg c10] at H
              exact absurd H (by simp)

end Go.Proofs.YtpgjhjlhipikgaaDoor.PK
end
section
namespace Go.Proofs.YtpgjhjlhipikgaaDoor.PK
open Go.RowKit Go.Proofs.YtpgjhjlhipikgaaDoorW.PrintWords Go.Proofs.YtpgjhjlhipikgaaDoorW.PrintLast Go.Proofs.YtpgjhjlhipikgaaDoorW.PrintMore
attribute [local go_sem] max2_int min2_int max_two min_two max_three min_three max_four min_four   -- for this text's walks alone
set_option linter.unusedVariables false
set_option linter.unusedSimpArgs false

/-! ### copydeskref03_Sentences: function 33 -/
def copydeskref03_Sentences.l0 : Nat → ByteArray → List ByteArray → Int → Int → Option (List ByteArray)
  | 0, _, _, _, _ => none
  | k + 1, x0, x3, x4, x5 => if x5 < (x0.size : Int) then ((copydeskref03_ends.f k x0 x5).bind fun t260 => (if t260 = true then (if 0 ≤ x4 then (if x4 ≤ (wrap64 (x5 + 1)) then (if (wrap64 (x5 + 1)) ≤ (x0.size : Int) then ((copydeskref03_trimmed.f k (x0.extract (x4 : Int).toNat ((wrap64 (x5 + 1)) : Int).toNat)).bind fun t261 => (if x3.length < 8796093022208 then (copydeskref03_Sentences.l0 k x0 (x3 ++ [t261]) (wrap64 (x5 + 1)) (wrap64 (x5 + 1))) else (none))) else (none)) else (none)) else (none)) else (copydeskref03_Sentences.l0 k x0 x3 x4 (wrap64 (x5 + 1))))) else (if 0 ≤ x4 then (if x4 ≤ (x0.size : Int) then ((copydeskref03_trimmed.f k (x0.extract (x4 : Int).toNat x0.size)).bind fun t256 => (if t256.toList = ([] : List UInt8) then (some x3) else (if x3.length < 8796093022208 then (some (x3 ++ [t256])) else (none)))) else (none)) else (none))
def copydeskref03_Sentences.f (k : Nat) (a0 : ByteArray) : Option (List ByteArray) := copydeskref03_Sentences.l0 k a0 ([] : List ByteArray) 0 0
theorem copydeskref03_Sentences.mono_l : ∀ k, (∀ y0 y1 y2 y3, LeO (copydeskref03_Sentences.l0 k y0 y1 y2 y3) (copydeskref03_Sentences.l0 (k + 1) y0 y1 y2 y3))
  | 0 => fun _ _ _ _ r h => by simp [copydeskref03_Sentences.l0] at h
  | k + 1 => by
    have ih0 := copydeskref03_Sentences.mono_l k
    · intro y0 y1 y2 y3
      unfold copydeskref03_Sentences.l0
      repeat' first
      | (with_reducible exact ih0 _ _ _ _)
      | (with_reducible exact copydeskref03_ends.mono _ _ _)
      | (with_reducible exact copydeskref03_trimmed.mono _ _)
      | (with_reducible exact LeO.refl _)
      | (with_reducible exact LeO.none _)
      | (with_reducible refine LeO.ite ?_ ?_)
      | (with_reducible refine LeO.bind ?_ (fun _ => ?_))
      | exact ih0 _ _ _ _
      | exact copydeskref03_ends.mono _ _ _
      | exact copydeskref03_trimmed.mono _ _
      | exact LeO.none _
      | refine LeO.ite ?_ ?_
      | refine LeO.bind ?_ (fun _ => ?_)
theorem copydeskref03_Sentences.mono : ∀ a0 k, LeO (copydeskref03_Sentences.f k a0) (copydeskref03_Sentences.f (k + 1) a0) := by
  intro a0 k
  have ih0 := copydeskref03_Sentences.mono_l k
  unfold copydeskref03_Sentences.f
  repeat' first
      | (with_reducible exact ih0 _ _ _ _)
      | (with_reducible exact copydeskref03_ends.mono _ _ _)
      | (with_reducible exact copydeskref03_trimmed.mono _ _)
      | (with_reducible exact LeO.refl _)
      | (with_reducible exact LeO.none _)
      | (with_reducible refine LeO.ite ?_ ?_)
      | (with_reducible refine LeO.bind ?_ (fun _ => ?_))
      | exact ih0 _ _ _ _
      | exact copydeskref03_ends.mono _ _ _
      | exact copydeskref03_trimmed.mono _ _
      | exact LeO.none _
      | refine LeO.ite ?_ ?_
      | refine LeO.bind ?_ (fun _ => ?_)
set_option maxHeartbeats 8000000 in
set_option maxRecDepth 100000 in
theorem copydeskref03_Sentences.calls (k : Nat) (a0 : ByteArray) (r : List ByteArray) (w : World) (h : copydeskref03_Sentences.f k a0 = some r) :
    Calls Tryd.prog 33 #[.string a0] w fun e w' => ∃ v0_ : Value, e = .returned (v0_) ∧ Kd.R Kd.string 9 w' w.heap.size (fun _ => True) v0_ r ∧ Below w.heap.size w w' := by
  have HB := Aside0.mk (Below.refl w.heap.size w)
  have H : (copydeskref03_Sentences.l0 k a0 ([] : List ByteArray) 0 0) = some r := h
  clear h
  have H' := Aside0.mk H
  clear H
  go_enter Tryd.func33, Tryd.ntmps33
  go_wp2
  go_loopg [3, 4, 5] k (fun kq v3 v4 v5 w' => ∃ (x3_1 : List ByteArray) (x4_1 : Int) (x5_1 : Int), v4 = .int .i64 x4_1 ∧ v5 = .int .i64 x5_1 ∧ Aside0 (copydeskref03_Sentences.l0 kq a0 x3_1 x4_1 x5_1 = some r) ∧ Aside0 (kq ≤ k) ∧ Aside0 (Kd.R Kd.string 9 w' w.heap.size (fun _ => True) v3 x3_1) ∧ Aside0 (Below w.heap.size w w'))
  case atStart => exact ⟨(([] : List ByteArray)), (0), (0), (by first | rfl | (simp; done) | (simp [*]; done)), (by first | rfl | (simp; done) | (simp [*]; done)), H', ⟨Nat.le_refl _⟩, ⟨by first | exact Kd.R_nil _ _ _ _ _ | exact Kd.N_nil _ _ _ _ _ | exact Kd.V_nil _ _ _ _ _ | exact Kd.Q_nil _ _ _ _ _ | exact Kd.S_nil _ _ _ _ _⟩, ⟨by repeat (first | (with_reducible first | exact HB.out | apply below_alloc | apply pw_below_drewN | apply below_drew1) | exact HB.out)⟩⟩
  case round =>
    clear H'
    obtain ⟨x3_1, x4_1, x5_1, rfl, rfl, HA, HK1, HO_3, HB⟩ := hrel
    cases gk with
    | zero => exact absurd HA.out (by simp [copydeskref03_Sentences.l0])
    | succ k1 =>
      have H := HA.out
      clear HA
      simp only [copydeskref03_Sentences.l0] at H
      by_cases c2 : x5_1 < (a0.size : Int)
      · rw [if_pos c2] at H
        have c2b0 : decide (x5_1 < (a0.size : Int)) = true := decide_eq_true c2
        clear c2
        replace H := Option.bind_eq_some_iff.mp H
        obtain ⟨t260, A30, H⟩ := H
        replace H : (if t260 = true then (if 0 ≤ x4_1 then (if x4_1 ≤ (wrap64 (x5_1 + 1)) then (if (wrap64 (x5_1 + 1)) ≤ (a0.size : Int) then ((copydeskref03_trimmed.f k1 (a0.extract (x4_1 : Int).toNat ((wrap64 (x5_1 + 1)) : Int).toNat)).bind fun t261 => (if x3_1.length < 8796093022208 then (copydeskref03_Sentences.l0 k1 a0 (x3_1 ++ [t261]) (wrap64 (x5_1 + 1)) (wrap64 (x5_1 + 1))) else (none))) else (none)) else (none)) else (none)) else (copydeskref03_Sentences.l0 k1 a0 x3_1 x4_1 (wrap64 (x5_1 + 1)))) = some r := H
        have A3 := Aside0.mk A30
        clear A30
        by_cases c4 : t260 = true
        · subst c4
          have H1 : (if 0 ≤ x4_1 then (if x4_1 ≤ (wrap64 (x5_1 + 1)) then (if (wrap64 (x5_1 + 1)) ≤ (a0.size : Int) then ((copydeskref03_trimmed.f k1 (a0.extract (x4_1 : Int).toNat ((wrap64 (x5_1 + 1)) : Int).toNat)).bind fun t261 => (if x3_1.length < 8796093022208 then (copydeskref03_Sentences.l0 k1 a0 (x3_1 ++ [t261]) (wrap64 (x5_1 + 1)) (wrap64 (x5_1 + 1))) else (none))) else (none)) else (none)) else (none)) = some r := by rw [if_pos rfl] at H; exact H
          clear H
          have H := H1
          clear H1
          by_cases c5 : 0 ≤ x4_1
          · rw [if_pos c5] at H
            have c5b0 := eq_true c5
            have c5b1 : decide (0 ≤ x4_1) = true := decide_eq_true c5
            clear c5
            by_cases c6 : x4_1 ≤ (wrap64 (x5_1 + 1))
            · rw [if_pos c6] at H
              have c6b0 := eq_true c6
              have c6b1 : decide (x4_1 ≤ (wrap64 (x5_1 + 1))) = true := decide_eq_true c6
              by_cases c7 : (wrap64 (x5_1 + 1)) ≤ (a0.size : Int)
              · rw [if_pos c7] at H
                have c7b0 := eq_true c7
                have c7b1 : decide ((wrap64 (x5_1 + 1)) ≤ (a0.size : Int)) = true := decide_eq_true c7
                replace H := Option.bind_eq_some_iff.mp H
                obtain ⟨t261, A80, H⟩ := H
                replace H : (if x3_1.length < 8796093022208 then (copydeskref03_Sentences.l0 k1 a0 (x3_1 ++ [t261]) (wrap64 (x5_1 + 1)) (wrap64 (x5_1 + 1))) else (none)) = some r := H
                have A8 := Aside0.mk A80
                clear A80
                by_cases c9 : x3_1.length < 8796093022208
                · rw [if_pos c9] at H
                  have LMc9 := Aside0.mk c9
                  clear c9
                  obtain ⟨y262, hy262⟩ : ∃ y_ : List ByteArray, y_ = (x3_1 ++ [t261]) := ⟨_, rfl⟩
                  replace H : (copydeskref03_Sentences.l0 k1 a0 y262 (wrap64 (x5_1 + 1)) (wrap64 (x5_1 + 1))) = some r := by first | (rw [hy262]; with_reducible exact H) | (have H2_ := (Option.bind_some _ _).symm.trans H; rw [hy262]; with_reducible exact H2_) | (have H2_ := (Option.bind_some _ _).symm.trans H; with_reducible exact H2_) | with_reducible exact H | (rw [hy262]; exact H) | exact H
                  have Ny262 := Aside0.mk hy262
                  clear hy262
                  have H' := Aside0.mk H
                  clear H
                  go_wp2_with (first | ((with_reducible refine gate_callee (f := 62) rfl ?_); refine goesL_ (some 16) rfl rfl Tryd.func62 (by kernel_rfl) rfl #[.string a0, .int .i64 x5_1] rfl (by (try simp only [List.map_toArray, List.map_cons, List.map_nil]); first | done | rfl | (simp only [List.length_drop, List.length_take]; rfl)) ?_; (with_reducible refine (copydeskref03_ends.calls k1 a0 x5_1 true _ A3.out).mono ?_); rintro e w' ⟨rfl, ⟨nd, rfl⟩⟩; refine ⟨_, rfl, ?_⟩) | ((with_reducible refine gate_callee (f := 63) rfl ?_); refine goesL_ (some 24) rfl rfl Tryd.func63 (by kernel_rfl) rfl #[.string (a0.extract (x4_1 : Int).toNat ((wrap64 (x5_1 + 1)) : Int).toNat)] rfl (by (try simp only [List.map_toArray, List.map_cons, List.map_nil]); first | done | rfl | (simp only [List.length_drop, List.length_take]; rfl)) ?_; (with_reducible refine (copydeskref03_trimmed.calls k1 (a0.extract (x4_1 : Int).toNat ((wrap64 (x5_1 + 1)) : Int).toNat) t261 _ A8.out).mono ?_); rintro e w' ⟨rfl, ⟨nd, rfl⟩⟩; refine ⟨_, rfl, ?_⟩) | ((with_reducible refine gate_builtin (b := .append) (xs := #[.tmp 18, .tmp 25]) rfl ?_); at_builtin; refine Kd.R_append Kd.string (w0 := w) w.heap.size rfl (.tmp 18) (.tmp 25) 42 9 (.string ⟨#[]⟩) 16 rfl Tryd.underlying42 info9 rfl (by decide) (by omega) u3 x3_1 t261 [.string t261] (fun _ => True) (fun _ => False) rfl rfl ?aP (fun _ hk => hk.elim) ?aF ?aO ?aB ?aS ?aL ?_; (case aP => exact rfl); (case aB => exact (by repeat (first | (with_reducible first | exact HB.out | apply below_alloc | apply pw_below_drewN | apply below_drew1) | exact HB.out))); (case aF => exact (fun _ _ => trivial)); (case aO => exact (by (with_reducible repeat (first | apply Kd.R_alloc | apply Kd.R_drewN | apply Kd.R_drew)); exact HO_3.out)); (case aS => exact (below_size (by repeat (first | (with_reducible first | exact HB.out | apply below_alloc | apply pw_below_drewN | apply below_drew1) | exact HB.out)))); (case aL => have := LMc9.out; omega); intro v263 w10 ho hb hg hat; rw [← Ny262.out] at ho; have n0_ := Aside0.mk (hb); have n1_ := Aside0.mk (ho); clear HB; clear HO_3; have HB := n0_; have HO264 := n1_; clear n0_ n1_; clear ho hb hg hat))
                  go_roundg k1
                  case measure => have := HK1.out; omega
                  case rel => exact ⟨(y262), (wrap64 (x5_1 + 1)), (wrap64 (x5_1 + 1)), (by first | rfl | (simp; done) | (simp [*]; done)), (by first | rfl | (simp; done) | (simp [*]; done)), H', ⟨by have := HK1.out; omega⟩, ⟨by (with_reducible repeat (first | apply Kd.R_alloc | apply Kd.R_drewN | apply Kd.R_drew)); exact HO264.out⟩, ⟨by repeat (first | (with_reducible first | exact HB.out | apply below_alloc | apply pw_below_drewN | apply below_drew1) | exact HB.out)⟩⟩
                · rw [if_neg c9] at H
                  exact absurd H (by simp)
              · rw [if_neg c7] at H
                exact absurd H (by simp)
            · rw [if_neg c6] at H
              exact absurd H (by simp)
          · rw [if_neg c5] at H
            exact absurd H (by simp)
        · replace c4 := Bool.eq_false_iff.mpr c4
          subst c4
          have H1 : (copydeskref03_Sentences.l0 k1 a0 x3_1 x4_1 (wrap64 (x5_1 + 1))) = some r := by rw [if_neg (show ¬ (false = true) by decide)] at H; exact H
          clear H
          have H := H1
          clear H1
          have H' := Aside0.mk H
          clear H
          go_wp2_with (first | ((with_reducible refine gate_callee (f := 62) rfl ?_); refine goesL_ (some 16) rfl rfl Tryd.func62 (by kernel_rfl) rfl #[.string a0, .int .i64 x5_1] rfl (by (try simp only [List.map_toArray, List.map_cons, List.map_nil]); first | done | rfl | (simp only [List.length_drop, List.length_take]; rfl)) ?_; (with_reducible refine (copydeskref03_ends.calls k1 a0 x5_1 false _ A3.out).mono ?_); rintro e w' ⟨rfl, ⟨nd, rfl⟩⟩; refine ⟨_, rfl, ?_⟩))
          go_roundg k1
          case measure => have := HK1.out; omega
          case rel => exact ⟨(x3_1), (x4_1), (wrap64 (x5_1 + 1)), (by first | rfl | (simp; done) | (simp [*]; done)), (by first | rfl | (simp; done) | (simp [*]; done)), H', ⟨by have := HK1.out; omega⟩, ⟨by (with_reducible repeat (first | apply Kd.R_alloc | apply Kd.R_drewN | apply Kd.R_drew)); exact HO_3.out⟩, ⟨by repeat (first | (with_reducible first | exact HB.out | apply below_alloc | apply pw_below_drewN | apply below_drew1) | exact HB.out)⟩⟩
      · rw [if_neg c2] at H
        have c2b0 : decide (x5_1 < (a0.size : Int)) = false := decide_eq_false c2
        clear c2
        by_cases c11 : 0 ≤ x4_1
        · rw [if_pos c11] at H
          have c11b0 := eq_true c11
          have c11b1 : decide (0 ≤ x4_1) = true := decide_eq_true c11
          clear c11
          by_cases c12 : x4_1 ≤ (a0.size : Int)
          · rw [if_pos c12] at H
            have c12b0 := eq_true c12
            have c12b1 : decide (x4_1 ≤ (a0.size : Int)) = true := decide_eq_true c12
            clear c12
            replace H := Option.bind_eq_some_iff.mp H
            obtain ⟨t256, A130, H⟩ := H
            replace H : (if t256.toList = ([] : List UInt8) then (some x3_1) else (if x3_1.length < 8796093022208 then (some (x3_1 ++ [t256])) else (none))) = some r := H
            have A13 := Aside0.mk A130
            clear A130
            by_cases c14 : t256.toList = ([] : List UInt8)
            · rw [if_pos c14] at H
              have c14b0 : (t256.toList == ([] : List UInt8)) = true := beq_iff_eq.mpr c14
              have c14b1 : (t256.toList != ([] : List UInt8)) = false := bne_eq_false_iff_eq.mpr c14
              clear c14
              obtain rfl := Option.some.inj H
              go_wp2_with (first | ((with_reducible refine gate_callee (f := 63) rfl ?_); refine goesL_ (some 32) rfl rfl Tryd.func63 (by kernel_rfl) rfl #[.string (a0.extract (x4_1 : Int).toNat a0.size)] rfl (by (try simp only [List.map_toArray, List.map_cons, List.map_nil]); first | done | rfl | (simp only [List.length_drop, List.length_take]; rfl)) ?_; (with_reducible refine (copydeskref03_trimmed.calls k1 (a0.extract (x4_1 : Int).toNat a0.size) t256 _ A13.out).mono ?_); rintro e w' ⟨rfl, ⟨nd, rfl⟩⟩; refine ⟨_, rfl, ?_⟩))
              go_ret
              exact ⟨_, by first | rfl | (simp [errW_none, errW_some] <;> rfl) | (simp [*, errW_none, errW_some] <;> rfl), by (with_reducible repeat (first | apply Kd.R_alloc | apply Kd.R_drewN | apply Kd.R_drew)); exact HO_3.out, by repeat (first | (with_reducible first | exact HB.out | apply below_alloc | apply pw_below_drewN | apply below_drew1) | exact HB.out)⟩
            · rw [if_neg c14] at H
              have c14b0 : (t256.toList == ([] : List UInt8)) = false := beq_eq_false_iff_ne.mpr c14
              have c14b1 : (t256.toList != ([] : List UInt8)) = true := bne_iff_ne.mpr c14
              by_cases c15 : x3_1.length < 8796093022208
              · rw [if_pos c15] at H
                have LMc15 := Aside0.mk c15
                clear c15
                obtain ⟨y257, hy257⟩ : ∃ y_ : List ByteArray, y_ = (x3_1 ++ [t256]) := ⟨_, rfl⟩
                replace H : (some y257) = some r := by first | (rw [hy257]; with_reducible exact H) | (have H2_ := (Option.bind_some _ _).symm.trans H; rw [hy257]; with_reducible exact H2_) | (have H2_ := (Option.bind_some _ _).symm.trans H; with_reducible exact H2_) | with_reducible exact H | (rw [hy257]; exact H) | exact H
                have Ny257 := Aside0.mk hy257
                clear hy257
                obtain rfl := Option.some.inj H
                go_wp2_with (first | ((with_reducible refine gate_callee (f := 63) rfl ?_); refine goesL_ (some 32) rfl rfl Tryd.func63 (by kernel_rfl) rfl #[.string (a0.extract (x4_1 : Int).toNat a0.size)] rfl (by (try simp only [List.map_toArray, List.map_cons, List.map_nil]); first | done | rfl | (simp only [List.length_drop, List.length_take]; rfl)) ?_; (with_reducible refine (copydeskref03_trimmed.calls k1 (a0.extract (x4_1 : Int).toNat a0.size) t256 _ A13.out).mono ?_); rintro e w' ⟨rfl, ⟨nd, rfl⟩⟩; refine ⟨_, rfl, ?_⟩) | ((with_reducible refine gate_builtin (b := .append) (xs := #[.tmp 35, .tmp 37]) rfl ?_); at_builtin; refine Kd.R_append Kd.string (w0 := w) w.heap.size rfl (.tmp 35) (.tmp 37) 42 9 (.string ⟨#[]⟩) 16 rfl Tryd.underlying42 info9 rfl (by decide) (by omega) u3 x3_1 t256 [.string t256] (fun _ => True) (fun _ => False) rfl rfl ?aP (fun _ hk => hk.elim) ?aF ?aO ?aB ?aS ?aL ?_; (case aP => exact rfl); (case aB => exact (by repeat (first | (with_reducible first | exact HB.out | apply below_alloc | apply pw_below_drewN | apply below_drew1) | exact HB.out))); (case aF => exact (fun _ _ => trivial)); (case aO => exact (by (with_reducible repeat (first | apply Kd.R_alloc | apply Kd.R_drewN | apply Kd.R_drew)); exact HO_3.out)); (case aS => exact (below_size (by repeat (first | (with_reducible first | exact HB.out | apply below_alloc | apply pw_below_drewN | apply below_drew1) | exact HB.out)))); (case aL => have := LMc15.out; omega); intro v258 w16 ho hb hg hat; rw [← Ny257.out] at ho; have n0_ := Aside0.mk (hb); have n1_ := Aside0.mk (ho); clear HB; clear HO_3; have HB := n0_; have HO259 := n1_; clear n0_ n1_; clear ho hb hg hat))
                go_ret
                exact ⟨_, by first | rfl | (simp [errW_none, errW_some] <;> rfl) | (simp [*, errW_none, errW_some] <;> rfl), by (with_reducible repeat (first | apply Kd.R_alloc | apply Kd.R_drewN | apply Kd.R_drew)); exact HO259.out, by repeat (first | (with_reducible first | exact HB.out | apply below_alloc | apply pw_below_drewN | apply below_drew1) | exact HB.out)⟩
              · rw [if_neg c15] at H
                exact absurd H (by simp)
          · rw [if_neg c12] at H
            exact absurd H (by simp)
        · rw [if_neg c11] at H
          exact absurd H (by simp)

end Go.Proofs.YtpgjhjlhipikgaaDoor.PK
end
section
namespace Go.Proofs.YtpgjhjlhipikgaaDoor.PK
open Go.RowKit Go.Proofs.YtpgjhjlhipikgaaDoorW.PrintWords Go.Proofs.YtpgjhjlhipikgaaDoorW.PrintLast Go.Proofs.YtpgjhjlhipikgaaDoorW.PrintMore
attribute [local go_sem] max2_int min2_int max_two min_two max_three min_three max_four min_four   -- for this text's walks alone
set_option linter.unusedVariables false
set_option linter.unusedSimpArgs false

/-! ### copydesklaw03_BlockSentencesMatchesReference: function 7 -/
def copydesklaw03_BlockSentencesMatchesReference.f (k : Nat) (a0 : ByteArray) : Option (Bool) := (copydesklaw03_sane.f).bind fun t265 => (if 0 ≤ (mn (a0.size : Int) 2000) then (if (mn (a0.size : Int) 2000) ≤ (a0.size : Int) then (if t265 = true then ((block_Sentences.f (a0.extract 0 ((mn (a0.size : Int) 2000) : Int).toNat)).bind fun t266 => ((copydeskref03_Sentences.f k (a0.extract 0 ((mn (a0.size : Int) 2000) : Int).toNat)).bind fun t269 => ((copydeskref03_SameStrings.f k t266 t269).bind fun t272 => (some t272)))) else (some false)) else (none)) else (none))
theorem copydesklaw03_BlockSentencesMatchesReference.mono : ∀ a0 k, LeO (copydesklaw03_BlockSentencesMatchesReference.f k a0) (copydesklaw03_BlockSentencesMatchesReference.f (k + 1) a0) := by
  intro a0 k
  unfold copydesklaw03_BlockSentencesMatchesReference.f
  repeat' first
      | (with_reducible exact copydeskref03_SameStrings.mono _ _ _)
      | (with_reducible exact copydeskref03_Sentences.mono _ _)
      | (with_reducible exact LeO.refl _)
      | (with_reducible exact LeO.none _)
      | (with_reducible refine LeO.ite ?_ ?_)
      | (with_reducible refine LeO.bind ?_ (fun _ => ?_))
      | exact copydeskref03_SameStrings.mono _ _ _
      | exact copydeskref03_Sentences.mono _ _
      | exact LeO.none _
      | refine LeO.ite ?_ ?_
      | refine LeO.bind ?_ (fun _ => ?_)
set_option maxHeartbeats 8000000 in
set_option maxRecDepth 100000 in
theorem copydesklaw03_BlockSentencesMatchesReference.calls (k : Nat) (a0 : ByteArray) (r : Bool) (w : World) (h : copydesklaw03_BlockSentencesMatchesReference.f k a0 = some r) :
    Calls Tryd.prog 7 #[.string a0] w fun e w' => e = .returned (.bool r) ∧ Below w.heap.size w w' := by
  have HB := Aside0.mk (Below.refl w.heap.size w)
  have H : ((copydesklaw03_sane.f).bind fun t265 => (if 0 ≤ (mn (a0.size : Int) 2000) then (if (mn (a0.size : Int) 2000) ≤ (a0.size : Int) then (if t265 = true then ((block_Sentences.f (a0.extract 0 ((mn (a0.size : Int) 2000) : Int).toNat)).bind fun t266 => ((copydeskref03_Sentences.f k (a0.extract 0 ((mn (a0.size : Int) 2000) : Int).toNat)).bind fun t269 => ((copydeskref03_SameStrings.f k t266 t269).bind fun t272 => (some t272)))) else (some false)) else (none)) else (none))) = some r := h
  clear h
  replace H := Option.bind_eq_some_iff.mp H
  obtain ⟨t265, A20, H⟩ := H
  replace H : (if 0 ≤ (mn (a0.size : Int) 2000) then (if (mn (a0.size : Int) 2000) ≤ (a0.size : Int) then (if t265 = true then ((block_Sentences.f (a0.extract 0 ((mn (a0.size : Int) 2000) : Int).toNat)).bind fun t266 => ((copydeskref03_Sentences.f k (a0.extract 0 ((mn (a0.size : Int) 2000) : Int).toNat)).bind fun t269 => ((copydeskref03_SameStrings.f k t266 t269).bind fun t272 => (some t272)))) else (some false)) else (none)) else (none)) = some r := H
  have A2 := Aside0.mk A20
  clear A20
  obtain ⟨ji3, hji3⟩ : ∃ j_ : Int, (mn (a0.size : Int) 2000) = j_ := ⟨_, rfl⟩
  replace H : (if 0 ≤ (ji3) then (if (ji3) ≤ (a0.size : Int) then (if t265 = true then ((block_Sentences.f (a0.extract 0 ((ji3) : Int).toNat)).bind fun t266 => ((copydeskref03_Sentences.f k (a0.extract 0 ((ji3) : Int).toNat)).bind fun t269 => ((copydeskref03_SameStrings.f k t266 t269).bind fun t272 => (some t272)))) else (some false)) else (none)) else (none)) = some r := by first | (rw [hji3] at H; exact H) | (simp only [hji3] at H ⊢; exact H)
  (try rw [hji3] at A2)
  (try (have hji3h : ji3 ≤ 2000 := by (rw [← hji3]; unfold mn; (repeat' split) <;> omega)))
  (try (have hji3g : ji3 ≤ 64 := by omega))
  (try (have hji3l : 0 ≤ ji3 := by (rw [← hji3]; unfold mn; (repeat' split) <;> omega)))
  (try (have hji3m : 0 ≤ ji3 := by omega))
  have hji3_ : (if 2000 < (a0.size : Int) then 2000 else (a0.size : Int)) = ji3 := hji3
  by_cases c4 : 0 ≤ (ji3)
  · rw [if_pos c4] at H
    have c4b0 := eq_true c4
    have c4b1 : decide (0 ≤ (ji3)) = true := decide_eq_true c4
    clear c4
    by_cases c5 : (ji3) ≤ (a0.size : Int)
    · rw [if_pos c5] at H
      have c5b0 := eq_true c5
      have c5b1 : decide ((ji3) ≤ (a0.size : Int)) = true := decide_eq_true c5
      clear c5
      by_cases c6 : t265 = true
      · subst c6
        have H1 : ((block_Sentences.f (a0.extract 0 ((ji3) : Int).toNat)).bind fun t266 => ((copydeskref03_Sentences.f k (a0.extract 0 ((ji3) : Int).toNat)).bind fun t269 => ((copydeskref03_SameStrings.f k t266 t269).bind fun t272 => (some t272)))) = some r := by rw [if_pos rfl] at H; exact H
        clear H
        have H := H1
        clear H1
        replace H := Option.bind_eq_some_iff.mp H
        obtain ⟨t266, A70, H⟩ := H
        replace H : ((copydeskref03_Sentences.f k (a0.extract 0 ((ji3) : Int).toNat)).bind fun t269 => ((copydeskref03_SameStrings.f k t266 t269).bind fun t272 => (some t272))) = some r := H
        have A7 := Aside0.mk A70
        clear A70
        replace H := Option.bind_eq_some_iff.mp H
        obtain ⟨t269, A80, H⟩ := H
        replace H : ((copydeskref03_SameStrings.f k t266 t269).bind fun t272 => (some t272)) = some r := H
        have A8 := Aside0.mk A80
        clear A80
        replace H := Option.bind_eq_some_iff.mp H
        obtain ⟨t272, A90, H⟩ := H
        replace H : (some t272) = some r := H
        have A9 := Aside0.mk A90
        clear A90
        obtain rfl := Option.some.inj H
        go_enter Tryd.func7, Tryd.ntmps7
        go_wp2_with (first | ((with_reducible refine gate_callee (f := 17) rfl ?_); refine goesL_ (some 4) rfl rfl Tryd.func17 (by kernel_rfl) rfl #[] rfl (by (try simp only [List.map_toArray, List.map_cons, List.map_nil]); first | done | rfl | (simp only [List.length_drop, List.length_take]; rfl)) ?_; (with_reducible refine (copydesklaw03_sane.calls  true _ A2.out).mono ?_); rintro e w10 ⟨rfl, hb⟩; refine ⟨_, rfl, ?_⟩; have n0_ := Aside0.mk (below_step (by repeat (first | (with_reducible first | exact HB.out | apply below_alloc | apply pw_below_drewN | apply below_drew1) | exact HB.out)) hb); clear HB; have HB := n0_; clear n0_; (try clear hb); (try clear hb2); (try clear hk); (try clear hi)) | (go_at_call 32; (with_reducible refine (block_Sentences.calls (a0.extract 0 ((ji3) : Int).toNat) t266 _ A7.out).mono ?_); rintro e w11 ⟨v267, rfl, ho0, hb⟩; have n0_ := Aside0.mk (Kd.R_lower ho0 (below_size (by repeat (first | (with_reducible first | exact HB.out | apply below_alloc | apply pw_below_drewN | apply below_drew1) | exact HB.out)))); have n1_ := Aside0.mk (below_step (by repeat (first | (with_reducible first | exact HB.out | apply below_alloc | apply pw_below_drewN | apply below_drew1) | exact HB.out)) hb); clear HB; have HO268 := n0_; have HB := n1_; clear n0_ n1_; (try clear hb); (try clear hb2); (try clear hk); (try clear hi); (try clear ho0)) | (go_at_call 33; (with_reducible refine (copydeskref03_Sentences.calls k (a0.extract 0 ((ji3) : Int).toNat) t269 _ A8.out).mono ?_); rintro e w12 ⟨v270, rfl, ho0, hb⟩; have n0_ := Aside0.mk (Kd.R_elder' (by (with_reducible repeat (first | apply Kd.R_alloc | apply Kd.R_drewN | apply Kd.R_drew)); exact HO268.out) (Kd.R_base ho0) hb); have n1_ := Aside0.mk (Kd.R_lower (Kd.R_new' ho0 (Kd.R_lt (by (with_reducible repeat (first | apply Kd.R_alloc | apply Kd.R_drewN | apply Kd.R_drew)); exact HO268.out))) (below_size (by repeat (first | (with_reducible first | exact HB.out | apply below_alloc | apply pw_below_drewN | apply below_drew1) | exact HB.out)))); have n2_ := Aside0.mk (below_step (by repeat (first | (with_reducible first | exact HB.out | apply below_alloc | apply pw_below_drewN | apply below_drew1) | exact HB.out)) hb); clear HO268; clear HB; have HO268 := n0_; have HO271 := n1_; have HB := n2_; clear n0_ n1_ n2_; (try clear hb); (try clear hb2); (try clear hk); (try clear hi); (try clear ho0); obtain ⟨Ao13, co13, eo13⟩ := Kd.R_slice HO268.out; subst eo13; obtain ⟨Ao14, co14, eo14⟩ := Kd.R_slice HO271.out; subst eo14) | (go_at_call 31; (with_reducible refine (copydeskref03_SameStrings.calls k _ _ t266 _ _ t269 t272 _ ?side1 ?side2 ?side3 ?side4 A9.out).mono ?_); (case side1 => repeat (first | exact (Kd.R_reads' HO268.out).2.2 | (with_reducible refine Kd.C_alloc ?_ _) | (with_reducible refine Kd.C_drewN ?_ _) | (with_reducible refine Kd.C_drew ?_))); (case side2 => exact (Kd.R_reads' HO268.out).2.1); (case side3 => repeat (first | exact (Kd.R_reads' HO271.out).2.2 | (with_reducible refine Kd.C_alloc ?_ _) | (with_reducible refine Kd.C_drewN ?_ _) | (with_reducible refine Kd.C_drew ?_))); (case side4 => exact (Kd.R_reads' HO271.out).2.1); rintro e w' ⟨rfl, ⟨nd, rfl⟩⟩))
        go_ret
        exact ⟨by first | rfl | (simp [errW_none, errW_some] <;> rfl) | (simp only [← hji3]; first | rfl | (simp [errW_none, errW_some] <;> rfl)) | (simp [*, errW_none, errW_some] <;> rfl), by repeat (first | (with_reducible first | exact HB.out | apply below_alloc | apply pw_below_drewN | apply below_drew1) | exact HB.out)⟩
      · replace c6 := Bool.eq_false_iff.mpr c6
        subst c6
        have H1 : (some false) = some r := by rw [if_neg (show ¬ (false = true) by decide)] at H; exact H
        clear H
        have H := H1
        clear H1
        obtain rfl := Option.some.inj H
        go_enter Tryd.func7, Tryd.ntmps7
        go_wp2_with (first | ((with_reducible refine gate_callee (f := 17) rfl ?_); refine goesL_ (some 4) rfl rfl Tryd.func17 (by kernel_rfl) rfl #[] rfl (by (try simp only [List.map_toArray, List.map_cons, List.map_nil]); first | done | rfl | (simp only [List.length_drop, List.length_take]; rfl)) ?_; (with_reducible refine (copydesklaw03_sane.calls  false _ A2.out).mono ?_); rintro e w15 ⟨rfl, hb⟩; refine ⟨_, rfl, ?_⟩; have n0_ := Aside0.mk (below_step (by repeat (first | (with_reducible first | exact HB.out | apply below_alloc | apply pw_below_drewN | apply below_drew1) | exact HB.out)) hb); clear HB; have HB := n0_; clear n0_; (try clear hb); (try clear hb2); (try clear hk); (try clear hi)))
        go_ret
        exact ⟨by first | rfl | (simp [errW_none, errW_some] <;> rfl) | (simp only [← hji3]; first | rfl | (simp [errW_none, errW_some] <;> rfl)) | (simp [*, errW_none, errW_some] <;> rfl), by repeat (first | (with_reducible first | exact HB.out | apply below_alloc | apply pw_below_drewN | apply below_drew1) | exact HB.out)⟩
    · rw [if_neg c5] at H
      exact absurd H (by simp)
  · rw [if_neg c4] at H
    exact absurd H (by simp)

/-- THE ONE PURE STATEMENT of copydesklaw03_BlockSentencesMatchesReference: yours. -/
def copydesklaw03_BlockSentencesMatchesReference.Pure : Prop := ∀ (a0 : ByteArray), a0.size ≤ 140737488351232 → ∃ k, copydesklaw03_BlockSentencesMatchesReference.f k a0 = some true
theorem copydesklaw03_BlockSentencesMatchesReference.walk (P : copydesklaw03_BlockSentencesMatchesReference.Pure) (a0 : ByteArray) (w : World) (w0 : a0.size ≤ 140737488351232) :
    Calls Tryd.prog 7 #[.string a0] w fun e w' => e = .returned (.bool true) ∧ Below w.heap.size w w' := by
  obtain ⟨k, h⟩ := P a0 w0
  refine (copydesklaw03_BlockSentencesMatchesReference.calls k a0 true w h).mono ?_
  rintro e w' ⟨rfl, hd⟩
  exact ⟨rfl, hd⟩

end Go.Proofs.YtpgjhjlhipikgaaDoor.PK
end
