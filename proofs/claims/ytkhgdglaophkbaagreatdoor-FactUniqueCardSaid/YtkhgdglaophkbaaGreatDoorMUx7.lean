/- Texts of this claim, one behind the other. -/
import Derived.Test.YtkhgdglaophkbaaGreatDoorMUx2
import Derived.Test.YtkhgdglaophkbaaGreatDoorMUx6
import Derived.Test.YtkhgdglaophkbaaGreatDoorMUx5
import Derived.Test.YtkhgdglaophkbaaGreatDoorMUx4
import Derived.Deep.Cut
import Derived.Deep.RegionWith
section
namespace Go.Proofs.YtkhgdglaophkbaaGreatDoor.PK
open Go.RowKit Go.Proofs.YtkhgdglaophkbaaGreatDoorW.PrintWords Go.Proofs.YtkhgdglaophkbaaGreatDoorW.PrintLast Go.Proofs.YtkhgdglaophkbaaGreatDoorW.PrintMore
attribute [local go_sem] max2_int min2_int max_two min_two max_three min_three max_four min_four   -- for this text's walks alone
set_option linter.unusedVariables false
set_option linter.unusedSimpArgs false
def fact_isName.f (k : Nat) (a0 : ByteArray) : Option (Bool) := if a0.toList = ([] : List UInt8) then (some false) else (if (a0.size : Int) ≤ 20 then ((fact_all_at_fact_isName_1.f k a0).bind fun t144 => (some t144)) else (some false))
theorem fact_isName.mono : ∀ a0 k, LeO (fact_isName.f k a0) (fact_isName.f (k + 1) a0) := by
  intro a0 k
  unfold fact_isName.f
  repeat' first
      | (with_reducible exact fact_all_at_fact_isName_1.mono _ _)
      | (with_reducible exact LeO.refl _)
      | (with_reducible exact LeO.none _)
      | (with_reducible refine LeO.ite ?_ ?_)
      | (with_reducible refine LeO.bind ?_ (fun _ => ?_))
      | exact fact_all_at_fact_isName_1.mono _ _
      | exact LeO.none _
      | refine LeO.ite ?_ ?_
      | refine LeO.bind ?_ (fun _ => ?_)
set_option maxHeartbeats 8000000 in
set_option maxRecDepth 100000 in
theorem fact_isName.calls (k : Nat) (a0 : ByteArray) (r : Bool) (w : World) (h : fact_isName.f k a0 = some r) :
    Calls Tryz.prog 46 #[.string a0] w fun e w' => e = .returned (.bool r) ∧ Drawn0 w w' := by
  have H : (if a0.toList = ([] : List UInt8) then (some false) else (if (a0.size : Int) ≤ 20 then ((fact_all_at_fact_isName_1.f k a0).bind fun t144 => (some t144)) else (some false))) = some r := h
  clear h
  by_cases c2 : a0.toList = ([] : List UInt8)
  · rw [if_pos c2] at H
    have c2b0 : (a0.toList == ([] : List UInt8)) = true := beq_iff_eq.mpr c2
    have c2b1 : (a0.toList != ([] : List UInt8)) = false := bne_eq_false_iff_eq.mpr c2
    clear c2
    obtain rfl := Option.some.inj H
    go_enter Tryz.func46, Tryz.ntmps46
    go_wp2
    go_ret
    exact ⟨by first | rfl | (simp; done) | (simp [*]; done), by repeat (first | exact Drawn0.refl _ | apply Drawn0.step)⟩
  · rw [if_neg c2] at H
    have c2b0 : (a0.toList == ([] : List UInt8)) = false := beq_eq_false_iff_ne.mpr c2
    have c2b1 : (a0.toList != ([] : List UInt8)) = true := bne_iff_ne.mpr c2
    by_cases c3 : (a0.size : Int) ≤ 20
    · rw [if_pos c3] at H
      have c3b0 : decide ((a0.size : Int) ≤ 20) = true := decide_eq_true c3
      have c3b1 : decide (a0.size ≤ 20) = true := decide_eq_true (by omega)
      clear c3
      replace H := Option.bind_eq_some_iff.mp H
      obtain ⟨t144, A40, H⟩ := H
      replace H : (some t144) = some r := H
      have A4 := Aside0.mk A40
      clear A40
      obtain rfl := Option.some.inj H
      go_enter Tryz.func46, Tryz.ntmps46
      go_wp2_with (first | (go_at_call 64; (with_reducible refine (fact_all_at_fact_isName_1.calls k a0  t144 _ A4.out).mono ?_); rintro e w' ⟨rfl, ⟨nd, rfl⟩⟩))
      go_ret
      exact ⟨by first | rfl | (simp; done) | (simp [*]; done), by repeat (first | exact Drawn0.refl _ | apply Drawn0.step)⟩
    · rw [if_neg c3] at H
      have c3b0 : decide ((a0.size : Int) ≤ 20) = false := decide_eq_false c3
      have c3b1 : decide (a0.size ≤ 20) = false := decide_eq_false (by omega)
      clear c3
      obtain rfl := Option.some.inj H
      go_enter Tryz.func46, Tryz.ntmps46
      go_wp2
      go_ret
      exact ⟨by first | rfl | (simp; done) | (simp [*]; done), by repeat (first | exact Drawn0.refl _ | apply Drawn0.step)⟩
end Go.Proofs.YtkhgdglaophkbaaGreatDoor.PK
end
section
namespace Go.Proofs.YtkhgdglaophkbaaGreatDoor.PK
open Go.RowKit Go.Proofs.YtkhgdglaophkbaaGreatDoorW.PrintWords Go.Proofs.YtkhgdglaophkbaaGreatDoorW.PrintLast Go.Proofs.YtkhgdglaophkbaaGreatDoorW.PrintMore
attribute [local go_sem] max2_int min2_int max_two min_two max_three min_three max_four min_four   -- for this text's walks alone
set_option linter.unusedVariables false
set_option linter.unusedSimpArgs false
def fact_isText.f (k : Nat) (a0 : ByteArray) : Option (Bool) := if a0.toList = ([] : List UInt8) then (some false) else (if (a0.size : Int) ≤ 300 then ((fact_all_at_fact_printable.f k a0).bind fun t145 => (some t145)) else (some false))
theorem fact_isText.mono : ∀ a0 k, LeO (fact_isText.f k a0) (fact_isText.f (k + 1) a0) := by
  intro a0 k
  unfold fact_isText.f
  repeat' first
      | (with_reducible exact fact_all_at_fact_printable.mono _ _)
      | (with_reducible exact LeO.refl _)
      | (with_reducible exact LeO.none _)
      | (with_reducible refine LeO.ite ?_ ?_)
      | (with_reducible refine LeO.bind ?_ (fun _ => ?_))
      | exact fact_all_at_fact_printable.mono _ _
      | exact LeO.none _
      | refine LeO.ite ?_ ?_
      | refine LeO.bind ?_ (fun _ => ?_)
set_option maxHeartbeats 8000000 in
set_option maxRecDepth 100000 in
theorem fact_isText.calls (k : Nat) (a0 : ByteArray) (r : Bool) (w : World) (h : fact_isText.f k a0 = some r) :
    Calls Tryz.prog 47 #[.string a0] w fun e w' => e = .returned (.bool r) ∧ Drawn0 w w' := by
  have H : (if a0.toList = ([] : List UInt8) then (some false) else (if (a0.size : Int) ≤ 300 then ((fact_all_at_fact_printable.f k a0).bind fun t145 => (some t145)) else (some false))) = some r := h
  clear h
  by_cases c2 : a0.toList = ([] : List UInt8)
  · rw [if_pos c2] at H
    have c2b0 : (a0.toList == ([] : List UInt8)) = true := beq_iff_eq.mpr c2
    have c2b1 : (a0.toList != ([] : List UInt8)) = false := bne_eq_false_iff_eq.mpr c2
    clear c2
    obtain rfl := Option.some.inj H
    go_enter Tryz.func47, Tryz.ntmps47
    go_wp2
    go_ret
    exact ⟨by first | rfl | (simp; done) | (simp [*]; done), by repeat (first | exact Drawn0.refl _ | apply Drawn0.step)⟩
  · rw [if_neg c2] at H
    have c2b0 : (a0.toList == ([] : List UInt8)) = false := beq_eq_false_iff_ne.mpr c2
    have c2b1 : (a0.toList != ([] : List UInt8)) = true := bne_iff_ne.mpr c2
    by_cases c3 : (a0.size : Int) ≤ 300
    · rw [if_pos c3] at H
      have c3b0 : decide ((a0.size : Int) ≤ 300) = true := decide_eq_true c3
      have c3b1 : decide (a0.size ≤ 300) = true := decide_eq_true (by omega)
      clear c3
      replace H := Option.bind_eq_some_iff.mp H
      obtain ⟨t145, A40, H⟩ := H
      replace H : (some t145) = some r := H
      have A4 := Aside0.mk A40
      clear A40
      obtain rfl := Option.some.inj H
      go_enter Tryz.func47, Tryz.ntmps47
      go_wp2_with (first | (go_at_call 64; (with_reducible refine (fact_all_at_fact_printable.calls k a0  t145 _ A4.out).mono ?_); rintro e w' ⟨rfl, ⟨nd, rfl⟩⟩))
      go_ret
      exact ⟨by first | rfl | (simp; done) | (simp [*]; done), by repeat (first | exact Drawn0.refl _ | apply Drawn0.step)⟩
    · rw [if_neg c3] at H
      have c3b0 : decide ((a0.size : Int) ≤ 300) = false := decide_eq_false c3
      have c3b1 : decide (a0.size ≤ 300) = false := decide_eq_false (by omega)
      clear c3
      obtain rfl := Option.some.inj H
      go_enter Tryz.func47, Tryz.ntmps47
      go_wp2
      go_ret
      exact ⟨by first | rfl | (simp; done) | (simp [*]; done), by repeat (first | exact Drawn0.refl _ | apply Drawn0.step)⟩
end Go.Proofs.YtkhgdglaophkbaaGreatDoor.PK
end
section
namespace Go.Proofs.YtkhgdglaophkbaaGreatDoor.PK
open Go.RowKit Go.Proofs.YtkhgdglaophkbaaGreatDoorW.PrintWords Go.Proofs.YtkhgdglaophkbaaGreatDoorW.PrintLast Go.Proofs.YtkhgdglaophkbaaGreatDoorW.PrintMore
attribute [local go_sem] max2_int min2_int max_two min_two max_three min_three max_four min_four   -- for this text's walks alone
set_option linter.unusedVariables false
set_option linter.unusedSimpArgs false
def fact_areTopics.l0 : Nat → List ByteArray → List ByteArray → Int → Int → Option (Bool)
  | 0, _, _, _, _ => none
  | k + 1, x0, x5, x6, x7 => if x7 < x6 then (if 0 ≤ x7 then (if x7 < (x5.length : Int) then ((fact_isName.f k (rdOf ByteArray.empty x5 x7)).bind fun t147 => (if t147 = true then (if x7 > 0 then (if 0 ≤ (wrap64 (x7 - 1)) then (if (wrap64 (x7 - 1)) < (x0.length : Int) then (if ((Op.bytesLess ((rdOf ByteArray.empty x0 (wrap64 (x7 - 1))).toList) ((rdOf ByteArray.empty x5 x7).toList)) = true) then (fact_areTopics.l0 k x0 x5 x6 (wrap64 (x7 + 1))) else (some false)) else (none)) else (none)) else (fact_areTopics.l0 k x0 x5 x6 (wrap64 (x7 + 1)))) else (some false))) else (none)) else (none)) else (some (decide ((x0.length : Int) ≤ 4)))
def fact_areTopics.f (k : Nat) (l0 : List ByteArray) : Option (Bool) := fact_areTopics.l0 k l0 l0 (l0.length : Int) 0
theorem fact_areTopics.mono_l : ∀ k, (∀ y0 y1 y2 y3, LeO (fact_areTopics.l0 k y0 y1 y2 y3) (fact_areTopics.l0 (k + 1) y0 y1 y2 y3))
  | 0 => fun _ _ _ _ r h => by simp [fact_areTopics.l0] at h
  | k + 1 => by
    have ih0 := fact_areTopics.mono_l k
    · intro y0 y1 y2 y3
      unfold fact_areTopics.l0
      repeat' first
      | (with_reducible exact ih0 _ _ _ _)
      | (with_reducible exact fact_isName.mono _ _)
      | (with_reducible exact LeO.refl _)
      | (with_reducible exact LeO.none _)
      | (with_reducible refine LeO.ite ?_ ?_)
      | (with_reducible refine LeO.bind ?_ (fun _ => ?_))
      | exact ih0 _ _ _ _
      | exact fact_isName.mono _ _
      | exact LeO.none _
      | refine LeO.ite ?_ ?_
      | refine LeO.bind ?_ (fun _ => ?_)
theorem fact_areTopics.mono : ∀ a0 k, LeO (fact_areTopics.f k a0) (fact_areTopics.f (k + 1) a0) := by
  intro a0 k
  have ih0 := fact_areTopics.mono_l k
  unfold fact_areTopics.f
  repeat' first
      | (with_reducible exact ih0 _ _ _ _)
      | (with_reducible exact fact_isName.mono _ _)
      | (with_reducible exact LeO.refl _)
      | (with_reducible exact LeO.none _)
      | (with_reducible refine LeO.ite ?_ ?_)
      | (with_reducible refine LeO.bind ?_ (fun _ => ?_))
      | exact ih0 _ _ _ _
      | exact fact_isName.mono _ _
      | exact LeO.none _
      | refine LeO.ite ?_ ?_
      | refine LeO.bind ?_ (fun _ => ?_)
set_option maxHeartbeats 8000000 in
set_option maxRecDepth 100000 in
theorem fact_areTopics.calls (k : Nat) (A0 : Option Addr) (c0 : Nat) (l0 : List ByteArray) (r : Bool) (w : World) (hr0 : Kd.C Kd.string w A0 l0.length l0) (hc0 : l0.length ≤ c0) (h : fact_areTopics.f k l0 = some r) :
    Calls Tryz.prog 48 #[.slice A0 l0.length c0] w fun e w' => e = .returned (.bool r) ∧ Drawn0 w w' := by
  have HR0 := Aside0.mk hr0
  have HC0 := Aside0.mk hc0
  clear hr0 hc0
  have H : (fact_areTopics.l0 k l0 l0 (l0.length : Int) 0) = some r := h
  clear h
  have H' := Aside0.mk H
  clear H
  go_enter Tryz.func48, Tryz.ntmps48
  go_wp2
  go_loopg [7] k (fun kq v7 w' => ∃ (x7_1 : Int), v7 = .int .i64 x7_1 ∧ Aside0 (fact_areTopics.l0 kq l0 l0 (l0.length : Int) x7_1 = some r) ∧ Aside0 (kq ≤ k) ∧ Drawn0 w w')
  case atStart => exact ⟨(0), (by first | rfl | (simp; done) | (simp [*]; done)), H', ⟨Nat.le_refl _⟩, by repeat (first | exact Drawn0.refl _ | apply Drawn0.step)⟩
  case round =>
    clear H'
    obtain ⟨x7_1, rfl, HA, HK1, ⟨m1, rfl⟩⟩ := hrel
    cases gk with
    | zero => exact absurd HA.out (by simp [fact_areTopics.l0])
    | succ k1 =>
      have H := HA.out
      clear HA
      simp only [fact_areTopics.l0] at H
      by_cases c2 : x7_1 < (l0.length : Int)
      · rw [if_pos c2] at H
        have c2b0 : decide (x7_1 < (l0.length : Int)) = true := decide_eq_true c2
        clear c2
        by_cases c3 : 0 ≤ x7_1
        · rw [if_pos c3] at H
          have c3b0 : decide (0 ≤ x7_1) = true := decide_eq_true c3
          clear c3
          by_cases c4 : x7_1 < (l0.length : Int)
          · rw [if_pos c4] at H
            have c4b0 : decide (x7_1 < (l0.length : Int)) = true := decide_eq_true c4
            clear c4
            replace H := Option.bind_eq_some_iff.mp H
            obtain ⟨t147, A50, H⟩ := H
            replace H : (if t147 = true then (if x7_1 > 0 then (if 0 ≤ (wrap64 (x7_1 - 1)) then (if (wrap64 (x7_1 - 1)) < (l0.length : Int) then (if ((Op.bytesLess ((rdOf ByteArray.empty l0 (wrap64 (x7_1 - 1))).toList) ((rdOf ByteArray.empty l0 x7_1).toList)) = true) then (fact_areTopics.l0 k1 l0 l0 (l0.length : Int) (wrap64 (x7_1 + 1))) else (some false)) else (none)) else (none)) else (fact_areTopics.l0 k1 l0 l0 (l0.length : Int) (wrap64 (x7_1 + 1)))) else (some false)) = some r := H
            have A5 := Aside0.mk A50
            clear A50
            by_cases c6 : t147 = true
            · subst c6
              have H1 : (if x7_1 > 0 then (if 0 ≤ (wrap64 (x7_1 - 1)) then (if (wrap64 (x7_1 - 1)) < (l0.length : Int) then (if ((Op.bytesLess ((rdOf ByteArray.empty l0 (wrap64 (x7_1 - 1))).toList) ((rdOf ByteArray.empty l0 x7_1).toList)) = true) then (fact_areTopics.l0 k1 l0 l0 (l0.length : Int) (wrap64 (x7_1 + 1))) else (some false)) else (none)) else (none)) else (fact_areTopics.l0 k1 l0 l0 (l0.length : Int) (wrap64 (x7_1 + 1)))) = some r := by rw [if_pos rfl] at H; exact H
              clear H
              have H := H1
              clear H1
              by_cases c7 : x7_1 > 0
              · rw [if_pos c7] at H
                have c7b0 : decide (0 < x7_1) = true := decide_eq_true c7
                clear c7
                obtain ⟨ji8, hji8⟩ : ∃ j_ : Int, (wrap64 (x7_1 - 1)) = j_ := ⟨_, rfl⟩
                replace H : (if 0 ≤ (ji8) then (if (ji8) < (l0.length : Int) then (if ((Op.bytesLess ((rdOf ByteArray.empty l0 (ji8)).toList) ((rdOf ByteArray.empty l0 x7_1).toList)) = true) then (fact_areTopics.l0 k1 l0 l0 (l0.length : Int) (wrap64 (x7_1 + 1))) else (some false)) else (none)) else (none)) = some r := by first | (rw [hji8] at H; exact H) | (simp only [hji8] at H ⊢; exact H)
                (try rw [hji8] at A5)
                have hji8w : (IntKind.i64.wrap (x7_1 - 1)) = ji8 := (i64_w _).trans hji8
                by_cases c9 : 0 ≤ (ji8)
                · rw [if_pos c9] at H
                  have c9b0 : decide (0 ≤ (ji8)) = true := decide_eq_true c9
                  clear c9
                  by_cases c10 : (ji8) < (l0.length : Int)
                  · rw [if_pos c10] at H
                    have c10b0 : decide ((ji8) < (l0.length : Int)) = true := decide_eq_true c10
                    clear c10
                    by_cases c11 : ((Op.bytesLess ((rdOf ByteArray.empty l0 (ji8)).toList) ((rdOf ByteArray.empty l0 x7_1).toList)) = true)
                    · rw [if_pos c11] at H
                      have c11b0 : (Op.bytesLess ((rdOf ByteArray.empty l0 (ji8)).toList) ((rdOf ByteArray.empty l0 x7_1).toList)) = true := c11
                      clear c11
                      have H' := Aside0.mk H
                      clear H
                      have p146 : 0 ≤ (x7_1 : Int) := of_decide_eq_true (by first | (with_reducible assumption) | assumption)
                      have q146 : x7_1 < (l0.length : Int) := of_decide_eq_true (by first | (with_reducible assumption) | assumption)
                      obtain ⟨ad146, e146, hx146_0⟩ := Kd.at_string HR0.out x7_1 p146 q146
                      cases e146
                      replace p146 := eq_true p146
                      replace q146 := eq_true q146
                      go_wp2_with (first | ((with_reducible refine gate_callee (f := 46) rfl ?_); refine goesL_ (some 13) rfl rfl Tryz.func46 (by kernel_rfl) rfl #[.string (rdOf ByteArray.empty l0 x7_1)] rfl (by (try simp only [List.map_toArray, List.map_cons, List.map_nil]); first | done | rfl | (simp only [List.length_drop, List.length_take]; rfl)) ?_; (with_reducible refine (fact_isName.calls k1 (rdOf ByteArray.empty l0 x7_1) true _ A5.out).mono ?_); rintro e w' ⟨rfl, ⟨nd, rfl⟩⟩; refine ⟨_, rfl, ?_⟩; have p148 : 0 ≤ ((ji8) : Int) := of_decide_eq_true (by first | (with_reducible assumption) | assumption); have q148 : (ji8) < (l0.length : Int) := of_decide_eq_true (by first | (with_reducible assumption) | assumption); obtain ⟨ad148, e148, hx148_0⟩ := Kd.at_string HR0.out (ji8) p148 q148; obtain rfl : ad146 = ad148 := (by injection e148); replace p148 := eq_true p148; replace q148 := eq_true q148))
                      go_roundg k1
                      case measure => have := HK1.out; omega
                      case rel => exact ⟨(wrap64 (x7_1 + 1)), (by first | rfl | (simp; done) | (simp [*]; done)), H', ⟨by have := HK1.out; omega⟩, by repeat (first | exact Drawn0.refl _ | apply Drawn0.step)⟩
                    · rw [if_neg c11] at H
                      have c11b0 : (Op.bytesLess ((rdOf ByteArray.empty l0 (ji8)).toList) ((rdOf ByteArray.empty l0 x7_1).toList)) = false := by simpa using c11
                      clear c11
                      obtain rfl := Option.some.inj H
                      have p146 : 0 ≤ (x7_1 : Int) := of_decide_eq_true (by first | (with_reducible assumption) | assumption)
                      have q146 : x7_1 < (l0.length : Int) := of_decide_eq_true (by first | (with_reducible assumption) | assumption)
                      obtain ⟨ad146, e146, hx146_0⟩ := Kd.at_string HR0.out x7_1 p146 q146
                      cases e146
                      replace p146 := eq_true p146
                      replace q146 := eq_true q146
                      go_wp2_with (first | ((with_reducible refine gate_callee (f := 46) rfl ?_); refine goesL_ (some 13) rfl rfl Tryz.func46 (by kernel_rfl) rfl #[.string (rdOf ByteArray.empty l0 x7_1)] rfl (by (try simp only [List.map_toArray, List.map_cons, List.map_nil]); first | done | rfl | (simp only [List.length_drop, List.length_take]; rfl)) ?_; (with_reducible refine (fact_isName.calls k1 (rdOf ByteArray.empty l0 x7_1) true _ A5.out).mono ?_); rintro e w' ⟨rfl, ⟨nd, rfl⟩⟩; refine ⟨_, rfl, ?_⟩; have p148 : 0 ≤ ((ji8) : Int) := of_decide_eq_true (by first | (with_reducible assumption) | assumption); have q148 : (ji8) < (l0.length : Int) := of_decide_eq_true (by first | (with_reducible assumption) | assumption); obtain ⟨ad148, e148, hx148_0⟩ := Kd.at_string HR0.out (ji8) p148 q148; obtain rfl : ad146 = ad148 := (by injection e148); replace p148 := eq_true p148; replace q148 := eq_true q148))
                      go_ret
                      exact ⟨by first | rfl | (simp; done) | (simp only [← hji8] <;> (first | rfl | simp)) | (simp [*]; done), by repeat (first | exact Drawn0.refl _ | apply Drawn0.step)⟩
                  · rw [if_neg c10] at H
                    exact absurd H (by simp)
                · rw [if_neg c9] at H
                  exact absurd H (by simp)
              · rw [if_neg c7] at H
                have c7b0 : decide (0 < x7_1) = false := decide_eq_false c7
                clear c7
                have H' := Aside0.mk H
                clear H
                have p146 : 0 ≤ (x7_1 : Int) := of_decide_eq_true (by first | (with_reducible assumption) | assumption)
                have q146 : x7_1 < (l0.length : Int) := of_decide_eq_true (by first | (with_reducible assumption) | assumption)
                obtain ⟨ad146, e146, hx146_0⟩ := Kd.at_string HR0.out x7_1 p146 q146
                cases e146
                replace p146 := eq_true p146
                replace q146 := eq_true q146
                go_wp2_with (first | ((with_reducible refine gate_callee (f := 46) rfl ?_); refine goesL_ (some 13) rfl rfl Tryz.func46 (by kernel_rfl) rfl #[.string (rdOf ByteArray.empty l0 x7_1)] rfl (by (try simp only [List.map_toArray, List.map_cons, List.map_nil]); first | done | rfl | (simp only [List.length_drop, List.length_take]; rfl)) ?_; (with_reducible refine (fact_isName.calls k1 (rdOf ByteArray.empty l0 x7_1) true _ A5.out).mono ?_); rintro e w' ⟨rfl, ⟨nd, rfl⟩⟩; refine ⟨_, rfl, ?_⟩))
                go_roundg k1
                case measure => have := HK1.out; omega
                case rel => exact ⟨(wrap64 (x7_1 + 1)), (by first | rfl | (simp; done) | (simp [*]; done)), H', ⟨by have := HK1.out; omega⟩, by repeat (first | exact Drawn0.refl _ | apply Drawn0.step)⟩
            · replace c6 := Bool.eq_false_iff.mpr c6
              subst c6
              have H1 : (some false) = some r := by rw [if_neg (show ¬ (false = true) by decide)] at H; exact H
              clear H
              have H := H1
              clear H1
              obtain rfl := Option.some.inj H
              have p146 : 0 ≤ (x7_1 : Int) := of_decide_eq_true (by first | (with_reducible assumption) | assumption)
              have q146 : x7_1 < (l0.length : Int) := of_decide_eq_true (by first | (with_reducible assumption) | assumption)
              obtain ⟨ad146, e146, hx146_0⟩ := Kd.at_string HR0.out x7_1 p146 q146
              cases e146
              replace p146 := eq_true p146
              replace q146 := eq_true q146
              go_wp2_with (first | ((with_reducible refine gate_callee (f := 46) rfl ?_); refine goesL_ (some 13) rfl rfl Tryz.func46 (by kernel_rfl) rfl #[.string (rdOf ByteArray.empty l0 x7_1)] rfl (by (try simp only [List.map_toArray, List.map_cons, List.map_nil]); first | done | rfl | (simp only [List.length_drop, List.length_take]; rfl)) ?_; (with_reducible refine (fact_isName.calls k1 (rdOf ByteArray.empty l0 x7_1) false _ A5.out).mono ?_); rintro e w' ⟨rfl, ⟨nd, rfl⟩⟩; refine ⟨_, rfl, ?_⟩))
              go_ret
              exact ⟨by first | rfl | (simp; done) | (simp [*]; done), by repeat (first | exact Drawn0.refl _ | apply Drawn0.step)⟩
          · rw [if_neg c4] at H
            exact absurd H (by simp)
        · rw [if_neg c3] at H
          exact absurd H (by simp)
      · rw [if_neg c2] at H
        have c2b0 : decide (x7_1 < (l0.length : Int)) = false := decide_eq_false c2
        clear c2
        obtain rfl := Option.some.inj H
        go_wp2
        go_ret
        exact ⟨by first | rfl | (simp; done) | (simp [*]; done), by repeat (first | exact Drawn0.refl _ | apply Drawn0.step)⟩
end Go.Proofs.YtkhgdglaophkbaaGreatDoor.PK
end
section
namespace Go.Proofs.YtkhgdglaophkbaaGreatDoor.PK
open Go.RowKit Go.Proofs.YtkhgdglaophkbaaGreatDoorW.PrintWords Go.Proofs.YtkhgdglaophkbaaGreatDoorW.PrintLast Go.Proofs.YtkhgdglaophkbaaGreatDoorW.PrintMore
attribute [local go_sem] max2_int min2_int max_two min_two max_three min_three max_four min_four   -- for this text's walks alone
set_option linter.unusedVariables false
set_option linter.unusedSimpArgs false
def fact_isSource.f (k : Nat) (a0 : ByteArray) : Option (Bool) := if (a0.size : Int) ≤ 1000 then ((fact_all_at_fact_isSource_1.f k a0).bind fun t149 => (some t149)) else (some false)
theorem fact_isSource.mono : ∀ a0 k, LeO (fact_isSource.f k a0) (fact_isSource.f (k + 1) a0) := by
  intro a0 k
  unfold fact_isSource.f
  repeat' first
      | (with_reducible exact fact_all_at_fact_isSource_1.mono _ _)
      | (with_reducible exact LeO.refl _)
      | (with_reducible exact LeO.none _)
      | (with_reducible refine LeO.ite ?_ ?_)
      | (with_reducible refine LeO.bind ?_ (fun _ => ?_))
      | exact fact_all_at_fact_isSource_1.mono _ _
      | exact LeO.none _
      | refine LeO.ite ?_ ?_
      | refine LeO.bind ?_ (fun _ => ?_)
set_option maxHeartbeats 8000000 in
set_option maxRecDepth 100000 in
theorem fact_isSource.calls (k : Nat) (a0 : ByteArray) (r : Bool) (w : World) (h : fact_isSource.f k a0 = some r) :
    Calls Tryz.prog 50 #[.string a0] w fun e w' => e = .returned (.bool r) ∧ Drawn0 w w' := by
  have H : (if (a0.size : Int) ≤ 1000 then ((fact_all_at_fact_isSource_1.f k a0).bind fun t149 => (some t149)) else (some false)) = some r := h
  clear h
  by_cases c2 : (a0.size : Int) ≤ 1000
  · rw [if_pos c2] at H
    have c2b0 : decide ((a0.size : Int) ≤ 1000) = true := decide_eq_true c2
    have c2b1 : decide (a0.size ≤ 1000) = true := decide_eq_true (by omega)
    clear c2
    replace H := Option.bind_eq_some_iff.mp H
    obtain ⟨t149, A30, H⟩ := H
    replace H : (some t149) = some r := H
    have A3 := Aside0.mk A30
    clear A30
    obtain rfl := Option.some.inj H
    go_enter Tryz.func50, Tryz.ntmps50
    go_wp2_with (first | (go_at_call 64; (with_reducible refine (fact_all_at_fact_isSource_1.calls k a0  t149 _ A3.out).mono ?_); rintro e w' ⟨rfl, ⟨nd, rfl⟩⟩))
    go_ret
    exact ⟨by first | rfl | (simp; done) | (simp [*]; done), by repeat (first | exact Drawn0.refl _ | apply Drawn0.step)⟩
  · rw [if_neg c2] at H
    have c2b0 : decide ((a0.size : Int) ≤ 1000) = false := decide_eq_false c2
    have c2b1 : decide (a0.size ≤ 1000) = false := decide_eq_false (by omega)
    clear c2
    obtain rfl := Option.some.inj H
    go_enter Tryz.func50, Tryz.ntmps50
    go_wp2
    go_ret
    exact ⟨by first | rfl | (simp; done) | (simp [*]; done), by repeat (first | exact Drawn0.refl _ | apply Drawn0.step)⟩
end Go.Proofs.YtkhgdglaophkbaaGreatDoor.PK
end
section
namespace Go.Proofs.YtkhgdglaophkbaaGreatDoor.PK
open Go.RowKit Go.Proofs.YtkhgdglaophkbaaGreatDoorW.PrintWords Go.Proofs.YtkhgdglaophkbaaGreatDoorW.PrintLast Go.Proofs.YtkhgdglaophkbaaGreatDoorW.PrintMore
attribute [local go_sem] max2_int min2_int max_two min_two max_three min_three max_four min_four   -- for this text's walks alone
set_option linter.unusedVariables false
set_option linter.unusedSimpArgs false
theorem fr_drawn {W w' : World} (h : Drawn0 W w') : ∃ m, w' = W.drewN m := by
  obtain ⟨m, h⟩ := h
  exact ⟨m, by subst h; rfl⟩
theorem is_loadF {P : Program} {W : World} {ops : Array Oper} {rest : List Oper} {o : Oper} {a : Act} {Q : Exit → Act → World → Prop} {t : TypeId} {p : Operand} (_ : o.op = .load t p) (h : wpList P ops Q (o :: rest) a W) : wpList P ops Q (o :: rest) a W := h
theorem fa_size : (Tryz.prog.info? 28).map (·.size) = some 23 := by kernel_rfl
theorem fr_nilC {α : Type} (d : Kd α) (w : World) : d.C w none 0 [] := ⟨rfl, by simp, fun h => absurd h (by simp)⟩
theorem fr_bt (s : ByteArray) (j : Nat) (h : j < s.data.toList.length) : bt s (j : Int) = (s.data.toList[j].toNat : Int) := by
  have hs : j < s.size := by rw [Array.length_toList] at h; exact h
  unfold bt
  rw [dif_pos (by rw [Int.toNat_natCast]; exact hs)]
  simp only [Int.toNat_natCast]
  rfl
def fr_NP (c : UInt8) : Bool := (decide (97 ≤ c.toNat) && decide (c.toNat ≤ 122)) || (decide (48 ≤ c.toNat) && decide (c.toNat ≤ 57)) || c.toNat == 45
def fr_TP (c : UInt8) : Bool := decide (32 ≤ c.toNat) && decide (c.toNat ≤ 126)
def fr_SP (c : UInt8) : Bool := c.toNat == 10 || (decide (32 ≤ c.toNat) && decide (c.toNat ≤ 126))
theorem fr_TC (c : UInt8) : fact_printable.f (c.toNat : Int) = some (fr_TP c) := by
  unfold fact_printable.f fr_TP
  by_cases h : (c.toNat : Int) ≥ 32
  · rw [if_pos h, decide_eq_true (show 32 ≤ c.toNat by omega), Bool.true_and]; exact congrArg some (decide_eq_decide.2 (by omega))
  · rw [if_neg h, decide_eq_false (show ¬ 32 ≤ c.toNat by omega)]; rfl
theorem fr_beq (n : Nat) (m : Nat) : ((n : Int) == (m : Int)) = (n == m) := by
  rw [Bool.eq_iff_iff, beq_iff_eq, beq_iff_eq]; omega
theorem fr_NC (c : UInt8) : fact_isName_1.f (c.toNat : Int) = some (fr_NP c) := by
  unfold fact_isName_1.f fact_lower.f fr_NP
  have h45 : ((c.toNat : Int) == 45) = (c.toNat == 45) := fr_beq c.toNat 45
  rw [h45]
  generalize c.toNat = n
  by_cases h1 : 97 ≤ n
  · rw [if_pos (show (n : Int) ≥ 97 by omega), Option.bind_some, decide_eq_true h1]
    by_cases h2 : n ≤ 122
    · rw [decide_eq_true (show (n : Int) ≤ 122 by omega), decide_eq_true h2]; rfl
    · rw [decide_eq_false (show ¬ (n : Int) ≤ 122 by omega), decide_eq_false h2, if_neg (by simp), if_pos (by omega), if_neg (by omega), decide_eq_true (show 48 ≤ n by omega), decide_eq_false (show ¬ n ≤ 57 by omega)]; rfl
  · rw [if_neg (show ¬ (n : Int) ≥ 97 by omega), Option.bind_some, decide_eq_false h1, if_neg (by simp)]
    by_cases h3 : 48 ≤ n
    · rw [if_pos (by omega), decide_eq_true h3]
      by_cases h4 : n ≤ 57
      · rw [if_pos (by omega), decide_eq_true h4]; rfl
      · rw [if_neg (by omega), decide_eq_false h4]; rfl
    · rw [if_neg (by omega), decide_eq_false h3]; rfl
theorem fr_SC (c : UInt8) : fact_isSource_1.f (c.toNat : Int) = some (fr_SP c) := by
  unfold fact_isSource_1.f
  rw [fr_TC]
  unfold fr_SP fr_TP
  by_cases h : (c.toNat : Int) = 10
  · rw [if_pos h, show (c.toNat == 10) = true by rw [beq_iff_eq]; omega]; rfl
  · rw [if_neg h, show (c.toNat == 10) = false by rw [beq_eq_false_iff_ne]; omega]; rfl
theorem fr_allN (s : ByteArray) (hs : s.size ≤ 100000) : ∀ (d k j : Nat), j + d = s.size → d < k →
    fact_all_at_fact_isName_1.l0 k s (s.size : Int) (j : Int) = some ((s.data.toList.drop j).all fr_NP)
  | 0, k, j, hj, hk => by
    obtain ⟨k, rfl⟩ : ∃ i, k = i + 1 := ⟨k - 1, by omega⟩
    rw [fact_all_at_fact_isName_1.l0, if_neg (by omega), List.drop_eq_nil_of_le (by rw [Array.length_toList]; show s.size ≤ j; omega)]; rfl
  | d + 1, k, j, hj, hk => by
    obtain ⟨k, rfl⟩ : ∃ i, k = i + 1 := ⟨k - 1, by omega⟩
    have hl : j < s.data.toList.length := by rw [Array.length_toList]; show j < s.size; omega
    have hw : wrap64 ((j : Int) + 1) = ((j + 1 : Nat) : Int) := by unfold wrap64; omega
    rw [fact_all_at_fact_isName_1.l0, if_pos (by omega), if_pos (by omega), if_pos (by omega), fr_bt s j hl, fr_NC, Option.bind_some, hw, fr_allN s hs d k (j + 1) (by omega) (by omega), List.drop_eq_getElem_cons hl, List.all_cons]
    cases fr_NP s.data.toList[j] <;> rfl
theorem fr_allN0 (s : ByteArray) (hs : s.size ≤ 100000) (k : Nat) (hk : s.size < k) : fact_all_at_fact_isName_1.f k s = some (s.data.toList.all fr_NP) := by
  have := fr_allN s hs s.size k 0 (by omega) hk
  rw [List.drop_zero] at this
  exact this
theorem fr_allT (s : ByteArray) (hs : s.size ≤ 100000) : ∀ (d k j : Nat), j + d = s.size → d < k →
    fact_all_at_fact_printable.l0 k s (s.size : Int) (j : Int) = some ((s.data.toList.drop j).all fr_TP)
  | 0, k, j, hj, hk => by
    obtain ⟨k, rfl⟩ : ∃ i, k = i + 1 := ⟨k - 1, by omega⟩
    rw [fact_all_at_fact_printable.l0, if_neg (by omega), List.drop_eq_nil_of_le (by rw [Array.length_toList]; show s.size ≤ j; omega)]; rfl
  | d + 1, k, j, hj, hk => by
    obtain ⟨k, rfl⟩ : ∃ i, k = i + 1 := ⟨k - 1, by omega⟩
    have hl : j < s.data.toList.length := by rw [Array.length_toList]; show j < s.size; omega
    have hw : wrap64 ((j : Int) + 1) = ((j + 1 : Nat) : Int) := by unfold wrap64; omega
    rw [fact_all_at_fact_printable.l0, if_pos (by omega), if_pos (by omega), if_pos (by omega), fr_bt s j hl, fr_TC, Option.bind_some, hw, fr_allT s hs d k (j + 1) (by omega) (by omega), List.drop_eq_getElem_cons hl, List.all_cons]
    cases fr_TP s.data.toList[j] <;> rfl
theorem fr_allT0 (s : ByteArray) (hs : s.size ≤ 100000) (k : Nat) (hk : s.size < k) : fact_all_at_fact_printable.f k s = some (s.data.toList.all fr_TP) := by
  have := fr_allT s hs s.size k 0 (by omega) hk
  rw [List.drop_zero] at this
  exact this
theorem fr_allS (s : ByteArray) (hs : s.size ≤ 100000) : ∀ (d k j : Nat), j + d = s.size → d < k →
    fact_all_at_fact_isSource_1.l0 k s (s.size : Int) (j : Int) = some ((s.data.toList.drop j).all fr_SP)
  | 0, k, j, hj, hk => by
    obtain ⟨k, rfl⟩ : ∃ i, k = i + 1 := ⟨k - 1, by omega⟩
    rw [fact_all_at_fact_isSource_1.l0, if_neg (by omega), List.drop_eq_nil_of_le (by rw [Array.length_toList]; show s.size ≤ j; omega)]; rfl
  | d + 1, k, j, hj, hk => by
    obtain ⟨k, rfl⟩ : ∃ i, k = i + 1 := ⟨k - 1, by omega⟩
    have hl : j < s.data.toList.length := by rw [Array.length_toList]; show j < s.size; omega
    have hw : wrap64 ((j : Int) + 1) = ((j + 1 : Nat) : Int) := by unfold wrap64; omega
    rw [fact_all_at_fact_isSource_1.l0, if_pos (by omega), if_pos (by omega), if_pos (by omega), fr_bt s j hl, fr_SC, Option.bind_some, hw, fr_allS s hs d k (j + 1) (by omega) (by omega), List.drop_eq_getElem_cons hl, List.all_cons]
    cases fr_SP s.data.toList[j] <;> rfl
theorem fr_allS0 (s : ByteArray) (hs : s.size ≤ 100000) (k : Nat) (hk : s.size < k) : fact_all_at_fact_isSource_1.f k s = some (s.data.toList.all fr_SP) := by
  have := fr_allS s hs s.size k 0 (by omega) hk
  rw [List.drop_zero] at this
  exact this
theorem fr_empty (s : ByteArray) : (s.toList = ([] : List UInt8)) ↔ s.size = 0 := by
  rw [ByteArray.toList_eq, ← List.length_eq_zero_iff, Array.length_toList]; rfl
theorem fr_nameF (s : ByteArray) (k : Nat) (hk : 50 ≤ k) : fact_isName.f k s = some (m_name s) := by
  unfold fact_isName.f m_name
  by_cases h0 : s.size = 0
  · rw [if_pos ((fr_empty s).2 h0), decide_eq_false (show ¬ 1 ≤ s.size by omega)]; rfl
  · rw [if_neg (fun h => h0 ((fr_empty s).1 h)), decide_eq_true (show 1 ≤ s.size by omega)]
    by_cases h1 : s.size ≤ 20
    · rw [if_pos (by omega), fr_allN0 s (by omega) k (by omega), decide_eq_true h1]; rfl
    · rw [if_neg (by omega), decide_eq_false h1]; rfl
theorem fr_textF (s : ByteArray) (k : Nat) (hk : 500 ≤ k) : fact_isText.f k s = some (m_ftext s) := by
  unfold fact_isText.f m_ftext m_text
  by_cases h0 : s.size = 0
  · rw [if_pos ((fr_empty s).2 h0), decide_eq_false (show ¬ s.size ≠ 0 by omega)]; rfl
  · rw [if_neg (fun h => h0 ((fr_empty s).1 h)), decide_eq_true (show s.size ≠ 0 by omega)]
    by_cases h1 : s.size ≤ 300
    · rw [if_pos (by omega), fr_allT0 s (by omega) k (by omega), decide_eq_true h1]; rfl
    · rw [if_neg (by omega), decide_eq_false h1]; rfl
theorem fr_sourceF (s : ByteArray) (k : Nat) (hk : 1500 ≤ k) : fact_isSource.f k s = some (m_fsource s) := by
  unfold fact_isSource.f m_fsource
  by_cases h1 : s.size ≤ 1000
  · rw [if_pos (by omega), fr_allS0 s (by omega) k (by omega), decide_eq_true h1]; rfl
  · rw [if_neg (by omega), decide_eq_false h1]; rfl
theorem fr_rd (l : List ByteArray) (x : Nat) (h : x < l.length) : rdOf ByteArray.empty l (x : Int) = l[x] := by
  simp [rdOf, List.getD_eq_getElem?_getD, h]
theorem fr_topGo (l : List ByteArray) (hl : l.length ≤ 9223372036854775807) : ∀ (d k x : Nat), x + 1 + d = l.length → d + 100 < k →
    fact_areTopics.l0 k l l (l.length : Int) ((x + 1 : Nat) : Int) = some ((l.drop (x + 1)).all m_name && m_tasc (l.drop x) && decide (l.length ≤ 4))
  | 0, k, x, hx, hk => by
    obtain ⟨k, rfl⟩ : ∃ j, k = j + 1 := ⟨k - 1, by omega⟩
    rw [fact_areTopics.l0, if_neg (by omega), List.drop_eq_getElem_cons (show x < l.length by omega), List.drop_eq_nil_of_le (show l.length ≤ x + 1 by omega)]
    exact congrArg some (decide_eq_decide.2 (by omega))
  | d + 1, k, x, hx, hk => by
    obtain ⟨k, rfl⟩ : ∃ j, k = j + 1 := ⟨k - 1, by omega⟩
    have hlt : x < l.length := by omega
    have hlt2 : x + 1 < l.length := by omega
    have hw : wrap64 (((x + 1 : Nat) : Int) + 1) = ((x + 1 + 1 : Nat) : Int) := by unfold wrap64; omega
    have hv : wrap64 (((x + 1 : Nat) : Int) - 1) = (x : Int) := by unfold wrap64; omega
    rw [fact_areTopics.l0, if_pos (by omega), if_pos (by omega), if_pos (by omega), fr_rd l (x + 1) hlt2, fr_nameF _ k (by omega), Option.bind_some, if_pos (show ((x + 1 : Nat) : Int) > 0 by omega), hv, if_pos (show (0 : Int) ≤ (x : Int) by omega), if_pos (show (x : Int) < (l.length : Int) by omega), fr_rd l x hlt, hw, fr_topGo l hl d k (x + 1) (by omega) (by omega),
      List.drop_eq_getElem_cons hlt, List.drop_eq_getElem_cons hlt2, m_tasc, List.all_cons]
    cases h1 : m_name l[x + 1] with
    | false => rw [if_neg (by simp)]; rfl
    | true =>
      rw [if_pos rfl]
      by_cases h2 : Op.bytesLess l[x].toList l[x + 1].toList = true
      · rw [if_pos h2, h2]; simp
      · rw [if_neg h2, Bool.eq_false_iff.2 h2]; simp
theorem fr_topicsF (l : List ByteArray) (hl : l.length ≤ 9223372036854775807) (k : Nat) (hk : l.length + 200 ≤ k) : fact_areTopics.f k l = some (m_topics l) := by
  unfold fact_areTopics.f m_topics
  rcases Nat.eq_zero_or_pos l.length with h | h
  · obtain ⟨k, rfl⟩ : ∃ j, k = j + 1 := ⟨k - 1, by omega⟩
    rw [fact_areTopics.l0, if_neg (by omega), List.eq_nil_of_length_eq_zero h]; rfl
  · obtain ⟨k, rfl⟩ : ∃ j, k = j + 1 := ⟨k - 1, by omega⟩
    have := fr_topGo l hl (l.length - 1) k 0 (by omega) (by omega)
    rw [fact_areTopics.l0, if_pos (by omega), if_pos (by omega), if_pos (by omega), show (0 : Int) = ((0 : Nat) : Int) from rfl, fr_rd l 0 h, fr_nameF _ k (by omega), Option.bind_some, if_neg (show ¬ ((0 : Nat) : Int) > ((0 : Nat) : Int) by omega), show wrap64 (((0 : Nat) : Int) + 1) = ((0 + 1 : Nat) : Int) from by unfold wrap64; omega, this]
    rw [List.drop_zero, Bool.and_assoc, Bool.and_comm (decide _)]
    have e : l = l[0] :: l.drop 1 := by
      have := List.drop_eq_getElem_cons h
      rw [List.drop_zero] at this
      exact this
    have e2 : l.all m_name = (m_name l[0] && (l.drop 1).all m_name) := by
      conv => lhs; rw [e]
      rfl
    rw [e2]
    cases m_name l[0] with
    | false => rw [if_neg (by simp)]; rfl
    | true => rw [if_pos rfl]; simp only [Bool.true_and, List.drop_zero, Nat.zero_add, Bool.and_assoc]; rw [Bool.and_comm (m_tasc l)]
theorem fr_name (s : ByteArray) (w : World) : Calls Tryz.prog 46 #[.string s] w fun e w' => e = .returned (.bool (m_name s)) ∧ Drawn0 w w' := fact_isName.calls 50 s _ w (fr_nameF s 50 (by omega))
theorem fr_text (s : ByteArray) (w : World) : Calls Tryz.prog 47 #[.string s] w fun e w' => e = .returned (.bool (m_ftext s)) ∧ Drawn0 w w' := fact_isText.calls 500 s _ w (fr_textF s 500 (by omega))
theorem fr_source (s : ByteArray) (w : World) : Calls Tryz.prog 50 #[.string s] w fun e w' => e = .returned (.bool (m_fsource s)) ∧ Drawn0 w w' := fact_isSource.calls 1500 s _ w (fr_sourceF s 1500 (by omega))
theorem fr_topics (l : List ByteArray) (A : Option Addr) (c : Nat) (w : World) (hr : Kd.C Kd.string w A l.length l) (hc : l.length ≤ c) : Calls Tryz.prog 48 #[.slice A l.length c] w fun e w' => e = .returned (.bool (m_topics l)) ∧ Drawn0 w w' :=
  fact_areTopics.calls (l.length + 200) A c l _ w hr hc (fr_topicsF l (Kd.C_max hr) _ (Nat.le_refl _))
theorem fr_within (a lo hi : Int) (w : World) : Calls Tryz.prog 31 #[.int .i64 a, .int .i64 lo, .int .i64 hi] w fun e w' => e = .returned (.bool (m_in a lo hi)) ∧ Drawn0 w w' :=
  fact_within.calls a lo hi _ w (by
    unfold fact_within.f m_in
    by_cases h : a ≥ lo
    · rw [if_pos h, decide_eq_true (show lo ≤ a from h)]; rfl
    · rw [if_neg h, decide_eq_false (show ¬ lo ≤ a from h)]; rfl)
theorem fr_label (l : Lb) (A : Option Addr) (c : Nat) (w : World) (hr : (Kd.int .i64).C w A l.f1.length l.f1) (hc : l.f1.length ≤ c) : Calls Tryz.prog 49 #[.agg #[.int .i64 l.f0, .slice A l.f1.length c, .int .i64 l.f2, .int .i64 l.f3]] w fun e w' => e = .returned (.bool (m_lab l)) ∧ Below w.heap.size w w' :=
  label_Valid.calls (l.f1.length + 2) l.f0 A c l.f1 l.f2 l.f3 _ w hr hc (pl_label l.f0 l.f1 l.f2 l.f3 (Kd.C_max hr))
def m_kindR (k : Int) : Bool := decide (1 ≤ k) && decide (k ≤ 10)
end Go.Proofs.YtkhgdglaophkbaaGreatDoor.PK
end
section
set_option linter.unusedVariables false
set_option linter.unusedSimpArgs false
namespace Go.Proofs.YtkhgdglaophkbaaGreatDoor.PK
open Go.RowKit Go.Proofs.YtkhgdglaophkbaaGreatDoorW.PrintWords Go.Proofs.YtkhgdglaophkbaaGreatDoorW.PrintLast Go.Proofs.YtkhgdglaophkbaaGreatDoorW.PrintMore
set_option maxHeartbeats 8000000 in
set_option maxRecDepth 100000 in
theorem fact_right.walk1 (f : Fa) (A9f : Option Addr) (c9f : Nat) (A10f : Option Addr) (c10f : Nat) (A12f : Option Addr) (c12f : Nat) (w : World) (hk : f.f2 = 1)
    (l9 : f.f9.length ≤ c9f) (h9 : Kd.string.C w A9f f.f9.length f.f9) (l10 : f.f10.length ≤ c10f) (h10 : k49.C w A10f f.f10.length f.f10) (l12 : f.f11.f1.length ≤ c12f) (h12 : (Kd.int .i64).C w A12f f.f11.f1.length f.f11.f1) :
    Calls Tryz.prog 30 #[.agg #[.int .i64 f.f0, .int .i64 f.f1, .int .i64 f.f2, .int .i64 f.f3, .string f.f4, .int .i64 f.f5, .int .i64 f.f6, .string f.f7, .string f.f8, .slice A9f f.f9.length c9f, .slice A10f f.f10.length c10f, .int .i64 f.f11.f0, .slice A12f f.f11.f1.length c12f, .int .i64 f.f11.f2, .int .i64 f.f11.f3, .int .i64 f.f12, .int .i64 f.f13, .int .i64 f.f14, .string f.f15, .string f.f16, .int .i64 f.f17, .int .i64 f.f18, .int .i64 f.f19]] w fun e w' => ∃ cs, e = .returned (.tuple #[.bool (m_used f), .agg cs]) ∧ faK w' (m_rest f) cs ∧ Below w.heap.size w w' := by
  have H9 := Aside0.mk h9
  have H10 := Aside0.mk h10
  have H12 := Aside0.mk h12
  have HK := Aside0.mk hk
  clear h9 h10 h12 hk
  go_enter Tryz.func30, Tryz.ntmps30
  go_wp2_with (with_reducible refine is_box rfl ?_; refine Rg.stop_here ?_)
  refine ⟨?_⟩
  refine box_event rfl (N := 1) rfl (cs := #[.int .i64 f.f0, .int .i64 f.f1, .int .i64 f.f2, .int .i64 f.f3, .string f.f4, .int .i64 f.f5, .int .i64 f.f6, .string f.f7, .string f.f8, .slice A9f f.f9.length c9f, .slice A10f f.f10.length c10f, .int .i64 f.f11.f0, .slice A12f f.f11.f1.length c12f, .int .i64 f.f11.f2, .int .i64 f.f11.f3, .int .i64 f.f12, .int .i64 f.f13, .int .i64 f.f14, .string f.f15, .string f.f16, .int .i64 f.f17, .int .i64 f.f18, .int .i64 f.f19]) (t := 28) (by first | (go_simp; done) | (go_simp; rfl)) ?_
  intro p1 hp1 w1 hbx1 hb1
  have hg1 : w.heap.size ≤ p1 := Nat.le_of_eq hp1.symm
  have HX1 := Aside0.mk hbx1
  have HB1 := Aside0.mk hb1
  clear hp1 hb1 hbx1
  go_wp2_with (with_reducible refine is_alloc rfl ?_; refine Rg.stop_here ?_)
  refine ⟨?_⟩
  refine box_event rfl (N := 3) rfl (cs := #[.int .i64 0, .int .i64 0, .int .i64 0, .int .i64 0, .string (⟨#[]⟩ : ByteArray), .int .i64 0, .int .i64 0, .string (⟨#[]⟩ : ByteArray), .string (⟨#[]⟩ : ByteArray), .slice none 0 0, .slice none 0 0, .int .i64 0, .slice none 0 0, .int .i64 0, .int .i64 0, .int .i64 0, .int .i64 0, .int .i64 0, .string (⟨#[]⟩ : ByteArray), .string (⟨#[]⟩ : ByteArray), .int .i64 0, .int .i64 0, .int .i64 0]) (t := 28) (by first | (go_simp; done) | (go_simp; rfl)) ?_
  intro p3 hp3 w2 hbx3 hb3
  have hl1 := blk_lt HX1.out
  have h13 : p1 ≠ p3 := by omega
  have hg3 : w.heap.size ≤ p3 := by have := HB1.out.size; omega
  have HX1 := Aside0.mk (bk_heap_below HX1.out hb3)
  have HX3 := Aside0.mk hbx3
  have HB2 := Aside0.mk (below_step HB1.out hb3)
  clear hp3 hbx3 hb3 hl1 HB1
  go_wp2_with (with_reducible refine is_loadF rfl ?_; refine Rg.stop_here ?_)
  refine ⟨?_⟩
  refine wpList_load_row rfl 28 _ rfl p1 rfl _ _ _ _ HX1.out Tryz.underlying28 rfl fa_size ?_
  go_wp2_with (with_reducible refine is_alloc rfl ?_; refine Rg.stop_here ?_)
  refine ⟨?_⟩
  refine box_event rfl (N := 4) rfl (cs := #[.int .i64 0, .int .i64 0, .int .i64 0, .int .i64 0, .string (⟨#[]⟩ : ByteArray), .int .i64 0, .int .i64 0, .string (⟨#[]⟩ : ByteArray), .string (⟨#[]⟩ : ByteArray), .slice none 0 0, .slice none 0 0, .int .i64 0, .slice none 0 0, .int .i64 0, .int .i64 0, .int .i64 0, .int .i64 0, .int .i64 0, .string (⟨#[]⟩ : ByteArray), .string (⟨#[]⟩ : ByteArray), .int .i64 0, .int .i64 0, .int .i64 0]) (t := 28) (by first | (go_simp; done) | (go_simp; rfl)) ?_
  intro p4 hp4 w3 hbx4 hb4
  have hl1 := blk_lt HX1.out
  have hl3 := blk_lt HX3.out
  have h14 : p1 ≠ p4 := by omega
  have h34 : p3 ≠ p4 := by omega
  have hg4 : w.heap.size ≤ p4 := by have := HB2.out.size; omega
  have HX1 := Aside0.mk (bk_heap_below HX1.out hb4)
  have HX3 := Aside0.mk (bk_heap_below HX3.out hb4)
  have HB3 := Aside0.mk (below_step HB2.out hb4)
  clear hp4 hb4 hl1 hl3 HB2
  go_wp2_with (with_reducible refine is_store rfl ?_; refine Rg.stop_here ?_)
  refine ⟨?_⟩
  refine wpList_store_box rfl rfl _ _ _ rfl p4 _ _ _ rfl rfl hbx4 fa_size rfl (by repeat (first | exact List.forall_mem_nil _ | refine List.forall_mem_cons.2 ⟨rfl, ?_⟩)) ?_
  intro w4 hx4 hst hot
  have HX4 := Aside0.mk hx4
  have HX1 := Aside0.mk ((hot p1 h14).trans HX1.out)
  have HX3 := Aside0.mk ((hot p3 h34).trans HX3.out)
  have HB := Aside0.mk (show Below w.heap.size w w4 from ⟨(hst p4 (Nat.le_refl _)).os.trans HB3.out.os, (hst p4 (Nat.le_refl _)).tape.trans HB3.out.tape, (hst p4 (Nat.le_refl _)).output.trans HB3.out.output, Nat.le_trans HB3.out.size (hst p4 (Nat.le_refl _)).size, fun k hk => (hot k (by omega)).trans (HB3.out.block k hk)⟩)
  clear hbx4 hx4 hst hot HB3
  have c3 := bk_cell HX1.out 3
  have c20 := bk_cell HX1.out 20
  have c22 := bk_cell HX1.out 22
  go_upto_region 3 with (first | (go_at_call 31; (with_reducible refine (fr_within f.f3 1 64 _).mono ?_); rintro e wa ⟨rfl, hd⟩; obtain ⟨m, rfl⟩ := fr_drawn hd))
  go_cut [6] from 12 to 19 (fun v6 wx => v6 = .bool (m_in f.f17 1 8 && m_in f.f19 0 1000000000) ∧ ∃ nq, wx = w4.drewN nq)
  case first =>
    have HF := Aside0.mk (fr_within f.f17 1 8)
    cases hB : m_in f.f17 1 8 with
    | false =>
      rw [hB] at HF
      have HBB := Aside0.mk hB
      clear hB
      go_wp2_with (go_at_call 31; (with_reducible refine (HF.out _).mono ?_); rintro e wb ⟨rfl, hd2⟩; obtain ⟨m2, rfl⟩ := fr_drawn hd2)
      go_meet
      exact ⟨by rw [HBB.out]; rfl, _, by first | rfl | exact (World.drewN_drewN _ _ _)⟩
    | true =>
      rw [hB] at HF
      have HBB := Aside0.mk hB
      clear hB
      go_wp2_with (first | (go_at_call 31; (with_reducible refine (HF.out _).mono ?_); rintro e wb ⟨rfl, hd2⟩; obtain ⟨m2, rfl⟩ := fr_drawn hd2) | (go_at_call 31; (with_reducible refine (fr_within f.f19 0 1000000000 _).mono ?_); rintro e wc ⟨rfl, hd3⟩; obtain ⟨m3, rfl⟩ := fr_drawn hd3))
      go_meet
      exact ⟨by rw [HBB.out]; rfl, _, by first | rfl | exact (World.drewN_drewN _ _ _)⟩
  case rest =>
  obtain ⟨rfl, nq, rfl⟩ := hcut
  clear c3 c20 c22
  obtain ⟨w5, hw5⟩ : ∃ w5, w4.drewN nq = w5 := ⟨_, rfl⟩
  have HX1 : Aside0 (w5.heap[p1]? = some (.cells #[.int .i64 f.f0, .int .i64 f.f1, .int .i64 f.f2, .int .i64 f.f3, .string f.f4, .int .i64 f.f5, .int .i64 f.f6, .string f.f7, .string f.f8, .slice A9f f.f9.length c9f, .slice A10f f.f10.length c10f, .int .i64 f.f11.f0, .slice A12f f.f11.f1.length c12f, .int .i64 f.f11.f2, .int .i64 f.f11.f3, .int .i64 f.f12, .int .i64 f.f13, .int .i64 f.f14, .string f.f15, .string f.f16, .int .i64 f.f17, .int .i64 f.f18, .int .i64 f.f19] 28 (0, 0))) := ⟨by rw [← hw5]; exact HX1.out⟩
  have HX3 : Aside0 (w5.heap[p3]? = some (.cells #[.int .i64 0, .int .i64 0, .int .i64 0, .int .i64 0, .string (⟨#[]⟩ : ByteArray), .int .i64 0, .int .i64 0, .string (⟨#[]⟩ : ByteArray), .string (⟨#[]⟩ : ByteArray), .slice none 0 0, .slice none 0 0, .int .i64 0, .slice none 0 0, .int .i64 0, .int .i64 0, .int .i64 0, .int .i64 0, .int .i64 0, .string (⟨#[]⟩ : ByteArray), .string (⟨#[]⟩ : ByteArray), .int .i64 0, .int .i64 0, .int .i64 0] 28 (0, 0))) := ⟨by rw [← hw5]; exact HX3.out⟩
  have HX4 : Aside0 (w5.heap[p4]? = some (.cells #[.int .i64 f.f0, .int .i64 f.f1, .int .i64 f.f2, .int .i64 f.f3, .string f.f4, .int .i64 f.f5, .int .i64 f.f6, .string f.f7, .string f.f8, .slice A9f f.f9.length c9f, .slice A10f f.f10.length c10f, .int .i64 f.f11.f0, .slice A12f f.f11.f1.length c12f, .int .i64 f.f11.f2, .int .i64 f.f11.f3, .int .i64 f.f12, .int .i64 f.f13, .int .i64 f.f14, .string f.f15, .string f.f16, .int .i64 f.f17, .int .i64 f.f18, .int .i64 f.f19] 28 (0, 0))) := ⟨by rw [← hw5]; exact HX4.out⟩
  have HB := Aside0.mk (show Below w.heap.size w w5 by rw [← hw5]; exact pw_below_drewN HB.out nq)
  rw [hw5]
  clear hw5
  have hk := HK.out
  · have HKD := Aside0.mk hk
    have e1 : (f.f2 == 1) = true := by rw [hk]; rfl
    clear hk
    have c2 := bk_cell HX1.out 2
    have d3 := bk_cell HX4.out 3
    have z3 := bk_frozen HX4.out 3
    have d4 := bk_cell HX4.out 4
    have z4 := bk_frozen HX4.out 4
    have d5 := bk_cell HX4.out 5
    have z5 := bk_frozen HX4.out 5
    have d6 := bk_cell HX4.out 6
    have z6 := bk_frozen HX4.out 6
    have d7 := bk_cell HX4.out 7
    have z7 := bk_frozen HX4.out 7
    have d8 := bk_cell HX4.out 8
    have z8 := bk_frozen HX4.out 8
    have d9 := bk_cell HX4.out 9
    have z9 := bk_frozen HX4.out 9
    have d10 := bk_cell HX4.out 10
    have z10 := bk_frozen HX4.out 10
    have d11 := bk_cell HX4.out 11
    have z11 := bk_frozen HX4.out 11
    have d12 := bk_cell HX4.out 12
    have z12 := bk_frozen HX4.out 12
    have d13 := bk_cell HX4.out 13
    have z13 := bk_frozen HX4.out 13
    have d14 := bk_cell HX4.out 14
    have z14 := bk_frozen HX4.out 14
    go_upto_region 6 with fail
    go_cut [] from 24 to 33 (fun wx => wx.heap[p4]? = some (.cells #[.int .i64 f.f0, .int .i64 f.f1, .int .i64 f.f2, .int .i64 0, .string (⟨#[]⟩ : ByteArray), .int .i64 0, .int .i64 0, .string (⟨#[]⟩ : ByteArray), .string (⟨#[]⟩ : ByteArray), .slice none 0 0, .slice none 0 0, .int .i64 0, .slice none 0 0, .int .i64 0, .int .i64 0, .int .i64 f.f12, .int .i64 f.f13, .int .i64 f.f14, .string f.f15, .string f.f16, .int .i64 f.f17, .int .i64 f.f18, .int .i64 f.f19] 28 (0, 0)) ∧ wx.heap[p1]? = some (.cells #[.int .i64 f.f0, .int .i64 f.f1, .int .i64 f.f2, .int .i64 f.f3, .string f.f4, .int .i64 f.f5, .int .i64 f.f6, .string f.f7, .string f.f8, .slice A9f f.f9.length c9f, .slice A10f f.f10.length c10f, .int .i64 f.f11.f0, .slice A12f f.f11.f1.length c12f, .int .i64 f.f11.f2, .int .i64 f.f11.f3, .int .i64 f.f12, .int .i64 f.f13, .int .i64 f.f14, .string f.f15, .string f.f16, .int .i64 f.f17, .int .i64 f.f18, .int .i64 f.f19] 28 (0, 0)) ∧ wx.heap[p3]? = some (.cells #[.int .i64 0, .int .i64 0, .int .i64 0, .int .i64 0, .string (⟨#[]⟩ : ByteArray), .int .i64 0, .int .i64 0, .string (⟨#[]⟩ : ByteArray), .string (⟨#[]⟩ : ByteArray), .slice none 0 0, .slice none 0 0, .int .i64 0, .slice none 0 0, .int .i64 0, .int .i64 0, .int .i64 0, .int .i64 0, .int .i64 0, .string (⟨#[]⟩ : ByteArray), .string (⟨#[]⟩ : ByteArray), .int .i64 0, .int .i64 0, .int .i64 0] 28 (0, 0)) ∧ Below w.heap.size w wx)
    case first =>
      go_wp2_with fail
      go_meet
      have g0_ := HX4.out
      have g1_ := blk_set g0_ 3 (.int .i64 0)
      simp only [List.setIfInBounds_toArray, List.set_cons_zero, List.set_cons_succ] at g1_
      clear g0_
      have g2_ := blk_set g1_ 4 (.string ⟨#[]⟩)
      simp only [List.setIfInBounds_toArray, List.set_cons_zero, List.set_cons_succ] at g2_
      clear g1_
      have g3_ := blk_set g2_ 5 (.int .i64 0)
      simp only [List.setIfInBounds_toArray, List.set_cons_zero, List.set_cons_succ] at g3_
      clear g2_
      have g4_ := blk_set g3_ 6 (.int .i64 0)
      simp only [List.setIfInBounds_toArray, List.set_cons_zero, List.set_cons_succ] at g4_
      clear g3_
      have g5_ := blk_set g4_ 7 (.string ⟨#[]⟩)
      simp only [List.setIfInBounds_toArray, List.set_cons_zero, List.set_cons_succ] at g5_
      clear g4_
      have g6_ := blk_set g5_ 8 (.string ⟨#[]⟩)
      simp only [List.setIfInBounds_toArray, List.set_cons_zero, List.set_cons_succ] at g6_
      clear g5_
      have g7_ := blk_set g6_ 9 (.slice none 0 0)
      simp only [List.setIfInBounds_toArray, List.set_cons_zero, List.set_cons_succ] at g7_
      clear g6_
      have g8_ := blk_set g7_ 10 (.slice none 0 0)
      simp only [List.setIfInBounds_toArray, List.set_cons_zero, List.set_cons_succ] at g8_
      clear g7_
      have g9_ := blk_set g8_ 11 (.int .i64 0)
      simp only [List.setIfInBounds_toArray, List.set_cons_zero, List.set_cons_succ] at g9_
      clear g8_
      have g10_ := blk_set g9_ 12 (.slice none 0 0)
      simp only [List.setIfInBounds_toArray, List.set_cons_zero, List.set_cons_succ] at g10_
      clear g9_
      have g11_ := blk_set g10_ 13 (.int .i64 0)
      simp only [List.setIfInBounds_toArray, List.set_cons_zero, List.set_cons_succ] at g11_
      clear g10_
      have g12_ := blk_set g11_ 14 (.int .i64 0)
      simp only [List.setIfInBounds_toArray, List.set_cons_zero, List.set_cons_succ] at g12_
      clear g11_
      exact ⟨g12_, ((Below.heap_setCell _ _ _ _ h14).trans ((Below.heap_setCell _ _ _ _ h14).trans ((Below.heap_setCell _ _ _ _ h14).trans ((Below.heap_setCell _ _ _ _ h14).trans ((Below.heap_setCell _ _ _ _ h14).trans ((Below.heap_setCell _ _ _ _ h14).trans ((Below.heap_setCell _ _ _ _ h14).trans ((Below.heap_setCell _ _ _ _ h14).trans ((Below.heap_setCell _ _ _ _ h14).trans ((Below.heap_setCell _ _ _ _ h14).trans ((Below.heap_setCell _ _ _ _ h14).trans ((Below.heap_setCell _ _ _ _ h14).trans HX1.out)))))))))))), ((Below.heap_setCell _ _ _ _ h34).trans ((Below.heap_setCell _ _ _ _ h34).trans ((Below.heap_setCell _ _ _ _ h34).trans ((Below.heap_setCell _ _ _ _ h34).trans ((Below.heap_setCell _ _ _ _ h34).trans ((Below.heap_setCell _ _ _ _ h34).trans ((Below.heap_setCell _ _ _ _ h34).trans ((Below.heap_setCell _ _ _ _ h34).trans ((Below.heap_setCell _ _ _ _ h34).trans ((Below.heap_setCell _ _ _ _ h34).trans ((Below.heap_setCell _ _ _ _ h34).trans ((Below.heap_setCell _ _ _ _ h34).trans HX3.out)))))))))))), (Below.setCell (Below.setCell (Below.setCell (Below.setCell (Below.setCell (Below.setCell (Below.setCell (Below.setCell (Below.setCell (Below.setCell (Below.setCell (Below.setCell HB.out hg4 _) hg4 _) hg4 _) hg4 _) hg4 _) hg4 _) hg4 _) hg4 _) hg4 _) hg4 _) hg4 _) hg4 _)⟩
    case rest =>
    obtain ⟨hx4, hx1, hx3, hB⟩ := hcut
    have HX1 := Aside0.mk hx1
    have HB := Aside0.mk hB
    clear hx1 hB d3 z3 d4 z4 d5 z5 d6 z6 d7 z7 d8 z8 d9 z9 d10 z10 d11 z11 d12 z12 d13 z13 d14 z14 c2 e1
    obtain ⟨w6, hw6⟩ : ∃ w6, wc = w6 := ⟨_, rfl⟩
    rw [hw6] at HX1 HB hx4 hx3 ⊢
    clear hw6
    have HX3 := Aside0.mk hx3
    have HX4 := Aside0.mk hx4
    clear hx3 hx4
    have c5 := bk_cell HX1.out 5
    have c6 := bk_cell HX1.out 6
    go_upto_region 7 with fail
    obtain ⟨s0, hs0⟩ : ∃ s0, m_in f.f3 1 64 = s0 := ⟨_, rfl⟩
    rw [hs0]
    have HS0 := Aside0.mk hs0
    clear hs0
    go_cut [7] from 34 to 47 (fun v7 wx => v7 = .bool (s0 && m_in f.f5 1 100 && m_in f.f6 0 (f.f5 - 1)) ∧ ∃ nq, wx = w6.drewN nq)
    case first =>
      cases s0 with
      | false =>
        go_wp2_with fail
        go_meet
        exact ⟨by simp, 0, rfl⟩
      | true =>
        have HF := Aside0.mk (fr_within f.f5 1 100)
        cases hB : m_in f.f5 1 100 with
        | false =>
          rw [hB] at HF
          have HBB := Aside0.mk hB
          clear hB
          go_wp2_with (go_at_call 31; (with_reducible refine (HF.out _).mono ?_); rintro e wb ⟨rfl, hd2⟩; obtain ⟨m2, rfl⟩ := fr_drawn hd2)
          go_meet
          exact ⟨by simp [HBB.out], _, by first | rfl | exact (World.drewN_drewN _ _ _)⟩
        | true =>
          rw [hB] at HF
          have HBB := Aside0.mk hB
          obtain ⟨hb5, hb6⟩ : 1 ≤ f.f5 ∧ f.f5 ≤ 100 := by simpa [m_in] using hB
          clear hB
          go_wp2_with (first | (go_at_call 31; (with_reducible refine (HF.out _).mono ?_); rintro e wb ⟨rfl, hd2⟩; obtain ⟨m2, rfl⟩ := fr_drawn hd2) | (go_at_call 31; (with_reducible refine (fr_within f.f6 0 (f.f5 - 1) _).mono ?_); rintro e wc ⟨rfl, hd3⟩; obtain ⟨m3, rfl⟩ := fr_drawn hd3))
          go_meet
          exact ⟨by simp [HBB.out], _, by first | rfl | exact (World.drewN_drewN _ _ _)⟩
    case rest =>
    obtain ⟨rfl, nq, rfl⟩ := hcut
    obtain rfl := HS0.out
    clear c5 c6
    obtain ⟨w7, hw7⟩ : ∃ w7, w6.drewN nq = w7 := ⟨_, rfl⟩
    have HX1 : Aside0 (w7.heap[p1]? = some (.cells #[.int .i64 f.f0, .int .i64 f.f1, .int .i64 f.f2, .int .i64 f.f3, .string f.f4, .int .i64 f.f5, .int .i64 f.f6, .string f.f7, .string f.f8, .slice A9f f.f9.length c9f, .slice A10f f.f10.length c10f, .int .i64 f.f11.f0, .slice A12f f.f11.f1.length c12f, .int .i64 f.f11.f2, .int .i64 f.f11.f3, .int .i64 f.f12, .int .i64 f.f13, .int .i64 f.f14, .string f.f15, .string f.f16, .int .i64 f.f17, .int .i64 f.f18, .int .i64 f.f19] 28 (0, 0))) := ⟨by rw [← hw7]; exact HX1.out⟩
    have hx3 : w7.heap[p3]? = some (.cells #[.int .i64 0, .int .i64 0, .int .i64 0, .int .i64 0, .string (⟨#[]⟩ : ByteArray), .int .i64 0, .int .i64 0, .string (⟨#[]⟩ : ByteArray), .string (⟨#[]⟩ : ByteArray), .slice none 0 0, .slice none 0 0, .int .i64 0, .slice none 0 0, .int .i64 0, .int .i64 0, .int .i64 0, .int .i64 0, .int .i64 0, .string (⟨#[]⟩ : ByteArray), .string (⟨#[]⟩ : ByteArray), .int .i64 0, .int .i64 0, .int .i64 0] 28 (0, 0)) := by rw [← hw7]; exact HX3.out
    have hx4 : w7.heap[p4]? = some (.cells #[.int .i64 f.f0, .int .i64 f.f1, .int .i64 f.f2, .int .i64 0, .string (⟨#[]⟩ : ByteArray), .int .i64 0, .int .i64 0, .string (⟨#[]⟩ : ByteArray), .string (⟨#[]⟩ : ByteArray), .slice none 0 0, .slice none 0 0, .int .i64 0, .slice none 0 0, .int .i64 0, .int .i64 0, .int .i64 f.f12, .int .i64 f.f13, .int .i64 f.f14, .string f.f15, .string f.f16, .int .i64 f.f17, .int .i64 f.f18, .int .i64 f.f19] 28 (0, 0)) := by rw [← hw7]; exact HX4.out
    have HB := Aside0.mk (show Below w.heap.size w w7 by rw [← hw7]; exact pw_below_drewN HB.out nq)
    rw [hw7]
    clear hw7
    have c4 := bk_cell HX1.out 4
    have c7 := bk_cell HX1.out 7
    have c8 := bk_cell HX1.out 8
    have c9 := bk_cell HX1.out 9
    have c10 := bk_cell HX1.out 10
    have c11 := bk_cell HX1.out 11
    have c12 := bk_cell HX1.out 12
    have c13 := bk_cell HX1.out 13
    have c14 := bk_cell HX1.out 14
    go_wp2_with fail
    refine rg_start [33] (by kernel_rfl) rfl ?_
    refine rg_pure (N := some 48) 0 (v := _) rfl rfl (by kernel_rfl) (fun _ _ _ h => h) rfl (fun w' => by go_simp <;> with_reducible rfl) (by dsimp only [Act.put, List.setIfInBounds_toArray, List.set_cons_zero, List.set_cons_succ, ↓reduceIte]) ?_
    refine rg_pure (N := some 49) 1 (v := _) rfl rfl (by kernel_rfl) (fun _ _ _ h => h) rfl (fun w' => by go_simp <;> with_reducible rfl) (by dsimp only [Act.put, List.setIfInBounds_toArray, List.set_cons_zero, List.set_cons_succ, ↓reduceIte]) ?_
    refine rg_pureG (N := some 50) 2 ((m_in f.f3 1 64 && m_in f.f5 1 100 && m_in f.f6 0 (f.f5 - 1))) (_) rfl rfl (by kernel_rfl) (fun _ _ _ h => h) (rg_wantT rfl (by kernel_rfl)) (fun hb_ w' => by go_simp <;> with_reducible rfl) (by dsimp only [Act.put, List.setIfInBounds_toArray, List.set_cons_zero, List.set_cons_succ, ↓reduceIte]) ?_
    refine rg_loadG (N := some 51) 3 ((m_in f.f3 1 64 && m_in f.f5 1 100 && m_in f.f6 0 (f.f5 - 1))) _ rfl rfl (by kernel_rfl) (fun _ _ _ h => h) (rg_wantT rfl (by kernel_rfl)) (below_drew1 (Below.refl _ _)) (fun hb_ w' hS' => by have c_ := rg_get hS' c4; go_simp <;> with_reducible rfl) (by dsimp only [Act.put, List.setIfInBounds_toArray, List.set_cons_zero, List.set_cons_succ, ↓reduceIte]) ?_
    refine rg_load (N := some 79) 31 rfl rfl (by kernel_rfl) (fun _ _ _ h => h) rfl (below_drew1 (Below.refl _ _)) (fun w' hS' => rg_runRow _ _ rfl p4 (by kernel_rfl) _ _ _ _ (rg_blk hS' hx4) Tryz.underlying28 rfl fa_size) (by dsimp only [Act.put, List.setIfInBounds_toArray, List.set_cons_zero, List.set_cons_succ, ↓reduceIte]) ?_
    refine rg_call (N := some 52) 4 ((m_in f.f3 1 64 && m_in f.f5 1 100 && m_in f.f6 0 (f.f5 - 1))) (.bool (m_name f.f4)) #[.string f.f4] rfl rfl (by kernel_rfl) (by decide) (rg_wantT rfl (by kernel_rfl)) Tryz.func46 (by kernel_rfl) rfl rfl (fun hb_ => rg_args1 (by go_simp)) (below_drew1 (Below.refl _ _)) (fun hb_ w1 h1 => (fr_name f.f4 w1).mono (fun e w2 h => ⟨h.1, rg_drawn h1 h.2⟩)) (by dsimp only [Act.put, List.setIfInBounds_toArray, List.set_cons_zero, List.set_cons_succ, ↓reduceIte]) (fun wq1 hq1 => ?_)
    refine rg_pure (N := some 53) 5 (v := .bool (((m_in f.f3 1 64 && m_in f.f5 1 100 && m_in f.f6 0 (f.f5 - 1))) && ((m_name f.f4)))) rfl rfl (by kernel_rfl) (fun _ _ _ h => h) rfl (fun w' => rg_runAnd rfl (by kernel_rfl) (fun h_ => by go_simp)) (by dsimp only [Act.put, List.setIfInBounds_toArray, List.set_cons_zero, List.set_cons_succ, ↓reduceIte]) ?_
    refine rg_pure (N := some 54) 6 (v := _) rfl rfl (by kernel_rfl) (fun _ _ _ h => h) rfl (fun w' => by go_simp <;> with_reducible rfl) (by dsimp only [Act.put, List.setIfInBounds_toArray, List.set_cons_zero, List.set_cons_succ, ↓reduceIte]) ?_
    refine rg_pureG (N := some 55) 7 (((m_in f.f3 1 64 && m_in f.f5 1 100 && m_in f.f6 0 (f.f5 - 1))) && ((m_name f.f4))) (_) rfl rfl (by kernel_rfl) (fun _ _ _ h => h) (rg_wantT rfl (by kernel_rfl)) (fun hb_ w' => by go_simp <;> with_reducible rfl) (by dsimp only [Act.put, List.setIfInBounds_toArray, List.set_cons_zero, List.set_cons_succ, ↓reduceIte]) ?_
    refine rg_oneG (N := some 56) 8 (((m_in f.f3 1 64 && m_in f.f5 1 100 && m_in f.f6 0 (f.f5 - 1))) && ((m_name f.f4))) _ rfl rfl (by kernel_rfl) (by decide) (rg_wantT rfl (by kernel_rfl)) hq1 (fun hb_ w' hS' => by have c_ := rg_get hS' c7; go_simp <;> with_reducible rfl) (by dsimp only [Act.put, List.setIfInBounds_toArray, List.set_cons_zero, List.set_cons_succ, ↓reduceIte]) ?_
    refine rg_call (N := some 57) 9 (((m_in f.f3 1 64 && m_in f.f5 1 100 && m_in f.f6 0 (f.f5 - 1))) && ((m_name f.f4))) (.bool (m_ftext f.f7)) #[.string f.f7] rfl rfl (by kernel_rfl) (by decide) (rg_wantT rfl (by kernel_rfl)) Tryz.func47 (by kernel_rfl) rfl rfl (fun hb_ => rg_args1 (by go_simp)) hq1 (fun hb_ w1 h1 => (fr_text f.f7 w1).mono (fun e w2 h => ⟨h.1, rg_drawn h1 h.2⟩)) (by dsimp only [Act.put, List.setIfInBounds_toArray, List.set_cons_zero, List.set_cons_succ, ↓reduceIte]) (fun wq2 hq2 => ?_)
    refine rg_pure (N := some 58) 10 (v := .bool ((((m_in f.f3 1 64 && m_in f.f5 1 100 && m_in f.f6 0 (f.f5 - 1))) && ((m_name f.f4))) && ((m_ftext f.f7)))) rfl rfl (by kernel_rfl) (fun _ _ _ h => h) rfl (fun w' => rg_runAnd rfl (by kernel_rfl) (fun h_ => by go_simp)) (by dsimp only [Act.put, List.setIfInBounds_toArray, List.set_cons_zero, List.set_cons_succ, ↓reduceIte]) ?_
    refine rg_pure (N := some 59) 11 (v := _) rfl rfl (by kernel_rfl) (fun _ _ _ h => h) rfl (fun w' => by go_simp <;> with_reducible rfl) (by dsimp only [Act.put, List.setIfInBounds_toArray, List.set_cons_zero, List.set_cons_succ, ↓reduceIte]) ?_
    refine rg_pureG (N := some 60) 12 ((((m_in f.f3 1 64 && m_in f.f5 1 100 && m_in f.f6 0 (f.f5 - 1))) && ((m_name f.f4))) && ((m_ftext f.f7))) (_) rfl rfl (by kernel_rfl) (fun _ _ _ h => h) (rg_wantT rfl (by kernel_rfl)) (fun hb_ w' => by go_simp <;> with_reducible rfl) (by dsimp only [Act.put, List.setIfInBounds_toArray, List.set_cons_zero, List.set_cons_succ, ↓reduceIte]) ?_
    refine rg_oneG (N := some 61) 13 ((((m_in f.f3 1 64 && m_in f.f5 1 100 && m_in f.f6 0 (f.f5 - 1))) && ((m_name f.f4))) && ((m_ftext f.f7))) _ rfl rfl (by kernel_rfl) (by decide) (rg_wantT rfl (by kernel_rfl)) hq2 (fun hb_ w' hS' => by have c_ := rg_get hS' c8; go_simp <;> with_reducible rfl) (by dsimp only [Act.put, List.setIfInBounds_toArray, List.set_cons_zero, List.set_cons_succ, ↓reduceIte]) ?_
    refine rg_call (N := some 62) 14 ((((m_in f.f3 1 64 && m_in f.f5 1 100 && m_in f.f6 0 (f.f5 - 1))) && ((m_name f.f4))) && ((m_ftext f.f7))) (.bool (m_name f.f8)) #[.string f.f8] rfl rfl (by kernel_rfl) (by decide) (rg_wantT rfl (by kernel_rfl)) Tryz.func46 (by kernel_rfl) rfl rfl (fun hb_ => rg_args1 (by go_simp)) hq2 (fun hb_ w1 h1 => (fr_name f.f8 w1).mono (fun e w2 h => ⟨h.1, rg_drawn h1 h.2⟩)) (by dsimp only [Act.put, List.setIfInBounds_toArray, List.set_cons_zero, List.set_cons_succ, ↓reduceIte]) (fun wq3 hq3 => ?_)
    refine rg_pure (N := some 63) 15 (v := .bool (((((m_in f.f3 1 64 && m_in f.f5 1 100 && m_in f.f6 0 (f.f5 - 1))) && ((m_name f.f4))) && ((m_ftext f.f7))) && ((m_name f.f8)))) rfl rfl (by kernel_rfl) (fun _ _ _ h => h) rfl (fun w' => rg_runAnd rfl (by kernel_rfl) (fun h_ => by go_simp)) (by dsimp only [Act.put, List.setIfInBounds_toArray, List.set_cons_zero, List.set_cons_succ, ↓reduceIte]) ?_
    refine rg_pure (N := some 64) 16 (v := _) rfl rfl (by kernel_rfl) (fun _ _ _ h => h) rfl (fun w' => by go_simp <;> with_reducible rfl) (by dsimp only [Act.put, List.setIfInBounds_toArray, List.set_cons_zero, List.set_cons_succ, ↓reduceIte]) ?_
    refine rg_pureG (N := some 65) 17 (((((m_in f.f3 1 64 && m_in f.f5 1 100 && m_in f.f6 0 (f.f5 - 1))) && ((m_name f.f4))) && ((m_ftext f.f7))) && ((m_name f.f8))) (_) rfl rfl (by kernel_rfl) (fun _ _ _ h => h) (rg_wantT rfl (by kernel_rfl)) (fun hb_ w' => by go_simp <;> with_reducible rfl) (by dsimp only [Act.put, List.setIfInBounds_toArray, List.set_cons_zero, List.set_cons_succ, ↓reduceIte]) ?_
    refine rg_oneG (N := some 66) 18 (((((m_in f.f3 1 64 && m_in f.f5 1 100 && m_in f.f6 0 (f.f5 - 1))) && ((m_name f.f4))) && ((m_ftext f.f7))) && ((m_name f.f8))) _ rfl rfl (by kernel_rfl) (by decide) (rg_wantT rfl (by kernel_rfl)) hq3 (fun hb_ w' hS' => by have c_ := rg_get hS' c9; go_simp <;> with_reducible rfl) (by dsimp only [Act.put, List.setIfInBounds_toArray, List.set_cons_zero, List.set_cons_succ, ↓reduceIte]) ?_
    refine rg_call (N := some 67) 19 (((((m_in f.f3 1 64 && m_in f.f5 1 100 && m_in f.f6 0 (f.f5 - 1))) && ((m_name f.f4))) && ((m_ftext f.f7))) && ((m_name f.f8))) (.bool (m_topics f.f9)) #[.slice A9f f.f9.length c9f] rfl rfl (by kernel_rfl) (by decide) (rg_wantT rfl (by kernel_rfl)) Tryz.func48 (by kernel_rfl) rfl rfl (fun hb_ => rg_args1 (by go_simp)) hq3 (fun hb_ w1 h1 => (fr_topics f.f9 A9f c9f w1 (Kd.C_below H9.out (below_step HB.out h1)) l9).mono (fun e w2 h => ⟨h.1, rg_drawn h1 h.2⟩)) (by dsimp only [Act.put, List.setIfInBounds_toArray, List.set_cons_zero, List.set_cons_succ, ↓reduceIte]) (fun wq4 hq4 => ?_)
    refine rg_pure (N := some 68) 20 (v := .bool ((((((m_in f.f3 1 64 && m_in f.f5 1 100 && m_in f.f6 0 (f.f5 - 1))) && ((m_name f.f4))) && ((m_ftext f.f7))) && ((m_name f.f8))) && ((m_topics f.f9)))) rfl rfl (by kernel_rfl) (fun _ _ _ h => h) rfl (fun w' => rg_runAnd rfl (by kernel_rfl) (fun h_ => by go_simp)) (by dsimp only [Act.put, List.setIfInBounds_toArray, List.set_cons_zero, List.set_cons_succ, ↓reduceIte]) ?_
    refine rg_pure (N := some 69) 21 (v := _) rfl rfl (by kernel_rfl) (fun _ _ _ h => h) rfl (fun w' => by go_simp <;> with_reducible rfl) (by dsimp only [Act.put, List.setIfInBounds_toArray, List.set_cons_zero, List.set_cons_succ, ↓reduceIte]) ?_
    refine rg_pureG (N := some 70) 22 ((((((m_in f.f3 1 64 && m_in f.f5 1 100 && m_in f.f6 0 (f.f5 - 1))) && ((m_name f.f4))) && ((m_ftext f.f7))) && ((m_name f.f8))) && ((m_topics f.f9))) (_) rfl rfl (by kernel_rfl) (fun _ _ _ h => h) (rg_wantT rfl (by kernel_rfl)) (fun hb_ w' => by go_simp <;> with_reducible rfl) (by dsimp only [Act.put, List.setIfInBounds_toArray, List.set_cons_zero, List.set_cons_succ, ↓reduceIte]) ?_
    refine rg_oneG (N := some 71) 23 ((((((m_in f.f3 1 64 && m_in f.f5 1 100 && m_in f.f6 0 (f.f5 - 1))) && ((m_name f.f4))) && ((m_ftext f.f7))) && ((m_name f.f8))) && ((m_topics f.f9))) _ rfl rfl (by kernel_rfl) (by decide) (rg_wantT rfl (by kernel_rfl)) hq4 (fun hb_ w' hS' => by have c_ := rg_get hS' c10; go_simp <;> with_reducible rfl) (by dsimp only [Act.put, List.setIfInBounds_toArray, List.set_cons_zero, List.set_cons_succ, ↓reduceIte]) ?_
    refine rg_call (N := some 72) 24 ((((((m_in f.f3 1 64 && m_in f.f5 1 100 && m_in f.f6 0 (f.f5 - 1))) && ((m_name f.f4))) && ((m_ftext f.f7))) && ((m_name f.f8))) && ((m_topics f.f9))) (.bool (m_validL f.f10)) #[.slice A10f f.f10.length c10f] rfl rfl (by kernel_rfl) (by decide) (rg_wantT rfl (by kernel_rfl)) Tryz.func40 (by kernel_rfl) rfl rfl (fun hb_ => rg_args1 (by go_simp)) hq4 (fun hb_ w1 h1 => (block_ValidList.calls A10f c10f f.f10 _ w1 (Kd.C_below H10.out (below_step HB.out h1)) l10 rfl).mono (fun e w2 h => ⟨h.1, below_step h1 h.2⟩)) (by dsimp only [Act.put, List.setIfInBounds_toArray, List.set_cons_zero, List.set_cons_succ, ↓reduceIte]) (fun wq5 hq5 => ?_)
    refine rg_pure (N := some 73) 25 (v := .bool (((((((m_in f.f3 1 64 && m_in f.f5 1 100 && m_in f.f6 0 (f.f5 - 1))) && ((m_name f.f4))) && ((m_ftext f.f7))) && ((m_name f.f8))) && ((m_topics f.f9))) && ((m_validL f.f10)))) rfl rfl (by kernel_rfl) (fun _ _ _ h => h) rfl (fun w' => rg_runAnd rfl (by kernel_rfl) (fun h_ => by go_simp)) (by dsimp only [Act.put, List.setIfInBounds_toArray, List.set_cons_zero, List.set_cons_succ, ↓reduceIte]) ?_
    refine rg_pure (N := some 74) 26 (v := _) rfl rfl (by kernel_rfl) (fun _ _ _ h => h) rfl (fun w' => by go_simp <;> with_reducible rfl) (by dsimp only [Act.put, List.setIfInBounds_toArray, List.set_cons_zero, List.set_cons_succ, ↓reduceIte]) ?_
    refine rg_pureG (N := some 75) 27 (((((((m_in f.f3 1 64 && m_in f.f5 1 100 && m_in f.f6 0 (f.f5 - 1))) && ((m_name f.f4))) && ((m_ftext f.f7))) && ((m_name f.f8))) && ((m_topics f.f9))) && ((m_validL f.f10))) (_) rfl rfl (by kernel_rfl) (fun _ _ _ h => h) (rg_wantT rfl (by kernel_rfl)) (fun hb_ w' => by go_simp <;> with_reducible rfl) (by dsimp only [Act.put, List.setIfInBounds_toArray, List.set_cons_zero, List.set_cons_succ, ↓reduceIte]) ?_
    refine rg_oneG (N := some 76) 28 (((((((m_in f.f3 1 64 && m_in f.f5 1 100 && m_in f.f6 0 (f.f5 - 1))) && ((m_name f.f4))) && ((m_ftext f.f7))) && ((m_name f.f8))) && ((m_topics f.f9))) && ((m_validL f.f10))) _ rfl rfl (by kernel_rfl) (by decide) (rg_wantT rfl (by kernel_rfl)) hq5 (fun hb_ w' hS' => by have a_ := rg_get hS' c11; have b_ := rg_get hS' c12; have d_ := rg_get hS' c13; have e_ := rg_get hS' c14; go_simp <;> with_reducible rfl) (by dsimp only [Act.put, List.setIfInBounds_toArray, List.set_cons_zero, List.set_cons_succ, ↓reduceIte]) ?_
    refine rg_call (N := some 77) 29 (((((((m_in f.f3 1 64 && m_in f.f5 1 100 && m_in f.f6 0 (f.f5 - 1))) && ((m_name f.f4))) && ((m_ftext f.f7))) && ((m_name f.f8))) && ((m_topics f.f9))) && ((m_validL f.f10))) (.bool (m_lab f.f11)) #[.agg #[.int .i64 f.f11.f0, .slice A12f f.f11.f1.length c12f, .int .i64 f.f11.f2, .int .i64 f.f11.f3]] rfl rfl (by kernel_rfl) (by decide) (rg_wantT rfl (by kernel_rfl)) Tryz.func49 (by kernel_rfl) rfl rfl (fun hb_ => rg_args1 (by go_simp)) hq5 (fun hb_ w1 h1 => (fr_label f.f11 A12f c12f w1 (Kd.C_below H12.out (below_step HB.out h1)) l12).mono (fun e w2 h => ⟨h.1, below_step h1 h.2⟩)) (by dsimp only [Act.put, List.setIfInBounds_toArray, List.set_cons_zero, List.set_cons_succ, ↓reduceIte]) (fun wq6 hq6 => ?_)
    refine rg_pure (N := some 78) 30 (v := .bool ((((((((m_in f.f3 1 64 && m_in f.f5 1 100 && m_in f.f6 0 (f.f5 - 1))) && ((m_name f.f4))) && ((m_ftext f.f7))) && ((m_name f.f8))) && ((m_topics f.f9))) && ((m_validL f.f10))) && ((m_lab f.f11)))) rfl rfl (by kernel_rfl) (fun _ _ _ h => h) rfl (fun w' => rg_runAnd rfl (by kernel_rfl) (fun h_ => by go_simp)) (by dsimp only [Act.put, List.setIfInBounds_toArray, List.set_cons_zero, List.set_cons_succ, ↓reduceIte]) ?_
    refine rg_pure (N := some 2) 32 (v := _) rfl rfl (by kernel_rfl) (fun _ _ _ h => h) rfl (fun w' => by go_simp <;> with_reducible rfl) (by dsimp only [Act.put, List.setIfInBounds_toArray, List.set_cons_zero, List.set_cons_succ, ↓reduceIte]) ?_
    have hS9 : rgS _ _ := hq6
    refine rg_storeRow 33 rfl rfl (by kernel_rfl) (by decide) rfl 28 _ _ rfl p3 #[.int .i64 0, .int .i64 0, .int .i64 0, .int .i64 0, .string (⟨#[]⟩ : ByteArray), .int .i64 0, .int .i64 0, .string (⟨#[]⟩ : ByteArray), .string (⟨#[]⟩ : ByteArray), .slice none 0 0, .slice none 0 0, .int .i64 0, .slice none 0 0, .int .i64 0, .int .i64 0, .int .i64 0, .int .i64 0, .int .i64 0, .string (⟨#[]⟩ : ByteArray), .string (⟨#[]⟩ : ByteArray), .int .i64 0, .int .i64 0, .int .i64 0] #[.int .i64 f.f0, .int .i64 f.f1, .int .i64 f.f2, .int .i64 0, .string (⟨#[]⟩ : ByteArray), .int .i64 0, .int .i64 0, .string (⟨#[]⟩ : ByteArray), .string (⟨#[]⟩ : ByteArray), .slice none 0 0, .slice none 0 0, .int .i64 0, .slice none 0 0, .int .i64 0, .int .i64 0, .int .i64 f.f12, .int .i64 f.f13, .int .i64 f.f14, .string f.f15, .string f.f16, .int .i64 f.f17, .int .i64 f.f18, .int .i64 f.f19] 28 (by kernel_rfl) (by kernel_rfl) (rg_blk hS9 hx3) fa_size rfl (by repeat (first | exact List.forall_mem_nil _ | refine List.forall_mem_cons.2 ⟨rfl, ?_⟩)) ?_
    intro w9 hx9 hst hot
    refine rg_done (by kernel_rfl) ?_
    have hBF : Below w.heap.size w w9 := (below_step HB.out hS9).trans (hst w.heap.size hg3)
    have HBF := Aside0.mk hBF
    have HX9 := Aside0.mk hx9
    clear hS9 hst hot hBF hx9 hx3 hx4 c4 c7 c8 c9 c10 c11 c12 c13 c14
    go_wp2
    all_goals
      refine bodyPost_ret (rg_results2 rfl _ _ p3 _ _ _ _ rfl HX9.out Tryz.underlying28 rfl fa_size) rfl ?_
      have hBF := HBF.out
      refine ⟨#[.int .i64 f.f0, .int .i64 f.f1, .int .i64 f.f2, .int .i64 0, .string (⟨#[]⟩ : ByteArray), .int .i64 0, .int .i64 0, .string (⟨#[]⟩ : ByteArray), .string (⟨#[]⟩ : ByteArray), .slice none 0 0, .slice none 0 0, .int .i64 0, .slice none 0 0, .int .i64 0, .int .i64 0, .int .i64 f.f12, .int .i64 f.f13, .int .i64 f.f14, .string f.f15, .string f.f16, .int .i64 f.f17, .int .i64 f.f18, .int .i64 f.f19], ?_, ?_, hBF⟩
      · exact congrArg (fun b : Bool => Ending.returned (.tuple #[.bool b, .agg #[.int .i64 f.f0, .int .i64 f.f1, .int .i64 f.f2, .int .i64 0, .string (⟨#[]⟩ : ByteArray), .int .i64 0, .int .i64 0, .string (⟨#[]⟩ : ByteArray), .string (⟨#[]⟩ : ByteArray), .slice none 0 0, .slice none 0 0, .int .i64 0, .slice none 0 0, .int .i64 0, .int .i64 0, .int .i64 f.f12, .int .i64 f.f13, .int .i64 f.f14, .string f.f15, .string f.f16, .int .i64 f.f17, .int .i64 f.f18, .int .i64 f.f19]])) (show _ = m_used f by unfold m_used; rw [if_pos (by have := HKD.out; omega)]; try (first | rfl | (rw [h]; done) | (simp [h]; done) | (simp [*]; done)))
      · rw [show m_rest f = { f with f3 := 0, f4 := ⟨#[]⟩, f5 := 0, f6 := 0, f7 := ⟨#[]⟩, f8 := ⟨#[]⟩, f9 := [], f10 := [], f11 := zLb } by unfold m_rest; rw [if_pos (by have := HKD.out; omega)]]
        exact faK_mk w9 { f with f3 := 0, f4 := ⟨#[]⟩, f5 := 0, f6 := 0, f7 := ⟨#[]⟩, f8 := ⟨#[]⟩, f9 := [], f10 := [], f11 := zLb } (A9 := none) (c9 := 0) (Nat.le_refl 0) (fr_nilC _ _) (A10 := none) (c10 := 0) (Nat.le_refl 0) (fr_nilC _ _) (A12 := none) (c12 := 0) (Nat.le_refl 0) (fr_nilC _ _)
end Go.Proofs.YtkhgdglaophkbaaGreatDoor.PK
end
section
set_option linter.unusedVariables false
set_option linter.unusedSimpArgs false
namespace Go.Proofs.YtkhgdglaophkbaaGreatDoor.PK
open Go.RowKit Go.Proofs.YtkhgdglaophkbaaGreatDoorW.PrintWords Go.Proofs.YtkhgdglaophkbaaGreatDoorW.PrintLast Go.Proofs.YtkhgdglaophkbaaGreatDoorW.PrintMore
set_option maxHeartbeats 8000000 in
set_option maxRecDepth 100000 in
theorem fact_right.walk2 (f : Fa) (A9f : Option Addr) (c9f : Nat) (A10f : Option Addr) (c10f : Nat) (A12f : Option Addr) (c12f : Nat) (w : World) (hk : f.f2 = 2)
    (l9 : f.f9.length ≤ c9f) (h9 : Kd.string.C w A9f f.f9.length f.f9) (l10 : f.f10.length ≤ c10f) (h10 : k49.C w A10f f.f10.length f.f10) (l12 : f.f11.f1.length ≤ c12f) (h12 : (Kd.int .i64).C w A12f f.f11.f1.length f.f11.f1) :
    Calls Tryz.prog 30 #[.agg #[.int .i64 f.f0, .int .i64 f.f1, .int .i64 f.f2, .int .i64 f.f3, .string f.f4, .int .i64 f.f5, .int .i64 f.f6, .string f.f7, .string f.f8, .slice A9f f.f9.length c9f, .slice A10f f.f10.length c10f, .int .i64 f.f11.f0, .slice A12f f.f11.f1.length c12f, .int .i64 f.f11.f2, .int .i64 f.f11.f3, .int .i64 f.f12, .int .i64 f.f13, .int .i64 f.f14, .string f.f15, .string f.f16, .int .i64 f.f17, .int .i64 f.f18, .int .i64 f.f19]] w fun e w' => ∃ cs, e = .returned (.tuple #[.bool (m_used f), .agg cs]) ∧ faK w' (m_rest f) cs ∧ Below w.heap.size w w' := by
  have H9 := Aside0.mk h9
  have H10 := Aside0.mk h10
  have H12 := Aside0.mk h12
  have HK := Aside0.mk hk
  clear h9 h10 h12 hk
  go_enter Tryz.func30, Tryz.ntmps30
  go_wp2_with (with_reducible refine is_box rfl ?_; refine Rg.stop_here ?_)
  refine ⟨?_⟩
  refine box_event rfl (N := 1) rfl (cs := #[.int .i64 f.f0, .int .i64 f.f1, .int .i64 f.f2, .int .i64 f.f3, .string f.f4, .int .i64 f.f5, .int .i64 f.f6, .string f.f7, .string f.f8, .slice A9f f.f9.length c9f, .slice A10f f.f10.length c10f, .int .i64 f.f11.f0, .slice A12f f.f11.f1.length c12f, .int .i64 f.f11.f2, .int .i64 f.f11.f3, .int .i64 f.f12, .int .i64 f.f13, .int .i64 f.f14, .string f.f15, .string f.f16, .int .i64 f.f17, .int .i64 f.f18, .int .i64 f.f19]) (t := 28) (by first | (go_simp; done) | (go_simp; rfl)) ?_
  intro p1 hp1 w1 hbx1 hb1
  have hg1 : w.heap.size ≤ p1 := Nat.le_of_eq hp1.symm
  have HX1 := Aside0.mk hbx1
  have HB1 := Aside0.mk hb1
  clear hp1 hb1 hbx1
  go_wp2_with (with_reducible refine is_alloc rfl ?_; refine Rg.stop_here ?_)
  refine ⟨?_⟩
  refine box_event rfl (N := 3) rfl (cs := #[.int .i64 0, .int .i64 0, .int .i64 0, .int .i64 0, .string (⟨#[]⟩ : ByteArray), .int .i64 0, .int .i64 0, .string (⟨#[]⟩ : ByteArray), .string (⟨#[]⟩ : ByteArray), .slice none 0 0, .slice none 0 0, .int .i64 0, .slice none 0 0, .int .i64 0, .int .i64 0, .int .i64 0, .int .i64 0, .int .i64 0, .string (⟨#[]⟩ : ByteArray), .string (⟨#[]⟩ : ByteArray), .int .i64 0, .int .i64 0, .int .i64 0]) (t := 28) (by first | (go_simp; done) | (go_simp; rfl)) ?_
  intro p3 hp3 w2 hbx3 hb3
  have hl1 := blk_lt HX1.out
  have h13 : p1 ≠ p3 := by omega
  have hg3 : w.heap.size ≤ p3 := by have := HB1.out.size; omega
  have HX1 := Aside0.mk (bk_heap_below HX1.out hb3)
  have HX3 := Aside0.mk hbx3
  have HB2 := Aside0.mk (below_step HB1.out hb3)
  clear hp3 hbx3 hb3 hl1 HB1
  go_wp2_with (with_reducible refine is_loadF rfl ?_; refine Rg.stop_here ?_)
  refine ⟨?_⟩
  refine wpList_load_row rfl 28 _ rfl p1 rfl _ _ _ _ HX1.out Tryz.underlying28 rfl fa_size ?_
  go_wp2_with (with_reducible refine is_alloc rfl ?_; refine Rg.stop_here ?_)
  refine ⟨?_⟩
  refine box_event rfl (N := 4) rfl (cs := #[.int .i64 0, .int .i64 0, .int .i64 0, .int .i64 0, .string (⟨#[]⟩ : ByteArray), .int .i64 0, .int .i64 0, .string (⟨#[]⟩ : ByteArray), .string (⟨#[]⟩ : ByteArray), .slice none 0 0, .slice none 0 0, .int .i64 0, .slice none 0 0, .int .i64 0, .int .i64 0, .int .i64 0, .int .i64 0, .int .i64 0, .string (⟨#[]⟩ : ByteArray), .string (⟨#[]⟩ : ByteArray), .int .i64 0, .int .i64 0, .int .i64 0]) (t := 28) (by first | (go_simp; done) | (go_simp; rfl)) ?_
  intro p4 hp4 w3 hbx4 hb4
  have hl1 := blk_lt HX1.out
  have hl3 := blk_lt HX3.out
  have h14 : p1 ≠ p4 := by omega
  have h34 : p3 ≠ p4 := by omega
  have hg4 : w.heap.size ≤ p4 := by have := HB2.out.size; omega
  have HX1 := Aside0.mk (bk_heap_below HX1.out hb4)
  have HX3 := Aside0.mk (bk_heap_below HX3.out hb4)
  have HB3 := Aside0.mk (below_step HB2.out hb4)
  clear hp4 hb4 hl1 hl3 HB2
  go_wp2_with (with_reducible refine is_store rfl ?_; refine Rg.stop_here ?_)
  refine ⟨?_⟩
  refine wpList_store_box rfl rfl _ _ _ rfl p4 _ _ _ rfl rfl hbx4 fa_size rfl (by repeat (first | exact List.forall_mem_nil _ | refine List.forall_mem_cons.2 ⟨rfl, ?_⟩)) ?_
  intro w4 hx4 hst hot
  have HX4 := Aside0.mk hx4
  have HX1 := Aside0.mk ((hot p1 h14).trans HX1.out)
  have HX3 := Aside0.mk ((hot p3 h34).trans HX3.out)
  have HB := Aside0.mk (show Below w.heap.size w w4 from ⟨(hst p4 (Nat.le_refl _)).os.trans HB3.out.os, (hst p4 (Nat.le_refl _)).tape.trans HB3.out.tape, (hst p4 (Nat.le_refl _)).output.trans HB3.out.output, Nat.le_trans HB3.out.size (hst p4 (Nat.le_refl _)).size, fun k hk => (hot k (by omega)).trans (HB3.out.block k hk)⟩)
  clear hbx4 hx4 hst hot HB3
  have c3 := bk_cell HX1.out 3
  have c20 := bk_cell HX1.out 20
  have c22 := bk_cell HX1.out 22
  go_upto_region 3 with (first | (go_at_call 31; (with_reducible refine (fr_within f.f3 1 64 _).mono ?_); rintro e wa ⟨rfl, hd⟩; obtain ⟨m, rfl⟩ := fr_drawn hd))
  go_cut [6] from 12 to 19 (fun v6 wx => v6 = .bool (m_in f.f17 1 8 && m_in f.f19 0 1000000000) ∧ ∃ nq, wx = w4.drewN nq)
  case first =>
    have HF := Aside0.mk (fr_within f.f17 1 8)
    cases hB : m_in f.f17 1 8 with
    | false =>
      rw [hB] at HF
      have HBB := Aside0.mk hB
      clear hB
      go_wp2_with (go_at_call 31; (with_reducible refine (HF.out _).mono ?_); rintro e wb ⟨rfl, hd2⟩; obtain ⟨m2, rfl⟩ := fr_drawn hd2)
      go_meet
      exact ⟨by rw [HBB.out]; rfl, _, by first | rfl | exact (World.drewN_drewN _ _ _)⟩
    | true =>
      rw [hB] at HF
      have HBB := Aside0.mk hB
      clear hB
      go_wp2_with (first | (go_at_call 31; (with_reducible refine (HF.out _).mono ?_); rintro e wb ⟨rfl, hd2⟩; obtain ⟨m2, rfl⟩ := fr_drawn hd2) | (go_at_call 31; (with_reducible refine (fr_within f.f19 0 1000000000 _).mono ?_); rintro e wc ⟨rfl, hd3⟩; obtain ⟨m3, rfl⟩ := fr_drawn hd3))
      go_meet
      exact ⟨by rw [HBB.out]; rfl, _, by first | rfl | exact (World.drewN_drewN _ _ _)⟩
  case rest =>
  obtain ⟨rfl, nq, rfl⟩ := hcut
  clear c3 c20 c22
  obtain ⟨w5, hw5⟩ : ∃ w5, w4.drewN nq = w5 := ⟨_, rfl⟩
  have HX1 : Aside0 (w5.heap[p1]? = some (.cells #[.int .i64 f.f0, .int .i64 f.f1, .int .i64 f.f2, .int .i64 f.f3, .string f.f4, .int .i64 f.f5, .int .i64 f.f6, .string f.f7, .string f.f8, .slice A9f f.f9.length c9f, .slice A10f f.f10.length c10f, .int .i64 f.f11.f0, .slice A12f f.f11.f1.length c12f, .int .i64 f.f11.f2, .int .i64 f.f11.f3, .int .i64 f.f12, .int .i64 f.f13, .int .i64 f.f14, .string f.f15, .string f.f16, .int .i64 f.f17, .int .i64 f.f18, .int .i64 f.f19] 28 (0, 0))) := ⟨by rw [← hw5]; exact HX1.out⟩
  have HX3 : Aside0 (w5.heap[p3]? = some (.cells #[.int .i64 0, .int .i64 0, .int .i64 0, .int .i64 0, .string (⟨#[]⟩ : ByteArray), .int .i64 0, .int .i64 0, .string (⟨#[]⟩ : ByteArray), .string (⟨#[]⟩ : ByteArray), .slice none 0 0, .slice none 0 0, .int .i64 0, .slice none 0 0, .int .i64 0, .int .i64 0, .int .i64 0, .int .i64 0, .int .i64 0, .string (⟨#[]⟩ : ByteArray), .string (⟨#[]⟩ : ByteArray), .int .i64 0, .int .i64 0, .int .i64 0] 28 (0, 0))) := ⟨by rw [← hw5]; exact HX3.out⟩
  have HX4 : Aside0 (w5.heap[p4]? = some (.cells #[.int .i64 f.f0, .int .i64 f.f1, .int .i64 f.f2, .int .i64 f.f3, .string f.f4, .int .i64 f.f5, .int .i64 f.f6, .string f.f7, .string f.f8, .slice A9f f.f9.length c9f, .slice A10f f.f10.length c10f, .int .i64 f.f11.f0, .slice A12f f.f11.f1.length c12f, .int .i64 f.f11.f2, .int .i64 f.f11.f3, .int .i64 f.f12, .int .i64 f.f13, .int .i64 f.f14, .string f.f15, .string f.f16, .int .i64 f.f17, .int .i64 f.f18, .int .i64 f.f19] 28 (0, 0))) := ⟨by rw [← hw5]; exact HX4.out⟩
  have HB := Aside0.mk (show Below w.heap.size w w5 by rw [← hw5]; exact pw_below_drewN HB.out nq)
  rw [hw5]
  clear hw5
  have hk := HK.out
  · have HKD := Aside0.mk hk
    have e1 : (f.f2 == 1) = false := by rw [hk]; rfl
    have e2 : (f.f2 == 2) = true := by rw [hk]; rfl
    clear hk
    have c2 := bk_cell HX1.out 2
    have d3 := bk_cell HX4.out 3
    have z3 := bk_frozen HX4.out 3
    have d15 := bk_cell HX4.out 15
    have z15 := bk_frozen HX4.out 15
    go_upto_region 10 with fail
    go_cut [] from 82 to 83 (fun wx => wx.heap[p4]? = some (.cells #[.int .i64 f.f0, .int .i64 f.f1, .int .i64 f.f2, .int .i64 0, .string f.f4, .int .i64 f.f5, .int .i64 f.f6, .string f.f7, .string f.f8, .slice A9f f.f9.length c9f, .slice A10f f.f10.length c10f, .int .i64 f.f11.f0, .slice A12f f.f11.f1.length c12f, .int .i64 f.f11.f2, .int .i64 f.f11.f3, .int .i64 0, .int .i64 f.f13, .int .i64 f.f14, .string f.f15, .string f.f16, .int .i64 f.f17, .int .i64 f.f18, .int .i64 f.f19] 28 (0, 0)) ∧ wx.heap[p1]? = some (.cells #[.int .i64 f.f0, .int .i64 f.f1, .int .i64 f.f2, .int .i64 f.f3, .string f.f4, .int .i64 f.f5, .int .i64 f.f6, .string f.f7, .string f.f8, .slice A9f f.f9.length c9f, .slice A10f f.f10.length c10f, .int .i64 f.f11.f0, .slice A12f f.f11.f1.length c12f, .int .i64 f.f11.f2, .int .i64 f.f11.f3, .int .i64 f.f12, .int .i64 f.f13, .int .i64 f.f14, .string f.f15, .string f.f16, .int .i64 f.f17, .int .i64 f.f18, .int .i64 f.f19] 28 (0, 0)) ∧ wx.heap[p3]? = some (.cells #[.int .i64 0, .int .i64 0, .int .i64 0, .int .i64 0, .string (⟨#[]⟩ : ByteArray), .int .i64 0, .int .i64 0, .string (⟨#[]⟩ : ByteArray), .string (⟨#[]⟩ : ByteArray), .slice none 0 0, .slice none 0 0, .int .i64 0, .slice none 0 0, .int .i64 0, .int .i64 0, .int .i64 0, .int .i64 0, .int .i64 0, .string (⟨#[]⟩ : ByteArray), .string (⟨#[]⟩ : ByteArray), .int .i64 0, .int .i64 0, .int .i64 0] 28 (0, 0)) ∧ Below w.heap.size w wx)
    case first =>
      go_wp2_with fail
      go_meet
      have g0_ := HX4.out
      have g1_ := blk_set g0_ 3 (.int .i64 0)
      simp only [List.setIfInBounds_toArray, List.set_cons_zero, List.set_cons_succ] at g1_
      clear g0_
      have g2_ := blk_set g1_ 15 (.int .i64 0)
      simp only [List.setIfInBounds_toArray, List.set_cons_zero, List.set_cons_succ] at g2_
      clear g1_
      exact ⟨g2_, ((Below.heap_setCell _ _ _ _ h14).trans ((Below.heap_setCell _ _ _ _ h14).trans HX1.out)), ((Below.heap_setCell _ _ _ _ h34).trans ((Below.heap_setCell _ _ _ _ h34).trans HX3.out)), (Below.setCell (Below.setCell HB.out hg4 _) hg4 _)⟩
    case rest =>
    obtain ⟨hx4, hx1, hx3, hB⟩ := hcut
    have HX1 := Aside0.mk hx1
    have HB := Aside0.mk hB
    clear hx1 hB d3 z3 d15 z15 c2 e1 e2
    obtain ⟨w6, hw6⟩ : ∃ w6, wc = w6 := ⟨_, rfl⟩
    rw [hw6] at HX1 HB hx4 hx3 ⊢
    clear hw6
    have c15 := bk_cell HX1.out 15
    go_wp2_with fail
    refine rg_start [8] (by kernel_rfl) rfl ?_
    refine rg_pure (N := some 84) 0 (v := _) rfl rfl (by kernel_rfl) (fun _ _ _ h => h) rfl (fun w' => by go_simp <;> with_reducible rfl) (by dsimp only [Act.put, List.setIfInBounds_toArray, List.set_cons_zero, List.set_cons_succ, ↓reduceIte]) ?_
    refine rg_pure (N := some 85) 1 (v := _) rfl rfl (by kernel_rfl) (fun _ _ _ h => h) rfl (fun w' => by go_simp <;> with_reducible rfl) (by dsimp only [Act.put, List.setIfInBounds_toArray, List.set_cons_zero, List.set_cons_succ, ↓reduceIte]) ?_
    refine rg_pureG (N := some 86) 2 (m_in f.f3 1 64) (_) rfl rfl (by kernel_rfl) (fun _ _ _ h => h) (rg_wantT rfl (by kernel_rfl)) (fun hb_ w' => by go_simp <;> with_reducible rfl) (by dsimp only [Act.put, List.setIfInBounds_toArray, List.set_cons_zero, List.set_cons_succ, ↓reduceIte]) ?_
    refine rg_loadG (N := some 87) 3 (m_in f.f3 1 64) _ rfl rfl (by kernel_rfl) (fun _ _ _ h => h) (rg_wantT rfl (by kernel_rfl)) (below_drew1 (Below.refl _ _)) (fun hb_ w' hS' => by have c_ := rg_get hS' c15; go_simp <;> with_reducible rfl) (by dsimp only [Act.put, List.setIfInBounds_toArray, List.set_cons_zero, List.set_cons_succ, ↓reduceIte]) ?_
    refine rg_load (N := some 90) 6 rfl rfl (by kernel_rfl) (fun _ _ _ h => h) rfl (below_drew1 (Below.refl _ _)) (fun w' hS' => rg_runRow _ _ rfl p4 (by kernel_rfl) _ _ _ _ (rg_blk hS' hx4) Tryz.underlying28 rfl fa_size) (by dsimp only [Act.put, List.setIfInBounds_toArray, List.set_cons_zero, List.set_cons_succ, ↓reduceIte]) ?_
    refine rg_call (N := some 88) 4 (m_in f.f3 1 64) (.bool (m_in f.f12 1 5)) #[.int .i64 f.f12, .int .i64 1, .int .i64 5] rfl rfl (by kernel_rfl) (by decide) (rg_wantT rfl (by kernel_rfl)) Tryz.func31 (by kernel_rfl) rfl rfl (fun hb_ => rg_args3 (by go_simp) rfl rfl) (below_drew1 (Below.refl _ _)) (fun hb_ w1 h1 => (fr_within f.f12 1 5 w1).mono (fun e w2 h => ⟨h.1, rg_drawn h1 h.2⟩)) (by dsimp only [Act.put, List.setIfInBounds_toArray, List.set_cons_zero, List.set_cons_succ, ↓reduceIte]) (fun wq1 hq1 => ?_)
    refine rg_pure (N := some 89) 5 (v := .bool ((m_in f.f3 1 64) && ((m_in f.f12 1 5)))) rfl rfl (by kernel_rfl) (fun _ _ _ h => h) rfl (fun w' => rg_runAnd rfl (by kernel_rfl) (fun h_ => by go_simp)) (by dsimp only [Act.put, List.setIfInBounds_toArray, List.set_cons_zero, List.set_cons_succ, ↓reduceIte]) ?_
    refine rg_pure (N := some 2) 7 (v := _) rfl rfl (by kernel_rfl) (fun _ _ _ h => h) rfl (fun w' => by go_simp <;> with_reducible rfl) (by dsimp only [Act.put, List.setIfInBounds_toArray, List.set_cons_zero, List.set_cons_succ, ↓reduceIte]) ?_
    have hS9 : rgS _ _ := hq1
    refine rg_storeRow 8 rfl rfl (by kernel_rfl) (by decide) rfl 28 _ _ rfl p3 #[.int .i64 0, .int .i64 0, .int .i64 0, .int .i64 0, .string (⟨#[]⟩ : ByteArray), .int .i64 0, .int .i64 0, .string (⟨#[]⟩ : ByteArray), .string (⟨#[]⟩ : ByteArray), .slice none 0 0, .slice none 0 0, .int .i64 0, .slice none 0 0, .int .i64 0, .int .i64 0, .int .i64 0, .int .i64 0, .int .i64 0, .string (⟨#[]⟩ : ByteArray), .string (⟨#[]⟩ : ByteArray), .int .i64 0, .int .i64 0, .int .i64 0] #[.int .i64 f.f0, .int .i64 f.f1, .int .i64 f.f2, .int .i64 0, .string f.f4, .int .i64 f.f5, .int .i64 f.f6, .string f.f7, .string f.f8, .slice A9f f.f9.length c9f, .slice A10f f.f10.length c10f, .int .i64 f.f11.f0, .slice A12f f.f11.f1.length c12f, .int .i64 f.f11.f2, .int .i64 f.f11.f3, .int .i64 0, .int .i64 f.f13, .int .i64 f.f14, .string f.f15, .string f.f16, .int .i64 f.f17, .int .i64 f.f18, .int .i64 f.f19] 28 (by kernel_rfl) (by kernel_rfl) (rg_blk hS9 hx3) fa_size rfl (by repeat (first | exact List.forall_mem_nil _ | refine List.forall_mem_cons.2 ⟨rfl, ?_⟩)) ?_
    intro w9 hx9 hst hot
    refine rg_done (by kernel_rfl) ?_
    have hBF : Below w.heap.size w w9 := (below_step HB.out hS9).trans (hst w.heap.size hg3)
    have HBF := Aside0.mk hBF
    have HX9 := Aside0.mk hx9
    clear hS9 hst hot hBF hx9 hx3 hx4 c15
    go_wp2
    all_goals
      refine bodyPost_ret (rg_results2 rfl _ _ p3 _ _ _ _ rfl HX9.out Tryz.underlying28 rfl fa_size) rfl ?_
      have hBF := HBF.out
      refine ⟨#[.int .i64 f.f0, .int .i64 f.f1, .int .i64 f.f2, .int .i64 0, .string f.f4, .int .i64 f.f5, .int .i64 f.f6, .string f.f7, .string f.f8, .slice A9f f.f9.length c9f, .slice A10f f.f10.length c10f, .int .i64 f.f11.f0, .slice A12f f.f11.f1.length c12f, .int .i64 f.f11.f2, .int .i64 f.f11.f3, .int .i64 0, .int .i64 f.f13, .int .i64 f.f14, .string f.f15, .string f.f16, .int .i64 f.f17, .int .i64 f.f18, .int .i64 f.f19], ?_, ?_, hBF⟩
      · exact congrArg (fun b : Bool => Ending.returned (.tuple #[.bool b, .agg #[.int .i64 f.f0, .int .i64 f.f1, .int .i64 f.f2, .int .i64 0, .string f.f4, .int .i64 f.f5, .int .i64 f.f6, .string f.f7, .string f.f8, .slice A9f f.f9.length c9f, .slice A10f f.f10.length c10f, .int .i64 f.f11.f0, .slice A12f f.f11.f1.length c12f, .int .i64 f.f11.f2, .int .i64 f.f11.f3, .int .i64 0, .int .i64 f.f13, .int .i64 f.f14, .string f.f15, .string f.f16, .int .i64 f.f17, .int .i64 f.f18, .int .i64 f.f19]])) (show _ = m_used f by unfold m_used; rw [if_neg (by have := HKD.out; omega), if_pos (by have := HKD.out; omega)]; try (first | rfl | (rw [h]; done) | (simp [h]; done) | (simp [*]; done)))
      · rw [show m_rest f = { f with f3 := 0, f12 := 0 } by unfold m_rest; rw [if_neg (by have := HKD.out; omega), if_pos (by have := HKD.out; omega)]]
        exact faK_mk w9 { f with f3 := 0, f12 := 0 } (A9 := A9f) (c9 := c9f) l9 (Kd.C_below H9.out hBF) (A10 := A10f) (c10 := c10f) l10 (Kd.C_below H10.out hBF) (A12 := A12f) (c12 := c12f) l12 (Kd.C_below H12.out hBF)
end Go.Proofs.YtkhgdglaophkbaaGreatDoor.PK
end
section
set_option linter.unusedVariables false
set_option linter.unusedSimpArgs false
namespace Go.Proofs.YtkhgdglaophkbaaGreatDoor.PK
open Go.RowKit Go.Proofs.YtkhgdglaophkbaaGreatDoorW.PrintWords Go.Proofs.YtkhgdglaophkbaaGreatDoorW.PrintLast Go.Proofs.YtkhgdglaophkbaaGreatDoorW.PrintMore
set_option maxHeartbeats 8000000 in
set_option maxRecDepth 100000 in
theorem fact_right.walk3 (f : Fa) (A9f : Option Addr) (c9f : Nat) (A10f : Option Addr) (c10f : Nat) (A12f : Option Addr) (c12f : Nat) (w : World) (hk : f.f2 = 3)
    (l9 : f.f9.length ≤ c9f) (h9 : Kd.string.C w A9f f.f9.length f.f9) (l10 : f.f10.length ≤ c10f) (h10 : k49.C w A10f f.f10.length f.f10) (l12 : f.f11.f1.length ≤ c12f) (h12 : (Kd.int .i64).C w A12f f.f11.f1.length f.f11.f1) :
    Calls Tryz.prog 30 #[.agg #[.int .i64 f.f0, .int .i64 f.f1, .int .i64 f.f2, .int .i64 f.f3, .string f.f4, .int .i64 f.f5, .int .i64 f.f6, .string f.f7, .string f.f8, .slice A9f f.f9.length c9f, .slice A10f f.f10.length c10f, .int .i64 f.f11.f0, .slice A12f f.f11.f1.length c12f, .int .i64 f.f11.f2, .int .i64 f.f11.f3, .int .i64 f.f12, .int .i64 f.f13, .int .i64 f.f14, .string f.f15, .string f.f16, .int .i64 f.f17, .int .i64 f.f18, .int .i64 f.f19]] w fun e w' => ∃ cs, e = .returned (.tuple #[.bool (m_used f), .agg cs]) ∧ faK w' (m_rest f) cs ∧ Below w.heap.size w w' := by
  have H9 := Aside0.mk h9
  have H10 := Aside0.mk h10
  have H12 := Aside0.mk h12
  have HK := Aside0.mk hk
  clear h9 h10 h12 hk
  go_enter Tryz.func30, Tryz.ntmps30
  go_wp2_with (with_reducible refine is_box rfl ?_; refine Rg.stop_here ?_)
  refine ⟨?_⟩
  refine box_event rfl (N := 1) rfl (cs := #[.int .i64 f.f0, .int .i64 f.f1, .int .i64 f.f2, .int .i64 f.f3, .string f.f4, .int .i64 f.f5, .int .i64 f.f6, .string f.f7, .string f.f8, .slice A9f f.f9.length c9f, .slice A10f f.f10.length c10f, .int .i64 f.f11.f0, .slice A12f f.f11.f1.length c12f, .int .i64 f.f11.f2, .int .i64 f.f11.f3, .int .i64 f.f12, .int .i64 f.f13, .int .i64 f.f14, .string f.f15, .string f.f16, .int .i64 f.f17, .int .i64 f.f18, .int .i64 f.f19]) (t := 28) (by first | (go_simp; done) | (go_simp; rfl)) ?_
  intro p1 hp1 w1 hbx1 hb1
  have hg1 : w.heap.size ≤ p1 := Nat.le_of_eq hp1.symm
  have HX1 := Aside0.mk hbx1
  have HB1 := Aside0.mk hb1
  clear hp1 hb1 hbx1
  go_wp2_with (with_reducible refine is_alloc rfl ?_; refine Rg.stop_here ?_)
  refine ⟨?_⟩
  refine box_event rfl (N := 3) rfl (cs := #[.int .i64 0, .int .i64 0, .int .i64 0, .int .i64 0, .string (⟨#[]⟩ : ByteArray), .int .i64 0, .int .i64 0, .string (⟨#[]⟩ : ByteArray), .string (⟨#[]⟩ : ByteArray), .slice none 0 0, .slice none 0 0, .int .i64 0, .slice none 0 0, .int .i64 0, .int .i64 0, .int .i64 0, .int .i64 0, .int .i64 0, .string (⟨#[]⟩ : ByteArray), .string (⟨#[]⟩ : ByteArray), .int .i64 0, .int .i64 0, .int .i64 0]) (t := 28) (by first | (go_simp; done) | (go_simp; rfl)) ?_
  intro p3 hp3 w2 hbx3 hb3
  have hl1 := blk_lt HX1.out
  have h13 : p1 ≠ p3 := by omega
  have hg3 : w.heap.size ≤ p3 := by have := HB1.out.size; omega
  have HX1 := Aside0.mk (bk_heap_below HX1.out hb3)
  have HX3 := Aside0.mk hbx3
  have HB2 := Aside0.mk (below_step HB1.out hb3)
  clear hp3 hbx3 hb3 hl1 HB1
  go_wp2_with (with_reducible refine is_loadF rfl ?_; refine Rg.stop_here ?_)
  refine ⟨?_⟩
  refine wpList_load_row rfl 28 _ rfl p1 rfl _ _ _ _ HX1.out Tryz.underlying28 rfl fa_size ?_
  go_wp2_with (with_reducible refine is_alloc rfl ?_; refine Rg.stop_here ?_)
  refine ⟨?_⟩
  refine box_event rfl (N := 4) rfl (cs := #[.int .i64 0, .int .i64 0, .int .i64 0, .int .i64 0, .string (⟨#[]⟩ : ByteArray), .int .i64 0, .int .i64 0, .string (⟨#[]⟩ : ByteArray), .string (⟨#[]⟩ : ByteArray), .slice none 0 0, .slice none 0 0, .int .i64 0, .slice none 0 0, .int .i64 0, .int .i64 0, .int .i64 0, .int .i64 0, .int .i64 0, .string (⟨#[]⟩ : ByteArray), .string (⟨#[]⟩ : ByteArray), .int .i64 0, .int .i64 0, .int .i64 0]) (t := 28) (by first | (go_simp; done) | (go_simp; rfl)) ?_
  intro p4 hp4 w3 hbx4 hb4
  have hl1 := blk_lt HX1.out
  have hl3 := blk_lt HX3.out
  have h14 : p1 ≠ p4 := by omega
  have h34 : p3 ≠ p4 := by omega
  have hg4 : w.heap.size ≤ p4 := by have := HB2.out.size; omega
  have HX1 := Aside0.mk (bk_heap_below HX1.out hb4)
  have HX3 := Aside0.mk (bk_heap_below HX3.out hb4)
  have HB3 := Aside0.mk (below_step HB2.out hb4)
  clear hp4 hb4 hl1 hl3 HB2
  go_wp2_with (with_reducible refine is_store rfl ?_; refine Rg.stop_here ?_)
  refine ⟨?_⟩
  refine wpList_store_box rfl rfl _ _ _ rfl p4 _ _ _ rfl rfl hbx4 fa_size rfl (by repeat (first | exact List.forall_mem_nil _ | refine List.forall_mem_cons.2 ⟨rfl, ?_⟩)) ?_
  intro w4 hx4 hst hot
  have HX4 := Aside0.mk hx4
  have HX1 := Aside0.mk ((hot p1 h14).trans HX1.out)
  have HX3 := Aside0.mk ((hot p3 h34).trans HX3.out)
  have HB := Aside0.mk (show Below w.heap.size w w4 from ⟨(hst p4 (Nat.le_refl _)).os.trans HB3.out.os, (hst p4 (Nat.le_refl _)).tape.trans HB3.out.tape, (hst p4 (Nat.le_refl _)).output.trans HB3.out.output, Nat.le_trans HB3.out.size (hst p4 (Nat.le_refl _)).size, fun k hk => (hot k (by omega)).trans (HB3.out.block k hk)⟩)
  clear hbx4 hx4 hst hot HB3
  have c3 := bk_cell HX1.out 3
  have c20 := bk_cell HX1.out 20
  have c22 := bk_cell HX1.out 22
  go_upto_region 3 with (first | (go_at_call 31; (with_reducible refine (fr_within f.f3 1 64 _).mono ?_); rintro e wa ⟨rfl, hd⟩; obtain ⟨m, rfl⟩ := fr_drawn hd))
  go_cut [6] from 12 to 19 (fun v6 wx => v6 = .bool (m_in f.f17 1 8 && m_in f.f19 0 1000000000) ∧ ∃ nq, wx = w4.drewN nq)
  case first =>
    have HF := Aside0.mk (fr_within f.f17 1 8)
    cases hB : m_in f.f17 1 8 with
    | false =>
      rw [hB] at HF
      have HBB := Aside0.mk hB
      clear hB
      go_wp2_with (go_at_call 31; (with_reducible refine (HF.out _).mono ?_); rintro e wb ⟨rfl, hd2⟩; obtain ⟨m2, rfl⟩ := fr_drawn hd2)
      go_meet
      exact ⟨by rw [HBB.out]; rfl, _, by first | rfl | exact (World.drewN_drewN _ _ _)⟩
    | true =>
      rw [hB] at HF
      have HBB := Aside0.mk hB
      clear hB
      go_wp2_with (first | (go_at_call 31; (with_reducible refine (HF.out _).mono ?_); rintro e wb ⟨rfl, hd2⟩; obtain ⟨m2, rfl⟩ := fr_drawn hd2) | (go_at_call 31; (with_reducible refine (fr_within f.f19 0 1000000000 _).mono ?_); rintro e wc ⟨rfl, hd3⟩; obtain ⟨m3, rfl⟩ := fr_drawn hd3))
      go_meet
      exact ⟨by rw [HBB.out]; rfl, _, by first | rfl | exact (World.drewN_drewN _ _ _)⟩
  case rest =>
  obtain ⟨rfl, nq, rfl⟩ := hcut
  clear c3 c20 c22
  obtain ⟨w5, hw5⟩ : ∃ w5, w4.drewN nq = w5 := ⟨_, rfl⟩
  have HX1 : Aside0 (w5.heap[p1]? = some (.cells #[.int .i64 f.f0, .int .i64 f.f1, .int .i64 f.f2, .int .i64 f.f3, .string f.f4, .int .i64 f.f5, .int .i64 f.f6, .string f.f7, .string f.f8, .slice A9f f.f9.length c9f, .slice A10f f.f10.length c10f, .int .i64 f.f11.f0, .slice A12f f.f11.f1.length c12f, .int .i64 f.f11.f2, .int .i64 f.f11.f3, .int .i64 f.f12, .int .i64 f.f13, .int .i64 f.f14, .string f.f15, .string f.f16, .int .i64 f.f17, .int .i64 f.f18, .int .i64 f.f19] 28 (0, 0))) := ⟨by rw [← hw5]; exact HX1.out⟩
  have HX3 : Aside0 (w5.heap[p3]? = some (.cells #[.int .i64 0, .int .i64 0, .int .i64 0, .int .i64 0, .string (⟨#[]⟩ : ByteArray), .int .i64 0, .int .i64 0, .string (⟨#[]⟩ : ByteArray), .string (⟨#[]⟩ : ByteArray), .slice none 0 0, .slice none 0 0, .int .i64 0, .slice none 0 0, .int .i64 0, .int .i64 0, .int .i64 0, .int .i64 0, .int .i64 0, .string (⟨#[]⟩ : ByteArray), .string (⟨#[]⟩ : ByteArray), .int .i64 0, .int .i64 0, .int .i64 0] 28 (0, 0))) := ⟨by rw [← hw5]; exact HX3.out⟩
  have HX4 : Aside0 (w5.heap[p4]? = some (.cells #[.int .i64 f.f0, .int .i64 f.f1, .int .i64 f.f2, .int .i64 f.f3, .string f.f4, .int .i64 f.f5, .int .i64 f.f6, .string f.f7, .string f.f8, .slice A9f f.f9.length c9f, .slice A10f f.f10.length c10f, .int .i64 f.f11.f0, .slice A12f f.f11.f1.length c12f, .int .i64 f.f11.f2, .int .i64 f.f11.f3, .int .i64 f.f12, .int .i64 f.f13, .int .i64 f.f14, .string f.f15, .string f.f16, .int .i64 f.f17, .int .i64 f.f18, .int .i64 f.f19] 28 (0, 0))) := ⟨by rw [← hw5]; exact HX4.out⟩
  have HB := Aside0.mk (show Below w.heap.size w w5 by rw [← hw5]; exact pw_below_drewN HB.out nq)
  rw [hw5]
  clear hw5
  have hk := HK.out
  · have HKD := Aside0.mk hk
    have e1 : (f.f2 == 1) = false := by rw [hk]; rfl
    have e2 : (f.f2 == 2) = false := by rw [hk]; rfl
    have e3 : (f.f2 == 3) = true := by rw [hk]; rfl
    clear hk
    have c2 := bk_cell HX1.out 2
    have d3 := bk_cell HX4.out 3
    have z3 := bk_frozen HX4.out 3
    have d11 := bk_cell HX4.out 11
    have z11 := bk_frozen HX4.out 11
    have d12 := bk_cell HX4.out 12
    have z12 := bk_frozen HX4.out 12
    have d13 := bk_cell HX4.out 13
    have z13 := bk_frozen HX4.out 13
    have d14 := bk_cell HX4.out 14
    have z14 := bk_frozen HX4.out 14
    go_upto_region 13 with fail
    go_cut [] from 93 to 95 (fun wx => wx.heap[p4]? = some (.cells #[.int .i64 f.f0, .int .i64 f.f1, .int .i64 f.f2, .int .i64 0, .string f.f4, .int .i64 f.f5, .int .i64 f.f6, .string f.f7, .string f.f8, .slice A9f f.f9.length c9f, .slice A10f f.f10.length c10f, .int .i64 0, .slice none 0 0, .int .i64 0, .int .i64 0, .int .i64 f.f12, .int .i64 f.f13, .int .i64 f.f14, .string f.f15, .string f.f16, .int .i64 f.f17, .int .i64 f.f18, .int .i64 f.f19] 28 (0, 0)) ∧ wx.heap[p1]? = some (.cells #[.int .i64 f.f0, .int .i64 f.f1, .int .i64 f.f2, .int .i64 f.f3, .string f.f4, .int .i64 f.f5, .int .i64 f.f6, .string f.f7, .string f.f8, .slice A9f f.f9.length c9f, .slice A10f f.f10.length c10f, .int .i64 f.f11.f0, .slice A12f f.f11.f1.length c12f, .int .i64 f.f11.f2, .int .i64 f.f11.f3, .int .i64 f.f12, .int .i64 f.f13, .int .i64 f.f14, .string f.f15, .string f.f16, .int .i64 f.f17, .int .i64 f.f18, .int .i64 f.f19] 28 (0, 0)) ∧ wx.heap[p3]? = some (.cells #[.int .i64 0, .int .i64 0, .int .i64 0, .int .i64 0, .string (⟨#[]⟩ : ByteArray), .int .i64 0, .int .i64 0, .string (⟨#[]⟩ : ByteArray), .string (⟨#[]⟩ : ByteArray), .slice none 0 0, .slice none 0 0, .int .i64 0, .slice none 0 0, .int .i64 0, .int .i64 0, .int .i64 0, .int .i64 0, .int .i64 0, .string (⟨#[]⟩ : ByteArray), .string (⟨#[]⟩ : ByteArray), .int .i64 0, .int .i64 0, .int .i64 0] 28 (0, 0)) ∧ Below w.heap.size w wx)
    case first =>
      go_wp2_with fail
      go_meet
      have g0_ := HX4.out
      have g1_ := blk_set g0_ 3 (.int .i64 0)
      simp only [List.setIfInBounds_toArray, List.set_cons_zero, List.set_cons_succ] at g1_
      clear g0_
      have g2_ := blk_set g1_ 11 (.int .i64 0)
      simp only [List.setIfInBounds_toArray, List.set_cons_zero, List.set_cons_succ] at g2_
      clear g1_
      have g3_ := blk_set g2_ 12 (.slice none 0 0)
      simp only [List.setIfInBounds_toArray, List.set_cons_zero, List.set_cons_succ] at g3_
      clear g2_
      have g4_ := blk_set g3_ 13 (.int .i64 0)
      simp only [List.setIfInBounds_toArray, List.set_cons_zero, List.set_cons_succ] at g4_
      clear g3_
      have g5_ := blk_set g4_ 14 (.int .i64 0)
      simp only [List.setIfInBounds_toArray, List.set_cons_zero, List.set_cons_succ] at g5_
      clear g4_
      exact ⟨g5_, ((Below.heap_setCell _ _ _ _ h14).trans ((Below.heap_setCell _ _ _ _ h14).trans ((Below.heap_setCell _ _ _ _ h14).trans ((Below.heap_setCell _ _ _ _ h14).trans ((Below.heap_setCell _ _ _ _ h14).trans HX1.out))))), ((Below.heap_setCell _ _ _ _ h34).trans ((Below.heap_setCell _ _ _ _ h34).trans ((Below.heap_setCell _ _ _ _ h34).trans ((Below.heap_setCell _ _ _ _ h34).trans ((Below.heap_setCell _ _ _ _ h34).trans HX3.out))))), (Below.setCell (Below.setCell (Below.setCell (Below.setCell (Below.setCell HB.out hg4 _) hg4 _) hg4 _) hg4 _) hg4 _)⟩
    case rest =>
    obtain ⟨hx4, hx1, hx3, hB⟩ := hcut
    have HX1 := Aside0.mk hx1
    have HB := Aside0.mk hB
    clear hx1 hB d3 z3 d11 z11 d12 z12 d13 z13 d14 z14 c2 e1 e2 e3
    obtain ⟨w6, hw6⟩ : ∃ w6, wc = w6 := ⟨_, rfl⟩
    rw [hw6] at HX1 HB hx4 hx3 ⊢
    clear hw6
    have c11 := bk_cell HX1.out 11
    have c12 := bk_cell HX1.out 12
    have c13 := bk_cell HX1.out 13
    have c14 := bk_cell HX1.out 14
    go_wp2_with fail
    refine rg_start [8] (by kernel_rfl) rfl ?_
    refine rg_pure (N := some 96) 0 (v := _) rfl rfl (by kernel_rfl) (fun _ _ _ h => h) rfl (fun w' => by go_simp <;> with_reducible rfl) (by dsimp only [Act.put, List.setIfInBounds_toArray, List.set_cons_zero, List.set_cons_succ, ↓reduceIte]) ?_
    refine rg_pure (N := some 97) 1 (v := _) rfl rfl (by kernel_rfl) (fun _ _ _ h => h) rfl (fun w' => by go_simp <;> with_reducible rfl) (by dsimp only [Act.put, List.setIfInBounds_toArray, List.set_cons_zero, List.set_cons_succ, ↓reduceIte]) ?_
    refine rg_pureG (N := some 98) 2 (m_in f.f3 1 64) (_) rfl rfl (by kernel_rfl) (fun _ _ _ h => h) (rg_wantT rfl (by kernel_rfl)) (fun hb_ w' => by go_simp <;> with_reducible rfl) (by dsimp only [Act.put, List.setIfInBounds_toArray, List.set_cons_zero, List.set_cons_succ, ↓reduceIte]) ?_
    refine rg_loadG (N := some 99) 3 (m_in f.f3 1 64) _ rfl rfl (by kernel_rfl) (fun _ _ _ h => h) (rg_wantT rfl (by kernel_rfl)) (below_drew1 (Below.refl _ _)) (fun hb_ w' hS' => by have a_ := rg_get hS' c11; have b_ := rg_get hS' c12; have d_ := rg_get hS' c13; have e_ := rg_get hS' c14; go_simp <;> with_reducible rfl) (by dsimp only [Act.put, List.setIfInBounds_toArray, List.set_cons_zero, List.set_cons_succ, ↓reduceIte]) ?_
    refine rg_load (N := some 102) 6 rfl rfl (by kernel_rfl) (fun _ _ _ h => h) rfl (below_drew1 (Below.refl _ _)) (fun w' hS' => rg_runRow _ _ rfl p4 (by kernel_rfl) _ _ _ _ (rg_blk hS' hx4) Tryz.underlying28 rfl fa_size) (by dsimp only [Act.put, List.setIfInBounds_toArray, List.set_cons_zero, List.set_cons_succ, ↓reduceIte]) ?_
    refine rg_call (N := some 100) 4 (m_in f.f3 1 64) (.bool (m_lab f.f11)) #[.agg #[.int .i64 f.f11.f0, .slice A12f f.f11.f1.length c12f, .int .i64 f.f11.f2, .int .i64 f.f11.f3]] rfl rfl (by kernel_rfl) (by decide) (rg_wantT rfl (by kernel_rfl)) Tryz.func49 (by kernel_rfl) rfl rfl (fun hb_ => rg_args1 (by go_simp)) (below_drew1 (Below.refl _ _)) (fun hb_ w1 h1 => (fr_label f.f11 A12f c12f w1 (Kd.C_below H12.out (below_step HB.out h1)) l12).mono (fun e w2 h => ⟨h.1, below_step h1 h.2⟩)) (by dsimp only [Act.put, List.setIfInBounds_toArray, List.set_cons_zero, List.set_cons_succ, ↓reduceIte]) (fun wq1 hq1 => ?_)
    refine rg_pure (N := some 101) 5 (v := .bool ((m_in f.f3 1 64) && ((m_lab f.f11)))) rfl rfl (by kernel_rfl) (fun _ _ _ h => h) rfl (fun w' => rg_runAnd rfl (by kernel_rfl) (fun h_ => by go_simp)) (by dsimp only [Act.put, List.setIfInBounds_toArray, List.set_cons_zero, List.set_cons_succ, ↓reduceIte]) ?_
    refine rg_pure (N := some 2) 7 (v := _) rfl rfl (by kernel_rfl) (fun _ _ _ h => h) rfl (fun w' => by go_simp <;> with_reducible rfl) (by dsimp only [Act.put, List.setIfInBounds_toArray, List.set_cons_zero, List.set_cons_succ, ↓reduceIte]) ?_
    have hS9 : rgS _ _ := hq1
    refine rg_storeRow 8 rfl rfl (by kernel_rfl) (by decide) rfl 28 _ _ rfl p3 #[.int .i64 0, .int .i64 0, .int .i64 0, .int .i64 0, .string (⟨#[]⟩ : ByteArray), .int .i64 0, .int .i64 0, .string (⟨#[]⟩ : ByteArray), .string (⟨#[]⟩ : ByteArray), .slice none 0 0, .slice none 0 0, .int .i64 0, .slice none 0 0, .int .i64 0, .int .i64 0, .int .i64 0, .int .i64 0, .int .i64 0, .string (⟨#[]⟩ : ByteArray), .string (⟨#[]⟩ : ByteArray), .int .i64 0, .int .i64 0, .int .i64 0] #[.int .i64 f.f0, .int .i64 f.f1, .int .i64 f.f2, .int .i64 0, .string f.f4, .int .i64 f.f5, .int .i64 f.f6, .string f.f7, .string f.f8, .slice A9f f.f9.length c9f, .slice A10f f.f10.length c10f, .int .i64 0, .slice none 0 0, .int .i64 0, .int .i64 0, .int .i64 f.f12, .int .i64 f.f13, .int .i64 f.f14, .string f.f15, .string f.f16, .int .i64 f.f17, .int .i64 f.f18, .int .i64 f.f19] 28 (by kernel_rfl) (by kernel_rfl) (rg_blk hS9 hx3) fa_size rfl (by repeat (first | exact List.forall_mem_nil _ | refine List.forall_mem_cons.2 ⟨rfl, ?_⟩)) ?_
    intro w9 hx9 hst hot
    refine rg_done (by kernel_rfl) ?_
    have hBF : Below w.heap.size w w9 := (below_step HB.out hS9).trans (hst w.heap.size hg3)
    have HBF := Aside0.mk hBF
    have HX9 := Aside0.mk hx9
    clear hS9 hst hot hBF hx9 hx3 hx4 c11 c12 c13 c14
    go_wp2
    all_goals
      refine bodyPost_ret (rg_results2 rfl _ _ p3 _ _ _ _ rfl HX9.out Tryz.underlying28 rfl fa_size) rfl ?_
      have hBF := HBF.out
      refine ⟨#[.int .i64 f.f0, .int .i64 f.f1, .int .i64 f.f2, .int .i64 0, .string f.f4, .int .i64 f.f5, .int .i64 f.f6, .string f.f7, .string f.f8, .slice A9f f.f9.length c9f, .slice A10f f.f10.length c10f, .int .i64 0, .slice none 0 0, .int .i64 0, .int .i64 0, .int .i64 f.f12, .int .i64 f.f13, .int .i64 f.f14, .string f.f15, .string f.f16, .int .i64 f.f17, .int .i64 f.f18, .int .i64 f.f19], ?_, ?_, hBF⟩
      · exact congrArg (fun b : Bool => Ending.returned (.tuple #[.bool b, .agg #[.int .i64 f.f0, .int .i64 f.f1, .int .i64 f.f2, .int .i64 0, .string f.f4, .int .i64 f.f5, .int .i64 f.f6, .string f.f7, .string f.f8, .slice A9f f.f9.length c9f, .slice A10f f.f10.length c10f, .int .i64 0, .slice none 0 0, .int .i64 0, .int .i64 0, .int .i64 f.f12, .int .i64 f.f13, .int .i64 f.f14, .string f.f15, .string f.f16, .int .i64 f.f17, .int .i64 f.f18, .int .i64 f.f19]])) (show _ = m_used f by unfold m_used; rw [if_neg (by have := HKD.out; omega), if_neg (by have := HKD.out; omega), if_pos (by have := HKD.out; omega)]; try (first | rfl | (rw [h]; done) | (simp [h]; done) | (simp [*]; done)))
      · rw [show m_rest f = { f with f3 := 0, f11 := zLb } by unfold m_rest; rw [if_neg (by have := HKD.out; omega), if_neg (by have := HKD.out; omega), if_pos (by have := HKD.out; omega)]]
        exact faK_mk w9 { f with f3 := 0, f11 := zLb } (A9 := A9f) (c9 := c9f) l9 (Kd.C_below H9.out hBF) (A10 := A10f) (c10 := c10f) l10 (Kd.C_below H10.out hBF) (A12 := none) (c12 := 0) (Nat.le_refl 0) (fr_nilC _ _)
end Go.Proofs.YtkhgdglaophkbaaGreatDoor.PK
end
