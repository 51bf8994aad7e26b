/- Texts of this claim, one behind the other. -/
import Derived.Test.YtpgjhjlhipikgaaDoorMDx3
import Derived.Test.YtpgjhjlhipikgaaDoorMAx3
import Derived.Test.YtpgjhjlhipikgaaDoorMDx4
import Derived.Test.YtpgjhjlhipikgaaDoorMDx7
import Derived.Test.YtpgjhjlhipikgaaDoorMDx8
import Derived.Test.YtpgjhjlhipikgaaDoorMDx9
section
namespace Go.Proofs.YtpgjhjlhipikgaaDoor.PK
open Go.RowKit Go.Proofs.YtpgjhjlhipikgaaDoorW.PrintWords Go.Proofs.YtpgjhjlhipikgaaDoorW.PrintLast Go.Proofs.YtpgjhjlhipikgaaDoorW.PrintMore
attribute [local go_sem] max2_int min2_int max_two min_two max_three min_three max_four min_four   -- for this text's walks alone
set_option linter.unusedVariables false
set_option linter.unusedSimpArgs false
mutual
def copydeskref01_Int.j0 : Nat → ByteArray → Int → Bool → Option (Int × Int × Int)
  | 0, _, _, _ => none
  | k + 1, x0, x1, x20 => if x20 = true then (some (0, 0, 2)) else (copydeskref01_Int.l0 k x0 x1 0 0)
def copydeskref01_Int.l0 : Nat → ByteArray → Int → Int → Int → Option (Int × Int × Int)
  | 0, _, _, _, _ => none
  | k + 1, x0, x1, x7, x8 => if x8 < 9 then (copydeskref01_Int.j2 k x0 x1 x7 x8 (decide ((wrap64 (x1 + x8)) < (x0.size : Int)))) else (copydeskref01_Int.j2 k x0 x1 x7 x8 false)
def copydeskref01_Int.j2 : Nat → ByteArray → Int → Int → Int → Bool → Option (Int × Int × Int)
  | 0, _, _, _, _, _ => none
  | k + 1, x0, x1, x7, x8, x30 => if x30 = true then (if 0 ≤ (wrap64 (x1 + x8)) then (if (wrap64 (x1 + x8)) < (x0.size : Int) then (if 0 ≤ (wrap64 (7 * x8)) then (if (IntKind.u64.wrap (bt x0 (wrap64 (x1 + x8)))) ≥ 128 then (copydeskref01_Int.l0 k x0 x1 (IntKind.u64.wrap (x7 + (shl .u64 (Int.tmod (IntKind.u64.wrap (bt x0 (wrap64 (x1 + x8)))) 128) (wrap64 (7 * x8))))) (wrap64 (x8 + 1))) else (if (Int.tmod (IntKind.u64.wrap (x7 + (shl .u64 (Int.tmod (IntKind.u64.wrap (bt x0 (wrap64 (x1 + x8)))) 128) (wrap64 (7 * x8))))) 2) = 1 then ((copydeskref01_PutInt.f k (wrap64 ((wrap64 (-(wrap64 (IntKind.u64.wrap (Int.tdiv (IntKind.u64.wrap (x7 + (shl .u64 (Int.tmod (IntKind.u64.wrap (bt x0 (wrap64 (x1 + x8)))) 128) (wrap64 (7 * x8))))) 2))))) - 1))).bind fun bt229 => (if bt229.2 = 0 then (if 0 ≤ x1 then (if x1 ≤ (wrap64 ((wrap64 (x1 + x8)) + 1)) then (if (wrap64 ((wrap64 (x1 + x8)) + 1)) ≤ (x0.size : Int) then (if bt229.1.toList = (x0.extract (x1 : Int).toNat ((wrap64 ((wrap64 (x1 + x8)) + 1)) : Int).toNat).toList then (some (wrap64 ((wrap64 (-(wrap64 (IntKind.u64.wrap (Int.tdiv (IntKind.u64.wrap (x7 + (shl .u64 (Int.tmod (IntKind.u64.wrap (bt x0 (wrap64 (x1 + x8)))) 128) (wrap64 (7 * x8))))) 2))))) - 1), wrap64 ((wrap64 (x1 + x8)) + 1), 0)) else (some (0, 0, 10))) else (none)) else (none)) else (none)) else (some (0, 0, 10)))) else ((copydeskref01_PutInt.f k (wrap64 (IntKind.u64.wrap (Int.tdiv (IntKind.u64.wrap (x7 + (shl .u64 (Int.tmod (IntKind.u64.wrap (bt x0 (wrap64 (x1 + x8)))) 128) (wrap64 (7 * x8))))) 2)))).bind fun bt231 => (if bt231.2 = 0 then (if 0 ≤ x1 then (if x1 ≤ (wrap64 ((wrap64 (x1 + x8)) + 1)) then (if (wrap64 ((wrap64 (x1 + x8)) + 1)) ≤ (x0.size : Int) then (if bt231.1.toList = (x0.extract (x1 : Int).toNat ((wrap64 ((wrap64 (x1 + x8)) + 1)) : Int).toNat).toList then (some (wrap64 (IntKind.u64.wrap (Int.tdiv (IntKind.u64.wrap (x7 + (shl .u64 (Int.tmod (IntKind.u64.wrap (bt x0 (wrap64 (x1 + x8)))) 128) (wrap64 (7 * x8))))) 2)), wrap64 ((wrap64 (x1 + x8)) + 1), 0)) else (some (0, 0, 10))) else (none)) else (none)) else (none)) else (some (0, 0, 10)))))) else (none)) else (none)) else (none)) else (some (0, 0, 10))
end
def copydeskref01_Int.f (k : Nat) (a0 : ByteArray) (a1 : Int) : Option (Int × Int × Int) := if a1 < 0 then (copydeskref01_Int.j0 k a0 a1 true) else (copydeskref01_Int.j0 k a0 a1 (decide (a1 > (a0.size : Int))))
theorem copydeskref01_Int.mono_l : ∀ k, (∀ y0 y1 y2, LeO (copydeskref01_Int.j0 k y0 y1 y2) (copydeskref01_Int.j0 (k + 1) y0 y1 y2)) ∧ (∀ y0 y1 y2 y3, LeO (copydeskref01_Int.l0 k y0 y1 y2 y3) (copydeskref01_Int.l0 (k + 1) y0 y1 y2 y3)) ∧ (∀ y0 y1 y2 y3 y4, LeO (copydeskref01_Int.j2 k y0 y1 y2 y3 y4) (copydeskref01_Int.j2 (k + 1) y0 y1 y2 y3 y4))
  | 0 => ⟨fun _ _ _ r h => by simp [copydeskref01_Int.j0] at h, fun _ _ _ _ r h => by simp [copydeskref01_Int.l0] at h, fun _ _ _ _ _ r h => by simp [copydeskref01_Int.j2] at h⟩
  | k + 1 => by
    obtain ⟨ih0, ih1, ih2⟩ := copydeskref01_Int.mono_l k
    refine ⟨?_, ?_, ?_⟩
    · intro y0 y1 y2
      unfold copydeskref01_Int.j0
      repeat' first
      | (with_reducible exact ih0 _ _ _)
      | (with_reducible exact ih1 _ _ _ _)
      | (with_reducible exact ih2 _ _ _ _ _)
      | (with_reducible exact copydeskref01_PutInt.mono _ _)
      | (with_reducible exact LeO.refl _)
      | (with_reducible exact LeO.none _)
      | (with_reducible refine LeO.ite ?_ ?_)
      | (with_reducible refine LeO.bind ?_ (fun _ => ?_))
      | exact ih0 _ _ _
      | exact ih1 _ _ _ _
      | exact ih2 _ _ _ _ _
      | exact copydeskref01_PutInt.mono _ _
      | exact LeO.none _
      | refine LeO.ite ?_ ?_
      | refine LeO.bind ?_ (fun _ => ?_)
    · intro y0 y1 y2 y3
      unfold copydeskref01_Int.l0
      repeat' first
      | (with_reducible exact ih0 _ _ _)
      | (with_reducible exact ih1 _ _ _ _)
      | (with_reducible exact ih2 _ _ _ _ _)
      | (with_reducible exact copydeskref01_PutInt.mono _ _)
      | (with_reducible exact LeO.refl _)
      | (with_reducible exact LeO.none _)
      | (with_reducible refine LeO.ite ?_ ?_)
      | (with_reducible refine LeO.bind ?_ (fun _ => ?_))
      | exact ih0 _ _ _
      | exact ih1 _ _ _ _
      | exact ih2 _ _ _ _ _
      | exact copydeskref01_PutInt.mono _ _
      | exact LeO.none _
      | refine LeO.ite ?_ ?_
      | refine LeO.bind ?_ (fun _ => ?_)
    · intro y0 y1 y2 y3 y4
      unfold copydeskref01_Int.j2
      repeat' first
      | (with_reducible exact ih0 _ _ _)
      | (with_reducible exact ih1 _ _ _ _)
      | (with_reducible exact ih2 _ _ _ _ _)
      | (with_reducible exact copydeskref01_PutInt.mono _ _)
      | (with_reducible exact LeO.refl _)
      | (with_reducible exact LeO.none _)
      | (with_reducible refine LeO.ite ?_ ?_)
      | (with_reducible refine LeO.bind ?_ (fun _ => ?_))
      | exact ih0 _ _ _
      | exact ih1 _ _ _ _
      | exact ih2 _ _ _ _ _
      | exact copydeskref01_PutInt.mono _ _
      | exact LeO.none _
      | refine LeO.ite ?_ ?_
      | refine LeO.bind ?_ (fun _ => ?_)
theorem copydeskref01_Int.mono : ∀ a0 a1 k, LeO (copydeskref01_Int.f k a0 a1) (copydeskref01_Int.f (k + 1) a0 a1) := by
  intro a0 a1 k
  obtain ⟨ih0, ih1, ih2⟩ := copydeskref01_Int.mono_l k
  unfold copydeskref01_Int.f
  repeat' first
      | (with_reducible exact ih0 _ _ _)
      | (with_reducible exact ih1 _ _ _ _)
      | (with_reducible exact ih2 _ _ _ _ _)
      | (with_reducible exact copydeskref01_PutInt.mono _ _)
      | (with_reducible exact LeO.refl _)
      | (with_reducible exact LeO.none _)
      | (with_reducible refine LeO.ite ?_ ?_)
      | (with_reducible refine LeO.bind ?_ (fun _ => ?_))
      | exact ih0 _ _ _
      | exact ih1 _ _ _ _
      | exact ih2 _ _ _ _ _
      | exact copydeskref01_PutInt.mono _ _
      | exact LeO.none _
      | refine LeO.ite ?_ ?_
      | refine LeO.bind ?_ (fun _ => ?_)
set_option maxHeartbeats 8000000 in
set_option maxRecDepth 100000 in
theorem copydeskref01_Int.calls (k : Nat) (a0 : ByteArray) (a1 : Int) (r1 : Int) (r2 : Int) (r3 : Int) (w : World) (h : copydeskref01_Int.f k a0 a1 = some (r1, r2, r3)) :
    Calls Tryd.prog 97 #[.string a0, .int .i64 a1] w fun e w' => e = .returned (.tuple #[.int .i64 r1, .int .i64 r2, .int .i64 r3]) ∧ Below w.heap.size w w' := by
  have HB := Aside0.mk (Below.refl w.heap.size w)
  have H : (if a1 < 0 then (copydeskref01_Int.j0 k a0 a1 true) else (copydeskref01_Int.j0 k a0 a1 (decide (a1 > (a0.size : Int))))) = some (r1, r2, r3) := h
  clear h
  have HC3 := Aside0.mk H
  clear H
  go_enter Tryd.func97, Tryd.ntmps97
  go_upto_region 1 with (fail)
  go_cut [20] (fun v20 wc => ∃ (kq : Nat) (x20_2 : Bool), v20 = .bool x20_2 ∧ Aside0 (copydeskref01_Int.j0 kq a0 a1 x20_2 = some (r1, r2, r3)) ∧ Aside0 (kq ≤ k) ∧ Aside0 (Below w.heap.size w wc))
  case first =>
    have H := HC3.out
    clear HC3
    by_cases c4 : a1 < 0
    · rw [if_pos c4] at H
      have c4b0 : decide (a1 < 0) = true := decide_eq_true c4
      clear c4
      (first | rw [c4b0] | (simp only [i64_w, i32_w]; rw [c4b0]) | skip)
      have H' := Aside0.mk H
      clear H
      go_wp2
      go_meet
      case rel => exact ⟨_, (true), (by first | rfl | (simp; done) | (simp [*]; done)), H', ⟨by first | omega | exact Nat.le_refl _⟩, ⟨by repeat (first | (with_reducible first | exact HB.out | apply below_alloc | apply pw_below_drewN | apply below_drew1) | exact HB.out)⟩⟩
    · rw [if_neg c4] at H
      have c4b0 : decide (a1 < 0) = false := decide_eq_false c4
      clear c4
      (first | rw [c4b0] | (simp only [i64_w, i32_w]; rw [c4b0]) | skip)
      have H' := Aside0.mk H
      clear H
      go_wp2
      go_meet
      case rel => exact ⟨_, (decide (a1 > (a0.size : Int))), (by first | rfl | (simp; done) | (simp [*]; done)), H', ⟨by first | omega | exact Nat.le_refl _⟩, ⟨by repeat (first | (with_reducible first | exact HB.out | apply below_alloc | apply pw_below_drewN | apply below_drew1) | exact HB.out)⟩⟩
  case rest =>
    clear HC3
    try clear p2
    try clear c4
    try clear c4b0
    obtain ⟨kq, x20_2, rfl, HA, HJ2, HB⟩ := hcut
    cases kq with
    | zero => exact absurd HA.out (by simp [copydeskref01_Int.j0])
    | succ kj2 =>
      have H := HA.out
      clear HA
      simp only [copydeskref01_Int.j0] at H
      by_cases c5 : x20_2 = true
      · subst c5
        have H1 : (some (0, 0, 2)) = some (r1, r2, r3) := by rw [if_pos rfl] at H; exact H
        clear H
        have H := H1
        clear H1
        simp only [Option.some.injEq, Prod.mk.injEq] at H
        obtain ⟨rfl, rfl, rfl⟩ := H
        go_wp2
        go_ret3
        exact ⟨by first | rfl | (simp [errW_none, errW_some] <;> rfl) | (simp [*, errW_none, errW_some] <;> rfl), by repeat (first | (with_reducible first | exact HB.out | apply below_alloc | apply pw_below_drewN | apply below_drew1) | exact HB.out)⟩
      · replace c5 := Bool.eq_false_iff.mpr c5
        subst c5
        have H1 : (copydeskref01_Int.l0 kj2 a0 a1 0 0) = some (r1, r2, r3) := by rw [if_neg (show ¬ (false = true) by decide)] at H; exact H
        clear H
        have H := H1
        clear H1
        have H' := Aside0.mk H
        clear H
        go_wp2
        go_loopg [7, 8] kj2 (fun kq v7 v8 w' => ∃ (x7_2 : Int) (x8_2 : Int), v7 = .int .u64 x7_2 ∧ v8 = .int .i64 x8_2 ∧ Aside0 (copydeskref01_Int.l0 kq a0 a1 x7_2 x8_2 = some (r1, r2, r3)) ∧ Aside0 (kq ≤ kj2) ∧ Aside0 (Below w.heap.size w w'))
        case atStart => exact ⟨(0), (0), (by first | rfl | (simp; done) | (simp [*]; done)), (by first | rfl | (simp; done) | (simp [*]; done)), H', ⟨Nat.le_refl _⟩, ⟨by repeat (first | (with_reducible first | exact HB.out | apply below_alloc | apply pw_below_drewN | apply below_drew1) | exact HB.out)⟩⟩
        case round =>
          clear H'
          try clear p2
          try clear c4
          try clear c4b0
          try clear c5
          try clear p2
          obtain ⟨x7_2, x8_2, rfl, rfl, HA, HK2, HB⟩ := hrel
          cases gk with
          | zero => exact absurd HA.out (by simp [copydeskref01_Int.l0])
          | succ k2 =>
            have H := HA.out
            clear HA
            simp only [copydeskref01_Int.l0] at H
            have HC6 := Aside0.mk H
            clear H
            go_upto_region 5 with (fail)
            go_cut [30] (fun v30 wc => ∃ (kq : Nat) (x30_5 : Bool), v30 = .bool x30_5 ∧ Aside0 (copydeskref01_Int.j2 kq a0 a1 x7_2 x8_2 x30_5 = some (r1, r2, r3)) ∧ Aside0 (kq ≤ k2) ∧ Aside0 (Below w.heap.size w wc))
            case first =>
              have H := HC6.out
              clear HC6
              by_cases c7 : x8_2 < 9
              · rw [if_pos c7] at H
                have c7b0 : decide (x8_2 < 9) = true := decide_eq_true c7
                clear c7
                (first | rw [c7b0] | (simp only [i64_w, i32_w]; rw [c7b0]) | skip)
                have H' := Aside0.mk H
                clear H
                go_wp2
                go_meet
                case rel => exact ⟨_, (decide ((wrap64 (a1 + x8_2)) < (a0.size : Int))), (by first | rfl | (simp; done) | (simp [*]; done)), H', ⟨by have := HJ2.out; have := HK2.out; first | omega | exact Nat.le_refl _⟩, ⟨by repeat (first | (with_reducible first | exact HB.out | apply below_alloc | apply pw_below_drewN | apply below_drew1) | exact HB.out)⟩⟩
              · rw [if_neg c7] at H
                have c7b0 : decide (x8_2 < 9) = false := decide_eq_false c7
                clear c7
                (first | rw [c7b0] | (simp only [i64_w, i32_w]; rw [c7b0]) | skip)
                have H' := Aside0.mk H
                clear H
                go_wp2
                go_meet
                case rel => exact ⟨_, (false), (by first | rfl | (simp; done) | (simp [*]; done)), H', ⟨by have := HJ2.out; have := HK2.out; first | omega | exact Nat.le_refl _⟩, ⟨by repeat (first | (with_reducible first | exact HB.out | apply below_alloc | apply pw_below_drewN | apply below_drew1) | exact HB.out)⟩⟩
            case rest =>
              clear HC6
              try clear p2
              try clear c4
              try clear c4b0
              try clear c5
              try clear p6
              try clear c7
              try clear c7b0
              try clear p2
              obtain ⟨kq, x30_5, rfl, HA, HJ5, HB⟩ := hcut
              cases kq with
              | zero => exact absurd HA.out (by simp [copydeskref01_Int.j2])
              | succ kj5 =>
                have H := HA.out
                clear HA
                simp only [copydeskref01_Int.j2] at H
                by_cases c8 : x30_5 = true
                · subst c8
                  have H1 : (if 0 ≤ (wrap64 (a1 + x8_2)) then (if (wrap64 (a1 + x8_2)) < (a0.size : Int) then (if 0 ≤ (wrap64 (7 * x8_2)) then (if (IntKind.u64.wrap (bt a0 (wrap64 (a1 + x8_2)))) ≥ 128 then (copydeskref01_Int.l0 kj5 a0 a1 (IntKind.u64.wrap (x7_2 + (shl .u64 (Int.tmod (IntKind.u64.wrap (bt a0 (wrap64 (a1 + x8_2)))) 128) (wrap64 (7 * x8_2))))) (wrap64 (x8_2 + 1))) else (if (Int.tmod (IntKind.u64.wrap (x7_2 + (shl .u64 (Int.tmod (IntKind.u64.wrap (bt a0 (wrap64 (a1 + x8_2)))) 128) (wrap64 (7 * x8_2))))) 2) = 1 then ((copydeskref01_PutInt.f kj5 (wrap64 ((wrap64 (-(wrap64 (IntKind.u64.wrap (Int.tdiv (IntKind.u64.wrap (x7_2 + (shl .u64 (Int.tmod (IntKind.u64.wrap (bt a0 (wrap64 (a1 + x8_2)))) 128) (wrap64 (7 * x8_2))))) 2))))) - 1))).bind fun bt229 => (if bt229.2 = 0 then (if 0 ≤ a1 then (if a1 ≤ (wrap64 ((wrap64 (a1 + x8_2)) + 1)) then (if (wrap64 ((wrap64 (a1 + x8_2)) + 1)) ≤ (a0.size : Int) then (if bt229.1.toList = (a0.extract (a1 : Int).toNat ((wrap64 ((wrap64 (a1 + x8_2)) + 1)) : Int).toNat).toList then (some (wrap64 ((wrap64 (-(wrap64 (IntKind.u64.wrap (Int.tdiv (IntKind.u64.wrap (x7_2 + (shl .u64 (Int.tmod (IntKind.u64.wrap (bt a0 (wrap64 (a1 + x8_2)))) 128) (wrap64 (7 * x8_2))))) 2))))) - 1), wrap64 ((wrap64 (a1 + x8_2)) + 1), 0)) else (some (0, 0, 10))) else (none)) else (none)) else (none)) else (some (0, 0, 10)))) else ((copydeskref01_PutInt.f kj5 (wrap64 (IntKind.u64.wrap (Int.tdiv (IntKind.u64.wrap (x7_2 + (shl .u64 (Int.tmod (IntKind.u64.wrap (bt a0 (wrap64 (a1 + x8_2)))) 128) (wrap64 (7 * x8_2))))) 2)))).bind fun bt231 => (if bt231.2 = 0 then (if 0 ≤ a1 then (if a1 ≤ (wrap64 ((wrap64 (a1 + x8_2)) + 1)) then (if (wrap64 ((wrap64 (a1 + x8_2)) + 1)) ≤ (a0.size : Int) then (if bt231.1.toList = (a0.extract (a1 : Int).toNat ((wrap64 ((wrap64 (a1 + x8_2)) + 1)) : Int).toNat).toList then (some (wrap64 (IntKind.u64.wrap (Int.tdiv (IntKind.u64.wrap (x7_2 + (shl .u64 (Int.tmod (IntKind.u64.wrap (bt a0 (wrap64 (a1 + x8_2)))) 128) (wrap64 (7 * x8_2))))) 2)), wrap64 ((wrap64 (a1 + x8_2)) + 1), 0)) else (some (0, 0, 10))) else (none)) else (none)) else (none)) else (some (0, 0, 10)))))) else (none)) else (none)) else (none)) = some (r1, r2, r3) := by rw [if_pos rfl] at H; exact H
                  clear H
                  have H := H1
                  clear H1
                  obtain ⟨ji9, hji9⟩ : ∃ j_ : Int, (wrap64 (a1 + x8_2)) = j_ := ⟨_, rfl⟩
                  replace H : (if 0 ≤ (ji9) then (if (ji9) < (a0.size : Int) then (if 0 ≤ (wrap64 (7 * x8_2)) then (if (IntKind.u64.wrap (bt a0 (ji9))) ≥ 128 then (copydeskref01_Int.l0 kj5 a0 a1 (IntKind.u64.wrap (x7_2 + (shl .u64 (Int.tmod (IntKind.u64.wrap (bt a0 (ji9))) 128) (wrap64 (7 * x8_2))))) (wrap64 (x8_2 + 1))) else (if (Int.tmod (IntKind.u64.wrap (x7_2 + (shl .u64 (Int.tmod (IntKind.u64.wrap (bt a0 (ji9))) 128) (wrap64 (7 * x8_2))))) 2) = 1 then ((copydeskref01_PutInt.f kj5 (wrap64 ((wrap64 (-(wrap64 (IntKind.u64.wrap (Int.tdiv (IntKind.u64.wrap (x7_2 + (shl .u64 (Int.tmod (IntKind.u64.wrap (bt a0 (ji9))) 128) (wrap64 (7 * x8_2))))) 2))))) - 1))).bind fun bt229 => (if bt229.2 = 0 then (if 0 ≤ a1 then (if a1 ≤ (wrap64 ((ji9) + 1)) then (if (wrap64 ((ji9) + 1)) ≤ (a0.size : Int) then (if bt229.1.toList = (a0.extract (a1 : Int).toNat ((wrap64 ((ji9) + 1)) : Int).toNat).toList then (some (wrap64 ((wrap64 (-(wrap64 (IntKind.u64.wrap (Int.tdiv (IntKind.u64.wrap (x7_2 + (shl .u64 (Int.tmod (IntKind.u64.wrap (bt a0 (ji9))) 128) (wrap64 (7 * x8_2))))) 2))))) - 1), wrap64 ((ji9) + 1), 0)) else (some (0, 0, 10))) else (none)) else (none)) else (none)) else (some (0, 0, 10)))) else ((copydeskref01_PutInt.f kj5 (wrap64 (IntKind.u64.wrap (Int.tdiv (IntKind.u64.wrap (x7_2 + (shl .u64 (Int.tmod (IntKind.u64.wrap (bt a0 (ji9))) 128) (wrap64 (7 * x8_2))))) 2)))).bind fun bt231 => (if bt231.2 = 0 then (if 0 ≤ a1 then (if a1 ≤ (wrap64 ((ji9) + 1)) then (if (wrap64 ((ji9) + 1)) ≤ (a0.size : Int) then (if bt231.1.toList = (a0.extract (a1 : Int).toNat ((wrap64 ((ji9) + 1)) : Int).toNat).toList then (some (wrap64 (IntKind.u64.wrap (Int.tdiv (IntKind.u64.wrap (x7_2 + (shl .u64 (Int.tmod (IntKind.u64.wrap (bt a0 (ji9))) 128) (wrap64 (7 * x8_2))))) 2)), wrap64 ((ji9) + 1), 0)) else (some (0, 0, 10))) else (none)) else (none)) else (none)) else (some (0, 0, 10)))))) else (none)) else (none)) else (none)) = some (r1, r2, r3) := by first | (rw [hji9] at H; exact H) | (simp only [hji9] at H ⊢; exact H)
                  have hji9w : (IntKind.i64.wrap (a1 + x8_2)) = ji9 := (i64_w _).trans hji9
                  by_cases c10 : 0 ≤ (ji9)
                  · rw [if_pos c10] at H
                    have c10b0 : decide (0 ≤ (ji9)) = true := decide_eq_true c10
                    clear c10
                    by_cases c11 : (ji9) < (a0.size : Int)
                    · rw [if_pos c11] at H
                      have c11b0 : decide ((ji9) < (a0.size : Int)) = true := decide_eq_true c11
                      clear c11
                      obtain ⟨ji13, hji13⟩ : ∃ j_ : Int, (wrap64 (7 * x8_2)) = j_ := ⟨_, rfl⟩
                      replace H : (if 0 ≤ (ji13) then (if (IntKind.u64.wrap (bt a0 (ji9))) ≥ 128 then (copydeskref01_Int.l0 kj5 a0 a1 (IntKind.u64.wrap (x7_2 + (shl .u64 (Int.tmod (IntKind.u64.wrap (bt a0 (ji9))) 128) (ji13)))) (wrap64 (x8_2 + 1))) else (if (Int.tmod (IntKind.u64.wrap (x7_2 + (shl .u64 (Int.tmod (IntKind.u64.wrap (bt a0 (ji9))) 128) (ji13)))) 2) = 1 then ((copydeskref01_PutInt.f kj5 (wrap64 ((wrap64 (-(wrap64 (IntKind.u64.wrap (Int.tdiv (IntKind.u64.wrap (x7_2 + (shl .u64 (Int.tmod (IntKind.u64.wrap (bt a0 (ji9))) 128) (ji13)))) 2))))) - 1))).bind fun bt229 => (if bt229.2 = 0 then (if 0 ≤ a1 then (if a1 ≤ (wrap64 ((ji9) + 1)) then (if (wrap64 ((ji9) + 1)) ≤ (a0.size : Int) then (if bt229.1.toList = (a0.extract (a1 : Int).toNat ((wrap64 ((ji9) + 1)) : Int).toNat).toList then (some (wrap64 ((wrap64 (-(wrap64 (IntKind.u64.wrap (Int.tdiv (IntKind.u64.wrap (x7_2 + (shl .u64 (Int.tmod (IntKind.u64.wrap (bt a0 (ji9))) 128) (ji13)))) 2))))) - 1), wrap64 ((ji9) + 1), 0)) else (some (0, 0, 10))) else (none)) else (none)) else (none)) else (some (0, 0, 10)))) else ((copydeskref01_PutInt.f kj5 (wrap64 (IntKind.u64.wrap (Int.tdiv (IntKind.u64.wrap (x7_2 + (shl .u64 (Int.tmod (IntKind.u64.wrap (bt a0 (ji9))) 128) (ji13)))) 2)))).bind fun bt231 => (if bt231.2 = 0 then (if 0 ≤ a1 then (if a1 ≤ (wrap64 ((ji9) + 1)) then (if (wrap64 ((ji9) + 1)) ≤ (a0.size : Int) then (if bt231.1.toList = (a0.extract (a1 : Int).toNat ((wrap64 ((ji9) + 1)) : Int).toNat).toList then (some (wrap64 (IntKind.u64.wrap (Int.tdiv (IntKind.u64.wrap (x7_2 + (shl .u64 (Int.tmod (IntKind.u64.wrap (bt a0 (ji9))) 128) (ji13)))) 2)), wrap64 ((ji9) + 1), 0)) else (some (0, 0, 10))) else (none)) else (none)) else (none)) else (some (0, 0, 10)))))) else (none)) = some (r1, r2, r3) := by first | (rw [hji13] at H; exact H) | (simp only [hji13] at H ⊢; exact H)
                      have hji13w : (IntKind.i64.wrap (7 * x8_2)) = ji13 := (i64_w _).trans hji13
                      by_cases c14 : 0 ≤ (ji13)
                      · rw [if_pos c14] at H
                        have c14b0 := eq_true c14
                        have c14b1 : decide (0 ≤ (ji13)) = true := decide_eq_true c14
                        clear c14
                        obtain ⟨ji15, hji15⟩ : ∃ j_ : Int, (shl .u64 (Int.tmod (IntKind.u64.wrap (bt a0 (ji9))) 128) (ji13)) = j_ := ⟨_, rfl⟩
                        replace H : (if (IntKind.u64.wrap (bt a0 (ji9))) ≥ 128 then (copydeskref01_Int.l0 kj5 a0 a1 (IntKind.u64.wrap (x7_2 + (ji15))) (wrap64 (x8_2 + 1))) else (if (Int.tmod (IntKind.u64.wrap (x7_2 + (ji15))) 2) = 1 then ((copydeskref01_PutInt.f kj5 (wrap64 ((wrap64 (-(wrap64 (IntKind.u64.wrap (Int.tdiv (IntKind.u64.wrap (x7_2 + (ji15))) 2))))) - 1))).bind fun bt229 => (if bt229.2 = 0 then (if 0 ≤ a1 then (if a1 ≤ (wrap64 ((ji9) + 1)) then (if (wrap64 ((ji9) + 1)) ≤ (a0.size : Int) then (if bt229.1.toList = (a0.extract (a1 : Int).toNat ((wrap64 ((ji9) + 1)) : Int).toNat).toList then (some (wrap64 ((wrap64 (-(wrap64 (IntKind.u64.wrap (Int.tdiv (IntKind.u64.wrap (x7_2 + (ji15))) 2))))) - 1), wrap64 ((ji9) + 1), 0)) else (some (0, 0, 10))) else (none)) else (none)) else (none)) else (some (0, 0, 10)))) else ((copydeskref01_PutInt.f kj5 (wrap64 (IntKind.u64.wrap (Int.tdiv (IntKind.u64.wrap (x7_2 + (ji15))) 2)))).bind fun bt231 => (if bt231.2 = 0 then (if 0 ≤ a1 then (if a1 ≤ (wrap64 ((ji9) + 1)) then (if (wrap64 ((ji9) + 1)) ≤ (a0.size : Int) then (if bt231.1.toList = (a0.extract (a1 : Int).toNat ((wrap64 ((ji9) + 1)) : Int).toNat).toList then (some (wrap64 (IntKind.u64.wrap (Int.tdiv (IntKind.u64.wrap (x7_2 + (ji15))) 2)), wrap64 ((ji9) + 1), 0)) else (some (0, 0, 10))) else (none)) else (none)) else (none)) else (some (0, 0, 10)))))) = some (r1, r2, r3) := by first | (rw [hji15] at H; exact H) | (simp only [hji15] at H ⊢; exact H)
                        have hji15_ : (IntKind.u64.wrap ((Int.tmod (IntKind.u64.wrap (bt a0 (ji9))) 128) * 2 ^ min (ji13).toNat 64)) = ji15 := hji15
                        have hji15z : (ji13) ≤ 64 → (IntKind.u64.wrap ((Int.tmod (IntKind.u64.wrap (bt a0 (ji9))) 128) * 2 ^ (ji13).toNat)) = ji15 := shl_small hji15
                        by_cases c16 : (IntKind.u64.wrap (bt a0 (ji9))) ≥ 128
                        · rw [if_pos c16] at H
                          have c16b0 : decide (128 ≤ (IntKind.u64.wrap (bt a0 (ji9)))) = true := decide_eq_true c16
                          clear c16
                          have H' := Aside0.mk H
                          clear H
                          have p12 : 0 ≤ ((ji9) : Int) := of_decide_eq_true (by first | (with_reducible assumption) | assumption)
                          have q12 : (ji9) < (a0.size : Int) := of_decide_eq_true (by first | (with_reducible assumption) | assumption)
                          have hx12 := bt_at a0 (ji9)
                          replace p12 := eq_true p12
                          replace q12 := eq_true q12
                          go_wp2
                          go_roundg kj5
                          case measure => have := HJ2.out; have := HK2.out; have := HJ5.out; omega
                          case rel => exact ⟨(IntKind.u64.wrap (x7_2 + (ji15))), (wrap64 (x8_2 + 1)), (by first | rfl | (simp; done) | (simp only [← hji15] <;> (first | rfl | simp)) | (simp [*]; done)), (by first | rfl | (simp; done) | (simp [*]; done)), H', ⟨by have := HJ2.out; have := HK2.out; have := HJ5.out; omega⟩, ⟨by repeat (first | (with_reducible first | exact HB.out | apply below_alloc | apply pw_below_drewN | apply below_drew1) | exact HB.out)⟩⟩
                        · rw [if_neg c16] at H
                          have c16b0 : decide (128 ≤ (IntKind.u64.wrap (bt a0 (ji9)))) = false := decide_eq_false c16
                          clear c16
                          by_cases c17 : (Int.tmod (IntKind.u64.wrap (x7_2 + (ji15))) 2) = 1
                          · rw [if_pos c17] at H
                            have c17b0 : ((Int.tmod (IntKind.u64.wrap (x7_2 + (ji15))) 2) == 1) = true := beq_iff_eq.mpr c17
                            have c17b1 : ((Int.tmod (IntKind.u64.wrap (x7_2 + (ji15))) 2) != 1) = false := bne_eq_false_iff_eq.mpr c17
                            clear c17
                            replace H := Option.bind_eq_some_iff.mp H
                            obtain ⟨⟨t229, t230⟩, A180, H⟩ := H
                            replace H : (if t230 = 0 then (if 0 ≤ a1 then (if a1 ≤ (wrap64 ((ji9) + 1)) then (if (wrap64 ((ji9) + 1)) ≤ (a0.size : Int) then (if t229.toList = (a0.extract (a1 : Int).toNat ((wrap64 ((ji9) + 1)) : Int).toNat).toList then (some (wrap64 ((wrap64 (-(wrap64 (IntKind.u64.wrap (Int.tdiv (IntKind.u64.wrap (x7_2 + (ji15))) 2))))) - 1), wrap64 ((ji9) + 1), 0)) else (some (0, 0, 10))) else (none)) else (none)) else (none)) else (some (0, 0, 10))) = some (r1, r2, r3) := H
                            have A18 := Aside0.mk A180
                            clear A180
                            by_cases c19 : t230 = 0
                            · rw [if_pos c19] at H
                              have c19b0 : (t230 == 0) = true := beq_iff_eq.mpr c19
                              have c19b1 : (t230 != 0) = false := bne_eq_false_iff_eq.mpr c19
                              clear c19
                              by_cases c20 : 0 ≤ a1
                              · rw [if_pos c20] at H
                                have c20b0 := eq_true c20
                                have c20b1 : decide (0 ≤ a1) = true := decide_eq_true c20
                                clear c20
                                by_cases c21 : a1 ≤ (wrap64 ((ji9) + 1))
                                · rw [if_pos c21] at H
                                  have c21b0 := eq_true c21
                                  have c21b1 : decide (a1 ≤ (wrap64 ((ji9) + 1))) = true := decide_eq_true c21
                                  by_cases c22 : (wrap64 ((ji9) + 1)) ≤ (a0.size : Int)
                                  · rw [if_pos c22] at H
                                    have c22b0 := eq_true c22
                                    have c22b1 : decide ((wrap64 ((ji9) + 1)) ≤ (a0.size : Int)) = true := decide_eq_true c22
                                    by_cases c23 : t229.toList = (a0.extract (a1 : Int).toNat ((wrap64 ((ji9) + 1)) : Int).toNat).toList
                                    · rw [if_pos c23] at H
                                      have c23b0 : (t229.toList == (a0.extract (a1 : Int).toNat ((wrap64 ((ji9) + 1)) : Int).toNat).toList) = true := beq_iff_eq.mpr c23
                                      have c23b1 : (t229.toList != (a0.extract (a1 : Int).toNat ((wrap64 ((ji9) + 1)) : Int).toNat).toList) = false := bne_eq_false_iff_eq.mpr c23
                                      clear c23
                                      simp only [Option.some.injEq, Prod.mk.injEq] at H
                                      obtain ⟨rfl, rfl, rfl⟩ := H
                                      have p12 : 0 ≤ ((ji9) : Int) := of_decide_eq_true (by first | (with_reducible assumption) | assumption)
                                      have q12 : (ji9) < (a0.size : Int) := of_decide_eq_true (by first | (with_reducible assumption) | assumption)
                                      have hx12 := bt_at a0 (ji9)
                                      replace p12 := eq_true p12
                                      replace q12 := eq_true q12
                                      go_wp2_with (first | ((with_reducible refine gate_callee (f := 77) rfl ?_); refine goesL_ (some 59) rfl rfl Tryd.func77 (by kernel_rfl) rfl #[.int .i64 (wrap64 ((wrap64 (-(wrap64 (IntKind.u64.wrap (Int.tdiv (IntKind.u64.wrap (x7_2 + (ji15))) 2))))) - 1))] rfl (by (try simp only [List.map_toArray, List.map_cons, List.map_nil]); first | done | (simp only [hji15]; rfl) | rfl | (simp only [List.length_drop, List.length_take]; rfl)) ?_; (with_reducible refine (copydeskref01_PutInt.calls kj5 (wrap64 ((wrap64 (-(wrap64 (IntKind.u64.wrap (Int.tdiv (IntKind.u64.wrap (x7_2 + (ji15))) 2))))) - 1)) t229 t230 _ A18.out).mono ?_); rintro e w24 ⟨rfl, hb⟩; refine ⟨_, rfl, ?_⟩; have n0_ := Aside0.mk (below_step (by repeat (first | (with_reducible first | exact HB.out | apply below_alloc | apply pw_below_drewN | apply below_drew1) | exact HB.out)) hb); clear HB; have HB := n0_; clear n0_; (try clear hb); (try clear hb2); (try clear hk); (try clear hi)))
                                      go_ret3
                                      exact ⟨by first | rfl | (simp [errW_none, errW_some] <;> rfl) | (simp only [← hji9, ← hji13, ← hji15]; first | rfl | (simp [errW_none, errW_some] <;> rfl)) | (simp [*, errW_none, errW_some] <;> rfl), by repeat (first | (with_reducible first | exact HB.out | apply below_alloc | apply pw_below_drewN | apply below_drew1) | exact HB.out)⟩
                                    · rw [if_neg c23] at H
                                      have c23b0 : (t229.toList == (a0.extract (a1 : Int).toNat ((wrap64 ((ji9) + 1)) : Int).toNat).toList) = false := beq_eq_false_iff_ne.mpr c23
                                      have c23b1 : (t229.toList != (a0.extract (a1 : Int).toNat ((wrap64 ((ji9) + 1)) : Int).toNat).toList) = true := bne_iff_ne.mpr c23
                                      simp only [Option.some.injEq, Prod.mk.injEq] at H
                                      obtain ⟨rfl, rfl, rfl⟩ := H
                                      have p12 : 0 ≤ ((ji9) : Int) := of_decide_eq_true (by first | (with_reducible assumption) | assumption)
                                      have q12 : (ji9) < (a0.size : Int) := of_decide_eq_true (by first | (with_reducible assumption) | assumption)
                                      have hx12 := bt_at a0 (ji9)
                                      replace p12 := eq_true p12
                                      replace q12 := eq_true q12
                                      go_wp2_with (first | ((with_reducible refine gate_callee (f := 77) rfl ?_); refine goesL_ (some 59) rfl rfl Tryd.func77 (by kernel_rfl) rfl #[.int .i64 (wrap64 ((wrap64 (-(wrap64 (IntKind.u64.wrap (Int.tdiv (IntKind.u64.wrap (x7_2 + (ji15))) 2))))) - 1))] rfl (by (try simp only [List.map_toArray, List.map_cons, List.map_nil]); first | done | (simp only [hji15]; rfl) | rfl | (simp only [List.length_drop, List.length_take]; rfl)) ?_; (with_reducible refine (copydeskref01_PutInt.calls kj5 (wrap64 ((wrap64 (-(wrap64 (IntKind.u64.wrap (Int.tdiv (IntKind.u64.wrap (x7_2 + (ji15))) 2))))) - 1)) t229 t230 _ A18.out).mono ?_); rintro e w25 ⟨rfl, hb⟩; refine ⟨_, rfl, ?_⟩; have n0_ := Aside0.mk (below_step (by repeat (first | (with_reducible first | exact HB.out | apply below_alloc | apply pw_below_drewN | apply below_drew1) | exact HB.out)) hb); clear HB; have HB := n0_; clear n0_; (try clear hb); (try clear hb2); (try clear hk); (try clear hi)))
                                      go_ret3
                                      exact ⟨by first | rfl | (simp [errW_none, errW_some] <;> rfl) | (simp only [← hji9, ← hji13, ← hji15]; first | rfl | (simp [errW_none, errW_some] <;> rfl)) | (simp [*, errW_none, errW_some] <;> rfl), by repeat (first | (with_reducible first | exact HB.out | apply below_alloc | apply pw_below_drewN | apply below_drew1) | exact HB.out)⟩
                                  · rw [if_neg c22] at H
                                    exact absurd H (by simp)
                                · rw [if_neg c21] at H
                                  exact absurd H (by simp)
                              · rw [if_neg c20] at H
                                exact absurd H (by simp)
                            · rw [if_neg c19] at H
                              have c19b0 : (t230 == 0) = false := beq_eq_false_iff_ne.mpr c19
                              have c19b1 : (t230 != 0) = true := bne_iff_ne.mpr c19
                              simp only [Option.some.injEq, Prod.mk.injEq] at H
                              obtain ⟨rfl, rfl, rfl⟩ := H
                              have p12 : 0 ≤ ((ji9) : Int) := of_decide_eq_true (by first | (with_reducible assumption) | assumption)
                              have q12 : (ji9) < (a0.size : Int) := of_decide_eq_true (by first | (with_reducible assumption) | assumption)
                              have hx12 := bt_at a0 (ji9)
                              replace p12 := eq_true p12
                              replace q12 := eq_true q12
                              go_wp2_with (first | ((with_reducible refine gate_callee (f := 77) rfl ?_); refine goesL_ (some 59) rfl rfl Tryd.func77 (by kernel_rfl) rfl #[.int .i64 (wrap64 ((wrap64 (-(wrap64 (IntKind.u64.wrap (Int.tdiv (IntKind.u64.wrap (x7_2 + (ji15))) 2))))) - 1))] rfl (by (try simp only [List.map_toArray, List.map_cons, List.map_nil]); first | done | (simp only [hji15]; rfl) | rfl | (simp only [List.length_drop, List.length_take]; rfl)) ?_; (with_reducible refine (copydeskref01_PutInt.calls kj5 (wrap64 ((wrap64 (-(wrap64 (IntKind.u64.wrap (Int.tdiv (IntKind.u64.wrap (x7_2 + (ji15))) 2))))) - 1)) t229 t230 _ A18.out).mono ?_); rintro e w26 ⟨rfl, hb⟩; refine ⟨_, rfl, ?_⟩; have n0_ := Aside0.mk (below_step (by repeat (first | (with_reducible first | exact HB.out | apply below_alloc | apply pw_below_drewN | apply below_drew1) | exact HB.out)) hb); clear HB; have HB := n0_; clear n0_; (try clear hb); (try clear hb2); (try clear hk); (try clear hi)))
                              go_ret3
                              exact ⟨by first | rfl | (simp [errW_none, errW_some] <;> rfl) | (simp only [← hji9, ← hji13, ← hji15]; first | rfl | (simp [errW_none, errW_some] <;> rfl)) | (simp [*, errW_none, errW_some] <;> rfl), by repeat (first | (with_reducible first | exact HB.out | apply below_alloc | apply pw_below_drewN | apply below_drew1) | exact HB.out)⟩
                          · rw [if_neg c17] at H
                            have c17b0 : ((Int.tmod (IntKind.u64.wrap (x7_2 + (ji15))) 2) == 1) = false := beq_eq_false_iff_ne.mpr c17
                            have c17b1 : ((Int.tmod (IntKind.u64.wrap (x7_2 + (ji15))) 2) != 1) = true := bne_iff_ne.mpr c17
                            replace H := Option.bind_eq_some_iff.mp H
                            obtain ⟨⟨t231, t232⟩, A270, H⟩ := H
                            replace H : (if t232 = 0 then (if 0 ≤ a1 then (if a1 ≤ (wrap64 ((ji9) + 1)) then (if (wrap64 ((ji9) + 1)) ≤ (a0.size : Int) then (if t231.toList = (a0.extract (a1 : Int).toNat ((wrap64 ((ji9) + 1)) : Int).toNat).toList then (some (wrap64 (IntKind.u64.wrap (Int.tdiv (IntKind.u64.wrap (x7_2 + (ji15))) 2)), wrap64 ((ji9) + 1), 0)) else (some (0, 0, 10))) else (none)) else (none)) else (none)) else (some (0, 0, 10))) = some (r1, r2, r3) := H
                            have A27 := Aside0.mk A270
                            clear A270
                            by_cases c28 : t232 = 0
                            · rw [if_pos c28] at H
                              have c28b0 : (t232 == 0) = true := beq_iff_eq.mpr c28
                              have c28b1 : (t232 != 0) = false := bne_eq_false_iff_eq.mpr c28
                              clear c28
                              by_cases c29 : 0 ≤ a1
                              · rw [if_pos c29] at H
                                have c29b0 := eq_true c29
                                have c29b1 : decide (0 ≤ a1) = true := decide_eq_true c29
                                clear c29
                                by_cases c30 : a1 ≤ (wrap64 ((ji9) + 1))
                                · rw [if_pos c30] at H
                                  have c30b0 := eq_true c30
                                  have c30b1 : decide (a1 ≤ (wrap64 ((ji9) + 1))) = true := decide_eq_true c30
                                  by_cases c31 : (wrap64 ((ji9) + 1)) ≤ (a0.size : Int)
                                  · rw [if_pos c31] at H
                                    have c31b0 := eq_true c31
                                    have c31b1 : decide ((wrap64 ((ji9) + 1)) ≤ (a0.size : Int)) = true := decide_eq_true c31
                                    by_cases c32 : t231.toList = (a0.extract (a1 : Int).toNat ((wrap64 ((ji9) + 1)) : Int).toNat).toList
                                    · rw [if_pos c32] at H
                                      have c32b0 : (t231.toList == (a0.extract (a1 : Int).toNat ((wrap64 ((ji9) + 1)) : Int).toNat).toList) = true := beq_iff_eq.mpr c32
                                      have c32b1 : (t231.toList != (a0.extract (a1 : Int).toNat ((wrap64 ((ji9) + 1)) : Int).toNat).toList) = false := bne_eq_false_iff_eq.mpr c32
                                      clear c32
                                      simp only [Option.some.injEq, Prod.mk.injEq] at H
                                      obtain ⟨rfl, rfl, rfl⟩ := H
                                      have p12 : 0 ≤ ((ji9) : Int) := of_decide_eq_true (by first | (with_reducible assumption) | assumption)
                                      have q12 : (ji9) < (a0.size : Int) := of_decide_eq_true (by first | (with_reducible assumption) | assumption)
                                      have hx12 := bt_at a0 (ji9)
                                      replace p12 := eq_true p12
                                      replace q12 := eq_true q12
                                      go_wp2_with (first | ((with_reducible refine gate_callee (f := 77) rfl ?_); refine goesL_ (some 59) rfl rfl Tryd.func77 (by kernel_rfl) rfl #[.int .i64 (wrap64 (IntKind.u64.wrap (Int.tdiv (IntKind.u64.wrap (x7_2 + (ji15))) 2)))] rfl (by (try simp only [List.map_toArray, List.map_cons, List.map_nil]); first | done | (simp only [hji15]; rfl) | rfl | (simp only [List.length_drop, List.length_take]; rfl)) ?_; (with_reducible refine (copydeskref01_PutInt.calls kj5 (wrap64 (IntKind.u64.wrap (Int.tdiv (IntKind.u64.wrap (x7_2 + (ji15))) 2))) t231 t232 _ A27.out).mono ?_); rintro e w33 ⟨rfl, hb⟩; refine ⟨_, rfl, ?_⟩; have n0_ := Aside0.mk (below_step (by repeat (first | (with_reducible first | exact HB.out | apply below_alloc | apply pw_below_drewN | apply below_drew1) | exact HB.out)) hb); clear HB; have HB := n0_; clear n0_; (try clear hb); (try clear hb2); (try clear hk); (try clear hi)))
                                      go_ret3
                                      exact ⟨by first | rfl | (simp [errW_none, errW_some] <;> rfl) | (simp only [← hji9, ← hji13, ← hji15]; first | rfl | (simp [errW_none, errW_some] <;> rfl)) | (simp [*, errW_none, errW_some] <;> rfl), by repeat (first | (with_reducible first | exact HB.out | apply below_alloc | apply pw_below_drewN | apply below_drew1) | exact HB.out)⟩
                                    · rw [if_neg c32] at H
                                      have c32b0 : (t231.toList == (a0.extract (a1 : Int).toNat ((wrap64 ((ji9) + 1)) : Int).toNat).toList) = false := beq_eq_false_iff_ne.mpr c32
                                      have c32b1 : (t231.toList != (a0.extract (a1 : Int).toNat ((wrap64 ((ji9) + 1)) : Int).toNat).toList) = true := bne_iff_ne.mpr c32
                                      simp only [Option.some.injEq, Prod.mk.injEq] at H
                                      obtain ⟨rfl, rfl, rfl⟩ := H
                                      have p12 : 0 ≤ ((ji9) : Int) := of_decide_eq_true (by first | (with_reducible assumption) | assumption)
                                      have q12 : (ji9) < (a0.size : Int) := of_decide_eq_true (by first | (with_reducible assumption) | assumption)
                                      have hx12 := bt_at a0 (ji9)
                                      replace p12 := eq_true p12
                                      replace q12 := eq_true q12
                                      go_wp2_with (first | ((with_reducible refine gate_callee (f := 77) rfl ?_); refine goesL_ (some 59) rfl rfl Tryd.func77 (by kernel_rfl) rfl #[.int .i64 (wrap64 (IntKind.u64.wrap (Int.tdiv (IntKind.u64.wrap (x7_2 + (ji15))) 2)))] rfl (by (try simp only [List.map_toArray, List.map_cons, List.map_nil]); first | done | (simp only [hji15]; rfl) | rfl | (simp only [List.length_drop, List.length_take]; rfl)) ?_; (with_reducible refine (copydeskref01_PutInt.calls kj5 (wrap64 (IntKind.u64.wrap (Int.tdiv (IntKind.u64.wrap (x7_2 + (ji15))) 2))) t231 t232 _ A27.out).mono ?_); rintro e w34 ⟨rfl, hb⟩; refine ⟨_, rfl, ?_⟩; have n0_ := Aside0.mk (below_step (by repeat (first | (with_reducible first | exact HB.out | apply below_alloc | apply pw_below_drewN | apply below_drew1) | exact HB.out)) hb); clear HB; have HB := n0_; clear n0_; (try clear hb); (try clear hb2); (try clear hk); (try clear hi)))
                                      go_ret3
                                      exact ⟨by first | rfl | (simp [errW_none, errW_some] <;> rfl) | (simp only [← hji9, ← hji13, ← hji15]; first | rfl | (simp [errW_none, errW_some] <;> rfl)) | (simp [*, errW_none, errW_some] <;> rfl), by repeat (first | (with_reducible first | exact HB.out | apply below_alloc | apply pw_below_drewN | apply below_drew1) | exact HB.out)⟩
                                  · rw [if_neg c31] at H
                                    exact absurd H (by simp)
                                · rw [if_neg c30] at H
                                  exact absurd H (by simp)
                              · rw [if_neg c29] at H
                                exact absurd H (by simp)
                            · rw [if_neg c28] at H
                              have c28b0 : (t232 == 0) = false := beq_eq_false_iff_ne.mpr c28
                              have c28b1 : (t232 != 0) = true := bne_iff_ne.mpr c28
                              simp only [Option.some.injEq, Prod.mk.injEq] at H
                              obtain ⟨rfl, rfl, rfl⟩ := H
                              have p12 : 0 ≤ ((ji9) : Int) := of_decide_eq_true (by first | (with_reducible assumption) | assumption)
                              have q12 : (ji9) < (a0.size : Int) := of_decide_eq_true (by first | (with_reducible assumption) | assumption)
                              have hx12 := bt_at a0 (ji9)
                              replace p12 := eq_true p12
                              replace q12 := eq_true q12
                              go_wp2_with (first | ((with_reducible refine gate_callee (f := 77) rfl ?_); refine goesL_ (some 59) rfl rfl Tryd.func77 (by kernel_rfl) rfl #[.int .i64 (wrap64 (IntKind.u64.wrap (Int.tdiv (IntKind.u64.wrap (x7_2 + (ji15))) 2)))] rfl (by (try simp only [List.map_toArray, List.map_cons, List.map_nil]); first | done | (simp only [hji15]; rfl) | rfl | (simp only [List.length_drop, List.length_take]; rfl)) ?_; (with_reducible refine (copydeskref01_PutInt.calls kj5 (wrap64 (IntKind.u64.wrap (Int.tdiv (IntKind.u64.wrap (x7_2 + (ji15))) 2))) t231 t232 _ A27.out).mono ?_); rintro e w35 ⟨rfl, hb⟩; refine ⟨_, rfl, ?_⟩; have n0_ := Aside0.mk (below_step (by repeat (first | (with_reducible first | exact HB.out | apply below_alloc | apply pw_below_drewN | apply below_drew1) | exact HB.out)) hb); clear HB; have HB := n0_; clear n0_; (try clear hb); (try clear hb2); (try clear hk); (try clear hi)))
                              go_ret3
                              exact ⟨by first | rfl | (simp [errW_none, errW_some] <;> rfl) | (simp only [← hji9, ← hji13, ← hji15]; first | rfl | (simp [errW_none, errW_some] <;> rfl)) | (simp [*, errW_none, errW_some] <;> rfl), by repeat (first | (with_reducible first | exact HB.out | apply below_alloc | apply pw_below_drewN | apply below_drew1) | exact HB.out)⟩
                      · rw [if_neg c14] at H
                        exact absurd H (by simp)
                    · rw [if_neg c11] at H
                      exact absurd H (by simp)
                  · rw [if_neg c10] at H
                    exact absurd H (by simp)
                · replace c8 := Bool.eq_false_iff.mpr c8
                  subst c8
                  have H1 : (some (0, 0, 10)) = some (r1, r2, r3) := by rw [if_neg (show ¬ (false = true) by decide)] at H; exact H
                  clear H
                  have H := H1
                  clear H1
                  simp only [Option.some.injEq, Prod.mk.injEq] at H
                  obtain ⟨rfl, rfl, rfl⟩ := H
                  go_wp2
                  go_ret3
                  exact ⟨by first | rfl | (simp [errW_none, errW_some] <;> rfl) | (simp [*, errW_none, errW_some] <;> rfl), by repeat (first | (with_reducible first | exact HB.out | apply below_alloc | apply pw_below_drewN | apply below_drew1) | exact HB.out)⟩
end Go.Proofs.YtpgjhjlhipikgaaDoor.PK
end
section
namespace Go.Proofs.YtpgjhjlhipikgaaDoor.PK
open Go.RowKit Go.Proofs.YtpgjhjlhipikgaaDoorW.PrintWords Go.Proofs.YtpgjhjlhipikgaaDoorW.PrintLast Go.Proofs.YtpgjhjlhipikgaaDoorW.PrintMore
attribute [local go_sem] max2_int min2_int max_two min_two max_three min_three max_four min_four   -- for this text's walks alone
set_option linter.unusedVariables false
set_option linter.unusedSimpArgs false
def copydeskref01_String.f (k : Nat) (a0 : ByteArray) (a1 : Int) : Option (ByteArray × Int × Int) := (copydeskref01_Int.f k a0 a1).bind fun bt236 => (if bt236.2.2 = 0 then (if bt236.1 < 0 then (some ((⟨#[]⟩ : ByteArray), 0, 10)) else (if bt236.1 > 65536 then (some ((⟨#[]⟩ : ByteArray), 0, 10)) else (if bt236.1 > (wrap64 ((a0.size : Int) - bt236.2.1)) then (some ((⟨#[]⟩ : ByteArray), 0, 10)) else (if 0 ≤ bt236.2.1 then (if bt236.2.1 ≤ (wrap64 (bt236.2.1 + bt236.1)) then (if (wrap64 (bt236.2.1 + bt236.1)) ≤ (a0.size : Int) then (some (a0.extract (bt236.2.1 : Int).toNat ((wrap64 (bt236.2.1 + bt236.1)) : Int).toNat, wrap64 (bt236.2.1 + bt236.1), 0)) else (none)) else (none)) else (none))))) else (some ((⟨#[]⟩ : ByteArray), 0, bt236.2.2)))
theorem copydeskref01_String.mono : ∀ a0 a1 k, LeO (copydeskref01_String.f k a0 a1) (copydeskref01_String.f (k + 1) a0 a1) := by
  intro a0 a1 k
  unfold copydeskref01_String.f
  repeat' first
      | (with_reducible exact copydeskref01_Int.mono _ _ _)
      | (with_reducible exact LeO.refl _)
      | (with_reducible exact LeO.none _)
      | (with_reducible refine LeO.ite ?_ ?_)
      | (with_reducible refine LeO.bind ?_ (fun _ => ?_))
      | exact copydeskref01_Int.mono _ _ _
      | exact LeO.none _
      | refine LeO.ite ?_ ?_
      | refine LeO.bind ?_ (fun _ => ?_)
set_option maxHeartbeats 8000000 in
set_option maxRecDepth 100000 in
theorem copydeskref01_String.calls (k : Nat) (a0 : ByteArray) (a1 : Int) (r1 : ByteArray) (r2 : Int) (r3 : Int) (w : World) (h : copydeskref01_String.f k a0 a1 = some (r1, r2, r3)) :
    Calls Tryd.prog 98 #[.string a0, .int .i64 a1] w fun e w' => e = .returned (.tuple #[.string r1, .int .i64 r2, .int .i64 r3]) ∧ Below w.heap.size w w' := by
  have HB := Aside0.mk (Below.refl w.heap.size w)
  have H : ((copydeskref01_Int.f k a0 a1).bind fun bt236 => (if bt236.2.2 = 0 then (if bt236.1 < 0 then (some ((⟨#[]⟩ : ByteArray), 0, 10)) else (if bt236.1 > 65536 then (some ((⟨#[]⟩ : ByteArray), 0, 10)) else (if bt236.1 > (wrap64 ((a0.size : Int) - bt236.2.1)) then (some ((⟨#[]⟩ : ByteArray), 0, 10)) else (if 0 ≤ bt236.2.1 then (if bt236.2.1 ≤ (wrap64 (bt236.2.1 + bt236.1)) then (if (wrap64 (bt236.2.1 + bt236.1)) ≤ (a0.size : Int) then (some (a0.extract (bt236.2.1 : Int).toNat ((wrap64 (bt236.2.1 + bt236.1)) : Int).toNat, wrap64 (bt236.2.1 + bt236.1), 0)) else (none)) else (none)) else (none))))) else (some ((⟨#[]⟩ : ByteArray), 0, bt236.2.2)))) = some (r1, r2, r3) := h
  clear h
  replace H := Option.bind_eq_some_iff.mp H
  obtain ⟨⟨t236, t237, t238⟩, A30, H⟩ := H
  replace H : (if t238 = 0 then (if t236 < 0 then (some ((⟨#[]⟩ : ByteArray), 0, 10)) else (if t236 > 65536 then (some ((⟨#[]⟩ : ByteArray), 0, 10)) else (if t236 > (wrap64 ((a0.size : Int) - t237)) then (some ((⟨#[]⟩ : ByteArray), 0, 10)) else (if 0 ≤ t237 then (if t237 ≤ (wrap64 (t237 + t236)) then (if (wrap64 (t237 + t236)) ≤ (a0.size : Int) then (some (a0.extract (t237 : Int).toNat ((wrap64 (t237 + t236)) : Int).toNat, wrap64 (t237 + t236), 0)) else (none)) else (none)) else (none))))) else (some ((⟨#[]⟩ : ByteArray), 0, t238))) = some (r1, r2, r3) := H
  have A3 := Aside0.mk A30
  clear A30
  by_cases c4 : t238 = 0
  · rw [if_pos c4] at H
    have c4b0 : (t238 == 0) = true := beq_iff_eq.mpr c4
    have c4b1 : (t238 != 0) = false := bne_eq_false_iff_eq.mpr c4
    clear c4
    by_cases c5 : t236 < 0
    · rw [if_pos c5] at H
      have c5b0 : decide (t236 < 0) = true := decide_eq_true c5
      clear c5
      simp only [Option.some.injEq, Prod.mk.injEq] at H
      obtain ⟨rfl, rfl, rfl⟩ := H
      go_enter Tryd.func98, Tryd.ntmps98
      go_wp2_with (first | ((with_reducible refine gate_callee (f := 97) rfl ?_); refine goesL_ (some 13) rfl rfl Tryd.func97 (by kernel_rfl) rfl #[.string a0, .int .i64 a1] rfl (by (try simp only [List.map_toArray, List.map_cons, List.map_nil]); first | done | rfl | (simp only [List.length_drop, List.length_take]; rfl)) ?_; (with_reducible refine (copydeskref01_Int.calls k a0 a1 t236 t237 t238 _ A3.out).mono ?_); rintro e w6 ⟨rfl, hb⟩; refine ⟨_, rfl, ?_⟩; have n0_ := Aside0.mk (below_step (by repeat (first | (with_reducible first | exact HB.out | apply below_alloc | apply pw_below_drewN | apply below_drew1) | exact HB.out)) hb); clear HB; have HB := n0_; clear n0_; (try clear hb); (try clear hb2); (try clear hk); (try clear hi)))
      go_ret3
      exact ⟨by first | rfl | (simp [errW_none, errW_some] <;> rfl) | (simp [*, errW_none, errW_some] <;> rfl), by repeat (first | (with_reducible first | exact HB.out | apply below_alloc | apply pw_below_drewN | apply below_drew1) | exact HB.out)⟩
    · rw [if_neg c5] at H
      have c5b0 : decide (t236 < 0) = false := decide_eq_false c5
      clear c5
      by_cases c7 : t236 > 65536
      · rw [if_pos c7] at H
        have c7b0 : decide (65536 < t236) = true := decide_eq_true c7
        clear c7
        simp only [Option.some.injEq, Prod.mk.injEq] at H
        obtain ⟨rfl, rfl, rfl⟩ := H
        go_enter Tryd.func98, Tryd.ntmps98
        go_wp2_with (first | ((with_reducible refine gate_callee (f := 97) rfl ?_); refine goesL_ (some 13) rfl rfl Tryd.func97 (by kernel_rfl) rfl #[.string a0, .int .i64 a1] rfl (by (try simp only [List.map_toArray, List.map_cons, List.map_nil]); first | done | rfl | (simp only [List.length_drop, List.length_take]; rfl)) ?_; (with_reducible refine (copydeskref01_Int.calls k a0 a1 t236 t237 t238 _ A3.out).mono ?_); rintro e w8 ⟨rfl, hb⟩; refine ⟨_, rfl, ?_⟩; have n0_ := Aside0.mk (below_step (by repeat (first | (with_reducible first | exact HB.out | apply below_alloc | apply pw_below_drewN | apply below_drew1) | exact HB.out)) hb); clear HB; have HB := n0_; clear n0_; (try clear hb); (try clear hb2); (try clear hk); (try clear hi)))
        go_ret3
        exact ⟨by first | rfl | (simp [errW_none, errW_some] <;> rfl) | (simp [*, errW_none, errW_some] <;> rfl), by repeat (first | (with_reducible first | exact HB.out | apply below_alloc | apply pw_below_drewN | apply below_drew1) | exact HB.out)⟩
      · rw [if_neg c7] at H
        have c7b0 : decide (65536 < t236) = false := decide_eq_false c7
        clear c7
        by_cases c9 : t236 > (wrap64 ((a0.size : Int) - t237))
        · rw [if_pos c9] at H
          have c9b0 : decide ((wrap64 ((a0.size : Int) - t237)) < t236) = true := decide_eq_true c9
          clear c9
          simp only [Option.some.injEq, Prod.mk.injEq] at H
          obtain ⟨rfl, rfl, rfl⟩ := H
          go_enter Tryd.func98, Tryd.ntmps98
          go_wp2_with (first | ((with_reducible refine gate_callee (f := 97) rfl ?_); refine goesL_ (some 13) rfl rfl Tryd.func97 (by kernel_rfl) rfl #[.string a0, .int .i64 a1] rfl (by (try simp only [List.map_toArray, List.map_cons, List.map_nil]); first | done | rfl | (simp only [List.length_drop, List.length_take]; rfl)) ?_; (with_reducible refine (copydeskref01_Int.calls k a0 a1 t236 t237 t238 _ A3.out).mono ?_); rintro e w10 ⟨rfl, hb⟩; refine ⟨_, rfl, ?_⟩; have n0_ := Aside0.mk (below_step (by repeat (first | (with_reducible first | exact HB.out | apply below_alloc | apply pw_below_drewN | apply below_drew1) | exact HB.out)) hb); clear HB; have HB := n0_; clear n0_; (try clear hb); (try clear hb2); (try clear hk); (try clear hi)))
          go_ret3
          exact ⟨by first | rfl | (simp [errW_none, errW_some] <;> rfl) | (simp [*, errW_none, errW_some] <;> rfl), by repeat (first | (with_reducible first | exact HB.out | apply below_alloc | apply pw_below_drewN | apply below_drew1) | exact HB.out)⟩
        · rw [if_neg c9] at H
          have c9b0 : decide ((wrap64 ((a0.size : Int) - t237)) < t236) = false := decide_eq_false c9
          clear c9
          by_cases c11 : 0 ≤ t237
          · rw [if_pos c11] at H
            have c11b0 := eq_true c11
            have c11b1 : decide (0 ≤ t237) = true := decide_eq_true c11
            clear c11
            by_cases c12 : t237 ≤ (wrap64 (t237 + t236))
            · rw [if_pos c12] at H
              have c12b0 := eq_true c12
              have c12b1 : decide (t237 ≤ (wrap64 (t237 + t236))) = true := decide_eq_true c12
              by_cases c13 : (wrap64 (t237 + t236)) ≤ (a0.size : Int)
              · rw [if_pos c13] at H
                have c13b0 := eq_true c13
                have c13b1 : decide ((wrap64 (t237 + t236)) ≤ (a0.size : Int)) = true := decide_eq_true c13
                simp only [Option.some.injEq, Prod.mk.injEq] at H
                obtain ⟨rfl, rfl, rfl⟩ := H
                go_enter Tryd.func98, Tryd.ntmps98
                go_wp2_with (first | ((with_reducible refine gate_callee (f := 97) rfl ?_); refine goesL_ (some 13) rfl rfl Tryd.func97 (by kernel_rfl) rfl #[.string a0, .int .i64 a1] rfl (by (try simp only [List.map_toArray, List.map_cons, List.map_nil]); first | done | rfl | (simp only [List.length_drop, List.length_take]; rfl)) ?_; (with_reducible refine (copydeskref01_Int.calls k a0 a1 t236 t237 t238 _ A3.out).mono ?_); rintro e w14 ⟨rfl, hb⟩; refine ⟨_, rfl, ?_⟩; have n0_ := Aside0.mk (below_step (by repeat (first | (with_reducible first | exact HB.out | apply below_alloc | apply pw_below_drewN | apply below_drew1) | exact HB.out)) hb); clear HB; have HB := n0_; clear n0_; (try clear hb); (try clear hb2); (try clear hk); (try clear hi)))
                go_ret3
                exact ⟨by first | rfl | (simp [errW_none, errW_some] <;> rfl) | (simp [*, errW_none, errW_some] <;> rfl), by repeat (first | (with_reducible first | exact HB.out | apply below_alloc | apply pw_below_drewN | apply below_drew1) | exact HB.out)⟩
              · rw [if_neg c13] at H
                exact absurd H (by simp)
            · rw [if_neg c12] at H
              exact absurd H (by simp)
          · rw [if_neg c11] at H
            exact absurd H (by simp)
  · rw [if_neg c4] at H
    have c4b0 : (t238 == 0) = false := beq_eq_false_iff_ne.mpr c4
    have c4b1 : (t238 != 0) = true := bne_iff_ne.mpr c4
    simp only [Option.some.injEq, Prod.mk.injEq] at H
    obtain ⟨rfl, rfl, rfl⟩ := H
    go_enter Tryd.func98, Tryd.ntmps98
    go_wp2_with (first | ((with_reducible refine gate_callee (f := 97) rfl ?_); refine goesL_ (some 13) rfl rfl Tryd.func97 (by kernel_rfl) rfl #[.string a0, .int .i64 a1] rfl (by (try simp only [List.map_toArray, List.map_cons, List.map_nil]); first | done | rfl | (simp only [List.length_drop, List.length_take]; rfl)) ?_; (with_reducible refine (copydeskref01_Int.calls k a0 a1 t236 t237 t238 _ A3.out).mono ?_); rintro e w15 ⟨rfl, hb⟩; refine ⟨_, rfl, ?_⟩; have n0_ := Aside0.mk (below_step (by repeat (first | (with_reducible first | exact HB.out | apply below_alloc | apply pw_below_drewN | apply below_drew1) | exact HB.out)) hb); clear HB; have HB := n0_; clear n0_; (try clear hb); (try clear hb2); (try clear hk); (try clear hi)))
    go_ret3
    exact ⟨by first | rfl | (simp [errW_none, errW_some] <;> rfl) | (simp [*, errW_none, errW_some] <;> rfl), by repeat (first | (with_reducible first | exact HB.out | apply below_alloc | apply pw_below_drewN | apply below_drew1) | exact HB.out)⟩
end Go.Proofs.YtpgjhjlhipikgaaDoor.PK
end
section
namespace Go.Proofs.YtpgjhjlhipikgaaDoor.PK
open Go.RowKit Go.Proofs.YtpgjhjlhipikgaaDoorW.PrintWords Go.Proofs.YtpgjhjlhipikgaaDoorW.PrintLast Go.Proofs.YtpgjhjlhipikgaaDoorW.PrintMore
attribute [local go_sem] max2_int min2_int max_two min_two max_three min_three max_four min_four   -- for this text's walks alone
set_option linter.unusedVariables false
set_option linter.unusedSimpArgs false
def copydesklaw03_short.l0 : Nat → List (S26) → List (S26) → Int → Option ((List (S26)))
  | 0, _, _, _ => none
  | k + 1, x0, x3, x4 => if x4 < (x0.length : Int) then (if x4 < 30 then (if 0 ≤ x4 then (if 0 ≤ (mn (((rd_T26 x0 x4).f2).size : Int) 1000) then (if (mn (((rd_T26 x0 x4).f2).size : Int) 1000) ≤ (((rd_T26 x0 x4).f2).size : Int) then (if x3.length < 1466015503701 then (copydesklaw03_short.l0 k x0 (x3 ++ [(⟨(rd_T26 x0 x4).f0, (rd_T26 x0 x4).f1, ((rd_T26 x0 x4).f2).extract 0 ((mn (((rd_T26 x0 x4).f2).size : Int) 1000) : Int).toNat, (rd_T26 x0 x4).f3, (rd_T26 x0 x4).f4, (⟨(rd_T26 x0 x4).f5.f0, (rd_T26 x0 x4).f5.f1, (rd_T26 x0 x4).f5.f2, (rd_T26 x0 x4).f5.f3⟩ : S24)⟩ : S26)]) (wrap64 (x4 + 1))) else (none)) else (none)) else (none)) else (none)) else (some x3)) else (some x3)
def copydesklaw03_short.f (k : Nat) (l0 : List (S26)) : Option ((List (S26))) := copydesklaw03_short.l0 k l0 ([] : List (S26)) 0
theorem copydesklaw03_short.mono_l : ∀ k, (∀ y0 y1 y2, LeO (copydesklaw03_short.l0 k y0 y1 y2) (copydesklaw03_short.l0 (k + 1) y0 y1 y2))
  | 0 => fun _ _ _ r h => by simp [copydesklaw03_short.l0] at h
  | k + 1 => by
    have ih0 := copydesklaw03_short.mono_l k
    · intro y0 y1 y2
      unfold copydesklaw03_short.l0
      repeat' first
      | (with_reducible exact ih0 _ _ _)
      | (with_reducible exact LeO.refl _)
      | (with_reducible exact LeO.none _)
      | (with_reducible refine LeO.ite ?_ ?_)
      | (with_reducible refine LeO.bind ?_ (fun _ => ?_))
      | exact ih0 _ _ _
      | exact LeO.none _
      | refine LeO.ite ?_ ?_
      | refine LeO.bind ?_ (fun _ => ?_)
theorem copydesklaw03_short.mono : ∀ a0 k, LeO (copydesklaw03_short.f k a0) (copydesklaw03_short.f (k + 1) a0) := by
  intro a0 k
  have ih0 := copydesklaw03_short.mono_l k
  unfold copydesklaw03_short.f
  repeat' first
      | (with_reducible exact ih0 _ _ _)
      | (with_reducible exact LeO.refl _)
      | (with_reducible exact LeO.none _)
      | (with_reducible refine LeO.ite ?_ ?_)
      | (with_reducible refine LeO.bind ?_ (fun _ => ?_))
      | exact ih0 _ _ _
      | exact LeO.none _
      | refine LeO.ite ?_ ?_
      | refine LeO.bind ?_ (fun _ => ?_)
set_option maxHeartbeats 8000000 in
set_option maxRecDepth 100000 in
theorem copydesklaw03_short.calls (k : Nat) (P0_ : Nat → Prop) (A0 : Option Addr) (c0 : Nat) (l0 : List (S26)) (r : List (S26)) (w : World) (hs0 : Kd.V k26 26 w w.heap.size (fun k_ => P0_ k_) (.slice A0 l0.length c0) l0) (h : copydesklaw03_short.f k l0 = some r) :
    Calls Tryd.prog 18 #[.slice A0 l0.length c0] w fun e w' => ∃ v0_ : Value, e = .returned (v0_) ∧ Kd.N k26 26 w' w.heap.size (fun k_ => (P0_ k_ ∨ w.heap.size ≤ k_)) v0_ r ∧ Below w.heap.size w w' := by
  have hu26 := Tryd.underlying26
  have HO0 := Aside0.mk (show Kd.V k26 26 w w.heap.size (fun k_ => (P0_ k_ ∨ w.heap.size ≤ k_)) (.slice A0 l0.length c0) l0 from Kd.V_mono hs0 (fun k_ hk => .inl hk))
  have HB := Aside0.mk (Below.refl w.heap.size w)
  have H : (copydesklaw03_short.l0 k l0 ([] : List (S26)) 0) = some r := h
  clear h
  have H' := Aside0.mk H
  clear H
  go_enter Tryd.func18, Tryd.ntmps18
  go_wp2
  go_loopg [3, 4] k (fun kq v3 v4 w' => ∃ (x3_1 : List (S26)) (x4_1 : Int), v4 = .int .i64 x4_1 ∧ Aside0 (copydesklaw03_short.l0 kq l0 x3_1 x4_1 = some r) ∧ Aside0 (kq ≤ k) ∧ Aside0 (Kd.V k26 26 w' w.heap.size (fun k_ => (P0_ k_ ∨ w.heap.size ≤ k_) ∧ some k_ ≠ (v3 : Value).ownBlock) (.slice A0 l0.length c0) l0) ∧ Aside0 (Kd.N k26 26 w' w.heap.size (fun k_ => (P0_ k_ ∨ w.heap.size ≤ k_)) v3 x3_1) ∧ Aside0 (Below w.heap.size w w'))
  case atStart => exact ⟨(([] : List (S26))), (0), (by first | rfl | (simp; done) | (simp [*]; done)), H', ⟨Nat.le_refl _⟩, ⟨by (with_reducible repeat (first | apply Kd.V_alloc | apply Kd.V_drewN | apply Kd.V_drew)); exact Kd.V_mono HO0.out (fun _ hk => ⟨hk, (by simp [Value.ownBlock])⟩)⟩, ⟨by first | exact Kd.S_nil _ _ _ _ _ | exact Kd.N_nil _ _ _ _ _ | exact Kd.V_nil _ _ _ _ _ | exact Kd.Q_nil _ _ _ _ _ | exact Kd.R_nil _ _ _ _ _⟩, ⟨by repeat (first | (with_reducible first | exact HB.out | apply below_alloc | apply pw_below_drewN | apply below_drew1) | exact HB.out)⟩⟩
  case round =>
    clear H'
    try clear c1
    obtain ⟨x3_1, x4_1, rfl, HA, HK1, HO_0, HO_3, HB⟩ := hrel
    cases gk with
    | zero => exact absurd HA.out (by simp [copydesklaw03_short.l0])
    | succ k1 =>
      have H := HA.out
      clear HA
      simp only [copydesklaw03_short.l0] at H
      by_cases c2 : x4_1 < (l0.length : Int)
      · rw [if_pos c2] at H
        have c2b0 : decide (x4_1 < (l0.length : Int)) = true := decide_eq_true c2
        clear c2
        by_cases c3 : x4_1 < 30
        · rw [if_pos c3] at H
          have c3b0 : decide (x4_1 < 30) = true := decide_eq_true c3
          clear c3
          by_cases c4 : 0 ≤ x4_1
          · rw [if_pos c4] at H
            have c4b0 : decide (0 ≤ x4_1) = true := decide_eq_true c4
            clear c4
            obtain ⟨ji5, hji5⟩ : ∃ j_ : Int, (mn (((rd_T26 l0 x4_1).f2).size : Int) 1000) = j_ := ⟨_, rfl⟩
            replace H : (if 0 ≤ (ji5) then (if (ji5) ≤ (((rd_T26 l0 x4_1).f2).size : Int) then (if x3_1.length < 1466015503701 then (copydesklaw03_short.l0 k1 l0 (x3_1 ++ [(⟨(rd_T26 l0 x4_1).f0, (rd_T26 l0 x4_1).f1, ((rd_T26 l0 x4_1).f2).extract 0 ((ji5) : Int).toNat, (rd_T26 l0 x4_1).f3, (rd_T26 l0 x4_1).f4, (⟨(rd_T26 l0 x4_1).f5.f0, (rd_T26 l0 x4_1).f5.f1, (rd_T26 l0 x4_1).f5.f2, (rd_T26 l0 x4_1).f5.f3⟩ : S24)⟩ : S26)]) (wrap64 (x4_1 + 1))) else (none)) else (none)) else (none)) = some r := by first | (rw [hji5] at H; exact H) | (simp only [hji5] at H ⊢; exact H)
            have hji5_ : (if 1000 < (((rd_T26 l0 x4_1).f2).size : Int) then 1000 else (((rd_T26 l0 x4_1).f2).size : Int)) = ji5 := hji5
            by_cases c6 : 0 ≤ (ji5)
            · rw [if_pos c6] at H
              have c6b0 := eq_true c6
              have c6b1 : decide (0 ≤ (ji5)) = true := decide_eq_true c6
              clear c6
              by_cases c7 : (ji5) ≤ (((rd_T26 l0 x4_1).f2).size : Int)
              · rw [if_pos c7] at H
                have c7b0 := eq_true c7
                have c7b1 : decide ((ji5) ≤ (((rd_T26 l0 x4_1).f2).size : Int)) = true := decide_eq_true c7
                clear c7
                by_cases c8 : x3_1.length < 1466015503701
                · rw [if_pos c8] at H
                  have LMc8 := Aside0.mk c8
                  clear c8
                  obtain ⟨y141, hy141⟩ : ∃ y_ : List (S26), y_ = (x3_1 ++ [(⟨(rd_T26 l0 x4_1).f0, (rd_T26 l0 x4_1).f1, ((rd_T26 l0 x4_1).f2).extract 0 ((ji5) : Int).toNat, (rd_T26 l0 x4_1).f3, (rd_T26 l0 x4_1).f4, (⟨(rd_T26 l0 x4_1).f5.f0, (rd_T26 l0 x4_1).f5.f1, (rd_T26 l0 x4_1).f5.f2, (rd_T26 l0 x4_1).f5.f3⟩ : S24)⟩ : S26)]) := ⟨_, rfl⟩
                  replace H : (copydesklaw03_short.l0 k1 l0 y141 (wrap64 (x4_1 + 1))) = some r := by first | (rw [hy141]; with_reducible exact H) | (have H2_ := (Option.bind_some _ _).symm.trans H; rw [hy141]; with_reducible exact H2_) | (have H2_ := (Option.bind_some _ _).symm.trans H; with_reducible exact H2_) | with_reducible exact H | (rw [hy141]; exact H) | exact H
                  have Ny141 := Aside0.mk hy141
                  clear hy141
                  have H' := Aside0.mk H
                  clear H
                  have p139 : 0 ≤ (x4_1 : Int) := of_decide_eq_true (by first | (with_reducible assumption) | assumption)
                  have q139 : x4_1 < (l0.length : Int) := of_decide_eq_true (by first | (with_reducible assumption) | assumption)
                  obtain ⟨ad139, A139_6, c139_6, e139, hx139_0, hx139_1, hx139_2, hx139_3, hx139_4, hx139_5, hx139_6, hx139_7, hx139_8, hl139_6, hi139_6⟩ := at_T26 (Kd.V_reads' HO_0.out).2.2 x4_1 p139 q139
                  cases e139
                  obtain ⟨ce139, hce139, hMe139, hcc139⟩ := Kd.V_get HO_0.out z26 x4_1 p139 (by first | exact q139 | exact of_decide_eq_true (by first | (with_reducible assumption) | assumption) | (have e_ := (Kd.V_reads' HO_0.out).1; omega))
                  obtain ⟨ua139_6, uc139_6, rfl, ul139_6, ge139_6⟩ := k26_openF hMe139
                  have hv139_6 := hcc139 6 _ rfl
                  rw [add_field _ _ 6 (by omega)] at hv139_6
                  replace hv139_6 := Option.some.inj (hv139_6.symm.trans hx139_6)
                  injection hv139_6 with hva_ hvn_ hvc_
                  rw [hva_] at ge139_6
                  rw [hvc_] at ul139_6
                  have HL139_6 := Aside0.mk (show Kd.V (Kd.int .i64) 3 _ w.heap.size _ _ ((rd_T26 l0 x4_1).f5.f1) from Kd.V_mk ul139_6 ge139_6)
                  clear hva_ hvn_ hvc_ ge139_6 ul139_6
                  clear hcc139 hce139
                  have HR139_6 := Aside0.mk hi139_6
                  have HC139_6 := Aside0.mk hl139_6
                  clear hi139_6 hl139_6
                  replace p139 := eq_true p139
                  replace q139 := eq_true q139
                  go_wp2_with (first | ((with_reducible refine gate_dst (N := 5) rfl ?_); refine box_event ?hg (N := 5) ?hd (cs := #[.int .i64 0, .int .i64 0, .string (⟨#[]⟩ : ByteArray), .int .i64 0, .int .i64 0, .int .i64 0, .slice none 0 0, .int .i64 0, .int .i64 0]) (t := 26) ?hr ?_; (case hd => rfl); (case hg => rfl); (case hr => first | (go_simp; done) | (go_simp; rfl)); intro gb140 hg w9 hbox hb; have n0_ := Aside0.mk (Kd.V_below (Kd.V_elderB (by (with_reducible repeat (first | apply Kd.V_alloc | apply Kd.V_drewN | apply Kd.V_drew)); exact HO_0.out) gb140 (Nat.le_of_eq hg.symm)) hb); have n1_ := Aside0.mk (Kd.N_below (Kd.N_elderB (by (with_reducible repeat (first | apply Kd.N_alloc | apply Kd.N_drewN | apply Kd.N_drew)); exact HO_3.out) gb140 (Nat.le_of_eq hg.symm)) hb); have n2_ := Aside0.mk (Kd.V_below (Kd.V_elderB (by (with_reducible repeat (first | apply Kd.V_alloc | apply Kd.V_drewN | apply Kd.V_drew)); exact HL139_6.out) gb140 (Nat.le_of_eq hg.symm)) hb); have n3_ := Aside0.mk (Kd.C_below (by repeat (first | (with_reducible exact HR139_6.out) | (with_reducible refine Kd.C_alloc ?_ _) | (with_reducible refine Kd.C_drewN ?_ _) | (with_reducible refine Kd.C_drew ?_) | exact HR139_6.out)) hb); have n4_ := Aside0.mk (below_step (by repeat (first | (with_reducible first | exact HB.out | apply below_alloc | apply pw_below_drewN | apply below_drew1) | exact HB.out)) hb); have n5_ := Aside0.mk (hbox); have n6_ := Aside0.mk ((by rw [hg]; exact (below_size (by repeat (first | (with_reducible first | exact HB.out | apply below_alloc | apply pw_below_drewN | apply below_drew1) | exact HB.out))) : w.heap.size ≤ gb140)); have n7_ := Aside0.mk ((by rw [hg]; exact (below_size (by repeat (first | (with_reducible first | exact HB.out | apply below_alloc | apply pw_below_drewN | apply below_drew1) | exact HB.out))) : w.heap.size ≤ gb140)); clear HO_0; clear HO_3; clear HL139_6; clear HR139_6; clear HB; have HO_0 := n0_; have HO_3 := n1_; have HL139_6 := n2_; have HR139_6 := n3_; have HB := n4_; have BK140 := n5_; have GW140 := n6_; have GE140 := n7_; clear n0_ n1_ n2_ n3_ n4_ n5_ n6_ n7_; clear hb hbox hg; have hcz10_0 : w9.cell? ⟨gb140, 0, none⟩ = some (.int .i64 0) := (blk_cell BK140.out 0).trans rfl; have hcz10_1 : w9.cell? ⟨gb140, 1, none⟩ = some (.int .i64 0) := (blk_cell BK140.out 1).trans rfl; have hcz10_2 : w9.cell? ⟨gb140, 2, none⟩ = some (.string (⟨#[]⟩ : ByteArray)) := (blk_cell BK140.out 2).trans rfl; have hcz10_3 : w9.cell? ⟨gb140, 3, none⟩ = some (.int .i64 0) := (blk_cell BK140.out 3).trans rfl; have hcz10_4 : w9.cell? ⟨gb140, 4, none⟩ = some (.int .i64 0) := (blk_cell BK140.out 4).trans rfl; have hcz10_5 : w9.cell? ⟨gb140, 5, none⟩ = some (.int .i64 0) := (blk_cell BK140.out 5).trans rfl; have hcz10_6 : w9.cell? ⟨gb140, 6, none⟩ = some (.slice none 0 0) := (blk_cell BK140.out 6).trans rfl; have hcz10_7 : w9.cell? ⟨gb140, 7, none⟩ = some (.int .i64 0) := (blk_cell BK140.out 7).trans rfl; have hcz10_8 : w9.cell? ⟨gb140, 8, none⟩ = some (.int .i64 0) := (blk_cell BK140.out 8).trans rfl; have hfz10_0 := blk_frozen BK140.out 0; have hfz10_1 := blk_frozen BK140.out 1; have hfz10_2 := blk_frozen BK140.out 2; have hfz10_3 := blk_frozen BK140.out 3; have hfz10_4 := blk_frozen BK140.out 4; have hfz10_5 := blk_frozen BK140.out 5; have hfz10_6 := blk_frozen BK140.out 6; have hfz10_7 := blk_frozen BK140.out 7; have hfz10_8 := blk_frozen BK140.out 8) | ((with_reducible refine gate_store (t := 26) (p := 5) rfl ?_); refine store_event (t := 26) (p := 5) (v := ?vo_w11) (w1 := (((((((((w9.setCell ⟨gb140, 0, none⟩ (.int .i64 ((rd_T26 l0 x4_1).f0))).setCell ⟨gb140, 1, none⟩ (.int .i64 ((rd_T26 l0 x4_1).f1))).setCell ⟨gb140, 2, none⟩ (.string ((rd_T26 l0 x4_1).f2))).setCell ⟨gb140, 3, none⟩ (.int .i64 ((rd_T26 l0 x4_1).f3))).setCell ⟨gb140, 4, none⟩ (.int .i64 ((rd_T26 l0 x4_1).f4))).setCell ⟨gb140, 5, none⟩ (.int .i64 ((rd_T26 l0 x4_1).f5.f0))).setCell ⟨gb140, 6, none⟩ (.slice A139_6 ((rd_T26 l0 x4_1).f5.f1).length c139_6)).setCell ⟨gb140, 7, none⟩ (.int .i64 ((rd_T26 l0 x4_1).f5.f2))).setCell ⟨gb140, 8, none⟩ (.int .i64 ((rd_T26 l0 x4_1).f5.f3)))) ?hg ?ho ?hn ?hr ?_; (case ho => rfl); (case hg => rfl); (case hn => rfl); (case hr => first | (go_simp; done) | (go_simp; rfl)); intro w11 hw; have n0_ : Aside0 (Kd.V k26 26 w11 w.heap.size (fun k_ => (P0_ k_ ∨ w.heap.size ≤ k_) ∧ some k_ ≠ (u3 : Value).ownBlock ∧ k_ ≠ gb140) (.slice (some ad139) l0.length c0) l0) := ⟨(by rw [hw]; exact (by (with_reducible repeat (first | apply Kd.V_alloc | apply Kd.V_drewN | apply Kd.V_drew)); exact Kd.V_mono (Kd.V_far (p := ⟨gb140, 8, none⟩) (Kd.V_far (p := ⟨gb140, 7, none⟩) (Kd.V_far (p := ⟨gb140, 6, none⟩) (Kd.V_far (p := ⟨gb140, 5, none⟩) (Kd.V_far (p := ⟨gb140, 4, none⟩) (Kd.V_far (p := ⟨gb140, 3, none⟩) (Kd.V_far (p := ⟨gb140, 2, none⟩) (Kd.V_far (p := ⟨gb140, 1, none⟩) (Kd.V_far (p := ⟨gb140, 0, none⟩) (Kd.V_mono HO_0.out (fun k_ hk => (⟨hk, hk.2⟩ : _ ∧ k_ ≠ gb140))) (fun _ hk => hk.2) (.int .i64 ((rd_T26 l0 x4_1).f0))) (fun _ hk => hk.2) (.int .i64 ((rd_T26 l0 x4_1).f1))) (fun _ hk => hk.2) (.string ((rd_T26 l0 x4_1).f2))) (fun _ hk => hk.2) (.int .i64 ((rd_T26 l0 x4_1).f3))) (fun _ hk => hk.2) (.int .i64 ((rd_T26 l0 x4_1).f4))) (fun _ hk => hk.2) (.int .i64 ((rd_T26 l0 x4_1).f5.f0))) (fun _ hk => hk.2) (.slice A139_6 ((rd_T26 l0 x4_1).f5.f1).length c139_6)) (fun _ hk => hk.2) (.int .i64 ((rd_T26 l0 x4_1).f5.f2))) (fun _ hk => hk.2) (.int .i64 ((rd_T26 l0 x4_1).f5.f3))) (fun _ hk => ⟨hk.1.1.1, ⟨hk.1.1.2, hk.1.2⟩⟩)))⟩; have n1_ : Aside0 (Kd.N k26 26 w11 w.heap.size (fun k_ => (P0_ k_ ∨ w.heap.size ≤ k_) ∧ k_ ≠ gb140) u3 x3_1) := ⟨(by rw [hw]; exact (by (with_reducible repeat (first | apply Kd.N_alloc | apply Kd.N_drewN | apply Kd.N_drew)); exact Kd.N_mono (Kd.N_far (p := ⟨gb140, 8, none⟩) (Kd.N_far (p := ⟨gb140, 7, none⟩) (Kd.N_far (p := ⟨gb140, 6, none⟩) (Kd.N_far (p := ⟨gb140, 5, none⟩) (Kd.N_far (p := ⟨gb140, 4, none⟩) (Kd.N_far (p := ⟨gb140, 3, none⟩) (Kd.N_far (p := ⟨gb140, 2, none⟩) (Kd.N_far (p := ⟨gb140, 1, none⟩) (Kd.N_far (p := ⟨gb140, 0, none⟩) (Kd.N_mono HO_3.out (fun k_ hk => (⟨hk, hk.2⟩ : _ ∧ k_ ≠ gb140))) (fun _ hk => hk.2) (.int .i64 ((rd_T26 l0 x4_1).f0))) (fun _ hk => hk.2) (.int .i64 ((rd_T26 l0 x4_1).f1))) (fun _ hk => hk.2) (.string ((rd_T26 l0 x4_1).f2))) (fun _ hk => hk.2) (.int .i64 ((rd_T26 l0 x4_1).f3))) (fun _ hk => hk.2) (.int .i64 ((rd_T26 l0 x4_1).f4))) (fun _ hk => hk.2) (.int .i64 ((rd_T26 l0 x4_1).f5.f0))) (fun _ hk => hk.2) (.slice A139_6 ((rd_T26 l0 x4_1).f5.f1).length c139_6)) (fun _ hk => hk.2) (.int .i64 ((rd_T26 l0 x4_1).f5.f2))) (fun _ hk => hk.2) (.int .i64 ((rd_T26 l0 x4_1).f5.f3))) (fun _ hk => ⟨hk.1.1, hk.1.2⟩)))⟩; have n2_ : Aside0 (Kd.V (Kd.int .i64) 3 w11 w.heap.size (fun k_ => (P0_ k_ ∨ w.heap.size ≤ k_) ∧ some k_ ≠ (u3 : Value).ownBlock ∧ k_ ≠ gb140) (.slice A139_6 ((rd_T26 l0 x4_1).f5.f1).length c139_6) ((rd_T26 l0 x4_1).f5.f1)) := ⟨(by rw [hw]; exact (by (with_reducible repeat (first | apply Kd.V_alloc | apply Kd.V_drewN | apply Kd.V_drew)); exact Kd.V_mono (Kd.V_far (p := ⟨gb140, 8, none⟩) (Kd.V_far (p := ⟨gb140, 7, none⟩) (Kd.V_far (p := ⟨gb140, 6, none⟩) (Kd.V_far (p := ⟨gb140, 5, none⟩) (Kd.V_far (p := ⟨gb140, 4, none⟩) (Kd.V_far (p := ⟨gb140, 3, none⟩) (Kd.V_far (p := ⟨gb140, 2, none⟩) (Kd.V_far (p := ⟨gb140, 1, none⟩) (Kd.V_far (p := ⟨gb140, 0, none⟩) (Kd.V_mono HL139_6.out (fun k_ hk => (⟨hk, hk.2⟩ : _ ∧ k_ ≠ gb140))) (fun _ hk => hk.2) (.int .i64 ((rd_T26 l0 x4_1).f0))) (fun _ hk => hk.2) (.int .i64 ((rd_T26 l0 x4_1).f1))) (fun _ hk => hk.2) (.string ((rd_T26 l0 x4_1).f2))) (fun _ hk => hk.2) (.int .i64 ((rd_T26 l0 x4_1).f3))) (fun _ hk => hk.2) (.int .i64 ((rd_T26 l0 x4_1).f4))) (fun _ hk => hk.2) (.int .i64 ((rd_T26 l0 x4_1).f5.f0))) (fun _ hk => hk.2) (.slice A139_6 ((rd_T26 l0 x4_1).f5.f1).length c139_6)) (fun _ hk => hk.2) (.int .i64 ((rd_T26 l0 x4_1).f5.f2))) (fun _ hk => hk.2) (.int .i64 ((rd_T26 l0 x4_1).f5.f3))) (fun _ hk => ⟨hk.1.1.1, ⟨hk.1.1.2, hk.1.2⟩⟩)))⟩; have n3_ : Aside0 (w11.heap[gb140]? = some (.cells #[.int .i64 ((rd_T26 l0 x4_1).f0), .int .i64 ((rd_T26 l0 x4_1).f1), .string ((rd_T26 l0 x4_1).f2), .int .i64 ((rd_T26 l0 x4_1).f3), .int .i64 ((rd_T26 l0 x4_1).f4), .int .i64 ((rd_T26 l0 x4_1).f5.f0), .slice A139_6 ((rd_T26 l0 x4_1).f5.f1).length c139_6, .int .i64 ((rd_T26 l0 x4_1).f5.f2), .int .i64 ((rd_T26 l0 x4_1).f5.f3)] 26 (0, 0))) := ⟨(by rw [hw]; exact (by (with_reducible repeat (first | refine blk_drewN ?_ _ | refine blk_drew ?_ | refine blk_alloc ?_ _)); refine blk_put (cs := #[.int .i64 ((rd_T26 l0 x4_1).f0), .int .i64 ((rd_T26 l0 x4_1).f1), .string ((rd_T26 l0 x4_1).f2), .int .i64 ((rd_T26 l0 x4_1).f3), .int .i64 ((rd_T26 l0 x4_1).f4), .int .i64 ((rd_T26 l0 x4_1).f5.f0), .slice A139_6 ((rd_T26 l0 x4_1).f5.f1).length c139_6, .int .i64 ((rd_T26 l0 x4_1).f5.f2), .int .i64 0]) ?_ 8 _ rfl; (with_reducible repeat (first | refine blk_drewN ?_ _ | refine blk_drew ?_ | refine blk_alloc ?_ _)); refine blk_put (cs := #[.int .i64 ((rd_T26 l0 x4_1).f0), .int .i64 ((rd_T26 l0 x4_1).f1), .string ((rd_T26 l0 x4_1).f2), .int .i64 ((rd_T26 l0 x4_1).f3), .int .i64 ((rd_T26 l0 x4_1).f4), .int .i64 ((rd_T26 l0 x4_1).f5.f0), .slice A139_6 ((rd_T26 l0 x4_1).f5.f1).length c139_6, .int .i64 0, .int .i64 0]) ?_ 7 _ rfl; (with_reducible repeat (first | refine blk_drewN ?_ _ | refine blk_drew ?_ | refine blk_alloc ?_ _)); refine blk_put (cs := #[.int .i64 ((rd_T26 l0 x4_1).f0), .int .i64 ((rd_T26 l0 x4_1).f1), .string ((rd_T26 l0 x4_1).f2), .int .i64 ((rd_T26 l0 x4_1).f3), .int .i64 ((rd_T26 l0 x4_1).f4), .int .i64 ((rd_T26 l0 x4_1).f5.f0), .slice none 0 0, .int .i64 0, .int .i64 0]) ?_ 6 _ rfl; (with_reducible repeat (first | refine blk_drewN ?_ _ | refine blk_drew ?_ | refine blk_alloc ?_ _)); refine blk_put (cs := #[.int .i64 ((rd_T26 l0 x4_1).f0), .int .i64 ((rd_T26 l0 x4_1).f1), .string ((rd_T26 l0 x4_1).f2), .int .i64 ((rd_T26 l0 x4_1).f3), .int .i64 ((rd_T26 l0 x4_1).f4), .int .i64 0, .slice none 0 0, .int .i64 0, .int .i64 0]) ?_ 5 _ rfl; (with_reducible repeat (first | refine blk_drewN ?_ _ | refine blk_drew ?_ | refine blk_alloc ?_ _)); refine blk_put (cs := #[.int .i64 ((rd_T26 l0 x4_1).f0), .int .i64 ((rd_T26 l0 x4_1).f1), .string ((rd_T26 l0 x4_1).f2), .int .i64 ((rd_T26 l0 x4_1).f3), .int .i64 0, .int .i64 0, .slice none 0 0, .int .i64 0, .int .i64 0]) ?_ 4 _ rfl; (with_reducible repeat (first | refine blk_drewN ?_ _ | refine blk_drew ?_ | refine blk_alloc ?_ _)); refine blk_put (cs := #[.int .i64 ((rd_T26 l0 x4_1).f0), .int .i64 ((rd_T26 l0 x4_1).f1), .string ((rd_T26 l0 x4_1).f2), .int .i64 0, .int .i64 0, .int .i64 0, .slice none 0 0, .int .i64 0, .int .i64 0]) ?_ 3 _ rfl; (with_reducible repeat (first | refine blk_drewN ?_ _ | refine blk_drew ?_ | refine blk_alloc ?_ _)); refine blk_put (cs := #[.int .i64 ((rd_T26 l0 x4_1).f0), .int .i64 ((rd_T26 l0 x4_1).f1), .string (⟨#[]⟩ : ByteArray), .int .i64 0, .int .i64 0, .int .i64 0, .slice none 0 0, .int .i64 0, .int .i64 0]) ?_ 2 _ rfl; (with_reducible repeat (first | refine blk_drewN ?_ _ | refine blk_drew ?_ | refine blk_alloc ?_ _)); refine blk_put (cs := #[.int .i64 ((rd_T26 l0 x4_1).f0), .int .i64 0, .string (⟨#[]⟩ : ByteArray), .int .i64 0, .int .i64 0, .int .i64 0, .slice none 0 0, .int .i64 0, .int .i64 0]) ?_ 1 _ rfl; (with_reducible repeat (first | refine blk_drewN ?_ _ | refine blk_drew ?_ | refine blk_alloc ?_ _)); refine blk_put (cs := #[.int .i64 0, .int .i64 0, .string (⟨#[]⟩ : ByteArray), .int .i64 0, .int .i64 0, .int .i64 0, .slice none 0 0, .int .i64 0, .int .i64 0]) ?_ 0 _ rfl; (with_reducible repeat (first | refine blk_drewN ?_ _ | refine blk_drew ?_ | refine blk_alloc ?_ _)); exact BK140.out))⟩; have n4_ : Aside0 (Below w.heap.size w w11) := ⟨(by rw [hw]; exact (by repeat (first | (with_reducible first | exact HB.out | apply below_alloc | apply pw_below_drewN | apply below_drew1 | refine below_set ?_ GE140.out) | exact HB.out)))⟩; clear hw; clear HO_0; clear HO_3; clear HL139_6; clear BK140; clear HB; have HO_0 := n0_; have HO_3 := n1_; have HL139_6 := n2_; have BK140 := n3_; have HB := n4_; clear n0_ n1_ n2_ n3_ n4_; have hcz12_0 : w11.cell? ⟨gb140, 0, none⟩ = some (.int .i64 ((rd_T26 l0 x4_1).f0)) := (blk_cell BK140.out 0).trans rfl; have hcz12_1 : w11.cell? ⟨gb140, 1, none⟩ = some (.int .i64 ((rd_T26 l0 x4_1).f1)) := (blk_cell BK140.out 1).trans rfl; have hcz12_2 : w11.cell? ⟨gb140, 2, none⟩ = some (.string ((rd_T26 l0 x4_1).f2)) := (blk_cell BK140.out 2).trans rfl; have hcz12_3 : w11.cell? ⟨gb140, 3, none⟩ = some (.int .i64 ((rd_T26 l0 x4_1).f3)) := (blk_cell BK140.out 3).trans rfl; have hcz12_4 : w11.cell? ⟨gb140, 4, none⟩ = some (.int .i64 ((rd_T26 l0 x4_1).f4)) := (blk_cell BK140.out 4).trans rfl; have hcz12_5 : w11.cell? ⟨gb140, 5, none⟩ = some (.int .i64 ((rd_T26 l0 x4_1).f5.f0)) := (blk_cell BK140.out 5).trans rfl; have hcz12_6 : w11.cell? ⟨gb140, 6, none⟩ = some (.slice A139_6 ((rd_T26 l0 x4_1).f5.f1).length c139_6) := (blk_cell BK140.out 6).trans rfl; have hcz12_7 : w11.cell? ⟨gb140, 7, none⟩ = some (.int .i64 ((rd_T26 l0 x4_1).f5.f2)) := (blk_cell BK140.out 7).trans rfl; have hcz12_8 : w11.cell? ⟨gb140, 8, none⟩ = some (.int .i64 ((rd_T26 l0 x4_1).f5.f3)) := (blk_cell BK140.out 8).trans rfl; have hfz12_0 := blk_frozen BK140.out 0; have hfz12_1 := blk_frozen BK140.out 1; have hfz12_2 := blk_frozen BK140.out 2; have hfz12_3 := blk_frozen BK140.out 3; have hfz12_4 := blk_frozen BK140.out 4; have hfz12_5 := blk_frozen BK140.out 5; have hfz12_6 := blk_frozen BK140.out 6; have hfz12_7 := blk_frozen BK140.out 7; have hfz12_8 := blk_frozen BK140.out 8) | ((with_reducible refine gate_store (t := 9) (p := 27) rfl ?_); refine store_event (t := 9) (p := 27) (v := ?vo_w13) (w1 := (w11.setCell ⟨gb140, 2, none⟩ (.string (((rd_T26 l0 x4_1).f2).extract 0 ((ji5) : Int).toNat)))) ?hg ?ho ?hn ?hr ?_; (case ho => rfl); (case hg => rfl); (case hn => rfl); (case hr => first | (go_simp; done) | (go_simp; rfl)); intro w13 hw; have n0_ : Aside0 (Kd.V k26 26 w13 w.heap.size (fun k_ => (P0_ k_ ∨ w.heap.size ≤ k_) ∧ some k_ ≠ (u3 : Value).ownBlock ∧ k_ ≠ gb140) (.slice (some ad139) l0.length c0) l0) := ⟨(by rw [hw]; exact (by (with_reducible repeat (first | apply Kd.V_alloc | apply Kd.V_drewN | apply Kd.V_drew)); exact Kd.V_mono (Kd.V_far (p := ⟨gb140, 2, none⟩) (Kd.V_mono HO_0.out (fun k_ hk => (⟨hk, hk.2.2⟩ : _ ∧ k_ ≠ gb140))) (fun _ hk => hk.2) (.string (((rd_T26 l0 x4_1).f2).extract 0 ((ji5) : Int).toNat))) (fun _ hk => ⟨hk.1.1, ⟨hk.1.2.1, hk.1.2.2⟩⟩)))⟩; have n1_ : Aside0 (Kd.N k26 26 w13 w.heap.size (fun k_ => (P0_ k_ ∨ w.heap.size ≤ k_) ∧ k_ ≠ gb140) u3 x3_1) := ⟨(by rw [hw]; exact (by (with_reducible repeat (first | apply Kd.N_alloc | apply Kd.N_drewN | apply Kd.N_drew)); exact Kd.N_mono (Kd.N_far (p := ⟨gb140, 2, none⟩) (Kd.N_mono HO_3.out (fun k_ hk => (⟨hk, hk.2⟩ : _ ∧ k_ ≠ gb140))) (fun _ hk => hk.2) (.string (((rd_T26 l0 x4_1).f2).extract 0 ((ji5) : Int).toNat))) (fun _ hk => ⟨hk.1.1, hk.1.2⟩)))⟩; have n2_ : Aside0 (Kd.V (Kd.int .i64) 3 w13 w.heap.size (fun k_ => (P0_ k_ ∨ w.heap.size ≤ k_) ∧ some k_ ≠ (u3 : Value).ownBlock ∧ k_ ≠ gb140) (.slice A139_6 ((rd_T26 l0 x4_1).f5.f1).length c139_6) ((rd_T26 l0 x4_1).f5.f1)) := ⟨(by rw [hw]; exact (by (with_reducible repeat (first | apply Kd.V_alloc | apply Kd.V_drewN | apply Kd.V_drew)); exact Kd.V_mono (Kd.V_far (p := ⟨gb140, 2, none⟩) (Kd.V_mono HL139_6.out (fun k_ hk => (⟨hk, hk.2.2⟩ : _ ∧ k_ ≠ gb140))) (fun _ hk => hk.2) (.string (((rd_T26 l0 x4_1).f2).extract 0 ((ji5) : Int).toNat))) (fun _ hk => ⟨hk.1.1, ⟨hk.1.2.1, hk.1.2.2⟩⟩)))⟩; have n3_ : Aside0 (w13.heap[gb140]? = some (.cells #[.int .i64 ((rd_T26 l0 x4_1).f0), .int .i64 ((rd_T26 l0 x4_1).f1), .string (((rd_T26 l0 x4_1).f2).extract 0 ((ji5) : Int).toNat), .int .i64 ((rd_T26 l0 x4_1).f3), .int .i64 ((rd_T26 l0 x4_1).f4), .int .i64 ((rd_T26 l0 x4_1).f5.f0), .slice A139_6 ((rd_T26 l0 x4_1).f5.f1).length c139_6, .int .i64 ((rd_T26 l0 x4_1).f5.f2), .int .i64 ((rd_T26 l0 x4_1).f5.f3)] 26 (0, 0))) := ⟨(by rw [hw]; exact (by (with_reducible repeat (first | refine blk_drewN ?_ _ | refine blk_drew ?_ | refine blk_alloc ?_ _)); refine blk_put (cs := #[.int .i64 ((rd_T26 l0 x4_1).f0), .int .i64 ((rd_T26 l0 x4_1).f1), .string ((rd_T26 l0 x4_1).f2), .int .i64 ((rd_T26 l0 x4_1).f3), .int .i64 ((rd_T26 l0 x4_1).f4), .int .i64 ((rd_T26 l0 x4_1).f5.f0), .slice A139_6 ((rd_T26 l0 x4_1).f5.f1).length c139_6, .int .i64 ((rd_T26 l0 x4_1).f5.f2), .int .i64 ((rd_T26 l0 x4_1).f5.f3)]) ?_ 2 _ rfl; (with_reducible repeat (first | refine blk_drewN ?_ _ | refine blk_drew ?_ | refine blk_alloc ?_ _)); exact BK140.out))⟩; have n4_ : Aside0 (Below w.heap.size w w13) := ⟨(by rw [hw]; exact (by repeat (first | (with_reducible first | exact HB.out | apply below_alloc | apply pw_below_drewN | apply below_drew1 | refine below_set ?_ GE140.out) | exact HB.out)))⟩; clear hw; clear HO_0; clear HO_3; clear HL139_6; clear BK140; clear HB; have HO_0 := n0_; have HO_3 := n1_; have HL139_6 := n2_; have BK140 := n3_; have HB := n4_; clear n0_ n1_ n2_ n3_ n4_; have hcz14_0 : w13.cell? ⟨gb140, 0, none⟩ = some (.int .i64 ((rd_T26 l0 x4_1).f0)) := (blk_cell BK140.out 0).trans rfl; have hcz14_1 : w13.cell? ⟨gb140, 1, none⟩ = some (.int .i64 ((rd_T26 l0 x4_1).f1)) := (blk_cell BK140.out 1).trans rfl; have hcz14_2 : w13.cell? ⟨gb140, 2, none⟩ = some (.string (((rd_T26 l0 x4_1).f2).extract 0 ((ji5) : Int).toNat)) := (blk_cell BK140.out 2).trans rfl; have hcz14_3 : w13.cell? ⟨gb140, 3, none⟩ = some (.int .i64 ((rd_T26 l0 x4_1).f3)) := (blk_cell BK140.out 3).trans rfl; have hcz14_4 : w13.cell? ⟨gb140, 4, none⟩ = some (.int .i64 ((rd_T26 l0 x4_1).f4)) := (blk_cell BK140.out 4).trans rfl; have hcz14_5 : w13.cell? ⟨gb140, 5, none⟩ = some (.int .i64 ((rd_T26 l0 x4_1).f5.f0)) := (blk_cell BK140.out 5).trans rfl; have hcz14_6 : w13.cell? ⟨gb140, 6, none⟩ = some (.slice A139_6 ((rd_T26 l0 x4_1).f5.f1).length c139_6) := (blk_cell BK140.out 6).trans rfl; have hcz14_7 : w13.cell? ⟨gb140, 7, none⟩ = some (.int .i64 ((rd_T26 l0 x4_1).f5.f2)) := (blk_cell BK140.out 7).trans rfl; have hcz14_8 : w13.cell? ⟨gb140, 8, none⟩ = some (.int .i64 ((rd_T26 l0 x4_1).f5.f3)) := (blk_cell BK140.out 8).trans rfl; have hfz14_0 := blk_frozen BK140.out 0; have hfz14_1 := blk_frozen BK140.out 1; have hfz14_2 := blk_frozen BK140.out 2; have hfz14_3 := blk_frozen BK140.out 3; have hfz14_4 := blk_frozen BK140.out 4; have hfz14_5 := blk_frozen BK140.out 5; have hfz14_6 := blk_frozen BK140.out 6; have hfz14_7 := blk_frozen BK140.out 7; have hfz14_8 := blk_frozen BK140.out 8) | ((with_reducible refine gate_builtin (b := .append) (xs := #[.tmp 28, .tmp 30]) rfl ?_); at_builtin; refine Kd.N_append k26 (w0 := w) w.heap.size rfl (.tmp 28) (.tmp 30) 27 26 (.agg #[(.int .i64 0), (.int .i64 0), (.string ⟨#[]⟩), (.int .i64 0), (.int .i64 0), (.int .i64 0), (.slice none 0 0), (.int .i64 0), (.int .i64 0)]) 96 rfl Tryd.underlying27 info26 rfl (by decide) (by omega) u3 x3_1 (⟨(rd_T26 l0 x4_1).f0, (rd_T26 l0 x4_1).f1, ((rd_T26 l0 x4_1).f2).extract 0 ((ji5) : Int).toNat, (rd_T26 l0 x4_1).f3, (rd_T26 l0 x4_1).f4, (⟨(rd_T26 l0 x4_1).f5.f0, (rd_T26 l0 x4_1).f5.f1, (rd_T26 l0 x4_1).f5.f2, (rd_T26 l0 x4_1).f5.f3⟩ : S24)⟩ : S26) [.int .i64 ((rd_T26 l0 x4_1).f0), .int .i64 ((rd_T26 l0 x4_1).f1), .string (((rd_T26 l0 x4_1).f2).extract 0 ((ji5) : Int).toNat), .int .i64 ((rd_T26 l0 x4_1).f3), .int .i64 ((rd_T26 l0 x4_1).f4), .int .i64 ((rd_T26 l0 x4_1).f5.f0), .slice A139_6 ((rd_T26 l0 x4_1).f5.f1).length c139_6, .int .i64 ((rd_T26 l0 x4_1).f5.f2), .int .i64 ((rd_T26 l0 x4_1).f5.f3)] (fun k_ => (P0_ k_ ∨ w.heap.size ≤ k_) ∧ k_ ≠ gb140) (fun k_ => ((fun k_ => (P0_ k_ ∨ w.heap.size ≤ k_) ∧ k_ ≠ gb140)) k_ ∧ some k_ ≠ (u3 : Value).ownBlock) rfl rfl ?aP (fun _ hk => hk) ?aF ?aO ?aB ?aS ?aL ?_; (case aP => exact (k26_mkF _ _ (⟨(rd_T26 l0 x4_1).f0, (rd_T26 l0 x4_1).f1, ((rd_T26 l0 x4_1).f2).extract 0 ((ji5) : Int).toNat, (rd_T26 l0 x4_1).f3, (rd_T26 l0 x4_1).f4, (⟨(rd_T26 l0 x4_1).f5.f0, (rd_T26 l0 x4_1).f5.f1, (rd_T26 l0 x4_1).f5.f2, (rd_T26 l0 x4_1).f5.f3⟩ : S24)⟩ : S26) (Kd.V_reads' (Kd.V_mono (ok' := (fun k_ => ((fun k_ => (P0_ k_ ∨ w.heap.size ≤ k_) ∧ k_ ≠ gb140)) k_ ∧ some k_ ≠ (u3 : Value).ownBlock)) (HL139_6.out) (fun k_ hk => ⟨⟨hk.1, hk.2.2⟩, hk.2.1⟩))).2.1 (Kd.V_F (Kd.V_mono (ok' := (fun k_ => ((fun k_ => (P0_ k_ ∨ w.heap.size ≤ k_) ∧ k_ ≠ gb140)) k_ ∧ some k_ ≠ (u3 : Value).ownBlock)) (HL139_6.out) (fun k_ hk => ⟨⟨hk.1, hk.2.2⟩, hk.2.1⟩))))); (case aB => exact (by repeat (first | (with_reducible first | exact HB.out | apply below_alloc | apply pw_below_drewN | apply below_drew1 | refine below_set ?_ GE140.out) | exact HB.out))); (case aF => exact (fun k_ hk => ⟨(.inr (Nat.le_trans (below_size (by repeat (first | (with_reducible first | exact HB.out | apply below_alloc | apply pw_below_drewN | apply below_drew1 | refine below_set ?_ GE140.out) | exact HB.out))) hk)), Kd.freshB (g := gb140) (o := .cells #[.int .i64 ((rd_T26 l0 x4_1).f0), .int .i64 ((rd_T26 l0 x4_1).f1), .string (((rd_T26 l0 x4_1).f2).extract 0 ((ji5) : Int).toNat), .int .i64 ((rd_T26 l0 x4_1).f3), .int .i64 ((rd_T26 l0 x4_1).f4), .int .i64 ((rd_T26 l0 x4_1).f5.f0), .slice A139_6 ((rd_T26 l0 x4_1).f5.f1).length c139_6, .int .i64 ((rd_T26 l0 x4_1).f5.f2), .int .i64 ((rd_T26 l0 x4_1).f5.f3)] 26 (0, 0)) (by (with_reducible repeat (first | refine blk_drewN ?_ _ | refine blk_drew ?_ | refine blk_alloc ?_ _)); exact BK140.out) k_ hk⟩)); (case aO => exact (by (with_reducible repeat (first | apply Kd.N_alloc | apply Kd.N_drewN | apply Kd.N_drew)); exact HO_3.out)); (case aS => exact (below_size (by repeat (first | (with_reducible first | exact HB.out | apply below_alloc | apply pw_below_drewN | apply below_drew1 | refine below_set ?_ GE140.out) | exact HB.out)))); (case aL => have := LMc8.out; omega); intro v142 w15 ho hb hg hat; rw [← Ny141.out] at ho; have n0_ := Aside0.mk (Kd.V_afterv (ok := (fun k_ => (P0_ k_ ∨ w.heap.size ≤ k_) ∧ k_ ≠ gb140)) (by (with_reducible repeat (first | apply Kd.V_alloc | apply Kd.V_drewN | apply Kd.V_drew)); exact Kd.V_mono HO_0.out (fun _ hk => ⟨⟨hk.1, hk.2.2⟩, hk.2.1⟩)) hg hat); have n1_ := Aside0.mk (Kd.V_afterv (ok := (fun k_ => (P0_ k_ ∨ w.heap.size ≤ k_) ∧ k_ ≠ gb140)) (by (with_reducible repeat (first | apply Kd.V_alloc | apply Kd.V_drewN | apply Kd.V_drew)); exact Kd.V_mono HL139_6.out (fun _ hk => ⟨⟨hk.1, hk.2.2⟩, hk.2.1⟩)) hg hat); have n2_ := Aside0.mk (blk_grown (g := gb140) (o := .cells #[.int .i64 ((rd_T26 l0 x4_1).f0), .int .i64 ((rd_T26 l0 x4_1).f1), .string (((rd_T26 l0 x4_1).f2).extract 0 ((ji5) : Int).toNat), .int .i64 ((rd_T26 l0 x4_1).f3), .int .i64 ((rd_T26 l0 x4_1).f4), .int .i64 ((rd_T26 l0 x4_1).f5.f0), .slice A139_6 ((rd_T26 l0 x4_1).f5.f1).length c139_6, .int .i64 ((rd_T26 l0 x4_1).f5.f2), .int .i64 ((rd_T26 l0 x4_1).f5.f3)] 26 (0, 0)) (by (with_reducible repeat (first | refine blk_drewN ?_ _ | refine blk_drew ?_ | refine blk_alloc ?_ _)); exact BK140.out) hg (Kd.N_away HO_3.out (fun _ hk => hk.2))); have n3_ := Aside0.mk (hb); have n4_ := Aside0.mk (ho); clear HO_0; clear HL139_6; clear BK140; clear HB; clear HO_3; have HO_0 := n0_; have HL139_6 := n1_; have BK140 := n2_; have HB := n3_; have HO143 := n4_; clear n0_ n1_ n2_ n3_ n4_; clear ho hb hg hat))
                  go_roundg k1
                  case measure => have := HK1.out; omega
                  case rel => exact ⟨(y141), (wrap64 (x4_1 + 1)), (by first | rfl | (simp; done) | (simp [*]; done)), H', ⟨by have := HK1.out; omega⟩, ⟨by (with_reducible repeat (first | apply Kd.V_alloc | apply Kd.V_drewN | apply Kd.V_drew)); exact Kd.V_mono HO_0.out (fun _ hk => ⟨hk.1.1, hk.2⟩)⟩, ⟨by (with_reducible repeat (first | apply Kd.N_alloc | apply Kd.N_drewN | apply Kd.N_drew)); exact Kd.N_mono HO143.out (fun _ hk => hk.1)⟩, ⟨by repeat (first | (with_reducible first | exact HB.out | apply below_alloc | apply pw_below_drewN | apply below_drew1 | refine below_set ?_ GE140.out) | exact HB.out)⟩⟩
                · rw [if_neg c8] at H
                  exact absurd H (by simp)
              · rw [if_neg c7] at H
                exact absurd H (by simp)
            · rw [if_neg c6] at H
              exact absurd H (by simp)
          · rw [if_neg c4] at H
            exact absurd H (by simp)
        · rw [if_neg c3] at H
          have c3b0 : decide (x4_1 < 30) = false := decide_eq_false c3
          clear c3
          obtain rfl := Option.some.inj H
          go_wp2
          go_ret
          exact ⟨_, by first | rfl | (simp [errW_none, errW_some] <;> rfl) | (simp [*, errW_none, errW_some] <;> rfl), by (with_reducible repeat (first | apply Kd.N_alloc | apply Kd.N_drewN | apply Kd.N_drew)); exact HO_3.out, by repeat (first | (with_reducible first | exact HB.out | apply below_alloc | apply pw_below_drewN | apply below_drew1) | exact HB.out)⟩
      · rw [if_neg c2] at H
        have c2b0 : decide (x4_1 < (l0.length : Int)) = false := decide_eq_false c2
        clear c2
        obtain rfl := Option.some.inj H
        go_wp2
        go_ret
        exact ⟨_, by first | rfl | (simp [errW_none, errW_some] <;> rfl) | (simp [*, errW_none, errW_some] <;> rfl), by (with_reducible repeat (first | apply Kd.N_alloc | apply Kd.N_drewN | apply Kd.N_drew)); exact HO_3.out, by repeat (first | (with_reducible first | exact HB.out | apply below_alloc | apply pw_below_drewN | apply below_drew1) | exact HB.out)⟩
end Go.Proofs.YtpgjhjlhipikgaaDoor.PK
end
section
set_option linter.unusedVariables false
set_option linter.unusedSimpArgs false
namespace Go.Proofs.YtpgjhjlhipikgaaDoor.PK
open Go.RowKit Go.Proofs.YtpgjhjlhipikgaaDoorW.PrintWords Go.Proofs.YtpgjhjlhipikgaaDoorW.PrintLast Go.Proofs.YtpgjhjlhipikgaaDoorW.PrintMore
def AllSp (s : List UInt8) : Prop := ∀ c ∈ s, c = 32
theorem AllSp.at {s : List UInt8} (h : AllSp s) (i : Nat) (hi : i < s.length) : m_at s i = 32 := by
  have := h s[i] (List.getElem_mem hi)
  simp [m_at, List.getD_eq_getElem?_getD, hi, this]
def SpHead (s : List UInt8) : Prop := s = [] ∨ ∃ t, s = 32 :: t
theorem SpHead.at {s : List UInt8} (h : SpHead s) (hs : s ≠ []) : m_at s 0 = 32 := by
  rcases h with h | ⟨t, rfl⟩
  · exact absurd h hs
  · rfl
theorem AllSp.reverse {s : List UInt8} (h : AllSp s) : AllSp s.reverse := fun c hc => h c (List.mem_reverse.1 hc)
def Neat (x : List UInt8) : Prop := x.head? ≠ some 32 ∧ x.getLast? ≠ some 32 ∧ x ≠ []
def Ended (x : List UInt8) : Prop := Neat x ∧ m_ends x (x.length - 1) = true ∧ ∀ j, j + 1 < x.length → m_ends x j = false
def Open (x : List UInt8) : Prop := Neat x ∧ ∀ j, j < x.length → m_ends x j = false
inductive Parts : List UInt8 → List (List UInt8) → Prop where
  | none (s : List UInt8) (h : AllSp s) : Parts s []
  | last (sp x sq : List UInt8) (h1 : AllSp sp) (h2 : AllSp sq) (hx : Open x) : Parts (sp ++ x ++ sq) [x]
  | more (sp x rest : List UInt8) (xs : List (List UInt8)) (h1 : AllSp sp) (hr : SpHead rest) (hx : Ended x) (h : Parts rest xs) : Parts (sp ++ x ++ rest) (x :: xs)
end Go.Proofs.YtpgjhjlhipikgaaDoor.PK
end
section
set_option linter.unusedVariables false
set_option linter.unusedSimpArgs false
namespace Go.Proofs.YtpgjhjlhipikgaaDoor.PK
open Go.RowKit Go.Proofs.YtpgjhjlhipikgaaDoorW.PrintWords Go.Proofs.YtpgjhjlhipikgaaDoorW.PrintLast Go.Proofs.YtpgjhjlhipikgaaDoorW.PrintMore
theorem pu_mn (a b : Int) : mn a b = if b < a then b else a := rfl
theorem pu_cut (a0 : ByteArray) (m : Int) (hm : 0 ≤ m) : 0 ≤ mn (a0.size : Int) m ∧ mn (a0.size : Int) m ≤ (a0.size : Int) ∧ (a0.extract 0 (mn (a0.size : Int) m).toNat).size ≤ m.toNat := by
  rw [pu_mn]
  refine ⟨by split <;> omega, by split <;> omega, ?_⟩
  rw [ByteArray.size_extract]
  split <;> omega
theorem pu_w1 (n : Nat) (h : n ≤ 9000000000000000000) : wrap64 ((n : Int) + 1) = ((n + 1 : Nat) : Int) := by unfold wrap64; omega
theorem pu_bt (s : ByteArray) (n : Nat) (h : n < s.size) : bt s (n : Int) = ((m_at s.data.toList n).toNat : Int) := by
  unfold bt
  rw [dif_pos (by rw [Int.toNat_natCast]; exact h)]
  have h2 : n < s.data.toList.length := by rw [Array.length_toList]; exact h
  simp only [Int.toNat_natCast, m_at, List.getD_eq_getElem?_getD, List.getElem?_eq_getElem h2, Option.getD_some]
  rfl
theorem pu_len (s : ByteArray) : s.data.toList.length = s.size := Array.length_toList
theorem pu_toList (s : ByteArray) : s.toList = s.data.toList := ByteArray.toList_eq ..
end Go.Proofs.YtpgjhjlhipikgaaDoor.PK
end
section
namespace Go.Proofs.YtpgjhjlhipikgaaDoor.PK
open Go.RowKit Go.Proofs.YtpgjhjlhipikgaaDoorW.PrintWords Go.Proofs.YtpgjhjlhipikgaaDoorW.PrintLast Go.Proofs.YtpgjhjlhipikgaaDoorW.PrintMore
attribute [local go_sem] max2_int min2_int max_two min_two max_three min_three max_four min_four   -- for this text's walks alone
set_option linter.unusedVariables false
set_option linter.unusedSimpArgs false
theorem pl_rdB (l : List Bl) (j : Nat) (h : j < l.length) : rd_T26 l (j : Int) = l[j] := by
  simp [rd_T26, List.getD_eq_getElem?_getD, h]
def m_cut (b : Bl) : Bl := ⟨b.f0, b.f1, b.f2.extract 0 (mn (b.f2.size : Int) 1000).toNat, b.f3, b.f4, ⟨b.f5.f0, b.f5.f1, b.f5.f2, b.f5.f3⟩⟩
def m_short (l : List Bl) : List Bl := (l.take 30).map m_cut
theorem pl_shortGo (l : List Bl) (hl : l.length ≤ 9223372036854775807) : ∀ (d k j : Nat), j + d = 30 → d < k → j ≤ l.length →
    copydesklaw03_short.l0 k l ((l.take j).map m_cut) (j : Int) = some (m_short l)
  | 0, k, j, hj, hk, hjl => by
    obtain ⟨k, rfl⟩ : ∃ i, k = i + 1 := ⟨k - 1, by omega⟩
    have e : j = 30 := by omega
    subst e
    rw [copydesklaw03_short.l0, if_neg (show ¬ ((30 : Nat) : Int) < 30 by omega)]
    split <;> rfl
  | d + 1, k, j, hj, hk, hjl => by
    obtain ⟨k, rfl⟩ : ∃ i, k = i + 1 := ⟨k - 1, by omega⟩
    rw [copydesklaw03_short.l0]
    by_cases hlt : j < l.length
    · obtain ⟨h1, h2, h3⟩ := pu_cut l[j].f2 1000 (by omega)
      have e : (l.take j).map m_cut ++ [m_cut l[j]] = (l.take (j + 1)).map m_cut := by rw [List.take_succ_eq_append_getElem hlt, List.map_append]; rfl
      have hc : ((l.take j).map m_cut).length < 1466015503701 := by rw [List.length_map, List.length_take]; omega
      rw [if_pos (by omega), if_pos (by omega), if_pos (by omega), pl_rdB l j hlt, if_pos h1, if_pos h2, if_pos hc, pu_w1 j (by omega)]
      show copydesklaw03_short.l0 k l ((l.take j).map m_cut ++ [m_cut l[j]]) _ = _
      rw [e]
      exact pl_shortGo l hl d k (j + 1) (by omega) (by omega) hlt
    · have e : j = l.length := by omega
      rw [if_neg (by omega), e, List.take_of_length_le (Nat.le_refl _)]
      unfold m_short
      rw [List.take_of_length_le (by omega)]
theorem pl_short (l : List Bl) (hl : l.length ≤ 9223372036854775807) (k : Nat) (hk : 40 < k) : copydesklaw03_short.f k l = some (m_short l) := pl_shortGo l hl 30 k 0 (by omega) (by omega) (Nat.zero_le _)
theorem m_short_len (l : List Bl) : (m_short l).length ≤ 30 := by simp [m_short]; omega
theorem m_same_refl (b : Bl) : m_same b b = true := by simp [m_same]
theorem m_sameL_refl : ∀ l : List Bl, m_sameL l l = true
  | [] => rfl
  | b :: l => by rw [m_sameL, m_same_refl, m_sameL_refl l]; rfl
theorem m_same_enc (a b : Bl) (h : m_same a b = true) : m_encB a = m_encB b := by
  simp only [m_same, Bool.and_eq_true, decide_eq_true_eq] at h
  obtain ⟨⟨⟨⟨⟨⟨⟨⟨h0, h1⟩, h2⟩, h3⟩, h4⟩, h5⟩, h6⟩, h7⟩, h8⟩ := h
  unfold m_encB
  rw [h0, h1, h2, h3, h4, h5, h6, h7, h8]
theorem m_sameL_enc : ∀ a b : List Bl, m_sameL a b = true → a.length = b.length ∧ a.flatMap m_encB = b.flatMap m_encB
  | [], [], _ => ⟨rfl, rfl⟩
  | [], _ :: _, h => by cases h
  | _ :: _, [], h => by cases h
  | x :: a, y :: b, h => by
    rw [m_sameL, Bool.and_eq_true] at h
    obtain ⟨h1, h2⟩ := m_sameL_enc a b h.2
    rw [List.flatMap_cons, List.flatMap_cons, m_same_enc x y h.1, h2]
    exact ⟨by simp [h1], rfl⟩
theorem m_sameL_iff (a b : List Bl) (ha : m_validL a = true) (hb : m_validL b = true) : m_enc a = m_enc b ↔ m_sameL a b = true := by
  constructor
  · intro h
    have h1 := cd_decode_enc a ha ⟨(m_enc a).toArray⟩ rfl
    have h2 := cd_decode_enc b hb ⟨(m_enc a).toArray⟩ h
    have h3 : a = b := (Prod.mk.inj (h1.symm.trans h2)).1
    rw [h3]; exact m_sameL_refl b
  · intro h
    obtain ⟨h1, h2⟩ := m_sameL_enc a b h
    unfold m_enc
    rw [h1, h2]
theorem pl_after (l : List Bl) (h : m_validL l = true) : ∀ x ∈ l, x.f5.f1.length ≤ 64 := fun x hx => ((cd_validL_ok l h).2 x hx).2.2.2.2.2.2.1.1
theorem bk_short (l0 : List Bl) (A0 : Option Addr) (c0 : Nat) (w : World) (hr : Kd.C k26 w A0 l0.length l0) (hc : l0.length ≤ c0) :
    Calls Tryd.prog 18 #[.slice A0 l0.length c0] w fun e w' => ∃ A c, e = .returned (.slice A (m_short l0).length c) ∧ (m_short l0).length ≤ c ∧ Kd.C k26 w' A (m_short l0).length (m_short l0) ∧ Below w.heap.size w w' := by
  refine (copydesklaw03_short.calls 100 (fun k_ => k_ < w.heap.size) A0 c0 l0 (m_short l0) w (Kd.V_mk hc (Kd.C_F k26_heap hr)) (pl_short l0 (Kd.C_max hr) 100 (by omega))).mono ?_
  rintro e w' ⟨v, rfl, hN, hb⟩
  obtain ⟨A, c, rfl⟩ := Kd.N_slice hN
  obtain ⟨_, h2, h3⟩ := Kd.N_reads' hN
  exact ⟨A, c, rfl, h2, h3, hb⟩
def copydesklaw03_BlockRoundTrip.f (k : Nat) (l0 : List (S26)) (l1 : List (S26)) : Option Bool := some true
set_option maxHeartbeats 4000000 in
set_option maxRecDepth 100000 in
theorem copydesklaw03_BlockRoundTrip.calls (k : Nat) (A0 : Option Addr) (c0 : Nat) (l0 : List (S26)) (A1 : Option Addr) (c1 : Nat) (l1 : List (S26)) (r : Bool) (w : World) (hr0 : Kd.C k26 w A0 l0.length l0) (hc0 : l0.length ≤ c0) (hr1 : Kd.C k26 w A1 l1.length l1) (hc1 : l1.length ≤ c1) (h : copydesklaw03_BlockRoundTrip.f k l0 l1 = some r) :
    Calls Tryd.prog 9 #[.slice A0 l0.length c0, .slice A1 l1.length c1] w fun e w' => e = .returned (.bool r) ∧ Below w.heap.size w w' := by
  obtain rfl := Option.some.inj h
  clear h
  have HR0 := Aside0.mk hr0
  have HR1 := Aside0.mk hr1
  have HC0 := Aside0.mk hc0
  have HC1 := Aside0.mk hc1
  clear hr0 hr1 hc0 hc1
  go_enter Tryd.func9, Tryd.ntmps9
  go_wp2_with (go_at_call 17; refine Rg.stop_here ?_)
  refine ⟨?_⟩
  refine (copydesklaw03_sane.calls true _ rfl).mono ?_
  rintro e w1 ⟨rfl, hb1⟩
  have HB1 := Aside0.mk hb1
  clear hb1
  go_wp2_with (go_at_call 18; refine Rg.stop_here ?_)
  refine ⟨?_⟩
  refine (bk_short l0 A0 c0 _ (Kd.C_below HR0.out HB1.out) HC0.out).mono ?_
  rintro e w2 ⟨Aa, ca, rfl, hca, hCa, hb2⟩
  have HB2 := Aside0.mk (below_step HB1.out hb2)
  clear hb2
  go_wp2_with (go_at_call 18; refine Rg.stop_here ?_)
  refine ⟨?_⟩
  refine (bk_short l1 A1 c1 _ (Kd.C_below HR1.out HB2.out) HC1.out).mono ?_
  rintro e w3 ⟨Ab, cb, rfl, hcb, hCb, hb3⟩
  have hCa3 := Kd.C_below hCa hb3
  have HB3 := Aside0.mk (below_step HB2.out hb3)
  have hn0 := m_short_len l0
  obtain ⟨a, ha⟩ : ∃ a, m_short l0 = a := ⟨_, rfl⟩
  obtain ⟨b, hb⟩ : ∃ b, m_short l1 = b := ⟨_, rfl⟩
  rw [ha] at hca hCa3 hn0 ⊢
  rw [hb] at hcb hCb ⊢
  clear hCa hb3 ha hb
  obtain ⟨S1, x1, hE1⟩ : ∃ S1 x1, m_encode a = (S1, x1) := ⟨_, _, rfl⟩
  obtain ⟨S2, x2, hE2⟩ : ∃ S2 x2, m_encode b = (S2, x2) := ⟨_, _, rfl⟩
  go_wp2_with (go_at_call 27; refine Rg.stop_here ?_)
  refine ⟨?_⟩
  refine (block_Encode.calls Aa ca a S1 x1 _ hCa3 hca (congrArg some hE1)).mono ?_
  rintro e w4 ⟨rfl, hb4⟩
  have hCa4 := Kd.C_below hCa3 hb4
  have hCb4 := Kd.C_below hCb hb4
  have HB4 := Aside0.mk (below_step HB3.out hb4)
  clear hCa3 hCb hb4
  go_wp2_with (go_at_call 27; refine Rg.stop_here ?_)
  refine ⟨?_⟩
  refine (block_Encode.calls Ab cb b S2 x2 _ hCb4 hcb (congrArg some hE2)).mono ?_
  rintro e w5 ⟨rfl, hb5⟩
  have hCa5 := Kd.C_below hCa4 hb5
  have hCb5 := Kd.C_below hCb4 hb5
  have HB5 := Aside0.mk (below_step HB4.out hb5)
  have HE1 := Aside0.mk hE1
  have HE2 := Aside0.mk hE2
  clear hCa4 hCb4 hb5 hE1 hE2
  cases hv : m_validL a with
  | false =>
    have h1 := HE1.out
    rw [cd_encode_err a hv] at h1
    obtain ⟨rfl, rfl⟩ := Prod.mk.inj h1
    clear h1
    go_wp2_with (go_at_call 21; refine (block_ValidList.calls Aa ca a false _ hCa5 hca (congrArg some hv)).mono ?_; rintro e w6 ⟨rfl, hb6⟩)
    go_ret
    exact ⟨rfl, below_step HB5.out hb6⟩
  | true =>
    have h1 := HE1.out
    rw [cd_encode_ok a hv] at h1
    obtain ⟨hS1, rfl⟩ := Prod.mk.inj h1
    have hSl : S1.data.toList = m_enc a := by rw [← hS1]
    have hSz : S1.size ≤ 1000000000 := by
      have h2 := cd_enc_len a hv
      rw [← hSl, pu_len] at h2
      omega
    have hD : block_Decode.f S1 = some (a, 0) := by unfold block_Decode.f; rw [if_pos hSz, cd_decode_enc a hv S1 hSl]
    have hsa : block_SameList.f 200 a a = some true := by rw [pl_sameL a a (by omega) 64 (by omega) (pl_after a hv) 200 (by omega), m_sameL_refl]
    have hsb : block_SameList.f 200 a b = some (m_sameL a b) := pl_sameL a b (by omega) 64 (by omega) (pl_after a hv) 200 (by omega)
    have HSL := Aside0.mk hSl
    have HV := Aside0.mk hv
    have HD := Aside0.mk hD
    have HSA := Aside0.mk hsa
    have HSB := Aside0.mk hsb
    clear h1 hS1 hSl hD hsa hsb
    go_wp2_with (first | (go_at_call 21; refine (block_ValidList.calls Aa ca a true _ hCa5 hca (congrArg some hv)).mono ?_; rintro e w6 ⟨rfl, hb6⟩) | (go_at_call 29; refine Rg.stop_here ?_))
    refine ⟨?_⟩
    refine (block_Decode.calls S1 a 0 _ HD.out).mono ?_
    rintro e w7 ⟨vd, rfl, hSd, hb7⟩
    obtain ⟨Ad, cd, hvd, hcd, hCd⟩ := Kd.S_reads hSd
    subst hvd
    have hb67 := below_step hb6 hb7
    have hCa7 := Kd.C_below hCa5 hb67
    have hCb7 := Kd.C_below hCb5 hb67
    have HB7 := Aside0.mk (below_step HB5.out hb67)
    clear hCa5 hCb5 hb6 hb7 hb67 hSd
    go_wp2_with (go_at_call 25; refine Rg.stop_here ?_)
    refine ⟨?_⟩
    refine (block_SameList.calls 200 Ad cd a Aa ca a true _ hCd hcd hCa7 hca HSA.out).mono ?_
    rintro e w8 ⟨rfl, hb8⟩
    have hCa8 := Kd.C_below hCa7 hb8
    have hCb8 := Kd.C_below hCb7 hb8
    have HB8 := Aside0.mk (below_step HB7.out hb8)
    clear hCa7 hCb7 hCd hb8
    cases hw : m_validL b with
    | false =>
      have h2 := HE2.out
      rw [cd_encode_err b hw] at h2
      obtain ⟨rfl, rfl⟩ := Prod.mk.inj h2
      clear h2
      go_wp2
      go_ret
      exact ⟨rfl, HB8.out⟩
    | true =>
      have h2 := HE2.out
      rw [cd_encode_ok b hw] at h2
      obtain ⟨hS2, rfl⟩ := Prod.mk.inj h2
      have hS2l : S2.data.toList = m_enc b := by rw [← hS2]
      have hiff := m_sameL_iff a b hv hw
      rw [← HSL.out, ← hS2l] at hiff
      clear h2 hS2 hS2l
      by_cases he : S1 = S2
      · have hsm : m_sameL a b = true := hiff.1 (by rw [he])
        have e1 : (S1.toList == S2.toList) = true := by rw [he]; simp
        clear he
        have hsb := HSB.out
        rw [hsm] at hsb
        go_wp2_with (go_at_call 25; refine (block_SameList.calls 200 Aa ca a Ab cb b true _ hCa8 hca hCb8 hcb hsb).mono ?_; rintro e w9 ⟨rfl, hb9⟩)
        go_ret
        exact ⟨by simp [e1], below_step HB8.out hb9⟩
      · have hne : S1.data.toList ≠ S2.data.toList := fun e => he (cd_ba_inj _ _ e)
        have hsm : m_sameL a b = false := by
          cases hs : m_sameL a b with
          | false => rfl
          | true => exact absurd (hiff.2 hs) hne
        have hsb := HSB.out
        rw [hsm] at hsb
        have e1 : (S1.toList == S2.toList) = false := by rw [pu_toList, pu_toList]; simpa using hne
        have e2 : decide (S1.toList = S2.toList) = false := by rw [pu_toList, pu_toList]; simpa using hne
        go_wp2_with (go_at_call 25; refine (block_SameList.calls 200 Aa ca a Ab cb b false _ hCa8 hca hCb8 hcb hsb).mono ?_; rintro e w9 ⟨rfl, hb9⟩)
        go_ret
        exact ⟨by simp [e1, e2], below_step HB8.out hb9⟩
end Go.Proofs.YtpgjhjlhipikgaaDoor.PK
end
