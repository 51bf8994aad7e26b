/- Texts of this claim, one behind the other. -/
import Derived.Test.YtpgjhjlhipikgaaDoorMCx5
import Derived.Test.YtpgjhjlhipikgaaDoorMCx7
import Derived.Test.YtpgjhjlhipikgaaDoorMCx11
import Derived.Test.YtpgjhjlhipikgaaDoorMCx6
section
namespace Go.Proofs.YtpgjhjlhipikgaaDoor.PK
open Go.RowKit Go.Proofs.YtpgjhjlhipikgaaDoorW.PrintWords Go.Proofs.YtpgjhjlhipikgaaDoorW.PrintLast Go.Proofs.YtpgjhjlhipikgaaDoorW.PrintMore
attribute [local go_sem] max2_int min2_int max_two min_two max_three min_three max_four min_four   -- for this text's walks alone
set_option linter.unusedVariables false
set_option linter.unusedSimpArgs false

/-! ### copydesklaw03_bare: function 37 -/
def copydesklaw03_bare.l0 : Nat → ByteArray → List Int → Int → Option (ByteArray)
  | 0, _, _, _ => none
  | k + 1, x0, x3, x4 => if x4 < (x0.size : Int) then (if 0 ≤ x4 then (if (bt x0 x4) = 32 then (copydesklaw03_bare.l0 k x0 x3 (wrap64 (x4 + 1))) else (if x3.length < 140737488355328 then (copydesklaw03_bare.l0 k x0 (x3 ++ [bt x0 x4]) (wrap64 (x4 + 1))) else (none))) else (none)) else (some (strOfNums x3))
def copydesklaw03_bare.f (k : Nat) (a0 : ByteArray) : Option (ByteArray) := copydesklaw03_bare.l0 k a0 ([] : List Int) 0
theorem copydesklaw03_bare.mono_l : ∀ k, (∀ y0 y1 y2, LeO (copydesklaw03_bare.l0 k y0 y1 y2) (copydesklaw03_bare.l0 (k + 1) y0 y1 y2))
  | 0 => fun _ _ _ r h => by simp [copydesklaw03_bare.l0] at h
  | k + 1 => by
    have ih0 := copydesklaw03_bare.mono_l k
    · intro y0 y1 y2
      unfold copydesklaw03_bare.l0
      repeat' first
      | (with_reducible exact ih0 _ _ _)
      | (with_reducible exact LeO.refl _)
      | (with_reducible exact LeO.none _)
      | (with_reducible refine LeO.ite ?_ ?_)
      | (with_reducible refine LeO.bind ?_ (fun _ => ?_))
      | exact ih0 _ _ _
      | exact LeO.none _
      | refine LeO.ite ?_ ?_
      | refine LeO.bind ?_ (fun _ => ?_)
theorem copydesklaw03_bare.mono : ∀ a0 k, LeO (copydesklaw03_bare.f k a0) (copydesklaw03_bare.f (k + 1) a0) := by
  intro a0 k
  have ih0 := copydesklaw03_bare.mono_l k
  unfold copydesklaw03_bare.f
  repeat' first
      | (with_reducible exact ih0 _ _ _)
      | (with_reducible exact LeO.refl _)
      | (with_reducible exact LeO.none _)
      | (with_reducible refine LeO.ite ?_ ?_)
      | (with_reducible refine LeO.bind ?_ (fun _ => ?_))
      | exact ih0 _ _ _
      | exact LeO.none _
      | refine LeO.ite ?_ ?_
      | refine LeO.bind ?_ (fun _ => ?_)
set_option maxHeartbeats 8000000 in
set_option maxRecDepth 100000 in
theorem copydesklaw03_bare.calls (k : Nat) (a0 : ByteArray) (r : ByteArray) (w : World) (h : copydesklaw03_bare.f k a0 = some r) :
    Calls Tryd.prog 37 #[.string a0] w fun e w' => e = .returned (.string r) ∧ Below w.heap.size w w' := by
  have HB := Aside0.mk (Below.refl w.heap.size w)
  have H : (copydesklaw03_bare.l0 k a0 ([] : List Int) 0) = some r := h
  clear h
  have H' := Aside0.mk H
  clear H
  go_enter Tryd.func37, Tryd.ntmps37
  go_wp2
  go_loopg [3, 4] k (fun kq v3 v4 w' => ∃ (x3_1 : List Int) (x4_1 : Int), v4 = .int .i64 x4_1 ∧ Aside0 (copydesklaw03_bare.l0 kq a0 x3_1 x4_1 = some r) ∧ Aside0 (kq ≤ k) ∧ Aside0 (Kd.R (Kd.int .u8) 5 w' w.heap.size (fun _ => True) v3 x3_1) ∧ Aside0 (Below w.heap.size w w'))
  case atStart => exact ⟨(([] : List Int)), (0), (by first | rfl | (simp; done) | (simp [*]; done)), H', ⟨Nat.le_refl _⟩, ⟨by first | exact Kd.R_nil _ _ _ _ _ | exact Kd.N_nil _ _ _ _ _ | exact Kd.V_nil _ _ _ _ _ | exact Kd.Q_nil _ _ _ _ _ | exact Kd.S_nil _ _ _ _ _⟩, ⟨by repeat (first | (with_reducible first | exact HB.out | apply below_alloc | apply pw_below_drewN | apply below_drew1) | exact HB.out)⟩⟩
  case round =>
    clear H'
    obtain ⟨x3_1, x4_1, rfl, HA, HK1, HO_3, HB⟩ := hrel
    cases gk with
    | zero => exact absurd HA.out (by simp [copydesklaw03_bare.l0])
    | succ k1 =>
      have H := HA.out
      clear HA
      simp only [copydesklaw03_bare.l0] at H
      by_cases c2 : x4_1 < (a0.size : Int)
      · rw [if_pos c2] at H
        have c2b0 : decide (x4_1 < (a0.size : Int)) = true := decide_eq_true c2
        clear c2
        by_cases c3 : 0 ≤ x4_1
        · rw [if_pos c3] at H
          have c3b0 : decide (0 ≤ x4_1) = true := decide_eq_true c3
          clear c3
          by_cases c5 : (bt a0 x4_1) = 32
          · rw [if_pos c5] at H
            have c5b0 : ((bt a0 x4_1) == 32) = true := beq_iff_eq.mpr c5
            have c5b1 : ((bt a0 x4_1) != 32) = false := bne_eq_false_iff_eq.mpr c5
            clear c5
            have H' := Aside0.mk H
            clear H
            have p4 : 0 ≤ (x4_1 : Int) := of_decide_eq_true (by first | (with_reducible assumption) | assumption)
            have q4 : x4_1 < (a0.size : Int) := of_decide_eq_true (by first | (with_reducible assumption) | assumption)
            have hx4 := bt_at a0 x4_1
            replace p4 := eq_true p4
            replace q4 := eq_true q4
            go_wp2
            go_roundg k1
            case measure => have := HK1.out; omega
            case rel => exact ⟨(x3_1), (wrap64 (x4_1 + 1)), (by first | rfl | (simp; done) | (simp [*]; done)), H', ⟨by have := HK1.out; omega⟩, ⟨by (with_reducible repeat (first | apply Kd.R_alloc | apply Kd.R_drewN | apply Kd.R_drew)); exact HO_3.out⟩, ⟨by repeat (first | (with_reducible first | exact HB.out | apply below_alloc | apply pw_below_drewN | apply below_drew1) | exact HB.out)⟩⟩
          · rw [if_neg c5] at H
            have c5b0 : ((bt a0 x4_1) == 32) = false := beq_eq_false_iff_ne.mpr c5
            have c5b1 : ((bt a0 x4_1) != 32) = true := bne_iff_ne.mpr c5
            by_cases c7 : x3_1.length < 140737488355328
            · rw [if_pos c7] at H
              have LMc7 := Aside0.mk c7
              clear c7
              obtain ⟨y331, hy331⟩ : ∃ y_ : List Int, y_ = (x3_1 ++ [bt a0 x4_1]) := ⟨_, rfl⟩
              replace H : (copydesklaw03_bare.l0 k1 a0 y331 (wrap64 (x4_1 + 1))) = some r := by first | (rw [hy331]; with_reducible exact H) | (have H2_ := (Option.bind_some _ _).symm.trans H; rw [hy331]; with_reducible exact H2_) | (have H2_ := (Option.bind_some _ _).symm.trans H; with_reducible exact H2_) | with_reducible exact H | (rw [hy331]; exact H) | exact H
              have Ny331 := Aside0.mk hy331
              clear hy331
              have H' := Aside0.mk H
              clear H
              have p4 : 0 ≤ (x4_1 : Int) := of_decide_eq_true (by first | (with_reducible assumption) | assumption)
              have q4 : x4_1 < (a0.size : Int) := of_decide_eq_true (by first | (with_reducible assumption) | assumption)
              have hx4 := bt_at a0 x4_1
              replace p4 := eq_true p4
              replace q4 := eq_true q4
              have p6 : 0 ≤ (x4_1 : Int) := of_decide_eq_true (by first | (with_reducible assumption) | assumption)
              have q6 : x4_1 < (a0.size : Int) := of_decide_eq_true (by first | (with_reducible assumption) | assumption)
              have hx6 := bt_at a0 x4_1
              replace p6 := eq_true p6
              replace q6 := eq_true q6
              go_wp2_with (first | ((with_reducible refine gate_builtin (b := .append) (xs := #[.tmp 15, .tmp 19]) rfl ?_); at_builtin; refine Kd.R_append (Kd.int .u8) (w0 := w) w.heap.size rfl (.tmp 15) (.tmp 19) 62 5 (.int .u8 0) 1 rfl Tryd.underlying62 info5 rfl (by decide) (by omega) u3 x3_1 (bt a0 x4_1) [.int .u8 (bt a0 x4_1)] (fun _ => True) (fun _ => False) rfl rfl ?aP (fun _ hk => hk.elim) ?aF ?aO ?aB ?aS ?aL ?_; (case aP => exact rfl); (case aB => exact (by repeat (first | (with_reducible first | exact HB.out | apply below_alloc | apply pw_below_drewN | apply below_drew1) | exact HB.out))); (case aF => exact (fun _ _ => trivial)); (case aO => exact (by (with_reducible repeat (first | apply Kd.R_alloc | apply Kd.R_drewN | apply Kd.R_drew)); exact HO_3.out)); (case aS => exact (below_size (by repeat (first | (with_reducible first | exact HB.out | apply below_alloc | apply pw_below_drewN | apply below_drew1) | exact HB.out)))); (case aL => have := LMc7.out; omega); intro v332 w8 ho hb hg hat; rw [← Ny331.out] at ho; have n0_ := Aside0.mk (hb); have n1_ := Aside0.mk (ho); clear HB; clear HO_3; have HB := n0_; have HO333 := n1_; clear n0_ n1_; clear ho hb hg hat))
              go_roundg k1
              case measure => have := HK1.out; omega
              case rel => exact ⟨(y331), (wrap64 (x4_1 + 1)), (by first | rfl | (simp; done) | (simp [*]; done)), H', ⟨by have := HK1.out; omega⟩, ⟨by (with_reducible repeat (first | apply Kd.R_alloc | apply Kd.R_drewN | apply Kd.R_drew)); exact HO333.out⟩, ⟨by repeat (first | (with_reducible first | exact HB.out | apply below_alloc | apply pw_below_drewN | apply below_drew1) | exact HB.out)⟩⟩
            · rw [if_neg c7] at H
              exact absurd H (by simp)
        · rw [if_neg c3] at H
          exact absurd H (by simp)
      · rw [if_neg c2] at H
        have c2b0 : decide (x4_1 < (a0.size : Int)) = false := decide_eq_false c2
        clear c2
        obtain rfl := Option.some.inj H
        have hcv9 := own_string (P := Tryd.prog) Tryd.underlying62 Tryd.underlying5 Tryd.underlying9 (Kd.own_of_R HO_3.out)
        go_wp2
        go_ret
        exact ⟨by first | rfl | (simp [errW_none, errW_some] <;> rfl) | (simp [*, errW_none, errW_some] <;> rfl), by repeat (first | (with_reducible first | exact HB.out | apply below_alloc | apply pw_below_drewN | apply below_drew1) | exact HB.out)⟩

end Go.Proofs.YtpgjhjlhipikgaaDoor.PK
end
section
namespace Go.Proofs.YtpgjhjlhipikgaaDoor.PK
open Go.RowKit Go.Proofs.YtpgjhjlhipikgaaDoorW.PrintWords Go.Proofs.YtpgjhjlhipikgaaDoorW.PrintLast Go.Proofs.YtpgjhjlhipikgaaDoorW.PrintMore
attribute [local go_sem] max2_int min2_int max_two min_two max_three min_three max_four min_four   -- for this text's walks alone
set_option linter.unusedVariables false
set_option linter.unusedSimpArgs false

/-! ### copydesklaw03_BlockSentencesShape: function 12 -/
def copydesklaw03_BlockSentencesShape.l0 : Nat → ByteArray → Bool → List ByteArray → ByteArray → Int → Option (Bool)
  | 0, _, _, _, _, _ => none
  | k + 1, x0, x3, x4, x5, x6 => if x6 < (x4.length : Int) then (if 0 ≤ x6 then (if (rdOf ByteArray.empty x4 x6).toList = ([] : List UInt8) then (some false) else (if 0 < ((rdOf ByteArray.empty x4 x6).size : Int) then (if (bt (rdOf ByteArray.empty x4 x6) 0) = 32 then (some false) else (if 0 ≤ (wrap64 (((rdOf ByteArray.empty x4 x6).size : Int) - 1)) then (if (wrap64 (((rdOf ByteArray.empty x4 x6).size : Int) - 1)) < ((rdOf ByteArray.empty x4 x6).size : Int) then (if (bt (rdOf ByteArray.empty x4 x6) (wrap64 (((rdOf ByteArray.empty x4 x6).size : Int) - 1))) = 32 then (some false) else ((copydesklaw03_bare.f k (rdOf ByteArray.empty x4 x6)).bind fun t343 => (if x5.size + t343.size ≤ 9223372036854775807 then (copydesklaw03_BlockSentencesShape.l0 k x0 x3 x4 (x5 ++ t343) (wrap64 (x6 + 1))) else (none)))) else (none)) else (none))) else (none))) else (none)) else (if x3 = true then ((copydesklaw03_bare.f k x0).bind fun t344 => (some (x5.toList == t344.toList))) else (some false))
def copydesklaw03_BlockSentencesShape.f (k : Nat) (a0 : ByteArray) : Option (Bool) := (copydesklaw03_sane.f).bind fun t334 => (if 0 ≤ (mn (a0.size : Int) 2000) then (if (mn (a0.size : Int) 2000) ≤ (a0.size : Int) then ((block_Sentences.f (a0.extract 0 ((mn (a0.size : Int) 2000) : Int).toNat)).bind fun t335 => (copydesklaw03_BlockSentencesShape.l0 k (a0.extract 0 ((mn (a0.size : Int) 2000) : Int).toNat) t334 t335 (⟨#[]⟩ : ByteArray) 0)) else (none)) else (none))
theorem copydesklaw03_BlockSentencesShape.mono_l : ∀ k, (∀ y0 y1 y2 y3 y4, LeO (copydesklaw03_BlockSentencesShape.l0 k y0 y1 y2 y3 y4) (copydesklaw03_BlockSentencesShape.l0 (k + 1) y0 y1 y2 y3 y4))
  | 0 => fun _ _ _ _ _ r h => by simp [copydesklaw03_BlockSentencesShape.l0] at h
  | k + 1 => by
    have ih0 := copydesklaw03_BlockSentencesShape.mono_l k
    · intro y0 y1 y2 y3 y4
      unfold copydesklaw03_BlockSentencesShape.l0
      repeat' first
      | (with_reducible exact ih0 _ _ _ _ _)
      | (with_reducible exact copydesklaw03_bare.mono _ _)
      | (with_reducible exact LeO.refl _)
      | (with_reducible exact LeO.none _)
      | (with_reducible refine LeO.ite ?_ ?_)
      | (with_reducible refine LeO.bind ?_ (fun _ => ?_))
      | exact ih0 _ _ _ _ _
      | exact copydesklaw03_bare.mono _ _
      | exact LeO.none _
      | refine LeO.ite ?_ ?_
      | refine LeO.bind ?_ (fun _ => ?_)
theorem copydesklaw03_BlockSentencesShape.mono : ∀ a0 k, LeO (copydesklaw03_BlockSentencesShape.f k a0) (copydesklaw03_BlockSentencesShape.f (k + 1) a0) := by
  intro a0 k
  have ih0 := copydesklaw03_BlockSentencesShape.mono_l k
  unfold copydesklaw03_BlockSentencesShape.f
  repeat' first
      | (with_reducible exact ih0 _ _ _ _ _)
      | (with_reducible exact copydesklaw03_bare.mono _ _)
      | (with_reducible exact LeO.refl _)
      | (with_reducible exact LeO.none _)
      | (with_reducible refine LeO.ite ?_ ?_)
      | (with_reducible refine LeO.bind ?_ (fun _ => ?_))
      | exact ih0 _ _ _ _ _
      | exact copydesklaw03_bare.mono _ _
      | exact LeO.none _
      | refine LeO.ite ?_ ?_
      | refine LeO.bind ?_ (fun _ => ?_)
set_option maxHeartbeats 8000000 in
set_option maxRecDepth 100000 in
theorem copydesklaw03_BlockSentencesShape.calls (k : Nat) (a0 : ByteArray) (r : Bool) (w : World) (h : copydesklaw03_BlockSentencesShape.f k a0 = some r) :
    Calls Tryd.prog 12 #[.string a0] w fun e w' => e = .returned (.bool r) ∧ Below w.heap.size w w' := by
  have HB := Aside0.mk (Below.refl w.heap.size w)
  have H : ((copydesklaw03_sane.f).bind fun t334 => (if 0 ≤ (mn (a0.size : Int) 2000) then (if (mn (a0.size : Int) 2000) ≤ (a0.size : Int) then ((block_Sentences.f (a0.extract 0 ((mn (a0.size : Int) 2000) : Int).toNat)).bind fun t335 => (copydesklaw03_BlockSentencesShape.l0 k (a0.extract 0 ((mn (a0.size : Int) 2000) : Int).toNat) t334 t335 (⟨#[]⟩ : ByteArray) 0)) else (none)) else (none))) = some r := h
  clear h
  replace H := Option.bind_eq_some_iff.mp H
  obtain ⟨t334, A20, H⟩ := H
  replace H : (if 0 ≤ (mn (a0.size : Int) 2000) then (if (mn (a0.size : Int) 2000) ≤ (a0.size : Int) then ((block_Sentences.f (a0.extract 0 ((mn (a0.size : Int) 2000) : Int).toNat)).bind fun t335 => (copydesklaw03_BlockSentencesShape.l0 k (a0.extract 0 ((mn (a0.size : Int) 2000) : Int).toNat) t334 t335 (⟨#[]⟩ : ByteArray) 0)) else (none)) else (none)) = some r := H
  have A2 := Aside0.mk A20
  clear A20
  obtain ⟨ji3, hji3⟩ : ∃ j_ : Int, (mn (a0.size : Int) 2000) = j_ := ⟨_, rfl⟩
  replace H : (if 0 ≤ (ji3) then (if (ji3) ≤ (a0.size : Int) then ((block_Sentences.f (a0.extract 0 ((ji3) : Int).toNat)).bind fun t335 => (copydesklaw03_BlockSentencesShape.l0 k (a0.extract 0 ((ji3) : Int).toNat) t334 t335 (⟨#[]⟩ : ByteArray) 0)) else (none)) else (none)) = some r := by first | (rw [hji3] at H; exact H) | (simp only [hji3] at H ⊢; exact H)
  (try rw [hji3] at A2)
  (try (have hji3h : ji3 ≤ 2000 := by (rw [← hji3]; unfold mn; (repeat' split) <;> omega)))
  (try (have hji3g : ji3 ≤ 64 := by omega))
  (try (have hji3l : 0 ≤ ji3 := by (rw [← hji3]; unfold mn; (repeat' split) <;> omega)))
  (try (have hji3m : 0 ≤ ji3 := by omega))
  have hji3_ : (if 2000 < (a0.size : Int) then 2000 else (a0.size : Int)) = ji3 := hji3
  by_cases c4 : 0 ≤ (ji3)
  · rw [if_pos c4] at H
    have c4b0 := eq_true c4
    have c4b1 : decide (0 ≤ (ji3)) = true := decide_eq_true c4
    clear c4
    by_cases c5 : (ji3) ≤ (a0.size : Int)
    · rw [if_pos c5] at H
      have c5b0 := eq_true c5
      have c5b1 : decide ((ji3) ≤ (a0.size : Int)) = true := decide_eq_true c5
      clear c5
      replace H := Option.bind_eq_some_iff.mp H
      obtain ⟨t335, A60, H⟩ := H
      replace H : (copydesklaw03_BlockSentencesShape.l0 k (a0.extract 0 ((ji3) : Int).toNat) t334 t335 (⟨#[]⟩ : ByteArray) 0) = some r := H
      have A6 := Aside0.mk A60
      clear A60
      have H' := Aside0.mk H
      clear H
      go_enter Tryd.func12, Tryd.ntmps12
      go_wp2_with (first | (go_at_call 17; (with_reducible refine (copydesklaw03_sane.calls  t334 _ A2.out).mono ?_); rintro e w7 ⟨rfl, hb⟩; have n0_ := Aside0.mk (below_step (by repeat (first | (with_reducible first | exact HB.out | apply below_alloc | apply pw_below_drewN | apply below_drew1) | exact HB.out)) hb); clear HB; have HB := n0_; clear n0_; (try clear hb); (try clear hb2); (try clear hk); (try clear hi)) | (go_at_call 32; (with_reducible refine (block_Sentences.calls (a0.extract 0 ((ji3) : Int).toNat) t335 _ A6.out).mono ?_); rintro e w8 ⟨v336, rfl, ho0, hb⟩; have n0_ := Aside0.mk (Kd.R_lower ho0 (below_size (by repeat (first | (with_reducible first | exact HB.out | apply below_alloc | apply pw_below_drewN | apply below_drew1) | exact HB.out)))); have n1_ := Aside0.mk (below_step (by repeat (first | (with_reducible first | exact HB.out | apply below_alloc | apply pw_below_drewN | apply below_drew1) | exact HB.out)) hb); clear HB; have HO337 := n0_; have HB := n1_; clear n0_ n1_; (try clear hb); (try clear hb2); (try clear hk); (try clear hi); (try clear ho0)))
      repeat (go_quiet (first | (go_at_call 17; (with_reducible refine (copydesklaw03_sane.calls  t334 _ A2.out).mono ?_); rintro e w7 ⟨rfl, hb⟩; have n0_ := Aside0.mk (below_step (by repeat (first | (with_reducible first | exact HB.out | apply below_alloc | apply pw_below_drewN | apply below_drew1) | exact HB.out)) hb); clear HB; have HB := n0_; clear n0_; (try clear hb); (try clear hb2); (try clear hk); (try clear hi)) | (go_at_call 32; (with_reducible refine (block_Sentences.calls (a0.extract 0 ((ji3) : Int).toNat) t335 _ A6.out).mono ?_); rintro e w8 ⟨v336, rfl, ho0, hb⟩; have n0_ := Aside0.mk (Kd.R_lower ho0 (below_size (by repeat (first | (with_reducible first | exact HB.out | apply below_alloc | apply pw_below_drewN | apply below_drew1) | exact HB.out)))); have n1_ := Aside0.mk (below_step (by repeat (first | (with_reducible first | exact HB.out | apply below_alloc | apply pw_below_drewN | apply below_drew1) | exact HB.out)) hb); clear HB; have HO337 := n0_; have HB := n1_; clear n0_ n1_; (try clear hb); (try clear hb2); (try clear hk); (try clear hi); (try clear ho0))); try go_wp2_with (first | (go_at_call 17; (with_reducible refine (copydesklaw03_sane.calls  t334 _ A2.out).mono ?_); rintro e w7 ⟨rfl, hb⟩; have n0_ := Aside0.mk (below_step (by repeat (first | (with_reducible first | exact HB.out | apply below_alloc | apply pw_below_drewN | apply below_drew1) | exact HB.out)) hb); clear HB; have HB := n0_; clear n0_; (try clear hb); (try clear hb2); (try clear hk); (try clear hi)) | (go_at_call 32; (with_reducible refine (block_Sentences.calls (a0.extract 0 ((ji3) : Int).toNat) t335 _ A6.out).mono ?_); rintro e w8 ⟨v336, rfl, ho0, hb⟩; have n0_ := Aside0.mk (Kd.R_lower ho0 (below_size (by repeat (first | (with_reducible first | exact HB.out | apply below_alloc | apply pw_below_drewN | apply below_drew1) | exact HB.out)))); have n1_ := Aside0.mk (below_step (by repeat (first | (with_reducible first | exact HB.out | apply below_alloc | apply pw_below_drewN | apply below_drew1) | exact HB.out)) hb); clear HB; have HO337 := n0_; have HB := n1_; clear n0_ n1_; (try clear hb); (try clear hb2); (try clear hk); (try clear hi); (try clear ho0))))
      go_loopg [5, 6] k (fun kq v5 v6 w' => ∃ (x5_1 : ByteArray) (x6_1 : Int), v5 = .string x5_1 ∧ v6 = .int .i64 x6_1 ∧ Aside0 (copydesklaw03_BlockSentencesShape.l0 kq (a0.extract 0 ((ji3) : Int).toNat) t334 t335 x5_1 x6_1 = some r) ∧ Aside0 (kq ≤ k) ∧ Aside0 (Kd.R Kd.string 9 w' w.heap.size (fun _ => True) v336 t335) ∧ Aside0 (Below w.heap.size w w'))
      case atStart => exact ⟨((⟨#[]⟩ : ByteArray)), (0), (by first | rfl | (simp; done) | (simp [*]; done)), (by first | rfl | (simp; done) | (simp [*]; done)), H', ⟨Nat.le_refl _⟩, ⟨by (with_reducible repeat (first | apply Kd.R_alloc | apply Kd.R_drewN | apply Kd.R_drew)); exact HO337.out⟩, ⟨by repeat (first | (with_reducible first | exact HB.out | apply below_alloc | apply pw_below_drewN | apply below_drew1) | exact HB.out)⟩⟩
      case round =>
        clear H'
        try clear c1
        try clear p2
        try clear c4
        try clear c4b0
        try clear c4b1
        try clear c5
        try clear c5b0
        try clear c5b1
        obtain ⟨x5_1, x6_1, rfl, rfl, HA, HK1, HO_4, HB⟩ := hrel
        cases gk with
        | zero => exact absurd HA.out (by simp [copydesklaw03_BlockSentencesShape.l0])
        | succ k1 =>
          have H := HA.out
          clear HA
          simp only [copydesklaw03_BlockSentencesShape.l0] at H
          by_cases c9 : x6_1 < (t335.length : Int)
          · rw [if_pos c9] at H
            have c9b0 : decide (x6_1 < (t335.length : Int)) = true := decide_eq_true c9
            clear c9
            by_cases c10 : 0 ≤ x6_1
            · rw [if_pos c10] at H
              have c10b0 : decide (0 ≤ x6_1) = true := decide_eq_true c10
              clear c10
              by_cases c11 : (rdOf ByteArray.empty t335 x6_1).toList = ([] : List UInt8)
              · rw [if_pos c11] at H
                have c11b0 : ((rdOf ByteArray.empty t335 x6_1).toList == ([] : List UInt8)) = true := beq_iff_eq.mpr c11
                have c11b1 : ((rdOf ByteArray.empty t335 x6_1).toList != ([] : List UInt8)) = false := bne_eq_false_iff_eq.mpr c11
                clear c11
                obtain rfl := Option.some.inj H
                obtain ⟨Ao12, co12, eo12⟩ := Kd.R_slice HO_4.out
                subst eo12
                have p338 : 0 ≤ (x6_1 : Int) := of_decide_eq_true (by first | (with_reducible assumption) | assumption)
                have q338 : x6_1 < (t335.length : Int) := of_decide_eq_true (by first | (with_reducible assumption) | assumption)
                obtain ⟨ad338, e338, hx338_0⟩ := Kd.at_string (Kd.R_reads' HO_4.out).2.2 x6_1 p338 q338
                cases e338
                replace p338 := eq_true p338
                replace q338 := eq_true q338
                go_wp2
                repeat (go_quiet (fail); try go_wp2)
                go_ret
                exact ⟨by first | rfl | (simp [errW_none, errW_some] <;> rfl) | (simp only [← hji3]; first | rfl | (simp [errW_none, errW_some] <;> rfl)) | (simp [*, errW_none, errW_some] <;> rfl), by repeat (first | (with_reducible first | exact HB.out | apply below_alloc | apply pw_below_drewN | apply below_drew1) | exact HB.out)⟩
              · rw [if_neg c11] at H
                have c11b0 : ((rdOf ByteArray.empty t335 x6_1).toList == ([] : List UInt8)) = false := beq_eq_false_iff_ne.mpr c11
                have c11b1 : ((rdOf ByteArray.empty t335 x6_1).toList != ([] : List UInt8)) = true := bne_iff_ne.mpr c11
                by_cases c13 : 0 < ((rdOf ByteArray.empty t335 x6_1).size : Int)
                · rw [if_pos c13] at H
                  have c13b0 : decide (0 < ((rdOf ByteArray.empty t335 x6_1).size : Int)) = true := decide_eq_true c13
                  have c13b1 : decide (0 < (rdOf ByteArray.empty t335 x6_1).size) = true := decide_eq_true (by omega)
                  clear c13
                  by_cases c15 : (bt (rdOf ByteArray.empty t335 x6_1) 0) = 32
                  · rw [if_pos c15] at H
                    have c15b0 : ((bt (rdOf ByteArray.empty t335 x6_1) 0) == 32) = true := beq_iff_eq.mpr c15
                    have c15b1 : ((bt (rdOf ByteArray.empty t335 x6_1) 0) != 32) = false := bne_eq_false_iff_eq.mpr c15
                    clear c15
                    obtain rfl := Option.some.inj H
                    obtain ⟨Ao16, co16, eo16⟩ := Kd.R_slice HO_4.out
                    subst eo16
                    have p338 : 0 ≤ (x6_1 : Int) := of_decide_eq_true (by first | (with_reducible assumption) | assumption)
                    have q338 : x6_1 < (t335.length : Int) := of_decide_eq_true (by first | (with_reducible assumption) | assumption)
                    obtain ⟨ad338, e338, hx338_0⟩ := Kd.at_string (Kd.R_reads' HO_4.out).2.2 x6_1 p338 q338
                    cases e338
                    replace p338 := eq_true p338
                    replace q338 := eq_true q338
                    have p339 : 0 ≤ (x6_1 : Int) := of_decide_eq_true (by first | (with_reducible assumption) | assumption)
                    have q339 : x6_1 < (t335.length : Int) := of_decide_eq_true (by first | (with_reducible assumption) | assumption)
                    obtain ⟨ad339, e339, hx339_0⟩ := Kd.at_string (Kd.R_reads' HO_4.out).2.2 x6_1 p339 q339
                    obtain rfl : ad338 = ad339 := (by injection e339)
                    replace p339 := eq_true p339
                    replace q339 := eq_true q339
                    have p14 : 0 ≤ (0 : Int) := (by omega)
                    have q14 : 0 < (rdOf ByteArray.empty t335 x6_1).size := (by have : (0 : Int) < ((rdOf ByteArray.empty t335 x6_1).size : Int) := of_decide_eq_true (by first | (with_reducible assumption) | assumption); omega)
                    have hx14 : ∀ h : 0 < (rdOf ByteArray.empty t335 x6_1).size, (((rdOf ByteArray.empty t335 x6_1)[0]'h).toNat : Int) = bt (rdOf ByteArray.empty t335 x6_1) 0 := bt_at (rdOf ByteArray.empty t335 x6_1) 0
                    clear p14
                    have qi14 : (0 < ((rdOf ByteArray.empty t335 x6_1).size : Int)) = True := eq_true (of_decide_eq_true (by first | (with_reducible assumption) | assumption))
                    replace q14 := eq_true q14
                    go_wp2
                    repeat (go_quiet (fail); try go_wp2)
                    go_ret
                    exact ⟨by first | rfl | (simp [errW_none, errW_some] <;> rfl) | (simp only [← hji3]; first | rfl | (simp [errW_none, errW_some] <;> rfl)) | (simp [*, errW_none, errW_some] <;> rfl), by repeat (first | (with_reducible first | exact HB.out | apply below_alloc | apply pw_below_drewN | apply below_drew1) | exact HB.out)⟩
                  · rw [if_neg c15] at H
                    have c15b0 : ((bt (rdOf ByteArray.empty t335 x6_1) 0) == 32) = false := beq_eq_false_iff_ne.mpr c15
                    have c15b1 : ((bt (rdOf ByteArray.empty t335 x6_1) 0) != 32) = true := bne_iff_ne.mpr c15
                    obtain ⟨ji17, hji17⟩ : ∃ j_ : Int, (wrap64 (((rdOf ByteArray.empty t335 x6_1).size : Int) - 1)) = j_ := ⟨_, rfl⟩
                    replace H : (if 0 ≤ (ji17) then (if (ji17) < ((rdOf ByteArray.empty t335 x6_1).size : Int) then (if (bt (rdOf ByteArray.empty t335 x6_1) (ji17)) = 32 then (some false) else ((copydesklaw03_bare.f k1 (rdOf ByteArray.empty t335 x6_1)).bind fun t343 => (if x5_1.size + t343.size ≤ 9223372036854775807 then (copydesklaw03_BlockSentencesShape.l0 k1 (a0.extract 0 ((ji3) : Int).toNat) t334 t335 (x5_1 ++ t343) (wrap64 (x6_1 + 1))) else (none)))) else (none)) else (none)) = some r := by first | (rw [hji17] at H; exact H) | (simp only [hji17] at H ⊢; exact H)
                    have hji17w : (IntKind.i64.wrap (((rdOf ByteArray.empty t335 x6_1).size : Int) - 1)) = ji17 := (i64_w _).trans hji17
                    by_cases c18 : 0 ≤ (ji17)
                    · rw [if_pos c18] at H
                      have c18b0 : decide (0 ≤ (ji17)) = true := decide_eq_true c18
                      clear c18
                      by_cases c19 : (ji17) < ((rdOf ByteArray.empty t335 x6_1).size : Int)
                      · rw [if_pos c19] at H
                        have c19b0 : decide ((ji17) < ((rdOf ByteArray.empty t335 x6_1).size : Int)) = true := decide_eq_true c19
                        clear c19
                        by_cases c21 : (bt (rdOf ByteArray.empty t335 x6_1) (ji17)) = 32
                        · rw [if_pos c21] at H
                          have c21b0 : ((bt (rdOf ByteArray.empty t335 x6_1) (ji17)) == 32) = true := beq_iff_eq.mpr c21
                          have c21b1 : ((bt (rdOf ByteArray.empty t335 x6_1) (ji17)) != 32) = false := bne_eq_false_iff_eq.mpr c21
                          clear c21
                          obtain rfl := Option.some.inj H
                          obtain ⟨Ao22, co22, eo22⟩ := Kd.R_slice HO_4.out
                          subst eo22
                          have p338 : 0 ≤ (x6_1 : Int) := of_decide_eq_true (by first | (with_reducible assumption) | assumption)
                          have q338 : x6_1 < (t335.length : Int) := of_decide_eq_true (by first | (with_reducible assumption) | assumption)
                          obtain ⟨ad338, e338, hx338_0⟩ := Kd.at_string (Kd.R_reads' HO_4.out).2.2 x6_1 p338 q338
                          cases e338
                          replace p338 := eq_true p338
                          replace q338 := eq_true q338
                          have p339 : 0 ≤ (x6_1 : Int) := of_decide_eq_true (by first | (with_reducible assumption) | assumption)
                          have q339 : x6_1 < (t335.length : Int) := of_decide_eq_true (by first | (with_reducible assumption) | assumption)
                          obtain ⟨ad339, e339, hx339_0⟩ := Kd.at_string (Kd.R_reads' HO_4.out).2.2 x6_1 p339 q339
                          obtain rfl : ad338 = ad339 := (by injection e339)
                          replace p339 := eq_true p339
                          replace q339 := eq_true q339
                          have p14 : 0 ≤ (0 : Int) := (by omega)
                          have q14 : 0 < (rdOf ByteArray.empty t335 x6_1).size := (by have : (0 : Int) < ((rdOf ByteArray.empty t335 x6_1).size : Int) := of_decide_eq_true (by first | (with_reducible assumption) | assumption); omega)
                          have hx14 : ∀ h : 0 < (rdOf ByteArray.empty t335 x6_1).size, (((rdOf ByteArray.empty t335 x6_1)[0]'h).toNat : Int) = bt (rdOf ByteArray.empty t335 x6_1) 0 := bt_at (rdOf ByteArray.empty t335 x6_1) 0
                          clear p14
                          have qi14 : (0 < ((rdOf ByteArray.empty t335 x6_1).size : Int)) = True := eq_true (of_decide_eq_true (by first | (with_reducible assumption) | assumption))
                          replace q14 := eq_true q14
                          have p340 : 0 ≤ (x6_1 : Int) := of_decide_eq_true (by first | (with_reducible assumption) | assumption)
                          have q340 : x6_1 < (t335.length : Int) := of_decide_eq_true (by first | (with_reducible assumption) | assumption)
                          obtain ⟨ad340, e340, hx340_0⟩ := Kd.at_string (Kd.R_reads' HO_4.out).2.2 x6_1 p340 q340
                          obtain rfl : ad338 = ad340 := (by injection e340)
                          replace p340 := eq_true p340
                          replace q340 := eq_true q340
                          have p341 : 0 ≤ (x6_1 : Int) := of_decide_eq_true (by first | (with_reducible assumption) | assumption)
                          have q341 : x6_1 < (t335.length : Int) := of_decide_eq_true (by first | (with_reducible assumption) | assumption)
                          obtain ⟨ad341, e341, hx341_0⟩ := Kd.at_string (Kd.R_reads' HO_4.out).2.2 x6_1 p341 q341
                          obtain rfl : ad338 = ad341 := (by injection e341)
                          replace p341 := eq_true p341
                          replace q341 := eq_true q341
                          have p20 : 0 ≤ ((ji17) : Int) := of_decide_eq_true (by first | (with_reducible assumption) | assumption)
                          have q20 : (ji17) < ((rdOf ByteArray.empty t335 x6_1).size : Int) := of_decide_eq_true (by first | (with_reducible assumption) | assumption)
                          have hx20 := bt_at (rdOf ByteArray.empty t335 x6_1) (ji17)
                          replace p20 := eq_true p20
                          replace q20 := eq_true q20
                          go_wp2
                          repeat (go_quiet (fail); try go_wp2)
                          go_ret
                          exact ⟨by first | rfl | (simp [errW_none, errW_some] <;> rfl) | (simp only [← hji3, ← hji17]; first | rfl | (simp [errW_none, errW_some] <;> rfl)) | (simp [*, errW_none, errW_some] <;> rfl), by repeat (first | (with_reducible first | exact HB.out | apply below_alloc | apply pw_below_drewN | apply below_drew1) | exact HB.out)⟩
                        · rw [if_neg c21] at H
                          have c21b0 : ((bt (rdOf ByteArray.empty t335 x6_1) (ji17)) == 32) = false := beq_eq_false_iff_ne.mpr c21
                          have c21b1 : ((bt (rdOf ByteArray.empty t335 x6_1) (ji17)) != 32) = true := bne_iff_ne.mpr c21
                          replace H := Option.bind_eq_some_iff.mp H
                          obtain ⟨t343, A230, H⟩ := H
                          replace H : (if x5_1.size + t343.size ≤ 9223372036854775807 then (copydesklaw03_BlockSentencesShape.l0 k1 (a0.extract 0 ((ji3) : Int).toNat) t334 t335 (x5_1 ++ t343) (wrap64 (x6_1 + 1))) else (none)) = some r := H
                          have A23 := Aside0.mk A230
                          clear A230
                          by_cases c24 : x5_1.size + t343.size ≤ 9223372036854775807
                          · rw [if_pos c24] at H
                            have c24b0 := eq_true c24
                            have c24b1 : decide (x5_1.size + t343.size ≤ 9223372036854775807) = true := decide_eq_true c24
                            try have c24b2 : (9223372036854775807 < x5_1.size + t343.size) = False := eq_false (Nat.not_lt.2 c24)
                            have H' := Aside0.mk H
                            clear H
                            obtain ⟨Ao25, co25, eo25⟩ := Kd.R_slice HO_4.out
                            subst eo25
                            have p338 : 0 ≤ (x6_1 : Int) := of_decide_eq_true (by first | (with_reducible assumption) | assumption)
                            have q338 : x6_1 < (t335.length : Int) := of_decide_eq_true (by first | (with_reducible assumption) | assumption)
                            obtain ⟨ad338, e338, hx338_0⟩ := Kd.at_string (Kd.R_reads' HO_4.out).2.2 x6_1 p338 q338
                            cases e338
                            replace p338 := eq_true p338
                            replace q338 := eq_true q338
                            have p339 : 0 ≤ (x6_1 : Int) := of_decide_eq_true (by first | (with_reducible assumption) | assumption)
                            have q339 : x6_1 < (t335.length : Int) := of_decide_eq_true (by first | (with_reducible assumption) | assumption)
                            obtain ⟨ad339, e339, hx339_0⟩ := Kd.at_string (Kd.R_reads' HO_4.out).2.2 x6_1 p339 q339
                            obtain rfl : ad338 = ad339 := (by injection e339)
                            replace p339 := eq_true p339
                            replace q339 := eq_true q339
                            have p14 : 0 ≤ (0 : Int) := (by omega)
                            have q14 : 0 < (rdOf ByteArray.empty t335 x6_1).size := (by have : (0 : Int) < ((rdOf ByteArray.empty t335 x6_1).size : Int) := of_decide_eq_true (by first | (with_reducible assumption) | assumption); omega)
                            have hx14 : ∀ h : 0 < (rdOf ByteArray.empty t335 x6_1).size, (((rdOf ByteArray.empty t335 x6_1)[0]'h).toNat : Int) = bt (rdOf ByteArray.empty t335 x6_1) 0 := bt_at (rdOf ByteArray.empty t335 x6_1) 0
                            clear p14
                            have qi14 : (0 < ((rdOf ByteArray.empty t335 x6_1).size : Int)) = True := eq_true (of_decide_eq_true (by first | (with_reducible assumption) | assumption))
                            replace q14 := eq_true q14
                            have p340 : 0 ≤ (x6_1 : Int) := of_decide_eq_true (by first | (with_reducible assumption) | assumption)
                            have q340 : x6_1 < (t335.length : Int) := of_decide_eq_true (by first | (with_reducible assumption) | assumption)
                            obtain ⟨ad340, e340, hx340_0⟩ := Kd.at_string (Kd.R_reads' HO_4.out).2.2 x6_1 p340 q340
                            obtain rfl : ad338 = ad340 := (by injection e340)
                            replace p340 := eq_true p340
                            replace q340 := eq_true q340
                            have p341 : 0 ≤ (x6_1 : Int) := of_decide_eq_true (by first | (with_reducible assumption) | assumption)
                            have q341 : x6_1 < (t335.length : Int) := of_decide_eq_true (by first | (with_reducible assumption) | assumption)
                            obtain ⟨ad341, e341, hx341_0⟩ := Kd.at_string (Kd.R_reads' HO_4.out).2.2 x6_1 p341 q341
                            obtain rfl : ad338 = ad341 := (by injection e341)
                            replace p341 := eq_true p341
                            replace q341 := eq_true q341
                            have p20 : 0 ≤ ((ji17) : Int) := of_decide_eq_true (by first | (with_reducible assumption) | assumption)
                            have q20 : (ji17) < ((rdOf ByteArray.empty t335 x6_1).size : Int) := of_decide_eq_true (by first | (with_reducible assumption) | assumption)
                            have hx20 := bt_at (rdOf ByteArray.empty t335 x6_1) (ji17)
                            replace p20 := eq_true p20
                            replace q20 := eq_true q20
                            have p342 : 0 ≤ (x6_1 : Int) := of_decide_eq_true (by first | (with_reducible assumption) | assumption)
                            have q342 : x6_1 < (t335.length : Int) := of_decide_eq_true (by first | (with_reducible assumption) | assumption)
                            obtain ⟨ad342, e342, hx342_0⟩ := Kd.at_string (Kd.R_reads' HO_4.out).2.2 x6_1 p342 q342
                            obtain rfl : ad338 = ad342 := (by injection e342)
                            replace p342 := eq_true p342
                            replace q342 := eq_true q342
                            go_wp2_with (first | (go_at_call 37; (with_reducible refine (copydesklaw03_bare.calls k1 (rdOf ByteArray.empty t335 x6_1) t343 _ A23.out).mono ?_); rintro e w26 ⟨rfl, hb⟩; have n0_ := Aside0.mk (Kd.R_below (by (with_reducible repeat (first | apply Kd.R_alloc | apply Kd.R_drewN | apply Kd.R_drew)); exact HO_4.out) hb); have n1_ := Aside0.mk (below_step (by repeat (first | (with_reducible first | exact HB.out | apply below_alloc | apply pw_below_drewN | apply below_drew1) | exact HB.out)) hb); clear HO_4; clear HB; have HO_4 := n0_; have HB := n1_; clear n0_ n1_; (try clear hb); (try clear hb2); (try clear hk); (try clear hi)))
                            repeat (go_quiet (first | (go_at_call 37; (with_reducible refine (copydesklaw03_bare.calls k1 (rdOf ByteArray.empty t335 x6_1) t343 _ A23.out).mono ?_); rintro e w26 ⟨rfl, hb⟩; have n0_ := Aside0.mk (Kd.R_below (by (with_reducible repeat (first | apply Kd.R_alloc | apply Kd.R_drewN | apply Kd.R_drew)); exact HO_4.out) hb); have n1_ := Aside0.mk (below_step (by repeat (first | (with_reducible first | exact HB.out | apply below_alloc | apply pw_below_drewN | apply below_drew1) | exact HB.out)) hb); clear HO_4; clear HB; have HO_4 := n0_; have HB := n1_; clear n0_ n1_; (try clear hb); (try clear hb2); (try clear hk); (try clear hi))); try go_wp2_with (first | (go_at_call 37; (with_reducible refine (copydesklaw03_bare.calls k1 (rdOf ByteArray.empty t335 x6_1) t343 _ A23.out).mono ?_); rintro e w26 ⟨rfl, hb⟩; have n0_ := Aside0.mk (Kd.R_below (by (with_reducible repeat (first | apply Kd.R_alloc | apply Kd.R_drewN | apply Kd.R_drew)); exact HO_4.out) hb); have n1_ := Aside0.mk (below_step (by repeat (first | (with_reducible first | exact HB.out | apply below_alloc | apply pw_below_drewN | apply below_drew1) | exact HB.out)) hb); clear HO_4; clear HB; have HO_4 := n0_; have HB := n1_; clear n0_ n1_; (try clear hb); (try clear hb2); (try clear hk); (try clear hi))))
                            go_roundg k1
                            case measure => have := HK1.out; omega
                            case rel => exact ⟨(x5_1 ++ t343), (wrap64 (x6_1 + 1)), (by first | rfl | (simp; done) | (simp [*]; done)), (by first | rfl | (simp; done) | (simp [*]; done)), H', ⟨by have := HK1.out; omega⟩, ⟨by (with_reducible repeat (first | apply Kd.R_alloc | apply Kd.R_drewN | apply Kd.R_drew)); exact HO_4.out⟩, ⟨by repeat (first | (with_reducible first | exact HB.out | apply below_alloc | apply pw_below_drewN | apply below_drew1) | exact HB.out)⟩⟩
                          · rw [if_neg c24] at H
                            exact absurd H (by simp)
                      · rw [if_neg c19] at H
                        exact absurd H (by simp)
                    · rw [if_neg c18] at H
                      exact absurd H (by simp)
                · rw [if_neg c13] at H
                  exact absurd H (by simp)
            · rw [if_neg c10] at H
              exact absurd H (by simp)
          · rw [if_neg c9] at H
            have c9b0 : decide (x6_1 < (t335.length : Int)) = false := decide_eq_false c9
            clear c9
            by_cases c27 : t334 = true
            · subst c27
              have H1 : ((copydesklaw03_bare.f k1 (a0.extract 0 ((ji3) : Int).toNat)).bind fun t344 => (some (x5_1.toList == t344.toList))) = some r := by rw [if_pos rfl] at H; exact H
              clear H
              have H := H1
              clear H1
              replace H := Option.bind_eq_some_iff.mp H
              obtain ⟨t344, A280, H⟩ := H
              replace H : (some (x5_1.toList == t344.toList)) = some r := H
              have A28 := Aside0.mk A280
              clear A280
              obtain rfl := Option.some.inj H
              obtain ⟨Ao29, co29, eo29⟩ := Kd.R_slice HO_4.out
              subst eo29
              go_wp2_with (first | (go_at_call 37; (with_reducible refine (copydesklaw03_bare.calls k1 (a0.extract 0 ((ji3) : Int).toNat) t344 _ A28.out).mono ?_); rintro e w30 ⟨rfl, hb⟩; have n0_ := Aside0.mk (Kd.R_below (by (with_reducible repeat (first | apply Kd.R_alloc | apply Kd.R_drewN | apply Kd.R_drew)); exact HO_4.out) hb); have n1_ := Aside0.mk (below_step (by repeat (first | (with_reducible first | exact HB.out | apply below_alloc | apply pw_below_drewN | apply below_drew1) | exact HB.out)) hb); clear HO_4; clear HB; have HO_4 := n0_; have HB := n1_; clear n0_ n1_; (try clear hb); (try clear hb2); (try clear hk); (try clear hi)))
              repeat (go_quiet (first | (go_at_call 37; (with_reducible refine (copydesklaw03_bare.calls k1 (a0.extract 0 ((ji3) : Int).toNat) t344 _ A28.out).mono ?_); rintro e w30 ⟨rfl, hb⟩; have n0_ := Aside0.mk (Kd.R_below (by (with_reducible repeat (first | apply Kd.R_alloc | apply Kd.R_drewN | apply Kd.R_drew)); exact HO_4.out) hb); have n1_ := Aside0.mk (below_step (by repeat (first | (with_reducible first | exact HB.out | apply below_alloc | apply pw_below_drewN | apply below_drew1) | exact HB.out)) hb); clear HO_4; clear HB; have HO_4 := n0_; have HB := n1_; clear n0_ n1_; (try clear hb); (try clear hb2); (try clear hk); (try clear hi))); try go_wp2_with (first | (go_at_call 37; (with_reducible refine (copydesklaw03_bare.calls k1 (a0.extract 0 ((ji3) : Int).toNat) t344 _ A28.out).mono ?_); rintro e w30 ⟨rfl, hb⟩; have n0_ := Aside0.mk (Kd.R_below (by (with_reducible repeat (first | apply Kd.R_alloc | apply Kd.R_drewN | apply Kd.R_drew)); exact HO_4.out) hb); have n1_ := Aside0.mk (below_step (by repeat (first | (with_reducible first | exact HB.out | apply below_alloc | apply pw_below_drewN | apply below_drew1) | exact HB.out)) hb); clear HO_4; clear HB; have HO_4 := n0_; have HB := n1_; clear n0_ n1_; (try clear hb); (try clear hb2); (try clear hk); (try clear hi))))
              go_ret
              exact ⟨by first | rfl | (simp [errW_none, errW_some] <;> rfl) | (simp only [← hji3]; first | rfl | (simp [errW_none, errW_some] <;> rfl)) | (simp [*, errW_none, errW_some] <;> rfl), by repeat (first | (with_reducible first | exact HB.out | apply below_alloc | apply pw_below_drewN | apply below_drew1) | exact HB.out)⟩
            · replace c27 := Bool.eq_false_iff.mpr c27
              subst c27
              have H1 : (some false) = some r := by rw [if_neg (show ¬ (false = true) by decide)] at H; exact H
              clear H
              have H := H1
              clear H1
              obtain rfl := Option.some.inj H
              obtain ⟨Ao31, co31, eo31⟩ := Kd.R_slice HO_4.out
              subst eo31
              go_wp2
              repeat (go_quiet (fail); try go_wp2)
              go_ret
              exact ⟨by first | rfl | (simp [errW_none, errW_some] <;> rfl) | (simp only [← hji3]; first | rfl | (simp [errW_none, errW_some] <;> rfl)) | (simp [*, errW_none, errW_some] <;> rfl), by repeat (first | (with_reducible first | exact HB.out | apply below_alloc | apply pw_below_drewN | apply below_drew1) | exact HB.out)⟩
    · rw [if_neg c5] at H
      exact absurd H (by simp)
  · rw [if_neg c4] at H
    exact absurd H (by simp)

/-- THE ONE PURE STATEMENT of copydesklaw03_BlockSentencesShape: yours. -/
def copydesklaw03_BlockSentencesShape.Pure : Prop := ∀ (a0 : ByteArray), a0.size ≤ 140737488351232 → ∃ k, copydesklaw03_BlockSentencesShape.f k a0 = some true
theorem copydesklaw03_BlockSentencesShape.walk (P : copydesklaw03_BlockSentencesShape.Pure) (a0 : ByteArray) (w : World) (w0 : a0.size ≤ 140737488351232) :
    Calls Tryd.prog 12 #[.string a0] w fun e w' => e = .returned (.bool true) ∧ Below w.heap.size w w' := by
  obtain ⟨k, h⟩ := P a0 w0
  refine (copydesklaw03_BlockSentencesShape.calls k a0 true w h).mono ?_
  rintro e w' ⟨rfl, hd⟩
  exact ⟨rfl, hd⟩

end Go.Proofs.YtpgjhjlhipikgaaDoor.PK
end
section
set_option linter.unusedVariables false
set_option linter.unusedSimpArgs false
namespace Go.Proofs.YtpgjhjlhipikgaaDoor.PK
open Go.RowKit Go.Proofs.YtpgjhjlhipikgaaDoorW.PrintWords Go.Proofs.YtpgjhjlhipikgaaDoorW.PrintLast Go.Proofs.YtpgjhjlhipikgaaDoorW.PrintMore
theorem sl_at_left (a b : List UInt8) (i : Nat) (h : i < a.length) : m_at (a ++ b) i = m_at a i := by
  simp [m_at, List.getD_eq_getElem?_getD, List.getElem?_append_left h]
theorem sl_at_right (a b : List UInt8) (i : Nat) : m_at (a ++ b) (a.length + i) = m_at b i := by
  simp [m_at, List.getD_eq_getElem?_getD, List.getElem?_append_right]
theorem sl_space_not (l : List UInt8) (i : Nat) (h : m_at l i = 32) : m_ends l i = false := by
  unfold m_ends; rw [h]; rfl
theorem sl_space_initial (l : List UInt8) (i : Nat) (h : m_at l i = 32) : m_initial l i = false := by
  unfold m_initial; rw [h]; rfl
/-- Spaces alone. -/
def AllSp (s : List UInt8) : Prop := ∀ c ∈ s, c = 32
theorem AllSp.at {s : List UInt8} (h : AllSp s) (i : Nat) (hi : i < s.length) : m_at s i = 32 := by
  have := h s[i] (List.getElem_mem hi)
  simp [m_at, List.getD_eq_getElem?_getD, hi, this]
/-- Nothing, or a space at the head. -/
def SpHead (s : List UInt8) : Prop := s = [] ∨ ∃ t, s = 32 :: t
theorem SpHead.at {s : List UInt8} (h : SpHead s) (hs : s ≠ []) : m_at s 0 = 32 := by
  rcases h with h | ⟨t, rfl⟩
  · exact absurd h hs
  · rfl
/-- In a text after spaces, and ahead of nothing or of a space, the ends are those of the text alone. -/
theorem sl_ends_mid (sp x rest : List UInt8) (hsp : AllSp sp) (hr : SpHead rest) (j : Nat) (hj : j < x.length) : m_ends (sp ++ x ++ rest) (sp.length + j) = m_ends x j := by
  have e0 : ∀ k, k < x.length → m_at (sp ++ x ++ rest) (sp.length + k) = m_at x k := fun k hk => by
    rw [sl_at_left _ _ _ (by simp; omega), sl_at_right]
  have e1 : (decide ((sp ++ x ++ rest).length ≤ sp.length + j + 1) || m_at (sp ++ x ++ rest) (sp.length + j + 1) == 32) = (decide (x.length ≤ j + 1) || m_at x (j + 1) == 32) := by
    by_cases h : j + 1 < x.length
    · rw [show sp.length + j + 1 = sp.length + (j + 1) by omega, e0 _ h]
      congr 1
      rw [decide_eq_false (by simp; omega), decide_eq_false (by omega)]
    · have hx : x.length = j + 1 := by omega
      rw [decide_eq_true (show x.length ≤ j + 1 by omega), Bool.true_or]
      by_cases hn : rest = []
      · subst hn
        rw [decide_eq_true (by simp; omega), Bool.true_or]
      · have : m_at (sp ++ x ++ rest) (sp.length + j + 1) = 32 := by
          rw [show sp.length + j + 1 = (sp ++ x).length + 0 by simp; omega, sl_at_right]
          exact hr.at hn
        rw [this]; simp
  have e2 : (decide (1 ≤ sp.length + j) && m_initial (sp ++ x ++ rest) (sp.length + j - 1)) = (decide (1 ≤ j) && m_initial x (j - 1)) := by
    rcases Nat.eq_zero_or_pos j with h | h
    · subst h
      rw [decide_eq_false (show ¬ 1 ≤ 0 by omega), Bool.false_and]
      rcases Nat.eq_zero_or_pos sp.length with hs | hs
      · rw [hs]; rfl
      · rw [sl_space_initial _ _ (by rw [List.append_assoc, sl_at_left _ _ _ (by omega)]; exact hsp.at _ (by omega)), Bool.and_false]
    · rw [decide_eq_true (show 1 ≤ sp.length + j by omega), decide_eq_true (show 1 ≤ j by omega), Bool.true_and, Bool.true_and]
      unfold m_initial
      rw [show sp.length + j - 1 = sp.length + (j - 1) by omega, e0 _ (by omega)]
      congr 1
      by_cases h1 : j - 1 = 0
      · rw [decide_eq_true h1, Bool.true_or, h1]
        rcases Nat.eq_zero_or_pos sp.length with hs | hs
        · rw [decide_eq_true (by omega), Bool.true_or]
        · rw [show m_at (sp ++ x ++ rest) (sp.length + 0 - 1) = 32 by rw [List.append_assoc, sl_at_left _ _ _ (by omega)]; exact hsp.at _ (by omega)]
          simp
      · rw [decide_eq_false h1, decide_eq_false (by omega), show sp.length + (j - 1) - 1 = sp.length + (j - 1 - 1) by omega, e0 _ (by omega)]
  unfold m_ends
  rw [e0 _ hj, e1]
  congr 1
  congr 1
  rw [Bool.and_assoc, Bool.and_assoc, e2]
theorem sl_ends_sp (sp y : List UInt8) (hsp : AllSp sp) (j : Nat) (hj : j < sp.length) : m_ends (sp ++ y) j = false :=
  sl_space_not _ _ (by rw [sl_at_left _ _ _ hj]; exact hsp.at _ hj)
/-- Behind a sentence the rest is read as if it stood alone. -/
theorem sl_ends_rest (pre rest : List UInt8) (hr : SpHead rest) (j : Nat) (hj : j < rest.length) : m_ends (pre ++ rest) (pre.length + j) = m_ends rest j := by
  rcases hr with h | ⟨t, rfl⟩
  · subst h; simp at hj
  · cases j with
    | zero => rw [sl_space_not (32 :: t) 0 rfl, sl_space_not]; rw [sl_at_right]; rfl
    | succ j =>
      have h := sl_ends_mid (pre ++ [32]) t [] 
      have e0 : ∀ k, m_at (pre ++ 32 :: t) (pre.length + k) = m_at (32 :: t) k := fun k => sl_at_right _ _ _
      unfold m_ends
      rw [e0, show pre.length + (j + 1) + 1 = pre.length + (j + 1 + 1) by omega, e0]
      have e1 : decide ((pre ++ 32 :: t).length ≤ pre.length + (j + 1 + 1)) = decide ((32 :: t).length ≤ j + 1 + 1) := by
        rw [decide_eq_decide]; simp <;> omega
      rw [e1]
      congr 1
      rw [decide_eq_true (show 1 ≤ pre.length + (j + 1) by omega), decide_eq_true (show 1 ≤ j + 1 by omega)]
      congr 2
      cases j with
      | zero =>
        rw [sl_space_initial (32 :: t) _ rfl, sl_space_initial]
        rw [show pre.length + (0 + 1) - 1 = pre.length + 0 by omega, e0]; rfl
      | succ j =>
        unfold m_initial
        rw [show pre.length + (j + 1 + 1) - 1 = pre.length + (j + 1) by omega, e0, show pre.length + (j + 1) - 1 = pre.length + j by omega, e0, decide_eq_false (show ¬ pre.length + (j + 1) = 0 by omega), decide_eq_false (show ¬ j + 1 + 1 - 1 = 0 by omega)]
        rfl
theorem sl_go_skip (l : List UInt8) : ∀ (k d i a : Nat), (∀ j, i ≤ j → j < i + k → m_ends l j = false) → m_sentGo l (k + d) i a = m_sentGo l d (i + k) a
  | 0, d, i, a, _ => by rw [Nat.zero_add, Nat.add_zero]
  | k + 1, d, i, a, h => by
    rw [show k + 1 + d = (k + d) + 1 by omega, m_sentGo, h i (Nat.le_refl _) (by omega), if_neg (by simp), sl_go_skip l k d (i + 1) a (fun j h1 h2 => h j (by omega) (by omega)), show i + 1 + k = i + (k + 1) by omega]
theorem sl_go_shift (pre rest : List UInt8) (hr : SpHead rest) : ∀ (d i a : Nat), i + d = rest.length → a ≤ i → m_sentGo (pre ++ rest) d (pre.length + i) (pre.length + a) = m_sentGo rest d i a
  | 0, i, a, _, _ => by rw [m_sentGo, m_sentGo, List.drop_append, List.drop_eq_nil_of_le (show pre.length ≤ pre.length + a by omega), Nat.add_sub_cancel_left]; rfl
  | d + 1, i, a, h, ha => by
    rw [m_sentGo, m_sentGo, sl_ends_rest pre rest hr i (by omega), List.drop_append, List.drop_eq_nil_of_le (show pre.length ≤ pre.length + a by omega), Nat.add_sub_cancel_left, List.nil_append,
      show pre.length + i + 1 - (pre.length + a) = i + 1 - a by omega, show pre.length + i + 1 = pre.length + (i + 1) by omega, sl_go_shift pre rest hr d (i + 1) (i + 1) (by omega) (Nat.le_refl _), sl_go_shift pre rest hr d (i + 1) a (by omega) (by omega)]
/-! trimming -/
theorem sl_dropWhile_sp (sp x : List UInt8) (hsp : AllSp sp) : (sp ++ x).dropWhile (· == 32) = x.dropWhile (· == 32) := by
  induction sp with
  | nil => rfl
  | cons c sp ih =>
    have hc : c = 32 := hsp c (by simp)
    subst hc
    rw [List.cons_append, List.dropWhile_cons_of_pos (by rfl), ih (fun c hc => hsp c (by simp [hc]))]
theorem AllSp.reverse {s : List UInt8} (h : AllSp s) : AllSp s.reverse := fun c hc => h c (List.mem_reverse.1 hc)
/-- No space at either end, and something there. -/
def Neat (x : List UInt8) : Prop := x.head? ≠ some 32 ∧ x.getLast? ≠ some 32 ∧ x ≠ []
theorem sl_dropWhile_neat (x : List UInt8) (h : x.head? ≠ some 32) : x.dropWhile (· == 32) = x := by
  cases x with
  | nil => rfl
  | cons c x => rw [List.dropWhile_cons_of_neg]; simpa using h
theorem sl_trim (sp x sq : List UInt8) (h1 : AllSp sp) (h2 : AllSp sq) (hx : Neat x) : m_trim (sp ++ x ++ sq) = x := by
  obtain ⟨n1, n2, n3⟩ := hx
  unfold m_trim
  rw [List.reverse_append, sl_dropWhile_sp _ _ h2.reverse, List.reverse_append]
  obtain ⟨y, c, rfl⟩ : ∃ y c, x = y ++ [c] := ⟨x.dropLast, x.getLast n3, (List.dropLast_concat_getLast n3).symm⟩
  have hc : (c == 32) = false := by simpa using n2
  rw [List.reverse_append, List.reverse_singleton, List.singleton_append, List.cons_append, List.dropWhile_cons_of_neg (by simp [hc]), List.reverse_cons, List.reverse_append, List.reverse_reverse, List.reverse_reverse, List.append_assoc, sl_dropWhile_sp _ _ h1, sl_dropWhile_neat _ n1]
theorem sl_trim_sp (s : List UInt8) (h : AllSp s) : m_trim s = [] := by
  have h1 : s.reverse.dropWhile (· == 32) = [] := by
    have := sl_dropWhile_sp s.reverse [] h.reverse
    rw [List.append_nil] at this
    exact this
  unfold m_trim
  rw [h1]; rfl
/-- What a text is about its trimmed text. -/
theorem sl_head_split (l : List UInt8) : ∃ sp y, l = sp ++ y ∧ AllSp sp ∧ y.head? ≠ some 32 := by
  induction l with
  | nil => exact ⟨[], [], rfl, (fun _ h => by cases h), by simp⟩
  | cons c l ih =>
    by_cases hc : c = 32
    · obtain ⟨sp, y, h1, h2, h3⟩ := ih
      refine ⟨c :: sp, y, by rw [h1]; rfl, fun d hd => ?_, h3⟩
      rcases List.mem_cons.1 hd with rfl | hd
      · exact hc
      · exact h2 d hd
    · exact ⟨[], c :: l, rfl, (fun _ h => by cases h), by simpa using hc⟩
theorem sl_split (l : List UInt8) : AllSp l ∨ ∃ sp x sq, l = sp ++ x ++ sq ∧ AllSp sp ∧ AllSp sq ∧ Neat x := by
  obtain ⟨sp, y, h1, h2, h3⟩ := sl_head_split l
  by_cases hy : y = []
  · left; rw [h1, hy, List.append_nil]; exact h2
  · right
    obtain ⟨sq, z, g1, g2, g3⟩ := sl_head_split y.reverse
    have hyz : y = z.reverse ++ sq.reverse := by rw [← List.reverse_append, ← g1, List.reverse_reverse]
    refine ⟨sp, z.reverse, sq.reverse, by rw [h1, hyz, List.append_assoc], h2, g2.reverse, ?_, by rw [List.getLast?_reverse]; exact g3, ?_⟩
    · cases hz : z.reverse with
      | nil => simp
      | cons c z' =>
        rw [hyz, hz] at h3
        simpa using h3
    · intro hz
      rw [hz, List.nil_append] at hyz
      cases hs : sq.reverse with
      | nil => exact hy (by rw [hyz, hs])
      | cons c s' =>
        rw [hyz, hs] at h3
        have := g2.reverse c (by rw [hs]; simp)
        subst this
        simp at h3
/-! sentences -/
/-- A sentence that ends: its only end is its last byte. -/
def Ended (x : List UInt8) : Prop := Neat x ∧ m_ends x (x.length - 1) = true ∧ ∀ j, j + 1 < x.length → m_ends x j = false
/-- What follows the last end. -/
def Open (x : List UInt8) : Prop := Neat x ∧ ∀ j, j < x.length → m_ends x j = false
theorem sl_sent_sp (s : List UInt8) (h : AllSp s) : m_sent s = [] := by
  unfold m_sent
  have := sl_go_skip s s.length 0 0 0 (fun j _ hj => sl_space_not _ _ (h.at j (by omega)))
  rw [Nat.add_zero] at this
  rw [this, m_sentGo, List.drop_zero, sl_trim_sp s h, if_pos rfl]
theorem sl_sent_open (sp x sq : List UInt8) (h1 : AllSp sp) (h2 : AllSp sq) (hx : Open x) : m_sent (sp ++ x ++ sq) = [x] := by
  have hq : SpHead sq := by
    cases sq with
    | nil => exact .inl rfl
    | cons c s => exact .inr ⟨s, by rw [h2 c (by simp)]⟩
  unfold m_sent
  have := sl_go_skip (sp ++ x ++ sq) (sp ++ x ++ sq).length 0 0 0 (fun j _ hj => by
    by_cases a : j < sp.length
    · rw [List.append_assoc]; exact sl_ends_sp _ _ h1 j a
    · by_cases b : j < sp.length + x.length
      · obtain ⟨k, rfl⟩ : ∃ k, j = sp.length + k := ⟨j - sp.length, by omega⟩
        rw [sl_ends_mid sp x sq h1 hq k (by omega)]
        exact hx.2 k (by omega)
      · refine sl_space_not _ _ ?_
        obtain ⟨k, rfl⟩ : ∃ k, j = (sp ++ x).length + k := ⟨j - (sp ++ x).length, by simp; omega⟩
        rw [sl_at_right]
        exact h2.at k (by simp at hj; omega))
  rw [Nat.add_zero] at this
  rw [this, m_sentGo, List.drop_zero, sl_trim _ _ _ h1 h2 hx.1, if_neg hx.1.2.2]
theorem sl_sent_ended (sp x rest : List UInt8) (h1 : AllSp sp) (hr : SpHead rest) (hx : Ended x) : m_sent (sp ++ x ++ rest) = x :: m_sent rest := by
  have hn : 0 < x.length := List.length_pos_iff.2 hx.1.2.2
  unfold m_sent
  have hlen : (sp ++ x ++ rest).length = (sp.length + (x.length - 1)) + (1 + rest.length) := by simp; omega
  rw [hlen, sl_go_skip (sp ++ x ++ rest) (sp.length + (x.length - 1)) (1 + rest.length) 0 0 (fun j _ hj => by
    by_cases a : j < sp.length
    · rw [List.append_assoc]; exact sl_ends_sp _ _ h1 j a
    · obtain ⟨k, rfl⟩ : ∃ k, j = sp.length + k := ⟨j - sp.length, by omega⟩
      rw [sl_ends_mid sp x rest h1 hr k (by omega)]
      exact hx.2.2 k (by omega)),
    Nat.add_comm 1, m_sentGo, Nat.zero_add, sl_ends_mid sp x rest h1 hr _ (by omega), hx.2.1, if_pos rfl, List.drop_zero, Nat.sub_zero]
  have e : sp.length + (x.length - 1) + 1 = (sp ++ x).length := by simp; omega
  rw [e, List.take_left]
  have ht := sl_trim sp x [] h1 (fun _ h => by cases h) hx.1
  rw [List.append_nil] at ht
  rw [ht]
  congr 1
  have := sl_go_shift (sp ++ x) rest hr rest.length 0 0 (Nat.zero_add _) (Nat.le_refl _)
  rw [Nat.add_zero] at this
  exact this
/-- Every text is spaces alone, or what is left open among spaces, or a sentence that ends and a rest. -/
theorem sl_cases (l : List UInt8) : AllSp l ∨ (∃ sp x sq, l = sp ++ x ++ sq ∧ AllSp sp ∧ AllSp sq ∧ Open x) ∨ (∃ sp x rest, l = sp ++ x ++ rest ∧ AllSp sp ∧ SpHead rest ∧ Ended x) := by
  by_cases hex : ∃ i, i < l.length ∧ m_ends l i = true
  · have hfind : ∃ i, (i < l.length ∧ m_ends l i = true) ∧ ∀ j, j < i → m_ends l j = false := by
      obtain ⟨i, hi⟩ := hex
      induction i using Nat.strongRecOn with
      | _ i ih =>
        by_cases h : ∃ j, j < i ∧ m_ends l j = true
        · obtain ⟨j, hj, hj2⟩ := h
          exact ih j hj ⟨by omega, hj2⟩
        · exact ⟨i, hi, fun j hj => by
            cases hb : m_ends l j with
            | false => rfl
            | true => exact absurd ⟨j, hj, hb⟩ h⟩
    obtain ⟨i, ⟨hi, he⟩, hmin⟩ := hfind
    refine .inr (.inr ?_)
    have hsplit : l = l.take (i + 1) ++ l.drop (i + 1) := (List.take_append_drop _ _).symm
    have hlen : (l.take (i + 1)).length = i + 1 := by rw [List.length_take]; omega
    have hchar : m_at l i ≠ 32 := fun h => by rw [sl_space_not _ _ h] at he; cases he
    have hlast : m_at (l.take (i + 1)) i ≠ 32 := by
      rw [← sl_at_left _ (l.drop (i + 1)) i (by omega), ← hsplit]; exact hchar
    have hrest : SpHead (l.drop (i + 1)) := by
      cases hd : l.drop (i + 1) with
      | nil => exact .inl rfl
      | cons c t =>
        refine .inr ⟨t, ?_⟩
        have hl2 : i + 1 < l.length := by
          have := congrArg List.length hd
          simp at this; omega
        unfold m_ends at he
        simp only [Bool.and_eq_true, Bool.or_eq_true, decide_eq_true_eq, beq_iff_eq] at he
        rcases he.1.2 with h | h
        · omega
        · have h' : m_at (l.take (i + 1) ++ l.drop (i + 1)) ((l.take (i + 1)).length + 0) = 32 := by rw [← hsplit, hlen]; exact h
          rw [sl_at_right, hd] at h'
          rw [show c = 32 from h']
    rcases sl_split (l.take (i + 1)) with h | ⟨sp, x, sq, h1, h2, h3, h4⟩
    · exact absurd (h.at i (by omega)) hlast
    · have hsq : sq = [] := by
        cases hq : sq with
        | nil => rfl
        | cons c s =>
          exfalso
          apply hlast
          have hll := congrArg List.length h1
          rw [hlen] at hll
          simp only [List.length_append] at hll
          have hpos : 0 < sq.length := by rw [hq]; simp
          rw [h1, show i = (sp ++ x).length + (sq.length - 1) by simp; omega, sl_at_right]
          exact h3.at _ (by omega)
      subst hsq
      rw [List.append_nil] at h1
      have hll := congrArg List.length h1
      rw [hlen] at hll
      simp only [List.length_append] at hll
      have hn : 0 < x.length := List.length_pos_iff.2 h4.2.2
      have hl : l = sp ++ x ++ l.drop (i + 1) := by rw [← h1]; exact hsplit
      refine ⟨sp, x, l.drop (i + 1), hl, h2, hrest, h4, ?_, fun j hj => ?_⟩
      · rw [← sl_ends_mid sp x _ h2 hrest _ (by omega), ← hl, show sp.length + (x.length - 1) = i by omega]; exact he
      · rw [← sl_ends_mid sp x _ h2 hrest _ (by omega), ← hl]; exact hmin _ (by omega)
  · have hno : ∀ j, j < l.length → m_ends l j = false := fun j hj => by
      cases hb : m_ends l j with
      | false => rfl
      | true => exact absurd ⟨j, hj, hb⟩ hex
    rcases sl_split l with h | ⟨sp, x, sq, h1, h2, h3, h4⟩
    · exact .inl h
    · refine .inr (.inl ⟨sp, x, sq, h1, h2, h3, h4, fun j hj => ?_⟩)
      have hq : SpHead sq := by
        cases sq with
        | nil => exact .inl rfl
        | cons c s => exact .inr ⟨s, by rw [h3 c (by simp)]⟩
      rw [← sl_ends_mid sp x sq h2 hq j hj, ← h1]
      exact hno _ (by rw [h1]; simp; omega)
/-- The sentences of a text, by its parts. -/
inductive Parts : List UInt8 → List (List UInt8) → Prop where
  | none (s : List UInt8) (h : AllSp s) : Parts s []
  | last (sp x sq : List UInt8) (h1 : AllSp sp) (h2 : AllSp sq) (hx : Open x) : Parts (sp ++ x ++ sq) [x]
  | more (sp x rest : List UInt8) (xs : List (List UInt8)) (h1 : AllSp sp) (hr : SpHead rest) (hx : Ended x) (h : Parts rest xs) : Parts (sp ++ x ++ rest) (x :: xs)
theorem Parts.sent {l : List UInt8} {xs : List (List UInt8)} (h : Parts l xs) : m_sent l = xs := by
  induction h with
  | none s h => exact sl_sent_sp s h
  | last sp x sq h1 h2 hx => exact sl_sent_open sp x sq h1 h2 hx
  | more sp x rest xs h1 hr hx h ih => rw [sl_sent_ended sp x rest h1 hr hx, ih]
theorem sl_parts (l : List UInt8) : Parts l (m_sent l) := by
  have key : ∀ n (l : List UInt8), l.length = n → Parts l (m_sent l) := by
    intro n
    induction n using Nat.strongRecOn with
    | _ n ih =>
      intro l hl
      rcases sl_cases l with h | ⟨sp, x, sq, rfl, h2, h3, h4⟩ | ⟨sp, x, rest, rfl, h2, h3, h4⟩
      · rw [sl_sent_sp l h]; exact .none l h
      · rw [sl_sent_open sp x sq h2 h3 h4]; exact .last sp x sq h2 h3 h4
      · rw [sl_sent_ended sp x rest h2 h3 h4]
        have hn : 0 < x.length := List.length_pos_iff.2 h4.1.2.2
        exact .more sp x rest _ h2 h3 h4 (ih rest.length (by simp at hl; omega) rest rfl)
  exact key _ l rfl
theorem Parts.space {l : List UInt8} {xs : List (List UInt8)} (h : Parts l xs) : Parts (32 :: l) xs := by
  have hc : ∀ sp, AllSp sp → AllSp (32 :: sp) := fun sp h c hc => by
    rcases List.mem_cons.1 hc with rfl | hc
    · rfl
    · exact h c hc
  cases h with
  | none s h => exact .none _ (hc _ h)
  | last sp x sq h1 h2 hx => exact .last (32 :: sp) x sq (hc _ h1) h2 hx
  | more sp x rest xs h1 hr hx h => exact .more (32 :: sp) x rest xs (hc _ h1) hr hx h
/-- Joined by single spaces, they are the same sentences. -/
theorem Parts.join {l : List UInt8} {xs : List (List UInt8)} (h : Parts l xs) : Parts (m_join xs) xs := by
  have hnil : AllSp [] := fun _ h => by cases h
  induction h with
  | none s h => exact .none [] hnil
  | last sp x sq h1 h2 hx =>
    have := Parts.last [] x [] hnil hnil hx
    rw [List.nil_append, List.append_nil] at this
    exact this
  | more sp x rest xs h1 hr hx h ih =>
    cases xs with
    | nil =>
      have := Parts.more [] x [] [] hnil (.inl rfl) hx (.none [] hnil)
      rw [List.nil_append, List.append_nil] at this
      exact this
    | cons y ys =>
      have := Parts.more [] x (32 :: m_join (y :: ys)) (y :: ys) hnil (.inr ⟨_, rfl⟩) hx ih.space
      rw [List.nil_append] at this
      exact this
theorem sl_joined (l : List UInt8) : m_sent (m_join (m_sent l)) = m_sent l := (sl_parts l).join.sent
/-- Each is neat; without spaces they are the text. -/
theorem Parts.neat {l : List UInt8} {xs : List (List UInt8)} (h : Parts l xs) : (∀ x ∈ xs, Neat x) ∧ xs.flatMap (·.filter (· != 32)) = l.filter (· != 32) := by
  have hsp : ∀ s : List UInt8, AllSp s → s.filter (· != 32) = [] := fun s h => by
    rw [List.filter_eq_nil_iff]
    intro c hc
    simp [h c hc]
  induction h with
  | none s h => exact ⟨by simp, by rw [hsp s h]; rfl⟩
  | last sp x sq h1 h2 hx =>
    refine ⟨by simpa using hx.1, ?_⟩
    rw [List.filter_append, List.filter_append, hsp sp h1, hsp sq h2]
    simp
  | more sp x rest xs h1 hr hx h ih =>
    refine ⟨?_, ?_⟩
    · intro y hy
      rcases List.mem_cons.1 hy with rfl | hy
      · exact hx.1
      · exact ih.1 y hy
    · rw [List.flatMap_cons, ih.2, List.filter_append, List.filter_append, hsp sp h1, List.nil_append]
/-- What stands in the joined sentences stands in the text, or is a space. -/
theorem Parts.mem {l : List UInt8} {xs : List (List UInt8)} (h : Parts l xs) : ∀ x ∈ xs, ∀ c ∈ x, c ∈ l := by
  induction h with
  | none s h => simp
  | last sp x sq h1 h2 hx => intro y hy c hc; simp at hy; subst hy; simp [hc]
  | more sp x rest xs h1 hr hx h ih =>
    intro y hy c hc
    rcases List.mem_cons.1 hy with rfl | hy
    · simp [hc]
    · simp [ih y hy c hc]
theorem sl_join_mem : ∀ (xs : List (List UInt8)) (c : UInt8), c ∈ m_join xs → c = 32 ∨ ∃ x ∈ xs, c ∈ x
  | [], c, h => by cases h
  | [x], c, h => .inr ⟨x, by simp, h⟩
  | x :: y :: l, c, h => by
    rw [m_join, List.mem_append, List.mem_cons] at h
    rcases h with h | h | h
    · exact .inr ⟨x, by simp, h⟩
    · exact .inl h
    · rcases sl_join_mem (y :: l) c h with h | ⟨z, hz, hc⟩
      · exact .inl h
      · exact .inr ⟨z, by simp only [List.mem_cons] at hz ⊢; exact .inr hz, hc⟩
theorem Parts.join_len {l : List UInt8} {xs : List (List UInt8)} (h : Parts l xs) : (m_join xs).length ≤ 2 * l.length := by
  induction h with
  | none s h => simp [m_join]
  | last sp x sq h1 h2 hx => simp [m_join]; omega
  | more sp x rest xs h1 hr hx h ih =>
    have hn : 0 < x.length := List.length_pos_iff.2 hx.1.2.2
    cases xs with
    | nil => simp [m_join]; omega
    | cons y ys =>
      simp only [m_join, List.length_append, List.length_cons] at ih ⊢
      omega
end Go.Proofs.YtpgjhjlhipikgaaDoor.PK
end
section
set_option linter.unusedVariables false
set_option linter.unusedSimpArgs false
namespace Go.Proofs.YtpgjhjlhipikgaaDoor.PK
open Go.RowKit Go.Proofs.YtpgjhjlhipikgaaDoorW.PrintWords Go.Proofs.YtpgjhjlhipikgaaDoorW.PrintLast Go.Proofs.YtpgjhjlhipikgaaDoorW.PrintMore
theorem pu_mn (a b : Int) : mn a b = if b < a then b else a := rfl
theorem pu_cut (a0 : ByteArray) (m : Int) (hm : 0 ≤ m) : 0 ≤ mn (a0.size : Int) m ∧ mn (a0.size : Int) m ≤ (a0.size : Int) ∧ (a0.extract 0 (mn (a0.size : Int) m).toNat).size ≤ m.toNat := by
  rw [pu_mn]
  refine ⟨by split <;> omega, by split <;> omega, ?_⟩
  rw [ByteArray.size_extract]
  split <;> omega
theorem pu_w1 (n : Nat) (h : n ≤ 9000000000000000000) : wrap64 ((n : Int) + 1) = ((n + 1 : Nat) : Int) := by unfold wrap64; omega
theorem pu_wm1 (n : Nat) (h : n ≤ 9000000000000000000) (h0 : 1 ≤ n) : wrap64 ((n : Int) - 1) = ((n - 1 : Nat) : Int) := by unfold wrap64; omega
theorem pu_rd (xs : List ByteArray) (j : Nat) (h : j < xs.length) : rdOf ByteArray.empty xs (j : Int) = xs[j] := by
  simp [rdOf, List.getD_eq_getElem?_getD, h]
theorem pu_bt (s : ByteArray) (n : Nat) (h : n < s.size) : bt s (n : Int) = ((m_at s.data.toList n).toNat : Int) := by
  unfold bt
  rw [dif_pos (by rw [Int.toNat_natCast]; exact h)]
  have h2 : n < s.data.toList.length := by rw [Array.length_toList]; exact h
  simp only [Int.toNat_natCast, m_at, List.getD_eq_getElem?_getD, List.getElem?_eq_getElem h2, Option.getD_some]
  rfl
theorem pu_size (l : List UInt8) : (⟨l.toArray⟩ : ByteArray).size = l.length := by simp [ByteArray.size]
theorem pu_len (s : ByteArray) : s.data.toList.length = s.size := Array.length_toList
theorem pu_app (a b : List UInt8) : (⟨a.toArray⟩ : ByteArray) ++ ⟨b.toArray⟩ = ⟨(a ++ b).toArray⟩ := cd_ba_inj _ _ (by rw [ByteArray.data_append, Array.toList_append])
theorem pu_toList (s : ByteArray) : s.toList = s.data.toList := ByteArray.toList_eq ..
theorem pu_nat32 (c : UInt8) : ((c.toNat : Int) = 32) ↔ c = 32 := by
  constructor
  · intro h; apply UInt8.toNat_inj.1; show c.toNat = 32; omega
  · rintro rfl; rfl
/-! more about sentences -/
theorem Parts.len {l : List UInt8} {xs : List (List UInt8)} (h : Parts l xs) : (∀ x ∈ xs, x.length ≤ l.length) ∧ xs.length ≤ l.length := by
  induction h with
  | none s h => simp
  | last sp x sq h1 h2 hx =>
    have hn : 0 < x.length := List.length_pos_iff.2 hx.1.2.2
    exact ⟨by simp; omega, by simp; omega⟩
  | more sp x rest xs h1 hr hx h ih =>
    have hn : 0 < x.length := List.length_pos_iff.2 hx.1.2.2
    refine ⟨?_, by simp; omega⟩
    intro y hy
    rcases List.mem_cons.1 hy with rfl | hy
    · simp; omega
    · have := ih.1 y hy; simp; omega
def m_bas (ys : List (List UInt8)) : List ByteArray := ys.map (fun x => ⟨x.toArray⟩)
theorem m_bas_get (ys : List (List UInt8)) (j : Nat) (h : j < ys.length) (h' : j < (m_bas ys).length) : (m_bas ys)[j] = ⟨(ys[j]).toArray⟩ := by simp [m_bas]
theorem m_bas_len (ys : List (List UInt8)) : (m_bas ys).length = ys.length := by simp [m_bas]
end Go.Proofs.YtpgjhjlhipikgaaDoor.PK
end
section
set_option linter.unusedVariables false
set_option linter.unusedSimpArgs false
namespace Go.Proofs.YtpgjhjlhipikgaaDoor.Pure
open Go.RowKit Go.Proofs.YtpgjhjlhipikgaaDoor.PK Go.Proofs.YtpgjhjlhipikgaaDoorW.PrintWords Go.Proofs.YtpgjhjlhipikgaaDoorW.PrintLast
theorem pl_bareGo (s : ByteArray) (hs : s.size ≤ 1000000) : ∀ (d k j : Nat) (acc : List UInt8), j + d = s.size → d < k → acc.length ≤ j →
    copydesklaw03_bare.l0 k s (acc.map fun c => (c.toNat : Int)) (j : Int) = some ⟨(acc ++ (s.data.toList.drop j).filter (· != 32)).toArray⟩
  | 0, k, j, acc, hj, hk, ha => by
    obtain ⟨k, rfl⟩ : ∃ i, k = i + 1 := ⟨k - 1, by omega⟩
    have hlt : ¬ (j : Int) < (s.size : Int) := by omega
    rw [copydesklaw03_bare.l0, if_neg hlt, List.drop_eq_nil_of_le (by rw [pu_len]; omega)]
    refine congrArg some (cd_ba_inj _ _ ?_)
    rw [strOfNums_data]
    simp [List.map_map, Function.comp_def]
  | d + 1, k, j, acc, hj, hk, ha => by
    obtain ⟨k, rfl⟩ : ∃ i, k = i + 1 := ⟨k - 1, by omega⟩
    have hlt : (j : Int) < (s.size : Int) := by omega
    have h0 : 0 ≤ (j : Int) := by omega
    have hl : j < s.data.toList.length := by rw [pu_len]; omega
    have hbt := pu_bt s j (by omega)
    have hc : m_at s.data.toList j = s.data.toList[j] := by rw [m_at, List.getD_eq_getElem?_getD, List.getElem?_eq_getElem hl]; rfl
    have hal : (acc.map fun c => (c.toNat : Int)).length < 140737488355328 := by rw [List.length_map]; omega
    rw [copydesklaw03_bare.l0, if_pos hlt, if_pos h0, hbt, pu_w1 j (by omega), List.drop_eq_getElem_cons hl, ← hc]
    by_cases h32 : m_at s.data.toList j = 32
    · rw [if_pos ((pu_nat32 _).2 h32), pl_bareGo s hs d k (j + 1) acc (by omega) (by omega) (by omega), h32]
      rfl
    · rw [if_neg (fun h => h32 ((pu_nat32 _).1 h)), if_pos hal]
      have := pl_bareGo s hs d k (j + 1) (acc ++ [m_at s.data.toList j]) (by omega) (by omega) (by simp; omega)
      rw [List.map_append] at this
      refine this.trans (congrArg some (cd_ba_inj _ _ ?_))
      show (acc ++ [m_at s.data.toList j]) ++ _ = acc ++ List.filter _ (_ :: _)
      rw [List.filter_cons, if_pos (by simpa using h32), List.append_assoc]; rfl
theorem pl_bare (s : ByteArray) (hs : s.size ≤ 1000000) (k : Nat) (hk : s.size < k) : copydesklaw03_bare.f k s = some ⟨(s.data.toList.filter (· != 32)).toArray⟩ := by
  have := pl_bareGo s hs s.size k 0 [] (by omega) hk (Nat.le_refl _)
  rw [List.drop_zero] at this
  exact this
theorem pl_shapeGo (s : ByteArray) (ys : List (List UInt8)) (hs : s.size ≤ 2000) (hn : ∀ y ∈ ys, Neat y) (hl : ∀ y ∈ ys, y.length ≤ s.size) (hf : ys.flatMap (·.filter (· != 32)) = s.data.toList.filter (· != 32)) :
    ∀ (d k j : Nat), j + d = ys.length → d + 3000 < k → ys.length ≤ 2000 →
      copydesklaw03_BlockSentencesShape.l0 k s true (m_bas ys) ⟨((ys.take j).flatMap (·.filter (· != 32))).toArray⟩ (j : Int) = some true
  | 0, k, j, hj, hk, hc => by
    obtain ⟨k, rfl⟩ : ∃ i, k = i + 1 := ⟨k - 1, by omega⟩
    have hlt : ¬ (j : Int) < ((m_bas ys).length : Int) := by rw [m_bas_len]; omega
    rw [copydesklaw03_BlockSentencesShape.l0, if_neg hlt, if_pos rfl, pl_bare s (by omega) k (by omega), List.take_of_length_le (by omega), hf]
    simp
  | d + 1, k, j, hj, hk, hc => by
    obtain ⟨k, rfl⟩ : ∃ i, k = i + 1 := ⟨k - 1, by omega⟩
    have hjl : j < ys.length := by omega
    have hjl' : j < (m_bas ys).length := by rw [m_bas_len]; omega
    have hlt : (j : Int) < ((m_bas ys).length : Int) := by omega
    have h0 : 0 ≤ (j : Int) := by omega
    have hget := (pu_rd (m_bas ys) j hjl').trans (m_bas_get ys j hjl hjl')
    have hN := hn ys[j] (List.getElem_mem hjl)
    have hL := hl ys[j] (List.getElem_mem hjl)
    obtain ⟨y, hy⟩ : ∃ y, ys[j] = y := ⟨_, rfl⟩
    have htake : (ys.take (j + 1)).flatMap (·.filter (· != 32)) = (ys.take j).flatMap (·.filter (· != 32)) ++ y.filter (· != 32) := by
      rw [List.take_succ_eq_append_getElem hjl, List.flatMap_append, hy]; simp
    have hle : ((ys.take (j + 1)).flatMap (·.filter (· != 32))).length ≤ s.size := by
      have h1 : (ys.flatMap (·.filter (· != 32))).length ≤ s.size := by
        rw [hf, ← pu_len]; exact List.length_filter_le _ _
      have h2 : ys.flatMap (·.filter (· != 32)) = (ys.take (j + 1)).flatMap (·.filter (· != 32)) ++ (ys.drop (j + 1)).flatMap (·.filter (· != 32)) := by
        rw [← List.flatMap_append, List.take_append_drop]
      rw [h2, List.length_append] at h1
      omega
    rw [hy] at hget hN hL
    obtain ⟨n1, n2, n3⟩ := hN
    have hpos : 0 < y.length := List.length_pos_iff.2 n3
    have hsz : (⟨y.toArray⟩ : ByteArray).size = y.length := pu_size y
    rw [copydesklaw03_BlockSentencesShape.l0, if_pos hlt, if_pos h0, hget, pu_toList, if_neg (show ¬ (⟨y.toArray⟩ : ByteArray).data.toList = [] from n3)]
    have g1 : 0 < ((⟨y.toArray⟩ : ByteArray).size : Int) := by rw [hsz]; omega
    have g2 : ¬ bt (⟨y.toArray⟩ : ByteArray) 0 = 32 := by
      have := pu_bt (⟨y.toArray⟩ : ByteArray) 0 (by rw [hsz]; exact hpos)
      rw [show ((0 : Nat) : Int) = 0 from rfl] at this
      rw [this, pu_nat32]
      intro h
      apply n1
      cases y with
      | nil => exact absurd rfl n3
      | cons c y => exact congrArg some h
    have g3 : wrap64 (((⟨y.toArray⟩ : ByteArray).size : Int) - 1) = ((y.length - 1 : Nat) : Int) := by rw [hsz]; exact pu_wm1 y.length (by omega) hpos
    have g4 : ¬ bt (⟨y.toArray⟩ : ByteArray) ((y.length - 1 : Nat) : Int) = 32 := by
      rw [pu_bt (⟨y.toArray⟩ : ByteArray) (y.length - 1) (by rw [hsz]; omega), pu_nat32]
      intro h
      apply n2
      rw [List.getLast?_eq_getElem?]
      have h2 : y.length - 1 < y.length := by omega
      have : y[y.length - 1] = 32 := by simpa [m_at, List.getD_eq_getElem?_getD, h2] using h
      rw [List.getElem?_eq_getElem h2, this]
    have g5 : 0 ≤ ((y.length - 1 : Nat) : Int) := by omega
    have g6 : ((y.length - 1 : Nat) : Int) < ((⟨y.toArray⟩ : ByteArray).size : Int) := by rw [hsz]; omega
    have g7 : (⟨((ys.take j).flatMap (·.filter (· != 32))).toArray⟩ : ByteArray).size + (⟨(y.filter (· != 32)).toArray⟩ : ByteArray).size ≤ 9223372036854775807 := by
      rw [pu_size, pu_size]
      rw [htake, List.length_append] at hle
      omega
    rw [if_pos g1, if_neg g2, g3, if_pos g5, if_pos g6, if_neg g4, pl_bare (⟨y.toArray⟩ : ByteArray) (by rw [hsz]; omega) k (by rw [hsz]; omega), Option.bind_some]
    show (if _ then _ else _) = _
    rw [if_pos g7, pu_w1 j (by omega), pu_app, ← htake]
    exact pl_shapeGo s ys hs hn hl hf d k (j + 1) (by omega) (by omega) hc
theorem BlockSentencesShape : copydesklaw03_BlockSentencesShape.Pure := by
  intro a0 _
  obtain ⟨h1, h2, h3⟩ := pu_cut a0 2000 (by omega)
  refine ⟨6000, ?_⟩
  unfold copydesklaw03_BlockSentencesShape.f copydesklaw03_sane.f
  rw [Option.bind_some, if_pos h1, if_pos h2]
  generalize a0.extract 0 (mn (a0.size : Int) 2000).toNat = s at h3 ⊢
  have h3' : s.size ≤ 2000 := h3
  have hS : block_Sentences.f s = some (m_bas (m_sent s.data.toList)) := by unfold block_Sentences.f; rw [if_pos (by omega)]; rfl
  have hp := sl_parts s.data.toList
  have hln := hp.len
  rw [pu_len] at hln
  rw [hS, Option.bind_some]
  exact pl_shapeGo s _ h3' hp.neat.1 hln.1 hp.neat.2 _ 6000 0 (Nat.zero_add _) (by omega) (by omega)
end Go.Proofs.YtpgjhjlhipikgaaDoor.Pure
end
