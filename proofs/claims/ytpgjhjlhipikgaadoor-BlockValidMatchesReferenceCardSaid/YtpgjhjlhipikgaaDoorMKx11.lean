/- Texts of this claim, one behind the other. -/
import Derived.Test.YtpgjhjlhipikgaaDoorMKx3
import Derived.Test.YtpgjhjlhipikgaaDoorMKx5
import Derived.Test.YtpgjhjlhipikgaaDoorMKx7
import Derived.Test.YtpgjhjlhipikgaaDoorMKx9
import Derived.Test.YtpgjhjlhipikgaaDoorMKx10
import Derived.Test.YtpgjhjlhipikgaaDoorMKx4
import Derived.ProofKit
import Derived.OpenShut
import Derived.DataElems
import Derived.Deep.Slices
section
namespace Go.Proofs.YtpgjhjlhipikgaaDoor.PK
open Go.RowKit Go.Proofs.YtpgjhjlhipikgaaDoorW.PrintWords Go.Proofs.YtpgjhjlhipikgaaDoorW.PrintLast Go.Proofs.YtpgjhjlhipikgaaDoorW.PrintMore
attribute [local go_sem] max2_int min2_int max_two min_two max_three min_three max_four min_four   -- for this text's walks alone
set_option linter.unusedVariables false
set_option linter.unusedSimpArgs false
def copydesklaw03_BlockValidMatchesReference.f (k : Nat) (a0_0 : Int) (a0_1 : Int) (a0_2 : ByteArray) (a0_3 : Int) (a0_4 : Int) (a0_5 : Int) (l0_6 : List Int) (a0_7 : Int) (a0_8 : Int) (l1 : List (S26)) : Option (Bool) := (copydesklaw03_sane.f).bind fun t157 => ((copydesklaw03_short.f k l1).bind fun t158 => (if t157 = true then ((block_Valid.f a0_0 a0_1 a0_2 a0_3 a0_4 a0_5 l0_6 a0_7 a0_8).bind fun t161 => ((copydeskref03_Valid.f k a0_0 a0_1 a0_2 a0_3 a0_4 a0_5 l0_6 a0_7 a0_8).bind fun t162 => (if (t161 == t162) = true then ((block_ValidList.f t158).bind fun t163 => ((copydeskref03_ValidList.f k t158).bind fun t164 => (some (t163 == t164)))) else (some false)))) else (some false)))
theorem copydesklaw03_BlockValidMatchesReference.mono : ∀ a0 a1 a2 a3 a4 a5 a6 a7 a8 a9 k, LeO (copydesklaw03_BlockValidMatchesReference.f k a0 a1 a2 a3 a4 a5 a6 a7 a8 a9) (copydesklaw03_BlockValidMatchesReference.f (k + 1) a0 a1 a2 a3 a4 a5 a6 a7 a8 a9) := by
  intro a0 a1 a2 a3 a4 a5 a6 a7 a8 a9 k
  unfold copydesklaw03_BlockValidMatchesReference.f
  repeat' first
      | (with_reducible exact copydesklaw03_short.mono _ _)
      | (with_reducible exact copydeskref03_Valid.mono _ _ _ _ _ _ _ _ _ _)
      | (with_reducible exact copydeskref03_ValidList.mono _ _)
      | (with_reducible exact LeO.refl _)
      | (with_reducible exact LeO.none _)
      | (with_reducible refine LeO.ite ?_ ?_)
      | (with_reducible refine LeO.bind ?_ (fun _ => ?_))
      | exact copydesklaw03_short.mono _ _
      | exact copydeskref03_Valid.mono _ _ _ _ _ _ _ _ _ _
      | exact copydeskref03_ValidList.mono _ _
      | exact LeO.none _
      | refine LeO.ite ?_ ?_
      | refine LeO.bind ?_ (fun _ => ?_)
def copydesklaw03_BlockValidMatchesReference.T3 : Bool × List (List Nat × List Nat) := (true, [([], []), ([0], [0]), ([1], [1]), ([2, 1, 1], [1, 2]), ([1], [1]), ([4, 3, 1], [1, 4]), ([3, 5, 1], [1, 3, 5]), ([1, 6], [1, 6]), ([7, 5], [7]), ([8], [8]), ([9, 8, 8], [8, 9]), ([8], [8]), ([11, 10, 8], [8, 11]), ([10, 12, 8], [8, 10, 12]), ([8, 13], [8, 13]), ([14, 12, 0, 1, 2, 3, 4, 5, 6, 7, 8, 9, 10, 11, 12, 13, 14], [14])])
def copydesklaw03_BlockValidMatchesReference.B3 : List Nat := [0, 1, 3, 7, 3, 31, 63, 127, 255, 511, 1023, 511, 4095, 8191, 16383, 32767]
theorem copydesklaw03_BlockValidMatchesReference.tab3 : rtab .any (opsOf Tryd.f3 3) = copydesklaw03_BlockValidMatchesReference.T3 := by kernel_rfl
theorem copydesklaw03_BlockValidMatchesReference.bits3 : waitsOk copydesklaw03_BlockValidMatchesReference.T3.2 copydesklaw03_BlockValidMatchesReference.B3 = true := by kernel_rfl
set_option maxHeartbeats 8000000 in
set_option maxRecDepth 100000 in
theorem copydesklaw03_BlockValidMatchesReference.calls (k : Nat) (a0_0 : Int) (a0_1 : Int) (a0_2 : ByteArray) (a0_3 : Int) (a0_4 : Int) (a0_5 : Int) (A0_6 : Option Addr) (c0_6 : Nat) (l0_6 : List Int) (a0_7 : Int) (a0_8 : Int) (A1 : Option Addr) (c1 : Nat) (l1 : List (S26)) (r : Bool) (w : World) (hr0_6 : Kd.C (Kd.int .i64) w A0_6 l0_6.length l0_6) (hc0_6 : l0_6.length ≤ c0_6) (hr1 : Kd.C k26 w A1 l1.length l1) (hc1 : l1.length ≤ c1) (h : copydesklaw03_BlockValidMatchesReference.f k a0_0 a0_1 a0_2 a0_3 a0_4 a0_5 l0_6 a0_7 a0_8 l1 = some r) :
    Calls Tryd.prog 3 #[.agg #[.int .i64 a0_0, .int .i64 a0_1, .string a0_2, .int .i64 a0_3, .int .i64 a0_4, .int .i64 a0_5, .slice A0_6 l0_6.length c0_6, .int .i64 a0_7, .int .i64 a0_8], .slice A1 l1.length c1] w fun e w' => e = .returned (.bool r) ∧ Below w.heap.size w w' := by
  have hu26 := Tryd.underlying26
  have HR0_6 := Aside0.mk hr0_6
  have HC0_6 := Aside0.mk hc0_6
  clear hr0_6 hc0_6
  have HR1 := Aside0.mk hr1
  have HC1 := Aside0.mk hc1
  clear hr1 hc1
  have HB := Aside0.mk (Below.refl w.heap.size w)
  have H : ((copydesklaw03_sane.f).bind fun t157 => ((copydesklaw03_short.f k l1).bind fun t158 => (if t157 = true then ((block_Valid.f a0_0 a0_1 a0_2 a0_3 a0_4 a0_5 l0_6 a0_7 a0_8).bind fun t161 => ((copydeskref03_Valid.f k a0_0 a0_1 a0_2 a0_3 a0_4 a0_5 l0_6 a0_7 a0_8).bind fun t162 => (if (t161 == t162) = true then ((block_ValidList.f t158).bind fun t163 => ((copydeskref03_ValidList.f k t158).bind fun t164 => (some (t163 == t164)))) else (some false)))) else (some false)))) = some r := h
  clear h
  replace H := Option.bind_eq_some_iff.mp H
  obtain ⟨t157, A30, H⟩ := H
  replace H : ((copydesklaw03_short.f k l1).bind fun t158 => (if t157 = true then ((block_Valid.f a0_0 a0_1 a0_2 a0_3 a0_4 a0_5 l0_6 a0_7 a0_8).bind fun t161 => ((copydeskref03_Valid.f k a0_0 a0_1 a0_2 a0_3 a0_4 a0_5 l0_6 a0_7 a0_8).bind fun t162 => (if (t161 == t162) = true then ((block_ValidList.f t158).bind fun t163 => ((copydeskref03_ValidList.f k t158).bind fun t164 => (some (t163 == t164)))) else (some false)))) else (some false))) = some r := H
  have A3 := Aside0.mk A30
  clear A30
  replace H := Option.bind_eq_some_iff.mp H
  obtain ⟨t158, A40, H⟩ := H
  replace H : (if t157 = true then ((block_Valid.f a0_0 a0_1 a0_2 a0_3 a0_4 a0_5 l0_6 a0_7 a0_8).bind fun t161 => ((copydeskref03_Valid.f k a0_0 a0_1 a0_2 a0_3 a0_4 a0_5 l0_6 a0_7 a0_8).bind fun t162 => (if (t161 == t162) = true then ((block_ValidList.f t158).bind fun t163 => ((copydeskref03_ValidList.f k t158).bind fun t164 => (some (t163 == t164)))) else (some false)))) else (some false)) = some r := H
  have A4 := Aside0.mk A40
  clear A40
  by_cases c5 : t157 = true
  · subst c5
    have H1 : ((block_Valid.f a0_0 a0_1 a0_2 a0_3 a0_4 a0_5 l0_6 a0_7 a0_8).bind fun t161 => ((copydeskref03_Valid.f k a0_0 a0_1 a0_2 a0_3 a0_4 a0_5 l0_6 a0_7 a0_8).bind fun t162 => (if (t161 == t162) = true then ((block_ValidList.f t158).bind fun t163 => ((copydeskref03_ValidList.f k t158).bind fun t164 => (some (t163 == t164)))) else (some false)))) = some r := by rw [if_pos rfl] at H; exact H
    clear H
    have H := H1
    clear H1
    replace H := Option.bind_eq_some_iff.mp H
    obtain ⟨t161, A60, H⟩ := H
    replace H : ((copydeskref03_Valid.f k a0_0 a0_1 a0_2 a0_3 a0_4 a0_5 l0_6 a0_7 a0_8).bind fun t162 => (if (t161 == t162) = true then ((block_ValidList.f t158).bind fun t163 => ((copydeskref03_ValidList.f k t158).bind fun t164 => (some (t163 == t164)))) else (some false))) = some r := H
    have A6 := Aside0.mk A60
    clear A60
    replace H := Option.bind_eq_some_iff.mp H
    obtain ⟨t162, A70, H⟩ := H
    replace H : (if (t161 == t162) = true then ((block_ValidList.f t158).bind fun t163 => ((copydeskref03_ValidList.f k t158).bind fun t164 => (some (t163 == t164)))) else (some false)) = some r := H
    have A7 := Aside0.mk A70
    clear A70
    by_cases c8 : (t161 == t162) = true
    · rw [if_pos c8] at H
      have c8b0 : (t161 == t162) = true := c8
      (try (have c8b1 : decide (t161 = t162) = true := by simpa using c8))
      (try (have c8b2 : (t161 == t162) = true := by simpa using c8))
      clear c8
      replace H := Option.bind_eq_some_iff.mp H
      obtain ⟨t163, A90, H⟩ := H
      replace H : ((copydeskref03_ValidList.f k t158).bind fun t164 => (some (t163 == t164))) = some r := H
      have A9 := Aside0.mk A90
      clear A90
      replace H := Option.bind_eq_some_iff.mp H
      obtain ⟨t164, A100, H⟩ := H
      replace H : (some (t163 == t164)) = some r := H
      have A10 := Aside0.mk A100
      clear A100
      obtain rfl := Option.some.inj H
      go_enter Tryd.func3, Tryd.ntmps3
      try go_wp2_with (first | ((with_reducible refine gate_dst (N := 2) rfl ?_); refine box_event ?hg (N := 2) ?hd (cs := #[.int .i64 a0_0, .int .i64 a0_1, .string a0_2, .int .i64 a0_3, .int .i64 a0_4, .int .i64 a0_5, .slice A0_6 l0_6.length c0_6, .int .i64 a0_7, .int .i64 a0_8]) (t := 26) ?hr ?_; (case hd => rfl); (case hg => rfl); (case hr => first | (go_simp; done) | (go_simp; rfl)); intro gb156 hg w11 hbox hb; have n0_ := Aside0.mk (below_step (by repeat (first | (with_reducible first | exact HB.out | apply below_alloc | apply pw_below_drewN | apply below_drew1) | exact HB.out)) hb); have n1_ := Aside0.mk (hbox); have n2_ := Aside0.mk ((by rw [hg]; exact (below_size (by repeat (first | (with_reducible first | exact HB.out | apply below_alloc | apply pw_below_drewN | apply below_drew1) | exact HB.out))) : w.heap.size ≤ gb156)); have n3_ := Aside0.mk ((by rw [hg]; exact (below_size (by repeat (first | (with_reducible first | exact HB.out | apply below_alloc | apply pw_below_drewN | apply below_drew1) | exact HB.out))) : w.heap.size ≤ gb156)); clear HB; have HB := n0_; have BK156 := n1_; have GW156 := n2_; have GE156 := n3_; clear n0_ n1_ n2_ n3_; clear hb hbox hg) | ((with_reducible refine gate_callee (f := 17) rfl ?_); refine goesL_ (some 6) rfl rfl Tryd.func17 (by kernel_rfl) rfl #[] rfl (by (try simp only [List.map_toArray, List.map_cons, List.map_nil]); first | done | rfl | (simp only [List.length_drop, List.length_take]; rfl)) ?_; (with_reducible refine (copydesklaw03_sane.calls  true _ A3.out).mono ?_); rintro e w12 ⟨rfl, hb⟩; refine ⟨_, rfl, ?_⟩; have n0_ := Aside0.mk (blk_below (g := gb156) (o := .cells #[.int .i64 a0_0, .int .i64 a0_1, .string a0_2, .int .i64 a0_3, .int .i64 a0_4, .int .i64 a0_5, .slice A0_6 l0_6.length c0_6, .int .i64 a0_7, .int .i64 a0_8] 26 (0, 0)) (by (with_reducible repeat (first | refine blk_drewN ?_ _ | refine blk_drew ?_ | refine blk_alloc ?_ _)); exact BK156.out) hb); have n1_ := Aside0.mk (below_step (by repeat (first | (with_reducible first | exact HB.out | apply below_alloc | apply pw_below_drewN | apply below_drew1 | refine below_set ?_ GE156.out) | exact HB.out)) hb); clear BK156; clear HB; have BK156 := n0_; have HB := n1_; clear n0_ n1_; (try clear hb); (try clear hb2); (try clear hk); (try clear hi)) | ((with_reducible refine gate_callee (f := 18) rfl ?_); refine goesL_ (some 8) rfl rfl Tryd.func18 (by kernel_rfl) rfl #[.slice A1 l1.length c1] rfl (by (try simp only [List.map_toArray, List.map_cons, List.map_nil]); first | done | rfl | (simp only [List.length_drop, List.length_take]; rfl)) ?_; (with_reducible refine (copydesklaw03_short.calls k (fun k_ => k_ < w.heap.size) _ _ l1 t158 _ ?side1 A4.out).mono ?_); (case side1 => exact Kd.V_mk HC1.out (Kd.F_below (Kd.C_F k26_heap HR1.out) (by repeat (first | (with_reducible first | exact HB.out | apply below_alloc | apply pw_below_drewN | apply below_drew1 | refine below_set ?_ GE156.out) | exact HB.out)))); rintro e w13 ⟨v159, rfl, ho0, hb⟩; refine ⟨_, rfl, ?_⟩; have n0_ := Aside0.mk (Kd.N_lower (Kd.N_mono (ok' := fun k_ => k_ ≠ gb156) ho0 (fun k_ hk_ => Or.elim hk_ (fun hs_ => fun e_ => Nat.not_le.2 hs_ (by rw [e_]; exact GW156.out)) (fun hn_ => (Kd.freshB (g := gb156) (o := .cells #[.int .i64 a0_0, .int .i64 a0_1, .string a0_2, .int .i64 a0_3, .int .i64 a0_4, .int .i64 a0_5, .slice A0_6 l0_6.length c0_6, .int .i64 a0_7, .int .i64 a0_8] 26 (0, 0)) (by (with_reducible repeat (first | refine blk_drewN ?_ _ | refine blk_drew ?_ | refine blk_alloc ?_ _)); exact BK156.out) k_ hn_)))) (below_size (by repeat (first | (with_reducible first | exact HB.out | apply below_alloc | apply pw_below_drewN | apply below_drew1 | refine below_set ?_ GE156.out) | exact HB.out)))); have n1_ := Aside0.mk (blk_below (g := gb156) (o := .cells #[.int .i64 a0_0, .int .i64 a0_1, .string a0_2, .int .i64 a0_3, .int .i64 a0_4, .int .i64 a0_5, .slice A0_6 l0_6.length c0_6, .int .i64 a0_7, .int .i64 a0_8] 26 (0, 0)) (by (with_reducible repeat (first | refine blk_drewN ?_ _ | refine blk_drew ?_ | refine blk_alloc ?_ _)); exact BK156.out) hb); have n2_ := Aside0.mk (below_step (by repeat (first | (with_reducible first | exact HB.out | apply below_alloc | apply pw_below_drewN | apply below_drew1 | refine below_set ?_ GE156.out) | exact HB.out)) hb); clear BK156; clear HB; have HO160 := n0_; have BK156 := n1_; have HB := n2_; clear n0_ n1_ n2_; (try clear hb); (try clear hb2); (try clear hk); (try clear hi); (try clear ho0)))
      have n0_ := Aside0.mk (Kd.N_drew HO160.out)
      have n1_ := Aside0.mk (blk_drew BK156.out)
      have n2_ := Aside0.mk (below_drew1 HB.out)
      clear HO160
      clear BK156
      clear HB
      have HO160 := n0_
      have BK156 := n1_
      have HB := n2_
      clear n0_ n1_ n2_
      refine start_ (n := 16) (S := fun w' => w'.cell? ⟨gb156, 0, none⟩ = some (.int .i64 a0_0) ∧ w'.cell? ⟨gb156, 1, none⟩ = some (.int .i64 a0_1) ∧ w'.cell? ⟨gb156, 2, none⟩ = some (.string a0_2) ∧ w'.cell? ⟨gb156, 3, none⟩ = some (.int .i64 a0_3) ∧ w'.cell? ⟨gb156, 4, none⟩ = some (.int .i64 a0_4) ∧ w'.cell? ⟨gb156, 5, none⟩ = some (.int .i64 a0_5) ∧ w'.cell? ⟨gb156, 6, none⟩ = some (.slice A0_6 l0_6.length c0_6) ∧ w'.cell? ⟨gb156, 7, none⟩ = some (.int .i64 a0_7) ∧ w'.cell? ⟨gb156, 8, none⟩ = some (.int .i64 a0_8)) (ds := []) #[false, false, false, false, false, false, false, false, false, false, false, false, false, false, false, false] (by kernel_rfl) rfl rfl ⟨(blk_cell BK156.out 0).trans rfl, (blk_cell BK156.out 1).trans rfl, (blk_cell BK156.out 2).trans rfl, (blk_cell BK156.out 3).trans rfl, (blk_cell BK156.out 4).trans rfl, (blk_cell BK156.out 5).trans rfl, (blk_cell BK156.out 6).trans rfl, (blk_cell BK156.out 7).trans rfl, (blk_cell BK156.out 8).trans rfl⟩ (fun hHeld => ?_); refine with_tabW copydesklaw03_BlockValidMatchesReference.tab3 copydesklaw03_BlockValidMatchesReference.bits3 (fun HT_ HW_ => ?_)
      generalize w13.drew = w14 at HO160 BK156 HB hHeld ⊢
      refine pure_ (i := 0) (N := some 9) (v := ?_) (a' := ?_) #[true, false, false, false, false, false, false, false, false, false, false, false, false, false, false, false] rfl rfl (any_of HT_.out (by kernel_rfl)) (fun _ _ _ h => h) (Or.inl ⟨by rfl, ?_⟩) ?_ ?_
      rotate_left
      · intro w'
        go_simp
        with_reducible rfl
      rotate_left
      · simp only [Act.put, List.setIfInBounds_toArray, List.set_cons_zero, List.set_cons_succ, i64_w, i32_w]
        rfl
      refine pure_ (i := 1) (N := some 10) (v := ?_) (a' := ?_) #[true, true, false, false, false, false, false, false, false, false, false, false, false, false, false, false] rfl rfl (any_of HT_.out (by kernel_rfl)) (fun _ _ _ h => h) (Or.inl ⟨by rfl, ?_⟩) ?_ ?_
      rotate_left
      · intro w'
        go_simp
        with_reducible rfl
      rotate_left
      · simp only [Act.put, List.setIfInBounds_toArray, List.set_cons_zero, List.set_cons_succ, i64_w, i32_w]
        rfl
      refine take_ (i := 2) (N := some 11) (v := ?_) (a' := ?_) #[true, true, true, false, false, false, false, false, false, false, false, false, false, false, false, false] rfl rfl (take_ofW HT_.out HW_.out (by kernel_rfl)) (fun _ _ _ h => h) (Or.inl ⟨by rfl, ?_⟩) hHeld ?_ ?_
      rotate_left
      · rintro w' ⟨s0, s1, s2, s3, s4, s5, s6, s7, s8⟩
        go_simp
        with_reducible rfl
      rotate_left
      · simp only [Act.put, List.setIfInBounds_toArray, List.set_cons_zero, List.set_cons_succ, i64_w, i32_w]
        rfl
      refine take_ (i := 4) (N := some 13) (v := ?_) (a' := ?_) #[true, true, true, false, true, false, false, false, false, false, false, false, false, false, false, false] rfl rfl (take_ofW HT_.out HW_.out (by kernel_rfl)) (fun _ _ _ h => h) (Or.inl ⟨by rfl, ?_⟩) hHeld ?_ ?_
      rotate_left
      · rintro w' ⟨s0, s1, s2, s3, s4, s5, s6, s7, s8⟩
        go_simp
        with_reducible rfl
      rotate_left
      · simp only [Act.put, List.setIfInBounds_toArray, List.set_cons_zero, List.set_cons_succ, i64_w, i32_w]
        rfl
      refine one_ (i := 3) (N := some 12) #[true, true, true, true, true, false, false, false, false, false, false, false, false, false, false, false] rfl rfl (one_of HT_.out (by kernel_rfl)) (by decide) (fun K hK => ?_)
      refine goes_ Tryd.func19 (by kernel_rfl) rfl #[.agg #[.int .i64 a0_0, .int .i64 a0_1, .string a0_2, .int .i64 a0_3, .int .i64 a0_4, .int .i64 a0_5, .slice A0_6 l0_6.length c0_6, .int .i64 a0_7, .int .i64 a0_8]] (by rfl) rfl rfl (by (try simp only [List.map_toArray, List.map_cons, List.map_nil]); first | done | rfl | (simp only [List.length_drop, List.length_take]; rfl)) ?_
      with_reducible refine (block_Valid.calls a0_0 a0_1 a0_2 a0_3 a0_4 a0_5 _ _ l0_6 a0_7 a0_8 t161 _ ?side1 ?side2 A6.out).mono ?_
      (case side1 => repeat (first | exact (Kd.C_below HR0_6.out HB.out) | (with_reducible refine Kd.C_alloc ?_ _) | (with_reducible refine Kd.C_drewN ?_ _) | (with_reducible refine Kd.C_drew ?_)))
      (case side2 => exact HC0_6.out)
      rintro e w15 ⟨rfl, hb⟩
      refine ⟨_, rfl, ?_⟩
      have n0_ := Aside0.mk (Kd.N_below (by (with_reducible repeat (first | apply Kd.N_alloc | apply Kd.N_drewN | apply Kd.N_drew)); exact HO160.out) hb)
      have n1_ := Aside0.mk (blk_below (g := gb156) (o := .cells #[.int .i64 a0_0, .int .i64 a0_1, .string a0_2, .int .i64 a0_3, .int .i64 a0_4, .int .i64 a0_5, .slice A0_6 l0_6.length c0_6, .int .i64 a0_7, .int .i64 a0_8] 26 (0, 0)) (by (with_reducible repeat (first | refine blk_drewN ?_ _ | refine blk_drew ?_ | refine blk_alloc ?_ _)); exact BK156.out) hb)
      have n2_ := Aside0.mk (below_step (by repeat (first | (with_reducible first | exact HB.out | apply below_alloc | apply pw_below_drewN | apply below_drew1 | refine below_set ?_ GE156.out) | exact HB.out)) hb)
      clear HO160
      clear BK156
      clear HB
      have HO160 := n0_
      have BK156 := n1_
      have HB := n2_
      clear n0_ n1_ n2_
      (try clear hb)
      (try clear hb2)
      (try clear hk)
      (try clear hi)
      refine hK.out _ _ ⟨(blk_cell BK156.out 0).trans rfl, (blk_cell BK156.out 1).trans rfl, (blk_cell BK156.out 2).trans rfl, (blk_cell BK156.out 3).trans rfl, (blk_cell BK156.out 4).trans rfl, (blk_cell BK156.out 5).trans rfl, (blk_cell BK156.out 6).trans rfl, (blk_cell BK156.out 7).trans rfl, (blk_cell BK156.out 8).trans rfl⟩ (fun hHeld => ?_)
      clear hK K
      refine norm_ (a' := ?_) ?_ ?_
      rotate_left
      · show Act.put _ (some 12) _ = _
        simp only [Act.put, List.setIfInBounds_toArray, List.set_cons_zero, List.set_cons_succ, i64_w, i32_w]
        rfl
      refine one_ (i := 5) (N := some 14) #[true, true, true, true, true, true, false, false, false, false, false, false, false, false, false, false] rfl rfl (one_of HT_.out (by kernel_rfl)) (by decide) (fun K hK => ?_)
      refine goes_ Tryd.func20 (by kernel_rfl) rfl #[.agg #[.int .i64 a0_0, .int .i64 a0_1, .string a0_2, .int .i64 a0_3, .int .i64 a0_4, .int .i64 a0_5, .slice A0_6 l0_6.length c0_6, .int .i64 a0_7, .int .i64 a0_8]] (by rfl) rfl rfl (by (try simp only [List.map_toArray, List.map_cons, List.map_nil]); first | done | rfl | (simp only [List.length_drop, List.length_take]; rfl)) ?_
      with_reducible refine (copydeskref03_Valid.calls k a0_0 a0_1 a0_2 a0_3 a0_4 a0_5 _ _ l0_6 a0_7 a0_8 t162 _ ?side1 ?side2 A7.out).mono ?_
      (case side1 => repeat (first | exact (Kd.C_below HR0_6.out HB.out) | (with_reducible refine Kd.C_alloc ?_ _) | (with_reducible refine Kd.C_drewN ?_ _) | (with_reducible refine Kd.C_drew ?_)))
      (case side2 => exact HC0_6.out)
      rintro e w16 ⟨rfl, hb⟩
      refine ⟨_, rfl, ?_⟩
      have n0_ := Aside0.mk (Kd.N_below (by (with_reducible repeat (first | apply Kd.N_alloc | apply Kd.N_drewN | apply Kd.N_drew)); exact HO160.out) hb)
      have n1_ := Aside0.mk (blk_below (g := gb156) (o := .cells #[.int .i64 a0_0, .int .i64 a0_1, .string a0_2, .int .i64 a0_3, .int .i64 a0_4, .int .i64 a0_5, .slice A0_6 l0_6.length c0_6, .int .i64 a0_7, .int .i64 a0_8] 26 (0, 0)) (by (with_reducible repeat (first | refine blk_drewN ?_ _ | refine blk_drew ?_ | refine blk_alloc ?_ _)); exact BK156.out) hb)
      have n2_ := Aside0.mk (below_step (by repeat (first | (with_reducible first | exact HB.out | apply below_alloc | apply pw_below_drewN | apply below_drew1 | refine below_set ?_ GE156.out) | exact HB.out)) hb)
      clear HO160
      clear BK156
      clear HB
      have HO160 := n0_
      have BK156 := n1_
      have HB := n2_
      clear n0_ n1_ n2_
      (try clear hb)
      (try clear hb2)
      (try clear hk)
      (try clear hi)
      obtain ⟨Ao17, co17, eo17⟩ := Kd.N_slice HO160.out
      (first | subst eo17 | (injection eo17 with f1_ f2_ f3_; have f4_ := f1_.symm; have f5_ := f3_.symm; clear f1_ f2_ f3_; subst f4_; subst f5_))
      refine hK.out _ _ ⟨(blk_cell BK156.out 0).trans rfl, (blk_cell BK156.out 1).trans rfl, (blk_cell BK156.out 2).trans rfl, (blk_cell BK156.out 3).trans rfl, (blk_cell BK156.out 4).trans rfl, (blk_cell BK156.out 5).trans rfl, (blk_cell BK156.out 6).trans rfl, (blk_cell BK156.out 7).trans rfl, (blk_cell BK156.out 8).trans rfl⟩ (fun hHeld => ?_)
      clear hK K
      refine norm_ (a' := ?_) ?_ ?_
      rotate_left
      · show Act.put _ (some 14) _ = _
        simp only [Act.put, List.setIfInBounds_toArray, List.set_cons_zero, List.set_cons_succ, i64_w, i32_w]
        rfl
      refine pure_ (i := 6) (N := some 15) (v := ?_) (a' := ?_) #[true, true, true, true, true, true, true, false, false, false, false, false, false, false, false, false] rfl rfl (any_of HT_.out (by kernel_rfl)) (fun _ _ _ h => h) (Or.inl ⟨by rfl, ?_⟩) ?_ ?_
      rotate_left
      · intro w'
        go_simp
        with_reducible rfl
      rotate_left
      · simp only [Act.put, List.setIfInBounds_toArray, List.set_cons_zero, List.set_cons_succ, i64_w, i32_w]
        rfl
      refine pure_ (i := 7) (N := some 16) (v := ?_) (a' := ?_) #[true, true, true, true, true, true, true, true, false, false, false, false, false, false, false, false] rfl rfl (any_of HT_.out (by kernel_rfl)) (fun _ _ _ h => h) (Or.inl ⟨by rfl, ?_⟩) ?_ ?_
      rotate_left
      · intro w'
        go_simp
        with_reducible rfl
      rotate_left
      · simp only [Act.put, List.setIfInBounds_toArray, List.set_cons_zero, List.set_cons_succ, i64_w, i32_w]
        rfl
      refine pure_ (i := 8) (N := some 17) (v := ?_) (a' := ?_) #[true, true, true, true, true, true, true, true, true, false, false, false, false, false, false, false] rfl rfl (any_of HT_.out (by kernel_rfl)) (fun _ _ _ h => h) (Or.inl ⟨by rfl, ?_⟩) ?_ ?_
      rotate_left
      · intro w'
        go_simp
        with_reducible rfl
      rotate_left
      · simp only [Act.put, List.setIfInBounds_toArray, List.set_cons_zero, List.set_cons_succ, i64_w, i32_w]
        rfl
      refine pure_ (i := 9) (N := some 18) (v := ?_) (a' := ?_) #[true, true, true, true, true, true, true, true, true, true, false, false, false, false, false, false] rfl rfl (any_of HT_.out (by kernel_rfl)) (fun _ _ _ h => h) (Or.inl ⟨by rfl, ?_⟩) ?_ ?_
      rotate_left
      · intro w'
        go_simp
        with_reducible rfl
      rotate_left
      · simp only [Act.put, List.setIfInBounds_toArray, List.set_cons_zero, List.set_cons_succ, i64_w, i32_w]
        rfl
      refine pure_ (i := 11) (N := some 20) (v := ?_) (a' := ?_) #[true, true, true, true, true, true, true, true, true, true, false, true, false, false, false, false] rfl rfl (any_of HT_.out (by kernel_rfl)) (fun _ _ _ h => h) (Or.inl ⟨by rfl, ?_⟩) ?_ ?_
      rotate_left
      · intro w'
        go_simp
        with_reducible rfl
      rotate_left
      · simp only [Act.put, List.setIfInBounds_toArray, List.set_cons_zero, List.set_cons_succ, i64_w, i32_w]
        rfl
      refine one_ (i := 10) (N := some 19) #[true, true, true, true, true, true, true, true, true, true, true, true, false, false, false, false] rfl rfl (one_of HT_.out (by kernel_rfl)) (by decide) (fun K hK => ?_)
      refine goes_ Tryd.func21 (by kernel_rfl) rfl #[.slice Ao17 t158.length co17] (by rfl) rfl rfl (by (try simp only [List.map_toArray, List.map_cons, List.map_nil]); first | done | rfl | (simp only [List.length_drop, List.length_take]; rfl)) ?_
      with_reducible refine (block_ValidList.calls _ _ t158 t163 _ ?side1 ?side2 A9.out).mono ?_
      (case side1 => repeat (first | exact (Kd.N_reads' HO160.out).2.2 | (with_reducible refine Kd.C_alloc ?_ _) | (with_reducible refine Kd.C_drewN ?_ _) | (with_reducible refine Kd.C_drew ?_)))
      (case side2 => exact (Kd.N_reads' HO160.out).2.1)
      rintro e w18 ⟨rfl, hb⟩
      refine ⟨_, rfl, ?_⟩
      have n0_ := Aside0.mk (Kd.N_below (by (with_reducible repeat (first | apply Kd.N_alloc | apply Kd.N_drewN | apply Kd.N_drew)); exact HO160.out) hb)
      have n1_ := Aside0.mk (blk_below (g := gb156) (o := .cells #[.int .i64 a0_0, .int .i64 a0_1, .string a0_2, .int .i64 a0_3, .int .i64 a0_4, .int .i64 a0_5, .slice A0_6 l0_6.length c0_6, .int .i64 a0_7, .int .i64 a0_8] 26 (0, 0)) (by (with_reducible repeat (first | refine blk_drewN ?_ _ | refine blk_drew ?_ | refine blk_alloc ?_ _)); exact BK156.out) hb)
      have n2_ := Aside0.mk (below_step (by repeat (first | (with_reducible first | exact HB.out | apply below_alloc | apply pw_below_drewN | apply below_drew1 | refine below_set ?_ GE156.out) | exact HB.out)) hb)
      clear HO160
      clear BK156
      clear HB
      have HO160 := n0_
      have BK156 := n1_
      have HB := n2_
      clear n0_ n1_ n2_
      (try clear hb)
      (try clear hb2)
      (try clear hk)
      (try clear hi)
      refine hK.out _ _ ⟨(blk_cell BK156.out 0).trans rfl, (blk_cell BK156.out 1).trans rfl, (blk_cell BK156.out 2).trans rfl, (blk_cell BK156.out 3).trans rfl, (blk_cell BK156.out 4).trans rfl, (blk_cell BK156.out 5).trans rfl, (blk_cell BK156.out 6).trans rfl, (blk_cell BK156.out 7).trans rfl, (blk_cell BK156.out 8).trans rfl⟩ (fun hHeld => ?_)
      clear hK K
      refine norm_ (a' := ?_) ?_ ?_
      rotate_left
      · show Act.put _ (some 19) _ = _
        simp only [Act.put, List.setIfInBounds_toArray, List.set_cons_zero, List.set_cons_succ, i64_w, i32_w]
        rfl
      refine one_ (i := 12) (N := some 21) #[true, true, true, true, true, true, true, true, true, true, true, true, true, false, false, false] rfl rfl (one_of HT_.out (by kernel_rfl)) (by decide) (fun K hK => ?_)
      refine goes_ Tryd.func22 (by kernel_rfl) rfl #[.slice Ao17 t158.length co17] (by rfl) rfl rfl (by (try simp only [List.map_toArray, List.map_cons, List.map_nil]); first | done | rfl | (simp only [List.length_drop, List.length_take]; rfl)) ?_
      with_reducible refine (copydeskref03_ValidList.calls k _ _ t158 t164 _ ?side1 ?side2 A10.out).mono ?_
      (case side1 => repeat (first | exact (Kd.N_reads' HO160.out).2.2 | (with_reducible refine Kd.C_alloc ?_ _) | (with_reducible refine Kd.C_drewN ?_ _) | (with_reducible refine Kd.C_drew ?_)))
      (case side2 => exact (Kd.N_reads' HO160.out).2.1)
      rintro e w19 ⟨rfl, hb⟩
      refine ⟨_, rfl, ?_⟩
      have n0_ := Aside0.mk (Kd.N_below (by (with_reducible repeat (first | apply Kd.N_alloc | apply Kd.N_drewN | apply Kd.N_drew)); exact HO160.out) hb)
      have n1_ := Aside0.mk (blk_below (g := gb156) (o := .cells #[.int .i64 a0_0, .int .i64 a0_1, .string a0_2, .int .i64 a0_3, .int .i64 a0_4, .int .i64 a0_5, .slice A0_6 l0_6.length c0_6, .int .i64 a0_7, .int .i64 a0_8] 26 (0, 0)) (by (with_reducible repeat (first | refine blk_drewN ?_ _ | refine blk_drew ?_ | refine blk_alloc ?_ _)); exact BK156.out) hb)
      have n2_ := Aside0.mk (below_step (by repeat (first | (with_reducible first | exact HB.out | apply below_alloc | apply pw_below_drewN | apply below_drew1 | refine below_set ?_ GE156.out) | exact HB.out)) hb)
      clear HO160
      clear BK156
      clear HB
      have HO160 := n0_
      have BK156 := n1_
      have HB := n2_
      clear n0_ n1_ n2_
      (try clear hb)
      (try clear hb2)
      (try clear hk)
      (try clear hi)
      refine hK.out _ _ ⟨(blk_cell BK156.out 0).trans rfl, (blk_cell BK156.out 1).trans rfl, (blk_cell BK156.out 2).trans rfl, (blk_cell BK156.out 3).trans rfl, (blk_cell BK156.out 4).trans rfl, (blk_cell BK156.out 5).trans rfl, (blk_cell BK156.out 6).trans rfl, (blk_cell BK156.out 7).trans rfl, (blk_cell BK156.out 8).trans rfl⟩ (fun hHeld => ?_)
      clear hK K
      refine norm_ (a' := ?_) ?_ ?_
      rotate_left
      · show Act.put _ (some 21) _ = _
        simp only [Act.put, List.setIfInBounds_toArray, List.set_cons_zero, List.set_cons_succ, i64_w, i32_w]
        rfl
      refine pure_ (i := 13) (N := some 22) (v := ?_) (a' := ?_) #[true, true, true, true, true, true, true, true, true, true, true, true, true, true, false, false] rfl rfl (any_of HT_.out (by kernel_rfl)) (fun _ _ _ h => h) (Or.inl ⟨by rfl, ?_⟩) ?_ ?_
      rotate_left
      · intro w'
        go_simp
        with_reducible rfl
      rotate_left
      · simp only [Act.put, List.setIfInBounds_toArray, List.set_cons_zero, List.set_cons_succ, i64_w, i32_w]
        rfl
      refine pure_ (i := 14) (N := some 23) (v := ?_) (a' := ?_) #[true, true, true, true, true, true, true, true, true, true, true, true, true, true, true, false] rfl rfl (any_of HT_.out (by kernel_rfl)) (fun _ _ _ h => h) (Or.inl ⟨by rfl, ?_⟩) ?_ ?_
      rotate_left
      · intro w'
        go_simp
        with_reducible rfl
      rotate_left
      · simp only [Act.put, List.setIfInBounds_toArray, List.set_cons_zero, List.set_cons_succ, i64_w, i32_w]
        rfl
      refine pure_ (i := 15) (N := some 4) (v := ?_) (a' := ?_) #[true, true, true, true, true, true, true, true, true, true, true, true, true, true, true, true] rfl rfl (any_of HT_.out (by kernel_rfl)) (fun _ _ _ h => h) (Or.inl ⟨by rfl, ?_⟩) ?_ ?_
      rotate_left
      · intro w'
        go_simp
        with_reducible rfl
      rotate_left
      · simp only [Act.put, List.setIfInBounds_toArray, List.set_cons_zero, List.set_cons_succ, i64_w, i32_w]
        rfl
      refine done_ (done_of HT_.out (by kernel_rfl)) ?_
      try go_wp2
      go_ret
      exact ⟨by first | rfl | (simp [errW_none, errW_some] <;> rfl) | (simp [*, errW_none, errW_some] <;> rfl), by repeat (first | (with_reducible first | exact HB.out | apply below_alloc | apply pw_below_drewN | apply below_drew1 | refine below_set ?_ GE156.out) | exact HB.out)⟩
    · rw [if_neg c8] at H
      have c8b0 : (t161 == t162) = false := by simpa using c8
      (try (have c8b1 : decide (t161 = t162) = false := by simpa using c8))
      (try (have c8b2 : (t161 == t162) = false := by simpa using c8))
      (try (have c8b3 : ¬ (t161 = t162) := by simpa using c8))
      clear c8
      obtain rfl := Option.some.inj H
      go_enter Tryd.func3, Tryd.ntmps3
      try go_wp2_with (first | ((with_reducible refine gate_dst (N := 2) rfl ?_); refine box_event ?hg (N := 2) ?hd (cs := #[.int .i64 a0_0, .int .i64 a0_1, .string a0_2, .int .i64 a0_3, .int .i64 a0_4, .int .i64 a0_5, .slice A0_6 l0_6.length c0_6, .int .i64 a0_7, .int .i64 a0_8]) (t := 26) ?hr ?_; (case hd => rfl); (case hg => rfl); (case hr => first | (go_simp; done) | (go_simp; rfl)); intro gb156 hg w20 hbox hb; have n0_ := Aside0.mk (below_step (by repeat (first | (with_reducible first | exact HB.out | apply below_alloc | apply pw_below_drewN | apply below_drew1) | exact HB.out)) hb); have n1_ := Aside0.mk (hbox); have n2_ := Aside0.mk ((by rw [hg]; exact (below_size (by repeat (first | (with_reducible first | exact HB.out | apply below_alloc | apply pw_below_drewN | apply below_drew1) | exact HB.out))) : w.heap.size ≤ gb156)); have n3_ := Aside0.mk ((by rw [hg]; exact (below_size (by repeat (first | (with_reducible first | exact HB.out | apply below_alloc | apply pw_below_drewN | apply below_drew1) | exact HB.out))) : w.heap.size ≤ gb156)); clear HB; have HB := n0_; have BK156 := n1_; have GW156 := n2_; have GE156 := n3_; clear n0_ n1_ n2_ n3_; clear hb hbox hg) | ((with_reducible refine gate_callee (f := 17) rfl ?_); refine goesL_ (some 6) rfl rfl Tryd.func17 (by kernel_rfl) rfl #[] rfl (by (try simp only [List.map_toArray, List.map_cons, List.map_nil]); first | done | rfl | (simp only [List.length_drop, List.length_take]; rfl)) ?_; (with_reducible refine (copydesklaw03_sane.calls  true _ A3.out).mono ?_); rintro e w21 ⟨rfl, hb⟩; refine ⟨_, rfl, ?_⟩; have n0_ := Aside0.mk (blk_below (g := gb156) (o := .cells #[.int .i64 a0_0, .int .i64 a0_1, .string a0_2, .int .i64 a0_3, .int .i64 a0_4, .int .i64 a0_5, .slice A0_6 l0_6.length c0_6, .int .i64 a0_7, .int .i64 a0_8] 26 (0, 0)) (by (with_reducible repeat (first | refine blk_drewN ?_ _ | refine blk_drew ?_ | refine blk_alloc ?_ _)); exact BK156.out) hb); have n1_ := Aside0.mk (below_step (by repeat (first | (with_reducible first | exact HB.out | apply below_alloc | apply pw_below_drewN | apply below_drew1 | refine below_set ?_ GE156.out) | exact HB.out)) hb); clear BK156; clear HB; have BK156 := n0_; have HB := n1_; clear n0_ n1_; (try clear hb); (try clear hb2); (try clear hk); (try clear hi)) | ((with_reducible refine gate_callee (f := 18) rfl ?_); refine goesL_ (some 8) rfl rfl Tryd.func18 (by kernel_rfl) rfl #[.slice A1 l1.length c1] rfl (by (try simp only [List.map_toArray, List.map_cons, List.map_nil]); first | done | rfl | (simp only [List.length_drop, List.length_take]; rfl)) ?_; (with_reducible refine (copydesklaw03_short.calls k (fun k_ => k_ < w.heap.size) _ _ l1 t158 _ ?side1 A4.out).mono ?_); (case side1 => exact Kd.V_mk HC1.out (Kd.F_below (Kd.C_F k26_heap HR1.out) (by repeat (first | (with_reducible first | exact HB.out | apply below_alloc | apply pw_below_drewN | apply below_drew1 | refine below_set ?_ GE156.out) | exact HB.out)))); rintro e w22 ⟨v159, rfl, ho0, hb⟩; refine ⟨_, rfl, ?_⟩; have n0_ := Aside0.mk (Kd.N_lower (Kd.N_mono (ok' := fun k_ => k_ ≠ gb156) ho0 (fun k_ hk_ => Or.elim hk_ (fun hs_ => fun e_ => Nat.not_le.2 hs_ (by rw [e_]; exact GW156.out)) (fun hn_ => (Kd.freshB (g := gb156) (o := .cells #[.int .i64 a0_0, .int .i64 a0_1, .string a0_2, .int .i64 a0_3, .int .i64 a0_4, .int .i64 a0_5, .slice A0_6 l0_6.length c0_6, .int .i64 a0_7, .int .i64 a0_8] 26 (0, 0)) (by (with_reducible repeat (first | refine blk_drewN ?_ _ | refine blk_drew ?_ | refine blk_alloc ?_ _)); exact BK156.out) k_ hn_)))) (below_size (by repeat (first | (with_reducible first | exact HB.out | apply below_alloc | apply pw_below_drewN | apply below_drew1 | refine below_set ?_ GE156.out) | exact HB.out)))); have n1_ := Aside0.mk (blk_below (g := gb156) (o := .cells #[.int .i64 a0_0, .int .i64 a0_1, .string a0_2, .int .i64 a0_3, .int .i64 a0_4, .int .i64 a0_5, .slice A0_6 l0_6.length c0_6, .int .i64 a0_7, .int .i64 a0_8] 26 (0, 0)) (by (with_reducible repeat (first | refine blk_drewN ?_ _ | refine blk_drew ?_ | refine blk_alloc ?_ _)); exact BK156.out) hb); have n2_ := Aside0.mk (below_step (by repeat (first | (with_reducible first | exact HB.out | apply below_alloc | apply pw_below_drewN | apply below_drew1 | refine below_set ?_ GE156.out) | exact HB.out)) hb); clear BK156; clear HB; have HO160 := n0_; have BK156 := n1_; have HB := n2_; clear n0_ n1_ n2_; (try clear hb); (try clear hb2); (try clear hk); (try clear hi); (try clear ho0)))
      have n0_ := Aside0.mk (Kd.N_drew HO160.out)
      have n1_ := Aside0.mk (blk_drew BK156.out)
      have n2_ := Aside0.mk (below_drew1 HB.out)
      clear HO160
      clear BK156
      clear HB
      have HO160 := n0_
      have BK156 := n1_
      have HB := n2_
      clear n0_ n1_ n2_
      refine start_ (n := 16) (S := fun w' => w'.cell? ⟨gb156, 0, none⟩ = some (.int .i64 a0_0) ∧ w'.cell? ⟨gb156, 1, none⟩ = some (.int .i64 a0_1) ∧ w'.cell? ⟨gb156, 2, none⟩ = some (.string a0_2) ∧ w'.cell? ⟨gb156, 3, none⟩ = some (.int .i64 a0_3) ∧ w'.cell? ⟨gb156, 4, none⟩ = some (.int .i64 a0_4) ∧ w'.cell? ⟨gb156, 5, none⟩ = some (.int .i64 a0_5) ∧ w'.cell? ⟨gb156, 6, none⟩ = some (.slice A0_6 l0_6.length c0_6) ∧ w'.cell? ⟨gb156, 7, none⟩ = some (.int .i64 a0_7) ∧ w'.cell? ⟨gb156, 8, none⟩ = some (.int .i64 a0_8)) (ds := []) #[false, false, false, false, false, false, false, false, false, false, false, false, false, false, false, false] (by kernel_rfl) rfl rfl ⟨(blk_cell BK156.out 0).trans rfl, (blk_cell BK156.out 1).trans rfl, (blk_cell BK156.out 2).trans rfl, (blk_cell BK156.out 3).trans rfl, (blk_cell BK156.out 4).trans rfl, (blk_cell BK156.out 5).trans rfl, (blk_cell BK156.out 6).trans rfl, (blk_cell BK156.out 7).trans rfl, (blk_cell BK156.out 8).trans rfl⟩ (fun hHeld => ?_); refine with_tabW copydesklaw03_BlockValidMatchesReference.tab3 copydesklaw03_BlockValidMatchesReference.bits3 (fun HT_ HW_ => ?_)
      generalize w22.drew = w23 at HO160 BK156 HB hHeld ⊢
      refine pure_ (i := 0) (N := some 9) (v := ?_) (a' := ?_) #[true, false, false, false, false, false, false, false, false, false, false, false, false, false, false, false] rfl rfl (any_of HT_.out (by kernel_rfl)) (fun _ _ _ h => h) (Or.inl ⟨by rfl, ?_⟩) ?_ ?_
      rotate_left
      · intro w'
        go_simp
        with_reducible rfl
      rotate_left
      · simp only [Act.put, List.setIfInBounds_toArray, List.set_cons_zero, List.set_cons_succ, i64_w, i32_w]
        rfl
      refine pure_ (i := 1) (N := some 10) (v := ?_) (a' := ?_) #[true, true, false, false, false, false, false, false, false, false, false, false, false, false, false, false] rfl rfl (any_of HT_.out (by kernel_rfl)) (fun _ _ _ h => h) (Or.inl ⟨by rfl, ?_⟩) ?_ ?_
      rotate_left
      · intro w'
        go_simp
        with_reducible rfl
      rotate_left
      · simp only [Act.put, List.setIfInBounds_toArray, List.set_cons_zero, List.set_cons_succ, i64_w, i32_w]
        rfl
      refine take_ (i := 2) (N := some 11) (v := ?_) (a' := ?_) #[true, true, true, false, false, false, false, false, false, false, false, false, false, false, false, false] rfl rfl (take_ofW HT_.out HW_.out (by kernel_rfl)) (fun _ _ _ h => h) (Or.inl ⟨by rfl, ?_⟩) hHeld ?_ ?_
      rotate_left
      · rintro w' ⟨s0, s1, s2, s3, s4, s5, s6, s7, s8⟩
        go_simp
        with_reducible rfl
      rotate_left
      · simp only [Act.put, List.setIfInBounds_toArray, List.set_cons_zero, List.set_cons_succ, i64_w, i32_w]
        rfl
      refine take_ (i := 4) (N := some 13) (v := ?_) (a' := ?_) #[true, true, true, false, true, false, false, false, false, false, false, false, false, false, false, false] rfl rfl (take_ofW HT_.out HW_.out (by kernel_rfl)) (fun _ _ _ h => h) (Or.inl ⟨by rfl, ?_⟩) hHeld ?_ ?_
      rotate_left
      · rintro w' ⟨s0, s1, s2, s3, s4, s5, s6, s7, s8⟩
        go_simp
        with_reducible rfl
      rotate_left
      · simp only [Act.put, List.setIfInBounds_toArray, List.set_cons_zero, List.set_cons_succ, i64_w, i32_w]
        rfl
      refine one_ (i := 3) (N := some 12) #[true, true, true, true, true, false, false, false, false, false, false, false, false, false, false, false] rfl rfl (one_of HT_.out (by kernel_rfl)) (by decide) (fun K hK => ?_)
      refine goes_ Tryd.func19 (by kernel_rfl) rfl #[.agg #[.int .i64 a0_0, .int .i64 a0_1, .string a0_2, .int .i64 a0_3, .int .i64 a0_4, .int .i64 a0_5, .slice A0_6 l0_6.length c0_6, .int .i64 a0_7, .int .i64 a0_8]] (by rfl) rfl rfl (by (try simp only [List.map_toArray, List.map_cons, List.map_nil]); first | done | rfl | (simp only [List.length_drop, List.length_take]; rfl)) ?_
      with_reducible refine (block_Valid.calls a0_0 a0_1 a0_2 a0_3 a0_4 a0_5 _ _ l0_6 a0_7 a0_8 t161 _ ?side1 ?side2 A6.out).mono ?_
      (case side1 => repeat (first | exact (Kd.C_below HR0_6.out HB.out) | (with_reducible refine Kd.C_alloc ?_ _) | (with_reducible refine Kd.C_drewN ?_ _) | (with_reducible refine Kd.C_drew ?_)))
      (case side2 => exact HC0_6.out)
      rintro e w24 ⟨rfl, hb⟩
      refine ⟨_, rfl, ?_⟩
      have n0_ := Aside0.mk (Kd.N_below (by (with_reducible repeat (first | apply Kd.N_alloc | apply Kd.N_drewN | apply Kd.N_drew)); exact HO160.out) hb)
      have n1_ := Aside0.mk (blk_below (g := gb156) (o := .cells #[.int .i64 a0_0, .int .i64 a0_1, .string a0_2, .int .i64 a0_3, .int .i64 a0_4, .int .i64 a0_5, .slice A0_6 l0_6.length c0_6, .int .i64 a0_7, .int .i64 a0_8] 26 (0, 0)) (by (with_reducible repeat (first | refine blk_drewN ?_ _ | refine blk_drew ?_ | refine blk_alloc ?_ _)); exact BK156.out) hb)
      have n2_ := Aside0.mk (below_step (by repeat (first | (with_reducible first | exact HB.out | apply below_alloc | apply pw_below_drewN | apply below_drew1 | refine below_set ?_ GE156.out) | exact HB.out)) hb)
      clear HO160
      clear BK156
      clear HB
      have HO160 := n0_
      have BK156 := n1_
      have HB := n2_
      clear n0_ n1_ n2_
      (try clear hb)
      (try clear hb2)
      (try clear hk)
      (try clear hi)
      refine hK.out _ _ ⟨(blk_cell BK156.out 0).trans rfl, (blk_cell BK156.out 1).trans rfl, (blk_cell BK156.out 2).trans rfl, (blk_cell BK156.out 3).trans rfl, (blk_cell BK156.out 4).trans rfl, (blk_cell BK156.out 5).trans rfl, (blk_cell BK156.out 6).trans rfl, (blk_cell BK156.out 7).trans rfl, (blk_cell BK156.out 8).trans rfl⟩ (fun hHeld => ?_)
      clear hK K
      refine norm_ (a' := ?_) ?_ ?_
      rotate_left
      · show Act.put _ (some 12) _ = _
        simp only [Act.put, List.setIfInBounds_toArray, List.set_cons_zero, List.set_cons_succ, i64_w, i32_w]
        rfl
      refine one_ (i := 5) (N := some 14) #[true, true, true, true, true, true, false, false, false, false, false, false, false, false, false, false] rfl rfl (one_of HT_.out (by kernel_rfl)) (by decide) (fun K hK => ?_)
      refine goes_ Tryd.func20 (by kernel_rfl) rfl #[.agg #[.int .i64 a0_0, .int .i64 a0_1, .string a0_2, .int .i64 a0_3, .int .i64 a0_4, .int .i64 a0_5, .slice A0_6 l0_6.length c0_6, .int .i64 a0_7, .int .i64 a0_8]] (by rfl) rfl rfl (by (try simp only [List.map_toArray, List.map_cons, List.map_nil]); first | done | rfl | (simp only [List.length_drop, List.length_take]; rfl)) ?_
      with_reducible refine (copydeskref03_Valid.calls k a0_0 a0_1 a0_2 a0_3 a0_4 a0_5 _ _ l0_6 a0_7 a0_8 t162 _ ?side1 ?side2 A7.out).mono ?_
      (case side1 => repeat (first | exact (Kd.C_below HR0_6.out HB.out) | (with_reducible refine Kd.C_alloc ?_ _) | (with_reducible refine Kd.C_drewN ?_ _) | (with_reducible refine Kd.C_drew ?_)))
      (case side2 => exact HC0_6.out)
      rintro e w25 ⟨rfl, hb⟩
      refine ⟨_, rfl, ?_⟩
      have n0_ := Aside0.mk (Kd.N_below (by (with_reducible repeat (first | apply Kd.N_alloc | apply Kd.N_drewN | apply Kd.N_drew)); exact HO160.out) hb)
      have n1_ := Aside0.mk (blk_below (g := gb156) (o := .cells #[.int .i64 a0_0, .int .i64 a0_1, .string a0_2, .int .i64 a0_3, .int .i64 a0_4, .int .i64 a0_5, .slice A0_6 l0_6.length c0_6, .int .i64 a0_7, .int .i64 a0_8] 26 (0, 0)) (by (with_reducible repeat (first | refine blk_drewN ?_ _ | refine blk_drew ?_ | refine blk_alloc ?_ _)); exact BK156.out) hb)
      have n2_ := Aside0.mk (below_step (by repeat (first | (with_reducible first | exact HB.out | apply below_alloc | apply pw_below_drewN | apply below_drew1 | refine below_set ?_ GE156.out) | exact HB.out)) hb)
      clear HO160
      clear BK156
      clear HB
      have HO160 := n0_
      have BK156 := n1_
      have HB := n2_
      clear n0_ n1_ n2_
      (try clear hb)
      (try clear hb2)
      (try clear hk)
      (try clear hi)
      refine hK.out _ _ ⟨(blk_cell BK156.out 0).trans rfl, (blk_cell BK156.out 1).trans rfl, (blk_cell BK156.out 2).trans rfl, (blk_cell BK156.out 3).trans rfl, (blk_cell BK156.out 4).trans rfl, (blk_cell BK156.out 5).trans rfl, (blk_cell BK156.out 6).trans rfl, (blk_cell BK156.out 7).trans rfl, (blk_cell BK156.out 8).trans rfl⟩ (fun hHeld => ?_)
      clear hK K
      refine norm_ (a' := ?_) ?_ ?_
      rotate_left
      · show Act.put _ (some 14) _ = _
        simp only [Act.put, List.setIfInBounds_toArray, List.set_cons_zero, List.set_cons_succ, i64_w, i32_w]
        rfl
      refine pure_ (i := 6) (N := some 15) (v := ?_) (a' := ?_) #[true, true, true, true, true, true, true, false, false, false, false, false, false, false, false, false] rfl rfl (any_of HT_.out (by kernel_rfl)) (fun _ _ _ h => h) (Or.inl ⟨by rfl, ?_⟩) ?_ ?_
      rotate_left
      · intro w'
        go_simp
        with_reducible rfl
      rotate_left
      · simp only [Act.put, List.setIfInBounds_toArray, List.set_cons_zero, List.set_cons_succ, i64_w, i32_w]
        rfl
      refine pure_ (i := 7) (N := some 16) (v := ?_) (a' := ?_) #[true, true, true, true, true, true, true, true, false, false, false, false, false, false, false, false] rfl rfl (any_of HT_.out (by kernel_rfl)) (fun _ _ _ h => h) (Or.inl ⟨by rfl, ?_⟩) ?_ ?_
      rotate_left
      · intro w'
        go_simp
        with_reducible rfl
      rotate_left
      · simp only [Act.put, List.setIfInBounds_toArray, List.set_cons_zero, List.set_cons_succ, i64_w, i32_w]
        rfl
      refine pure_ (i := 8) (N := some 17) (v := ?_) (a' := ?_) #[true, true, true, true, true, true, true, true, true, false, false, false, false, false, false, false] rfl rfl (any_of HT_.out (by kernel_rfl)) (fun _ _ _ h => h) (Or.inl ⟨by rfl, ?_⟩) ?_ ?_
      rotate_left
      · intro w'
        go_simp
        with_reducible rfl
      rotate_left
      · simp only [Act.put, List.setIfInBounds_toArray, List.set_cons_zero, List.set_cons_succ, i64_w, i32_w]
        rfl
      refine pure_ (i := 9) (N := some 18) (v := undef) (a' := ?_) #[true, true, true, true, true, true, true, true, true, true, false, false, false, false, false, false] rfl rfl (any_of HT_.out (by kernel_rfl)) (fun _ _ _ h => h) (Or.inr ⟨by rfl, rfl⟩) ?_ ?_
      rotate_left
      · simp only [Act.put, List.setIfInBounds_toArray, List.set_cons_zero, List.set_cons_succ, i64_w, i32_w]
        rfl
      refine pure_ (i := 10) (N := some 19) (v := undef) (a' := ?_) #[true, true, true, true, true, true, true, true, true, true, true, false, false, false, false, false] rfl rfl (any_of HT_.out (by kernel_rfl)) (fun _ _ _ h => h) (Or.inr ⟨by rfl, rfl⟩) ?_ ?_
      rotate_left
      · simp only [Act.put, List.setIfInBounds_toArray, List.set_cons_zero, List.set_cons_succ, i64_w, i32_w]
        rfl
      refine pure_ (i := 11) (N := some 20) (v := undef) (a' := ?_) #[true, true, true, true, true, true, true, true, true, true, true, true, false, false, false, false] rfl rfl (any_of HT_.out (by kernel_rfl)) (fun _ _ _ h => h) (Or.inr ⟨by rfl, rfl⟩) ?_ ?_
      rotate_left
      · simp only [Act.put, List.setIfInBounds_toArray, List.set_cons_zero, List.set_cons_succ, i64_w, i32_w]
        rfl
      refine pure_ (i := 12) (N := some 21) (v := undef) (a' := ?_) #[true, true, true, true, true, true, true, true, true, true, true, true, true, false, false, false] rfl rfl (any_of HT_.out (by kernel_rfl)) (fun _ _ _ h => h) (Or.inr ⟨by rfl, rfl⟩) ?_ ?_
      rotate_left
      · simp only [Act.put, List.setIfInBounds_toArray, List.set_cons_zero, List.set_cons_succ, i64_w, i32_w]
        rfl
      refine pure_ (i := 13) (N := some 22) (v := undef) (a' := ?_) #[true, true, true, true, true, true, true, true, true, true, true, true, true, true, false, false] rfl rfl (any_of HT_.out (by kernel_rfl)) (fun _ _ _ h => h) (Or.inr ⟨by rfl, rfl⟩) ?_ ?_
      rotate_left
      · simp only [Act.put, List.setIfInBounds_toArray, List.set_cons_zero, List.set_cons_succ, i64_w, i32_w]
        rfl
      refine pure_ (i := 14) (N := some 23) (v := ?_) (a' := ?_) #[true, true, true, true, true, true, true, true, true, true, true, true, true, true, true, false] rfl rfl (any_of HT_.out (by kernel_rfl)) (fun _ _ _ h => h) (Or.inl ⟨by rfl, ?_⟩) ?_ ?_
      rotate_left
      · intro w'
        go_simp
        with_reducible rfl
      rotate_left
      · simp only [Act.put, List.setIfInBounds_toArray, List.set_cons_zero, List.set_cons_succ, i64_w, i32_w]
        rfl
      refine pure_ (i := 15) (N := some 4) (v := ?_) (a' := ?_) #[true, true, true, true, true, true, true, true, true, true, true, true, true, true, true, true] rfl rfl (any_of HT_.out (by kernel_rfl)) (fun _ _ _ h => h) (Or.inl ⟨by rfl, ?_⟩) ?_ ?_
      rotate_left
      · intro w'
        go_simp
        with_reducible rfl
      rotate_left
      · simp only [Act.put, List.setIfInBounds_toArray, List.set_cons_zero, List.set_cons_succ, i64_w, i32_w]
        rfl
      refine done_ (done_of HT_.out (by kernel_rfl)) ?_
      try go_wp2
      go_ret
      exact ⟨by first | rfl | (simp [errW_none, errW_some] <;> rfl) | (simp [*, errW_none, errW_some] <;> rfl), by repeat (first | (with_reducible first | exact HB.out | apply below_alloc | apply pw_below_drewN | apply below_drew1 | refine below_set ?_ GE156.out) | exact HB.out)⟩
  · replace c5 := Bool.eq_false_iff.mpr c5
    subst c5
    have H1 : (some false) = some r := by rw [if_neg (show ¬ (false = true) by decide)] at H; exact H
    clear H
    have H := H1
    clear H1
    obtain rfl := Option.some.inj H
    go_enter Tryd.func3, Tryd.ntmps3
    try go_wp2_with (first | ((with_reducible refine gate_dst (N := 2) rfl ?_); refine box_event ?hg (N := 2) ?hd (cs := #[.int .i64 a0_0, .int .i64 a0_1, .string a0_2, .int .i64 a0_3, .int .i64 a0_4, .int .i64 a0_5, .slice A0_6 l0_6.length c0_6, .int .i64 a0_7, .int .i64 a0_8]) (t := 26) ?hr ?_; (case hd => rfl); (case hg => rfl); (case hr => first | (go_simp; done) | (go_simp; rfl)); intro gb156 hg w26 hbox hb; have n0_ := Aside0.mk (below_step (by repeat (first | (with_reducible first | exact HB.out | apply below_alloc | apply pw_below_drewN | apply below_drew1) | exact HB.out)) hb); have n1_ := Aside0.mk (hbox); have n2_ := Aside0.mk ((by rw [hg]; exact (below_size (by repeat (first | (with_reducible first | exact HB.out | apply below_alloc | apply pw_below_drewN | apply below_drew1) | exact HB.out))) : w.heap.size ≤ gb156)); have n3_ := Aside0.mk ((by rw [hg]; exact (below_size (by repeat (first | (with_reducible first | exact HB.out | apply below_alloc | apply pw_below_drewN | apply below_drew1) | exact HB.out))) : w.heap.size ≤ gb156)); clear HB; have HB := n0_; have BK156 := n1_; have GW156 := n2_; have GE156 := n3_; clear n0_ n1_ n2_ n3_; clear hb hbox hg) | ((with_reducible refine gate_callee (f := 17) rfl ?_); refine goesL_ (some 6) rfl rfl Tryd.func17 (by kernel_rfl) rfl #[] rfl (by (try simp only [List.map_toArray, List.map_cons, List.map_nil]); first | done | rfl | (simp only [List.length_drop, List.length_take]; rfl)) ?_; (with_reducible refine (copydesklaw03_sane.calls  false _ A3.out).mono ?_); rintro e w27 ⟨rfl, hb⟩; refine ⟨_, rfl, ?_⟩; have n0_ := Aside0.mk (blk_below (g := gb156) (o := .cells #[.int .i64 a0_0, .int .i64 a0_1, .string a0_2, .int .i64 a0_3, .int .i64 a0_4, .int .i64 a0_5, .slice A0_6 l0_6.length c0_6, .int .i64 a0_7, .int .i64 a0_8] 26 (0, 0)) (by (with_reducible repeat (first | refine blk_drewN ?_ _ | refine blk_drew ?_ | refine blk_alloc ?_ _)); exact BK156.out) hb); have n1_ := Aside0.mk (below_step (by repeat (first | (with_reducible first | exact HB.out | apply below_alloc | apply pw_below_drewN | apply below_drew1 | refine below_set ?_ GE156.out) | exact HB.out)) hb); clear BK156; clear HB; have BK156 := n0_; have HB := n1_; clear n0_ n1_; (try clear hb); (try clear hb2); (try clear hk); (try clear hi)) | ((with_reducible refine gate_callee (f := 18) rfl ?_); refine goesL_ (some 8) rfl rfl Tryd.func18 (by kernel_rfl) rfl #[.slice A1 l1.length c1] rfl (by (try simp only [List.map_toArray, List.map_cons, List.map_nil]); first | done | rfl | (simp only [List.length_drop, List.length_take]; rfl)) ?_; (with_reducible refine (copydesklaw03_short.calls k (fun k_ => k_ < w.heap.size) _ _ l1 t158 _ ?side1 A4.out).mono ?_); (case side1 => exact Kd.V_mk HC1.out (Kd.F_below (Kd.C_F k26_heap HR1.out) (by repeat (first | (with_reducible first | exact HB.out | apply below_alloc | apply pw_below_drewN | apply below_drew1 | refine below_set ?_ GE156.out) | exact HB.out)))); rintro e w28 ⟨v159, rfl, ho0, hb⟩; refine ⟨_, rfl, ?_⟩; have n0_ := Aside0.mk (Kd.N_lower (Kd.N_mono (ok' := fun k_ => k_ ≠ gb156) ho0 (fun k_ hk_ => Or.elim hk_ (fun hs_ => fun e_ => Nat.not_le.2 hs_ (by rw [e_]; exact GW156.out)) (fun hn_ => (Kd.freshB (g := gb156) (o := .cells #[.int .i64 a0_0, .int .i64 a0_1, .string a0_2, .int .i64 a0_3, .int .i64 a0_4, .int .i64 a0_5, .slice A0_6 l0_6.length c0_6, .int .i64 a0_7, .int .i64 a0_8] 26 (0, 0)) (by (with_reducible repeat (first | refine blk_drewN ?_ _ | refine blk_drew ?_ | refine blk_alloc ?_ _)); exact BK156.out) k_ hn_)))) (below_size (by repeat (first | (with_reducible first | exact HB.out | apply below_alloc | apply pw_below_drewN | apply below_drew1 | refine below_set ?_ GE156.out) | exact HB.out)))); have n1_ := Aside0.mk (blk_below (g := gb156) (o := .cells #[.int .i64 a0_0, .int .i64 a0_1, .string a0_2, .int .i64 a0_3, .int .i64 a0_4, .int .i64 a0_5, .slice A0_6 l0_6.length c0_6, .int .i64 a0_7, .int .i64 a0_8] 26 (0, 0)) (by (with_reducible repeat (first | refine blk_drewN ?_ _ | refine blk_drew ?_ | refine blk_alloc ?_ _)); exact BK156.out) hb); have n2_ := Aside0.mk (below_step (by repeat (first | (with_reducible first | exact HB.out | apply below_alloc | apply pw_below_drewN | apply below_drew1 | refine below_set ?_ GE156.out) | exact HB.out)) hb); clear BK156; clear HB; have HO160 := n0_; have BK156 := n1_; have HB := n2_; clear n0_ n1_ n2_; (try clear hb); (try clear hb2); (try clear hk); (try clear hi); (try clear ho0)))
    have n0_ := Aside0.mk (Kd.N_drew HO160.out)
    have n1_ := Aside0.mk (blk_drew BK156.out)
    have n2_ := Aside0.mk (below_drew1 HB.out)
    clear HO160
    clear BK156
    clear HB
    have HO160 := n0_
    have BK156 := n1_
    have HB := n2_
    clear n0_ n1_ n2_
    refine start_ (n := 16) (S := fun w' => True) (ds := []) #[false, false, false, false, false, false, false, false, false, false, false, false, false, false, false, false] (by kernel_rfl) rfl rfl trivial (fun hHeld => ?_); refine with_tabW copydesklaw03_BlockValidMatchesReference.tab3 copydesklaw03_BlockValidMatchesReference.bits3 (fun HT_ HW_ => ?_)
    generalize w28.drew = w29 at HO160 BK156 HB hHeld ⊢
    refine pure_ (i := 0) (N := some 9) (v := ?_) (a' := ?_) #[true, false, false, false, false, false, false, false, false, false, false, false, false, false, false, false] rfl rfl (any_of HT_.out (by kernel_rfl)) (fun _ _ _ h => h) (Or.inl ⟨by rfl, ?_⟩) ?_ ?_
    rotate_left
    · intro w'
      go_simp
      with_reducible rfl
    rotate_left
    · simp only [Act.put, List.setIfInBounds_toArray, List.set_cons_zero, List.set_cons_succ, i64_w, i32_w]
      rfl
    refine pure_ (i := 1) (N := some 10) (v := ?_) (a' := ?_) #[true, true, false, false, false, false, false, false, false, false, false, false, false, false, false, false] rfl rfl (any_of HT_.out (by kernel_rfl)) (fun _ _ _ h => h) (Or.inl ⟨by rfl, ?_⟩) ?_ ?_
    rotate_left
    · intro w'
      go_simp
      with_reducible rfl
    rotate_left
    · simp only [Act.put, List.setIfInBounds_toArray, List.set_cons_zero, List.set_cons_succ, i64_w, i32_w]
      rfl
    refine pure_ (i := 2) (N := some 11) (v := undef) (a' := ?_) #[true, true, true, false, false, false, false, false, false, false, false, false, false, false, false, false] rfl rfl (any_of HT_.out (by kernel_rfl)) (fun _ _ _ h => h) (Or.inr ⟨by rfl, rfl⟩) ?_ ?_
    rotate_left
    · simp only [Act.put, List.setIfInBounds_toArray, List.set_cons_zero, List.set_cons_succ, i64_w, i32_w]
      rfl
    refine pure_ (i := 3) (N := some 12) (v := undef) (a' := ?_) #[true, true, true, true, false, false, false, false, false, false, false, false, false, false, false, false] rfl rfl (any_of HT_.out (by kernel_rfl)) (fun _ _ _ h => h) (Or.inr ⟨by rfl, rfl⟩) ?_ ?_
    rotate_left
    · simp only [Act.put, List.setIfInBounds_toArray, List.set_cons_zero, List.set_cons_succ, i64_w, i32_w]
      rfl
    refine pure_ (i := 4) (N := some 13) (v := undef) (a' := ?_) #[true, true, true, true, true, false, false, false, false, false, false, false, false, false, false, false] rfl rfl (any_of HT_.out (by kernel_rfl)) (fun _ _ _ h => h) (Or.inr ⟨by rfl, rfl⟩) ?_ ?_
    rotate_left
    · simp only [Act.put, List.setIfInBounds_toArray, List.set_cons_zero, List.set_cons_succ, i64_w, i32_w]
      rfl
    refine pure_ (i := 5) (N := some 14) (v := undef) (a' := ?_) #[true, true, true, true, true, true, false, false, false, false, false, false, false, false, false, false] rfl rfl (any_of HT_.out (by kernel_rfl)) (fun _ _ _ h => h) (Or.inr ⟨by rfl, rfl⟩) ?_ ?_
    rotate_left
    · simp only [Act.put, List.setIfInBounds_toArray, List.set_cons_zero, List.set_cons_succ, i64_w, i32_w]
      rfl
    refine pure_ (i := 6) (N := some 15) (v := undef) (a' := ?_) #[true, true, true, true, true, true, true, false, false, false, false, false, false, false, false, false] rfl rfl (any_of HT_.out (by kernel_rfl)) (fun _ _ _ h => h) (Or.inr ⟨by rfl, rfl⟩) ?_ ?_
    rotate_left
    · simp only [Act.put, List.setIfInBounds_toArray, List.set_cons_zero, List.set_cons_succ, i64_w, i32_w]
      rfl
    refine pure_ (i := 7) (N := some 16) (v := ?_) (a' := ?_) #[true, true, true, true, true, true, true, true, false, false, false, false, false, false, false, false] rfl rfl (any_of HT_.out (by kernel_rfl)) (fun _ _ _ h => h) (Or.inl ⟨by rfl, ?_⟩) ?_ ?_
    rotate_left
    · intro w'
      go_simp
      with_reducible rfl
    rotate_left
    · simp only [Act.put, List.setIfInBounds_toArray, List.set_cons_zero, List.set_cons_succ, i64_w, i32_w]
      rfl
    refine pure_ (i := 8) (N := some 17) (v := ?_) (a' := ?_) #[true, true, true, true, true, true, true, true, true, false, false, false, false, false, false, false] rfl rfl (any_of HT_.out (by kernel_rfl)) (fun _ _ _ h => h) (Or.inl ⟨by rfl, ?_⟩) ?_ ?_
    rotate_left
    · intro w'
      go_simp
      with_reducible rfl
    rotate_left
    · simp only [Act.put, List.setIfInBounds_toArray, List.set_cons_zero, List.set_cons_succ, i64_w, i32_w]
      rfl
    refine pure_ (i := 9) (N := some 18) (v := undef) (a' := ?_) #[true, true, true, true, true, true, true, true, true, true, false, false, false, false, false, false] rfl rfl (any_of HT_.out (by kernel_rfl)) (fun _ _ _ h => h) (Or.inr ⟨by rfl, rfl⟩) ?_ ?_
    rotate_left
    · simp only [Act.put, List.setIfInBounds_toArray, List.set_cons_zero, List.set_cons_succ, i64_w, i32_w]
      rfl
    refine pure_ (i := 10) (N := some 19) (v := undef) (a' := ?_) #[true, true, true, true, true, true, true, true, true, true, true, false, false, false, false, false] rfl rfl (any_of HT_.out (by kernel_rfl)) (fun _ _ _ h => h) (Or.inr ⟨by rfl, rfl⟩) ?_ ?_
    rotate_left
    · simp only [Act.put, List.setIfInBounds_toArray, List.set_cons_zero, List.set_cons_succ, i64_w, i32_w]
      rfl
    refine pure_ (i := 11) (N := some 20) (v := undef) (a' := ?_) #[true, true, true, true, true, true, true, true, true, true, true, true, false, false, false, false] rfl rfl (any_of HT_.out (by kernel_rfl)) (fun _ _ _ h => h) (Or.inr ⟨by rfl, rfl⟩) ?_ ?_
    rotate_left
    · simp only [Act.put, List.setIfInBounds_toArray, List.set_cons_zero, List.set_cons_succ, i64_w, i32_w]
      rfl
    refine pure_ (i := 12) (N := some 21) (v := undef) (a' := ?_) #[true, true, true, true, true, true, true, true, true, true, true, true, true, false, false, false] rfl rfl (any_of HT_.out (by kernel_rfl)) (fun _ _ _ h => h) (Or.inr ⟨by rfl, rfl⟩) ?_ ?_
    rotate_left
    · simp only [Act.put, List.setIfInBounds_toArray, List.set_cons_zero, List.set_cons_succ, i64_w, i32_w]
      rfl
    refine pure_ (i := 13) (N := some 22) (v := undef) (a' := ?_) #[true, true, true, true, true, true, true, true, true, true, true, true, true, true, false, false] rfl rfl (any_of HT_.out (by kernel_rfl)) (fun _ _ _ h => h) (Or.inr ⟨by rfl, rfl⟩) ?_ ?_
    rotate_left
    · simp only [Act.put, List.setIfInBounds_toArray, List.set_cons_zero, List.set_cons_succ, i64_w, i32_w]
      rfl
    refine pure_ (i := 14) (N := some 23) (v := ?_) (a' := ?_) #[true, true, true, true, true, true, true, true, true, true, true, true, true, true, true, false] rfl rfl (any_of HT_.out (by kernel_rfl)) (fun _ _ _ h => h) (Or.inl ⟨by rfl, ?_⟩) ?_ ?_
    rotate_left
    · intro w'
      go_simp
      with_reducible rfl
    rotate_left
    · simp only [Act.put, List.setIfInBounds_toArray, List.set_cons_zero, List.set_cons_succ, i64_w, i32_w]
      rfl
    refine pure_ (i := 15) (N := some 4) (v := ?_) (a' := ?_) #[true, true, true, true, true, true, true, true, true, true, true, true, true, true, true, true] rfl rfl (any_of HT_.out (by kernel_rfl)) (fun _ _ _ h => h) (Or.inl ⟨by rfl, ?_⟩) ?_ ?_
    rotate_left
    · intro w'
      go_simp
      with_reducible rfl
    rotate_left
    · simp only [Act.put, List.setIfInBounds_toArray, List.set_cons_zero, List.set_cons_succ, i64_w, i32_w]
      rfl
    refine done_ (done_of HT_.out (by kernel_rfl)) ?_
    try go_wp2
    go_ret
    exact ⟨by first | rfl | (simp [errW_none, errW_some] <;> rfl) | (simp [*, errW_none, errW_some] <;> rfl), by repeat (first | (with_reducible first | exact HB.out | apply below_alloc | apply pw_below_drewN | apply below_drew1 | refine below_set ?_ GE156.out) | exact HB.out)⟩
end Go.Proofs.YtpgjhjlhipikgaaDoor.PK
end
section
set_option linter.unusedVariables false
set_option linter.unusedSimpArgs false
namespace Go.Proofs.YtpgjhjlhipikgaaDoor.PK
open Go.RowKit Go.Proofs.YtpgjhjlhipikgaaDoorW.PrintWords Go.Proofs.YtpgjhjlhipikgaaDoorW.PrintLast Go.Proofs.YtpgjhjlhipikgaaDoorW.PrintMore
def AllSp (s : List UInt8) : Prop := ∀ c ∈ s, c = 32
theorem AllSp.at {s : List UInt8} (h : AllSp s) (i : Nat) (hi : i < s.length) : m_at s i = 32 := by
  have := h s[i] (List.getElem_mem hi)
  simp [m_at, List.getD_eq_getElem?_getD, hi, this]
def SpHead (s : List UInt8) : Prop := s = [] ∨ ∃ t, s = 32 :: t
theorem SpHead.at {s : List UInt8} (h : SpHead s) (hs : s ≠ []) : m_at s 0 = 32 := by
  rcases h with h | ⟨t, rfl⟩
  · exact absurd h hs
  · rfl
theorem AllSp.reverse {s : List UInt8} (h : AllSp s) : AllSp s.reverse := fun c hc => h c (List.mem_reverse.1 hc)
def Neat (x : List UInt8) : Prop := x.head? ≠ some 32 ∧ x.getLast? ≠ some 32 ∧ x ≠ []
def Ended (x : List UInt8) : Prop := Neat x ∧ m_ends x (x.length - 1) = true ∧ ∀ j, j + 1 < x.length → m_ends x j = false
def Open (x : List UInt8) : Prop := Neat x ∧ ∀ j, j < x.length → m_ends x j = false
inductive Parts : List UInt8 → List (List UInt8) → Prop where
  | none (s : List UInt8) (h : AllSp s) : Parts s []
  | last (sp x sq : List UInt8) (h1 : AllSp sp) (h2 : AllSp sq) (hx : Open x) : Parts (sp ++ x ++ sq) [x]
  | more (sp x rest : List UInt8) (xs : List (List UInt8)) (h1 : AllSp sp) (hr : SpHead rest) (hx : Ended x) (h : Parts rest xs) : Parts (sp ++ x ++ rest) (x :: xs)
theorem Parts.space {l : List UInt8} {xs : List (List UInt8)} (h : Parts l xs) : Parts (32 :: l) xs := by
  have hc : ∀ sp, AllSp sp → AllSp (32 :: sp) := fun sp h c hc => by
    rcases List.mem_cons.1 hc with rfl | hc
    · rfl
    · exact h c hc
  cases h with
  | none s h => exact .none _ (hc _ h)
  | last sp x sq h1 h2 hx => exact .last (32 :: sp) x sq (hc _ h1) h2 hx
  | more sp x rest xs h1 hr hx h => exact .more (32 :: sp) x rest xs (hc _ h1) hr hx h
theorem Parts.join {l : List UInt8} {xs : List (List UInt8)} (h : Parts l xs) : Parts (m_join xs) xs := by
  have hnil : AllSp [] := fun _ h => by cases h
  induction h with
  | none s h => exact .none [] hnil
  | last sp x sq h1 h2 hx =>
    have := Parts.last [] x [] hnil hnil hx
    rw [List.nil_append, List.append_nil] at this
    exact this
  | more sp x rest xs h1 hr hx h ih =>
    cases xs with
    | nil =>
      have := Parts.more [] x [] [] hnil (.inl rfl) hx (.none [] hnil)
      rw [List.nil_append, List.append_nil] at this
      exact this
    | cons y ys =>
      have := Parts.more [] x (32 :: m_join (y :: ys)) (y :: ys) hnil (.inr ⟨_, rfl⟩) hx ih.space
      rw [List.nil_append] at this
      exact this
end Go.Proofs.YtpgjhjlhipikgaaDoor.PK
end
section
set_option linter.unusedVariables false
set_option linter.unusedSimpArgs false
namespace Go.Proofs.YtpgjhjlhipikgaaDoor.PK
open Go.RowKit Go.Proofs.YtpgjhjlhipikgaaDoorW.PrintWords Go.Proofs.YtpgjhjlhipikgaaDoorW.PrintLast Go.Proofs.YtpgjhjlhipikgaaDoorW.PrintMore
theorem pu_mn (a b : Int) : mn a b = if b < a then b else a := rfl
theorem pu_cut (a0 : ByteArray) (m : Int) (hm : 0 ≤ m) : 0 ≤ mn (a0.size : Int) m ∧ mn (a0.size : Int) m ≤ (a0.size : Int) ∧ (a0.extract 0 (mn (a0.size : Int) m).toNat).size ≤ m.toNat := by
  rw [pu_mn]
  refine ⟨by split <;> omega, by split <;> omega, ?_⟩
  rw [ByteArray.size_extract]
  split <;> omega
theorem pu_w1 (n : Nat) (h : n ≤ 9000000000000000000) : wrap64 ((n : Int) + 1) = ((n + 1 : Nat) : Int) := by unfold wrap64; omega
theorem pu_bt (s : ByteArray) (n : Nat) (h : n < s.size) : bt s (n : Int) = ((m_at s.data.toList n).toNat : Int) := by
  unfold bt
  rw [dif_pos (by rw [Int.toNat_natCast]; exact h)]
  have h2 : n < s.data.toList.length := by rw [Array.length_toList]; exact h
  simp only [Int.toNat_natCast, m_at, List.getD_eq_getElem?_getD, List.getElem?_eq_getElem h2, Option.getD_some]
  rfl
theorem pu_len (s : ByteArray) : s.data.toList.length = s.size := Array.length_toList
theorem pu_toList (s : ByteArray) : s.toList = s.data.toList := ByteArray.toList_eq ..
theorem Parts.len {l : List UInt8} {xs : List (List UInt8)} (h : Parts l xs) : (∀ x ∈ xs, x.length ≤ l.length) ∧ xs.length ≤ l.length := by
  induction h with
  | none s h => simp
  | last sp x sq h1 h2 hx =>
    have hn : 0 < x.length := List.length_pos_iff.2 hx.1.2.2
    exact ⟨by simp; omega, by simp; omega⟩
  | more sp x rest xs h1 hr hx h ih =>
    have hn : 0 < x.length := List.length_pos_iff.2 hx.1.2.2
    refine ⟨?_, by simp; omega⟩
    intro y hy
    rcases List.mem_cons.1 hy with rfl | hy
    · simp; omega
    · have := ih.1 y hy; simp; omega
end Go.Proofs.YtpgjhjlhipikgaaDoor.PK
end
section
set_option linter.unusedVariables false
set_option linter.unusedSimpArgs false
namespace Go.Proofs.YtpgjhjlhipikgaaDoor.Pure
open Go.RowKit Go.Proofs.YtpgjhjlhipikgaaDoor.PK Go.Proofs.YtpgjhjlhipikgaaDoorW.PrintWords Go.Proofs.YtpgjhjlhipikgaaDoorW.PrintLast
theorem pl_rdB (l : List Bl) (j : Nat) (h : j < l.length) : rd_T26 l (j : Int) = l[j] := by
  simp [rd_T26, List.getD_eq_getElem?_getD, h]
def m_cut (b : Bl) : Bl := ⟨b.f0, b.f1, b.f2.extract 0 (mn (b.f2.size : Int) 1000).toNat, b.f3, b.f4, ⟨b.f5.f0, b.f5.f1, b.f5.f2, b.f5.f3⟩⟩
def m_short (l : List Bl) : List Bl := (l.take 30).map m_cut
theorem pl_shortGo (l : List Bl) (hl : l.length ≤ 9223372036854775807) : ∀ (d k j : Nat), j + d = 30 → d < k → j ≤ l.length →
    copydesklaw03_short.l0 k l ((l.take j).map m_cut) (j : Int) = some (m_short l)
  | 0, k, j, hj, hk, hjl => by
    obtain ⟨k, rfl⟩ : ∃ i, k = i + 1 := ⟨k - 1, by omega⟩
    have e : j = 30 := by omega
    subst e
    rw [copydesklaw03_short.l0, if_neg (show ¬ ((30 : Nat) : Int) < 30 by omega)]
    split <;> rfl
  | d + 1, k, j, hj, hk, hjl => by
    obtain ⟨k, rfl⟩ : ∃ i, k = i + 1 := ⟨k - 1, by omega⟩
    rw [copydesklaw03_short.l0]
    by_cases hlt : j < l.length
    · obtain ⟨h1, h2, h3⟩ := pu_cut l[j].f2 1000 (by omega)
      have e : (l.take j).map m_cut ++ [m_cut l[j]] = (l.take (j + 1)).map m_cut := by rw [List.take_succ_eq_append_getElem hlt, List.map_append]; rfl
      have hc : ((l.take j).map m_cut).length < 1466015503701 := by rw [List.length_map, List.length_take]; omega
      rw [if_pos (by omega), if_pos (by omega), if_pos (by omega), pl_rdB l j hlt, if_pos h1, if_pos h2, if_pos hc, pu_w1 j (by omega)]
      show copydesklaw03_short.l0 k l ((l.take j).map m_cut ++ [m_cut l[j]]) _ = _
      rw [e]
      exact pl_shortGo l hl d k (j + 1) (by omega) (by omega) hlt
    · have e : j = l.length := by omega
      rw [if_neg (by omega), e, List.take_of_length_le (Nat.le_refl _)]
      unfold m_short
      rw [List.take_of_length_le (by omega)]
theorem pl_short (l : List Bl) (hl : l.length ≤ 9223372036854775807) (k : Nat) (hk : 40 < k) : copydesklaw03_short.f k l = some (m_short l) := pl_shortGo l hl 30 k 0 (by omega) (by omega) (Nat.zero_le _)
theorem m_short_text (l : List Bl) : ∀ b ∈ m_short l, b.f2.size ≤ 1000 := by
  intro b hb
  obtain ⟨c, _, rfl⟩ := List.mem_map.1 hb
  exact (pu_cut c.f2 1000 (by omega)).2.2
theorem pl_w (n : Nat) (h : n + 1 ≤ 9223372036854775807) : wrap64 ((n : Int) + 1) = ((n + 1 : Nat) : Int) := by unfold wrap64; omega
theorem pl_atGet (s : ByteArray) (j : Nat) (hl : j < s.data.toList.length) : m_at s.data.toList j = s.data.toList[j] := by rw [m_at, List.getD_eq_getElem?_getD, List.getElem?_eq_getElem hl]; rfl
theorem pl_rText (s : ByteArray) (hs : s.size ≤ 9223372036854775807) : ∀ (d k j : Nat), j + d = s.size → d < k →
    copydeskref03_IsText.l0 k s (j : Int) = some (decide (s.size ≤ 300) && (s.data.toList.drop j).all (fun c => decide (32 ≤ c.toNat) && decide (c.toNat ≤ 126)))
  | 0, k, j, hj, hk => by
    obtain ⟨k, rfl⟩ : ∃ i, k = i + 1 := ⟨k - 1, by omega⟩
    rw [copydeskref03_IsText.l0, if_neg (by omega), List.drop_eq_nil_of_le (by rw [pu_len]; omega)]
    simp only [List.all_nil, Bool.and_true]
    exact congrArg some (decide_eq_decide.2 (by omega))
  | d + 1, k, j, hj, hk => by
    obtain ⟨k, rfl⟩ : ∃ i, k = i + 1 := ⟨k - 1, by omega⟩
    have hl : j < s.data.toList.length := by rw [pu_len]; omega
    rw [copydeskref03_IsText.l0, if_pos (by omega), if_pos (by omega), pu_bt s j (by omega), pl_w j (by omega), pl_rText s hs d k (j + 1) (by omega) (by omega), List.drop_eq_getElem_cons hl, ← pl_atGet s j hl, List.all_cons]
    by_cases h1 : ((m_at s.data.toList j).toNat : Int) < 32
    · rw [if_pos h1, show decide (32 ≤ (m_at s.data.toList j).toNat) = false by simp; omega]; simp
    · rw [if_neg h1, show decide (32 ≤ (m_at s.data.toList j).toNat) = true by simp; omega]
      by_cases h2 : ((m_at s.data.toList j).toNat : Int) > 126
      · rw [if_pos h2, show decide ((m_at s.data.toList j).toNat ≤ 126) = false by simp; omega]; simp
      · rw [if_neg h2, show decide ((m_at s.data.toList j).toNat ≤ 126) = true by simp; omega]; simp
def pl_nm (c : UInt8) : Bool := (decide (97 ≤ c.toNat) && decide (c.toNat ≤ 122)) || (decide (48 ≤ c.toNat) && decide (c.toNat ≤ 57)) || c.toNat == 45
theorem pl_rNameStep (n : Nat) (A : Option Bool) : (if (n : Int) ≥ 97 then (if (n : Int) ≤ 122 then A else (if (n : Int) ≥ 48 then (if (n : Int) ≤ 57 then A else (if (n : Int) = 45 then A else some false)) else (if (n : Int) = 45 then A else some false))) else (if (n : Int) ≥ 48 then (if (n : Int) ≤ 57 then A else (if (n : Int) = 45 then A else some false)) else (if (n : Int) = 45 then A else some false)))
    = if ((decide (97 ≤ n) && decide (n ≤ 122)) || (decide (48 ≤ n) && decide (n ≤ 57)) || n == 45) = true then A else some false := by
  simp only [Bool.or_eq_true, Bool.and_eq_true, decide_eq_true_eq, beq_iff_eq]
  repeat' split
  all_goals first | rfl | (exfalso; omega)
theorem pl_rName (s : ByteArray) (hs : s.size ≤ 9223372036854775807) : ∀ (d k j : Nat), j + d = s.size → d < k →
    copydeskref03_IsName.l0 k s (j : Int) = some (decide (1 ≤ s.size) && decide (s.size ≤ 20) && (s.data.toList.drop j).all pl_nm)
  | 0, k, j, hj, hk => by
    obtain ⟨k, rfl⟩ : ∃ i, k = i + 1 := ⟨k - 1, by omega⟩
    rw [copydeskref03_IsName.l0, if_neg (by omega), List.drop_eq_nil_of_le (by rw [pu_len]; omega)]
    simp only [List.all_nil, Bool.and_true]
    by_cases h : (s.size : Int) ≥ 1
    · rw [if_pos h, show decide (1 ≤ s.size) = true by simp; omega, Bool.true_and]
      exact congrArg some (decide_eq_decide.2 (by omega))
    · rw [if_neg h, show decide (1 ≤ s.size) = false from decide_eq_false (by omega), Bool.false_and]
  | d + 1, k, j, hj, hk => by
    obtain ⟨k, rfl⟩ : ∃ i, k = i + 1 := ⟨k - 1, by omega⟩
    have hl : j < s.data.toList.length := by rw [pu_len]; omega
    rw [copydeskref03_IsName.l0, if_pos (by omega), if_pos (by omega), pu_bt s j (by omega), pl_w j (by omega), pl_rName s hs d k (j + 1) (by omega) (by omega), List.drop_eq_getElem_cons hl, ← pl_atGet s j hl, List.all_cons, pl_rNameStep]
    show (if pl_nm (m_at s.data.toList j) = true then _ else _) = _
    cases h : pl_nm (m_at s.data.toList j) with
    | true => rw [if_pos rfl, Bool.true_and]
    | false => rw [if_neg (by simp), Bool.false_and, Bool.and_false]
def pl_asc (p : Int) : List Int → Bool
  | [] => true
  | x :: l => decide (p < x) && decide (x ≤ 64) && pl_asc x l
theorem pl_ascHead : ∀ (x : Int) (l : List Int), m_asc (x :: l) = true → ∀ z ∈ l, x < z
  | _, [], _, z, hz => by cases hz
  | x, y :: l, h, z, hz => by
    rw [m_asc, Bool.and_eq_true, decide_eq_true_eq] at h
    rcases List.mem_cons.1 hz with rfl | hz
    · exact h.1
    · have := pl_ascHead y l h.2 z hz; omega
theorem pl_ascIff : ∀ (l : List Int) (p : Int), pl_asc p l = true ↔ (∀ x ∈ l, p < x ∧ x ≤ 64) ∧ m_asc l = true
  | [], p => by simp [pl_asc, m_asc]
  | x :: l, p => by
    rw [pl_asc, Bool.and_eq_true, Bool.and_eq_true, decide_eq_true_eq, decide_eq_true_eq, pl_ascIff l x]
    constructor
    · rintro ⟨⟨h1, h2⟩, h3, h4⟩
      refine ⟨fun z hz => ?_, ?_⟩
      · rcases List.mem_cons.1 hz with rfl | hz
        · exact ⟨h1, h2⟩
        · have := h3 z hz; omega
      · cases l with
        | nil => rfl
        | cons y l => rw [m_asc, Bool.and_eq_true, decide_eq_true_eq]; exact ⟨(h3 y (by simp)).1, h4⟩
    · rintro ⟨h1, h2⟩
      refine ⟨h1 x (by simp), fun z hz => ⟨pl_ascHead x l h2 z hz, (h1 z (by simp [hz])).2⟩, ?_⟩
      cases l with
      | nil => rfl
      | cons y l => rw [m_asc, Bool.and_eq_true] at h2; exact h2.2
theorem pl_rd (l : List Int) (x : Nat) (h : x < l.length) : rd l (x : Int) = l[x] := by
  simp [rd, List.getD_eq_getElem?_getD, h]
theorem pl_rAsc (l : List Int) (u a d : Int) : ∀ (k j : Nat) (p : Int), (j : Int) ≤ p → p ≤ 64 → j ≤ l.length → (64 - p).toNat + 1 < k →
    copydeskref02_Valid.l0 k p (j : Int) u l a d = some (pl_asc p (l.drop j))
  | 0, _, _, _, _, _, hk => by omega
  | k + 1, j, p, h1, h2, hj, hk => by
    rw [copydeskref02_Valid.l0]
    by_cases hlt : j < l.length
    · rw [if_pos (by omega), if_pos (by omega), pl_rd l j hlt, pl_w j (by omega), List.drop_eq_getElem_cons hlt, pl_asc]
      by_cases c1 : l[j] ≤ p
      · rw [if_pos c1, show decide (p < l[j]) = false by simp; omega]; rfl
      · rw [if_neg c1, show decide (p < l[j]) = true by simp; omega]
        by_cases c2 : l[j] > 64
        · rw [if_pos c2, show decide (l[j] ≤ 64) = false by simp; omega]; rfl
        · rw [if_neg c2, show decide (l[j] ≤ 64) = true by simp; omega, pl_rAsc l u a d k (j + 1) l[j] (by omega) (by omega) (by omega) (by omega)]; rfl
    · rw [if_neg (by omega), List.drop_eq_nil_of_le (by omega)]; rfl
theorem pl_rLabel (u : Int) (l : List Int) (a d : Int) (k : Nat) (hk : 70 ≤ k) : copydeskref02_Valid.f k u l a d = some (m_label u l a d) := by
  have hasc : (l.all (fun x => decide (1 ≤ x) && decide (x ≤ 64)) && m_asc l) = pl_asc 0 l := by
    rw [Bool.eq_iff_iff, pl_ascIff]
    simp only [Bool.and_eq_true, List.all_eq_true, decide_eq_true_eq]
    constructor
    · rintro ⟨h1, h2⟩; exact ⟨fun x hx => by have := h1 x hx; omega, h2⟩
    · rintro ⟨h1, h2⟩; exact ⟨fun x hx => by have := h1 x hx; omega, h2⟩
  obtain ⟨k, rfl⟩ : ∃ i, k = i + 1 := ⟨k - 1, by omega⟩
  have hl := pl_rAsc l u a d k 0 0 (Int.le_refl 0) (by omega) (Nat.zero_le _) (by omega)
  have hbad : copydeskref02_Valid.j0 (k + 1) true u l a d = some false := by rw [copydeskref02_Valid.j0, if_pos rfl]
  have hgo : copydeskref02_Valid.j0 (k + 1) false u l a d = some (pl_asc 0 l) := by rw [copydeskref02_Valid.j0, if_neg (by simp)]; exact hl
  unfold copydeskref02_Valid.f m_label
  rw [hbad]
  by_cases c1 : u < 0
  · rw [if_pos c1, show decide (0 ≤ u) = false by simp; omega]; simp
  rw [if_neg c1, show decide (0 ≤ u) = true by simp; omega]
  by_cases c2 : u > 1000000000
  · rw [if_pos c2, show decide (u ≤ 1000000000) = false by simp; omega]; simp
  rw [if_neg c2, show decide (u ≤ 1000000000) = true by simp; omega]
  by_cases c3 : a < 0
  · rw [if_pos c3, show decide (0 ≤ a) = false by simp; omega]; simp
  rw [if_neg c3, show decide (0 ≤ a) = true by simp; omega]
  by_cases c4 : a > 5
  · rw [if_pos c4, show decide (a ≤ 5) = false by simp; omega]; simp
  rw [if_neg c4, show decide (a ≤ 5) = true by simp; omega]
  by_cases c5 : d < 0
  · rw [if_pos c5, show decide (0 ≤ d) = false by simp; omega]; simp
  rw [if_neg c5, show decide (0 ≤ d) = true by simp; omega]
  by_cases c6 : d > 15
  · rw [show decide (d > 15) = true by simpa using c6, hbad, show decide (d ≤ 15) = false by simp; omega]; simp
  rw [show decide (d > 15) = false by simpa using c6, hgo, show decide (d ≤ 15) = true by simp; omega, Bool.true_and, Bool.true_and, hasc]; simp
theorem pl_toNil (s : ByteArray) : s.toList = ([] : List UInt8) ↔ s.size = 0 := by rw [pu_toList, ← pu_len]; exact List.length_eq_zero_iff.symm
theorem pl_rTail (k : Nat) (i kind : Int) (t : ByteArray) (s r u : Int) (l : List Int) (a d : Int) (ht : t.size ≤ 9223372036854775807) (hk : t.size + 5 ≤ k) :
    copydeskref03_Valid.j0 k false i kind t s r u l a d = some (if kind = 1 ∨ kind = 2 ∨ kind = 4 then decide (t.size ≠ 0) && decide (s = 0) && decide (r = 0)
     else if kind = 5 then m_name t && decide (s = 0) && decide (r = 0)
     else if kind = 3 then decide (1 ≤ s) && decide (s ≤ 64) && decide (1 ≤ r) && decide (r ≤ 1000)
     else false) := by
  obtain ⟨k, rfl⟩ : ∃ i, k = i + 2 := ⟨k - 2, by omega⟩
  have hn : copydeskref03_IsName.f k t = some (m_name t) := pl_rName t ht t.size k 0 (by omega) (by omega)
  have h1 : copydeskref03_Valid.j1 (k + 1) kind true i kind t s r u l a d = some (decide (t.size ≠ 0) && decide (s = 0) && decide (r = 0)) := by
    rw [copydeskref03_Valid.j1, if_pos rfl]
    by_cases c : t.toList = ([] : List UInt8)
    · rw [if_pos c, show decide (t.size ≠ 0) = false by simp [(pl_toNil t).1 c]]; rfl
    · rw [if_neg c, show decide (t.size ≠ 0) = true from decide_eq_true (fun h => c ((pl_toNil t).2 h))]
      by_cases c2 : s = 0
      · rw [if_pos c2, show decide (s = 0) = true by simpa using c2]; rfl
      · rw [if_neg c2, show decide (s = 0) = false by simpa using c2]; rfl
  rw [copydeskref03_Valid.j0, if_neg (by simp)]
  by_cases k1 : kind = 1
  · rw [if_pos k1, if_pos (.inl k1), show (kind == 1) = true by simpa using k1, h1]
  rw [if_neg k1]
  by_cases k2 : kind = 2
  · rw [if_pos k2, if_pos (.inr (.inl k2)), show (kind == 2) = true by simpa using k2, h1]
  rw [if_neg k2]
  by_cases k4 : kind = 4
  · rw [if_pos (.inr (.inr k4)), show (kind == 4) = true by simpa using k4, h1]
  rw [show (kind == 4) = false by simpa using k4, if_neg (by omega), copydeskref03_Valid.j1, if_neg (by simp)]
  by_cases k5 : kind = 5
  · rw [if_pos k5, if_pos k5, hn, Option.bind_some]
    cases m_name t with
    | false => rfl
    | true =>
      rw [if_pos rfl]
      by_cases c2 : s = 0
      · rw [if_pos c2, show decide (s = 0) = true by simpa using c2]; rfl
      · rw [if_neg c2, show decide (s = 0) = false by simpa using c2]; rfl
  rw [if_neg k5, if_neg k5]
  by_cases k3 : kind = 3
  · rw [if_pos k3, if_pos k3]
    by_cases c1 : s ≥ 1
    · rw [if_pos c1, show decide (1 ≤ s) = true by simpa using c1]
      by_cases c2 : s ≤ 64
      · rw [if_pos c2, show decide (s ≤ 64) = true by simpa using c2]
        by_cases c3 : r ≥ 1
        · rw [if_pos c3, show decide (1 ≤ r) = true by simpa using c3]; rfl
        · rw [if_neg c3, show decide (1 ≤ r) = false by simpa using c3]; rfl
      · rw [if_neg c2, show decide (s ≤ 64) = false by simpa using c2]; rfl
    · rw [if_neg c1, show decide (1 ≤ s) = false by simpa using c1]; rfl
  · rw [if_neg k3, if_neg k3]
theorem pl_rValid (k : Nat) (i kind : Int) (t : ByteArray) (s r u : Int) (l : List Int) (a d : Int) (ht : t.size ≤ 9223372036854775807) (hk : t.size + 70 ≤ k) :
    copydeskref03_Valid.f k i kind t s r u l a d = some (m_valid i kind t s r u l a d) := by
  have hx : copydeskref03_IsText.f k t = some (m_text t) := pl_rText t ht t.size k 0 (by omega) (by omega)
  have hbad : copydeskref03_Valid.j0 k true i kind t s r u l a d = some false := by
    obtain ⟨k, rfl⟩ : ∃ i, k = i + 1 := ⟨k - 1, by omega⟩
    rw [copydeskref03_Valid.j0, if_pos rfl]
  unfold copydeskref03_Valid.f m_valid
  rw [hx, pl_rLabel u l a d k (by omega), Option.bind_some, Option.bind_some, hbad]
  by_cases c1 : i < 1
  · rw [if_pos c1, show decide (1 ≤ i) = false by simp; omega]; simp
  rw [if_neg c1, show decide (1 ≤ i) = true by simp; omega]
  by_cases c2 : i > 1000
  · rw [if_pos c2, show decide (i ≤ 1000) = false by simp; omega]; simp
  rw [if_neg c2, show decide (i ≤ 1000) = true by simp; omega]
  cases m_text t with
  | false => rw [if_neg (by simp)]; simp
  | true =>
    rw [if_pos rfl]
    cases m_label u l a d with
    | false => rw [show (!false) = true from rfl, hbad]; simp
    | true => rw [show (!true) = false from rfl, pl_rTail k i kind t s r u l a d ht (by omega)]; simp only [Bool.true_and, Bool.and_true]
def pl_ids (l : List Bl) (i : Nat) : List Int := ((l.take i).map (·.f0)).reverse
theorem pl_idsC (l : List Bl) (i : Nat) (v : Int) : (pl_ids l i).contains v = (l.take i).any (fun b => b.f0 == v) := by
  rw [Bool.eq_iff_iff, List.contains_iff_mem, List.any_eq_true]
  simp only [pl_ids, List.mem_reverse, List.mem_map, beq_iff_eq]
theorem pl_idsS (l : List Bl) (i : Nat) (h : i < l.length) : pl_ids l (i + 1) = l[i].f0 :: pl_ids l i := by
  rw [pl_ids, List.take_succ_eq_append_getElem h, List.map_append, List.reverse_append]; rfl
theorem pl_rInner (l : List Bl) (n : Nat) (hn : l.length ≤ 24) (i : Nat) (hi : i < l.length) (R : Bool) (H : ∀ k, n ≤ k → copydeskref03_ValidList.l0 k l ((i + 1 : Nat) : Int) = some R) : ∀ (d k j : Nat), j + d = i → n + d + 1 ≤ k →
    copydeskref03_ValidList.l1 k l (i : Int) (j : Int) = some (!((l.take i).drop j).any (fun b => b.f0 == l[i].f0) && R)
  | 0, k, j, hj, hk => by
    obtain ⟨k, rfl⟩ : ∃ i, k = i + 1 := ⟨k - 1, by omega⟩
    rw [copydeskref03_ValidList.l1, if_neg (by omega), pl_w i (by omega), H k (by omega), List.drop_eq_nil_of_le (by rw [List.length_take]; omega)]; rfl
  | d + 1, k, j, hj, hk => by
    obtain ⟨k, rfl⟩ : ∃ i, k = i + 1 := ⟨k - 1, by omega⟩
    have hjl : j < (l.take i).length := by rw [List.length_take]; omega
    have hg : (l.take i)[j] = l[j] := by rw [List.getElem_take]
    rw [copydeskref03_ValidList.l1, if_pos (by omega), if_pos (by omega), if_pos (by omega), if_pos (by omega), if_pos (by omega), pl_rdB l j (by omega), pl_rdB l i hi, pl_w j (by omega),
      pl_rInner l n hn i hi R H d k (j + 1) (by omega) (by omega), List.drop_eq_getElem_cons hjl, List.any_cons, hg]
    by_cases c : l[j].f0 = l[i].f0
    · rw [if_pos c, show (l[j].f0 == l[i].f0) = true by simpa using c]; rfl
    · rw [if_neg c, show (l[j].f0 == l[i].f0) = false by simpa using c, Bool.false_or]
theorem pl_rList (l : List Bl) (M : Nat) (hn : l.length ≤ 24) (hM : M ≤ 9223372036854775807) (ht : ∀ b ∈ l, b.f2.size ≤ M) : ∀ (d i k : Nat), i + d = l.length → M + 71 + d * 30 ≤ k →
    copydeskref03_ValidList.l0 k l (i : Int) = some (m_fresh (pl_ids l i) (l.drop i))
  | 0, i, k, hi, hk => by
    obtain ⟨k, rfl⟩ : ∃ i, k = i + 1 := ⟨k - 1, by omega⟩
    rw [copydeskref03_ValidList.l0, if_neg (by omega), List.drop_eq_nil_of_le (by omega)]; rfl
  | d + 1, i, k, hi, hk => by
    obtain ⟨k, rfl⟩ : ∃ i, k = i + 1 := ⟨k - 1, by omega⟩
    have hlt : i < l.length := by omega
    have hb := ht l[i] (List.getElem_mem hlt)
    have H : ∀ k, M + 71 + d * 30 ≤ k → copydeskref03_ValidList.l0 k l ((i + 1 : Nat) : Int) = some (m_fresh (pl_ids l (i + 1)) (l.drop (i + 1))) := fun k hk => pl_rList l M hn hM ht d (i + 1) k (by omega) hk
    rw [copydeskref03_ValidList.l0, if_pos (by omega), if_pos (by omega), pl_rdB l i hlt, pl_rValid k _ _ _ _ _ _ _ _ _ (by omega) (by omega), Option.bind_some, List.drop_eq_getElem_cons hlt, m_fresh, pl_idsC, ← pl_idsS l i hlt]
    show (if m_validB l[i] = true then _ else _) = _
    cases m_validB l[i] with
    | false => rw [if_neg (by simp)]; simp
    | true => exact (if_pos rfl).trans ((pl_rInner l (M + 71 + d * 30) hn i hlt _ H i k 0 (by omega) (by omega)).trans (by rw [List.drop_zero, Bool.and_true]))
theorem pl_rValidL (l : List Bl) (M : Nat) (hM : M ≤ 9223372036854775807) (ht : ∀ b ∈ l, b.f2.size ≤ M) (k : Nat) (hk : M + 1000 ≤ k) : copydeskref03_ValidList.f k l = some (m_validL l) := by
  unfold copydeskref03_ValidList.f m_validL
  by_cases c : (l.length : Int) > 24
  · rw [if_pos c, show decide (l.length ≤ 24) = false by simp; omega]; rfl
  · rw [if_neg c, show decide (l.length ≤ 24) = true by simp; omega]
    exact pl_rList l M (by omega) hM ht l.length 0 k (by omega) (by omega)
theorem BlockValidMatchesReference (b : Bl) (hb : b.f2.size ≤ 9223372036854775807) (l1 : List Bl) (h1 : l1.length ≤ 9223372036854775807) :
    ∃ k, copydesklaw03_BlockValidMatchesReference.f k b.f0 b.f1 b.f2 b.f3 b.f4 b.f5.f0 b.f5.f1 b.f5.f2 b.f5.f3 l1 = some true := by
  refine ⟨b.f2.size + 3000, ?_⟩
  have eV : block_Valid.f b.f0 b.f1 b.f2 b.f3 b.f4 b.f5.f0 b.f5.f1 b.f5.f2 b.f5.f3 = some (m_validB b) := rfl
  have eL : block_ValidList.f (m_short l1) = some (m_validL (m_short l1)) := rfl
  have eR : copydeskref03_Valid.f (b.f2.size + 3000) b.f0 b.f1 b.f2 b.f3 b.f4 b.f5.f0 b.f5.f1 b.f5.f2 b.f5.f3 = some (m_validB b) := pl_rValid _ _ _ _ _ _ _ _ _ _ hb (by omega)
  unfold copydesklaw03_BlockValidMatchesReference.f copydesklaw03_sane.f
  rw [Option.bind_some, pl_short l1 h1 (b.f2.size + 3000) (by omega), Option.bind_some, if_pos rfl, eV, eR, Option.bind_some, Option.bind_some, if_pos (by simp), eL, pl_rValidL (m_short l1) 1000 (by omega) (m_short_text l1) _ (by omega)]
  simp
end Go.Proofs.YtpgjhjlhipikgaaDoor.Pure
end
section
set_option linter.unusedVariables false
set_option linter.unusedSimpArgs false
namespace Go.Proofs.YtpgjhjlhipikgaaDoor.PK
open Go.RowKit Go.Proofs.YtpgjhjlhipikgaaDoorW.PrintWords Go.Proofs.YtpgjhjlhipikgaaDoorW.PrintLast Go.Proofs.YtpgjhjlhipikgaaDoorW.PrintMore Go.ChangeShapes Go.WideShapes Go.ChangeAt
section
variable {H : Type} {enc : TypeId × Value → H} {W : World} {base : Nat} {spare : Nat → Bool} {held : Bool}
theorem op_c3 : Tryd.prog.cellsOf 3 = 1 := by kernel_rfl
theorem op_c9 : Tryd.prog.cellsOf 9 = 1 := by kernel_rfl
theorem op_c22 : Tryd.prog.cellsOf 22 = 1 := by kernel_rfl
theorem op_c24 : Tryd.prog.cellsOf 24 = 4 := by kernel_rfl
theorem op_c26 : Tryd.prog.cellsOf 26 = 9 := by kernel_rfl
theorem op_ints {fuel : Nat} {v : Value} {x : DataW H × List MemPlace} (h : DataW.trod enc Tryd.prog W base spare held fuel 22 [v] = some x) :
    ∃ (A : Option Addr) (l : List Int) (c : Nat), v = .slice A l.length c ∧ l.length ≤ c ∧ Kd.C (Kd.int .i64) W A l.length l := by
  rcases open_ints Tryd.underlying22 Tryd.underlying3 op_c3 h with ⟨hcs, _⟩ | ⟨a, len, cap, zs, hcs, _, hl, hm, hz, _, hcell, _⟩
  · have hv : v = .slice none 0 0 := by simpa using hcs
    exact ⟨none, [], 0, hv, Nat.le_refl _, rfl, by simp, fun h => absurd h (by simp)⟩
  · have hv : v = .slice (some a) len cap := by simpa using hcs
    have hlz : len ≤ zs.length := by rw [hz]; split <;> omega
    have hlen : (zs.take len).length = len := by rw [List.length_take]; omega
    have hmx : len ≤ 9223372036854775807 := by unfold maxLen at hm; omega
    refine ⟨some a, zs.take len, cap, by rw [hlen]; exact hv, by rw [hlen]; exact hl, rfl, by rw [hlen]; exact hmx, fun _ => ⟨a, rfl, fun j p hp => ⟨[.int .i64 p], rfl, rfl, fun i u hu => ?_⟩⟩⟩
    have hi : i = 0 := by
      have := (List.getElem?_eq_some_iff.1 hu).1
      simp at this; exact this
    subst hi
    have hu' : u = .int .i64 p := (Option.some.inj hu).symm
    subst hu'
    have hj := (List.getElem?_eq_some_iff.1 hp).1
    rw [hlen] at hj
    have hc := hcell j (by omega)
    rw [List.getElem?_take_of_lt hj] at hp
    rw [List.getD_eq_getElem?_getD, hp] at hc
    show W.cell? (a.add (j * 1 + 0)) = _
    rw [Nat.mul_one, Nat.add_zero]
    exact hc
theorem op_six {α : Type} (xs : List α) (h : xs.length = 6) : ∃ a b c d e f, xs = [a, b, c, d, e, f] := by
  match xs, h with
  | [a, b, c, d, e, f], _ => exact ⟨a, b, c, d, e, f, rfl⟩
theorem op_four {α : Type} (xs : List α) (h : xs.length = 4) : ∃ a b c d, xs = [a, b, c, d] := by
  match xs, h with
  | [a, b, c, d], _ => exact ⟨a, b, c, d, rfl⟩
theorem op_nine {α : Type} (xs : List α) (h : xs.length = 9) : ∃ a b c d e f g i j, xs = [a, b, c, d, e, f, g, i, j] := by
  match xs, h with
  | [a, b, c, d, e, f, g, i, j], _ => exact ⟨a, b, c, d, e, f, g, i, j, rfl⟩
theorem op_block {fuel : Nat} {cs : List Value} {x : DataW H × List MemPlace} (h : DataW.trod enc Tryd.prog W base spare held fuel 26 cs = some x) :
    ∃ (b : S26) (A : Option Addr) (c : Nat), cs = [.int .i64 b.f0, .int .i64 b.f1, .string b.f2, .int .i64 b.f3, .int .i64 b.f4, .int .i64 b.f5.f0, .slice A b.f5.f1.length c, .int .i64 b.f5.f2, .int .i64 b.f5.f3] ∧
      b.f5.f1.length ≤ c ∧ Kd.C (Kd.int .i64) W A b.f5.f1.length b.f5.f1 := by
  obtain ⟨xs, n, _, _, hlen, hxl, hel⟩ := DataW.trod_struct Tryd.underlying26 h
  rw [op_c26] at hlen
  obtain ⟨c0, c1, c2, c3, c4, c5, c6, c7, c8, rfl⟩ := op_nine cs hlen
  obtain ⟨y0, y1, y2, y3, y4, y5, rfl⟩ := op_six xs hxl
  have e0 : DataW.trod enc Tryd.prog W base spare held n 3 (([c0, c1, c2, c3, c4, c5, c6, c7, c8].drop 0).take (Tryd.prog.cellsOf 3)) = some y0 := hel 0 _ rfl
  have e1 : DataW.trod enc Tryd.prog W base spare held n 3 (([c0, c1, c2, c3, c4, c5, c6, c7, c8].drop 1).take (Tryd.prog.cellsOf 3)) = some y1 := hel 1 _ rfl
  have e2 : DataW.trod enc Tryd.prog W base spare held n 9 (([c0, c1, c2, c3, c4, c5, c6, c7, c8].drop 2).take (Tryd.prog.cellsOf 9)) = some y2 := hel 2 _ rfl
  have e3 : DataW.trod enc Tryd.prog W base spare held n 3 (([c0, c1, c2, c3, c4, c5, c6, c7, c8].drop 3).take (Tryd.prog.cellsOf 3)) = some y3 := hel 3 _ rfl
  have e4 : DataW.trod enc Tryd.prog W base spare held n 3 (([c0, c1, c2, c3, c4, c5, c6, c7, c8].drop 4).take (Tryd.prog.cellsOf 3)) = some y4 := hel 4 _ rfl
  have e5 : DataW.trod enc Tryd.prog W base spare held n 24 (([c0, c1, c2, c3, c4, c5, c6, c7, c8].drop 5).take (Tryd.prog.cellsOf 24)) = some y5 := hel 5 _ rfl
  rw [op_c3] at e0 e1 e3 e4
  rw [op_c9] at e2
  rw [op_c24] at e5
  obtain ⟨n0, g0, _, _⟩ := DataW.trod_int Tryd.underlying3 (show DataW.trod enc Tryd.prog W base spare held n 3 [c0] = some y0 from e0)
  obtain ⟨n1, g1, _, _⟩ := DataW.trod_int Tryd.underlying3 (show DataW.trod enc Tryd.prog W base spare held n 3 [c1] = some y1 from e1)
  obtain ⟨s2, g2, _, _⟩ := DataW.trod_string Tryd.underlying9 (show DataW.trod enc Tryd.prog W base spare held n 9 [c2] = some y2 from e2)
  obtain ⟨n3, g3, _, _⟩ := DataW.trod_int Tryd.underlying3 (show DataW.trod enc Tryd.prog W base spare held n 3 [c3] = some y3 from e3)
  obtain ⟨n4, g4, _, _⟩ := DataW.trod_int Tryd.underlying3 (show DataW.trod enc Tryd.prog W base spare held n 3 [c4] = some y4 from e4)
  obtain ⟨zs, m, _, _, _, hzl, hez⟩ := DataW.trod_struct Tryd.underlying24 (show DataW.trod enc Tryd.prog W base spare held n 24 [c5, c6, c7, c8] = some y5 from e5)
  obtain ⟨z0, z1, z2, z3, rfl⟩ := op_four zs hzl
  have f0 : DataW.trod enc Tryd.prog W base spare held m 3 (([c5, c6, c7, c8].drop 0).take (Tryd.prog.cellsOf 3)) = some z0 := hez 0 _ rfl
  have f1 : DataW.trod enc Tryd.prog W base spare held m 22 (([c5, c6, c7, c8].drop 1).take (Tryd.prog.cellsOf 22)) = some z1 := hez 1 _ rfl
  have f2 : DataW.trod enc Tryd.prog W base spare held m 3 (([c5, c6, c7, c8].drop 2).take (Tryd.prog.cellsOf 3)) = some z2 := hez 2 _ rfl
  have f3 : DataW.trod enc Tryd.prog W base spare held m 3 (([c5, c6, c7, c8].drop 3).take (Tryd.prog.cellsOf 3)) = some z3 := hez 3 _ rfl
  rw [op_c3] at f0 f2 f3
  rw [op_c22] at f1
  obtain ⟨n5, g5, _, _⟩ := DataW.trod_int Tryd.underlying3 (show DataW.trod enc Tryd.prog W base spare held m 3 [c5] = some z0 from f0)
  obtain ⟨A, l, c, g6, hl, hC⟩ := op_ints (show DataW.trod enc Tryd.prog W base spare held m 22 [c6] = some z1 from f1)
  obtain ⟨n7, g7, _, _⟩ := DataW.trod_int Tryd.underlying3 (show DataW.trod enc Tryd.prog W base spare held m 3 [c7] = some z2 from f2)
  obtain ⟨n8, g8, _, _⟩ := DataW.trod_int Tryd.underlying3 (show DataW.trod enc Tryd.prog W base spare held m 3 [c8] = some z3 from f3)
  refine ⟨⟨n0, n1, s2, n3, n4, ⟨n5, l, n7, n8⟩⟩, A, c, ?_, hl, hC⟩
  rw [List.cons.inj g0 |>.1, List.cons.inj g1 |>.1, List.cons.inj g2 |>.1, List.cons.inj g3 |>.1, List.cons.inj g4 |>.1, List.cons.inj g5 |>.1, g6, List.cons.inj g7 |>.1, List.cons.inj g8 |>.1]
theorem op_choose {α : Type} (P : Nat → α → Prop) : ∀ n, (∀ i, i < n → ∃ b, P i b) → ∃ bs : List α, bs.length = n ∧ ∀ i b, bs[i]? = some b → P i b
  | 0, _ => ⟨[], rfl, by simp⟩
  | n + 1, h => by
    obtain ⟨bs, h1, h2⟩ := op_choose P n (fun i hi => h i (by omega))
    obtain ⟨b, hb⟩ := h n (by omega)
    refine ⟨bs ++ [b], by simp [h1], fun i c hc => ?_⟩
    by_cases hi : i < n
    · rw [List.getElem?_append_left (by omega)] at hc
      exact h2 i c hc
    · have hl := (List.getElem?_eq_some_iff.1 hc).1
      simp [h1] at hl
      have : i = n := by omega
      subst this
      rw [List.getElem?_append_right (by omega), h1, Nat.sub_self] at hc
      have : b = c := by simpa using hc
      subst this
      exact hb
theorem op_blocks {a : Option Addr} {len cap : Nat} {d : DataW H} {ps : List MemPlace} (h : DataW.Trod enc Tryd.prog W base spare held 27 (.slice a len cap) d ps) :
    ∃ bs : List (S26), len = bs.length ∧ bs.length ≤ cap ∧ Kd.C k26 W a bs.length bs := by
  obtain ⟨fuel, hf⟩ := h
  have hf' : DataW.trod enc Tryd.prog W base spare held fuel 27 [.slice a len cap] = some (d, ps) := hf
  rcases DataW.trod_slice Tryd.underlying27 hf' with ⟨hcs, _⟩ | ⟨ad, len', cap', elems, rest, n, _, hcs, _, _, hl, hm, hel, hx, _, _⟩
  · have hv : (.slice a len cap : Value) = .slice none 0 0 := by simpa using hcs
    injection hv with h1 h2 h3
    subst h1; subst h2; subst h3
    exact ⟨[], rfl, Nat.le_refl _, rfl, by simp, fun h => absurd h (by simp)⟩
  · have hv : (.slice a len cap : Value) = .slice (some ad) len' cap' := by simpa using hcs
    injection hv with h1 h2 h3
    subst h1; subst h2; subst h3
    obtain ⟨bs, hbl, hb⟩ := op_choose (fun i (b : S26) => ∃ (A : Option Addr) (c : Nat), b.f5.f1.length ≤ c ∧ Kd.C (Kd.int .i64) W A b.f5.f1.length b.f5.f1 ∧ ∀ j u, ([.int .i64 b.f0, .int .i64 b.f1, .string b.f2, .int .i64 b.f3, .int .i64 b.f4, .int .i64 b.f5.f0, .slice A b.f5.f1.length c, .int .i64 b.f5.f2, .int .i64 b.f5.f3] : List Value)[j]? = some u → W.cell? (ad.add (i * 9 + j)) = some u) len (fun i hi => by
      have hxi := hx i hi
      rw [List.getElem?_eq_getElem (by omega)] at hxi
      obtain ⟨cs, hcs, ht⟩ := Option.bind_eq_some_iff.1 hxi
      rw [op_c26] at hcs
      obtain ⟨_, h9, hcell⟩ := World.cells?_some hcs
      obtain ⟨b, A, c, rfl, h6, hC⟩ := op_block ht
      refine ⟨b, A, c, h6, hC, fun j u hu => ?_⟩
      have hj := (List.getElem?_eq_some_iff.1 hu).1
      have := hcell j (by simpa using hj)
      rw [Addr.add_add, hu] at this
      exact this)
    subst hbl
    refine ⟨bs, rfl, hl, rfl, by unfold maxLen at hm; omega, fun _ => ⟨ad, rfl, fun j p hp => ?_⟩⟩
    obtain ⟨A, c, h6, hC, hc⟩ := hb j p hp
    exact ⟨_, rfl, k26_mk W p h6 hC, fun i u hu => hc i u hu⟩
end
end Go.Proofs.YtpgjhjlhipikgaaDoor.PK
end
section
set_option linter.unusedVariables false
set_option linter.unusedSimpArgs false
namespace Go.Proofs.YtpgjhjlhipikgaaDoor.PK
open Go.RowKit Go.Proofs.YtpgjhjlhipikgaaDoorW.PrintWords Go.Proofs.YtpgjhjlhipikgaaDoorW.PrintLast Go.Proofs.YtpgjhjlhipikgaaDoorW.PrintMore Go.ChangeShapes Go.WideShapes Go.ChangeAt
section
variable {H : Type} {enc : TypeId × Value → H} {W : World} {base : Nat} {spare : Nat → Bool} {held : Bool}
theorem op_blockv {cs : Array Value} {d : DataW H} {ps : List MemPlace} (h : DataW.Trod enc Tryd.prog W base spare held 26 (.agg cs) d ps) :
    ∃ (b : S26) (A : Option Addr) (c : Nat), cs = #[.int .i64 b.f0, .int .i64 b.f1, .string b.f2, .int .i64 b.f3, .int .i64 b.f4, .int .i64 b.f5.f0, .slice A b.f5.f1.length c, .int .i64 b.f5.f2, .int .i64 b.f5.f3] ∧
      b.f5.f1.length ≤ c ∧ Kd.C (Kd.int .i64) W A b.f5.f1.length b.f5.f1 ∧ b.f2.size ≤ 9223372036854775807 := by
  obtain ⟨fuel, hf⟩ := h
  have hf' : DataW.trod enc Tryd.prog W base spare held fuel 26 cs.toList = some (d, ps) := hf
  obtain ⟨b, A, c, e, hl, hC⟩ := op_block hf'
  refine ⟨b, A, c, by rw [← Array.toArray_toList (xs := cs), e], hl, hC, ?_⟩
  rw [e] at hf'
  obtain ⟨xs, n, _, _, hlen, hxl, hel⟩ := DataW.trod_struct Tryd.underlying26 hf'
  obtain ⟨y0, y1, y2, y3, y4, y5, rfl⟩ := op_six xs hxl
  have e2 : DataW.trod enc Tryd.prog W base spare held n 9 ((([.int .i64 b.f0, .int .i64 b.f1, .string b.f2, .int .i64 b.f3, .int .i64 b.f4, .int .i64 b.f5.f0, .slice A b.f5.f1.length c, .int .i64 b.f5.f2, .int .i64 b.f5.f3] : List Value).drop 2).take (Tryd.prog.cellsOf 9)) = some y2 := hel 2 _ rfl
  rw [op_c9] at e2
  obtain ⟨s2, g2, _, hs⟩ := DataW.trod_string Tryd.underlying9 (show DataW.trod enc Tryd.prog W base spare held n 9 [.string b.f2] = some y2 from e2)
  have : b.f2 = s2 := by simpa using g2
  rw [this]
  exact hs
end
end Go.Proofs.YtpgjhjlhipikgaaDoor.PK
end
