/- Texts of this claim, one behind the other. -/
import Derived.Test.YtpgjhjlhipikgaaDoorMAx5
import Derived.Maps.OwnIn
import Derived.WalkKit
import Derived.RangeFuncNested
import Derived.RangeFuncLeaves
import Derived.OwnWalkIn
import Derived.TacticsInMore
import Derived.LoopNIn
import Derived.LoopIn
import Derived.Laws.EntriesVeiled
import Derived.Deep.Cut
import Derived.Deep.RegionWith
section
namespace Go.Proofs.YtpgjhjlhipikgaaDoor.PK
open Go.RowKit Go.Proofs.YtpgjhjlhipikgaaDoorW.PrintWords Go.Proofs.YtpgjhjlhipikgaaDoorW.PrintLast Go.Proofs.YtpgjhjlhipikgaaDoorW.PrintMore
attribute [local go_sem] max2_int min2_int max_two min_two max_three min_three max_four min_four   -- for this text's walks alone
set_option linter.unusedVariables false
set_option linter.unusedSimpArgs false

/-! ### label_Valid: function 42 -/
def label_Valid.f (k : Nat) (a0_0 : Int) (l0_1 : List Int) (a0_2 : Int) (a0_3 : Int) : Option (Bool) := (label_within.f k 0 1000000000 (([a0_0] : List Int))).bind fun t112 => (if t112 = true then ((label_within.f k 1 64 l0_1).bind fun t113 => (if t113 = true then ((label_ascending_int.f k l0_1).bind fun t114 => (if t114 = true then ((label_within.f k 0 5 (([a0_2] : List Int))).bind fun t118 => (if t118 = true then ((label_within.f k 0 15 (([a0_3] : List Int))).bind fun t122 => (some t122)) else (some false))) else (some false))) else (some false))) else (some false))
theorem label_Valid.mono : ∀ a0 a1 a2 a3 k, LeO (label_Valid.f k a0 a1 a2 a3) (label_Valid.f (k + 1) a0 a1 a2 a3) := by
  intro a0 a1 a2 a3 k
  unfold label_Valid.f
  repeat' first
      | (with_reducible exact label_ascending_int.mono _ _)
      | (with_reducible exact label_within.mono _ _ _ _)
      | (with_reducible exact LeO.refl _)
      | (with_reducible exact LeO.none _)
      | (with_reducible refine LeO.ite ?_ ?_)
      | (with_reducible refine LeO.bind ?_ (fun _ => ?_))
      | exact label_ascending_int.mono _ _
      | exact label_within.mono _ _ _ _
      | exact LeO.none _
      | refine LeO.ite ?_ ?_
      | refine LeO.bind ?_ (fun _ => ?_)
set_option maxHeartbeats 8000000 in
set_option maxRecDepth 100000 in
theorem label_Valid.calls (k : Nat) (a0_0 : Int) (A0_1 : Option Addr) (c0_1 : Nat) (l0_1 : List Int) (a0_2 : Int) (a0_3 : Int) (r : Bool) (w : World) (hr0_1 : Kd.C (Kd.int .i64) w A0_1 l0_1.length l0_1) (hc0_1 : l0_1.length ≤ c0_1) (h : label_Valid.f k a0_0 l0_1 a0_2 a0_3 = some r) :
    Calls Tryd.prog 42 #[.agg #[.int .i64 a0_0, .slice A0_1 l0_1.length c0_1, .int .i64 a0_2, .int .i64 a0_3]] w fun e w' => e = .returned (.bool r) ∧ Below w.heap.size w w' := by
  have hu24 := Tryd.underlying24
  have HR0_1 := Aside0.mk hr0_1
  have HC0_1 := Aside0.mk hc0_1
  clear hr0_1 hc0_1
  have HB := Aside0.mk (Below.refl w.heap.size w)
  have H : ((label_within.f k 0 1000000000 (([a0_0] : List Int))).bind fun t112 => (if t112 = true then ((label_within.f k 1 64 l0_1).bind fun t113 => (if t113 = true then ((label_ascending_int.f k l0_1).bind fun t114 => (if t114 = true then ((label_within.f k 0 5 (([a0_2] : List Int))).bind fun t118 => (if t118 = true then ((label_within.f k 0 15 (([a0_3] : List Int))).bind fun t122 => (some t122)) else (some false))) else (some false))) else (some false))) else (some false))) = some r := h
  clear h
  obtain ⟨y109, hy109⟩ : ∃ y_ : List Int, y_ = (([a0_0] : List Int)) := ⟨_, rfl⟩
  replace H : ((label_within.f k 0 1000000000 y109).bind fun t112 => (if t112 = true then ((label_within.f k 1 64 l0_1).bind fun t113 => (if t113 = true then ((label_ascending_int.f k l0_1).bind fun t114 => (if t114 = true then ((label_within.f k 0 5 (([a0_2] : List Int))).bind fun t118 => (if t118 = true then ((label_within.f k 0 15 (([a0_3] : List Int))).bind fun t122 => (some t122)) else (some false))) else (some false))) else (some false))) else (some false))) = some r := by first | (rw [hy109]; with_reducible exact H) | (have H2_ := (Option.bind_some _ _).symm.trans H; rw [hy109]; with_reducible exact H2_) | (have H2_ := (Option.bind_some _ _).symm.trans H; with_reducible exact H2_) | with_reducible exact H | (rw [hy109]; exact H) | exact H
  have Ny109 := Aside0.mk hy109
  clear hy109
  replace H := Option.bind_eq_some_iff.mp H
  obtain ⟨t112, A20, H⟩ := H
  replace H : (if t112 = true then ((label_within.f k 1 64 l0_1).bind fun t113 => (if t113 = true then ((label_ascending_int.f k l0_1).bind fun t114 => (if t114 = true then ((label_within.f k 0 5 (([a0_2] : List Int))).bind fun t118 => (if t118 = true then ((label_within.f k 0 15 (([a0_3] : List Int))).bind fun t122 => (some t122)) else (some false))) else (some false))) else (some false))) else (some false)) = some r := H
  have A2 := Aside0.mk A20
  clear A20
  by_cases c3 : t112 = true
  · subst c3
    have H1 : ((label_within.f k 1 64 l0_1).bind fun t113 => (if t113 = true then ((label_ascending_int.f k l0_1).bind fun t114 => (if t114 = true then ((label_within.f k 0 5 (([a0_2] : List Int))).bind fun t118 => (if t118 = true then ((label_within.f k 0 15 (([a0_3] : List Int))).bind fun t122 => (some t122)) else (some false))) else (some false))) else (some false))) = some r := by rw [if_pos rfl] at H; exact H
    clear H
    have H := H1
    clear H1
    replace H := Option.bind_eq_some_iff.mp H
    obtain ⟨t113, A40, H⟩ := H
    replace H : (if t113 = true then ((label_ascending_int.f k l0_1).bind fun t114 => (if t114 = true then ((label_within.f k 0 5 (([a0_2] : List Int))).bind fun t118 => (if t118 = true then ((label_within.f k 0 15 (([a0_3] : List Int))).bind fun t122 => (some t122)) else (some false))) else (some false))) else (some false)) = some r := H
    have A4 := Aside0.mk A40
    clear A40
    by_cases c5 : t113 = true
    · subst c5
      have H1 : ((label_ascending_int.f k l0_1).bind fun t114 => (if t114 = true then ((label_within.f k 0 5 (([a0_2] : List Int))).bind fun t118 => (if t118 = true then ((label_within.f k 0 15 (([a0_3] : List Int))).bind fun t122 => (some t122)) else (some false))) else (some false))) = some r := by rw [if_pos rfl] at H; exact H
      clear H
      have H := H1
      clear H1
      replace H := Option.bind_eq_some_iff.mp H
      obtain ⟨t114, A60, H⟩ := H
      replace H : (if t114 = true then ((label_within.f k 0 5 (([a0_2] : List Int))).bind fun t118 => (if t118 = true then ((label_within.f k 0 15 (([a0_3] : List Int))).bind fun t122 => (some t122)) else (some false))) else (some false)) = some r := H
      have A6 := Aside0.mk A60
      clear A60
      by_cases c7 : t114 = true
      · subst c7
        have H1 : ((label_within.f k 0 5 (([a0_2] : List Int))).bind fun t118 => (if t118 = true then ((label_within.f k 0 15 (([a0_3] : List Int))).bind fun t122 => (some t122)) else (some false))) = some r := by rw [if_pos rfl] at H; exact H
        clear H
        have H := H1
        clear H1
        obtain ⟨y115, hy115⟩ : ∃ y_ : List Int, y_ = (([a0_2] : List Int)) := ⟨_, rfl⟩
        replace H : ((label_within.f k 0 5 y115).bind fun t118 => (if t118 = true then ((label_within.f k 0 15 (([a0_3] : List Int))).bind fun t122 => (some t122)) else (some false))) = some r := by first | (rw [hy115]; with_reducible exact H) | (have H2_ := (Option.bind_some _ _).symm.trans H; rw [hy115]; with_reducible exact H2_) | (have H2_ := (Option.bind_some _ _).symm.trans H; with_reducible exact H2_) | with_reducible exact H | (rw [hy115]; exact H) | exact H
        have Ny115 := Aside0.mk hy115
        clear hy115
        replace H := Option.bind_eq_some_iff.mp H
        obtain ⟨t118, A80, H⟩ := H
        replace H : (if t118 = true then ((label_within.f k 0 15 (([a0_3] : List Int))).bind fun t122 => (some t122)) else (some false)) = some r := H
        have A8 := Aside0.mk A80
        clear A80
        by_cases c9 : t118 = true
        · subst c9
          have H1 : ((label_within.f k 0 15 (([a0_3] : List Int))).bind fun t122 => (some t122)) = some r := by rw [if_pos rfl] at H; exact H
          clear H
          have H := H1
          clear H1
          obtain ⟨y119, hy119⟩ : ∃ y_ : List Int, y_ = (([a0_3] : List Int)) := ⟨_, rfl⟩
          replace H : ((label_within.f k 0 15 y119).bind fun t122 => (some t122)) = some r := by first | (rw [hy119]; with_reducible exact H) | (have H2_ := (Option.bind_some _ _).symm.trans H; rw [hy119]; with_reducible exact H2_) | (have H2_ := (Option.bind_some _ _).symm.trans H; with_reducible exact H2_) | with_reducible exact H | (rw [hy119]; exact H) | exact H
          have Ny119 := Aside0.mk hy119
          clear hy119
          replace H := Option.bind_eq_some_iff.mp H
          obtain ⟨t122, A100, H⟩ := H
          replace H : (some t122) = some r := H
          have A10 := Aside0.mk A100
          clear A100
          obtain rfl := Option.some.inj H
          go_enter Tryd.func42, Tryd.ntmps42
          go_wp2_with (first | ((with_reducible refine gate_dst (N := 1) rfl ?_); (try (refine gate_guard (by rfl) ?_; dsimp only)); refine box_event ?hg (N := 1) ?hd (cs := #[.int .i64 a0_0, .slice A0_1 l0_1.length c0_1, .int .i64 a0_2, .int .i64 a0_3]) (t := 24) ?hr ?_; (case hd => rfl); (case hg => rfl); (case hr => first | (go_simp; done) | (go_simp; rfl)); intro gb108 hg w11 hbox hb; have n0_ := Aside0.mk (below_step (by repeat (first | (with_reducible first | exact HB.out | apply below_alloc | apply pw_below_drewN | apply below_drew1) | exact HB.out)) hb); have n1_ := Aside0.mk (hbox); have n2_ := Aside0.mk ((by rw [hg]; exact (below_size (by repeat (first | (with_reducible first | exact HB.out | apply below_alloc | apply pw_below_drewN | apply below_drew1) | exact HB.out))) : w.heap.size ≤ gb108)); have n3_ := Aside0.mk ((by rw [hg]; exact (below_size (by repeat (first | (with_reducible first | exact HB.out | apply below_alloc | apply pw_below_drewN | apply below_drew1) | exact HB.out))) : w.heap.size ≤ gb108)); clear HB; have HB := n0_; have BK108 := n1_; have GW108 := n2_; have GE108 := n3_; clear n0_ n1_ n2_ n3_; clear hb hbox hg; have hcz12_0 : w11.cell? ⟨gb108, 0, none⟩ = some (.int .i64 a0_0) := (blk_cell BK108.out 0).trans rfl; have hcz12_1 : w11.cell? ⟨gb108, 1, none⟩ = some (.slice A0_1 l0_1.length c0_1) := (blk_cell BK108.out 1).trans rfl; have hcz12_2 : w11.cell? ⟨gb108, 2, none⟩ = some (.int .i64 a0_2) := (blk_cell BK108.out 2).trans rfl; have hcz12_3 : w11.cell? ⟨gb108, 3, none⟩ = some (.int .i64 a0_3) := (blk_cell BK108.out 3).trans rfl; have hfz12_0 := blk_frozen BK108.out 0; have hfz12_1 := blk_frozen BK108.out 1; have hfz12_2 := blk_frozen BK108.out 2; have hfz12_3 := blk_frozen BK108.out 3) | ((with_reducible refine gate_dst (N := 5) rfl ?_); (try (refine gate_guard (by rfl) ?_; dsimp only)); refine Kd.R_lit (Kd.int .i64) _ 3 ?hg (N := 5) ?hd (xs := ([a0_0] : List Int)) (inner := [.int .i64 a0_0]) (ok := fun _ => True) (okp := fun _ => True) ?hr ?hp (fun _ hk => hk) trivial (Below.refl _ _) (Nat.le_refl _) (by simp) ?_; (case hd => rfl); (case hg => rfl); (case hr => first | (go_simp; done) | (go_simp; rfl)); (case hp => exact (Reps.one (show Kd.M (Kd.int .i64) _ _ _ a0_0 [.int .i64 a0_0] from rfl) (Reps.none _ _))); intro v110 w13 ho14 hb hg_ hnew_; clear hg_ hnew_; (first | rw [← Ny109.out] at ho14 | (simp only [Int.reduceToNat] at ho14; rw [← Ny109.out] at ho14)); have n0_ := Aside0.mk (Kd.R_lower ho14 (below_size (by repeat (first | (with_reducible first | exact HB.out | apply below_alloc | apply pw_below_drewN | apply below_drew1 | refine below_set ?_ GE108.out) | exact HB.out)))); have n1_ := Aside0.mk (blk_below (g := gb108) (o := .cells #[.int .i64 a0_0, .slice A0_1 l0_1.length c0_1, .int .i64 a0_2, .int .i64 a0_3] 24 (0, 0)) (by (with_reducible repeat (first | refine blk_drewN ?_ _ | refine blk_drew ?_ | refine blk_alloc ?_ _)); exact BK108.out) hb); have n2_ := Aside0.mk (below_step (by repeat (first | (with_reducible first | exact HB.out | apply below_alloc | apply pw_below_drewN | apply below_drew1 | refine below_set ?_ GE108.out) | exact HB.out)) hb); clear BK108; clear HB; have HO111 := n0_; have BK108 := n1_; have HB := n2_; clear n0_ n1_ n2_; clear hb ho14; obtain ⟨Ao15, co15, eo15⟩ := Kd.R_slice HO111.out; subst eo15) | ((with_reducible refine gate_callee (f := 70) rfl ?_); refine goesL_ (some 6) rfl rfl Tryd.func70 (by kernel_rfl) rfl #[.int .i64 0, .int .i64 1000000000, .slice Ao15 y109.length co15] rfl (by (try simp only [List.map_toArray, List.map_cons, List.map_nil]); first | done | rfl | (simp only [List.length_drop, List.length_take]; rfl)) ?_; (with_reducible refine (label_within.calls k 0 1000000000 _ _ y109 true _ ?side1 ?side2 A2.out).mono ?_); (case side1 => repeat (first | exact (Kd.R_reads' HO111.out).2.2 | (with_reducible refine Kd.C_alloc ?_ _) | (with_reducible refine Kd.C_drewN ?_ _) | (with_reducible refine Kd.C_drew ?_))); (case side2 => exact (Kd.R_reads' HO111.out).2.1); rintro e w' ⟨rfl, ⟨nd, rfl⟩⟩; refine ⟨_, rfl, ?_⟩; have hcz16_0 : w13.cell? ⟨gb108, 0, none⟩ = some (.int .i64 a0_0) := (blk_cell BK108.out 0).trans rfl; have hcz16_1 : w13.cell? ⟨gb108, 1, none⟩ = some (.slice A0_1 l0_1.length c0_1) := (blk_cell BK108.out 1).trans rfl; have hcz16_2 : w13.cell? ⟨gb108, 2, none⟩ = some (.int .i64 a0_2) := (blk_cell BK108.out 2).trans rfl; have hcz16_3 : w13.cell? ⟨gb108, 3, none⟩ = some (.int .i64 a0_3) := (blk_cell BK108.out 3).trans rfl; have hfz16_0 := blk_frozen BK108.out 0; have hfz16_1 := blk_frozen BK108.out 1; have hfz16_2 := blk_frozen BK108.out 2; have hfz16_3 := blk_frozen BK108.out 3) | (go_at_call 70; (with_reducible refine (label_within.calls k 1 64 _ _ l0_1 true _ ?side1 ?side2 A4.out).mono ?_); (case side1 => repeat (first | exact (Kd.C_below HR0_1.out (by repeat (first | (with_reducible first | exact HB.out | apply below_alloc | apply pw_below_drewN | apply below_drew1 | refine below_set ?_ GE108.out) | exact HB.out))) | (with_reducible refine Kd.C_alloc ?_ _) | (with_reducible refine Kd.C_drewN ?_ _) | (with_reducible refine Kd.C_drew ?_))); (case side2 => exact HC0_1.out); rintro e w' ⟨rfl, ⟨nd, rfl⟩⟩) | (go_at_call 71; (with_reducible refine (label_ascending_int.calls k _ _ l0_1 true _ ?side1 ?side2 A6.out).mono ?_); (case side1 => repeat (first | exact (Kd.C_below HR0_1.out (by repeat (first | (with_reducible first | exact HB.out | apply below_alloc | apply pw_below_drewN | apply below_drew1 | refine below_set ?_ GE108.out) | exact HB.out))) | (with_reducible refine Kd.C_alloc ?_ _) | (with_reducible refine Kd.C_drewN ?_ _) | (with_reducible refine Kd.C_drew ?_))); (case side2 => exact HC0_1.out); rintro e w' ⟨rfl, ⟨nd, rfl⟩⟩) | ((with_reducible refine gate_dst (N := 20) rfl ?_); (try (refine gate_guard (by rfl) ?_; dsimp only)); refine Kd.R_lit (Kd.int .i64) _ 3 ?hg (N := 20) ?hd (xs := ([a0_2] : List Int)) (inner := [.int .i64 a0_2]) (ok := fun _ => True) (okp := fun _ => True) ?hr ?hp (fun _ hk => hk) trivial (Below.refl _ _) (Nat.le_refl _) (by simp) ?_; (case hd => rfl); (case hg => rfl); (case hr => first | (go_simp; done) | (go_simp; rfl)); (case hp => exact (Reps.one (show Kd.M (Kd.int .i64) _ _ _ a0_2 [.int .i64 a0_2] from rfl) (Reps.none _ _))); intro v116 w17 ho18 hb hg_ hnew_; clear hg_ hnew_; (first | rw [← Ny115.out] at ho18 | (simp only [Int.reduceToNat] at ho18; rw [← Ny115.out] at ho18)); have n0_ := Aside0.mk (Kd.R_elder' (by (with_reducible repeat (first | apply Kd.R_alloc | apply Kd.R_drewN | apply Kd.R_drew)); exact HO111.out) (Kd.R_base ho18) hb); have n1_ := Aside0.mk (Kd.R_lower (Kd.R_new' ho18 (Kd.R_lt (by (with_reducible repeat (first | apply Kd.R_alloc | apply Kd.R_drewN | apply Kd.R_drew)); exact HO111.out))) (below_size (by repeat (first | (with_reducible first | exact HB.out | apply below_alloc | apply pw_below_drewN | apply below_drew1 | refine below_set ?_ GE108.out) | exact HB.out)))); have n2_ := Aside0.mk (blk_below (g := gb108) (o := .cells #[.int .i64 a0_0, .slice A0_1 l0_1.length c0_1, .int .i64 a0_2, .int .i64 a0_3] 24 (0, 0)) (by (with_reducible repeat (first | refine blk_drewN ?_ _ | refine blk_drew ?_ | refine blk_alloc ?_ _)); exact BK108.out) hb); have n3_ := Aside0.mk (below_step (by repeat (first | (with_reducible first | exact HB.out | apply below_alloc | apply pw_below_drewN | apply below_drew1 | refine below_set ?_ GE108.out) | exact HB.out)) hb); clear HO111; clear BK108; clear HB; have HO111 := n0_; have HO117 := n1_; have BK108 := n2_; have HB := n3_; clear n0_ n1_ n2_ n3_; clear hb ho18; obtain ⟨Ao19, co19, eo19⟩ := Kd.R_slice HO117.out; subst eo19) | (go_at_call 70; (with_reducible refine (label_within.calls k 0 5 _ _ y115 true _ ?side1 ?side2 A8.out).mono ?_); (case side1 => repeat (first | exact (Kd.R_reads' HO117.out).2.2 | (with_reducible refine Kd.C_alloc ?_ _) | (with_reducible refine Kd.C_drewN ?_ _) | (with_reducible refine Kd.C_drew ?_))); (case side2 => exact (Kd.R_reads' HO117.out).2.1); rintro e w' ⟨rfl, ⟨nd, rfl⟩⟩; have hcz20_0 : w17.cell? ⟨gb108, 0, none⟩ = some (.int .i64 a0_0) := (blk_cell BK108.out 0).trans rfl; have hcz20_1 : w17.cell? ⟨gb108, 1, none⟩ = some (.slice A0_1 l0_1.length c0_1) := (blk_cell BK108.out 1).trans rfl; have hcz20_2 : w17.cell? ⟨gb108, 2, none⟩ = some (.int .i64 a0_2) := (blk_cell BK108.out 2).trans rfl; have hcz20_3 : w17.cell? ⟨gb108, 3, none⟩ = some (.int .i64 a0_3) := (blk_cell BK108.out 3).trans rfl; have hfz20_0 := blk_frozen BK108.out 0; have hfz20_1 := blk_frozen BK108.out 1; have hfz20_2 := blk_frozen BK108.out 2; have hfz20_3 := blk_frozen BK108.out 3) | ((with_reducible refine gate_dst (N := 26) rfl ?_); (try (refine gate_guard (by rfl) ?_; dsimp only)); refine Kd.R_lit (Kd.int .i64) _ 3 ?hg (N := 26) ?hd (xs := ([a0_3] : List Int)) (inner := [.int .i64 a0_3]) (ok := fun _ => True) (okp := fun _ => True) ?hr ?hp (fun _ hk => hk) trivial (Below.refl _ _) (Nat.le_refl _) (by simp) ?_; (case hd => rfl); (case hg => rfl); (case hr => first | (go_simp; done) | (go_simp; rfl)); (case hp => exact (Reps.one (show Kd.M (Kd.int .i64) _ _ _ a0_3 [.int .i64 a0_3] from rfl) (Reps.none _ _))); intro v120 w21 ho22 hb hg_ hnew_; clear hg_ hnew_; (first | rw [← Ny119.out] at ho22 | (simp only [Int.reduceToNat] at ho22; rw [← Ny119.out] at ho22)); have n0_ := Aside0.mk (Kd.R_elder' (by (with_reducible repeat (first | apply Kd.R_alloc | apply Kd.R_drewN | apply Kd.R_drew)); exact HO111.out) (Kd.R_base ho22) hb); have n1_ := Aside0.mk (Kd.R_elder' (by (with_reducible repeat (first | apply Kd.R_alloc | apply Kd.R_drewN | apply Kd.R_drew)); exact HO117.out) (Kd.R_base ho22) hb); have n2_ := Aside0.mk (Kd.R_lower (Kd.R_new' (Kd.R_new' ho22 (Kd.R_lt (by (with_reducible repeat (first | apply Kd.R_alloc | apply Kd.R_drewN | apply Kd.R_drew)); exact HO111.out))) (Kd.R_lt (by (with_reducible repeat (first | apply Kd.R_alloc | apply Kd.R_drewN | apply Kd.R_drew)); exact HO117.out))) (below_size (by repeat (first | (with_reducible first | exact HB.out | apply below_alloc | apply pw_below_drewN | apply below_drew1 | refine below_set ?_ GE108.out) | exact HB.out)))); have n3_ := Aside0.mk (blk_below (g := gb108) (o := .cells #[.int .i64 a0_0, .slice A0_1 l0_1.length c0_1, .int .i64 a0_2, .int .i64 a0_3] 24 (0, 0)) (by (with_reducible repeat (first | refine blk_drewN ?_ _ | refine blk_drew ?_ | refine blk_alloc ?_ _)); exact BK108.out) hb); have n4_ := Aside0.mk (below_step (by repeat (first | (with_reducible first | exact HB.out | apply below_alloc | apply pw_below_drewN | apply below_drew1 | refine below_set ?_ GE108.out) | exact HB.out)) hb); clear HO111; clear HO117; clear BK108; clear HB; have HO111 := n0_; have HO117 := n1_; have HO121 := n2_; have BK108 := n3_; have HB := n4_; clear n0_ n1_ n2_ n3_ n4_; clear hb ho22; obtain ⟨Ao23, co23, eo23⟩ := Kd.R_slice HO121.out; subst eo23) | (go_at_call 70; (with_reducible refine (label_within.calls k 0 15 _ _ y119 t122 _ ?side1 ?side2 A10.out).mono ?_); (case side1 => repeat (first | exact (Kd.R_reads' HO121.out).2.2 | (with_reducible refine Kd.C_alloc ?_ _) | (with_reducible refine Kd.C_drewN ?_ _) | (with_reducible refine Kd.C_drew ?_))); (case side2 => exact (Kd.R_reads' HO121.out).2.1); rintro e w' ⟨rfl, ⟨nd, rfl⟩⟩))
          go_ret
          exact ⟨by first | rfl | (simp [errW_none, errW_some] <;> rfl) | (simp [*, errW_none, errW_some] <;> rfl), by repeat (first | (with_reducible first | exact HB.out | apply below_alloc | apply pw_below_drewN | apply below_drew1 | refine below_set ?_ GE108.out) | exact HB.out)⟩
        · replace c9 := Bool.eq_false_iff.mpr c9
          subst c9
          have H1 : (some false) = some r := by rw [if_neg (show ¬ (false = true) by decide)] at H; exact H
          clear H
          have H := H1
          clear H1
          obtain rfl := Option.some.inj H
          go_enter Tryd.func42, Tryd.ntmps42
          go_wp2_with (first | ((with_reducible refine gate_dst (N := 1) rfl ?_); (try (refine gate_guard (by rfl) ?_; dsimp only)); refine box_event ?hg (N := 1) ?hd (cs := #[.int .i64 a0_0, .slice A0_1 l0_1.length c0_1, .int .i64 a0_2, .int .i64 a0_3]) (t := 24) ?hr ?_; (case hd => rfl); (case hg => rfl); (case hr => first | (go_simp; done) | (go_simp; rfl)); intro gb108 hg w24 hbox hb; have n0_ := Aside0.mk (below_step (by repeat (first | (with_reducible first | exact HB.out | apply below_alloc | apply pw_below_drewN | apply below_drew1) | exact HB.out)) hb); have n1_ := Aside0.mk (hbox); have n2_ := Aside0.mk ((by rw [hg]; exact (below_size (by repeat (first | (with_reducible first | exact HB.out | apply below_alloc | apply pw_below_drewN | apply below_drew1) | exact HB.out))) : w.heap.size ≤ gb108)); have n3_ := Aside0.mk ((by rw [hg]; exact (below_size (by repeat (first | (with_reducible first | exact HB.out | apply below_alloc | apply pw_below_drewN | apply below_drew1) | exact HB.out))) : w.heap.size ≤ gb108)); clear HB; have HB := n0_; have BK108 := n1_; have GW108 := n2_; have GE108 := n3_; clear n0_ n1_ n2_ n3_; clear hb hbox hg; have hcz25_0 : w24.cell? ⟨gb108, 0, none⟩ = some (.int .i64 a0_0) := (blk_cell BK108.out 0).trans rfl; have hcz25_1 : w24.cell? ⟨gb108, 1, none⟩ = some (.slice A0_1 l0_1.length c0_1) := (blk_cell BK108.out 1).trans rfl; have hcz25_2 : w24.cell? ⟨gb108, 2, none⟩ = some (.int .i64 a0_2) := (blk_cell BK108.out 2).trans rfl; have hcz25_3 : w24.cell? ⟨gb108, 3, none⟩ = some (.int .i64 a0_3) := (blk_cell BK108.out 3).trans rfl; have hfz25_0 := blk_frozen BK108.out 0; have hfz25_1 := blk_frozen BK108.out 1; have hfz25_2 := blk_frozen BK108.out 2; have hfz25_3 := blk_frozen BK108.out 3) | ((with_reducible refine gate_dst (N := 5) rfl ?_); (try (refine gate_guard (by rfl) ?_; dsimp only)); refine Kd.R_lit (Kd.int .i64) _ 3 ?hg (N := 5) ?hd (xs := ([a0_0] : List Int)) (inner := [.int .i64 a0_0]) (ok := fun _ => True) (okp := fun _ => True) ?hr ?hp (fun _ hk => hk) trivial (Below.refl _ _) (Nat.le_refl _) (by simp) ?_; (case hd => rfl); (case hg => rfl); (case hr => first | (go_simp; done) | (go_simp; rfl)); (case hp => exact (Reps.one (show Kd.M (Kd.int .i64) _ _ _ a0_0 [.int .i64 a0_0] from rfl) (Reps.none _ _))); intro v110 w26 ho27 hb hg_ hnew_; clear hg_ hnew_; (first | rw [← Ny109.out] at ho27 | (simp only [Int.reduceToNat] at ho27; rw [← Ny109.out] at ho27)); have n0_ := Aside0.mk (Kd.R_lower ho27 (below_size (by repeat (first | (with_reducible first | exact HB.out | apply below_alloc | apply pw_below_drewN | apply below_drew1 | refine below_set ?_ GE108.out) | exact HB.out)))); have n1_ := Aside0.mk (blk_below (g := gb108) (o := .cells #[.int .i64 a0_0, .slice A0_1 l0_1.length c0_1, .int .i64 a0_2, .int .i64 a0_3] 24 (0, 0)) (by (with_reducible repeat (first | refine blk_drewN ?_ _ | refine blk_drew ?_ | refine blk_alloc ?_ _)); exact BK108.out) hb); have n2_ := Aside0.mk (below_step (by repeat (first | (with_reducible first | exact HB.out | apply below_alloc | apply pw_below_drewN | apply below_drew1 | refine below_set ?_ GE108.out) | exact HB.out)) hb); clear BK108; clear HB; have HO111 := n0_; have BK108 := n1_; have HB := n2_; clear n0_ n1_ n2_; clear hb ho27; obtain ⟨Ao28, co28, eo28⟩ := Kd.R_slice HO111.out; subst eo28) | ((with_reducible refine gate_callee (f := 70) rfl ?_); refine goesL_ (some 6) rfl rfl Tryd.func70 (by kernel_rfl) rfl #[.int .i64 0, .int .i64 1000000000, .slice Ao28 y109.length co28] rfl (by (try simp only [List.map_toArray, List.map_cons, List.map_nil]); first | done | rfl | (simp only [List.length_drop, List.length_take]; rfl)) ?_; (with_reducible refine (label_within.calls k 0 1000000000 _ _ y109 true _ ?side1 ?side2 A2.out).mono ?_); (case side1 => repeat (first | exact (Kd.R_reads' HO111.out).2.2 | (with_reducible refine Kd.C_alloc ?_ _) | (with_reducible refine Kd.C_drewN ?_ _) | (with_reducible refine Kd.C_drew ?_))); (case side2 => exact (Kd.R_reads' HO111.out).2.1); rintro e w' ⟨rfl, ⟨nd, rfl⟩⟩; refine ⟨_, rfl, ?_⟩; have hcz29_0 : w26.cell? ⟨gb108, 0, none⟩ = some (.int .i64 a0_0) := (blk_cell BK108.out 0).trans rfl; have hcz29_1 : w26.cell? ⟨gb108, 1, none⟩ = some (.slice A0_1 l0_1.length c0_1) := (blk_cell BK108.out 1).trans rfl; have hcz29_2 : w26.cell? ⟨gb108, 2, none⟩ = some (.int .i64 a0_2) := (blk_cell BK108.out 2).trans rfl; have hcz29_3 : w26.cell? ⟨gb108, 3, none⟩ = some (.int .i64 a0_3) := (blk_cell BK108.out 3).trans rfl; have hfz29_0 := blk_frozen BK108.out 0; have hfz29_1 := blk_frozen BK108.out 1; have hfz29_2 := blk_frozen BK108.out 2; have hfz29_3 := blk_frozen BK108.out 3) | (go_at_call 70; (with_reducible refine (label_within.calls k 1 64 _ _ l0_1 true _ ?side1 ?side2 A4.out).mono ?_); (case side1 => repeat (first | exact (Kd.C_below HR0_1.out (by repeat (first | (with_reducible first | exact HB.out | apply below_alloc | apply pw_below_drewN | apply below_drew1 | refine below_set ?_ GE108.out) | exact HB.out))) | (with_reducible refine Kd.C_alloc ?_ _) | (with_reducible refine Kd.C_drewN ?_ _) | (with_reducible refine Kd.C_drew ?_))); (case side2 => exact HC0_1.out); rintro e w' ⟨rfl, ⟨nd, rfl⟩⟩) | (go_at_call 71; (with_reducible refine (label_ascending_int.calls k _ _ l0_1 true _ ?side1 ?side2 A6.out).mono ?_); (case side1 => repeat (first | exact (Kd.C_below HR0_1.out (by repeat (first | (with_reducible first | exact HB.out | apply below_alloc | apply pw_below_drewN | apply below_drew1 | refine below_set ?_ GE108.out) | exact HB.out))) | (with_reducible refine Kd.C_alloc ?_ _) | (with_reducible refine Kd.C_drewN ?_ _) | (with_reducible refine Kd.C_drew ?_))); (case side2 => exact HC0_1.out); rintro e w' ⟨rfl, ⟨nd, rfl⟩⟩) | ((with_reducible refine gate_dst (N := 20) rfl ?_); (try (refine gate_guard (by rfl) ?_; dsimp only)); refine Kd.R_lit (Kd.int .i64) _ 3 ?hg (N := 20) ?hd (xs := ([a0_2] : List Int)) (inner := [.int .i64 a0_2]) (ok := fun _ => True) (okp := fun _ => True) ?hr ?hp (fun _ hk => hk) trivial (Below.refl _ _) (Nat.le_refl _) (by simp) ?_; (case hd => rfl); (case hg => rfl); (case hr => first | (go_simp; done) | (go_simp; rfl)); (case hp => exact (Reps.one (show Kd.M (Kd.int .i64) _ _ _ a0_2 [.int .i64 a0_2] from rfl) (Reps.none _ _))); intro v116 w30 ho31 hb hg_ hnew_; clear hg_ hnew_; (first | rw [← Ny115.out] at ho31 | (simp only [Int.reduceToNat] at ho31; rw [← Ny115.out] at ho31)); have n0_ := Aside0.mk (Kd.R_elder' (by (with_reducible repeat (first | apply Kd.R_alloc | apply Kd.R_drewN | apply Kd.R_drew)); exact HO111.out) (Kd.R_base ho31) hb); have n1_ := Aside0.mk (Kd.R_lower (Kd.R_new' ho31 (Kd.R_lt (by (with_reducible repeat (first | apply Kd.R_alloc | apply Kd.R_drewN | apply Kd.R_drew)); exact HO111.out))) (below_size (by repeat (first | (with_reducible first | exact HB.out | apply below_alloc | apply pw_below_drewN | apply below_drew1 | refine below_set ?_ GE108.out) | exact HB.out)))); have n2_ := Aside0.mk (blk_below (g := gb108) (o := .cells #[.int .i64 a0_0, .slice A0_1 l0_1.length c0_1, .int .i64 a0_2, .int .i64 a0_3] 24 (0, 0)) (by (with_reducible repeat (first | refine blk_drewN ?_ _ | refine blk_drew ?_ | refine blk_alloc ?_ _)); exact BK108.out) hb); have n3_ := Aside0.mk (below_step (by repeat (first | (with_reducible first | exact HB.out | apply below_alloc | apply pw_below_drewN | apply below_drew1 | refine below_set ?_ GE108.out) | exact HB.out)) hb); clear HO111; clear BK108; clear HB; have HO111 := n0_; have HO117 := n1_; have BK108 := n2_; have HB := n3_; clear n0_ n1_ n2_ n3_; clear hb ho31; obtain ⟨Ao32, co32, eo32⟩ := Kd.R_slice HO117.out; subst eo32) | (go_at_call 70; (with_reducible refine (label_within.calls k 0 5 _ _ y115 false _ ?side1 ?side2 A8.out).mono ?_); (case side1 => repeat (first | exact (Kd.R_reads' HO117.out).2.2 | (with_reducible refine Kd.C_alloc ?_ _) | (with_reducible refine Kd.C_drewN ?_ _) | (with_reducible refine Kd.C_drew ?_))); (case side2 => exact (Kd.R_reads' HO117.out).2.1); rintro e w' ⟨rfl, ⟨nd, rfl⟩⟩))
          go_ret
          exact ⟨by first | rfl | (simp [errW_none, errW_some] <;> rfl) | (simp [*, errW_none, errW_some] <;> rfl), by repeat (first | (with_reducible first | exact HB.out | apply below_alloc | apply pw_below_drewN | apply below_drew1 | refine below_set ?_ GE108.out) | exact HB.out)⟩
      · replace c7 := Bool.eq_false_iff.mpr c7
        subst c7
        have H1 : (some false) = some r := by rw [if_neg (show ¬ (false = true) by decide)] at H; exact H
        clear H
        have H := H1
        clear H1
        obtain rfl := Option.some.inj H
        go_enter Tryd.func42, Tryd.ntmps42
        go_wp2_with (first | ((with_reducible refine gate_dst (N := 1) rfl ?_); (try (refine gate_guard (by rfl) ?_; dsimp only)); refine box_event ?hg (N := 1) ?hd (cs := #[.int .i64 a0_0, .slice A0_1 l0_1.length c0_1, .int .i64 a0_2, .int .i64 a0_3]) (t := 24) ?hr ?_; (case hd => rfl); (case hg => rfl); (case hr => first | (go_simp; done) | (go_simp; rfl)); intro gb108 hg w33 hbox hb; have n0_ := Aside0.mk (below_step (by repeat (first | (with_reducible first | exact HB.out | apply below_alloc | apply pw_below_drewN | apply below_drew1) | exact HB.out)) hb); have n1_ := Aside0.mk (hbox); have n2_ := Aside0.mk ((by rw [hg]; exact (below_size (by repeat (first | (with_reducible first | exact HB.out | apply below_alloc | apply pw_below_drewN | apply below_drew1) | exact HB.out))) : w.heap.size ≤ gb108)); have n3_ := Aside0.mk ((by rw [hg]; exact (below_size (by repeat (first | (with_reducible first | exact HB.out | apply below_alloc | apply pw_below_drewN | apply below_drew1) | exact HB.out))) : w.heap.size ≤ gb108)); clear HB; have HB := n0_; have BK108 := n1_; have GW108 := n2_; have GE108 := n3_; clear n0_ n1_ n2_ n3_; clear hb hbox hg; have hcz34_0 : w33.cell? ⟨gb108, 0, none⟩ = some (.int .i64 a0_0) := (blk_cell BK108.out 0).trans rfl; have hcz34_1 : w33.cell? ⟨gb108, 1, none⟩ = some (.slice A0_1 l0_1.length c0_1) := (blk_cell BK108.out 1).trans rfl; have hcz34_2 : w33.cell? ⟨gb108, 2, none⟩ = some (.int .i64 a0_2) := (blk_cell BK108.out 2).trans rfl; have hcz34_3 : w33.cell? ⟨gb108, 3, none⟩ = some (.int .i64 a0_3) := (blk_cell BK108.out 3).trans rfl; have hfz34_0 := blk_frozen BK108.out 0; have hfz34_1 := blk_frozen BK108.out 1; have hfz34_2 := blk_frozen BK108.out 2; have hfz34_3 := blk_frozen BK108.out 3) | ((with_reducible refine gate_dst (N := 5) rfl ?_); (try (refine gate_guard (by rfl) ?_; dsimp only)); refine Kd.R_lit (Kd.int .i64) _ 3 ?hg (N := 5) ?hd (xs := ([a0_0] : List Int)) (inner := [.int .i64 a0_0]) (ok := fun _ => True) (okp := fun _ => True) ?hr ?hp (fun _ hk => hk) trivial (Below.refl _ _) (Nat.le_refl _) (by simp) ?_; (case hd => rfl); (case hg => rfl); (case hr => first | (go_simp; done) | (go_simp; rfl)); (case hp => exact (Reps.one (show Kd.M (Kd.int .i64) _ _ _ a0_0 [.int .i64 a0_0] from rfl) (Reps.none _ _))); intro v110 w35 ho36 hb hg_ hnew_; clear hg_ hnew_; (first | rw [← Ny109.out] at ho36 | (simp only [Int.reduceToNat] at ho36; rw [← Ny109.out] at ho36)); have n0_ := Aside0.mk (Kd.R_lower ho36 (below_size (by repeat (first | (with_reducible first | exact HB.out | apply below_alloc | apply pw_below_drewN | apply below_drew1 | refine below_set ?_ GE108.out) | exact HB.out)))); have n1_ := Aside0.mk (blk_below (g := gb108) (o := .cells #[.int .i64 a0_0, .slice A0_1 l0_1.length c0_1, .int .i64 a0_2, .int .i64 a0_3] 24 (0, 0)) (by (with_reducible repeat (first | refine blk_drewN ?_ _ | refine blk_drew ?_ | refine blk_alloc ?_ _)); exact BK108.out) hb); have n2_ := Aside0.mk (below_step (by repeat (first | (with_reducible first | exact HB.out | apply below_alloc | apply pw_below_drewN | apply below_drew1 | refine below_set ?_ GE108.out) | exact HB.out)) hb); clear BK108; clear HB; have HO111 := n0_; have BK108 := n1_; have HB := n2_; clear n0_ n1_ n2_; clear hb ho36; obtain ⟨Ao37, co37, eo37⟩ := Kd.R_slice HO111.out; subst eo37) | ((with_reducible refine gate_callee (f := 70) rfl ?_); refine goesL_ (some 6) rfl rfl Tryd.func70 (by kernel_rfl) rfl #[.int .i64 0, .int .i64 1000000000, .slice Ao37 y109.length co37] rfl (by (try simp only [List.map_toArray, List.map_cons, List.map_nil]); first | done | rfl | (simp only [List.length_drop, List.length_take]; rfl)) ?_; (with_reducible refine (label_within.calls k 0 1000000000 _ _ y109 true _ ?side1 ?side2 A2.out).mono ?_); (case side1 => repeat (first | exact (Kd.R_reads' HO111.out).2.2 | (with_reducible refine Kd.C_alloc ?_ _) | (with_reducible refine Kd.C_drewN ?_ _) | (with_reducible refine Kd.C_drew ?_))); (case side2 => exact (Kd.R_reads' HO111.out).2.1); rintro e w' ⟨rfl, ⟨nd, rfl⟩⟩; refine ⟨_, rfl, ?_⟩; have hcz38_0 : w35.cell? ⟨gb108, 0, none⟩ = some (.int .i64 a0_0) := (blk_cell BK108.out 0).trans rfl; have hcz38_1 : w35.cell? ⟨gb108, 1, none⟩ = some (.slice A0_1 l0_1.length c0_1) := (blk_cell BK108.out 1).trans rfl; have hcz38_2 : w35.cell? ⟨gb108, 2, none⟩ = some (.int .i64 a0_2) := (blk_cell BK108.out 2).trans rfl; have hcz38_3 : w35.cell? ⟨gb108, 3, none⟩ = some (.int .i64 a0_3) := (blk_cell BK108.out 3).trans rfl; have hfz38_0 := blk_frozen BK108.out 0; have hfz38_1 := blk_frozen BK108.out 1; have hfz38_2 := blk_frozen BK108.out 2; have hfz38_3 := blk_frozen BK108.out 3) | (go_at_call 70; (with_reducible refine (label_within.calls k 1 64 _ _ l0_1 true _ ?side1 ?side2 A4.out).mono ?_); (case side1 => repeat (first | exact (Kd.C_below HR0_1.out (by repeat (first | (with_reducible first | exact HB.out | apply below_alloc | apply pw_below_drewN | apply below_drew1 | refine below_set ?_ GE108.out) | exact HB.out))) | (with_reducible refine Kd.C_alloc ?_ _) | (with_reducible refine Kd.C_drewN ?_ _) | (with_reducible refine Kd.C_drew ?_))); (case side2 => exact HC0_1.out); rintro e w' ⟨rfl, ⟨nd, rfl⟩⟩) | (go_at_call 71; (with_reducible refine (label_ascending_int.calls k _ _ l0_1 false _ ?side1 ?side2 A6.out).mono ?_); (case side1 => repeat (first | exact (Kd.C_below HR0_1.out (by repeat (first | (with_reducible first | exact HB.out | apply below_alloc | apply pw_below_drewN | apply below_drew1 | refine below_set ?_ GE108.out) | exact HB.out))) | (with_reducible refine Kd.C_alloc ?_ _) | (with_reducible refine Kd.C_drewN ?_ _) | (with_reducible refine Kd.C_drew ?_))); (case side2 => exact HC0_1.out); rintro e w' ⟨rfl, ⟨nd, rfl⟩⟩))
        go_ret
        exact ⟨by first | rfl | (simp [errW_none, errW_some] <;> rfl) | (simp [*, errW_none, errW_some] <;> rfl), by repeat (first | (with_reducible first | exact HB.out | apply below_alloc | apply pw_below_drewN | apply below_drew1 | refine below_set ?_ GE108.out) | exact HB.out)⟩
    · replace c5 := Bool.eq_false_iff.mpr c5
      subst c5
      have H1 : (some false) = some r := by rw [if_neg (show ¬ (false = true) by decide)] at H; exact H
      clear H
      have H := H1
      clear H1
      obtain rfl := Option.some.inj H
      go_enter Tryd.func42, Tryd.ntmps42
      go_wp2_with (first | ((with_reducible refine gate_dst (N := 1) rfl ?_); (try (refine gate_guard (by rfl) ?_; dsimp only)); refine box_event ?hg (N := 1) ?hd (cs := #[.int .i64 a0_0, .slice A0_1 l0_1.length c0_1, .int .i64 a0_2, .int .i64 a0_3]) (t := 24) ?hr ?_; (case hd => rfl); (case hg => rfl); (case hr => first | (go_simp; done) | (go_simp; rfl)); intro gb108 hg w39 hbox hb; have n0_ := Aside0.mk (below_step (by repeat (first | (with_reducible first | exact HB.out | apply below_alloc | apply pw_below_drewN | apply below_drew1) | exact HB.out)) hb); have n1_ := Aside0.mk (hbox); have n2_ := Aside0.mk ((by rw [hg]; exact (below_size (by repeat (first | (with_reducible first | exact HB.out | apply below_alloc | apply pw_below_drewN | apply below_drew1) | exact HB.out))) : w.heap.size ≤ gb108)); have n3_ := Aside0.mk ((by rw [hg]; exact (below_size (by repeat (first | (with_reducible first | exact HB.out | apply below_alloc | apply pw_below_drewN | apply below_drew1) | exact HB.out))) : w.heap.size ≤ gb108)); clear HB; have HB := n0_; have BK108 := n1_; have GW108 := n2_; have GE108 := n3_; clear n0_ n1_ n2_ n3_; clear hb hbox hg; have hcz40_0 : w39.cell? ⟨gb108, 0, none⟩ = some (.int .i64 a0_0) := (blk_cell BK108.out 0).trans rfl; have hcz40_1 : w39.cell? ⟨gb108, 1, none⟩ = some (.slice A0_1 l0_1.length c0_1) := (blk_cell BK108.out 1).trans rfl; have hcz40_2 : w39.cell? ⟨gb108, 2, none⟩ = some (.int .i64 a0_2) := (blk_cell BK108.out 2).trans rfl; have hcz40_3 : w39.cell? ⟨gb108, 3, none⟩ = some (.int .i64 a0_3) := (blk_cell BK108.out 3).trans rfl; have hfz40_0 := blk_frozen BK108.out 0; have hfz40_1 := blk_frozen BK108.out 1; have hfz40_2 := blk_frozen BK108.out 2; have hfz40_3 := blk_frozen BK108.out 3) | ((with_reducible refine gate_dst (N := 5) rfl ?_); (try (refine gate_guard (by rfl) ?_; dsimp only)); refine Kd.R_lit (Kd.int .i64) _ 3 ?hg (N := 5) ?hd (xs := ([a0_0] : List Int)) (inner := [.int .i64 a0_0]) (ok := fun _ => True) (okp := fun _ => True) ?hr ?hp (fun _ hk => hk) trivial (Below.refl _ _) (Nat.le_refl _) (by simp) ?_; (case hd => rfl); (case hg => rfl); (case hr => first | (go_simp; done) | (go_simp; rfl)); (case hp => exact (Reps.one (show Kd.M (Kd.int .i64) _ _ _ a0_0 [.int .i64 a0_0] from rfl) (Reps.none _ _))); intro v110 w41 ho42 hb hg_ hnew_; clear hg_ hnew_; (first | rw [← Ny109.out] at ho42 | (simp only [Int.reduceToNat] at ho42; rw [← Ny109.out] at ho42)); have n0_ := Aside0.mk (Kd.R_lower ho42 (below_size (by repeat (first | (with_reducible first | exact HB.out | apply below_alloc | apply pw_below_drewN | apply below_drew1 | refine below_set ?_ GE108.out) | exact HB.out)))); have n1_ := Aside0.mk (blk_below (g := gb108) (o := .cells #[.int .i64 a0_0, .slice A0_1 l0_1.length c0_1, .int .i64 a0_2, .int .i64 a0_3] 24 (0, 0)) (by (with_reducible repeat (first | refine blk_drewN ?_ _ | refine blk_drew ?_ | refine blk_alloc ?_ _)); exact BK108.out) hb); have n2_ := Aside0.mk (below_step (by repeat (first | (with_reducible first | exact HB.out | apply below_alloc | apply pw_below_drewN | apply below_drew1 | refine below_set ?_ GE108.out) | exact HB.out)) hb); clear BK108; clear HB; have HO111 := n0_; have BK108 := n1_; have HB := n2_; clear n0_ n1_ n2_; clear hb ho42; obtain ⟨Ao43, co43, eo43⟩ := Kd.R_slice HO111.out; subst eo43) | ((with_reducible refine gate_callee (f := 70) rfl ?_); refine goesL_ (some 6) rfl rfl Tryd.func70 (by kernel_rfl) rfl #[.int .i64 0, .int .i64 1000000000, .slice Ao43 y109.length co43] rfl (by (try simp only [List.map_toArray, List.map_cons, List.map_nil]); first | done | rfl | (simp only [List.length_drop, List.length_take]; rfl)) ?_; (with_reducible refine (label_within.calls k 0 1000000000 _ _ y109 true _ ?side1 ?side2 A2.out).mono ?_); (case side1 => repeat (first | exact (Kd.R_reads' HO111.out).2.2 | (with_reducible refine Kd.C_alloc ?_ _) | (with_reducible refine Kd.C_drewN ?_ _) | (with_reducible refine Kd.C_drew ?_))); (case side2 => exact (Kd.R_reads' HO111.out).2.1); rintro e w' ⟨rfl, ⟨nd, rfl⟩⟩; refine ⟨_, rfl, ?_⟩; have hcz44_0 : w41.cell? ⟨gb108, 0, none⟩ = some (.int .i64 a0_0) := (blk_cell BK108.out 0).trans rfl; have hcz44_1 : w41.cell? ⟨gb108, 1, none⟩ = some (.slice A0_1 l0_1.length c0_1) := (blk_cell BK108.out 1).trans rfl; have hcz44_2 : w41.cell? ⟨gb108, 2, none⟩ = some (.int .i64 a0_2) := (blk_cell BK108.out 2).trans rfl; have hcz44_3 : w41.cell? ⟨gb108, 3, none⟩ = some (.int .i64 a0_3) := (blk_cell BK108.out 3).trans rfl; have hfz44_0 := blk_frozen BK108.out 0; have hfz44_1 := blk_frozen BK108.out 1; have hfz44_2 := blk_frozen BK108.out 2; have hfz44_3 := blk_frozen BK108.out 3) | (go_at_call 70; (with_reducible refine (label_within.calls k 1 64 _ _ l0_1 false _ ?side1 ?side2 A4.out).mono ?_); (case side1 => repeat (first | exact (Kd.C_below HR0_1.out (by repeat (first | (with_reducible first | exact HB.out | apply below_alloc | apply pw_below_drewN | apply below_drew1 | refine below_set ?_ GE108.out) | exact HB.out))) | (with_reducible refine Kd.C_alloc ?_ _) | (with_reducible refine Kd.C_drewN ?_ _) | (with_reducible refine Kd.C_drew ?_))); (case side2 => exact HC0_1.out); rintro e w' ⟨rfl, ⟨nd, rfl⟩⟩))
      go_ret
      exact ⟨by first | rfl | (simp [errW_none, errW_some] <;> rfl) | (simp [*, errW_none, errW_some] <;> rfl), by repeat (first | (with_reducible first | exact HB.out | apply below_alloc | apply pw_below_drewN | apply below_drew1 | refine below_set ?_ GE108.out) | exact HB.out)⟩
  · replace c3 := Bool.eq_false_iff.mpr c3
    subst c3
    have H1 : (some false) = some r := by rw [if_neg (show ¬ (false = true) by decide)] at H; exact H
    clear H
    have H := H1
    clear H1
    obtain rfl := Option.some.inj H
    go_enter Tryd.func42, Tryd.ntmps42
    go_wp2_with (first | ((with_reducible refine gate_dst (N := 1) rfl ?_); (try (refine gate_guard (by rfl) ?_; dsimp only)); refine box_event ?hg (N := 1) ?hd (cs := #[.int .i64 a0_0, .slice A0_1 l0_1.length c0_1, .int .i64 a0_2, .int .i64 a0_3]) (t := 24) ?hr ?_; (case hd => rfl); (case hg => rfl); (case hr => first | (go_simp; done) | (go_simp; rfl)); intro gb108 hg w45 hbox hb; have n0_ := Aside0.mk (below_step (by repeat (first | (with_reducible first | exact HB.out | apply below_alloc | apply pw_below_drewN | apply below_drew1) | exact HB.out)) hb); have n1_ := Aside0.mk (hbox); have n2_ := Aside0.mk ((by rw [hg]; exact (below_size (by repeat (first | (with_reducible first | exact HB.out | apply below_alloc | apply pw_below_drewN | apply below_drew1) | exact HB.out))) : w.heap.size ≤ gb108)); have n3_ := Aside0.mk ((by rw [hg]; exact (below_size (by repeat (first | (with_reducible first | exact HB.out | apply below_alloc | apply pw_below_drewN | apply below_drew1) | exact HB.out))) : w.heap.size ≤ gb108)); clear HB; have HB := n0_; have BK108 := n1_; have GW108 := n2_; have GE108 := n3_; clear n0_ n1_ n2_ n3_; clear hb hbox hg; have hcz46_0 : w45.cell? ⟨gb108, 0, none⟩ = some (.int .i64 a0_0) := (blk_cell BK108.out 0).trans rfl; have hcz46_1 : w45.cell? ⟨gb108, 1, none⟩ = some (.slice A0_1 l0_1.length c0_1) := (blk_cell BK108.out 1).trans rfl; have hcz46_2 : w45.cell? ⟨gb108, 2, none⟩ = some (.int .i64 a0_2) := (blk_cell BK108.out 2).trans rfl; have hcz46_3 : w45.cell? ⟨gb108, 3, none⟩ = some (.int .i64 a0_3) := (blk_cell BK108.out 3).trans rfl; have hfz46_0 := blk_frozen BK108.out 0; have hfz46_1 := blk_frozen BK108.out 1; have hfz46_2 := blk_frozen BK108.out 2; have hfz46_3 := blk_frozen BK108.out 3) | ((with_reducible refine gate_dst (N := 5) rfl ?_); (try (refine gate_guard (by rfl) ?_; dsimp only)); refine Kd.R_lit (Kd.int .i64) _ 3 ?hg (N := 5) ?hd (xs := ([a0_0] : List Int)) (inner := [.int .i64 a0_0]) (ok := fun _ => True) (okp := fun _ => True) ?hr ?hp (fun _ hk => hk) trivial (Below.refl _ _) (Nat.le_refl _) (by simp) ?_; (case hd => rfl); (case hg => rfl); (case hr => first | (go_simp; done) | (go_simp; rfl)); (case hp => exact (Reps.one (show Kd.M (Kd.int .i64) _ _ _ a0_0 [.int .i64 a0_0] from rfl) (Reps.none _ _))); intro v110 w47 ho48 hb hg_ hnew_; clear hg_ hnew_; (first | rw [← Ny109.out] at ho48 | (simp only [Int.reduceToNat] at ho48; rw [← Ny109.out] at ho48)); have n0_ := Aside0.mk (Kd.R_lower ho48 (below_size (by repeat (first | (with_reducible first | exact HB.out | apply below_alloc | apply pw_below_drewN | apply below_drew1 | refine below_set ?_ GE108.out) | exact HB.out)))); have n1_ := Aside0.mk (blk_below (g := gb108) (o := .cells #[.int .i64 a0_0, .slice A0_1 l0_1.length c0_1, .int .i64 a0_2, .int .i64 a0_3] 24 (0, 0)) (by (with_reducible repeat (first | refine blk_drewN ?_ _ | refine blk_drew ?_ | refine blk_alloc ?_ _)); exact BK108.out) hb); have n2_ := Aside0.mk (below_step (by repeat (first | (with_reducible first | exact HB.out | apply below_alloc | apply pw_below_drewN | apply below_drew1 | refine below_set ?_ GE108.out) | exact HB.out)) hb); clear BK108; clear HB; have HO111 := n0_; have BK108 := n1_; have HB := n2_; clear n0_ n1_ n2_; clear hb ho48; obtain ⟨Ao49, co49, eo49⟩ := Kd.R_slice HO111.out; subst eo49) | ((with_reducible refine gate_callee (f := 70) rfl ?_); refine goesL_ (some 6) rfl rfl Tryd.func70 (by kernel_rfl) rfl #[.int .i64 0, .int .i64 1000000000, .slice Ao49 y109.length co49] rfl (by (try simp only [List.map_toArray, List.map_cons, List.map_nil]); first | done | rfl | (simp only [List.length_drop, List.length_take]; rfl)) ?_; (with_reducible refine (label_within.calls k 0 1000000000 _ _ y109 false _ ?side1 ?side2 A2.out).mono ?_); (case side1 => repeat (first | exact (Kd.R_reads' HO111.out).2.2 | (with_reducible refine Kd.C_alloc ?_ _) | (with_reducible refine Kd.C_drewN ?_ _) | (with_reducible refine Kd.C_drew ?_))); (case side2 => exact (Kd.R_reads' HO111.out).2.1); rintro e w' ⟨rfl, ⟨nd, rfl⟩⟩; refine ⟨_, rfl, ?_⟩))
    go_ret
    exact ⟨by first | rfl | (simp [errW_none, errW_some] <;> rfl) | (simp [*, errW_none, errW_some] <;> rfl), by repeat (first | (with_reducible first | exact HB.out | apply below_alloc | apply pw_below_drewN | apply below_drew1 | refine below_set ?_ GE108.out) | exact HB.out)⟩

end Go.Proofs.YtpgjhjlhipikgaaDoor.PK
end
section
namespace Go.Proofs.YtpgjhjlhipikgaaDoor.PK
open Go.RowKit Go.Proofs.YtpgjhjlhipikgaaDoorW.PrintWords Go.Proofs.YtpgjhjlhipikgaaDoorW.PrintLast Go.Proofs.YtpgjhjlhipikgaaDoorW.PrintMore
attribute [local go_sem] max2_int min2_int max_two min_two max_three min_three max_four min_four   -- for this text's walks alone
set_option linter.unusedVariables false
set_option linter.unusedSimpArgs false

/-! ### block_isText: function 43 -/
-- NEEDS Derived.Test.YtpgjhjlhipikgaaDoorKDefs
-- NEEDS Derived.Test.YtpgjhjlhipikgaaDoorBkText
-- NEEDS Derived.Test.YtpgjhjlhipikgaaDoorShelf


def block_isText.f (a0 : ByteArray) : Option Bool := some (m_text a0)
theorem bk_oddText (w : World) : Go.Proofs.PredAt Tryd.prog 72 #[] encR (fun r => decide (r < 32) || decide (126 < r)) w := fun W r _ => by
  unfold FnGives
  by_cases h1 : r < 32 <;> by_cases h2 : 126 < r
  all_goals
    have z1 : (r : Int) < 32 ↔ r < 32 := by omega
    have z2 : (126 : Int) < (r : Int) ↔ 126 < r := by omega
    go_enter Tryd.func72, Tryd.ntmps72
    go_wp2
    all_goals first | (exfalso; omega) | (go_ret; exact ⟨by simp [h1, h2], 0, rfl⟩)
set_option maxHeartbeats 1000000 in
theorem bk_isText (s : ByteArray) (w : World) :
    Calls Tryd.prog 43 #[.string s] w fun e w' => e = .returned (.bool (m_text s)) ∧ Below w.heap.size w w' := by
  have hC := Tryd.strings_IndexFunc 72 #[] (enters_of Tryd.func72 (by kernel_rfl) rfl) _ s w (bk_oddText w)
  have hx := Bk.idx_all (fun r => decide (r < 32) || decide (126 < r)) (fun r h => by simp; omega) s
  have hy : s.data.toList.all (fun c => !(decide (c.toNat < 32) || decide (126 < c.toNat))) = s.data.toList.all (fun c => decide (32 ≤ c.toNat) && decide (c.toNat ≤ 126)) := by
    congr 1; funext c; rw [Bool.eq_iff_iff]; simp
  have hz : m_text s = (decide (s.size ≤ 300) && decide (Lib.idxFunc (fun r => decide (r < 32) || decide (126 < r)) true s < 0)) := by rw [hx]; unfold m_text; rw [← hy]
  have HZ := Aside0.mk hz
  clear hx hy hz
  generalize Lib.idxFunc (fun r => decide (r < 32) || decide (126 < r)) true s = I at hC HZ
  by_cases hs : s.size ≤ 300
  · have hd : decide ((s.size : Int) ≤ 300) = true := by simp; omega
    have hd2 : decide (s.size ≤ 300) = true := by simpa using hs
    go_enter Tryd.func43, Tryd.ntmps43
    go_wp2_with (go_at_call 73; refine hC.mono ?_; rintro e w' ⟨rfl, hb⟩)
    go_ret
    exact ⟨by rw [HZ.out]; simp [hs], hb⟩
  · have hd : decide ((s.size : Int) ≤ 300) = false := by simp; omega
    go_enter Tryd.func43, Tryd.ntmps43
    go_wp2_with (go_at_call 73; refine hC.mono ?_; rintro e w' ⟨rfl, hb⟩)
    go_ret
    exact ⟨by rw [HZ.out]; simp [hs], Below.refl _ _⟩
theorem block_isText.calls (a0 : ByteArray) (r : Bool) (w : World) (h : block_isText.f a0 = some r) :
    Calls Tryd.prog 43 #[.string a0] w fun e w' => e = .returned (.bool r) ∧ Below w.heap.size w w' := by
  obtain rfl := Option.some.inj h
  exact bk_isText a0 w

end Go.Proofs.YtpgjhjlhipikgaaDoor.PK
end
section
set_option linter.unusedVariables false
namespace Go.Proofs.YtpgjhjlhipikgaaDoor.Mp
open Go.MapKept Go.ChangeMaps Go.RowKit Go.Proofs.YtpgjhjlhipikgaaDoorW.PrintWords Go.Proofs.YtpgjhjlhipikgaaDoorW.PrintLast Go.Proofs.YtpgjhjlhipikgaaDoorW.PrintMore

/-- Block b is a map of at most n entries, whose keys are numbers; at the number i stands what g says. -/
def IMap (w : World) (b n : Nat) (g : Int → Option Value) : Prop := ∃ es clock, w.heap[b]? = some (.map es clock) ∧ es.size ≤ n ∧
  (∀ x ∈ es.toList, ∃ i, x.key = .int .i64 i ∧ g i = some x.val) ∧ (∀ i v, g i = some v → ∃ x ∈ es.toList, x.key = .int .i64 i)
variable {w w' : World} {b n : Nat} {g : Int → Option Value} {P : Program} {t k e : TypeId}

theorem IMap.made (w : World) : IMap (w.alloc (.map #[] 0)) w.heap.size 0 (fun _ => none) := ⟨#[], 0, (MapKept.heap_alloc w _).1, Nat.le_refl _, by simp, by simp⟩
theorem IMap.lt (h : IMap w b n g) : b < w.heap.size := by
  obtain ⟨es, clock, hb, _⟩ := h
  exact (Array.getElem?_eq_some_iff.1 hb).1
theorem IMap.step (h : IMap w b n g) (hk : ∀ es c, w.heap[b]? = some (.map es c) → w'.heap[b]? = some (.map es c)) : IMap w' b n g := by
  obtain ⟨es, clock, hb, h⟩ := h
  exact ⟨es, clock, hk _ _ hb, h⟩
theorem IMap.below {B : Nat} (h : IMap w b n g) (hb : Below B w w') (hB : b < B) : IMap w' b n g := h.step fun es c he => by rw [hb.block b hB]; exact he
theorem IMap.alloc (h : IMap w b n g) (o : Obj) : IMap (w.alloc o) b n g := h.below (below_alloc (Below.refl w.heap.size w) o) h.lt

theorem IMap.find (hk : P.underlying k = some (.int .i64)) {es : Array MapEntry} {clock : Nat} (hes : ∀ x ∈ es.toList, ∃ i, x.key = .int .i64 i ∧ g i = some x.val) (hg : ∀ i v, g i = some v → ∃ x ∈ es.toList, x.key = .int .i64 i) (i : Int) :
    ((Instr.findKey k (.int .i64 i) es.toList).run P w = .ok none w ∧ g i = none) ∨ ∃ j v, (Instr.findKey k (.int .i64 i) es.toList).run P w = .ok (some (j, v)) w ∧ g i = some v := by
  rcases findNow_spec (d := .int .i64) (k := .int .i64 i) rfl es.toList 0 (fun x hx => by obtain ⟨j, hj, _⟩ := hes x hx; rw [hj]; exact rfl) with ⟨h1, h2⟩ | ⟨j, e, h1, h2, h3⟩
  · refine .inl ⟨run_findKey hk h1, ?_⟩
    cases hgi : g i with
    | none => rfl
    | some v =>
      obtain ⟨x, hx, hxk⟩ := hg i v hgi
      exact absurd hxk (h2 x hx)
  · obtain ⟨i', hi', hv⟩ := hes e (List.mem_of_getElem? h2)
    rw [h3] at hi'
    injection hi' with _ hi'
    subst hi'
    exact .inr ⟨_, _, run_findKey hk h1, hv⟩

theorem IMap.look (h : IMap w b n g) (ht : P.underlying t = some (.map k e)) (hk : P.underlying k = some (.int .i64)) {z : Value} (hz : (zeroValue e).run P w = .ok z w) (i : Int) (c : Bool) :
    (Instr.lookup t (.map (some b)) (.int .i64 i) c).run P w = .ok (match g i with | some v => if c then .tuple #[v, .bool true] else v | none => if c then .tuple #[z, .bool false] else z) w := by
  obtain ⟨es, clock, hb, hs, h1, h2⟩ := h
  have hck := run_checkKey (w := w) hk (k := .int .i64 i) rfl
  rcases IMap.find (w := w) (clock := clock) hk h1 h2 i with ⟨hf, hg⟩ | ⟨j, v, hf, hg⟩
  · rw [hg]; simp [Instr.lookup, run_underlying ht, MapKept.run_getObj_map hb, hck, hf, hz, Result.andThen]
  · rw [hg]; simp [Instr.lookup, run_underlying ht, MapKept.run_getObj_map hb, hck, hf, Result.andThen]

theorem IMap.put (h : IMap w b n g) (ht : P.underlying t = some (.map k e)) (hk : P.underlying k = some (.int .i64)) (hn : n < maxLen) (i : Int) (hi : g i = none) (val : Value) :
    ∃ w', (Instr.mapUpdate t (.map (some b)) (.int .i64 i) val).run P w = .ok () w' ∧ IMap w' b (n + 1) (fun j => if j = i then some val else g j) ∧ w.grownBy w' (some b) := by
  obtain ⟨es, clock, hb, hs, h1, h2⟩ := h
  have hck := run_checkKey (w := w) hk (k := .int .i64 i) rfl
  rcases IMap.find (w := w) (clock := clock) hk h1 h2 i with ⟨hf, hg⟩ | ⟨j, v, hf, hg⟩
  · refine ⟨setBlock w b (.map (es.push ⟨.int .i64 i, val, clock⟩) (clock + 1)), ?_, ⟨_, _, heap_setBlock_same hb _, by simp; omega, ?_, ?_⟩, ⟨rfl, rfl, rfl, by simp [setBlock], fun j _ hj => heap_setBlock_other hb _ (fun e => hj (by rw [e]))⟩⟩
    · have hsz : es.size < maxLen := by omega
      simp [Instr.mapUpdate, run_underlying ht, MapKept.run_getObj_map hb, hck, hf, MapKept.run_setObj_map _ hb, Result.andThen, setBlock]
    · intro x hx
      simp only [Array.toList_push, List.mem_append, List.mem_singleton] at hx
      rcases hx with hx | rfl
      · obtain ⟨j, hj, hv⟩ := h1 x hx
        refine ⟨j, hj, ?_⟩
        have : j ≠ i := by rintro rfl; rw [hi] at hv; cases hv
        simp [this, hv]
      · exact ⟨i, rfl, by simp⟩
    · intro j v hj
      by_cases hji : j = i
      · subst hji; exact ⟨⟨.int .i64 j, val, clock⟩, by simp, rfl⟩
      · simp only [hji, if_false] at hj
        obtain ⟨x, hx, hxk⟩ := h2 j v hj
        exact ⟨x, by simp [hx], hxk⟩
  · rw [hi] at hg; cases hg

/-- 'map[K]V{i: v}' and 'm[i] = v' at the operation. -/
theorem wpList_put {w : World} {ops : Array Oper} {rest : List Oper} {o : Oper} {a : Act} {Q : Exit → Act → World → Prop}
    (hg : o.guard = none) (m x v : Operand) (t : TypeId) (hop : o.op = Op.insert t m x v ∨ o.op = Op.mapUpdate t m x v)
    (k e : TypeId) (ht : P.underlying t = some (.map k e)) (hk : P.underlying k = some (.int .i64)) (b n : Nat) (g : Int → Option Value)
    (hm : a.eval m = .map (some b)) (hown : IMap w b n g) (hn : n < maxLen) (i : Int) (val : Value) (hx : a.eval x = .int .i64 i) (hv : a.eval v = val) (hi : g i = none)
    (hK : ∀ w', IMap w' b (n + 1) (fun j => if j = i then some val else g j) → w.grownBy w' (some b) → wpList P ops Q rest (a.put o.dst undef) w') :
    wpList P ops Q (o :: rest) a w := by
  refine wpList_plain hg fun K' hK' => ?_
  obtain ⟨w', hrun, r1, r2⟩ := hown.put ht hk hn i hi val
  unfold Oper.wp
  rcases hop with hop | hop
  · simp [execOp, hop, hm, hx, hv, hrun, Result.andThen]
    exact hK' _ _ (hK w' r1 r2)
  · simp [execOp, hop, hm, hx, hv, hrun, Result.andThen]
    exact hK' _ _ (hK w' r1 r2)
/-- The goal's next operation writes to a map. -/
theorem is_insert {P : Program} {W : World} {ops : Array Oper} {rest : List Oper} {o : Oper} {a : Act} {Q : Exit → Act → World → Prop} {t : TypeId} {m x v : Operand} (_ : o.op = .insert t m x v ∨ o.op = .mapUpdate t m x v) (h : wpList P ops Q (o :: rest) a W) : wpList P ops Q (o :: rest) a W := h

/-- A row of cells stays while a map is written. -/
theorem IMap.kept (h : IMap w b n g) (hg : w.grownBy w' (some b)) {x : Nat} {cs : Array Value} {T : TypeId} {fr : Nat × Nat} (hc : w.heap[x]? = some (.cells cs T fr)) : w'.heap[x]? = some (.cells cs T fr) := by
  obtain ⟨es, clock, hb, _⟩ := h
  have hlt := (Array.getElem?_eq_some_iff.1 hc).1
  have hne : x ≠ b := by
    rintro rfl
    rw [hb] at hc
    cases hc
  rw [hg.block x hlt (fun he => hne (by simpa using he))]
  exact hc
end Go.Proofs.YtpgjhjlhipikgaaDoor.Mp
end
section
set_option linter.unusedVariables false
namespace Go.Proofs.YtpgjhjlhipikgaaDoor.Rg
open Go Go.RowKit
variable {P : Program}

/-- A walk stands still before this. -/
structure Stop (p : Prop) : Prop where mk ::
  out : p
theorem stop_here {p : Prop} (h : Stop p) : p := h.out

/-- New blocks, and turns of blocks that are no cells and lie from B on. -/
structure Turn (B : Nat) (A C : World) : Prop where mk ::
  os : C.os = A.os
  tape : C.tape = A.tape
  output : C.output = A.output
  base : B ≤ A.heap.size
  size : A.heap.size ≤ C.heap.size
  low : ∀ k, k < B → C.heap[k]? = A.heap[k]?
  cells : ∀ (k : Nat) (o : Obj), A.heap[k]? = some o → o.isCells = true → C.heap[k]? = some o
theorem Turn.trans {B : Nat} {X Y Z : World} (h : Turn B X Y) (k : Turn B Y Z) : Turn B X Z :=
  ⟨k.os.trans h.os, k.tape.trans h.tape, k.output.trans h.output, h.base, Nat.le_trans h.size k.size,
   fun i hi => (k.low i hi).trans (h.low i hi), fun i o ho hc => k.cells i o (h.cells i o ho hc) hc⟩
theorem Turn.alloc {B : Nat} (A : World) (o : Obj) (hB : B ≤ A.heap.size) : Turn B A (A.alloc o) :=
  ⟨rfl, rfl, rfl, hB, by simp, fun k hk => Below.heap_alloc _ _ _ (Nat.lt_of_lt_of_le hk hB), fun k o' ho _ => (Below.heap_alloc _ _ _ (Array.getElem?_eq_some_iff.1 ho).1).trans ho⟩
theorem Turn.put {B : Nat} {A : World} {l : Nat} {o : Obj} (hl : A.heap[l]? = some o) (hc : o.isCells = false) (hB : B ≤ l) (o' : Obj) : Turn B A (A.putObj l o') :=
  ⟨rfl, rfl, rfl, by have := (Array.getElem?_eq_some_iff.1 hl).1; omega, by simp, fun k hk => World.putObj_heap_other (by omega), fun k o2 ho h2 => by
    rw [World.putObj_heap_other]
    · exact ho
    · rintro rfl
      rw [hl] at ho
      injection ho with ho
      subst ho
      rw [hc] at h2
      cases h2⟩
theorem Turn.below {B : Nat} {A C : World} (h : Turn B A C) : Below B A C :=
  ⟨h.os, h.tape, h.output, h.size, fun i hi => h.low i hi⟩

theorem Turn.owns {B base n size : Nat} {e : TypeId} {v : Value} {xs : List Value} {A C : World} (h : Turn B A C) (ho : A.ownsRow base e size v n xs) : C.ownsRow base e size v n xs := by
  refine ⟨ho.1, ?_⟩
  rcases ho.2 with ⟨h1, h2⟩ | ⟨g, cap, cur, h1, h2, h3, h4⟩
  · exact .inl ⟨h1, h2⟩
  · exact .inr ⟨g, cap, cur, h1, h2, h.cells g _ h3 rfl, h4⟩
theorem owns_shape {base n size : Nat} {e : TypeId} {v : Value} {xs : List Value} {A : World} (h : A.ownsRow base e size v (n + 1) xs) : ∃ g cap, v = .slice (some ⟨g, 0, none⟩) (n + 1) cap := by
  rcases h.2 with ⟨_, h0⟩ | ⟨g, cap, cur, hv, _⟩
  · exact absurd h0 (Nat.succ_ne_zero n)
  · exact ⟨_, _, hv⟩
theorem row_ne {base n size : Nat} {e t : TypeId} {v : Value} {xs : List Value} {A : World} {b : Nat} {cs : Array Value} {fr : Nat × Nat} (ho : A.ownsRow base e size v n xs) (hb : A.heap[b]? = some (.cells cs t fr)) (ht : t ≠ e) : some b ≠ v.ownBlock := by
  rcases ho.2 with ⟨rfl, _⟩ | ⟨g, cap, cur, rfl, _, h3, _⟩
  · simp [Value.ownBlock]
  · simp only [Value.ownBlock]
    rintro h
    injection h with h
    subst h
    rw [hb] at h3
    injection h3 with h3
    injection h3 with _ h3 _
    exact ht h3
/-- A block of another type behind an append to a row. -/
theorem block_append {base n size : Nat} {e t : TypeId} {v : Value} {xs : List Value} {A C : World} {b : Nat} {cs : Array Value} {fr : Nat × Nat} {o : Obj} (ho : A.ownsRow base e size v n xs) (hb : A.heap[b]? = some (.cells cs t fr)) (ht : t ≠ e) (hg : (A.alloc o).grownBy C v.ownBlock) :
    C.heap[b]? = some (.cells cs t fr) := by
  have hlt := (Array.getElem?_eq_some_iff.1 hb).1
  rw [hg.block b (by simp; omega) (row_ne ho hb ht)]
  exact (Below.heap_alloc _ _ _ hlt).trans hb
/-- What is no cells stays behind an append to a row. -/
theorem keeps_append {base n size B : Nat} {e : TypeId} {v : Value} {xs : List Value} {A C : World} {o : Obj} (ho : A.ownsRow base e size v n xs) (hg : (A.alloc o).grownBy C v.ownBlock) : KeepsFrom B A C := by
  refine ⟨Nat.le_trans (by simp) hg.size, fun k o' _ hk hn => ?_⟩
  have hlt := (Array.getElem?_eq_some_iff.1 hk).1
  rw [hg.block k (by simp; omega) ?_]
  · exact (Below.heap_alloc _ _ _ hlt).trans hk
  · intro he
    rcases ho.2 with ⟨rfl, _⟩ | ⟨g, cap, cur, rfl, _, h3, _⟩
    · simp [Value.ownBlock] at he
    · have : k = g := by simpa [Value.ownBlock] using he
      subst this
      rw [hk] at h3
      injection h3 with h3
      subst h3
      cases hn
theorem below_append {B base n size : Nat} {e : TypeId} {v : Value} {xs : List Value} {w0 A C : World} {o : Obj} (hB : Below B w0 A) (hs : B ≤ A.heap.size) (hb : B ≤ base) (ho : A.ownsRow base e size v n xs) (hg : (A.alloc o).grownBy C v.ownBlock) : Below B w0 C :=
  (hB.alloc hs o).grown hg (by simp; omega) (fun k hk => Nat.le_trans hb (ho.lt k hk).1)
theorem keeps_set {B : Nat} {A : World} (p : Addr) (u : Value) : KeepsFrom B A (A.setCell p u) := (KeepsOthers.setCell A p u).from B
/-- A store into a block of another type leaves a row. -/
theorem owns_set {base n size : Nat} {e t : TypeId} {v : Value} {xs : List Value} {A : World} {b : Nat} {cs : Array Value} {fr : Nat × Nat} (hb : A.heap[b]? = some (.cells cs t fr)) (ht : t ≠ e) (ho : A.ownsRow base e size v n xs) (j : Nat) (u : Value) :
    (A.setCell ⟨b, j, none⟩ u).ownsRow base e size v n xs := by
  refine ⟨ho.1, ?_⟩
  rcases ho.2 with ⟨h1, h2⟩ | ⟨g, cap, cur, h1, h2, h3, h4⟩
  · exact .inl ⟨h1, h2⟩
  · refine .inr ⟨g, cap, cur, h1, h2, ?_, h4⟩
    rw [Below.heap_setCell _ _ _ _ (fun he => ?_)]
    · exact h3
    · have : g = b := by simpa using he
      subst this
      rw [hb] at h3
      injection h3 with h3
      injection h3 with _ h3 _
      exact ht h3

/-- An iterator: its own steps are Ab; what a round keeps for it is Kp. -/
def Iter {α : Type} (P : Program) (gf : Nat) (lb : Array Value) (encs : α → Array Value) (Ab Kp : World → World → Prop) (Nx : List α → α → Prop) (S Sp : List α → Prop) (W : World) : Prop :=
  ∀ (l : Nat) (J Jx : List α → World → Prop), (∀ s A B, J s A → Ab A B → J s B) → (∀ s A B, Jx s A → Ab A B → Jx s B) →
    (∀ pre x W1, J pre W1 → Nx pre x → YieldAt Fence.wide 0 P l (encs x) W1 fun e W' =>
      (e = .returned (.bool true) ∧ J (pre ++ [x]) W' ∧ Kp W1 W') ∨ (e = .returned (.bool false) ∧ Jx (pre ++ [x]) W')) →
    J [] W →
    CallsIn Fence.wide 0 P gf (#[.func (.yield l) #[] #[]] ++ lb) W fun e W' => (∃ v, e = .returned v) ∧ ((∃ xs, S xs ∧ J xs W') ∨ (∃ pre, Sp pre ∧ Jx pre W'))

/-- How a round ends. -/
def RoundEnds {α : Type} (B : Nat) (Kp : World → World → Prop) (I : List α → World → Prop) (Ix : Code → List α → World → Prop) (xs : List α) (W : World) : Exit → Act → World → Prop
  | .normal, _, W' => KeepsFrom B W W' ∧ Kp W W' ∧ I xs W'
  | .ret, _, W' => KeepsFrom B W W' ∧ Ix .ret xs W'
  | .exit id, _, W' => KeepsFrom B W W' ∧ Ix (.exit id) xs W'
  | .goto t, _, W' => KeepsFrom B W W' ∧ Ix (.goto t) xs W'
  | .panic _, _, _ => False
  | .outgrown, _, _ => False

/-- The book-keeping behind a round's body: the record is turned once more. -/
theorem round_over {α : Type} {B l D : Nat} {rec : LoopState → Option Code → Loop} (hrec : ∀ st pe, rec st pe = { rec .ready none with state := st, pending := pe })
    {Kp : World → World → Prop} {I : List α → World → Prop} {Ix : Code → List α → World → Prop} (hB : B ≤ D) (hD : D < l)
    (hKt : ∀ {A C E : World}, Kp A C → Kp C E → Kp A E) (hKu : ∀ A C, Turn B A C → Kp A C)
    (hI : ∀ s A C, I s A → Turn B A C → I s C) (hIx : ∀ c s A C, Ix c s A → Turn B A C → Ix c s C)
    {W0 W W' : World} {xs : List α} {e : Exit} {a : Act} (h0 : Kp W0 W) (hl : W.heap[l]? = some (.loop (rec .busy none))) (hd : W.heap[D]? = some (.deferred (some [])))
    (h : RoundEnds B Kp I Ix xs W e a W') :
    roundPost P l (fun e W' => (e = .returned (.bool true) ∧ (I xs W' ∧ W'.heap[l]? = some (.loop (rec .ready none)) ∧ W'.heap[D]? = some (.deferred (some []))) ∧ Kp W0 W') ∨
      (e = .returned (.bool false) ∧ ∃ c, Ix c xs W' ∧ W'.heap[l]? = some (.loop (rec .done (some c))) ∧ W'.heap[D]? = some (.deferred (some [])))) e a W' := by
  have keep : ∀ (hk : KeepsFrom B W W') (jump : Option Code), (Instr.endRound l jump).run P W' = .ok (.bool jump.isNone) (W'.putObj l (.loop (rec (if jump.isNone then .ready else .done) jump))) ∧
      Turn B W' (W'.putObj l (.loop (rec (if jump.isNone then .ready else .done) jump))) ∧
      (W'.putObj l (.loop (rec (if jump.isNone then .ready else .done) jump))).heap[l]? = some (.loop (rec (if jump.isNone then .ready else .done) jump)) ∧
      (W'.putObj l (.loop (rec (if jump.isNone then .ready else .done) jump))).heap[D]? = some (.deferred (some [])) := by
    intro hk jump
    have hl' := hk.same l _ (by omega) hl rfl
    have hd' := hk.same D _ hB hd rfl
    have hr := run_endRound (P := P) jump hl'
    rw [hrec .busy none] at hr
    rw [hrec (if jump.isNone then .ready else .done) jump]
    exact ⟨hr, Turn.put hl' rfl (by omega) _, World.putObj_heap_same (Array.getElem?_eq_some_iff.1 hl').1, (World.putObj_heap_other (by omega)).trans hd'⟩
  cases e with
  | normal =>
    obtain ⟨hk, hkp, hi⟩ := h
    obtain ⟨h1, h2, h3, h4⟩ := keep hk none
    exact ⟨_, _, h1, .inl ⟨rfl, ⟨hI _ _ _ hi h2, h3, h4⟩, hKt (hKt h0 hkp) (hKu _ _ h2)⟩⟩
  | ret =>
    obtain ⟨hk, hi⟩ := h
    obtain ⟨h1, h2, h3, h4⟩ := keep hk (some .ret)
    exact ⟨_, _, h1, .inr ⟨rfl, _, hIx _ _ _ _ hi h2, h3, h4⟩⟩
  | exit id =>
    obtain ⟨hk, hi⟩ := h
    obtain ⟨h1, h2, h3, h4⟩ := keep hk (some (.exit id))
    exact ⟨_, _, h1, .inr ⟨rfl, _, hIx _ _ _ _ hi h2, h3, h4⟩⟩
  | goto t =>
    obtain ⟨hk, hi⟩ := h
    obtain ⟨h1, h2, h3, h4⟩ := keep hk (some (.goto t))
    exact ⟨_, _, h1, .inr ⟨rfl, _, hIx _ _ _ _ hi h2, h3, h4⟩⟩
  | panic ch => exact h.elim
  | outgrown => exact h.elim

theorem wp_range {α : Type} {g : Operand} {ps : Array Tmp} {assign body : Code} {Q : Exit → Act → World → Prop} {a : Act} {w : World} {gf : Nat} {lb : Array Value}
    (hg : a.eval g = .func (.func gf) #[] lb) (eg : ∀ args w, (callFunc gf args).run P w = .ok (.enter gf args) w)
    {encs : α → Array Value} {Ab Kp : World → World → Prop} {Nx : List α → α → Prop} {S Sp : List α → Prop}
    (hAb : ∀ A C (k : Nat) (o : Obj), Ab A C → A.heap[k]? = some o → o.isCells = false → C.heap[k]? = some o)
    (hKt : ∀ {A C E : World}, Kp A C → Kp C E → Kp A E) (hKu : ∀ A C, Turn w.heap.size A C → Kp A C)
    (it : ∀ W, Turn w.heap.size w W → Iter P gf lb encs Ab Kp Nx S Sp W)
    (hps : ∀ x, (encs x).size = ps.size)
    (I : List α → World → Prop) (Ix : Code → List α → World → Prop)
    (hI : ∀ s A C, I s A → Turn w.heap.size A C → I s C) (hIx : ∀ c s A C, Ix c s A → Turn w.heap.size A C → Ix c s C)
    (hIA : ∀ s A C, I s A → Ab A C → I s C) (hIxA : ∀ c s A C, Ix c s A → Ab A C → Ix c s C) (h0 : I [] w)
    (a₁ : α → Act)
    (hassign : ∀ (l : Nat) (x : α) (W : World) (K : Act → World → Prop), K (a₁ x) W →
      assign.wpIn (Fence.wide.inRound l) 0 P (Exit.then K (fun _ _ _ => False)) { tmps := (ps.zip (encs x)).foldl (fun t (p, v) => t.setIfInBounds p v) a.tmps, defers := [] } W)
    (hbody : ∀ (l : Nat) (pre : List α) (x : α) (W : World), I pre W → Nx pre x → body.wpIn (Fence.wide.inRound l) 0 P (RoundEnds w.heap.size Kp I Ix (pre ++ [x]) W) (a₁ x) W)
    (hdone : ∀ (D : Nat) (xs : List α) (W : World), w.heap.size ≤ D → S xs → I xs W → W.heap[D]? = some (.deferred (some [])) → Q .normal { a with defers := { target := .collected D, args := #[] } :: a.defers } W)
    (hstop : ∀ (D : Nat) (c : Code) (pre : List α) (W : World), w.heap.size ≤ D → Sp pre → Ix c pre W → W.heap[D]? = some (.deferred (some [])) → c.wpIn Fence.wide 0 P Q { a with defers := { target := .collected D, args := #[] } :: a.defers } W) :
    (Code.rangeFunc g ps assign body).wpIn Fence.wide 0 P Q a w := by
  refine wpIn_rangeFunc ?_
  intro fn hfn
  obtain ⟨rec, hR⟩ : ∃ rec : LoopState → Option Code → Loop, rec = fun st pe => { state := st, pending := pe, fn := fn, tmps := a.tmps, params := ps, assign := assign, body := body, defers := w.heap.size } := ⟨_, rfl⟩
  have hrec : ∀ st pe, rec st pe = { rec .ready none with state := st, pending := pe } := fun st pe => by rw [hR]
  obtain ⟨W1, hW1⟩ : ∃ W1, (w.alloc (.deferred (some []))).alloc (.loop (rec .ready none)) = W1 := ⟨_, rfl⟩
  have hT : Turn w.heap.size w W1 := by rw [← hW1]; exact (Turn.alloc _ _ (Nat.le_refl _)).trans (Turn.alloc _ _ (by simp))
  have hl1 : W1.heap[w.heap.size + 1]? = some (.loop (rec .ready none)) := by
    rw [← hW1]; have := World.alloc_heap_new (w.alloc (.deferred (some []))) (.loop (rec .ready none)); rwa [World.size_alloc] at this
  have hd1 : W1.heap[w.heap.size]? = some (.deferred (some [])) := by
    rw [← hW1]; exact (Below.heap_alloc _ _ _ (by simp)).trans (World.alloc_heap_new w _)
  refine ⟨w.heap.size + 1, [{ target := .collected w.heap.size, args := #[] }], W1, { target := .fn (.func gf) lb, args := #[.func (.yield (w.heap.size + 1)) #[] #[]] }, W1, gf,
    #[.func (.yield (w.heap.size + 1)) #[] #[]] ++ lb, W1, ?_, ?_, fun _ _ => trivial, ?_, fun h => by simp [Fence.wide] at h, ?_⟩
  · rw [← hW1, hR]; exact run_enterLoop_outer _ _ _ _ _
  · simp only [resolve, hg]
    simp [go_sem]
  · simp [invoke, go_sem, eg]
  · refine (it W1 hT (w.heap.size + 1)
      (fun pre W => I pre W ∧ W.heap[w.heap.size + 1]? = some (.loop (rec .ready none)) ∧ W.heap[w.heap.size]? = some (.deferred (some [])))
      (fun pre W => ∃ c, Ix c pre W ∧ W.heap[w.heap.size + 1]? = some (.loop (rec .done (some c))) ∧ W.heap[w.heap.size]? = some (.deferred (some [])))
      (fun s A C h hab => ⟨hIA s A C h.1 hab, hAb A C _ _ hab h.2.1 rfl, hAb A C _ _ hab h.2.2 rfl⟩)
      (fun s A C h hab => by
        obtain ⟨c, h1, h2, h3⟩ := h
        exact ⟨c, hIxA c s A C h1 hab, hAb A C _ _ hab h2 rfl, hAb A C _ _ hab h3 rfl⟩)
      ?_ ⟨hI _ _ _ h0 hT, hl1, hd1⟩).mono ?_
    · rintro pre x W ⟨hi, hl, hd⟩ hlen
      have hy := run_yield (P := P) (args := encs x) hl (by rw [hR]; exact hps x)
      have hll : w.heap.size + 1 < W.heap.size := (Array.getElem?_eq_some_iff.1 hl).1
      have hu : Turn w.heap.size W (W.putObj (w.heap.size + 1) (.loop (rec .busy none))) := Turn.put hl rfl (by omega) _
      have hb : (Instr.beginRound (w.heap.size + 1)).run P W = .ok () (W.putObj (w.heap.size + 1) (.loop (rec .busy none))) := by
        rw [run_beginRound (P := P) hl (by rw [hR])]; rw [hR]
      rw [hR] at hy
      refine ⟨fn, _, assign, body, hy, roundIn_of_wpIn trivial (hassign _ x W _ ⟨_, hb, ?_⟩)⟩
      refine wpIn_mono (hbody _ pre x _ (hI _ _ _ hi hu) hlen) ?_
      intro e a3 W3 hp
      refine round_over (P := P) (Kp := Kp) (B := w.heap.size) (D := w.heap.size) hrec (Nat.le_refl _) (Nat.lt_succ_self _) hKt hKu hI hIx (hKu _ _ hu) ?_ ?_ hp
      · exact World.putObj_heap_same hll
      · exact (World.putObj_heap_other (by omega)).trans hd
    · rintro e W2 ⟨⟨v, rfl⟩, (⟨xs, hS, hi, hl, hd⟩ | ⟨pre, hSp, c, hi, hl, hd⟩)⟩
      · have he := run_endLoop (P := P) hl (by rw [hR]; simp)
        have hu := Turn.put (B := w.heap.size) hl rfl (by omega) (.loop { rec .ready none with state := .exhausted })
        refine ⟨none, _, ?_, hdone _ xs _ (Nat.le_refl _) hS (hI _ _ _ hi hu) ((World.putObj_heap_other (by omega)).trans hd)⟩
        rw [he, hR]
      · have he := run_endLoop (P := P) hl (by rw [hR]; simp)
        have hu := Turn.put (B := w.heap.size) hl rfl (by omega) (.loop { rec .done (some c) with state := .exhausted })
        refine ⟨some c, _, ?_, hstop _ c pre _ (Nat.le_refl _) hSp (hIx _ _ _ _ hi hu) ((World.putObj_heap_other (by omega)).trans hd)⟩
        rw [he, hR]
end Go.Proofs.YtpgjhjlhipikgaaDoor.Rg
end
section
set_option linter.unusedVariables false
set_option linter.unusedSimpArgs false
namespace Go.Proofs.YtpgjhjlhipikgaaDoor.PK
open Go.RowKit Go.Proofs.YtpgjhjlhipikgaaDoorW.PrintWords Go.Proofs.YtpgjhjlhipikgaaDoorW.PrintLast Go.Proofs.YtpgjhjlhipikgaaDoorW.PrintMore
/-! the table of kinds -/
theorem bk_empty (s : ByteArray) : decide (s.size ≠ 0) = !s.toList.isEmpty := by
  rw [ByteArray.toList_eq, Bool.eq_iff_iff]
  show decide (s.data.size ≠ 0) = true ↔ _
  rw [← Array.length_toList]
  cases s.data.toList <;> simp
theorem bk_text1 (s : ByteArray) (w : World) : Calls Tryd.prog 64 #[.string s] w fun e w' => e = .returned (.bool (decide (s.size ≠ 0))) ∧ w' = w := by
  go_enter Tryd.func64, Tryd.ntmps64
  go_wp2
  go_ret
  exact ⟨by show _ = Ending.returned (Value.bool _); rw [bk_empty]; rfl, rfl⟩
theorem bk_text3 (s : ByteArray) (w : World) : Calls Tryd.prog 68 #[.string s] w fun e w' => e = .returned (.bool true) ∧ w' = w := by
  go_enter Tryd.func68, Tryd.ntmps68
  go_wp2
  go_ret
  exact ⟨rfl, rfl⟩
theorem bk_between (a b : ByteArray) (w : World) : Calls Tryd.prog 65 #[.string a, .string b] w fun e w' =>
    e = .returned (.func (.func 66) #[] #[.pointer (some ⟨w.heap.size, 0, none⟩), .pointer (some ⟨w.heap.size + 1, 0, none⟩)]) ∧ w' = (w.alloc (.cells #[.string a] 9)).alloc (.cells #[.string b] 9) := by
  go_enter Tryd.func65, Tryd.ntmps65
  go_wp2
  go_ret
  exact ⟨rfl, rfl⟩
/-- A line's maker: it has two strings in cells of its own. -/
def bk_Line (W : World) (B : Nat) (L : Value) (a b : ByteArray) : Prop := ∃ x y, B ≤ x ∧ B ≤ y ∧ L = .func (.func 66) #[] #[.pointer (some ⟨x, 0, none⟩), .pointer (some ⟨y, 0, none⟩)] ∧
  W.heap[x]? = some (Obj.cells #[.string a] 9 (0, 0)) ∧ W.heap[y]? = some (Obj.cells #[.string b] 9 (0, 0))
theorem bk_Line.step {W W' : World} {B : Nat} {L : Value} {a b : ByteArray} (h : bk_Line W B L a b) (hk : ∀ (x : Nat) (v : Array Value), W.heap[x]? = some (Obj.cells v 9 (0, 0)) → W'.heap[x]? = some (Obj.cells v 9 (0, 0))) : bk_Line W' B L a b := by
  obtain ⟨x, y, h1, h2, h3, h4, h5⟩ := h
  exact ⟨x, y, h1, h2, h3, hk _ _ h4, hk _ _ h5⟩
def bk_kind (t : Value) (q : Bool) (l : Value) : Value := .agg #[t, .bool q, l]
def bk_f (n : Nat) : Value := .func (.func n) #[] #[]
def bk_kinds (L1 L3 L4 L5 : Value) (j : Int) : Option Value := if j = 5 then some (bk_kind (bk_f 69) false L5) else if j = 4 then some (bk_kind (bk_f 64) false L4) else if j = 3 then some (bk_kind (bk_f 68) true L3) else
  if j = 2 then some (bk_kind (bk_f 64) false (bk_f 67)) else if j = 1 then some (bk_kind (bk_f 64) false L1) else none
theorem bk_size (w : World) (o : Obj) : (w.alloc o).heap.size = w.heap.size + 1 := by show (_ : Array Obj).size = _; exact Array.size_push _
theorem bk_line_new (W : World) (B : Nat) (a b : ByteArray) (h : B ≤ W.heap.size) :
    bk_Line ((W.alloc (.cells #[.string a] 9)).alloc (.cells #[.string b] 9)) B (.func (.func 66) #[] #[.pointer (some ⟨W.heap.size, 0, none⟩), .pointer (some ⟨W.heap.size + 1, 0, none⟩)]) a b := by
  have h1 := MapKept.heap_alloc W (.cells #[.string a] 9)
  have h2 := MapKept.heap_alloc (W.alloc (.cells #[.string a] 9)) (.cells #[.string b] 9)
  have hs : (W.alloc (.cells #[.string a] 9)).heap.size = W.heap.size + 1 := bk_size _ _
  rw [hs] at h2
  refine ⟨_, _, h, Nat.le_succ_of_le h, rfl, ?_, h2.1⟩
  rw [Below.heap_alloc _ _ _ (by rw [hs]; omega)]
  exact h1.1
theorem bk_two (W : World) (o o' : Obj) : ∀ (x : Nat) (v : Array Value), W.heap[x]? = some (Obj.cells v 9 (0, 0)) → ((W.alloc o).alloc o').heap[x]? = some (Obj.cells v 9 (0, 0)) := fun x v h => by
  have hlt := (Array.getElem?_eq_some_iff.1 h).1
  have hs : (W.alloc o).heap.size = W.heap.size + 1 := bk_size _ _
  rw [Below.heap_alloc _ _ _ (by rw [hs]; omega), Below.heap_alloc _ _ _ hlt]
  exact h
set_option maxHeartbeats 4000000 in
set_option maxRecDepth 100000 in
theorem bk_kinds_calls (w : World) : Calls Tryd.prog 40 #[] w fun e w' => ∃ b L1 L3 L4 L5, e = .returned (.map (some b)) ∧ w.heap.size ≤ b ∧
    Mp.IMap w' b 5 (bk_kinds L1 L3 L4 L5) ∧ bk_Line w' w.heap.size L1 ⟨#[]⟩ ⟨#[]⟩ ∧ bk_Line w' w.heap.size L3 ⟨#[34]⟩ ⟨#[34]⟩ ∧ bk_Line w' w.heap.size L4 ⟨#[91]⟩ ⟨#[93]⟩ ∧ bk_Line w' w.heap.size L5 ⟨#[35]⟩ ⟨#[]⟩ ∧ Below w.heap.size w w' := by
  have hI := Mp.IMap.made w
  have hB := below_alloc (Below.refl w.heap.size w) (.map #[] 0)
  have hmk := @run_makeMap Tryd.prog
  go_enter Tryd.func40, Tryd.ntmps40
  go_wp2_with ((first | (with_reducible refine Mp.is_insert (.inl rfl) ?_) | (with_reducible refine Mp.is_insert (.inr rfl) ?_)); refine Rg.stop_here ?_)
  refine (bk_between _ _ _).mono ?_
  rintro e w1 ⟨rfl, rfl⟩
  have hB0 := hB
  replace hB := below_alloc (below_alloc hB (.cells #[.string (⟨#[]⟩ : ByteArray)] 9)) (.cells #[.string (⟨#[]⟩ : ByteArray)] 9)
  replace hI := (hI.alloc (.cells #[.string (⟨#[]⟩ : ByteArray)] 9)).alloc (.cells #[.string (⟨#[]⟩ : ByteArray)] 9)
  have hL1 := bk_line_new _ w.heap.size ((⟨#[]⟩ : ByteArray)) ((⟨#[]⟩ : ByteArray)) (below_size hB0)
  go_wp2_with ((first | (with_reducible refine Mp.is_insert (.inl rfl) ?_) | (with_reducible refine Mp.is_insert (.inr rfl) ?_)); refine Rg.stop_here ?_)
  refine ⟨?_⟩
  refine Mp.wpList_put rfl _ _ _ 54 (.inl rfl) 3 52 Tryd.underlying54 Tryd.underlying3 _ 0 _ rfl hI (by unfold maxLen; omega) 1 _ rfl rfl (by first | rfl | simp) ?_
  intro w1' hI' hgr
  replace hL1 := hL1.step (fun _ _ hx => hI.kept hgr hx)
  replace hB := hB.grown hgr (below_size hB) (fun j hj => by cases hj; exact Nat.le_refl _)
  replace hI := hI'
  clear hgr hI'
  go_wp2_with ((first | (with_reducible refine Mp.is_insert (.inl rfl) ?_) | (with_reducible refine Mp.is_insert (.inr rfl) ?_)); refine Rg.stop_here ?_)
  refine ⟨?_⟩
  refine Mp.wpList_put rfl _ _ _ 54 (.inl rfl) 3 52 Tryd.underlying54 Tryd.underlying3 _ 1 _ rfl hI (by unfold maxLen; omega) 2 _ rfl rfl (by first | rfl | simp) ?_
  intro w2' hI' hgr
  replace hL1 := hL1.step (fun _ _ hx => hI.kept hgr hx)
  replace hB := hB.grown hgr (below_size hB) (fun j hj => by cases hj; exact Nat.le_refl _)
  replace hI := hI'
  clear hgr hI'
  go_wp2_with ((first | (with_reducible refine Mp.is_insert (.inl rfl) ?_) | (with_reducible refine Mp.is_insert (.inr rfl) ?_)); refine Rg.stop_here ?_)
  refine (bk_between _ _ _).mono ?_
  rintro e w3 ⟨rfl, rfl⟩
  have hB0 := hB
  replace hB := below_alloc (below_alloc hB (.cells #[.string (⟨#[34]⟩ : ByteArray)] 9)) (.cells #[.string (⟨#[34]⟩ : ByteArray)] 9)
  replace hI := (hI.alloc (.cells #[.string (⟨#[34]⟩ : ByteArray)] 9)).alloc (.cells #[.string (⟨#[34]⟩ : ByteArray)] 9)
  replace hL1 := hL1.step (bk_two _ (.cells #[.string (⟨#[34]⟩ : ByteArray)] 9) (.cells #[.string (⟨#[34]⟩ : ByteArray)] 9))
  have hL3 := bk_line_new _ w.heap.size ((⟨#[34]⟩ : ByteArray)) ((⟨#[34]⟩ : ByteArray)) (below_size hB0)
  go_wp2_with ((first | (with_reducible refine Mp.is_insert (.inl rfl) ?_) | (with_reducible refine Mp.is_insert (.inr rfl) ?_)); refine Rg.stop_here ?_)
  refine ⟨?_⟩
  refine Mp.wpList_put rfl _ _ _ 54 (.inl rfl) 3 52 Tryd.underlying54 Tryd.underlying3 _ 2 _ rfl hI (by unfold maxLen; omega) 3 _ rfl rfl (by first | rfl | simp) ?_
  intro w3' hI' hgr
  replace hL1 := hL1.step (fun _ _ hx => hI.kept hgr hx)
  replace hL3 := hL3.step (fun _ _ hx => hI.kept hgr hx)
  replace hB := hB.grown hgr (below_size hB) (fun j hj => by cases hj; exact Nat.le_refl _)
  replace hI := hI'
  clear hgr hI'
  go_wp2_with ((first | (with_reducible refine Mp.is_insert (.inl rfl) ?_) | (with_reducible refine Mp.is_insert (.inr rfl) ?_)); refine Rg.stop_here ?_)
  refine (bk_between _ _ _).mono ?_
  rintro e w4 ⟨rfl, rfl⟩
  have hB0 := hB
  replace hB := below_alloc (below_alloc hB (.cells #[.string (⟨#[91]⟩ : ByteArray)] 9)) (.cells #[.string (⟨#[93]⟩ : ByteArray)] 9)
  replace hI := (hI.alloc (.cells #[.string (⟨#[91]⟩ : ByteArray)] 9)).alloc (.cells #[.string (⟨#[93]⟩ : ByteArray)] 9)
  replace hL1 := hL1.step (bk_two _ (.cells #[.string (⟨#[91]⟩ : ByteArray)] 9) (.cells #[.string (⟨#[93]⟩ : ByteArray)] 9))
  replace hL3 := hL3.step (bk_two _ (.cells #[.string (⟨#[91]⟩ : ByteArray)] 9) (.cells #[.string (⟨#[93]⟩ : ByteArray)] 9))
  have hL4 := bk_line_new _ w.heap.size ((⟨#[91]⟩ : ByteArray)) ((⟨#[93]⟩ : ByteArray)) (below_size hB0)
  go_wp2_with ((first | (with_reducible refine Mp.is_insert (.inl rfl) ?_) | (with_reducible refine Mp.is_insert (.inr rfl) ?_)); refine Rg.stop_here ?_)
  refine ⟨?_⟩
  refine Mp.wpList_put rfl _ _ _ 54 (.inl rfl) 3 52 Tryd.underlying54 Tryd.underlying3 _ 3 _ rfl hI (by unfold maxLen; omega) 4 _ rfl rfl (by first | rfl | simp) ?_
  intro w4' hI' hgr
  replace hL1 := hL1.step (fun _ _ hx => hI.kept hgr hx)
  replace hL3 := hL3.step (fun _ _ hx => hI.kept hgr hx)
  replace hL4 := hL4.step (fun _ _ hx => hI.kept hgr hx)
  replace hB := hB.grown hgr (below_size hB) (fun j hj => by cases hj; exact Nat.le_refl _)
  replace hI := hI'
  clear hgr hI'
  go_wp2_with ((first | (with_reducible refine Mp.is_insert (.inl rfl) ?_) | (with_reducible refine Mp.is_insert (.inr rfl) ?_)); refine Rg.stop_here ?_)
  refine (bk_between _ _ _).mono ?_
  rintro e w5 ⟨rfl, rfl⟩
  have hB0 := hB
  replace hB := below_alloc (below_alloc hB (.cells #[.string (⟨#[35]⟩ : ByteArray)] 9)) (.cells #[.string (⟨#[]⟩ : ByteArray)] 9)
  replace hI := (hI.alloc (.cells #[.string (⟨#[35]⟩ : ByteArray)] 9)).alloc (.cells #[.string (⟨#[]⟩ : ByteArray)] 9)
  replace hL1 := hL1.step (bk_two _ (.cells #[.string (⟨#[35]⟩ : ByteArray)] 9) (.cells #[.string (⟨#[]⟩ : ByteArray)] 9))
  replace hL3 := hL3.step (bk_two _ (.cells #[.string (⟨#[35]⟩ : ByteArray)] 9) (.cells #[.string (⟨#[]⟩ : ByteArray)] 9))
  replace hL4 := hL4.step (bk_two _ (.cells #[.string (⟨#[35]⟩ : ByteArray)] 9) (.cells #[.string (⟨#[]⟩ : ByteArray)] 9))
  have hL5 := bk_line_new _ w.heap.size ((⟨#[35]⟩ : ByteArray)) ((⟨#[]⟩ : ByteArray)) (below_size hB0)
  go_wp2_with ((first | (with_reducible refine Mp.is_insert (.inl rfl) ?_) | (with_reducible refine Mp.is_insert (.inr rfl) ?_)); refine Rg.stop_here ?_)
  refine ⟨?_⟩
  refine Mp.wpList_put rfl _ _ _ 54 (.inl rfl) 3 52 Tryd.underlying54 Tryd.underlying3 _ 4 _ rfl hI (by unfold maxLen; omega) 5 _ rfl rfl (by first | rfl | simp) ?_
  intro w5' hI' hgr
  replace hL1 := hL1.step (fun _ _ hx => hI.kept hgr hx)
  replace hL3 := hL3.step (fun _ _ hx => hI.kept hgr hx)
  replace hL4 := hL4.step (fun _ _ hx => hI.kept hgr hx)
  replace hL5 := hL5.step (fun _ _ hx => hI.kept hgr hx)
  replace hB := hB.grown hgr (below_size hB) (fun j hj => by cases hj; exact Nat.le_refl _)
  replace hI := hI'
  clear hgr hI'
  have hs1 : (w.alloc (.map #[] 0)).heap.size = w.heap.size + 1 := bk_size _ _
  rw [hs1] at hL1
  go_wp2
  go_ret
  exact ⟨_, _, _, _, _, rfl, Nat.le_refl _, hI, hL1, hL3, hL4, hL5, hB⟩
theorem bk_cell {w : World} {b : Nat} {cs : Array Value} {t : TypeId} {fr : Nat × Nat} (h : w.heap[b]? = some (.cells cs t fr)) (j : Nat) : w.cell? ⟨b, j, none⟩ = cs[j]? := by
  simp [World.cell?, h]
theorem bk_frozen {w : World} {b : Nat} {cs : Array Value} {t : TypeId} (h : w.heap[b]? = some (.cells cs t (0, 0))) (j : Nat) : w.frozen? ⟨b, j, none⟩ = false := by
  simp [World.frozen?, h]
def bk_noKind : Obj := .cells #[.nilFunc, .bool false, .nilFunc] 52
theorem bk_noKind_cells (w : World) : (w.alloc bk_noKind).cell? ⟨w.heap.size, 0, none⟩ = some .nilFunc ∧ (w.alloc bk_noKind).cell? ⟨w.heap.size, 1, none⟩ = some (.bool false) ∧ (w.alloc bk_noKind).cell? ⟨w.heap.size, 2, none⟩ = some .nilFunc ∧
    (w.alloc bk_noKind).frozen? ⟨w.heap.size, 0, none⟩ = false ∧ (w.alloc bk_noKind).frozen? ⟨w.heap.size, 1, none⟩ = false ∧ (w.alloc bk_noKind).frozen? ⟨w.heap.size, 2, none⟩ = false := by
  have h : (w.alloc bk_noKind).heap[w.heap.size]? = some bk_noKind := (MapKept.heap_alloc w bk_noKind).1
  exact ⟨bk_cell h 0, bk_cell h 1, bk_cell h 2, bk_frozen h 0, bk_frozen h 1, bk_frozen h 2⟩
theorem bk_zeroKind (w : World) : (zeroValue 52).run Tryd.prog w = .ok (.agg #[.nilFunc, .bool false, .nilFunc]) w := by kernel_rfl
/-- What a kind of block wants of its text, and whether it quotes. -/
def bk_Want (kind : Int) (T : Nat) (q : Bool) : Prop :=
  ((kind = 1 ∨ kind = 2 ∨ kind = 4) ∧ T = 64 ∧ q = false) ∨ (kind = 3 ∧ T = 68 ∧ q = true) ∨ (kind = 5 ∧ T = 69 ∧ q = false)
def bk_Fn (v : Value) : Prop := ∃ fn c, v = .func fn #[] c
theorem bk_Line.fn {W : World} {B : Nat} {L : Value} {a b : ByteArray} (h : bk_Line W B L a b) : bk_Fn L := by
  obtain ⟨x, y, _, _, rfl, _⟩ := h
  exact ⟨_, _, rfl⟩
theorem bk_kinds_cases (kind : Int) : ((∀ L1 L3 L4 L5, bk_kinds L1 L3 L4 L5 kind = none) ∧ kind ≠ 1 ∧ kind ≠ 2 ∧ kind ≠ 3 ∧ kind ≠ 4 ∧ kind ≠ 5) ∨
    ∃ (T : Nat) (q : Bool), bk_Want kind T q ∧ ∀ L1 L3 L4 L5, bk_Fn L1 → bk_Fn L3 → bk_Fn L4 → bk_Fn L5 → ∃ fn c, bk_kinds L1 L3 L4 L5 kind = some (.agg #[.func (.func T) #[] #[], .bool q, .func fn #[] c]) := by
  by_cases h5 : kind = 5
  · subst h5; exact .inr ⟨_, _, .inr (.inr ⟨rfl, rfl, rfl⟩), fun _ _ _ _ _ _ _ ⟨fn, c, h⟩ => ⟨fn, c, by subst h; rfl⟩⟩
  by_cases h4 : kind = 4
  · subst h4; exact .inr ⟨_, _, .inl ⟨.inr (.inr rfl), rfl, rfl⟩, fun _ _ _ _ _ _ ⟨fn, c, h⟩ _ => ⟨fn, c, by subst h; rfl⟩⟩
  by_cases h3 : kind = 3
  · subst h3; exact .inr ⟨_, _, .inr (.inl ⟨rfl, rfl, rfl⟩), fun _ _ _ _ _ ⟨fn, c, h⟩ _ _ => ⟨fn, c, by subst h; rfl⟩⟩
  by_cases h2 : kind = 2
  · subst h2; exact .inr ⟨_, _, .inl ⟨.inr (.inl rfl), rfl, rfl⟩, fun _ _ _ _ _ _ _ _ => ⟨_, _, rfl⟩⟩
  by_cases h1 : kind = 1
  · subst h1; exact .inr ⟨_, _, .inl ⟨.inl rfl, rfl, rfl⟩, fun _ _ _ _ ⟨fn, c, h⟩ _ _ _ => ⟨fn, c, by subst h; rfl⟩⟩
  exact .inl ⟨fun _ _ _ _ => by simp [bk_kinds, h1, h2, h3, h4, h5], h1, h2, h3, h4, h5⟩
theorem bk_belA {w w1 : World} {o : Obj} (h : Below (w.alloc o).drew.heap.size (w.alloc o).drew w1) : Below (w.heap.size + 1) (w.alloc o) w1 ∧ w.heap.size + 1 ≤ w1.heap.size := by
  have e : (w.alloc o).drew.heap.size = w.heap.size + 1 := bk_size w o
  exact ⟨⟨h.os, h.tape, h.output, h.size, fun i hi => h.block i (by rw [e]; exact hi)⟩, e ▸ h.size⟩
theorem bk_belB {w w1 : World} {o o' : Obj} (h : Below ((w.alloc o).alloc o').drew.heap.size ((w.alloc o).alloc o').drew w1) : Below (w.heap.size + 1) (w.alloc o) w1 ∧ w.heap.size + 1 ≤ w1.heap.size := by
  have e : ((w.alloc o).alloc o').drew.heap.size = w.heap.size + 1 + 1 := (bk_size _ o').trans (by rw [bk_size])
  have e2 : (w.alloc o).heap.size = w.heap.size + 1 := bk_size w o
  have hs := h.size
  rw [e] at hs
  exact ⟨⟨h.os, h.tape, h.output, by omega, fun i hi => (h.block i (by rw [e]; omega)).trans (Below.heap_alloc _ _ i (by rw [e2]; exact hi))⟩, by omega⟩
theorem bk_belw {w w1 : World} {o : Obj} (h : Below (w.heap.size + 1) (w.alloc o) w1) : Below w.heap.size w w1 :=
  ⟨h.os, h.tape, h.output, by have := h.size; rw [bk_size] at this; omega, fun i hi => (h.block i (by omega)).trans (Below.heap_alloc _ _ i hi)⟩
theorem bk_belbox {w w1 : World} {cs : Array Value} {t : TypeId} (h : Below (w.heap.size + 1) (w.alloc (.cells cs t)) w1) : w1.heap[w.heap.size]? = some (.cells cs t (0, 0)) :=
  (h.block _ (by omega)).trans (MapKept.heap_alloc w _).1
/-- The cells of a block's copy. -/
structure bk_Box (W : World) (b : Nat) (x0 x1 : Int) (x2 : ByteArray) (x3 x4 x5 : Int) (v6 : Value) (x7 x8 : Int) : Prop where mk ::
  c0 : W.cell? ⟨b, 0, none⟩ = some (.int .i64 x0)
  c1 : W.cell? ⟨b, 1, none⟩ = some (.int .i64 x1)
  c2 : W.cell? ⟨b, 2, none⟩ = some (.string x2)
  c3 : W.cell? ⟨b, 3, none⟩ = some (.int .i64 x3)
  c4 : W.cell? ⟨b, 4, none⟩ = some (.int .i64 x4)
  c5 : W.cell? ⟨b, 5, none⟩ = some (.int .i64 x5)
  c6 : W.cell? ⟨b, 6, none⟩ = some v6
  c7 : W.cell? ⟨b, 7, none⟩ = some (.int .i64 x7)
  c8 : W.cell? ⟨b, 8, none⟩ = some (.int .i64 x8)
theorem bk_Box.of {W : World} {b : Nat} {x0 x1 : Int} {x2 : ByteArray} {x3 x4 x5 : Int} {v6 : Value} {x7 x8 : Int} (h : W.heap[b]? = some (.cells #[.int .i64 x0, .int .i64 x1, .string x2, .int .i64 x3, .int .i64 x4, .int .i64 x5, v6, .int .i64 x7, .int .i64 x8] 26 (0, 0))) :
    bk_Box W b x0 x1 x2 x3 x4 x5 v6 x7 x8 := ⟨bk_cell h 0, bk_cell h 1, bk_cell h 2, bk_cell h 3, bk_cell h 4, bk_cell h 5, bk_cell h 6, bk_cell h 7, bk_cell h 8⟩
theorem bk_Box.step {W W' : World} {b : Nat} {x0 x1 : Int} {x2 : ByteArray} {x3 x4 x5 : Int} {v6 : Value} {x7 x8 : Int} (h : bk_Box W b x0 x1 x2 x3 x4 x5 v6 x7 x8) (hb : Below W.heap.size W W') : bk_Box W' b x0 x1 x2 x3 x4 x5 v6 x7 x8 :=
  ⟨(hb.cell (World.block_lt_of_cell? _ _ h.c0)).trans h.c0, (hb.cell (World.block_lt_of_cell? _ _ h.c1)).trans h.c1, (hb.cell (World.block_lt_of_cell? _ _ h.c2)).trans h.c2, (hb.cell (World.block_lt_of_cell? _ _ h.c3)).trans h.c3, (hb.cell (World.block_lt_of_cell? _ _ h.c4)).trans h.c4, (hb.cell (World.block_lt_of_cell? _ _ h.c5)).trans h.c5, (hb.cell (World.block_lt_of_cell? _ _ h.c6)).trans h.c6, (hb.cell (World.block_lt_of_cell? _ _ h.c7)).trans h.c7, (hb.cell (World.block_lt_of_cell? _ _ h.c8)).trans h.c8⟩
theorem bk_stepc {W W' : World} {p : Addr} {v : Value} (h : W.cell? p = some v) (hb : Below W.heap.size W W') : W'.cell? p = some v := (hb.cell (World.block_lt_of_cell? _ _ h)).trans h
end Go.Proofs.YtpgjhjlhipikgaaDoor.PK
end
section
namespace Go.Proofs.YtpgjhjlhipikgaaDoor.PK
open Go.RowKit Go.Proofs.YtpgjhjlhipikgaaDoorW.PrintWords Go.Proofs.YtpgjhjlhipikgaaDoorW.PrintLast Go.Proofs.YtpgjhjlhipikgaaDoorW.PrintMore
attribute [local go_sem] max2_int min2_int max_two min_two max_three min_three max_four min_four   -- for this text's walks alone
set_option linter.unusedVariables false
set_option linter.unusedSimpArgs false

/-! ### block_Valid: function 19 -/
-- NEEDS Derived.Test.YtpgjhjlhipikgaaDoorKDefs
-- NEEDS Derived.Test.YtpgjhjlhipikgaaDoorKKinds
-- NEEDS Derived.Deep.Cut
-- NEEDS Derived.Deep.RegionWith
-- NEEDS Derived.Laws.EntriesVeiled
theorem rd_nat (l : List Int) (x : Nat) (h : x < l.length) : rd l (x : Int) = l[x] := by
  simp [rd, List.getD_eq_getElem?_getD, h]
theorem pl_within (lo hi : Int) (l : List Int) (hl : l.length ≤ 9223372036854775807) : ∀ (d k x : Nat), x + d = l.length → d < k →
    label_within.l0 k lo hi l (l.length : Int) (x : Int) = some ((l.drop x).all fun y => decide (lo ≤ y) && decide (y ≤ hi))
  | 0, k, x, hx, hk => by
    obtain ⟨k, rfl⟩ : ∃ j, k = j + 1 := ⟨k - 1, by omega⟩
    rw [label_within.l0, if_neg (by omega), List.drop_eq_nil_of_le (by omega)]; rfl
  | d + 1, k, x, hx, hk => by
    obtain ⟨k, rfl⟩ : ∃ j, k = j + 1 := ⟨k - 1, by omega⟩
    have hlt : x < l.length := by omega
    have hw : wrap64 ((x : Int) + 1) = ((x + 1 : Nat) : Int) := by unfold wrap64; omega
    rw [label_within.l0, if_pos (by omega), if_pos (by omega), if_pos (by omega), rd_nat l x hlt, hw, pl_within lo hi l hl d k (x + 1) (by omega) (by omega), List.drop_eq_getElem_cons hlt, List.all_cons]
    by_cases h1 : l[x] < lo
    · rw [if_pos h1]; simp; intro h; omega
    · rw [if_neg h1]
      by_cases h2 : l[x] > hi
      · rw [if_pos h2]; simp; intro _ h; omega
      · rw [if_neg h2, show decide (lo ≤ l[x]) = true by simpa using h1, show decide (l[x] ≤ hi) = true by simpa using h2]; simp
theorem pl_asc (l : List Int) (hl : l.length ≤ 9223372036854775807) : ∀ (d k x : Nat), x + 1 + d = l.length → d < k →
    label_ascending_int.l0 k l ((x + 1 : Nat) : Int) = some (m_asc (l.drop x))
  | 0, k, x, hx, hk => by
    obtain ⟨k, rfl⟩ : ∃ j, k = j + 1 := ⟨k - 1, by omega⟩
    rw [label_ascending_int.l0, if_neg (by omega), List.drop_eq_getElem_cons (by omega : x < l.length), List.drop_eq_nil_of_le (by omega)]; rfl
  | d + 1, k, x, hx, hk => by
    obtain ⟨k, rfl⟩ : ∃ j, k = j + 1 := ⟨k - 1, by omega⟩
    have hlt : x < l.length := by omega
    have hlt2 : x + 1 < l.length := by omega
    have hw : wrap64 (((x + 1 : Nat) : Int) + 1) = ((x + 1 + 1 : Nat) : Int) := by unfold wrap64; omega
    have hv : wrap64 (((x + 1 : Nat) : Int) - 1) = (x : Int) := by unfold wrap64; omega
    rw [label_ascending_int.l0, if_pos (by omega), hv, if_pos (by omega), if_pos (by omega), if_pos (by omega), rd_nat l x hlt, rd_nat l (x + 1) hlt2, hw, pl_asc l hl d k (x + 1) (by omega) (by omega),
      List.drop_eq_getElem_cons hlt, List.drop_eq_getElem_cons hlt2, m_asc]
    by_cases h1 : l[x] ≥ l[x + 1]
    · rw [if_pos h1]; simp; intro h; omega
    · rw [if_neg h1, show decide (l[x] < l[x + 1]) = true by simp; omega]; rfl
theorem pl_asc0 (l : List Int) (hl : l.length ≤ 9223372036854775807) (k : Nat) (hk : l.length < k) : label_ascending_int.f k l = some (m_asc l) := by
  unfold label_ascending_int.f
  rcases Nat.eq_zero_or_pos l.length with h | h
  · obtain ⟨k, rfl⟩ : ∃ j, k = j + 1 := ⟨k - 1, by omega⟩
    rw [label_ascending_int.l0, if_neg (by omega), List.eq_nil_of_length_eq_zero h]; rfl
  · exact pl_asc l hl (l.length - 1) k 0 (by omega) (by omega)
theorem pl_label (u : Int) (l : List Int) (a d : Int) (hl : l.length ≤ 9223372036854775807) : label_Valid.f (l.length + 2) u l a d = some (m_label u l a d) := by
  have h1 : ∀ lo hi (m : List Int), m.length ≤ l.length + 1 → m.length ≤ 9223372036854775807 → label_within.f (l.length + 2) lo hi m = some (m.all fun y => decide (lo ≤ y) && decide (y ≤ hi)) := fun lo hi m hm hm2 => by
    unfold label_within.f; exact pl_within lo hi m hm2 m.length (l.length + 2) 0 (by omega) (by omega)
  unfold label_Valid.f m_label
  rw [h1 _ _ [u] (by simp) (by simp), h1 _ _ l (by omega) hl, h1 _ _ [a] (by simp) (by simp), h1 _ _ [d] (by simp) (by simp), pl_asc0 l hl _ (by omega)]
  simp only [Option.bind_some, List.all_cons, List.all_nil, Bool.and_true]
  by_cases c1 : (decide (0 ≤ u) && decide (u ≤ 1000000000)) = true
  · rw [if_pos c1, c1]
    by_cases c2 : (l.all fun y => decide (1 ≤ y) && decide (y ≤ 64)) = true
    · rw [if_pos c2, c2]
      by_cases c3 : m_asc l = true
      · rw [if_pos c3, c3]
        by_cases c4 : (decide (0 ≤ a) && decide (a ≤ 5)) = true
        · rw [if_pos c4]; simp only [Bool.true_and, Bool.and_assoc] at c4 ⊢; rw [← Bool.and_assoc, c4]; rfl
        · rw [if_neg c4]; simp only [Bool.not_eq_true] at c4; simp only [Bool.true_and]; rw [c4]; rfl
      · rw [if_neg c3]; simp only [Bool.not_eq_true] at c3; rw [c3]; simp
    · rw [if_neg c2]; simp only [Bool.not_eq_true] at c2; rw [c2]; simp
  · rw [if_neg c1]; simp only [Bool.not_eq_true] at c1; rw [c1]; simp
theorem bk_label (u : Int) (A : Option Addr) (c : Nat) (l : List Int) (a d : Int) (w : World) (hr : Kd.C (Kd.int .i64) w A l.length l) (hc : l.length ≤ c) :
    Calls Tryd.prog 42 #[.agg #[.int .i64 u, .slice A l.length c, .int .i64 a, .int .i64 d]] w fun e w' => e = .returned (.bool (m_label u l a d)) ∧ Below w.heap.size w w' :=
  label_Valid.calls _ u A c l a d _ w hr hc (pl_label u l a d (Kd.C_max hr))
theorem bk_within (n m : Int) (w : World) : Calls Tryd.prog 41 #[.int .i64 n, .int .i64 m] w fun e w' => e = .returned (.bool (decide (1 ≤ n) && decide (n ≤ m))) ∧ Drawn0 w w' :=
  block_within.calls n m _ w (by unfold block_within.f; by_cases h : 1 ≤ n <;> simp [h])
theorem bk_validNo (id kind : Int) (text : ByteArray) (story ref u : Int) (l : List Int) (a d : Int) (h : kind ≠ 1 ∧ kind ≠ 2 ∧ kind ≠ 3 ∧ kind ≠ 4 ∧ kind ≠ 5) : m_valid id kind text story ref u l a d = false := by
  simp [m_valid, h.1, h.2.1, h.2.2.1, h.2.2.2.1, h.2.2.2.2]
theorem bk_validF (id kind : Int) (text : ByteArray) (story ref u : Int) (l : List Int) (a d : Int) (h : (decide (1 ≤ id) && decide (id ≤ 1000)) = false ∨ m_label u l a d = false ∨ m_text text = false) : m_valid id kind text story ref u l a d = false := by
  unfold m_valid
  rcases h with h | h | h <;> simp only [h, Bool.false_and, Bool.and_false]
theorem bk_validFilled (id kind : Int) (text : ByteArray) (story ref u : Int) (l : List Int) (a d : Int) (hk : kind = 1 ∨ kind = 2 ∨ kind = 4) (h1 : (decide (1 ≤ id) && decide (id ≤ 1000)) = true) (h2 : m_label u l a d = true) (h3 : m_text text = true) :
    m_valid id kind text story ref u l a d = (decide (text.size ≠ 0) && decide (story = 0) && decide (ref = 0)) := by
  unfold m_valid
  simp only [h1, h2, h3, if_pos hk, Bool.true_and]
theorem bk_validQuote (id kind : Int) (text : ByteArray) (story ref u : Int) (l : List Int) (a d : Int) (hk : kind = 3) (h1 : (decide (1 ≤ id) && decide (id ≤ 1000)) = true) (h2 : m_label u l a d = true) (h3 : m_text text = true) :
    m_valid id kind text story ref u l a d = ((decide (1 ≤ story) && decide (story ≤ 64)) && (decide (1 ≤ ref) && decide (ref ≤ 1000))) := by
  subst hk
  unfold m_valid
  simp only [h1, h2, h3, Bool.true_and]
  rw [if_neg (by omega), if_neg (by omega)]
  simp only [if_true, Bool.and_assoc]
theorem bk_validCount (id kind : Int) (text : ByteArray) (story ref u : Int) (l : List Int) (a d : Int) (hk : kind = 5) (h1 : (decide (1 ≤ id) && decide (id ≤ 1000)) = true) (h2 : m_label u l a d = true) (h3 : m_text text = true) :
    m_valid id kind text story ref u l a d = (m_name text && decide (story = 0) && decide (ref = 0)) := by
  subst hk
  unfold m_valid
  simp only [h1, h2, h3, Bool.true_and]
  rw [if_neg (by omega)]
  simp only [if_true]
theorem bk_within_eq (n m : Int) (w : World) (r : Bool) (h : (decide (1 ≤ n) && decide (n ≤ m)) = r) : Calls Tryd.prog 41 #[.int .i64 n, .int .i64 m] w fun e w' => e = .returned (.bool r) ∧ Drawn0 w w' := h ▸ bk_within n m w
theorem bk_label_eq (u : Int) (A : Option Addr) (c : Nat) (l : List Int) (a d : Int) (w : World) (hr : Kd.C (Kd.int .i64) w A l.length l) (hc : l.length ≤ c) (r : Bool) (h : m_label u l a d = r) :
    Calls Tryd.prog 42 #[.agg #[.int .i64 u, .slice A l.length c, .int .i64 a, .int .i64 d]] w fun e w' => e = .returned (.bool r) ∧ Below w.heap.size w w' := h ▸ bk_label u A c l a d w hr hc
theorem bk_isText_eq (s : ByteArray) (w : World) (r : Bool) (h : m_text s = r) : Calls Tryd.prog 43 #[.string s] w fun e w' => e = .returned (.bool r) ∧ Below w.heap.size w w' := block_isText.calls s r w (congrArg some h)
theorem bk_isName_eq (s : ByteArray) (w : World) (r : Bool) (h : m_name s = r) : Calls Tryd.prog 69 #[.string s] w fun e w' => e = .returned (.bool r) ∧ Below w.heap.size w w' := block_isName.calls s r w (congrArg some h)
theorem bk_text1_eq (s : ByteArray) (w : World) (r : Bool) (h : decide (s.size ≠ 0) = r) : Calls Tryd.prog 64 #[.string s] w fun e w' => e = .returned (.bool r) ∧ Below w.heap.size w w' :=
  (bk_text1 s w).mono (by rintro e w' ⟨rfl, rfl⟩; exact ⟨by rw [h], Below.refl _ _⟩)
theorem bk_text3_eq (s : ByteArray) (w : World) : Calls Tryd.prog 68 #[.string s] w fun e w' => e = .returned (.bool true) ∧ Below w.heap.size w w' :=
  (bk_text3 s w).mono (by rintro e w' ⟨rfl, rfl⟩; exact ⟨rfl, Below.refl _ _⟩)
theorem bk_want (id kind : Int) (text : ByteArray) (story ref u : Int) (l : List Int) (a d : Int) (T : Nat) (q : Bool) (h : bk_Want kind T q) (h1 : (decide (1 ≤ id) && decide (id ≤ 1000)) = true) (h2 : m_label u l a d = true) (h3 : m_text text = true) :
    ∃ X : Bool, (∀ W, Sem.run Tryd.prog (callFunc T #[.string text]) W = .ok (.enter T #[.string text]) W) ∧ (∀ W, Calls Tryd.prog T #[.string text] W fun e w' => e = .returned (.bool X) ∧ Below W.heap.size W w') ∧
      m_valid id kind text story ref u l a d = (X && if q = true then ((decide (1 ≤ story) && decide (story ≤ 64)) && (decide (1 ≤ ref) && decide (ref ≤ 1000))) else (decide (story = 0) && decide (ref = 0))) := by
  rcases h with ⟨hk, rfl, rfl⟩ | ⟨hk, rfl, rfl⟩ | ⟨hk, rfl, rfl⟩
  · exact ⟨_, fun W => by go_simp, fun W => bk_text1_eq text W _ rfl, by rw [bk_validFilled _ _ _ _ _ _ _ _ _ hk h1 h2 h3, Bool.and_assoc]; rfl⟩
  · exact ⟨_, fun W => by go_simp, fun W => bk_text3_eq text W, by rw [bk_validQuote _ _ _ _ _ _ _ _ _ hk h1 h2 h3]; rfl⟩
  · exact ⟨_, fun W => by go_simp, fun W => bk_isName_eq text W _ rfl, by rw [bk_validCount _ _ _ _ _ _ _ _ _ hk h1 h2 h3, Bool.and_assoc]; rfl⟩
def block_Valid.f (a0_0 : Int) (a0_1 : Int) (a0_2 : ByteArray) (a0_3 : Int) (a0_4 : Int) (a0_5 : Int) (l0_6 : List Int) (a0_7 : Int) (a0_8 : Int) : Option Bool := some (m_valid a0_0 a0_1 a0_2 a0_3 a0_4 a0_5 l0_6 a0_7 a0_8)
set_option maxHeartbeats 20000000 in
set_option maxRecDepth 100000 in
theorem block_Valid.calls (a0_0 : Int) (a0_1 : Int) (a0_2 : ByteArray) (a0_3 : Int) (a0_4 : Int) (a0_5 : Int) (A0_6 : Option Addr) (c0_6 : Nat) (l0_6 : List Int) (a0_7 : Int) (a0_8 : Int) (r : Bool) (w : World) (hr0_6 : Kd.C (Kd.int .i64) w A0_6 l0_6.length l0_6) (hc0_6 : l0_6.length ≤ c0_6) (h : block_Valid.f a0_0 a0_1 a0_2 a0_3 a0_4 a0_5 l0_6 a0_7 a0_8 = some r) :
    Calls Tryd.prog 19 #[.agg #[.int .i64 a0_0, .int .i64 a0_1, .string a0_2, .int .i64 a0_3, .int .i64 a0_4, .int .i64 a0_5, .slice A0_6 l0_6.length c0_6, .int .i64 a0_7, .int .i64 a0_8]] w fun e w' => e = .returned (.bool r) ∧ Below w.heap.size w w' := by
  obtain rfl := Option.some.inj h
  clear h
  have HR := Aside0.mk hr0_6
  have HC := Aside0.mk hc0_6
  clear hr0_6 hc0_6
  go_enter Tryd.func19, Tryd.ntmps19
  have hbx := (MapKept.heap_alloc w (.cells #[.int .i64 a0_0, .int .i64 a0_1, .string a0_2, .int .i64 a0_3, .int .i64 a0_4, .int .i64 a0_5, .slice A0_6 l0_6.length c0_6, .int .i64 a0_7, .int .i64 a0_8] 26)).1
  have hb1 : (w.alloc (.cells #[.int .i64 a0_0, .int .i64 a0_1, .string a0_2, .int .i64 a0_3, .int .i64 a0_4, .int .i64 a0_5, .slice A0_6 l0_6.length c0_6, .int .i64 a0_7, .int .i64 a0_8] 26)).drew.cell? ⟨w.heap.size, 1, none⟩ = some (.int .i64 a0_1) := by show (w.alloc _).cell? _ = _; rw [bk_cell hbx]; rfl
  have hs1 : (w.alloc (.cells #[.int .i64 a0_0, .int .i64 a0_1, .string a0_2, .int .i64 a0_3, .int .i64 a0_4, .int .i64 a0_5, .slice A0_6 l0_6.length c0_6, .int .i64 a0_7, .int .i64 a0_8] 26)).heap.size = w.heap.size + 1 := bk_size _ _
  have hb2 : ((w.alloc (.cells #[.int .i64 a0_0, .int .i64 a0_1, .string a0_2, .int .i64 a0_3, .int .i64 a0_4, .int .i64 a0_5, .slice A0_6 l0_6.length c0_6, .int .i64 a0_7, .int .i64 a0_8] 26)).alloc bk_noKind).drew.cell? ⟨w.heap.size, 1, none⟩ = some (.int .i64 a0_1) := by
    show ((w.alloc _).alloc _).cell? _ = _
    exact ((below_alloc (Below.refl _ (w.alloc _)) bk_noKind).cell (World.block_lt_of_cell? _ _ (show (w.alloc (.cells #[.int .i64 a0_0, .int .i64 a0_1, .string a0_2, .int .i64 a0_3, .int .i64 a0_4, .int .i64 a0_5, .slice A0_6 l0_6.length c0_6, .int .i64 a0_7, .int .i64 a0_8] 26)).cell? ⟨w.heap.size, 1, none⟩ = some (.int .i64 a0_1) from hb1))).trans hb1
  obtain ⟨hy0, hy1, hy2, hyf0, hyf1, hyf2⟩ := bk_noKind_cells (w.alloc (.cells #[.int .i64 a0_0, .int .i64 a0_1, .string a0_2, .int .i64 a0_3, .int .i64 a0_4, .int .i64 a0_5, .slice A0_6 l0_6.length c0_6, .int .i64 a0_7, .int .i64 a0_8] 26))
  rw [hs1] at hy0 hy1 hy2 hyf0 hyf1 hyf2
  have hby : w.heap.size + 1 < ((w.alloc (.cells #[.int .i64 a0_0, .int .i64 a0_1, .string a0_2, .int .i64 a0_3, .int .i64 a0_4, .int .i64 a0_5, .slice A0_6 l0_6.length c0_6, .int .i64 a0_7, .int .i64 a0_8] 26)).alloc bk_noKind).heap.size := by rw [bk_size, bk_size]; omega
  clear hs1
  go_upto_region 1 with fail
  go_cut [3, 4] from 5 to 11 (fun v3 v4 wx => ∃ (g : Nat) (known : Bool) (T : Nat) (q : Bool), v3 = .pointer (some ⟨g, 0, none⟩) ∧ v4 = .bool known ∧
    ((known = false ∧ (a0_1 ≠ 1 ∧ a0_1 ≠ 2 ∧ a0_1 ≠ 3 ∧ a0_1 ≠ 4 ∧ a0_1 ≠ 5)) ∨ (known = true ∧ bk_Want a0_1 T q ∧ wx.cell? ⟨g, 0, none⟩ = some (.func (.func T) #[] #[]) ∧ wx.cell? ⟨g, 1, none⟩ = some (.bool q))) ∧
    Below (w.heap.size + 1) (w.alloc (.cells #[.int .i64 a0_0, .int .i64 a0_1, .string a0_2, .int .i64 a0_3, .int .i64 a0_4, .int .i64 a0_5, .slice A0_6 l0_6.length c0_6, .int .i64 a0_7, .int .i64 a0_8] 26)) wx)
  case first =>
    rcases bk_kinds_cases a0_1 with ⟨hnone, hne⟩ | ⟨T, q, hwant, hsome⟩
    · go_region_with (first | (go_at_call 40; refine (bk_kinds_calls _).mono ?_; rintro e w1 ⟨b, L1, L3, L4, L5, rfl, _, hI, hL1, hL3, hL4, hL5, hB⟩; have hlk := hI.look Tryd.underlying54 Tryd.underlying3 (bk_zeroKind _) a0_1 true; have hlk2 := (hI.alloc bk_noKind).look Tryd.underlying54 Tryd.underlying3 (bk_zeroKind _) a0_1 true; rw [hnone] at hlk hlk2; dsimp only [bk_noKind] at hlk hlk2; have hc1 := (hB.cell (World.block_lt_of_cell? _ _ hb1)).trans hb1; have hc2 := ((below_alloc (Below.refl w1.heap.size w1) bk_noKind).cell (World.block_lt_of_cell? _ _ hc1)).trans hc1; dsimp only [bk_noKind] at hc2; obtain ⟨hz0, hz1, hz2, hf0, hf1, hf2⟩ := bk_noKind_cells w1; dsimp only [bk_noKind] at hz0 hz1 hz2 hf0 hf1 hf2; obtain ⟨hBel, hge⟩ := bk_belA hB) | (go_at_call 40; refine (bk_kinds_calls _).mono ?_; rintro e w1 ⟨b, L1, L3, L4, L5, rfl, _, hI, hL1, hL3, hL4, hL5, hB⟩; have hlk := hI.look Tryd.underlying54 Tryd.underlying3 (bk_zeroKind _) a0_1 true; have hlk2 := (hI.alloc bk_noKind).look Tryd.underlying54 Tryd.underlying3 (bk_zeroKind _) a0_1 true; rw [hnone] at hlk hlk2; dsimp only [bk_noKind] at hlk hlk2; have hc1 := (hB.cell (World.block_lt_of_cell? _ _ hb2)).trans hb2; have hz0 := (hB.cell hby).trans hy0; have hz1 := (hB.cell hby).trans hy1; have hz2 := (hB.cell hby).trans hy2; have hf0 := (hB.frozen hby).trans hyf0; have hf1 := (hB.frozen hby).trans hyf1; have hf2 := (hB.frozen hby).trans hyf2; obtain ⟨hBel, hge⟩ := bk_belB hB))
      all_goals (go_wp2_with fail; go_meet; exact ⟨_, false, 0, false, rfl, rfl, .inl ⟨rfl, hne⟩, (by repeat (first | exact hBel | refine Below.setCell ?_ (by first | exact hge | exact Nat.le_refl _) _ | refine Below.alloc ?_ hge _))⟩)
    · go_region_with (first | (go_at_call 40; refine (bk_kinds_calls _).mono ?_; rintro e w1 ⟨b, L1, L3, L4, L5, rfl, _, hI, hL1, hL3, hL4, hL5, hB⟩; have hlk := hI.look Tryd.underlying54 Tryd.underlying3 (bk_zeroKind _) a0_1 true; have hlk2 := (hI.alloc bk_noKind).look Tryd.underlying54 Tryd.underlying3 (bk_zeroKind _) a0_1 true; obtain ⟨fn, cp, hV⟩ := hsome L1 L3 L4 L5 hL1.fn hL3.fn hL4.fn hL5.fn; rw [hV] at hlk hlk2; dsimp only [bk_noKind] at hlk hlk2; have hc1 := (hB.cell (World.block_lt_of_cell? _ _ hb1)).trans hb1; have hc2 := ((below_alloc (Below.refl w1.heap.size w1) bk_noKind).cell (World.block_lt_of_cell? _ _ hc1)).trans hc1; dsimp only [bk_noKind] at hc2; obtain ⟨hz0, hz1, hz2, hf0, hf1, hf2⟩ := bk_noKind_cells w1; dsimp only [bk_noKind] at hz0 hz1 hz2 hf0 hf1 hf2; obtain ⟨hBel, hge⟩ := bk_belA hB) | (go_at_call 40; refine (bk_kinds_calls _).mono ?_; rintro e w1 ⟨b, L1, L3, L4, L5, rfl, _, hI, hL1, hL3, hL4, hL5, hB⟩; have hlk := hI.look Tryd.underlying54 Tryd.underlying3 (bk_zeroKind _) a0_1 true; have hlk2 := (hI.alloc bk_noKind).look Tryd.underlying54 Tryd.underlying3 (bk_zeroKind _) a0_1 true; obtain ⟨fn, cp, hV⟩ := hsome L1 L3 L4 L5 hL1.fn hL3.fn hL4.fn hL5.fn; rw [hV] at hlk hlk2; dsimp only [bk_noKind] at hlk hlk2; have hc1 := (hB.cell (World.block_lt_of_cell? _ _ hb2)).trans hb2; have hz0 := (hB.cell hby).trans hy0; have hz1 := (hB.cell hby).trans hy1; have hz2 := (hB.cell hby).trans hy2; have hf0 := (hB.frozen hby).trans hyf0; have hf1 := (hB.frozen hby).trans hyf1; have hf2 := (hB.frozen hby).trans hyf2; obtain ⟨hBel, hge⟩ := bk_belB hB))
      all_goals (go_wp2_with fail; go_meet; exact ⟨_, true, T, q, rfl, rfl, .inr ⟨rfl, hwant, by go_simp, by go_simp⟩, (by repeat (first | exact hBel | refine Below.setCell ?_ (by first | exact hge | exact Nat.le_refl _) _ | refine Below.alloc ?_ hge _))⟩)
  case rest =>
    obtain ⟨g, known, T, q, rfl, rfl, hk, hBel⟩ := hcut
    have HB := bk_belw hBel
    obtain ⟨c0, c1, c2, c3, c4, c5, c6, c7, c8⟩ := bk_Box.of (bk_belbox hBel)
    clear hbx hb1 hb2 hy0 hy1 hy2 hyf0 hyf1 hyf2 hby hBel
    rcases hk with ⟨rfl, hne⟩ | ⟨rfl, hwant, hg0, hg1⟩
    · go_wp2_with fail
      go_ret
      exact ⟨by rw [bk_validNo _ _ _ _ _ _ _ _ _ hne]; rfl, HB⟩
    · cases hB1 : (decide (1 ≤ a0_0) && decide (a0_0 ≤ 1000)) with
      | false =>
        go_wp2_with (go_at_call 41; refine (bk_within_eq a0_0 1000 _ _ hB1).mono ?_; rintro e w2 ⟨rfl, ⟨nd, rfl⟩⟩)
        go_ret
        exact ⟨by rw [bk_validF _ _ _ _ _ _ _ _ _ (.inl hB1)]; rfl, pw_below_drewN HB nd⟩
      | true =>
      cases hB2 : m_label a0_5 l0_6 a0_7 a0_8 with
      | false =>
        go_wp2_with (first | (go_at_call 41; refine (bk_within_eq a0_0 1000 _ _ hB1).mono ?_; rintro e w2 ⟨rfl, ⟨nd, rfl⟩⟩) | (go_at_call 42; refine (bk_label_eq a0_5 _ _ l0_6 a0_7 a0_8 _ (Kd.C_below HR.out (pw_below_drewN HB nd)) HC.out _ hB2).mono ?_; rintro e w3 ⟨rfl, hb3⟩; have d2 := bk_stepc (W := wc.drewN nd) c2 hb3; have dg0 := bk_stepc (W := wc.drewN nd) hg0 hb3))
        go_ret
        exact ⟨by rw [bk_validF _ _ _ _ _ _ _ _ _ (.inr (.inl hB2))]; rfl, (below_step (pw_below_drewN HB nd) hb3)⟩
      | true =>
      cases hB3 : m_text a0_2 with
      | false =>
        go_wp2_with (first | (go_at_call 41; refine (bk_within_eq a0_0 1000 _ _ hB1).mono ?_; rintro e w2 ⟨rfl, ⟨nd, rfl⟩⟩) | (go_at_call 42; refine (bk_label_eq a0_5 _ _ l0_6 a0_7 a0_8 _ (Kd.C_below HR.out (pw_below_drewN HB nd)) HC.out _ hB2).mono ?_; rintro e w3 ⟨rfl, hb3⟩; have d2 := bk_stepc (W := wc.drewN nd) c2 hb3; have dg0 := bk_stepc (W := wc.drewN nd) hg0 hb3) | (go_at_call 43; refine (bk_isText_eq a0_2 _ _ hB3).mono ?_; rintro e w4 ⟨rfl, hb4⟩; have e2 := bk_stepc d2 hb4; have eg0 := bk_stepc dg0 hb4))
        go_ret
        exact ⟨by rw [bk_validF _ _ _ _ _ _ _ _ _ (.inr (.inr hB3))]; rfl, (below_step (below_step (pw_below_drewN HB nd) hb3) hb4)⟩
      | true =>
      obtain ⟨X, hrun, hT, hV⟩ := bk_want a0_0 a0_1 a0_2 a0_3 a0_4 a0_5 l0_6 a0_7 a0_8 T q hwant hB1 hB2 hB3
      go_wp2_with (first | (go_at_call 41; refine (bk_within_eq a0_0 1000 _ _ hB1).mono ?_; rintro e w2 ⟨rfl, ⟨nd, rfl⟩⟩) | (go_at_call 42; refine (bk_label_eq a0_5 _ _ l0_6 a0_7 a0_8 _ (Kd.C_below HR.out (pw_below_drewN HB nd)) HC.out _ hB2).mono ?_; rintro e w3 ⟨rfl, hb3⟩; have d2 := bk_stepc (W := wc.drewN nd) c2 hb3; have dg0 := bk_stepc (W := wc.drewN nd) hg0 hb3) | (go_at_call 43; refine (bk_isText_eq a0_2 _ _ hB3).mono ?_; rintro e w4 ⟨rfl, hb4⟩; have e2 := bk_stepc d2 hb4; have eg0 := bk_stepc dg0 hb4))
      try rw [hrun]
      refine (hT _).mono ?_
      rintro e w5 ⟨rfl, hb5⟩
      have HB5 := below_step (below_step (below_step (pw_below_drewN HB nd) hb3) hb4) hb5
      have hall : Below wc.heap.size wc w5 := below_step (below_step (below_step (pw_below_drewN (Below.refl _ _) nd) hb3) hb4) hb5
      have f3 := bk_stepc c3 hall
      have f4 := bk_stepc c4 hall
      have fg1 := bk_stepc hg1 hall
      cases X with
      | false =>
        go_wp2_with fail
        go_ret
        exact ⟨by rw [hV]; rfl, HB5⟩
      | true =>
      cases q with
      | false =>
        by_cases hs : a0_3 = 0
        · have hs1 : (a0_3 == 0) = true := by simpa using hs
          by_cases hf : a0_4 = 0
          · have hf1 : (a0_4 == 0) = true := by simpa using hf
            go_wp2_with fail
            go_ret
            exact ⟨by rw [hV]; simp [hs, hf], HB5⟩
          · have hf1 : (a0_4 == 0) = false := by simpa using hf
            go_wp2_with fail
            go_ret
            exact ⟨by rw [hV]; simp [hs, hf], HB5⟩
        · have hs1 : (a0_3 == 0) = false := by simpa using hs
          go_wp2_with fail
          go_ret
          exact ⟨by rw [hV]; simp [hs], HB5⟩
      | true =>
      cases hS : (decide (1 ≤ a0_3) && decide (a0_3 ≤ 64)) with
      | false =>
        go_wp2_with (go_at_call 41; with_reducible refine (bk_within_eq a0_3 64 _ _ hS).mono ?_; rintro e w6 ⟨rfl, ⟨n6, rfl⟩⟩)
        go_ret
        exact ⟨by rw [hV]; simp only [hS]; rfl, pw_below_drewN HB5 n6⟩
      | true =>
      cases hF : (decide (1 ≤ a0_4) && decide (a0_4 ≤ 1000)) with
      | false =>
        go_wp2_with (first | (go_at_call 41; with_reducible refine (bk_within_eq a0_3 64 _ _ hS).mono ?_; rintro e w6 ⟨rfl, ⟨n6, rfl⟩⟩) | (go_at_call 41; with_reducible refine (bk_within_eq a0_4 1000 _ _ hF).mono ?_; rintro e w7 ⟨rfl, ⟨n7, rfl⟩⟩))
        go_ret
        exact ⟨by rw [hV]; simp only [hS, hF]; rfl, pw_below_drewN HB5 (n6 + n7)⟩
      | true =>
        go_wp2_with (first | (go_at_call 41; with_reducible refine (bk_within_eq a0_3 64 _ _ hS).mono ?_; rintro e w6 ⟨rfl, ⟨n6, rfl⟩⟩) | (go_at_call 41; with_reducible refine (bk_within_eq a0_4 1000 _ _ hF).mono ?_; rintro e w7 ⟨rfl, ⟨n7, rfl⟩⟩))
        go_ret
        exact ⟨by rw [hV]; simp only [hS, hF]; rfl, pw_below_drewN HB5 (n6 + n7)⟩

end Go.Proofs.YtpgjhjlhipikgaaDoor.PK
end
section
set_option linter.unusedVariables false
namespace Go.Proofs.YtpgjhjlhipikgaaDoor.PK
open Go.RowKit Go.Proofs.YtpgjhjlhipikgaaDoorW.PrintWords Go.Proofs.YtpgjhjlhipikgaaDoorW.PrintLast Go.Proofs.YtpgjhjlhipikgaaDoorW.PrintMore
/-- The goal's next operation is an allocation. -/
theorem is_alloc {P : Program} {W : World} {ops : Array Oper} {rest : List Oper} {o : Oper} {a : Act} {Q : Exit → Act → World → Prop} {t : TypeId} (_ : o.op = .alloc t) (h : wpList P ops Q (o :: rest) a W) : wpList P ops Q (o :: rest) a W := h
/-- The goal's next operation is a store. -/
theorem is_store {P : Program} {W : World} {ops : Array Oper} {rest : List Oper} {o : Oper} {a : Act} {Q : Exit → Act → World → Prop} {t : TypeId} {p x : Operand} (_ : o.op = .store t p x) (h : wpList P ops Q (o :: rest) a W) : wpList P ops Q (o :: rest) a W := h
theorem wpList_store_box {P : Program} {W : World} {ops : Array Oper} {rest : List Oper} {o : Oper} {a : Act} {Q : Exit → Act → World → Prop} (hgd : o.guard = none) (hN : o.dst = none) (t : TypeId) (p x : Operand) (hop : o.op = .store t p x)
    (g : Nat) (cur cs : Array Value) (e : TypeId) (ha : a.eval p = .pointer (some ⟨g, 0, none⟩)) (hx : a.eval x = .agg cs) (hh : W.heap[g]? = some (.cells cur e (0, 0))) (hsz : (P.info? t).map (·.size) = some cs.toList.length) (hcur : cur.size = cs.size)
    (h1 : ∀ q ∈ cs.toList, q.oneCell' = true)
    (h : ∀ w2, w2.heap[g]? = some (.cells cs e (0, 0)) → (∀ B, B ≤ g → Below B W w2) → (∀ k, k ≠ g → w2.heap[k]? = W.heap[k]?) → wpList P ops Q rest a w2) : wpList P ops Q (o :: rest) a W := by
  refine wpList_plain hgd fun K hK => ?_
  have hrun : (Instr.storeAt t (.pointer (some ⟨g, 0, none⟩)) (.agg cs)).run P W = .ok () (W.setCells g 0 cs.toList) :=
    run_store_run t (.agg cs) cs.toList hh rfl hsz (by rw [Array.length_toList]; omega) h1
  obtain ⟨cur', hr1, hr2, hr3⟩ := setCells_row cs.toList 0 W cur hh (by rw [Array.length_toList]; omega)
  have hcs : cur' = cs := by
    apply Array.ext'
    rw [hr3, List.take_zero, List.nil_append, List.drop_eq_nil_of_le (by rw [Array.length_toList, Array.length_toList]; omega), List.append_nil]
  subst hcs
  obtain ⟨s1, s2, s3, s4⟩ := setCells_same g cur'.toList 0 W
  have hlt := (Array.getElem?_eq_some_iff.1 hh).1
  unfold Oper.wp execOp
  simp only [hop, ha, hx, Sem.run_bind, Sem.run_pure, Result.andThen_ok, hrun]
  show K (a.put o.dst undef) _
  rw [hN]
  exact hK _ _ (h _ hr1 (fun B hB => ⟨s1, s2, s3, by omega, fun k hk => setCells_far _ _ k (by omega)⟩) (fun k hk => setCells_far _ _ k hk))
theorem bk_size26 : (Tryd.prog.info? 26).map (·.size) = some 9 := by kernel_rfl
theorem bk_rd (l : List (S26)) (j : Nat) (h : j < l.length) : rd_T26 l (j : Int) = l[j] := by
  simp [rd_T26, List.getD_eq_getElem?_getD, h]
theorem bk_size52 : (Tryd.prog.info? 52).map (·.size) = some 3 := by kernel_rfl
end Go.Proofs.YtpgjhjlhipikgaaDoor.PK
end
section
namespace Go.Proofs.YtpgjhjlhipikgaaDoor.PK
open Go.RowKit Go.Proofs.YtpgjhjlhipikgaaDoorW.PrintWords Go.Proofs.YtpgjhjlhipikgaaDoorW.PrintLast Go.Proofs.YtpgjhjlhipikgaaDoorW.PrintMore
attribute [local go_sem] max2_int min2_int max_two min_two max_three min_three max_four min_four   -- for this text's walks alone
set_option linter.unusedVariables false
set_option linter.unusedSimpArgs false

/-! ### block_ValidList: function 21 -/
-- NEEDS Derived.Test.YtpgjhjlhipikgaaDoorKBox
def block_ValidList.f (l0 : List (S26)) : Option Bool := some (m_validL l0)
/-- The IDs that were seen. -/
def bk_seen (ids : List Int) (i : Int) : Option Value := if ids.contains i then some (.bool true) else none
theorem bk_seen_put (ids : List Int) (x : Int) : (fun j => if j = x then some (.bool true) else bk_seen ids j) = bk_seen (x :: ids) := by
  funext j
  unfold bk_seen
  by_cases h : j = x
  · subst h; simp
  · simp [h]
theorem bk_zeroBool (w : World) : (zeroValue 4).run Tryd.prog w = .ok (.bool false) w := by kernel_rfl
set_option maxHeartbeats 4000000 in
set_option maxRecDepth 100000 in
theorem block_ValidList.calls (A0 : Option Addr) (c0 : Nat) (l0 : List (S26)) (r : Bool) (w : World) (hr0 : Kd.C k26 w A0 l0.length l0) (hc0 : l0.length ≤ c0) (h : block_ValidList.f l0 = some r) :
    Calls Tryd.prog 21 #[.slice A0 l0.length c0] w fun e w' => e = .returned (.bool r) ∧ Below w.heap.size w w' := by
  obtain rfl := Option.some.inj h
  clear h
  have HR := Aside0.mk hr0
  clear hr0 hc0
  have hmk := @run_makeMap Tryd.prog
  by_cases hlen : (l0.length : Int) > 24
  · go_enter Tryd.func21, Tryd.ntmps21
    go_wp2
    go_ret
    refine ⟨?_, Below.refl _ _⟩
    have hl : ¬ l0.length ≤ 24 := by omega
    simp [m_validL, hl]
  · go_enter Tryd.func21, Tryd.ntmps21
    go_wp2
    go_loopw [12] (fun p wr => ∃ (j : Nat) (ids : List Int), p = .int .i64 (j : Int) ∧ j ≤ l0.length ∧ ids.length = j ∧ Mp.IMap wr w.heap.size j (bk_seen ids) ∧ Aside0 (m_fresh ids (l0.drop j) = m_fresh [] l0) ∧ Below w.heap.size w wr)
      (fun p _ => l0.length - (intOf p).toNat)
    case atStart => exact ⟨0, [], rfl, Nat.zero_le _, rfl, Mp.IMap.made w, ⟨rfl⟩, below_alloc (Below.refl _ _) _⟩
    case round =>
      obtain ⟨j, ids, rfl, hj, hids, hI, hF, hB⟩ := hrel
      by_cases hlt : j < l0.length
      · have hd : decide ((j : Int) < (l0.length : Int)) = true := by simp; omega
        obtain ⟨ad, A6, c6, e0, hx0, hx1, hx2, hx3, hx4, hx5, hx6, hx7, hx8, hl6, hi6⟩ := at_T26 HR.out (j : Int) (by omega) (by omega)
        rw [bk_rd l0 j hlt] at hx0 hx1 hx2 hx3 hx4 hx5 hx6 hx7 hx8 hl6 hi6
        obtain ⟨x, hx⟩ : ∃ x, l0[j] = x := ⟨_, rfl⟩
        rw [hx] at hx0 hx1 hx2 hx3 hx4 hx5 hx6 hx7 hx8 hl6 hi6
        have hdrop : l0.drop j = x :: l0.drop (j + 1) := by rw [List.drop_eq_getElem_cons hlt, hx]
        have HD := Aside0.mk hdrop
        clear hx hdrop
        simp only [Int.toNat_natCast] at hx0 hx1 hx2 hx3 hx4 hx5 hx6 hx7 hx8
        cases e0
        replace hx0 := bk_stepc hx0 hB
        replace hx1 := bk_stepc hx1 hB
        replace hx2 := bk_stepc hx2 hB
        replace hx3 := bk_stepc hx3 hB
        replace hx4 := bk_stepc hx4 hB
        replace hx5 := bk_stepc hx5 hB
        replace hx6 := bk_stepc hx6 hB
        replace hx7 := bk_stepc hx7 hB
        replace hx8 := bk_stepc hx8 hB
        have HI6 := Aside0.mk hi6
        have HL6 := Aside0.mk hl6
        clear hi6 hl6
        have p1 : (0 : Int) ≤ (j : Int) := by omega
        go_wp2_with (with_reducible refine is_alloc rfl ?_; refine Rg.stop_here ?_)
        refine ⟨?_⟩
        refine box_event rfl (N := 5) rfl (cs := #[.int .i64 0, .int .i64 0, .string (⟨#[]⟩ : ByteArray), .int .i64 0, .int .i64 0, .int .i64 0, .slice none 0 0, .int .i64 0, .int .i64 0]) (t := 26) (by first | (go_simp; done) | (go_simp; rfl)) ?_
        intro g hg w1 hbx hb1
        have HG := Aside0.mk hg
        clear hg
        go_wp2_with (with_reducible refine is_store rfl ?_; refine Rg.stop_here ?_)
        refine ⟨?_⟩
        refine wpList_store_box rfl rfl _ _ _ rfl g _ _ _ rfl rfl hbx bk_size26 rfl (by repeat (first | exact List.forall_mem_nil _ | refine List.forall_mem_cons.2 ⟨rfl, ?_⟩)) ?_
        intro w2 hbx2 hst hot
        have hgw : w.heap.size < g := by rw [HG.out]; exact hI.lt
        have hB2 : Below w.heap.size w w2 := (below_step hB hb1).trans (hst _ (by omega))
        have hI2 : Mp.IMap w2 w.heap.size j (bk_seen ids) := hI.step (fun es c he => by rw [hot _ (by omega), hb1.block _ hI.lt]; exact he)
        obtain ⟨d0, d1, d2, d3, d4, d5, d6, d7, d8⟩ := bk_Box.of hbx2
        have hlk := hI2.look Tryd.underlying58 Tryd.underlying3 (bk_zeroBool _) x.f0 false
        have hF' := hF.out
        rw [HD.out] at hF'
        simp only [m_fresh] at hF'
        have HF := Aside0.mk hF'
        clear hF' hb1 hbx hx0 hx1 hx2 hx3 hx4 hx5 hx6 hx7 hx8 hI hF hB hst hot
        cases hc : ids.contains x.f0 with
        | true =>
          rw [show bk_seen ids x.f0 = some (.bool true) by unfold bk_seen; rw [hc]; rfl] at hlk
          dsimp only at hlk
          go_wp2_with fail
          go_ret
          refine ⟨?_, hB2⟩
          have h24 : l0.length ≤ 24 := by omega
          have hf := HF.out
          rw [hc] at hf
          simp [m_validL, h24, ← hf]
        | false =>
          have hnone : bk_seen ids x.f0 = none := by unfold bk_seen; rw [hc]; rfl
          rw [hnone] at hlk
          dsimp only at hlk
          cases hv : m_validB x with
          | false =>
            go_wp2_with (go_at_call 19; refine (block_Valid.calls x.f0 x.f1 x.f2 x.f3 x.f4 x.f5.f0 A6 c6 x.f5.f1 x.f5.f2 x.f5.f3 false _ (Kd.C_below HI6.out hB2) HL6.out (congrArg some hv)).mono ?_; rintro e w3 ⟨rfl, hb3⟩; have d0w := bk_stepc d0 hb3)
            go_ret
            refine ⟨?_, below_step hB2 hb3⟩
            have h24 : l0.length ≤ 24 := by omega
            have hf := HF.out
            rw [hc, hv] at hf
            simp [m_validL, h24, ← hf]
          | true =>
            go_wp2_with (first | (go_at_call 19; refine (block_Valid.calls x.f0 x.f1 x.f2 x.f3 x.f4 x.f5.f0 A6 c6 x.f5.f1 x.f5.f2 x.f5.f3 true _ (Kd.C_below HI6.out hB2) HL6.out (congrArg some hv)).mono ?_; rintro e w3 ⟨rfl, hb3⟩; have d0w := bk_stepc d0 hb3) | ((first | (with_reducible refine Mp.is_insert (.inl rfl) ?_) | (with_reducible refine Mp.is_insert (.inr rfl) ?_)); refine Rg.stop_here ?_))
            refine ⟨?_⟩
            have hI3 := hI2.below hb3 hI2.lt
            refine Mp.wpList_put rfl _ _ _ 58 (.inr rfl) 3 4 Tryd.underlying58 Tryd.underlying3 _ j _ rfl hI3 (by unfold maxLen; omega) x.f0 (.bool true) rfl rfl hnone ?_
            intro w4 hI4 hg4
            rw [bk_seen_put] at hI4
            go_wp2
            go_roundw
            case rel => exact ⟨j + 1, x.f0 :: ids, by go_num, by omega, by simp [hids], hI4, ⟨by have hf := HF.out; rw [hc, hv] at hf; simpa using hf⟩, (below_step hB2 hb3).grown hg4 (below_size (below_step hB2 hb3)) (fun k hk => by cases hk; exact Nat.le_refl _)⟩
            case measure => simp [intOf]; omega
      · have hjl : j = l0.length := by omega
        subst hjl
        have hd : decide (((l0.length : Nat) : Int) < (l0.length : Int)) = false := by simp
        go_wp2
        go_ret
        refine ⟨?_, hB⟩
        have h24 : l0.length ≤ 24 := by omega
        have hf := hF.out
        rw [List.drop_length] at hf
        simp [m_validL, h24, ← hf, m_fresh]

end Go.Proofs.YtpgjhjlhipikgaaDoor.PK
end
