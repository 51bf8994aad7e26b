/- Texts of this claim, one behind the other. -/
import Derived.Test.YtpgjhjlhipikgaaDoorMCx5
import Derived.Test.YtpgjhjlhipikgaaDoorMCx6
import Derived.Test.YtpgjhjlhipikgaaDoorMCx10
import Derived.Test.YtpgjhjlhipikgaaDoorMCx11
import Derived.ProofKit
import Derived.OpenShut
import Derived.DataElems
import Derived.Deep.Slices
section
namespace Go.Proofs.YtpgjhjlhipikgaaDoor.PK
open Go.RowKit Go.Proofs.YtpgjhjlhipikgaaDoorW.PrintWords Go.Proofs.YtpgjhjlhipikgaaDoorW.PrintLast Go.Proofs.YtpgjhjlhipikgaaDoorW.PrintMore
attribute [local go_sem] max2_int min2_int max_two min_two max_three min_three max_four min_four   -- for this text's walks alone
set_option linter.unusedVariables false
set_option linter.unusedSimpArgs false

/-! ### copydesklaw03_short: function 18 -/
def copydesklaw03_short.l0 : Nat → List (S26) → List (S26) → Int → Option ((List (S26)))
  | 0, _, _, _ => none
  | k + 1, x0, x3, x4 => if x4 < (x0.length : Int) then (if x4 < 30 then (if 0 ≤ x4 then (if 0 ≤ (mn (((rd_T26 x0 x4).f2).size : Int) 1000) then (if (mn (((rd_T26 x0 x4).f2).size : Int) 1000) ≤ (((rd_T26 x0 x4).f2).size : Int) then (if x3.length < 1466015503701 then (copydesklaw03_short.l0 k x0 (x3 ++ [(⟨(rd_T26 x0 x4).f0, (rd_T26 x0 x4).f1, ((rd_T26 x0 x4).f2).extract 0 ((mn (((rd_T26 x0 x4).f2).size : Int) 1000) : Int).toNat, (rd_T26 x0 x4).f3, (rd_T26 x0 x4).f4, (⟨(rd_T26 x0 x4).f5.f0, (rd_T26 x0 x4).f5.f1, (rd_T26 x0 x4).f5.f2, (rd_T26 x0 x4).f5.f3⟩ : S24)⟩ : S26)]) (wrap64 (x4 + 1))) else (none)) else (none)) else (none)) else (none)) else (some x3)) else (some x3)
def copydesklaw03_short.f (k : Nat) (l0 : List (S26)) : Option ((List (S26))) := copydesklaw03_short.l0 k l0 ([] : List (S26)) 0
theorem copydesklaw03_short.mono_l : ∀ k, (∀ y0 y1 y2, LeO (copydesklaw03_short.l0 k y0 y1 y2) (copydesklaw03_short.l0 (k + 1) y0 y1 y2))
  | 0 => fun _ _ _ r h => by simp [copydesklaw03_short.l0] at h
  | k + 1 => by
    have ih0 := copydesklaw03_short.mono_l k
    · intro y0 y1 y2
      unfold copydesklaw03_short.l0
      repeat' first
      | (with_reducible exact ih0 _ _ _)
      | (with_reducible exact LeO.refl _)
      | (with_reducible exact LeO.none _)
      | (with_reducible refine LeO.ite ?_ ?_)
      | (with_reducible refine LeO.bind ?_ (fun _ => ?_))
      | exact ih0 _ _ _
      | exact LeO.none _
      | refine LeO.ite ?_ ?_
      | refine LeO.bind ?_ (fun _ => ?_)
theorem copydesklaw03_short.mono : ∀ a0 k, LeO (copydesklaw03_short.f k a0) (copydesklaw03_short.f (k + 1) a0) := by
  intro a0 k
  have ih0 := copydesklaw03_short.mono_l k
  unfold copydesklaw03_short.f
  repeat' first
      | (with_reducible exact ih0 _ _ _)
      | (with_reducible exact LeO.refl _)
      | (with_reducible exact LeO.none _)
      | (with_reducible refine LeO.ite ?_ ?_)
      | (with_reducible refine LeO.bind ?_ (fun _ => ?_))
      | exact ih0 _ _ _
      | exact LeO.none _
      | refine LeO.ite ?_ ?_
      | refine LeO.bind ?_ (fun _ => ?_)
set_option maxHeartbeats 8000000 in
set_option maxRecDepth 100000 in
theorem copydesklaw03_short.calls (k : Nat) (P0_ : Nat → Prop) (A0 : Option Addr) (c0 : Nat) (l0 : List (S26)) (r : List (S26)) (w : World) (hs0 : Kd.V k26 26 w w.heap.size (fun k_ => P0_ k_) (.slice A0 l0.length c0) l0) (h : copydesklaw03_short.f k l0 = some r) :
    Calls Tryd.prog 18 #[.slice A0 l0.length c0] w fun e w' => ∃ v0_ : Value, e = .returned (v0_) ∧ Kd.N k26 26 w' w.heap.size (fun k_ => (P0_ k_ ∨ w.heap.size ≤ k_)) v0_ r ∧ Below w.heap.size w w' := by
  have hu26 := Tryd.underlying26
  have HO0 := Aside0.mk (show Kd.V k26 26 w w.heap.size (fun k_ => (P0_ k_ ∨ w.heap.size ≤ k_)) (.slice A0 l0.length c0) l0 from Kd.V_mono hs0 (fun k_ hk => .inl hk))
  have HB := Aside0.mk (Below.refl w.heap.size w)
  have H : (copydesklaw03_short.l0 k l0 ([] : List (S26)) 0) = some r := h
  clear h
  have H' := Aside0.mk H
  clear H
  go_enter Tryd.func18, Tryd.ntmps18
  go_wp2
  go_loopg [3, 4] k (fun kq v3 v4 w' => ∃ (x3_1 : List (S26)) (x4_1 : Int), v4 = .int .i64 x4_1 ∧ Aside0 (copydesklaw03_short.l0 kq l0 x3_1 x4_1 = some r) ∧ Aside0 (kq ≤ k) ∧ Aside0 (Kd.V k26 26 w' w.heap.size (fun k_ => (P0_ k_ ∨ w.heap.size ≤ k_) ∧ some k_ ≠ (v3 : Value).ownBlock) (.slice A0 l0.length c0) l0) ∧ Aside0 (Kd.N k26 26 w' w.heap.size (fun k_ => (P0_ k_ ∨ w.heap.size ≤ k_)) v3 x3_1) ∧ Aside0 (Below w.heap.size w w'))
  case atStart => exact ⟨(([] : List (S26))), (0), (by first | rfl | (simp; done) | (simp [*]; done)), H', ⟨Nat.le_refl _⟩, ⟨by (with_reducible repeat (first | apply Kd.V_alloc | apply Kd.V_drewN | apply Kd.V_drew)); exact Kd.V_mono HO0.out (fun _ hk => ⟨hk, (by simp [Value.ownBlock])⟩)⟩, ⟨by first | exact Kd.S_nil _ _ _ _ _ | exact Kd.N_nil _ _ _ _ _ | exact Kd.V_nil _ _ _ _ _ | exact Kd.Q_nil _ _ _ _ _ | exact Kd.R_nil _ _ _ _ _⟩, ⟨by repeat (first | (with_reducible first | exact HB.out | apply below_alloc | apply pw_below_drewN | apply below_drew1) | exact HB.out)⟩⟩
  case round =>
    clear H'
    try clear c1
    obtain ⟨x3_1, x4_1, rfl, HA, HK1, HO_0, HO_3, HB⟩ := hrel
    cases gk with
    | zero => exact absurd HA.out (by simp [copydesklaw03_short.l0])
    | succ k1 =>
      have H := HA.out
      clear HA
      simp only [copydesklaw03_short.l0] at H
      by_cases c2 : x4_1 < (l0.length : Int)
      · rw [if_pos c2] at H
        have c2b0 : decide (x4_1 < (l0.length : Int)) = true := decide_eq_true c2
        clear c2
        by_cases c3 : x4_1 < 30
        · rw [if_pos c3] at H
          have c3b0 : decide (x4_1 < 30) = true := decide_eq_true c3
          clear c3
          by_cases c4 : 0 ≤ x4_1
          · rw [if_pos c4] at H
            have c4b0 : decide (0 ≤ x4_1) = true := decide_eq_true c4
            clear c4
            obtain ⟨ji5, hji5⟩ : ∃ j_ : Int, (mn (((rd_T26 l0 x4_1).f2).size : Int) 1000) = j_ := ⟨_, rfl⟩
            replace H : (if 0 ≤ (ji5) then (if (ji5) ≤ (((rd_T26 l0 x4_1).f2).size : Int) then (if x3_1.length < 1466015503701 then (copydesklaw03_short.l0 k1 l0 (x3_1 ++ [(⟨(rd_T26 l0 x4_1).f0, (rd_T26 l0 x4_1).f1, ((rd_T26 l0 x4_1).f2).extract 0 ((ji5) : Int).toNat, (rd_T26 l0 x4_1).f3, (rd_T26 l0 x4_1).f4, (⟨(rd_T26 l0 x4_1).f5.f0, (rd_T26 l0 x4_1).f5.f1, (rd_T26 l0 x4_1).f5.f2, (rd_T26 l0 x4_1).f5.f3⟩ : S24)⟩ : S26)]) (wrap64 (x4_1 + 1))) else (none)) else (none)) else (none)) = some r := by first | (rw [hji5] at H; exact H) | (simp only [hji5] at H ⊢; exact H)
            have hji5_ : (if 1000 < (((rd_T26 l0 x4_1).f2).size : Int) then 1000 else (((rd_T26 l0 x4_1).f2).size : Int)) = ji5 := hji5
            by_cases c6 : 0 ≤ (ji5)
            · rw [if_pos c6] at H
              have c6b0 := eq_true c6
              have c6b1 : decide (0 ≤ (ji5)) = true := decide_eq_true c6
              clear c6
              by_cases c7 : (ji5) ≤ (((rd_T26 l0 x4_1).f2).size : Int)
              · rw [if_pos c7] at H
                have c7b0 := eq_true c7
                have c7b1 : decide ((ji5) ≤ (((rd_T26 l0 x4_1).f2).size : Int)) = true := decide_eq_true c7
                clear c7
                by_cases c8 : x3_1.length < 1466015503701
                · rw [if_pos c8] at H
                  have LMc8 := Aside0.mk c8
                  clear c8
                  obtain ⟨y141, hy141⟩ : ∃ y_ : List (S26), y_ = (x3_1 ++ [(⟨(rd_T26 l0 x4_1).f0, (rd_T26 l0 x4_1).f1, ((rd_T26 l0 x4_1).f2).extract 0 ((ji5) : Int).toNat, (rd_T26 l0 x4_1).f3, (rd_T26 l0 x4_1).f4, (⟨(rd_T26 l0 x4_1).f5.f0, (rd_T26 l0 x4_1).f5.f1, (rd_T26 l0 x4_1).f5.f2, (rd_T26 l0 x4_1).f5.f3⟩ : S24)⟩ : S26)]) := ⟨_, rfl⟩
                  replace H : (copydesklaw03_short.l0 k1 l0 y141 (wrap64 (x4_1 + 1))) = some r := by first | (rw [hy141]; with_reducible exact H) | (have H2_ := (Option.bind_some _ _).symm.trans H; rw [hy141]; with_reducible exact H2_) | (have H2_ := (Option.bind_some _ _).symm.trans H; with_reducible exact H2_) | with_reducible exact H | (rw [hy141]; exact H) | exact H
                  have Ny141 := Aside0.mk hy141
                  clear hy141
                  have H' := Aside0.mk H
                  clear H
                  have p139 : 0 ≤ (x4_1 : Int) := of_decide_eq_true (by first | (with_reducible assumption) | assumption)
                  have q139 : x4_1 < (l0.length : Int) := of_decide_eq_true (by first | (with_reducible assumption) | assumption)
                  obtain ⟨ad139, A139_6, c139_6, e139, hx139_0, hx139_1, hx139_2, hx139_3, hx139_4, hx139_5, hx139_6, hx139_7, hx139_8, hl139_6, hi139_6⟩ := at_T26 (Kd.V_reads' HO_0.out).2.2 x4_1 p139 q139
                  cases e139
                  obtain ⟨ce139, hce139, hMe139, hcc139⟩ := Kd.V_get HO_0.out z26 x4_1 p139 (by first | exact q139 | exact of_decide_eq_true (by first | (with_reducible assumption) | assumption) | (have e_ := (Kd.V_reads' HO_0.out).1; omega))
                  obtain ⟨ua139_6, uc139_6, rfl, ul139_6, ge139_6⟩ := k26_openF hMe139
                  have hv139_6 := hcc139 6 _ rfl
                  rw [add_field _ _ 6 (by omega)] at hv139_6
                  replace hv139_6 := Option.some.inj (hv139_6.symm.trans hx139_6)
                  injection hv139_6 with hva_ hvn_ hvc_
                  rw [hva_] at ge139_6
                  rw [hvc_] at ul139_6
                  have HL139_6 := Aside0.mk (show Kd.V (Kd.int .i64) 3 _ w.heap.size _ _ ((rd_T26 l0 x4_1).f5.f1) from Kd.V_mk ul139_6 ge139_6)
                  clear hva_ hvn_ hvc_ ge139_6 ul139_6
                  clear hcc139 hce139
                  have HR139_6 := Aside0.mk hi139_6
                  have HC139_6 := Aside0.mk hl139_6
                  clear hi139_6 hl139_6
                  replace p139 := eq_true p139
                  replace q139 := eq_true q139
                  go_wp2_with (first | ((with_reducible refine gate_dst (N := 5) rfl ?_); refine box_event ?hg (N := 5) ?hd (cs := #[.int .i64 0, .int .i64 0, .string (⟨#[]⟩ : ByteArray), .int .i64 0, .int .i64 0, .int .i64 0, .slice none 0 0, .int .i64 0, .int .i64 0]) (t := 26) ?hr ?_; (case hd => rfl); (case hg => rfl); (case hr => first | (go_simp; done) | (go_simp; rfl)); intro gb140 hg w9 hbox hb; have n0_ := Aside0.mk (Kd.V_below (Kd.V_elderB (by (with_reducible repeat (first | apply Kd.V_alloc | apply Kd.V_drewN | apply Kd.V_drew)); exact HO_0.out) gb140 (Nat.le_of_eq hg.symm)) hb); have n1_ := Aside0.mk (Kd.N_below (Kd.N_elderB (by (with_reducible repeat (first | apply Kd.N_alloc | apply Kd.N_drewN | apply Kd.N_drew)); exact HO_3.out) gb140 (Nat.le_of_eq hg.symm)) hb); have n2_ := Aside0.mk (Kd.V_below (Kd.V_elderB (by (with_reducible repeat (first | apply Kd.V_alloc | apply Kd.V_drewN | apply Kd.V_drew)); exact HL139_6.out) gb140 (Nat.le_of_eq hg.symm)) hb); have n3_ := Aside0.mk (Kd.C_below (by repeat (first | (with_reducible exact HR139_6.out) | (with_reducible refine Kd.C_alloc ?_ _) | (with_reducible refine Kd.C_drewN ?_ _) | (with_reducible refine Kd.C_drew ?_) | exact HR139_6.out)) hb); have n4_ := Aside0.mk (below_step (by repeat (first | (with_reducible first | exact HB.out | apply below_alloc | apply pw_below_drewN | apply below_drew1) | exact HB.out)) hb); have n5_ := Aside0.mk (hbox); have n6_ := Aside0.mk ((by rw [hg]; exact (below_size (by repeat (first | (with_reducible first | exact HB.out | apply below_alloc | apply pw_below_drewN | apply below_drew1) | exact HB.out))) : w.heap.size ≤ gb140)); have n7_ := Aside0.mk ((by rw [hg]; exact (below_size (by repeat (first | (with_reducible first | exact HB.out | apply below_alloc | apply pw_below_drewN | apply below_drew1) | exact HB.out))) : w.heap.size ≤ gb140)); clear HO_0; clear HO_3; clear HL139_6; clear HR139_6; clear HB; have HO_0 := n0_; have HO_3 := n1_; have HL139_6 := n2_; have HR139_6 := n3_; have HB := n4_; have BK140 := n5_; have GW140 := n6_; have GE140 := n7_; clear n0_ n1_ n2_ n3_ n4_ n5_ n6_ n7_; clear hb hbox hg; have hcz10_0 : w9.cell? ⟨gb140, 0, none⟩ = some (.int .i64 0) := (blk_cell BK140.out 0).trans rfl; have hcz10_1 : w9.cell? ⟨gb140, 1, none⟩ = some (.int .i64 0) := (blk_cell BK140.out 1).trans rfl; have hcz10_2 : w9.cell? ⟨gb140, 2, none⟩ = some (.string (⟨#[]⟩ : ByteArray)) := (blk_cell BK140.out 2).trans rfl; have hcz10_3 : w9.cell? ⟨gb140, 3, none⟩ = some (.int .i64 0) := (blk_cell BK140.out 3).trans rfl; have hcz10_4 : w9.cell? ⟨gb140, 4, none⟩ = some (.int .i64 0) := (blk_cell BK140.out 4).trans rfl; have hcz10_5 : w9.cell? ⟨gb140, 5, none⟩ = some (.int .i64 0) := (blk_cell BK140.out 5).trans rfl; have hcz10_6 : w9.cell? ⟨gb140, 6, none⟩ = some (.slice none 0 0) := (blk_cell BK140.out 6).trans rfl; have hcz10_7 : w9.cell? ⟨gb140, 7, none⟩ = some (.int .i64 0) := (blk_cell BK140.out 7).trans rfl; have hcz10_8 : w9.cell? ⟨gb140, 8, none⟩ = some (.int .i64 0) := (blk_cell BK140.out 8).trans rfl; have hfz10_0 := blk_frozen BK140.out 0; have hfz10_1 := blk_frozen BK140.out 1; have hfz10_2 := blk_frozen BK140.out 2; have hfz10_3 := blk_frozen BK140.out 3; have hfz10_4 := blk_frozen BK140.out 4; have hfz10_5 := blk_frozen BK140.out 5; have hfz10_6 := blk_frozen BK140.out 6; have hfz10_7 := blk_frozen BK140.out 7; have hfz10_8 := blk_frozen BK140.out 8) | ((with_reducible refine gate_store (t := 26) (p := 5) rfl ?_); refine store_event (t := 26) (p := 5) (v := ?vo_w11) (w1 := (((((((((w9.setCell ⟨gb140, 0, none⟩ (.int .i64 ((rd_T26 l0 x4_1).f0))).setCell ⟨gb140, 1, none⟩ (.int .i64 ((rd_T26 l0 x4_1).f1))).setCell ⟨gb140, 2, none⟩ (.string ((rd_T26 l0 x4_1).f2))).setCell ⟨gb140, 3, none⟩ (.int .i64 ((rd_T26 l0 x4_1).f3))).setCell ⟨gb140, 4, none⟩ (.int .i64 ((rd_T26 l0 x4_1).f4))).setCell ⟨gb140, 5, none⟩ (.int .i64 ((rd_T26 l0 x4_1).f5.f0))).setCell ⟨gb140, 6, none⟩ (.slice A139_6 ((rd_T26 l0 x4_1).f5.f1).length c139_6)).setCell ⟨gb140, 7, none⟩ (.int .i64 ((rd_T26 l0 x4_1).f5.f2))).setCell ⟨gb140, 8, none⟩ (.int .i64 ((rd_T26 l0 x4_1).f5.f3)))) ?hg ?ho ?hn ?hr ?_; (case ho => rfl); (case hg => rfl); (case hn => rfl); (case hr => first | (go_simp; done) | (go_simp; rfl)); intro w11 hw; have n0_ : Aside0 (Kd.V k26 26 w11 w.heap.size (fun k_ => (P0_ k_ ∨ w.heap.size ≤ k_) ∧ some k_ ≠ (u3 : Value).ownBlock ∧ k_ ≠ gb140) (.slice (some ad139) l0.length c0) l0) := ⟨(by rw [hw]; exact (by (with_reducible repeat (first | apply Kd.V_alloc | apply Kd.V_drewN | apply Kd.V_drew)); exact Kd.V_mono (Kd.V_far (p := ⟨gb140, 8, none⟩) (Kd.V_far (p := ⟨gb140, 7, none⟩) (Kd.V_far (p := ⟨gb140, 6, none⟩) (Kd.V_far (p := ⟨gb140, 5, none⟩) (Kd.V_far (p := ⟨gb140, 4, none⟩) (Kd.V_far (p := ⟨gb140, 3, none⟩) (Kd.V_far (p := ⟨gb140, 2, none⟩) (Kd.V_far (p := ⟨gb140, 1, none⟩) (Kd.V_far (p := ⟨gb140, 0, none⟩) (Kd.V_mono HO_0.out (fun k_ hk => (⟨hk, hk.2⟩ : _ ∧ k_ ≠ gb140))) (fun _ hk => hk.2) (.int .i64 ((rd_T26 l0 x4_1).f0))) (fun _ hk => hk.2) (.int .i64 ((rd_T26 l0 x4_1).f1))) (fun _ hk => hk.2) (.string ((rd_T26 l0 x4_1).f2))) (fun _ hk => hk.2) (.int .i64 ((rd_T26 l0 x4_1).f3))) (fun _ hk => hk.2) (.int .i64 ((rd_T26 l0 x4_1).f4))) (fun _ hk => hk.2) (.int .i64 ((rd_T26 l0 x4_1).f5.f0))) (fun _ hk => hk.2) (.slice A139_6 ((rd_T26 l0 x4_1).f5.f1).length c139_6)) (fun _ hk => hk.2) (.int .i64 ((rd_T26 l0 x4_1).f5.f2))) (fun _ hk => hk.2) (.int .i64 ((rd_T26 l0 x4_1).f5.f3))) (fun _ hk => ⟨hk.1.1.1, ⟨hk.1.1.2, hk.1.2⟩⟩)))⟩; have n1_ : Aside0 (Kd.N k26 26 w11 w.heap.size (fun k_ => (P0_ k_ ∨ w.heap.size ≤ k_) ∧ k_ ≠ gb140) u3 x3_1) := ⟨(by rw [hw]; exact (by (with_reducible repeat (first | apply Kd.N_alloc | apply Kd.N_drewN | apply Kd.N_drew)); exact Kd.N_mono (Kd.N_far (p := ⟨gb140, 8, none⟩) (Kd.N_far (p := ⟨gb140, 7, none⟩) (Kd.N_far (p := ⟨gb140, 6, none⟩) (Kd.N_far (p := ⟨gb140, 5, none⟩) (Kd.N_far (p := ⟨gb140, 4, none⟩) (Kd.N_far (p := ⟨gb140, 3, none⟩) (Kd.N_far (p := ⟨gb140, 2, none⟩) (Kd.N_far (p := ⟨gb140, 1, none⟩) (Kd.N_far (p := ⟨gb140, 0, none⟩) (Kd.N_mono HO_3.out (fun k_ hk => (⟨hk, hk.2⟩ : _ ∧ k_ ≠ gb140))) (fun _ hk => hk.2) (.int .i64 ((rd_T26 l0 x4_1).f0))) (fun _ hk => hk.2) (.int .i64 ((rd_T26 l0 x4_1).f1))) (fun _ hk => hk.2) (.string ((rd_T26 l0 x4_1).f2))) (fun _ hk => hk.2) (.int .i64 ((rd_T26 l0 x4_1).f3))) (fun _ hk => hk.2) (.int .i64 ((rd_T26 l0 x4_1).f4))) (fun _ hk => hk.2) (.int .i64 ((rd_T26 l0 x4_1).f5.f0))) (fun _ hk => hk.2) (.slice A139_6 ((rd_T26 l0 x4_1).f5.f1).length c139_6)) (fun _ hk => hk.2) (.int .i64 ((rd_T26 l0 x4_1).f5.f2))) (fun _ hk => hk.2) (.int .i64 ((rd_T26 l0 x4_1).f5.f3))) (fun _ hk => ⟨hk.1.1, hk.1.2⟩)))⟩; have n2_ : Aside0 (Kd.V (Kd.int .i64) 3 w11 w.heap.size (fun k_ => (P0_ k_ ∨ w.heap.size ≤ k_) ∧ some k_ ≠ (u3 : Value).ownBlock ∧ k_ ≠ gb140) (.slice A139_6 ((rd_T26 l0 x4_1).f5.f1).length c139_6) ((rd_T26 l0 x4_1).f5.f1)) := ⟨(by rw [hw]; exact (by (with_reducible repeat (first | apply Kd.V_alloc | apply Kd.V_drewN | apply Kd.V_drew)); exact Kd.V_mono (Kd.V_far (p := ⟨gb140, 8, none⟩) (Kd.V_far (p := ⟨gb140, 7, none⟩) (Kd.V_far (p := ⟨gb140, 6, none⟩) (Kd.V_far (p := ⟨gb140, 5, none⟩) (Kd.V_far (p := ⟨gb140, 4, none⟩) (Kd.V_far (p := ⟨gb140, 3, none⟩) (Kd.V_far (p := ⟨gb140, 2, none⟩) (Kd.V_far (p := ⟨gb140, 1, none⟩) (Kd.V_far (p := ⟨gb140, 0, none⟩) (Kd.V_mono HL139_6.out (fun k_ hk => (⟨hk, hk.2⟩ : _ ∧ k_ ≠ gb140))) (fun _ hk => hk.2) (.int .i64 ((rd_T26 l0 x4_1).f0))) (fun _ hk => hk.2) (.int .i64 ((rd_T26 l0 x4_1).f1))) (fun _ hk => hk.2) (.string ((rd_T26 l0 x4_1).f2))) (fun _ hk => hk.2) (.int .i64 ((rd_T26 l0 x4_1).f3))) (fun _ hk => hk.2) (.int .i64 ((rd_T26 l0 x4_1).f4))) (fun _ hk => hk.2) (.int .i64 ((rd_T26 l0 x4_1).f5.f0))) (fun _ hk => hk.2) (.slice A139_6 ((rd_T26 l0 x4_1).f5.f1).length c139_6)) (fun _ hk => hk.2) (.int .i64 ((rd_T26 l0 x4_1).f5.f2))) (fun _ hk => hk.2) (.int .i64 ((rd_T26 l0 x4_1).f5.f3))) (fun _ hk => ⟨hk.1.1.1, ⟨hk.1.1.2, hk.1.2⟩⟩)))⟩; have n3_ : Aside0 (w11.heap[gb140]? = some (.cells #[.int .i64 ((rd_T26 l0 x4_1).f0), .int .i64 ((rd_T26 l0 x4_1).f1), .string ((rd_T26 l0 x4_1).f2), .int .i64 ((rd_T26 l0 x4_1).f3), .int .i64 ((rd_T26 l0 x4_1).f4), .int .i64 ((rd_T26 l0 x4_1).f5.f0), .slice A139_6 ((rd_T26 l0 x4_1).f5.f1).length c139_6, .int .i64 ((rd_T26 l0 x4_1).f5.f2), .int .i64 ((rd_T26 l0 x4_1).f5.f3)] 26 (0, 0))) := ⟨(by rw [hw]; exact (by (with_reducible repeat (first | refine blk_drewN ?_ _ | refine blk_drew ?_ | refine blk_alloc ?_ _)); refine blk_put (cs := #[.int .i64 ((rd_T26 l0 x4_1).f0), .int .i64 ((rd_T26 l0 x4_1).f1), .string ((rd_T26 l0 x4_1).f2), .int .i64 ((rd_T26 l0 x4_1).f3), .int .i64 ((rd_T26 l0 x4_1).f4), .int .i64 ((rd_T26 l0 x4_1).f5.f0), .slice A139_6 ((rd_T26 l0 x4_1).f5.f1).length c139_6, .int .i64 ((rd_T26 l0 x4_1).f5.f2), .int .i64 0]) ?_ 8 _ rfl; (with_reducible repeat (first | refine blk_drewN ?_ _ | refine blk_drew ?_ | refine blk_alloc ?_ _)); refine blk_put (cs := #[.int .i64 ((rd_T26 l0 x4_1).f0), .int .i64 ((rd_T26 l0 x4_1).f1), .string ((rd_T26 l0 x4_1).f2), .int .i64 ((rd_T26 l0 x4_1).f3), .int .i64 ((rd_T26 l0 x4_1).f4), .int .i64 ((rd_T26 l0 x4_1).f5.f0), .slice A139_6 ((rd_T26 l0 x4_1).f5.f1).length c139_6, .int .i64 0, .int .i64 0]) ?_ 7 _ rfl; (with_reducible repeat (first | refine blk_drewN ?_ _ | refine blk_drew ?_ | refine blk_alloc ?_ _)); refine blk_put (cs := #[.int .i64 ((rd_T26 l0 x4_1).f0), .int .i64 ((rd_T26 l0 x4_1).f1), .string ((rd_T26 l0 x4_1).f2), .int .i64 ((rd_T26 l0 x4_1).f3), .int .i64 ((rd_T26 l0 x4_1).f4), .int .i64 ((rd_T26 l0 x4_1).f5.f0), .slice none 0 0, .int .i64 0, .int .i64 0]) ?_ 6 _ rfl; (with_reducible repeat (first | refine blk_drewN ?_ _ | refine blk_drew ?_ | refine blk_alloc ?_ _)); refine blk_put (cs := #[.int .i64 ((rd_T26 l0 x4_1).f0), .int .i64 ((rd_T26 l0 x4_1).f1), .string ((rd_T26 l0 x4_1).f2), .int .i64 ((rd_T26 l0 x4_1).f3), .int .i64 ((rd_T26 l0 x4_1).f4), .int .i64 0, .slice none 0 0, .int .i64 0, .int .i64 0]) ?_ 5 _ rfl; (with_reducible repeat (first | refine blk_drewN ?_ _ | refine blk_drew ?_ | refine blk_alloc ?_ _)); refine blk_put (cs := #[.int .i64 ((rd_T26 l0 x4_1).f0), .int .i64 ((rd_T26 l0 x4_1).f1), .string ((rd_T26 l0 x4_1).f2), .int .i64 ((rd_T26 l0 x4_1).f3), .int .i64 0, .int .i64 0, .slice none 0 0, .int .i64 0, .int .i64 0]) ?_ 4 _ rfl; (with_reducible repeat (first | refine blk_drewN ?_ _ | refine blk_drew ?_ | refine blk_alloc ?_ _)); refine blk_put (cs := #[.int .i64 ((rd_T26 l0 x4_1).f0), .int .i64 ((rd_T26 l0 x4_1).f1), .string ((rd_T26 l0 x4_1).f2), .int .i64 0, .int .i64 0, .int .i64 0, .slice none 0 0, .int .i64 0, .int .i64 0]) ?_ 3 _ rfl; (with_reducible repeat (first | refine blk_drewN ?_ _ | refine blk_drew ?_ | refine blk_alloc ?_ _)); refine blk_put (cs := #[.int .i64 ((rd_T26 l0 x4_1).f0), .int .i64 ((rd_T26 l0 x4_1).f1), .string (⟨#[]⟩ : ByteArray), .int .i64 0, .int .i64 0, .int .i64 0, .slice none 0 0, .int .i64 0, .int .i64 0]) ?_ 2 _ rfl; (with_reducible repeat (first | refine blk_drewN ?_ _ | refine blk_drew ?_ | refine blk_alloc ?_ _)); refine blk_put (cs := #[.int .i64 ((rd_T26 l0 x4_1).f0), .int .i64 0, .string (⟨#[]⟩ : ByteArray), .int .i64 0, .int .i64 0, .int .i64 0, .slice none 0 0, .int .i64 0, .int .i64 0]) ?_ 1 _ rfl; (with_reducible repeat (first | refine blk_drewN ?_ _ | refine blk_drew ?_ | refine blk_alloc ?_ _)); refine blk_put (cs := #[.int .i64 0, .int .i64 0, .string (⟨#[]⟩ : ByteArray), .int .i64 0, .int .i64 0, .int .i64 0, .slice none 0 0, .int .i64 0, .int .i64 0]) ?_ 0 _ rfl; (with_reducible repeat (first | refine blk_drewN ?_ _ | refine blk_drew ?_ | refine blk_alloc ?_ _)); exact BK140.out))⟩; have n4_ : Aside0 (Below w.heap.size w w11) := ⟨(by rw [hw]; exact (by repeat (first | (with_reducible first | exact HB.out | apply below_alloc | apply pw_below_drewN | apply below_drew1 | refine below_set ?_ GE140.out) | exact HB.out)))⟩; clear hw; clear HO_0; clear HO_3; clear HL139_6; clear BK140; clear HB; have HO_0 := n0_; have HO_3 := n1_; have HL139_6 := n2_; have BK140 := n3_; have HB := n4_; clear n0_ n1_ n2_ n3_ n4_; have hcz12_0 : w11.cell? ⟨gb140, 0, none⟩ = some (.int .i64 ((rd_T26 l0 x4_1).f0)) := (blk_cell BK140.out 0).trans rfl; have hcz12_1 : w11.cell? ⟨gb140, 1, none⟩ = some (.int .i64 ((rd_T26 l0 x4_1).f1)) := (blk_cell BK140.out 1).trans rfl; have hcz12_2 : w11.cell? ⟨gb140, 2, none⟩ = some (.string ((rd_T26 l0 x4_1).f2)) := (blk_cell BK140.out 2).trans rfl; have hcz12_3 : w11.cell? ⟨gb140, 3, none⟩ = some (.int .i64 ((rd_T26 l0 x4_1).f3)) := (blk_cell BK140.out 3).trans rfl; have hcz12_4 : w11.cell? ⟨gb140, 4, none⟩ = some (.int .i64 ((rd_T26 l0 x4_1).f4)) := (blk_cell BK140.out 4).trans rfl; have hcz12_5 : w11.cell? ⟨gb140, 5, none⟩ = some (.int .i64 ((rd_T26 l0 x4_1).f5.f0)) := (blk_cell BK140.out 5).trans rfl; have hcz12_6 : w11.cell? ⟨gb140, 6, none⟩ = some (.slice A139_6 ((rd_T26 l0 x4_1).f5.f1).length c139_6) := (blk_cell BK140.out 6).trans rfl; have hcz12_7 : w11.cell? ⟨gb140, 7, none⟩ = some (.int .i64 ((rd_T26 l0 x4_1).f5.f2)) := (blk_cell BK140.out 7).trans rfl; have hcz12_8 : w11.cell? ⟨gb140, 8, none⟩ = some (.int .i64 ((rd_T26 l0 x4_1).f5.f3)) := (blk_cell BK140.out 8).trans rfl; have hfz12_0 := blk_frozen BK140.out 0; have hfz12_1 := blk_frozen BK140.out 1; have hfz12_2 := blk_frozen BK140.out 2; have hfz12_3 := blk_frozen BK140.out 3; have hfz12_4 := blk_frozen BK140.out 4; have hfz12_5 := blk_frozen BK140.out 5; have hfz12_6 := blk_frozen BK140.out 6; have hfz12_7 := blk_frozen BK140.out 7; have hfz12_8 := blk_frozen BK140.out 8) | ((with_reducible refine gate_store (t := 9) (p := 27) rfl ?_); refine store_event (t := 9) (p := 27) (v := ?vo_w13) (w1 := (w11.setCell ⟨gb140, 2, none⟩ (.string (((rd_T26 l0 x4_1).f2).extract 0 ((ji5) : Int).toNat)))) ?hg ?ho ?hn ?hr ?_; (case ho => rfl); (case hg => rfl); (case hn => rfl); (case hr => first | (go_simp; done) | (go_simp; rfl)); intro w13 hw; have n0_ : Aside0 (Kd.V k26 26 w13 w.heap.size (fun k_ => (P0_ k_ ∨ w.heap.size ≤ k_) ∧ some k_ ≠ (u3 : Value).ownBlock ∧ k_ ≠ gb140) (.slice (some ad139) l0.length c0) l0) := ⟨(by rw [hw]; exact (by (with_reducible repeat (first | apply Kd.V_alloc | apply Kd.V_drewN | apply Kd.V_drew)); exact Kd.V_mono (Kd.V_far (p := ⟨gb140, 2, none⟩) (Kd.V_mono HO_0.out (fun k_ hk => (⟨hk, hk.2.2⟩ : _ ∧ k_ ≠ gb140))) (fun _ hk => hk.2) (.string (((rd_T26 l0 x4_1).f2).extract 0 ((ji5) : Int).toNat))) (fun _ hk => ⟨hk.1.1, ⟨hk.1.2.1, hk.1.2.2⟩⟩)))⟩; have n1_ : Aside0 (Kd.N k26 26 w13 w.heap.size (fun k_ => (P0_ k_ ∨ w.heap.size ≤ k_) ∧ k_ ≠ gb140) u3 x3_1) := ⟨(by rw [hw]; exact (by (with_reducible repeat (first | apply Kd.N_alloc | apply Kd.N_drewN | apply Kd.N_drew)); exact Kd.N_mono (Kd.N_far (p := ⟨gb140, 2, none⟩) (Kd.N_mono HO_3.out (fun k_ hk => (⟨hk, hk.2⟩ : _ ∧ k_ ≠ gb140))) (fun _ hk => hk.2) (.string (((rd_T26 l0 x4_1).f2).extract 0 ((ji5) : Int).toNat))) (fun _ hk => ⟨hk.1.1, hk.1.2⟩)))⟩; have n2_ : Aside0 (Kd.V (Kd.int .i64) 3 w13 w.heap.size (fun k_ => (P0_ k_ ∨ w.heap.size ≤ k_) ∧ some k_ ≠ (u3 : Value).ownBlock ∧ k_ ≠ gb140) (.slice A139_6 ((rd_T26 l0 x4_1).f5.f1).length c139_6) ((rd_T26 l0 x4_1).f5.f1)) := ⟨(by rw [hw]; exact (by (with_reducible repeat (first | apply Kd.V_alloc | apply Kd.V_drewN | apply Kd.V_drew)); exact Kd.V_mono (Kd.V_far (p := ⟨gb140, 2, none⟩) (Kd.V_mono HL139_6.out (fun k_ hk => (⟨hk, hk.2.2⟩ : _ ∧ k_ ≠ gb140))) (fun _ hk => hk.2) (.string (((rd_T26 l0 x4_1).f2).extract 0 ((ji5) : Int).toNat))) (fun _ hk => ⟨hk.1.1, ⟨hk.1.2.1, hk.1.2.2⟩⟩)))⟩; have n3_ : Aside0 (w13.heap[gb140]? = some (.cells #[.int .i64 ((rd_T26 l0 x4_1).f0), .int .i64 ((rd_T26 l0 x4_1).f1), .string (((rd_T26 l0 x4_1).f2).extract 0 ((ji5) : Int).toNat), .int .i64 ((rd_T26 l0 x4_1).f3), .int .i64 ((rd_T26 l0 x4_1).f4), .int .i64 ((rd_T26 l0 x4_1).f5.f0), .slice A139_6 ((rd_T26 l0 x4_1).f5.f1).length c139_6, .int .i64 ((rd_T26 l0 x4_1).f5.f2), .int .i64 ((rd_T26 l0 x4_1).f5.f3)] 26 (0, 0))) := ⟨(by rw [hw]; exact (by (with_reducible repeat (first | refine blk_drewN ?_ _ | refine blk_drew ?_ | refine blk_alloc ?_ _)); refine blk_put (cs := #[.int .i64 ((rd_T26 l0 x4_1).f0), .int .i64 ((rd_T26 l0 x4_1).f1), .string ((rd_T26 l0 x4_1).f2), .int .i64 ((rd_T26 l0 x4_1).f3), .int .i64 ((rd_T26 l0 x4_1).f4), .int .i64 ((rd_T26 l0 x4_1).f5.f0), .slice A139_6 ((rd_T26 l0 x4_1).f5.f1).length c139_6, .int .i64 ((rd_T26 l0 x4_1).f5.f2), .int .i64 ((rd_T26 l0 x4_1).f5.f3)]) ?_ 2 _ rfl; (with_reducible repeat (first | refine blk_drewN ?_ _ | refine blk_drew ?_ | refine blk_alloc ?_ _)); exact BK140.out))⟩; have n4_ : Aside0 (Below w.heap.size w w13) := ⟨(by rw [hw]; exact (by repeat (first | (with_reducible first | exact HB.out | apply below_alloc | apply pw_below_drewN | apply below_drew1 | refine below_set ?_ GE140.out) | exact HB.out)))⟩; clear hw; clear HO_0; clear HO_3; clear HL139_6; clear BK140; clear HB; have HO_0 := n0_; have HO_3 := n1_; have HL139_6 := n2_; have BK140 := n3_; have HB := n4_; clear n0_ n1_ n2_ n3_ n4_; have hcz14_0 : w13.cell? ⟨gb140, 0, none⟩ = some (.int .i64 ((rd_T26 l0 x4_1).f0)) := (blk_cell BK140.out 0).trans rfl; have hcz14_1 : w13.cell? ⟨gb140, 1, none⟩ = some (.int .i64 ((rd_T26 l0 x4_1).f1)) := (blk_cell BK140.out 1).trans rfl; have hcz14_2 : w13.cell? ⟨gb140, 2, none⟩ = some (.string (((rd_T26 l0 x4_1).f2).extract 0 ((ji5) : Int).toNat)) := (blk_cell BK140.out 2).trans rfl; have hcz14_3 : w13.cell? ⟨gb140, 3, none⟩ = some (.int .i64 ((rd_T26 l0 x4_1).f3)) := (blk_cell BK140.out 3).trans rfl; have hcz14_4 : w13.cell? ⟨gb140, 4, none⟩ = some (.int .i64 ((rd_T26 l0 x4_1).f4)) := (blk_cell BK140.out 4).trans rfl; have hcz14_5 : w13.cell? ⟨gb140, 5, none⟩ = some (.int .i64 ((rd_T26 l0 x4_1).f5.f0)) := (blk_cell BK140.out 5).trans rfl; have hcz14_6 : w13.cell? ⟨gb140, 6, none⟩ = some (.slice A139_6 ((rd_T26 l0 x4_1).f5.f1).length c139_6) := (blk_cell BK140.out 6).trans rfl; have hcz14_7 : w13.cell? ⟨gb140, 7, none⟩ = some (.int .i64 ((rd_T26 l0 x4_1).f5.f2)) := (blk_cell BK140.out 7).trans rfl; have hcz14_8 : w13.cell? ⟨gb140, 8, none⟩ = some (.int .i64 ((rd_T26 l0 x4_1).f5.f3)) := (blk_cell BK140.out 8).trans rfl; have hfz14_0 := blk_frozen BK140.out 0; have hfz14_1 := blk_frozen BK140.out 1; have hfz14_2 := blk_frozen BK140.out 2; have hfz14_3 := blk_frozen BK140.out 3; have hfz14_4 := blk_frozen BK140.out 4; have hfz14_5 := blk_frozen BK140.out 5; have hfz14_6 := blk_frozen BK140.out 6; have hfz14_7 := blk_frozen BK140.out 7; have hfz14_8 := blk_frozen BK140.out 8) | ((with_reducible refine gate_builtin (b := .append) (xs := #[.tmp 28, .tmp 30]) rfl ?_); at_builtin; refine Kd.N_append k26 (w0 := w) w.heap.size rfl (.tmp 28) (.tmp 30) 27 26 (.agg #[(.int .i64 0), (.int .i64 0), (.string ⟨#[]⟩), (.int .i64 0), (.int .i64 0), (.int .i64 0), (.slice none 0 0), (.int .i64 0), (.int .i64 0)]) 96 rfl Tryd.underlying27 info26 rfl (by decide) (by omega) u3 x3_1 (⟨(rd_T26 l0 x4_1).f0, (rd_T26 l0 x4_1).f1, ((rd_T26 l0 x4_1).f2).extract 0 ((ji5) : Int).toNat, (rd_T26 l0 x4_1).f3, (rd_T26 l0 x4_1).f4, (⟨(rd_T26 l0 x4_1).f5.f0, (rd_T26 l0 x4_1).f5.f1, (rd_T26 l0 x4_1).f5.f2, (rd_T26 l0 x4_1).f5.f3⟩ : S24)⟩ : S26) [.int .i64 ((rd_T26 l0 x4_1).f0), .int .i64 ((rd_T26 l0 x4_1).f1), .string (((rd_T26 l0 x4_1).f2).extract 0 ((ji5) : Int).toNat), .int .i64 ((rd_T26 l0 x4_1).f3), .int .i64 ((rd_T26 l0 x4_1).f4), .int .i64 ((rd_T26 l0 x4_1).f5.f0), .slice A139_6 ((rd_T26 l0 x4_1).f5.f1).length c139_6, .int .i64 ((rd_T26 l0 x4_1).f5.f2), .int .i64 ((rd_T26 l0 x4_1).f5.f3)] (fun k_ => (P0_ k_ ∨ w.heap.size ≤ k_) ∧ k_ ≠ gb140) (fun k_ => ((fun k_ => (P0_ k_ ∨ w.heap.size ≤ k_) ∧ k_ ≠ gb140)) k_ ∧ some k_ ≠ (u3 : Value).ownBlock) rfl rfl ?aP (fun _ hk => hk) ?aF ?aO ?aB ?aS ?aL ?_; (case aP => exact (k26_mkF _ _ (⟨(rd_T26 l0 x4_1).f0, (rd_T26 l0 x4_1).f1, ((rd_T26 l0 x4_1).f2).extract 0 ((ji5) : Int).toNat, (rd_T26 l0 x4_1).f3, (rd_T26 l0 x4_1).f4, (⟨(rd_T26 l0 x4_1).f5.f0, (rd_T26 l0 x4_1).f5.f1, (rd_T26 l0 x4_1).f5.f2, (rd_T26 l0 x4_1).f5.f3⟩ : S24)⟩ : S26) (Kd.V_reads' (Kd.V_mono (ok' := (fun k_ => ((fun k_ => (P0_ k_ ∨ w.heap.size ≤ k_) ∧ k_ ≠ gb140)) k_ ∧ some k_ ≠ (u3 : Value).ownBlock)) (HL139_6.out) (fun k_ hk => ⟨⟨hk.1, hk.2.2⟩, hk.2.1⟩))).2.1 (Kd.V_F (Kd.V_mono (ok' := (fun k_ => ((fun k_ => (P0_ k_ ∨ w.heap.size ≤ k_) ∧ k_ ≠ gb140)) k_ ∧ some k_ ≠ (u3 : Value).ownBlock)) (HL139_6.out) (fun k_ hk => ⟨⟨hk.1, hk.2.2⟩, hk.2.1⟩))))); (case aB => exact (by repeat (first | (with_reducible first | exact HB.out | apply below_alloc | apply pw_below_drewN | apply below_drew1 | refine below_set ?_ GE140.out) | exact HB.out))); (case aF => exact (fun k_ hk => ⟨(.inr (Nat.le_trans (below_size (by repeat (first | (with_reducible first | exact HB.out | apply below_alloc | apply pw_below_drewN | apply below_drew1 | refine below_set ?_ GE140.out) | exact HB.out))) hk)), Kd.freshB (g := gb140) (o := .cells #[.int .i64 ((rd_T26 l0 x4_1).f0), .int .i64 ((rd_T26 l0 x4_1).f1), .string (((rd_T26 l0 x4_1).f2).extract 0 ((ji5) : Int).toNat), .int .i64 ((rd_T26 l0 x4_1).f3), .int .i64 ((rd_T26 l0 x4_1).f4), .int .i64 ((rd_T26 l0 x4_1).f5.f0), .slice A139_6 ((rd_T26 l0 x4_1).f5.f1).length c139_6, .int .i64 ((rd_T26 l0 x4_1).f5.f2), .int .i64 ((rd_T26 l0 x4_1).f5.f3)] 26 (0, 0)) (by (with_reducible repeat (first | refine blk_drewN ?_ _ | refine blk_drew ?_ | refine blk_alloc ?_ _)); exact BK140.out) k_ hk⟩)); (case aO => exact (by (with_reducible repeat (first | apply Kd.N_alloc | apply Kd.N_drewN | apply Kd.N_drew)); exact HO_3.out)); (case aS => exact (below_size (by repeat (first | (with_reducible first | exact HB.out | apply below_alloc | apply pw_below_drewN | apply below_drew1 | refine below_set ?_ GE140.out) | exact HB.out)))); (case aL => have := LMc8.out; omega); intro v142 w15 ho hb hg hat; rw [← Ny141.out] at ho; have n0_ := Aside0.mk (Kd.V_afterv (ok := (fun k_ => (P0_ k_ ∨ w.heap.size ≤ k_) ∧ k_ ≠ gb140)) (by (with_reducible repeat (first | apply Kd.V_alloc | apply Kd.V_drewN | apply Kd.V_drew)); exact Kd.V_mono HO_0.out (fun _ hk => ⟨⟨hk.1, hk.2.2⟩, hk.2.1⟩)) hg hat); have n1_ := Aside0.mk (Kd.V_afterv (ok := (fun k_ => (P0_ k_ ∨ w.heap.size ≤ k_) ∧ k_ ≠ gb140)) (by (with_reducible repeat (first | apply Kd.V_alloc | apply Kd.V_drewN | apply Kd.V_drew)); exact Kd.V_mono HL139_6.out (fun _ hk => ⟨⟨hk.1, hk.2.2⟩, hk.2.1⟩)) hg hat); have n2_ := Aside0.mk (blk_grown (g := gb140) (o := .cells #[.int .i64 ((rd_T26 l0 x4_1).f0), .int .i64 ((rd_T26 l0 x4_1).f1), .string (((rd_T26 l0 x4_1).f2).extract 0 ((ji5) : Int).toNat), .int .i64 ((rd_T26 l0 x4_1).f3), .int .i64 ((rd_T26 l0 x4_1).f4), .int .i64 ((rd_T26 l0 x4_1).f5.f0), .slice A139_6 ((rd_T26 l0 x4_1).f5.f1).length c139_6, .int .i64 ((rd_T26 l0 x4_1).f5.f2), .int .i64 ((rd_T26 l0 x4_1).f5.f3)] 26 (0, 0)) (by (with_reducible repeat (first | refine blk_drewN ?_ _ | refine blk_drew ?_ | refine blk_alloc ?_ _)); exact BK140.out) hg (Kd.N_away HO_3.out (fun _ hk => hk.2))); have n3_ := Aside0.mk (hb); have n4_ := Aside0.mk (ho); clear HO_0; clear HL139_6; clear BK140; clear HB; clear HO_3; have HO_0 := n0_; have HL139_6 := n1_; have BK140 := n2_; have HB := n3_; have HO143 := n4_; clear n0_ n1_ n2_ n3_ n4_; clear ho hb hg hat))
                  go_roundg k1
                  case measure => have := HK1.out; omega
                  case rel => exact ⟨(y141), (wrap64 (x4_1 + 1)), (by first | rfl | (simp; done) | (simp [*]; done)), H', ⟨by have := HK1.out; omega⟩, ⟨by (with_reducible repeat (first | apply Kd.V_alloc | apply Kd.V_drewN | apply Kd.V_drew)); exact Kd.V_mono HO_0.out (fun _ hk => ⟨hk.1.1, hk.2⟩)⟩, ⟨by (with_reducible repeat (first | apply Kd.N_alloc | apply Kd.N_drewN | apply Kd.N_drew)); exact Kd.N_mono HO143.out (fun _ hk => hk.1)⟩, ⟨by repeat (first | (with_reducible first | exact HB.out | apply below_alloc | apply pw_below_drewN | apply below_drew1 | refine below_set ?_ GE140.out) | exact HB.out)⟩⟩
                · rw [if_neg c8] at H
                  exact absurd H (by simp)
              · rw [if_neg c7] at H
                exact absurd H (by simp)
            · rw [if_neg c6] at H
              exact absurd H (by simp)
          · rw [if_neg c4] at H
            exact absurd H (by simp)
        · rw [if_neg c3] at H
          have c3b0 : decide (x4_1 < 30) = false := decide_eq_false c3
          clear c3
          obtain rfl := Option.some.inj H
          go_wp2
          go_ret
          exact ⟨_, by first | rfl | (simp [errW_none, errW_some] <;> rfl) | (simp [*, errW_none, errW_some] <;> rfl), by (with_reducible repeat (first | apply Kd.N_alloc | apply Kd.N_drewN | apply Kd.N_drew)); exact HO_3.out, by repeat (first | (with_reducible first | exact HB.out | apply below_alloc | apply pw_below_drewN | apply below_drew1) | exact HB.out)⟩
      · rw [if_neg c2] at H
        have c2b0 : decide (x4_1 < (l0.length : Int)) = false := decide_eq_false c2
        clear c2
        obtain rfl := Option.some.inj H
        go_wp2
        go_ret
        exact ⟨_, by first | rfl | (simp [errW_none, errW_some] <;> rfl) | (simp [*, errW_none, errW_some] <;> rfl), by (with_reducible repeat (first | apply Kd.N_alloc | apply Kd.N_drewN | apply Kd.N_drew)); exact HO_3.out, by repeat (first | (with_reducible first | exact HB.out | apply below_alloc | apply pw_below_drewN | apply below_drew1) | exact HB.out)⟩

end Go.Proofs.YtpgjhjlhipikgaaDoor.PK
end
section
namespace Go.Proofs.YtpgjhjlhipikgaaDoor.PK
open Go.RowKit Go.Proofs.YtpgjhjlhipikgaaDoorW.PrintWords Go.Proofs.YtpgjhjlhipikgaaDoorW.PrintLast Go.Proofs.YtpgjhjlhipikgaaDoorW.PrintMore
attribute [local go_sem] max2_int min2_int max_two min_two max_three min_three max_four min_four   -- for this text's walks alone
set_option linter.unusedVariables false
set_option linter.unusedSimpArgs false

/-! ### copydesklaw03_pick: function 36 -/
def copydesklaw03_pick.f (a0 : Int) (a1 : Int) : Option (Int) := if a0 < 0 then (if a1 = 0 then (none) else (some (Int.tmod (wrap64 (-(wrap64 (a0 + 1)))) a1))) else (if a1 = 0 then (none) else (some (Int.tmod a0 a1)))
set_option maxHeartbeats 8000000 in
set_option maxRecDepth 100000 in
theorem copydesklaw03_pick.calls (a0 : Int) (a1 : Int) (r : Int) (w : World) (h : copydesklaw03_pick.f a0 a1 = some r) :
    Calls Tryd.prog 36 #[.int .i64 a0, .int .i64 a1] w fun e w' => e = .returned (.int .i64 r) ∧ Drawn0 w w' := by
  have H : (if a0 < 0 then (if a1 = 0 then (none) else (some (Int.tmod (wrap64 (-(wrap64 (a0 + 1)))) a1))) else (if a1 = 0 then (none) else (some (Int.tmod a0 a1)))) = some r := h
  clear h
  by_cases c3 : a0 < 0
  · rw [if_pos c3] at H
    have c3b0 : decide (a0 < 0) = true := decide_eq_true c3
    clear c3
    by_cases c4 : a1 = 0
    · rw [if_pos c4] at H
      exact absurd H (by simp)
    · rw [if_neg c4] at H
      have c4b0 : (a1 == 0) = false := beq_eq_false_iff_ne.mpr c4
      have c4b1 : (a1 != 0) = true := bne_iff_ne.mpr c4
      obtain rfl := Option.some.inj H
      go_enter Tryd.func36, Tryd.ntmps36
      go_wp2
      go_ret
      exact ⟨by first | rfl | (simp; done) | (simp [*]; done), by repeat (first | exact Drawn0.refl _ | apply Drawn0.step)⟩
  · rw [if_neg c3] at H
    have c3b0 : decide (a0 < 0) = false := decide_eq_false c3
    clear c3
    by_cases c5 : a1 = 0
    · rw [if_pos c5] at H
      exact absurd H (by simp)
    · rw [if_neg c5] at H
      have c5b0 : (a1 == 0) = false := beq_eq_false_iff_ne.mpr c5
      have c5b1 : (a1 != 0) = true := bne_iff_ne.mpr c5
      obtain rfl := Option.some.inj H
      go_enter Tryd.func36, Tryd.ntmps36
      go_wp2
      go_ret
      exact ⟨by first | rfl | (simp; done) | (simp [*]; done), by repeat (first | exact Drawn0.refl _ | apply Drawn0.step)⟩

end Go.Proofs.YtpgjhjlhipikgaaDoor.PK
end
section
set_option linter.unusedVariables false
set_option linter.unusedSimpArgs false
namespace Go.Proofs.YtpgjhjlhipikgaaDoor.PK
open Go.RowKit Go.Proofs.YtpgjhjlhipikgaaDoorW.PrintWords Go.Proofs.YtpgjhjlhipikgaaDoorW.PrintLast Go.Proofs.YtpgjhjlhipikgaaDoorW.PrintMore
theorem sl_at_left (a b : List UInt8) (i : Nat) (h : i < a.length) : m_at (a ++ b) i = m_at a i := by
  simp [m_at, List.getD_eq_getElem?_getD, List.getElem?_append_left h]
theorem sl_at_right (a b : List UInt8) (i : Nat) : m_at (a ++ b) (a.length + i) = m_at b i := by
  simp [m_at, List.getD_eq_getElem?_getD, List.getElem?_append_right]
theorem sl_space_not (l : List UInt8) (i : Nat) (h : m_at l i = 32) : m_ends l i = false := by
  unfold m_ends; rw [h]; rfl
theorem sl_space_initial (l : List UInt8) (i : Nat) (h : m_at l i = 32) : m_initial l i = false := by
  unfold m_initial; rw [h]; rfl
/-- Spaces alone. -/
def AllSp (s : List UInt8) : Prop := ∀ c ∈ s, c = 32
theorem AllSp.at {s : List UInt8} (h : AllSp s) (i : Nat) (hi : i < s.length) : m_at s i = 32 := by
  have := h s[i] (List.getElem_mem hi)
  simp [m_at, List.getD_eq_getElem?_getD, hi, this]
/-- Nothing, or a space at the head. -/
def SpHead (s : List UInt8) : Prop := s = [] ∨ ∃ t, s = 32 :: t
theorem SpHead.at {s : List UInt8} (h : SpHead s) (hs : s ≠ []) : m_at s 0 = 32 := by
  rcases h with h | ⟨t, rfl⟩
  · exact absurd h hs
  · rfl
/-- In a text after spaces, and ahead of nothing or of a space, the ends are those of the text alone. -/
theorem sl_ends_mid (sp x rest : List UInt8) (hsp : AllSp sp) (hr : SpHead rest) (j : Nat) (hj : j < x.length) : m_ends (sp ++ x ++ rest) (sp.length + j) = m_ends x j := by
  have e0 : ∀ k, k < x.length → m_at (sp ++ x ++ rest) (sp.length + k) = m_at x k := fun k hk => by
    rw [sl_at_left _ _ _ (by simp; omega), sl_at_right]
  have e1 : (decide ((sp ++ x ++ rest).length ≤ sp.length + j + 1) || m_at (sp ++ x ++ rest) (sp.length + j + 1) == 32) = (decide (x.length ≤ j + 1) || m_at x (j + 1) == 32) := by
    by_cases h : j + 1 < x.length
    · rw [show sp.length + j + 1 = sp.length + (j + 1) by omega, e0 _ h]
      congr 1
      rw [decide_eq_false (by simp; omega), decide_eq_false (by omega)]
    · have hx : x.length = j + 1 := by omega
      rw [decide_eq_true (show x.length ≤ j + 1 by omega), Bool.true_or]
      by_cases hn : rest = []
      · subst hn
        rw [decide_eq_true (by simp; omega), Bool.true_or]
      · have : m_at (sp ++ x ++ rest) (sp.length + j + 1) = 32 := by
          rw [show sp.length + j + 1 = (sp ++ x).length + 0 by simp; omega, sl_at_right]
          exact hr.at hn
        rw [this]; simp
  have e2 : (decide (1 ≤ sp.length + j) && m_initial (sp ++ x ++ rest) (sp.length + j - 1)) = (decide (1 ≤ j) && m_initial x (j - 1)) := by
    rcases Nat.eq_zero_or_pos j with h | h
    · subst h
      rw [decide_eq_false (show ¬ 1 ≤ 0 by omega), Bool.false_and]
      rcases Nat.eq_zero_or_pos sp.length with hs | hs
      · rw [hs]; rfl
      · rw [sl_space_initial _ _ (by rw [List.append_assoc, sl_at_left _ _ _ (by omega)]; exact hsp.at _ (by omega)), Bool.and_false]
    · rw [decide_eq_true (show 1 ≤ sp.length + j by omega), decide_eq_true (show 1 ≤ j by omega), Bool.true_and, Bool.true_and]
      unfold m_initial
      rw [show sp.length + j - 1 = sp.length + (j - 1) by omega, e0 _ (by omega)]
      congr 1
      by_cases h1 : j - 1 = 0
      · rw [decide_eq_true h1, Bool.true_or, h1]
        rcases Nat.eq_zero_or_pos sp.length with hs | hs
        · rw [decide_eq_true (by omega), Bool.true_or]
        · rw [show m_at (sp ++ x ++ rest) (sp.length + 0 - 1) = 32 by rw [List.append_assoc, sl_at_left _ _ _ (by omega)]; exact hsp.at _ (by omega)]
          simp
      · rw [decide_eq_false h1, decide_eq_false (by omega), show sp.length + (j - 1) - 1 = sp.length + (j - 1 - 1) by omega, e0 _ (by omega)]
  unfold m_ends
  rw [e0 _ hj, e1]
  congr 1
  congr 1
  rw [Bool.and_assoc, Bool.and_assoc, e2]
theorem sl_ends_sp (sp y : List UInt8) (hsp : AllSp sp) (j : Nat) (hj : j < sp.length) : m_ends (sp ++ y) j = false :=
  sl_space_not _ _ (by rw [sl_at_left _ _ _ hj]; exact hsp.at _ hj)
/-- Behind a sentence the rest is read as if it stood alone. -/
theorem sl_ends_rest (pre rest : List UInt8) (hr : SpHead rest) (j : Nat) (hj : j < rest.length) : m_ends (pre ++ rest) (pre.length + j) = m_ends rest j := by
  rcases hr with h | ⟨t, rfl⟩
  · subst h; simp at hj
  · cases j with
    | zero => rw [sl_space_not (32 :: t) 0 rfl, sl_space_not]; rw [sl_at_right]; rfl
    | succ j =>
      have h := sl_ends_mid (pre ++ [32]) t [] 
      have e0 : ∀ k, m_at (pre ++ 32 :: t) (pre.length + k) = m_at (32 :: t) k := fun k => sl_at_right _ _ _
      unfold m_ends
      rw [e0, show pre.length + (j + 1) + 1 = pre.length + (j + 1 + 1) by omega, e0]
      have e1 : decide ((pre ++ 32 :: t).length ≤ pre.length + (j + 1 + 1)) = decide ((32 :: t).length ≤ j + 1 + 1) := by
        rw [decide_eq_decide]; simp <;> omega
      rw [e1]
      congr 1
      rw [decide_eq_true (show 1 ≤ pre.length + (j + 1) by omega), decide_eq_true (show 1 ≤ j + 1 by omega)]
      congr 2
      cases j with
      | zero =>
        rw [sl_space_initial (32 :: t) _ rfl, sl_space_initial]
        rw [show pre.length + (0 + 1) - 1 = pre.length + 0 by omega, e0]; rfl
      | succ j =>
        unfold m_initial
        rw [show pre.length + (j + 1 + 1) - 1 = pre.length + (j + 1) by omega, e0, show pre.length + (j + 1) - 1 = pre.length + j by omega, e0, decide_eq_false (show ¬ pre.length + (j + 1) = 0 by omega), decide_eq_false (show ¬ j + 1 + 1 - 1 = 0 by omega)]
        rfl
theorem sl_go_skip (l : List UInt8) : ∀ (k d i a : Nat), (∀ j, i ≤ j → j < i + k → m_ends l j = false) → m_sentGo l (k + d) i a = m_sentGo l d (i + k) a
  | 0, d, i, a, _ => by rw [Nat.zero_add, Nat.add_zero]
  | k + 1, d, i, a, h => by
    rw [show k + 1 + d = (k + d) + 1 by omega, m_sentGo, h i (Nat.le_refl _) (by omega), if_neg (by simp), sl_go_skip l k d (i + 1) a (fun j h1 h2 => h j (by omega) (by omega)), show i + 1 + k = i + (k + 1) by omega]
theorem sl_go_shift (pre rest : List UInt8) (hr : SpHead rest) : ∀ (d i a : Nat), i + d = rest.length → a ≤ i → m_sentGo (pre ++ rest) d (pre.length + i) (pre.length + a) = m_sentGo rest d i a
  | 0, i, a, _, _ => by rw [m_sentGo, m_sentGo, List.drop_append, List.drop_eq_nil_of_le (show pre.length ≤ pre.length + a by omega), Nat.add_sub_cancel_left]; rfl
  | d + 1, i, a, h, ha => by
    rw [m_sentGo, m_sentGo, sl_ends_rest pre rest hr i (by omega), List.drop_append, List.drop_eq_nil_of_le (show pre.length ≤ pre.length + a by omega), Nat.add_sub_cancel_left, List.nil_append,
      show pre.length + i + 1 - (pre.length + a) = i + 1 - a by omega, show pre.length + i + 1 = pre.length + (i + 1) by omega, sl_go_shift pre rest hr d (i + 1) (i + 1) (by omega) (Nat.le_refl _), sl_go_shift pre rest hr d (i + 1) a (by omega) (by omega)]
/-! trimming -/
theorem sl_dropWhile_sp (sp x : List UInt8) (hsp : AllSp sp) : (sp ++ x).dropWhile (· == 32) = x.dropWhile (· == 32) := by
  induction sp with
  | nil => rfl
  | cons c sp ih =>
    have hc : c = 32 := hsp c (by simp)
    subst hc
    rw [List.cons_append, List.dropWhile_cons_of_pos (by rfl), ih (fun c hc => hsp c (by simp [hc]))]
theorem AllSp.reverse {s : List UInt8} (h : AllSp s) : AllSp s.reverse := fun c hc => h c (List.mem_reverse.1 hc)
/-- No space at either end, and something there. -/
def Neat (x : List UInt8) : Prop := x.head? ≠ some 32 ∧ x.getLast? ≠ some 32 ∧ x ≠ []
theorem sl_dropWhile_neat (x : List UInt8) (h : x.head? ≠ some 32) : x.dropWhile (· == 32) = x := by
  cases x with
  | nil => rfl
  | cons c x => rw [List.dropWhile_cons_of_neg]; simpa using h
theorem sl_trim (sp x sq : List UInt8) (h1 : AllSp sp) (h2 : AllSp sq) (hx : Neat x) : m_trim (sp ++ x ++ sq) = x := by
  obtain ⟨n1, n2, n3⟩ := hx
  unfold m_trim
  rw [List.reverse_append, sl_dropWhile_sp _ _ h2.reverse, List.reverse_append]
  obtain ⟨y, c, rfl⟩ : ∃ y c, x = y ++ [c] := ⟨x.dropLast, x.getLast n3, (List.dropLast_concat_getLast n3).symm⟩
  have hc : (c == 32) = false := by simpa using n2
  rw [List.reverse_append, List.reverse_singleton, List.singleton_append, List.cons_append, List.dropWhile_cons_of_neg (by simp [hc]), List.reverse_cons, List.reverse_append, List.reverse_reverse, List.reverse_reverse, List.append_assoc, sl_dropWhile_sp _ _ h1, sl_dropWhile_neat _ n1]
theorem sl_trim_sp (s : List UInt8) (h : AllSp s) : m_trim s = [] := by
  have h1 : s.reverse.dropWhile (· == 32) = [] := by
    have := sl_dropWhile_sp s.reverse [] h.reverse
    rw [List.append_nil] at this
    exact this
  unfold m_trim
  rw [h1]; rfl
/-- What a text is about its trimmed text. -/
theorem sl_head_split (l : List UInt8) : ∃ sp y, l = sp ++ y ∧ AllSp sp ∧ y.head? ≠ some 32 := by
  induction l with
  | nil => exact ⟨[], [], rfl, (fun _ h => by cases h), by simp⟩
  | cons c l ih =>
    by_cases hc : c = 32
    · obtain ⟨sp, y, h1, h2, h3⟩ := ih
      refine ⟨c :: sp, y, by rw [h1]; rfl, fun d hd => ?_, h3⟩
      rcases List.mem_cons.1 hd with rfl | hd
      · exact hc
      · exact h2 d hd
    · exact ⟨[], c :: l, rfl, (fun _ h => by cases h), by simpa using hc⟩
theorem sl_split (l : List UInt8) : AllSp l ∨ ∃ sp x sq, l = sp ++ x ++ sq ∧ AllSp sp ∧ AllSp sq ∧ Neat x := by
  obtain ⟨sp, y, h1, h2, h3⟩ := sl_head_split l
  by_cases hy : y = []
  · left; rw [h1, hy, List.append_nil]; exact h2
  · right
    obtain ⟨sq, z, g1, g2, g3⟩ := sl_head_split y.reverse
    have hyz : y = z.reverse ++ sq.reverse := by rw [← List.reverse_append, ← g1, List.reverse_reverse]
    refine ⟨sp, z.reverse, sq.reverse, by rw [h1, hyz, List.append_assoc], h2, g2.reverse, ?_, by rw [List.getLast?_reverse]; exact g3, ?_⟩
    · cases hz : z.reverse with
      | nil => simp
      | cons c z' =>
        rw [hyz, hz] at h3
        simpa using h3
    · intro hz
      rw [hz, List.nil_append] at hyz
      cases hs : sq.reverse with
      | nil => exact hy (by rw [hyz, hs])
      | cons c s' =>
        rw [hyz, hs] at h3
        have := g2.reverse c (by rw [hs]; simp)
        subst this
        simp at h3
/-! sentences -/
/-- A sentence that ends: its only end is its last byte. -/
def Ended (x : List UInt8) : Prop := Neat x ∧ m_ends x (x.length - 1) = true ∧ ∀ j, j + 1 < x.length → m_ends x j = false
/-- What follows the last end. -/
def Open (x : List UInt8) : Prop := Neat x ∧ ∀ j, j < x.length → m_ends x j = false
theorem sl_sent_sp (s : List UInt8) (h : AllSp s) : m_sent s = [] := by
  unfold m_sent
  have := sl_go_skip s s.length 0 0 0 (fun j _ hj => sl_space_not _ _ (h.at j (by omega)))
  rw [Nat.add_zero] at this
  rw [this, m_sentGo, List.drop_zero, sl_trim_sp s h, if_pos rfl]
theorem sl_sent_open (sp x sq : List UInt8) (h1 : AllSp sp) (h2 : AllSp sq) (hx : Open x) : m_sent (sp ++ x ++ sq) = [x] := by
  have hq : SpHead sq := by
    cases sq with
    | nil => exact .inl rfl
    | cons c s => exact .inr ⟨s, by rw [h2 c (by simp)]⟩
  unfold m_sent
  have := sl_go_skip (sp ++ x ++ sq) (sp ++ x ++ sq).length 0 0 0 (fun j _ hj => by
    by_cases a : j < sp.length
    · rw [List.append_assoc]; exact sl_ends_sp _ _ h1 j a
    · by_cases b : j < sp.length + x.length
      · obtain ⟨k, rfl⟩ : ∃ k, j = sp.length + k := ⟨j - sp.length, by omega⟩
        rw [sl_ends_mid sp x sq h1 hq k (by omega)]
        exact hx.2 k (by omega)
      · refine sl_space_not _ _ ?_
        obtain ⟨k, rfl⟩ : ∃ k, j = (sp ++ x).length + k := ⟨j - (sp ++ x).length, by simp; omega⟩
        rw [sl_at_right]
        exact h2.at k (by simp at hj; omega))
  rw [Nat.add_zero] at this
  rw [this, m_sentGo, List.drop_zero, sl_trim _ _ _ h1 h2 hx.1, if_neg hx.1.2.2]
theorem sl_sent_ended (sp x rest : List UInt8) (h1 : AllSp sp) (hr : SpHead rest) (hx : Ended x) : m_sent (sp ++ x ++ rest) = x :: m_sent rest := by
  have hn : 0 < x.length := List.length_pos_iff.2 hx.1.2.2
  unfold m_sent
  have hlen : (sp ++ x ++ rest).length = (sp.length + (x.length - 1)) + (1 + rest.length) := by simp; omega
  rw [hlen, sl_go_skip (sp ++ x ++ rest) (sp.length + (x.length - 1)) (1 + rest.length) 0 0 (fun j _ hj => by
    by_cases a : j < sp.length
    · rw [List.append_assoc]; exact sl_ends_sp _ _ h1 j a
    · obtain ⟨k, rfl⟩ : ∃ k, j = sp.length + k := ⟨j - sp.length, by omega⟩
      rw [sl_ends_mid sp x rest h1 hr k (by omega)]
      exact hx.2.2 k (by omega)),
    Nat.add_comm 1, m_sentGo, Nat.zero_add, sl_ends_mid sp x rest h1 hr _ (by omega), hx.2.1, if_pos rfl, List.drop_zero, Nat.sub_zero]
  have e : sp.length + (x.length - 1) + 1 = (sp ++ x).length := by simp; omega
  rw [e, List.take_left]
  have ht := sl_trim sp x [] h1 (fun _ h => by cases h) hx.1
  rw [List.append_nil] at ht
  rw [ht]
  congr 1
  have := sl_go_shift (sp ++ x) rest hr rest.length 0 0 (Nat.zero_add _) (Nat.le_refl _)
  rw [Nat.add_zero] at this
  exact this
/-- Every text is spaces alone, or what is left open among spaces, or a sentence that ends and a rest. -/
theorem sl_cases (l : List UInt8) : AllSp l ∨ (∃ sp x sq, l = sp ++ x ++ sq ∧ AllSp sp ∧ AllSp sq ∧ Open x) ∨ (∃ sp x rest, l = sp ++ x ++ rest ∧ AllSp sp ∧ SpHead rest ∧ Ended x) := by
  by_cases hex : ∃ i, i < l.length ∧ m_ends l i = true
  · have hfind : ∃ i, (i < l.length ∧ m_ends l i = true) ∧ ∀ j, j < i → m_ends l j = false := by
      obtain ⟨i, hi⟩ := hex
      induction i using Nat.strongRecOn with
      | _ i ih =>
        by_cases h : ∃ j, j < i ∧ m_ends l j = true
        · obtain ⟨j, hj, hj2⟩ := h
          exact ih j hj ⟨by omega, hj2⟩
        · exact ⟨i, hi, fun j hj => by
            cases hb : m_ends l j with
            | false => rfl
            | true => exact absurd ⟨j, hj, hb⟩ h⟩
    obtain ⟨i, ⟨hi, he⟩, hmin⟩ := hfind
    refine .inr (.inr ?_)
    have hsplit : l = l.take (i + 1) ++ l.drop (i + 1) := (List.take_append_drop _ _).symm
    have hlen : (l.take (i + 1)).length = i + 1 := by rw [List.length_take]; omega
    have hchar : m_at l i ≠ 32 := fun h => by rw [sl_space_not _ _ h] at he; cases he
    have hlast : m_at (l.take (i + 1)) i ≠ 32 := by
      rw [← sl_at_left _ (l.drop (i + 1)) i (by omega), ← hsplit]; exact hchar
    have hrest : SpHead (l.drop (i + 1)) := by
      cases hd : l.drop (i + 1) with
      | nil => exact .inl rfl
      | cons c t =>
        refine .inr ⟨t, ?_⟩
        have hl2 : i + 1 < l.length := by
          have := congrArg List.length hd
          simp at this; omega
        unfold m_ends at he
        simp only [Bool.and_eq_true, Bool.or_eq_true, decide_eq_true_eq, beq_iff_eq] at he
        rcases he.1.2 with h | h
        · omega
        · have h' : m_at (l.take (i + 1) ++ l.drop (i + 1)) ((l.take (i + 1)).length + 0) = 32 := by rw [← hsplit, hlen]; exact h
          rw [sl_at_right, hd] at h'
          rw [show c = 32 from h']
    rcases sl_split (l.take (i + 1)) with h | ⟨sp, x, sq, h1, h2, h3, h4⟩
    · exact absurd (h.at i (by omega)) hlast
    · have hsq : sq = [] := by
        cases hq : sq with
        | nil => rfl
        | cons c s =>
          exfalso
          apply hlast
          have hll := congrArg List.length h1
          rw [hlen] at hll
          simp only [List.length_append] at hll
          have hpos : 0 < sq.length := by rw [hq]; simp
          rw [h1, show i = (sp ++ x).length + (sq.length - 1) by simp; omega, sl_at_right]
          exact h3.at _ (by omega)
      subst hsq
      rw [List.append_nil] at h1
      have hll := congrArg List.length h1
      rw [hlen] at hll
      simp only [List.length_append] at hll
      have hn : 0 < x.length := List.length_pos_iff.2 h4.2.2
      have hl : l = sp ++ x ++ l.drop (i + 1) := by rw [← h1]; exact hsplit
      refine ⟨sp, x, l.drop (i + 1), hl, h2, hrest, h4, ?_, fun j hj => ?_⟩
      · rw [← sl_ends_mid sp x _ h2 hrest _ (by omega), ← hl, show sp.length + (x.length - 1) = i by omega]; exact he
      · rw [← sl_ends_mid sp x _ h2 hrest _ (by omega), ← hl]; exact hmin _ (by omega)
  · have hno : ∀ j, j < l.length → m_ends l j = false := fun j hj => by
      cases hb : m_ends l j with
      | false => rfl
      | true => exact absurd ⟨j, hj, hb⟩ hex
    rcases sl_split l with h | ⟨sp, x, sq, h1, h2, h3, h4⟩
    · exact .inl h
    · refine .inr (.inl ⟨sp, x, sq, h1, h2, h3, h4, fun j hj => ?_⟩)
      have hq : SpHead sq := by
        cases sq with
        | nil => exact .inl rfl
        | cons c s => exact .inr ⟨s, by rw [h3 c (by simp)]⟩
      rw [← sl_ends_mid sp x sq h2 hq j hj, ← h1]
      exact hno _ (by rw [h1]; simp; omega)
/-- The sentences of a text, by its parts. -/
inductive Parts : List UInt8 → List (List UInt8) → Prop where
  | none (s : List UInt8) (h : AllSp s) : Parts s []
  | last (sp x sq : List UInt8) (h1 : AllSp sp) (h2 : AllSp sq) (hx : Open x) : Parts (sp ++ x ++ sq) [x]
  | more (sp x rest : List UInt8) (xs : List (List UInt8)) (h1 : AllSp sp) (hr : SpHead rest) (hx : Ended x) (h : Parts rest xs) : Parts (sp ++ x ++ rest) (x :: xs)
theorem Parts.sent {l : List UInt8} {xs : List (List UInt8)} (h : Parts l xs) : m_sent l = xs := by
  induction h with
  | none s h => exact sl_sent_sp s h
  | last sp x sq h1 h2 hx => exact sl_sent_open sp x sq h1 h2 hx
  | more sp x rest xs h1 hr hx h ih => rw [sl_sent_ended sp x rest h1 hr hx, ih]
theorem sl_parts (l : List UInt8) : Parts l (m_sent l) := by
  have key : ∀ n (l : List UInt8), l.length = n → Parts l (m_sent l) := by
    intro n
    induction n using Nat.strongRecOn with
    | _ n ih =>
      intro l hl
      rcases sl_cases l with h | ⟨sp, x, sq, rfl, h2, h3, h4⟩ | ⟨sp, x, rest, rfl, h2, h3, h4⟩
      · rw [sl_sent_sp l h]; exact .none l h
      · rw [sl_sent_open sp x sq h2 h3 h4]; exact .last sp x sq h2 h3 h4
      · rw [sl_sent_ended sp x rest h2 h3 h4]
        have hn : 0 < x.length := List.length_pos_iff.2 h4.1.2.2
        exact .more sp x rest _ h2 h3 h4 (ih rest.length (by simp at hl; omega) rest rfl)
  exact key _ l rfl
theorem Parts.space {l : List UInt8} {xs : List (List UInt8)} (h : Parts l xs) : Parts (32 :: l) xs := by
  have hc : ∀ sp, AllSp sp → AllSp (32 :: sp) := fun sp h c hc => by
    rcases List.mem_cons.1 hc with rfl | hc
    · rfl
    · exact h c hc
  cases h with
  | none s h => exact .none _ (hc _ h)
  | last sp x sq h1 h2 hx => exact .last (32 :: sp) x sq (hc _ h1) h2 hx
  | more sp x rest xs h1 hr hx h => exact .more (32 :: sp) x rest xs (hc _ h1) hr hx h
/-- Joined by single spaces, they are the same sentences. -/
theorem Parts.join {l : List UInt8} {xs : List (List UInt8)} (h : Parts l xs) : Parts (m_join xs) xs := by
  have hnil : AllSp [] := fun _ h => by cases h
  induction h with
  | none s h => exact .none [] hnil
  | last sp x sq h1 h2 hx =>
    have := Parts.last [] x [] hnil hnil hx
    rw [List.nil_append, List.append_nil] at this
    exact this
  | more sp x rest xs h1 hr hx h ih =>
    cases xs with
    | nil =>
      have := Parts.more [] x [] [] hnil (.inl rfl) hx (.none [] hnil)
      rw [List.nil_append, List.append_nil] at this
      exact this
    | cons y ys =>
      have := Parts.more [] x (32 :: m_join (y :: ys)) (y :: ys) hnil (.inr ⟨_, rfl⟩) hx ih.space
      rw [List.nil_append] at this
      exact this
theorem sl_joined (l : List UInt8) : m_sent (m_join (m_sent l)) = m_sent l := (sl_parts l).join.sent
/-- Each is neat; without spaces they are the text. -/
theorem Parts.neat {l : List UInt8} {xs : List (List UInt8)} (h : Parts l xs) : (∀ x ∈ xs, Neat x) ∧ xs.flatMap (·.filter (· != 32)) = l.filter (· != 32) := by
  have hsp : ∀ s : List UInt8, AllSp s → s.filter (· != 32) = [] := fun s h => by
    rw [List.filter_eq_nil_iff]
    intro c hc
    simp [h c hc]
  induction h with
  | none s h => exact ⟨by simp, by rw [hsp s h]; rfl⟩
  | last sp x sq h1 h2 hx =>
    refine ⟨by simpa using hx.1, ?_⟩
    rw [List.filter_append, List.filter_append, hsp sp h1, hsp sq h2]
    simp
  | more sp x rest xs h1 hr hx h ih =>
    refine ⟨?_, ?_⟩
    · intro y hy
      rcases List.mem_cons.1 hy with rfl | hy
      · exact hx.1
      · exact ih.1 y hy
    · rw [List.flatMap_cons, ih.2, List.filter_append, List.filter_append, hsp sp h1, List.nil_append]
/-- What stands in the joined sentences stands in the text, or is a space. -/
theorem Parts.mem {l : List UInt8} {xs : List (List UInt8)} (h : Parts l xs) : ∀ x ∈ xs, ∀ c ∈ x, c ∈ l := by
  induction h with
  | none s h => simp
  | last sp x sq h1 h2 hx => intro y hy c hc; simp at hy; subst hy; simp [hc]
  | more sp x rest xs h1 hr hx h ih =>
    intro y hy c hc
    rcases List.mem_cons.1 hy with rfl | hy
    · simp [hc]
    · simp [ih y hy c hc]
theorem sl_join_mem : ∀ (xs : List (List UInt8)) (c : UInt8), c ∈ m_join xs → c = 32 ∨ ∃ x ∈ xs, c ∈ x
  | [], c, h => by cases h
  | [x], c, h => .inr ⟨x, by simp, h⟩
  | x :: y :: l, c, h => by
    rw [m_join, List.mem_append, List.mem_cons] at h
    rcases h with h | h | h
    · exact .inr ⟨x, by simp, h⟩
    · exact .inl h
    · rcases sl_join_mem (y :: l) c h with h | ⟨z, hz, hc⟩
      · exact .inl h
      · exact .inr ⟨z, by simp only [List.mem_cons] at hz ⊢; exact .inr hz, hc⟩
theorem Parts.join_len {l : List UInt8} {xs : List (List UInt8)} (h : Parts l xs) : (m_join xs).length ≤ 2 * l.length := by
  induction h with
  | none s h => simp [m_join]
  | last sp x sq h1 h2 hx => simp [m_join]; omega
  | more sp x rest xs h1 hr hx h ih =>
    have hn : 0 < x.length := List.length_pos_iff.2 hx.1.2.2
    cases xs with
    | nil => simp [m_join]; omega
    | cons y ys =>
      simp only [m_join, List.length_append, List.length_cons] at ih ⊢
      omega
end Go.Proofs.YtpgjhjlhipikgaaDoor.PK
end
section
set_option linter.unusedVariables false
set_option linter.unusedSimpArgs false
namespace Go.Proofs.YtpgjhjlhipikgaaDoor.PK
open Go.RowKit Go.Proofs.YtpgjhjlhipikgaaDoorW.PrintWords Go.Proofs.YtpgjhjlhipikgaaDoorW.PrintLast Go.Proofs.YtpgjhjlhipikgaaDoorW.PrintMore
theorem pu_mn (a b : Int) : mn a b = if b < a then b else a := rfl
theorem pu_cut (a0 : ByteArray) (m : Int) (hm : 0 ≤ m) : 0 ≤ mn (a0.size : Int) m ∧ mn (a0.size : Int) m ≤ (a0.size : Int) ∧ (a0.extract 0 (mn (a0.size : Int) m).toNat).size ≤ m.toNat := by
  rw [pu_mn]
  refine ⟨by split <;> omega, by split <;> omega, ?_⟩
  rw [ByteArray.size_extract]
  split <;> omega
theorem pu_w1 (n : Nat) (h : n ≤ 9000000000000000000) : wrap64 ((n : Int) + 1) = ((n + 1 : Nat) : Int) := by unfold wrap64; omega
theorem pu_wm1 (n : Nat) (h : n ≤ 9000000000000000000) (h0 : 1 ≤ n) : wrap64 ((n : Int) - 1) = ((n - 1 : Nat) : Int) := by unfold wrap64; omega
theorem pu_rd (xs : List ByteArray) (j : Nat) (h : j < xs.length) : rdOf ByteArray.empty xs (j : Int) = xs[j] := by
  simp [rdOf, List.getD_eq_getElem?_getD, h]
theorem pu_bt (s : ByteArray) (n : Nat) (h : n < s.size) : bt s (n : Int) = ((m_at s.data.toList n).toNat : Int) := by
  unfold bt
  rw [dif_pos (by rw [Int.toNat_natCast]; exact h)]
  have h2 : n < s.data.toList.length := by rw [Array.length_toList]; exact h
  simp only [Int.toNat_natCast, m_at, List.getD_eq_getElem?_getD, List.getElem?_eq_getElem h2, Option.getD_some]
  rfl
theorem pu_size (l : List UInt8) : (⟨l.toArray⟩ : ByteArray).size = l.length := by simp [ByteArray.size]
theorem pu_len (s : ByteArray) : s.data.toList.length = s.size := Array.length_toList
theorem pu_app (a b : List UInt8) : (⟨a.toArray⟩ : ByteArray) ++ ⟨b.toArray⟩ = ⟨(a ++ b).toArray⟩ := cd_ba_inj _ _ (by rw [ByteArray.data_append, Array.toList_append])
theorem pu_toList (s : ByteArray) : s.toList = s.data.toList := ByteArray.toList_eq ..
theorem pu_nat32 (c : UInt8) : ((c.toNat : Int) = 32) ↔ c = 32 := by
  constructor
  · intro h; apply UInt8.toNat_inj.1; show c.toNat = 32; omega
  · rintro rfl; rfl
/-! more about sentences -/
theorem Parts.len {l : List UInt8} {xs : List (List UInt8)} (h : Parts l xs) : (∀ x ∈ xs, x.length ≤ l.length) ∧ xs.length ≤ l.length := by
  induction h with
  | none s h => simp
  | last sp x sq h1 h2 hx =>
    have hn : 0 < x.length := List.length_pos_iff.2 hx.1.2.2
    exact ⟨by simp; omega, by simp; omega⟩
  | more sp x rest xs h1 hr hx h ih =>
    have hn : 0 < x.length := List.length_pos_iff.2 hx.1.2.2
    refine ⟨?_, by simp; omega⟩
    intro y hy
    rcases List.mem_cons.1 hy with rfl | hy
    · simp; omega
    · have := ih.1 y hy; simp; omega
def m_bas (ys : List (List UInt8)) : List ByteArray := ys.map (fun x => ⟨x.toArray⟩)
theorem m_bas_get (ys : List (List UInt8)) (j : Nat) (h : j < ys.length) (h' : j < (m_bas ys).length) : (m_bas ys)[j] = ⟨(ys[j]).toArray⟩ := by simp [m_bas]
theorem m_bas_len (ys : List (List UInt8)) : (m_bas ys).length = ys.length := by simp [m_bas]
end Go.Proofs.YtpgjhjlhipikgaaDoor.PK
end
section
namespace Go.Proofs.YtpgjhjlhipikgaaDoor.PK
open Go.RowKit Go.Proofs.YtpgjhjlhipikgaaDoorW.PrintWords Go.Proofs.YtpgjhjlhipikgaaDoorW.PrintLast Go.Proofs.YtpgjhjlhipikgaaDoorW.PrintMore
attribute [local go_sem] max2_int min2_int max_two min_two max_three min_three max_four min_four   -- for this text's walks alone
set_option linter.unusedVariables false
set_option linter.unusedSimpArgs false

/-! ### copydesklaw03_BlockPrefixes: function 11 -/
-- NEEDS Derived.Test.YtpgjhjlhipikgaaDoorKWalks
-- NEEDS Derived.Test.YtpgjhjlhipikgaaDoorKPureLib
-- NEEDS Derived.Test.YtpgjhjlhipikgaaDoorKCodec
theorem px_pl_rdB (l : List Bl) (j : Nat) (h : j < l.length) : rd_T26 l (j : Int) = l[j] := by
  simp [rd_T26, List.getD_eq_getElem?_getD, h]
def px_m_cut (b : Bl) : Bl := ⟨b.f0, b.f1, b.f2.extract 0 (mn (b.f2.size : Int) 1000).toNat, b.f3, b.f4, ⟨b.f5.f0, b.f5.f1, b.f5.f2, b.f5.f3⟩⟩
def px_m_short (l : List Bl) : List Bl := (l.take 30).map px_m_cut
theorem px_pl_shortGo (l : List Bl) (hl : l.length ≤ 9223372036854775807) : ∀ (d k j : Nat), j + d = 30 → d < k → j ≤ l.length →
    copydesklaw03_short.l0 k l ((l.take j).map px_m_cut) (j : Int) = some (px_m_short l)
  | 0, k, j, hj, hk, hjl => by
    obtain ⟨k, rfl⟩ : ∃ i, k = i + 1 := ⟨k - 1, by omega⟩
    have e : j = 30 := by omega
    subst e
    rw [copydesklaw03_short.l0, if_neg (show ¬ ((30 : Nat) : Int) < 30 by omega)]
    split <;> rfl
  | d + 1, k, j, hj, hk, hjl => by
    obtain ⟨k, rfl⟩ : ∃ i, k = i + 1 := ⟨k - 1, by omega⟩
    rw [copydesklaw03_short.l0]
    by_cases hlt : j < l.length
    · obtain ⟨h1, h2, h3⟩ := pu_cut l[j].f2 1000 (by omega)
      have e : (l.take j).map px_m_cut ++ [px_m_cut l[j]] = (l.take (j + 1)).map px_m_cut := by rw [List.take_succ_eq_append_getElem hlt, List.map_append]; rfl
      have hc : ((l.take j).map px_m_cut).length < 1466015503701 := by rw [List.length_map, List.length_take]; omega
      rw [if_pos (by omega), if_pos (by omega), if_pos (by omega), px_pl_rdB l j hlt, if_pos h1, if_pos h2, if_pos hc, pu_w1 j (by omega)]
      show copydesklaw03_short.l0 k l ((l.take j).map px_m_cut ++ [px_m_cut l[j]]) _ = _
      rw [e]
      exact px_pl_shortGo l hl d k (j + 1) (by omega) (by omega) hlt
    · have e : j = l.length := by omega
      rw [if_neg (by omega), e, List.take_of_length_le (Nat.le_refl _)]
      unfold px_m_short
      rw [List.take_of_length_le (by omega)]
theorem px_pl_short (l : List Bl) (hl : l.length ≤ 9223372036854775807) (k : Nat) (hk : 40 < k) : copydesklaw03_short.f k l = some (px_m_short l) := px_pl_shortGo l hl 30 k 0 (by omega) (by omega) (Nat.zero_le _)
theorem px_m_short_len (l : List Bl) : (px_m_short l).length ≤ 30 := by simp [px_m_short]; omega
theorem px_pl_wf (a : Int) (h : (Lit.int .i64 a).wf = true) : -9223372036854775808 ≤ a ∧ a ≤ 9223372036854775807 := by
  simp [Lit.wf, IntKind.min, IntKind.max, IntKind.signed, IntKind.bits] at h
  omega
theorem px_pl_pick (a : Int) (n : Int) (hn : 0 < n) (h : (Lit.int .i64 a).wf = true) : ∃ p : Int, copydesklaw03_pick.f a n = some p ∧ 0 ≤ p ∧ p < n := by
  obtain ⟨h1, h2⟩ := px_pl_wf a h
  unfold copydesklaw03_pick.f
  by_cases h0 : a < 0
  · have hw : wrap64 (-(wrap64 (a + 1))) = -(a + 1) := by unfold wrap64; omega
    rw [if_pos h0, if_neg (by omega), hw]
    exact ⟨_, rfl, Int.tmod_nonneg _ (by omega), Int.tmod_lt_of_pos _ hn⟩
  · rw [if_neg h0, if_neg (by omega)]
    exact ⟨_, rfl, Int.tmod_nonneg _ (by omega), Int.tmod_lt_of_pos _ hn⟩
theorem px_bk_short (l0 : List Bl) (A0 : Option Addr) (c0 : Nat) (w : World) (hr : Kd.C k26 w A0 l0.length l0) (hc : l0.length ≤ c0) :
    Calls Tryd.prog 18 #[.slice A0 l0.length c0] w fun e w' => ∃ A c, e = .returned (.slice A (px_m_short l0).length c) ∧ (px_m_short l0).length ≤ c ∧ Kd.C k26 w' A (px_m_short l0).length (px_m_short l0) ∧ Below w.heap.size w w' := by
  refine (copydesklaw03_short.calls 100 (fun k_ => k_ < w.heap.size) A0 c0 l0 (px_m_short l0) w (Kd.V_mk hc (Kd.C_F k26_heap hr)) (px_pl_short l0 (Kd.C_max hr) 100 (by omega))).mono ?_
  rintro e w' ⟨v, rfl, hN, hb⟩
  obtain ⟨A, c, rfl⟩ := Kd.N_slice hN
  obtain ⟨_, h2, h3⟩ := Kd.N_reads' hN
  exact ⟨A, c, rfl, h2, h3, hb⟩
theorem px_enc_pos (l : List Bl) : 0 < (m_enc l).length := by
  unfold m_enc m_int
  rw [List.length_append, m_vint]
  split
  · simp only [List.length_cons]; omega
  · simp only [List.length_cons]; omega
def copydesklaw03_BlockPrefixes.f (k : Nat) (l0 : List (S26)) (a1 : Int) (a2 : ByteArray) : Option Bool := if (Lit.int .i64 a1).wf = true then some true else none
set_option maxHeartbeats 4000000 in
set_option maxRecDepth 100000 in
theorem copydesklaw03_BlockPrefixes.calls (k : Nat) (A0 : Option Addr) (c0 : Nat) (l0 : List (S26)) (a1 : Int) (a2 : ByteArray) (r : Bool) (w : World) (hr0 : Kd.C k26 w A0 l0.length l0) (hc0 : l0.length ≤ c0) (h : copydesklaw03_BlockPrefixes.f k l0 a1 a2 = some r) :
    Calls Tryd.prog 11 #[.slice A0 l0.length c0, .int .i64 a1, .string a2] w fun e w' => e = .returned (.bool r) ∧ Below w.heap.size w w' := by
  unfold copydesklaw03_BlockPrefixes.f at h
  obtain ⟨hwf, hr⟩ : (Lit.int .i64 a1).wf = true ∧ true = r := by
    split at h
    · exact ⟨by assumption, Option.some.inj h⟩
    · cases h
  subst hr
  clear h
  have HR0 := Aside0.mk hr0
  have HC0 := Aside0.mk hc0
  clear hr0 hc0
  go_enter Tryd.func11, Tryd.ntmps11
  go_wp2_with (go_at_call 17; refine Rg.stop_here ?_)
  refine ⟨?_⟩
  refine (copydesklaw03_sane.calls true _ rfl).mono ?_
  rintro e w1 ⟨rfl, hb1⟩
  have HB1 := Aside0.mk hb1
  clear hb1
  go_wp2_with (go_at_call 18; refine Rg.stop_here ?_)
  refine ⟨?_⟩
  refine (px_bk_short l0 A0 c0 _ (Kd.C_below HR0.out HB1.out) HC0.out).mono ?_
  rintro e w2 ⟨Aa, ca, rfl, hca, hCa, hb2⟩
  have HB2 := Aside0.mk (below_step HB1.out hb2)
  obtain ⟨a, ha⟩ : ∃ a, px_m_short l0 = a := ⟨_, rfl⟩
  rw [ha] at hca hCa ⊢
  obtain ⟨S, x1, hE1⟩ : ∃ S x1, m_encode a = (S, x1) := ⟨_, _, rfl⟩
  clear hb2 ha
  go_wp2_with (go_at_call 27; refine Rg.stop_here ?_)
  refine ⟨?_⟩
  refine (block_Encode.calls Aa ca a S x1 _ hCa hca (congrArg some hE1)).mono ?_
  rintro e w4 ⟨rfl, hb4⟩
  have HB4 := Aside0.mk (below_step HB2.out hb4)
  clear hCa hb4 hca
  cases hv : m_validL a with
  | false =>
    rw [cd_encode_err a hv] at hE1
    obtain ⟨rfl, rfl⟩ := Prod.mk.inj hE1
    clear hE1
    go_wp2
    go_ret
    exact ⟨rfl, HB4.out⟩
  | true =>
    rw [cd_encode_ok a hv] at hE1
    obtain ⟨hS, rfl⟩ := Prod.mk.inj hE1
    have hSl : S.data.toList = m_enc a := by rw [← hS]
    have hpos := px_enc_pos a
    have hlen := cd_enc_len a hv
    rw [← hSl, pu_len] at hpos hlen
    clear hE1 hS
    have hne : S.toList ≠ [] := by
      rw [pu_toList]
      intro e
      have := congrArg List.length e
      rw [pu_len] at this
      simp only [List.length_nil] at this; omega
    have n1 : (S.toList == ([] : List UInt8)) = false := by simpa using hne
    have n2 : S.toList.isEmpty = false := by simpa using hne
    obtain ⟨p, hp, p0, p1⟩ := px_pl_pick a1 (S.size : Int) (by omega) hwf
    obtain ⟨P, rfl⟩ : ∃ P : Nat, p = (P : Int) := ⟨p.toNat, by omega⟩
    have hext : (S.extract 0 P).data.toList = (m_enc a).take P := by
      rw [ByteArray.data_extract, Array.toList_extract, List.extract_eq_take_drop, hSl]; rfl
    have hd1 : block_Decode.f (S.extract 0 P) = some ([], 10) := by
      unfold block_Decode.f
      rw [if_pos (by rw [ByteArray.size_extract]; omega), cd_decode_pre a hv _ ((m_enc a).drop P) (by rw [hext, List.take_append_drop]) (by
        intro h
        have := congrArg List.length h
        rw [List.length_drop, ← hSl, pu_len] at this
        simp only [List.length_nil] at this
        omega)]
    obtain ⟨Q, hQ, hQ2, hQ3⟩ : ∃ Q : Nat, (if 20 < (a2.size : Int) then 20 else (a2.size : Int)) = (Q : Int) ∧ Q ≤ a2.size ∧ Q ≤ 20 := by
      by_cases h : 20 < (a2.size : Int)
      · rw [if_pos h]; exact ⟨20, rfl, by omega, by omega⟩
      · rw [if_neg h]; exact ⟨a2.size, rfl, by omega, by omega⟩
    obtain ⟨m, hm⟩ : ∃ m, a2.extract 0 Q = m := ⟨_, rfl⟩
    have hms : m.size ≤ 20 := by rw [← hm, ByteArray.size_extract]; omega
    have happ : (S ++ m).data.toList = m_enc a ++ m.data.toList := by rw [ByteArray.data_append, Array.toList_append, hSl]
    have hsz2 : (S ++ m).size ≤ 1000000000 := by rw [ByteArray.size_append]; omega
    have HP := Aside0.mk hp
    have HD1 := Aside0.mk hd1
    have HM := Aside0.mk hm
    have q0 := eq_true (show (0 : Int) ≤ (P : Int) by omega)
    have q1 := eq_true (show (P : Int) ≤ (S.size : Int) by omega)
    have q2 := eq_true (show (0 : Int) ≤ (Q : Int) by omega)
    have q3 := eq_true (show (Q : Int) ≤ (a2.size : Int) by omega)
    have q4 : S.size + m.size ≤ 9223372036854775807 := by omega
    clear hp hd1 hm hext hpos
    go_wp2_with (go_at_call 36; refine Rg.stop_here ?_)
    refine ⟨?_⟩
    refine (copydesklaw03_pick.calls a1 (S.size : Int) (P : Int) _ HP.out).mono ?_
    rintro e w5 ⟨rfl, ⟨n5, rfl⟩⟩
    have HB5 := Aside0.mk (pw_below_drewN HB4.out n5)
    go_wp2_with (go_at_call 29; refine Rg.stop_here ?_)
    refine ⟨?_⟩
    refine (block_Decode.calls (S.extract 0 P) [] 10 _ HD1.out).mono ?_
    rintro e w6 ⟨v1, rfl, hS1, hb6⟩
    obtain ⟨A1, c1, hv1, _, _⟩ := Kd.S_reads hS1
    subst hv1
    have HB6 := Aside0.mk (below_step HB5.out hb6)
    clear hS1 hb6
    by_cases hmn : m.data.toList = []
    · have hd2 : block_Decode.f (S ++ m) = some (a, 0) := by
        unfold block_Decode.f
        rw [if_pos hsz2, cd_decode_enc a hv _ (by rw [happ, hmn, List.append_nil])]
      have z1 : (m.toList == ([] : List UInt8)) = true := by rw [pu_toList, hmn]; rfl
      have z2 : m.toList.isEmpty = true := by rw [pu_toList, hmn]; rfl
      have HD2 := Aside0.mk hd2
      have hm := HM.out
      clear hd2 happ hmn HM
      go_wp2_with (go_at_call 29; refine Rg.stop_here ?_)
      refine ⟨?_⟩
      refine (block_Decode.calls (S ++ m) a 0 _ HD2.out).mono ?_
      rintro e w7 ⟨v2, rfl, hS2, hb7⟩
      obtain ⟨A2, c2, hv2, _, _⟩ := Kd.S_reads hS2
      subst hv2
      go_wp2
      go_ret
      exact ⟨by simp [z1, z2], below_step HB6.out hb7⟩
    · have hd2 : block_Decode.f (S ++ m) = some ([], 10) := by
        unfold block_Decode.f
        rw [if_pos hsz2, cd_decode_more a hv _ m.data.toList happ hmn]
      have z1 : (m.toList == ([] : List UInt8)) = false := by rw [pu_toList]; simpa using hmn
      have z2 : m.toList.isEmpty = false := by rw [pu_toList]; simpa using hmn
      have HD2 := Aside0.mk hd2
      have hm := HM.out
      clear hd2 happ hmn HM
      go_wp2_with (go_at_call 29; refine Rg.stop_here ?_)
      refine ⟨?_⟩
      refine (block_Decode.calls (S ++ m) [] 10 _ HD2.out).mono ?_
      rintro e w7 ⟨v2, rfl, hS2, hb7⟩
      obtain ⟨A2, c2, hv2, _, _⟩ := Kd.S_reads hS2
      subst hv2
      go_wp2
      go_ret
      exact ⟨by simp [z1, z2], below_step HB6.out hb7⟩

end Go.Proofs.YtpgjhjlhipikgaaDoor.PK
end
section
set_option linter.unusedVariables false
set_option linter.unusedSimpArgs false
namespace Go.Proofs.YtpgjhjlhipikgaaDoor.Pure
open Go.RowKit Go.Proofs.YtpgjhjlhipikgaaDoor.PK Go.Proofs.YtpgjhjlhipikgaaDoorW.PrintWords Go.Proofs.YtpgjhjlhipikgaaDoorW.PrintLast
theorem BlockPrefixes (l0 : List Bl) (h0 : l0.length ≤ 9223372036854775807) (a1 : Int) (w1 : (Lit.int .i64 a1).wf = true) (a2 : ByteArray) : ∃ k, copydesklaw03_BlockPrefixes.f k l0 a1 a2 = some true := ⟨0, by unfold copydesklaw03_BlockPrefixes.f; rw [if_pos w1]⟩
end Go.Proofs.YtpgjhjlhipikgaaDoor.Pure
end
section
set_option linter.unusedVariables false
set_option linter.unusedSimpArgs false
namespace Go.Proofs.YtpgjhjlhipikgaaDoor.PK
open Go.RowKit Go.Proofs.YtpgjhjlhipikgaaDoorW.PrintWords Go.Proofs.YtpgjhjlhipikgaaDoorW.PrintLast Go.Proofs.YtpgjhjlhipikgaaDoorW.PrintMore Go.ChangeShapes Go.WideShapes Go.ChangeAt
section
variable {H : Type} {enc : TypeId × Value → H} {W : World} {base : Nat} {spare : Nat → Bool} {held : Bool}
theorem op_c3 : Tryd.prog.cellsOf 3 = 1 := by kernel_rfl
theorem op_c9 : Tryd.prog.cellsOf 9 = 1 := by kernel_rfl
theorem op_c22 : Tryd.prog.cellsOf 22 = 1 := by kernel_rfl
theorem op_c24 : Tryd.prog.cellsOf 24 = 4 := by kernel_rfl
theorem op_c26 : Tryd.prog.cellsOf 26 = 9 := by kernel_rfl
theorem op_ints {fuel : Nat} {v : Value} {x : DataW H × List MemPlace} (h : DataW.trod enc Tryd.prog W base spare held fuel 22 [v] = some x) :
    ∃ (A : Option Addr) (l : List Int) (c : Nat), v = .slice A l.length c ∧ l.length ≤ c ∧ Kd.C (Kd.int .i64) W A l.length l := by
  rcases open_ints Tryd.underlying22 Tryd.underlying3 op_c3 h with ⟨hcs, _⟩ | ⟨a, len, cap, zs, hcs, _, hl, hm, hz, _, hcell, _⟩
  · have hv : v = .slice none 0 0 := by simpa using hcs
    exact ⟨none, [], 0, hv, Nat.le_refl _, rfl, by simp, fun h => absurd h (by simp)⟩
  · have hv : v = .slice (some a) len cap := by simpa using hcs
    have hlz : len ≤ zs.length := by rw [hz]; split <;> omega
    have hlen : (zs.take len).length = len := by rw [List.length_take]; omega
    have hmx : len ≤ 9223372036854775807 := by unfold maxLen at hm; omega
    refine ⟨some a, zs.take len, cap, by rw [hlen]; exact hv, by rw [hlen]; exact hl, rfl, by rw [hlen]; exact hmx, fun _ => ⟨a, rfl, fun j p hp => ⟨[.int .i64 p], rfl, rfl, fun i u hu => ?_⟩⟩⟩
    have hi : i = 0 := by
      have := (List.getElem?_eq_some_iff.1 hu).1
      simp at this; exact this
    subst hi
    have hu' : u = .int .i64 p := (Option.some.inj hu).symm
    subst hu'
    have hj := (List.getElem?_eq_some_iff.1 hp).1
    rw [hlen] at hj
    have hc := hcell j (by omega)
    rw [List.getElem?_take_of_lt hj] at hp
    rw [List.getD_eq_getElem?_getD, hp] at hc
    show W.cell? (a.add (j * 1 + 0)) = _
    rw [Nat.mul_one, Nat.add_zero]
    exact hc
theorem op_six {α : Type} (xs : List α) (h : xs.length = 6) : ∃ a b c d e f, xs = [a, b, c, d, e, f] := by
  match xs, h with
  | [a, b, c, d, e, f], _ => exact ⟨a, b, c, d, e, f, rfl⟩
theorem op_four {α : Type} (xs : List α) (h : xs.length = 4) : ∃ a b c d, xs = [a, b, c, d] := by
  match xs, h with
  | [a, b, c, d], _ => exact ⟨a, b, c, d, rfl⟩
theorem op_nine {α : Type} (xs : List α) (h : xs.length = 9) : ∃ a b c d e f g i j, xs = [a, b, c, d, e, f, g, i, j] := by
  match xs, h with
  | [a, b, c, d, e, f, g, i, j], _ => exact ⟨a, b, c, d, e, f, g, i, j, rfl⟩
theorem op_block {fuel : Nat} {cs : List Value} {x : DataW H × List MemPlace} (h : DataW.trod enc Tryd.prog W base spare held fuel 26 cs = some x) :
    ∃ (b : S26) (A : Option Addr) (c : Nat), cs = [.int .i64 b.f0, .int .i64 b.f1, .string b.f2, .int .i64 b.f3, .int .i64 b.f4, .int .i64 b.f5.f0, .slice A b.f5.f1.length c, .int .i64 b.f5.f2, .int .i64 b.f5.f3] ∧
      b.f5.f1.length ≤ c ∧ Kd.C (Kd.int .i64) W A b.f5.f1.length b.f5.f1 := by
  obtain ⟨xs, n, _, _, hlen, hxl, hel⟩ := DataW.trod_struct Tryd.underlying26 h
  rw [op_c26] at hlen
  obtain ⟨c0, c1, c2, c3, c4, c5, c6, c7, c8, rfl⟩ := op_nine cs hlen
  obtain ⟨y0, y1, y2, y3, y4, y5, rfl⟩ := op_six xs hxl
  have e0 : DataW.trod enc Tryd.prog W base spare held n 3 (([c0, c1, c2, c3, c4, c5, c6, c7, c8].drop 0).take (Tryd.prog.cellsOf 3)) = some y0 := hel 0 _ rfl
  have e1 : DataW.trod enc Tryd.prog W base spare held n 3 (([c0, c1, c2, c3, c4, c5, c6, c7, c8].drop 1).take (Tryd.prog.cellsOf 3)) = some y1 := hel 1 _ rfl
  have e2 : DataW.trod enc Tryd.prog W base spare held n 9 (([c0, c1, c2, c3, c4, c5, c6, c7, c8].drop 2).take (Tryd.prog.cellsOf 9)) = some y2 := hel 2 _ rfl
  have e3 : DataW.trod enc Tryd.prog W base spare held n 3 (([c0, c1, c2, c3, c4, c5, c6, c7, c8].drop 3).take (Tryd.prog.cellsOf 3)) = some y3 := hel 3 _ rfl
  have e4 : DataW.trod enc Tryd.prog W base spare held n 3 (([c0, c1, c2, c3, c4, c5, c6, c7, c8].drop 4).take (Tryd.prog.cellsOf 3)) = some y4 := hel 4 _ rfl
  have e5 : DataW.trod enc Tryd.prog W base spare held n 24 (([c0, c1, c2, c3, c4, c5, c6, c7, c8].drop 5).take (Tryd.prog.cellsOf 24)) = some y5 := hel 5 _ rfl
  rw [op_c3] at e0 e1 e3 e4
  rw [op_c9] at e2
  rw [op_c24] at e5
  obtain ⟨n0, g0, _, _⟩ := DataW.trod_int Tryd.underlying3 (show DataW.trod enc Tryd.prog W base spare held n 3 [c0] = some y0 from e0)
  obtain ⟨n1, g1, _, _⟩ := DataW.trod_int Tryd.underlying3 (show DataW.trod enc Tryd.prog W base spare held n 3 [c1] = some y1 from e1)
  obtain ⟨s2, g2, _, _⟩ := DataW.trod_string Tryd.underlying9 (show DataW.trod enc Tryd.prog W base spare held n 9 [c2] = some y2 from e2)
  obtain ⟨n3, g3, _, _⟩ := DataW.trod_int Tryd.underlying3 (show DataW.trod enc Tryd.prog W base spare held n 3 [c3] = some y3 from e3)
  obtain ⟨n4, g4, _, _⟩ := DataW.trod_int Tryd.underlying3 (show DataW.trod enc Tryd.prog W base spare held n 3 [c4] = some y4 from e4)
  obtain ⟨zs, m, _, _, _, hzl, hez⟩ := DataW.trod_struct Tryd.underlying24 (show DataW.trod enc Tryd.prog W base spare held n 24 [c5, c6, c7, c8] = some y5 from e5)
  obtain ⟨z0, z1, z2, z3, rfl⟩ := op_four zs hzl
  have f0 : DataW.trod enc Tryd.prog W base spare held m 3 (([c5, c6, c7, c8].drop 0).take (Tryd.prog.cellsOf 3)) = some z0 := hez 0 _ rfl
  have f1 : DataW.trod enc Tryd.prog W base spare held m 22 (([c5, c6, c7, c8].drop 1).take (Tryd.prog.cellsOf 22)) = some z1 := hez 1 _ rfl
  have f2 : DataW.trod enc Tryd.prog W base spare held m 3 (([c5, c6, c7, c8].drop 2).take (Tryd.prog.cellsOf 3)) = some z2 := hez 2 _ rfl
  have f3 : DataW.trod enc Tryd.prog W base spare held m 3 (([c5, c6, c7, c8].drop 3).take (Tryd.prog.cellsOf 3)) = some z3 := hez 3 _ rfl
  rw [op_c3] at f0 f2 f3
  rw [op_c22] at f1
  obtain ⟨n5, g5, _, _⟩ := DataW.trod_int Tryd.underlying3 (show DataW.trod enc Tryd.prog W base spare held m 3 [c5] = some z0 from f0)
  obtain ⟨A, l, c, g6, hl, hC⟩ := op_ints (show DataW.trod enc Tryd.prog W base spare held m 22 [c6] = some z1 from f1)
  obtain ⟨n7, g7, _, _⟩ := DataW.trod_int Tryd.underlying3 (show DataW.trod enc Tryd.prog W base spare held m 3 [c7] = some z2 from f2)
  obtain ⟨n8, g8, _, _⟩ := DataW.trod_int Tryd.underlying3 (show DataW.trod enc Tryd.prog W base spare held m 3 [c8] = some z3 from f3)
  refine ⟨⟨n0, n1, s2, n3, n4, ⟨n5, l, n7, n8⟩⟩, A, c, ?_, hl, hC⟩
  rw [List.cons.inj g0 |>.1, List.cons.inj g1 |>.1, List.cons.inj g2 |>.1, List.cons.inj g3 |>.1, List.cons.inj g4 |>.1, List.cons.inj g5 |>.1, g6, List.cons.inj g7 |>.1, List.cons.inj g8 |>.1]
theorem op_choose {α : Type} (P : Nat → α → Prop) : ∀ n, (∀ i, i < n → ∃ b, P i b) → ∃ bs : List α, bs.length = n ∧ ∀ i b, bs[i]? = some b → P i b
  | 0, _ => ⟨[], rfl, by simp⟩
  | n + 1, h => by
    obtain ⟨bs, h1, h2⟩ := op_choose P n (fun i hi => h i (by omega))
    obtain ⟨b, hb⟩ := h n (by omega)
    refine ⟨bs ++ [b], by simp [h1], fun i c hc => ?_⟩
    by_cases hi : i < n
    · rw [List.getElem?_append_left (by omega)] at hc
      exact h2 i c hc
    · have hl := (List.getElem?_eq_some_iff.1 hc).1
      simp [h1] at hl
      have : i = n := by omega
      subst this
      rw [List.getElem?_append_right (by omega), h1, Nat.sub_self] at hc
      have : b = c := by simpa using hc
      subst this
      exact hb
theorem op_blocks {a : Option Addr} {len cap : Nat} {d : DataW H} {ps : List MemPlace} (h : DataW.Trod enc Tryd.prog W base spare held 27 (.slice a len cap) d ps) :
    ∃ bs : List (S26), len = bs.length ∧ bs.length ≤ cap ∧ Kd.C k26 W a bs.length bs := by
  obtain ⟨fuel, hf⟩ := h
  have hf' : DataW.trod enc Tryd.prog W base spare held fuel 27 [.slice a len cap] = some (d, ps) := hf
  rcases DataW.trod_slice Tryd.underlying27 hf' with ⟨hcs, _⟩ | ⟨ad, len', cap', elems, rest, n, _, hcs, _, _, hl, hm, hel, hx, _, _⟩
  · have hv : (.slice a len cap : Value) = .slice none 0 0 := by simpa using hcs
    injection hv with h1 h2 h3
    subst h1; subst h2; subst h3
    exact ⟨[], rfl, Nat.le_refl _, rfl, by simp, fun h => absurd h (by simp)⟩
  · have hv : (.slice a len cap : Value) = .slice (some ad) len' cap' := by simpa using hcs
    injection hv with h1 h2 h3
    subst h1; subst h2; subst h3
    obtain ⟨bs, hbl, hb⟩ := op_choose (fun i (b : S26) => ∃ (A : Option Addr) (c : Nat), b.f5.f1.length ≤ c ∧ Kd.C (Kd.int .i64) W A b.f5.f1.length b.f5.f1 ∧ ∀ j u, ([.int .i64 b.f0, .int .i64 b.f1, .string b.f2, .int .i64 b.f3, .int .i64 b.f4, .int .i64 b.f5.f0, .slice A b.f5.f1.length c, .int .i64 b.f5.f2, .int .i64 b.f5.f3] : List Value)[j]? = some u → W.cell? (ad.add (i * 9 + j)) = some u) len (fun i hi => by
      have hxi := hx i hi
      rw [List.getElem?_eq_getElem (by omega)] at hxi
      obtain ⟨cs, hcs, ht⟩ := Option.bind_eq_some_iff.1 hxi
      rw [op_c26] at hcs
      obtain ⟨_, h9, hcell⟩ := World.cells?_some hcs
      obtain ⟨b, A, c, rfl, h6, hC⟩ := op_block ht
      refine ⟨b, A, c, h6, hC, fun j u hu => ?_⟩
      have hj := (List.getElem?_eq_some_iff.1 hu).1
      have := hcell j (by simpa using hj)
      rw [Addr.add_add, hu] at this
      exact this)
    subst hbl
    refine ⟨bs, rfl, hl, rfl, by unfold maxLen at hm; omega, fun _ => ⟨ad, rfl, fun j p hp => ?_⟩⟩
    obtain ⟨A, c, h6, hC, hc⟩ := hb j p hp
    exact ⟨_, rfl, k26_mk W p h6 hC, fun i u hu => hc i u hu⟩
end
end Go.Proofs.YtpgjhjlhipikgaaDoor.PK
end
