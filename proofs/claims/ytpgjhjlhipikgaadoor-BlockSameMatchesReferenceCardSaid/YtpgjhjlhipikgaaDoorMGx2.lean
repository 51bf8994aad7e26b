/- Texts of this claim, one behind the other. -/
import Derived.Test.YtpgjhjlhipikgaaDoorMDx3
import Derived.Test.YtpgjhjlhipikgaaDoorMGx1
import Derived.Test.YtpgjhjlhipikgaaDoorMDx4
import Derived.Deep.RegionHeld3
import Derived.Laws.Rows
section
namespace Go.Proofs.YtpgjhjlhipikgaaDoor.PK
open Go.RowKit Go.Proofs.YtpgjhjlhipikgaaDoorW.PrintWords Go.Proofs.YtpgjhjlhipikgaaDoorW.PrintLast Go.Proofs.YtpgjhjlhipikgaaDoorW.PrintMore
attribute [local go_sem] max2_int min2_int max_two min_two max_three min_three max_four min_four   -- for this text's walks alone
set_option linter.unusedVariables false
set_option linter.unusedSimpArgs false
def copydeskref03_Same.f (k : Nat) (a0_0 : Int) (a0_1 : Int) (a0_2 : ByteArray) (a0_3 : Int) (a0_4 : Int) (a0_5 : Int) (l0_6 : List Int) (a0_7 : Int) (a0_8 : Int) (a1_0 : Int) (a1_1 : Int) (a1_2 : ByteArray) (a1_3 : Int) (a1_4 : Int) (a1_5 : Int) (l1_6 : List Int) (a1_7 : Int) (a1_8 : Int) : Option (Bool) := if a0_0 = a1_0 then (if a0_1 = a1_1 then (if a0_2.toList = a1_2.toList then (if a0_3 = a1_3 then (if a0_4 = a1_4 then ((copydeskref02_Same.f k a0_5 l0_6 a0_7 a0_8 a1_5 l1_6 a1_7 a1_8).bind fun t171 => (some t171)) else (some false)) else (some false)) else (some false)) else (some false)) else (some false)
theorem copydeskref03_Same.mono : ∀ a0 a1 a2 a3 a4 a5 a6 a7 a8 a9 a10 a11 a12 a13 a14 a15 a16 a17 k, LeO (copydeskref03_Same.f k a0 a1 a2 a3 a4 a5 a6 a7 a8 a9 a10 a11 a12 a13 a14 a15 a16 a17) (copydeskref03_Same.f (k + 1) a0 a1 a2 a3 a4 a5 a6 a7 a8 a9 a10 a11 a12 a13 a14 a15 a16 a17) := by
  intro a0 a1 a2 a3 a4 a5 a6 a7 a8 a9 a10 a11 a12 a13 a14 a15 a16 a17 k
  unfold copydeskref03_Same.f
  repeat' first
      | (with_reducible exact copydeskref02_Same.mono _ _ _ _ _ _ _ _ _)
      | (with_reducible exact LeO.refl _)
      | (with_reducible exact LeO.none _)
      | (with_reducible refine LeO.ite ?_ ?_)
      | (with_reducible refine LeO.bind ?_ (fun _ => ?_))
      | exact copydeskref02_Same.mono _ _ _ _ _ _ _ _ _
      | exact LeO.none _
      | refine LeO.ite ?_ ?_
      | refine LeO.bind ?_ (fun _ => ?_)
set_option maxHeartbeats 8000000 in
set_option maxRecDepth 100000 in
theorem copydeskref03_Same.calls (k : Nat) (a0_0 : Int) (a0_1 : Int) (a0_2 : ByteArray) (a0_3 : Int) (a0_4 : Int) (a0_5 : Int) (A0_6 : Option Addr) (c0_6 : Nat) (l0_6 : List Int) (a0_7 : Int) (a0_8 : Int) (a1_0 : Int) (a1_1 : Int) (a1_2 : ByteArray) (a1_3 : Int) (a1_4 : Int) (a1_5 : Int) (A1_6 : Option Addr) (c1_6 : Nat) (l1_6 : List Int) (a1_7 : Int) (a1_8 : Int) (r : Bool) (w : World) (hr0_6 : Kd.C (Kd.int .i64) w A0_6 l0_6.length l0_6) (hc0_6 : l0_6.length ≤ c0_6) (hr1_6 : Kd.C (Kd.int .i64) w A1_6 l1_6.length l1_6) (hc1_6 : l1_6.length ≤ c1_6) (h : copydeskref03_Same.f k a0_0 a0_1 a0_2 a0_3 a0_4 a0_5 l0_6 a0_7 a0_8 a1_0 a1_1 a1_2 a1_3 a1_4 a1_5 l1_6 a1_7 a1_8 = some r) :
    Calls Tryd.prog 24 #[.agg #[.int .i64 a0_0, .int .i64 a0_1, .string a0_2, .int .i64 a0_3, .int .i64 a0_4, .int .i64 a0_5, .slice A0_6 l0_6.length c0_6, .int .i64 a0_7, .int .i64 a0_8], .agg #[.int .i64 a1_0, .int .i64 a1_1, .string a1_2, .int .i64 a1_3, .int .i64 a1_4, .int .i64 a1_5, .slice A1_6 l1_6.length c1_6, .int .i64 a1_7, .int .i64 a1_8]] w fun e w' => e = .returned (.bool r) ∧ Below w.heap.size w w' := by
  have hu26 := Tryd.underlying26
  have hu24 := Tryd.underlying24
  have HR0_6 := Aside0.mk hr0_6
  have HC0_6 := Aside0.mk hc0_6
  clear hr0_6 hc0_6
  have HR1_6 := Aside0.mk hr1_6
  have HC1_6 := Aside0.mk hc1_6
  clear hr1_6 hc1_6
  have HB := Aside0.mk (Below.refl w.heap.size w)
  have H : (if a0_0 = a1_0 then (if a0_1 = a1_1 then (if a0_2.toList = a1_2.toList then (if a0_3 = a1_3 then (if a0_4 = a1_4 then ((copydeskref02_Same.f k a0_5 l0_6 a0_7 a0_8 a1_5 l1_6 a1_7 a1_8).bind fun t171 => (some t171)) else (some false)) else (some false)) else (some false)) else (some false)) else (some false)) = some r := h
  clear h
  by_cases c3 : a0_0 = a1_0
  · rw [if_pos c3] at H
    have c3b0 : (a0_0 == a1_0) = true := beq_iff_eq.mpr c3
    have c3b1 : (a0_0 != a1_0) = false := bne_eq_false_iff_eq.mpr c3
    clear c3
    by_cases c4 : a0_1 = a1_1
    · rw [if_pos c4] at H
      have c4b0 : (a0_1 == a1_1) = true := beq_iff_eq.mpr c4
      have c4b1 : (a0_1 != a1_1) = false := bne_eq_false_iff_eq.mpr c4
      clear c4
      by_cases c5 : a0_2.toList = a1_2.toList
      · rw [if_pos c5] at H
        have c5b0 : (a0_2.toList == a1_2.toList) = true := beq_iff_eq.mpr c5
        have c5b1 : (a0_2.toList != a1_2.toList) = false := bne_eq_false_iff_eq.mpr c5
        clear c5
        by_cases c6 : a0_3 = a1_3
        · rw [if_pos c6] at H
          have c6b0 : (a0_3 == a1_3) = true := beq_iff_eq.mpr c6
          have c6b1 : (a0_3 != a1_3) = false := bne_eq_false_iff_eq.mpr c6
          clear c6
          by_cases c7 : a0_4 = a1_4
          · rw [if_pos c7] at H
            have c7b0 : (a0_4 == a1_4) = true := beq_iff_eq.mpr c7
            have c7b1 : (a0_4 != a1_4) = false := bne_eq_false_iff_eq.mpr c7
            clear c7
            replace H := Option.bind_eq_some_iff.mp H
            obtain ⟨t171, A80, H⟩ := H
            replace H : (some t171) = some r := H
            have A8 := Aside0.mk A80
            clear A80
            obtain rfl := Option.some.inj H
            go_enter Tryd.func24, Tryd.ntmps24
            go_wp2_with (first | ((with_reducible refine gate_dst (N := 2) rfl ?_); refine box_event ?hg (N := 2) ?hd (cs := #[.int .i64 a0_0, .int .i64 a0_1, .string a0_2, .int .i64 a0_3, .int .i64 a0_4, .int .i64 a0_5, .slice A0_6 l0_6.length c0_6, .int .i64 a0_7, .int .i64 a0_8]) (t := 26) ?hr ?_; (case hd => rfl); (case hg => rfl); (case hr => first | (go_simp; done) | (go_simp; rfl)); intro gb169 hg w9 hbox hb; have n0_ := Aside0.mk (below_step (by repeat (first | (with_reducible first | exact HB.out | apply below_alloc | apply pw_below_drewN | apply below_drew1) | exact HB.out)) hb); have n1_ := Aside0.mk (hbox); have n2_ := Aside0.mk ((by rw [hg]; exact (below_size (by repeat (first | (with_reducible first | exact HB.out | apply below_alloc | apply pw_below_drewN | apply below_drew1) | exact HB.out))) : w.heap.size ≤ gb169)); have n3_ := Aside0.mk ((by rw [hg]; exact (below_size (by repeat (first | (with_reducible first | exact HB.out | apply below_alloc | apply pw_below_drewN | apply below_drew1) | exact HB.out))) : w.heap.size ≤ gb169)); clear HB; have HB := n0_; have BK169 := n1_; have GW169 := n2_; have GE169 := n3_; clear n0_ n1_ n2_ n3_; clear hb hbox hg) | ((with_reducible refine gate_dst (N := 3) rfl ?_); refine box_event ?hg (N := 3) ?hd (cs := #[.int .i64 a1_0, .int .i64 a1_1, .string a1_2, .int .i64 a1_3, .int .i64 a1_4, .int .i64 a1_5, .slice A1_6 l1_6.length c1_6, .int .i64 a1_7, .int .i64 a1_8]) (t := 26) ?hr ?_; (case hd => rfl); (case hg => rfl); (case hr => first | (go_simp; done) | (go_simp; rfl)); intro gb170 hg w10 hbox hb; have n0_ := Aside0.mk (blk_below (g := gb169) (o := .cells #[.int .i64 a0_0, .int .i64 a0_1, .string a0_2, .int .i64 a0_3, .int .i64 a0_4, .int .i64 a0_5, .slice A0_6 l0_6.length c0_6, .int .i64 a0_7, .int .i64 a0_8] 26 (0, 0)) (by (with_reducible repeat (first | refine blk_drewN ?_ _ | refine blk_drew ?_ | refine blk_alloc ?_ _)); exact BK169.out) hb); have n1_ := Aside0.mk (below_step (by repeat (first | (with_reducible first | exact HB.out | apply below_alloc | apply pw_below_drewN | apply below_drew1 | refine below_set ?_ GE169.out) | exact HB.out)) hb); have n2_ := Aside0.mk (hbox); have n3_ := Aside0.mk ((by rw [hg]; exact (below_size (by repeat (first | (with_reducible first | exact HB.out | apply below_alloc | apply pw_below_drewN | apply below_drew1 | refine below_set ?_ GE169.out) | exact HB.out))) : w.heap.size ≤ gb170)); have n4_ := Aside0.mk ((by rw [hg]; exact (below_size (by repeat (first | (with_reducible first | exact HB.out | apply below_alloc | apply pw_below_drewN | apply below_drew1 | refine below_set ?_ GE169.out) | exact HB.out))) : w.heap.size ≤ gb170)); have n5_ := Aside0.mk ((by rw [hg]; exact Nat.ne_of_lt (blk_lt (g := gb169) (o := .cells #[.int .i64 a0_0, .int .i64 a0_1, .string a0_2, .int .i64 a0_3, .int .i64 a0_4, .int .i64 a0_5, .slice A0_6 l0_6.length c0_6, .int .i64 a0_7, .int .i64 a0_8] 26 (0, 0)) (by (with_reducible repeat (first | refine blk_drewN ?_ _ | refine blk_drew ?_ | refine blk_alloc ?_ _)); exact BK169.out)) : gb169 ≠ gb170)); have n6_ := Aside0.mk ((by rw [hg]; exact Nat.ne_of_gt (blk_lt (g := gb169) (o := .cells #[.int .i64 a0_0, .int .i64 a0_1, .string a0_2, .int .i64 a0_3, .int .i64 a0_4, .int .i64 a0_5, .slice A0_6 l0_6.length c0_6, .int .i64 a0_7, .int .i64 a0_8] 26 (0, 0)) (by (with_reducible repeat (first | refine blk_drewN ?_ _ | refine blk_drew ?_ | refine blk_alloc ?_ _)); exact BK169.out)) : gb170 ≠ gb169)); clear BK169; clear HB; have BK169 := n0_; have HB := n1_; have BK170 := n2_; have GW170 := n3_; have GE170 := n4_; have NB169_170 := n5_; have NB170_169 := n6_; clear n0_ n1_ n2_ n3_ n4_ n5_ n6_; clear hb hbox hg; have hnb11 := NB169_170.out; have hnc11 := NB170_169.out; have hcz12_0 : w10.cell? ⟨gb169, 0, none⟩ = some (.int .i64 a0_0) := (blk_cell BK169.out 0).trans rfl; have hcz12_1 : w10.cell? ⟨gb169, 1, none⟩ = some (.int .i64 a0_1) := (blk_cell BK169.out 1).trans rfl; have hcz12_2 : w10.cell? ⟨gb169, 2, none⟩ = some (.string a0_2) := (blk_cell BK169.out 2).trans rfl; have hcz12_3 : w10.cell? ⟨gb169, 3, none⟩ = some (.int .i64 a0_3) := (blk_cell BK169.out 3).trans rfl; have hcz12_4 : w10.cell? ⟨gb169, 4, none⟩ = some (.int .i64 a0_4) := (blk_cell BK169.out 4).trans rfl; have hcz12_5 : w10.cell? ⟨gb169, 5, none⟩ = some (.int .i64 a0_5) := (blk_cell BK169.out 5).trans rfl; have hcz12_6 : w10.cell? ⟨gb169, 6, none⟩ = some (.slice A0_6 l0_6.length c0_6) := (blk_cell BK169.out 6).trans rfl; have hcz12_7 : w10.cell? ⟨gb169, 7, none⟩ = some (.int .i64 a0_7) := (blk_cell BK169.out 7).trans rfl; have hcz12_8 : w10.cell? ⟨gb169, 8, none⟩ = some (.int .i64 a0_8) := (blk_cell BK169.out 8).trans rfl; have hfz12_0 := blk_frozen BK169.out 0; have hfz12_1 := blk_frozen BK169.out 1; have hfz12_2 := blk_frozen BK169.out 2; have hfz12_3 := blk_frozen BK169.out 3; have hfz12_4 := blk_frozen BK169.out 4; have hfz12_5 := blk_frozen BK169.out 5; have hfz12_6 := blk_frozen BK169.out 6; have hfz12_7 := blk_frozen BK169.out 7; have hfz12_8 := blk_frozen BK169.out 8; have hcz13_0 : w10.cell? ⟨gb170, 0, none⟩ = some (.int .i64 a1_0) := (blk_cell BK170.out 0).trans rfl; have hcz13_1 : w10.cell? ⟨gb170, 1, none⟩ = some (.int .i64 a1_1) := (blk_cell BK170.out 1).trans rfl; have hcz13_2 : w10.cell? ⟨gb170, 2, none⟩ = some (.string a1_2) := (blk_cell BK170.out 2).trans rfl; have hcz13_3 : w10.cell? ⟨gb170, 3, none⟩ = some (.int .i64 a1_3) := (blk_cell BK170.out 3).trans rfl; have hcz13_4 : w10.cell? ⟨gb170, 4, none⟩ = some (.int .i64 a1_4) := (blk_cell BK170.out 4).trans rfl; have hcz13_5 : w10.cell? ⟨gb170, 5, none⟩ = some (.int .i64 a1_5) := (blk_cell BK170.out 5).trans rfl; have hcz13_6 : w10.cell? ⟨gb170, 6, none⟩ = some (.slice A1_6 l1_6.length c1_6) := (blk_cell BK170.out 6).trans rfl; have hcz13_7 : w10.cell? ⟨gb170, 7, none⟩ = some (.int .i64 a1_7) := (blk_cell BK170.out 7).trans rfl; have hcz13_8 : w10.cell? ⟨gb170, 8, none⟩ = some (.int .i64 a1_8) := (blk_cell BK170.out 8).trans rfl; have hfz13_0 := blk_frozen BK170.out 0; have hfz13_1 := blk_frozen BK170.out 1; have hfz13_2 := blk_frozen BK170.out 2; have hfz13_3 := blk_frozen BK170.out 3; have hfz13_4 := blk_frozen BK170.out 4; have hfz13_5 := blk_frozen BK170.out 5; have hfz13_6 := blk_frozen BK170.out 6; have hfz13_7 := blk_frozen BK170.out 7; have hfz13_8 := blk_frozen BK170.out 8) | (go_at_call 48; (with_reducible refine (copydeskref02_Same.calls k a0_5 _ _ l0_6 a0_7 a0_8 a1_5 _ _ l1_6 a1_7 a1_8 t171 _ ?side1 ?side2 ?side3 ?side4 A8.out).mono ?_); (case side1 => repeat (first | exact (Kd.C_below HR0_6.out HB.out) | (with_reducible refine Kd.C_alloc ?_ _) | (with_reducible refine Kd.C_drewN ?_ _) | (with_reducible refine Kd.C_drew ?_))); (case side2 => exact HC0_6.out); (case side3 => repeat (first | exact (Kd.C_below HR1_6.out HB.out) | (with_reducible refine Kd.C_alloc ?_ _) | (with_reducible refine Kd.C_drewN ?_ _) | (with_reducible refine Kd.C_drew ?_))); (case side4 => exact HC1_6.out); rintro e w14 ⟨rfl, hb⟩; have n0_ := Aside0.mk (blk_below (g := gb169) (o := .cells #[.int .i64 a0_0, .int .i64 a0_1, .string a0_2, .int .i64 a0_3, .int .i64 a0_4, .int .i64 a0_5, .slice A0_6 l0_6.length c0_6, .int .i64 a0_7, .int .i64 a0_8] 26 (0, 0)) (by (with_reducible repeat (first | refine blk_drewN ?_ _ | refine blk_drew ?_ | refine blk_alloc ?_ _)); exact BK169.out) hb); have n1_ := Aside0.mk (blk_below (g := gb170) (o := .cells #[.int .i64 a1_0, .int .i64 a1_1, .string a1_2, .int .i64 a1_3, .int .i64 a1_4, .int .i64 a1_5, .slice A1_6 l1_6.length c1_6, .int .i64 a1_7, .int .i64 a1_8] 26 (0, 0)) (by (with_reducible repeat (first | refine blk_drewN ?_ _ | refine blk_drew ?_ | refine blk_alloc ?_ _)); exact BK170.out) hb); have n2_ := Aside0.mk (below_step (by repeat (first | (with_reducible first | exact HB.out | apply below_alloc | apply pw_below_drewN | apply below_drew1 | refine below_set ?_ GE169.out | refine below_set ?_ GE170.out) | exact HB.out)) hb); clear BK169; clear BK170; clear HB; have BK169 := n0_; have BK170 := n1_; have HB := n2_; clear n0_ n1_ n2_; (try clear hb); (try clear hb2); (try clear hk); (try clear hi)))
            go_ret
            exact ⟨by first | rfl | (simp [errW_none, errW_some] <;> rfl) | (simp [*, errW_none, errW_some] <;> rfl), by repeat (first | (with_reducible first | exact HB.out | apply below_alloc | apply pw_below_drewN | apply below_drew1 | refine below_set ?_ GE169.out | refine below_set ?_ GE170.out) | exact HB.out)⟩
          · rw [if_neg c7] at H
            have c7b0 : (a0_4 == a1_4) = false := beq_eq_false_iff_ne.mpr c7
            have c7b1 : (a0_4 != a1_4) = true := bne_iff_ne.mpr c7
            obtain rfl := Option.some.inj H
            go_enter Tryd.func24, Tryd.ntmps24
            go_wp2_with (first | ((with_reducible refine gate_dst (N := 2) rfl ?_); refine box_event ?hg (N := 2) ?hd (cs := #[.int .i64 a0_0, .int .i64 a0_1, .string a0_2, .int .i64 a0_3, .int .i64 a0_4, .int .i64 a0_5, .slice A0_6 l0_6.length c0_6, .int .i64 a0_7, .int .i64 a0_8]) (t := 26) ?hr ?_; (case hd => rfl); (case hg => rfl); (case hr => first | (go_simp; done) | (go_simp; rfl)); intro gb169 hg w15 hbox hb; have n0_ := Aside0.mk (below_step (by repeat (first | (with_reducible first | exact HB.out | apply below_alloc | apply pw_below_drewN | apply below_drew1) | exact HB.out)) hb); have n1_ := Aside0.mk (hbox); have n2_ := Aside0.mk ((by rw [hg]; exact (below_size (by repeat (first | (with_reducible first | exact HB.out | apply below_alloc | apply pw_below_drewN | apply below_drew1) | exact HB.out))) : w.heap.size ≤ gb169)); have n3_ := Aside0.mk ((by rw [hg]; exact (below_size (by repeat (first | (with_reducible first | exact HB.out | apply below_alloc | apply pw_below_drewN | apply below_drew1) | exact HB.out))) : w.heap.size ≤ gb169)); clear HB; have HB := n0_; have BK169 := n1_; have GW169 := n2_; have GE169 := n3_; clear n0_ n1_ n2_ n3_; clear hb hbox hg) | ((with_reducible refine gate_dst (N := 3) rfl ?_); refine box_event ?hg (N := 3) ?hd (cs := #[.int .i64 a1_0, .int .i64 a1_1, .string a1_2, .int .i64 a1_3, .int .i64 a1_4, .int .i64 a1_5, .slice A1_6 l1_6.length c1_6, .int .i64 a1_7, .int .i64 a1_8]) (t := 26) ?hr ?_; (case hd => rfl); (case hg => rfl); (case hr => first | (go_simp; done) | (go_simp; rfl)); intro gb170 hg w16 hbox hb; have n0_ := Aside0.mk (blk_below (g := gb169) (o := .cells #[.int .i64 a0_0, .int .i64 a0_1, .string a0_2, .int .i64 a0_3, .int .i64 a0_4, .int .i64 a0_5, .slice A0_6 l0_6.length c0_6, .int .i64 a0_7, .int .i64 a0_8] 26 (0, 0)) (by (with_reducible repeat (first | refine blk_drewN ?_ _ | refine blk_drew ?_ | refine blk_alloc ?_ _)); exact BK169.out) hb); have n1_ := Aside0.mk (below_step (by repeat (first | (with_reducible first | exact HB.out | apply below_alloc | apply pw_below_drewN | apply below_drew1 | refine below_set ?_ GE169.out) | exact HB.out)) hb); have n2_ := Aside0.mk (hbox); have n3_ := Aside0.mk ((by rw [hg]; exact (below_size (by repeat (first | (with_reducible first | exact HB.out | apply below_alloc | apply pw_below_drewN | apply below_drew1 | refine below_set ?_ GE169.out) | exact HB.out))) : w.heap.size ≤ gb170)); have n4_ := Aside0.mk ((by rw [hg]; exact (below_size (by repeat (first | (with_reducible first | exact HB.out | apply below_alloc | apply pw_below_drewN | apply below_drew1 | refine below_set ?_ GE169.out) | exact HB.out))) : w.heap.size ≤ gb170)); have n5_ := Aside0.mk ((by rw [hg]; exact Nat.ne_of_lt (blk_lt (g := gb169) (o := .cells #[.int .i64 a0_0, .int .i64 a0_1, .string a0_2, .int .i64 a0_3, .int .i64 a0_4, .int .i64 a0_5, .slice A0_6 l0_6.length c0_6, .int .i64 a0_7, .int .i64 a0_8] 26 (0, 0)) (by (with_reducible repeat (first | refine blk_drewN ?_ _ | refine blk_drew ?_ | refine blk_alloc ?_ _)); exact BK169.out)) : gb169 ≠ gb170)); have n6_ := Aside0.mk ((by rw [hg]; exact Nat.ne_of_gt (blk_lt (g := gb169) (o := .cells #[.int .i64 a0_0, .int .i64 a0_1, .string a0_2, .int .i64 a0_3, .int .i64 a0_4, .int .i64 a0_5, .slice A0_6 l0_6.length c0_6, .int .i64 a0_7, .int .i64 a0_8] 26 (0, 0)) (by (with_reducible repeat (first | refine blk_drewN ?_ _ | refine blk_drew ?_ | refine blk_alloc ?_ _)); exact BK169.out)) : gb170 ≠ gb169)); clear BK169; clear HB; have BK169 := n0_; have HB := n1_; have BK170 := n2_; have GW170 := n3_; have GE170 := n4_; have NB169_170 := n5_; have NB170_169 := n6_; clear n0_ n1_ n2_ n3_ n4_ n5_ n6_; clear hb hbox hg; have hnb17 := NB169_170.out; have hnc17 := NB170_169.out; have hcz18_0 : w16.cell? ⟨gb169, 0, none⟩ = some (.int .i64 a0_0) := (blk_cell BK169.out 0).trans rfl; have hcz18_1 : w16.cell? ⟨gb169, 1, none⟩ = some (.int .i64 a0_1) := (blk_cell BK169.out 1).trans rfl; have hcz18_2 : w16.cell? ⟨gb169, 2, none⟩ = some (.string a0_2) := (blk_cell BK169.out 2).trans rfl; have hcz18_3 : w16.cell? ⟨gb169, 3, none⟩ = some (.int .i64 a0_3) := (blk_cell BK169.out 3).trans rfl; have hcz18_4 : w16.cell? ⟨gb169, 4, none⟩ = some (.int .i64 a0_4) := (blk_cell BK169.out 4).trans rfl; have hcz18_5 : w16.cell? ⟨gb169, 5, none⟩ = some (.int .i64 a0_5) := (blk_cell BK169.out 5).trans rfl; have hcz18_6 : w16.cell? ⟨gb169, 6, none⟩ = some (.slice A0_6 l0_6.length c0_6) := (blk_cell BK169.out 6).trans rfl; have hcz18_7 : w16.cell? ⟨gb169, 7, none⟩ = some (.int .i64 a0_7) := (blk_cell BK169.out 7).trans rfl; have hcz18_8 : w16.cell? ⟨gb169, 8, none⟩ = some (.int .i64 a0_8) := (blk_cell BK169.out 8).trans rfl; have hfz18_0 := blk_frozen BK169.out 0; have hfz18_1 := blk_frozen BK169.out 1; have hfz18_2 := blk_frozen BK169.out 2; have hfz18_3 := blk_frozen BK169.out 3; have hfz18_4 := blk_frozen BK169.out 4; have hfz18_5 := blk_frozen BK169.out 5; have hfz18_6 := blk_frozen BK169.out 6; have hfz18_7 := blk_frozen BK169.out 7; have hfz18_8 := blk_frozen BK169.out 8; have hcz19_0 : w16.cell? ⟨gb170, 0, none⟩ = some (.int .i64 a1_0) := (blk_cell BK170.out 0).trans rfl; have hcz19_1 : w16.cell? ⟨gb170, 1, none⟩ = some (.int .i64 a1_1) := (blk_cell BK170.out 1).trans rfl; have hcz19_2 : w16.cell? ⟨gb170, 2, none⟩ = some (.string a1_2) := (blk_cell BK170.out 2).trans rfl; have hcz19_3 : w16.cell? ⟨gb170, 3, none⟩ = some (.int .i64 a1_3) := (blk_cell BK170.out 3).trans rfl; have hcz19_4 : w16.cell? ⟨gb170, 4, none⟩ = some (.int .i64 a1_4) := (blk_cell BK170.out 4).trans rfl; have hcz19_5 : w16.cell? ⟨gb170, 5, none⟩ = some (.int .i64 a1_5) := (blk_cell BK170.out 5).trans rfl; have hcz19_6 : w16.cell? ⟨gb170, 6, none⟩ = some (.slice A1_6 l1_6.length c1_6) := (blk_cell BK170.out 6).trans rfl; have hcz19_7 : w16.cell? ⟨gb170, 7, none⟩ = some (.int .i64 a1_7) := (blk_cell BK170.out 7).trans rfl; have hcz19_8 : w16.cell? ⟨gb170, 8, none⟩ = some (.int .i64 a1_8) := (blk_cell BK170.out 8).trans rfl; have hfz19_0 := blk_frozen BK170.out 0; have hfz19_1 := blk_frozen BK170.out 1; have hfz19_2 := blk_frozen BK170.out 2; have hfz19_3 := blk_frozen BK170.out 3; have hfz19_4 := blk_frozen BK170.out 4; have hfz19_5 := blk_frozen BK170.out 5; have hfz19_6 := blk_frozen BK170.out 6; have hfz19_7 := blk_frozen BK170.out 7; have hfz19_8 := blk_frozen BK170.out 8))
            go_ret
            exact ⟨by first | rfl | (simp [errW_none, errW_some] <;> rfl) | (simp [*, errW_none, errW_some] <;> rfl), by repeat (first | (with_reducible first | exact HB.out | apply below_alloc | apply pw_below_drewN | apply below_drew1 | refine below_set ?_ GE169.out | refine below_set ?_ GE170.out) | exact HB.out)⟩
        · rw [if_neg c6] at H
          have c6b0 : (a0_3 == a1_3) = false := beq_eq_false_iff_ne.mpr c6
          have c6b1 : (a0_3 != a1_3) = true := bne_iff_ne.mpr c6
          obtain rfl := Option.some.inj H
          go_enter Tryd.func24, Tryd.ntmps24
          go_wp2_with (first | ((with_reducible refine gate_dst (N := 2) rfl ?_); refine box_event ?hg (N := 2) ?hd (cs := #[.int .i64 a0_0, .int .i64 a0_1, .string a0_2, .int .i64 a0_3, .int .i64 a0_4, .int .i64 a0_5, .slice A0_6 l0_6.length c0_6, .int .i64 a0_7, .int .i64 a0_8]) (t := 26) ?hr ?_; (case hd => rfl); (case hg => rfl); (case hr => first | (go_simp; done) | (go_simp; rfl)); intro gb169 hg w20 hbox hb; have n0_ := Aside0.mk (below_step (by repeat (first | (with_reducible first | exact HB.out | apply below_alloc | apply pw_below_drewN | apply below_drew1) | exact HB.out)) hb); have n1_ := Aside0.mk (hbox); have n2_ := Aside0.mk ((by rw [hg]; exact (below_size (by repeat (first | (with_reducible first | exact HB.out | apply below_alloc | apply pw_below_drewN | apply below_drew1) | exact HB.out))) : w.heap.size ≤ gb169)); have n3_ := Aside0.mk ((by rw [hg]; exact (below_size (by repeat (first | (with_reducible first | exact HB.out | apply below_alloc | apply pw_below_drewN | apply below_drew1) | exact HB.out))) : w.heap.size ≤ gb169)); clear HB; have HB := n0_; have BK169 := n1_; have GW169 := n2_; have GE169 := n3_; clear n0_ n1_ n2_ n3_; clear hb hbox hg) | ((with_reducible refine gate_dst (N := 3) rfl ?_); refine box_event ?hg (N := 3) ?hd (cs := #[.int .i64 a1_0, .int .i64 a1_1, .string a1_2, .int .i64 a1_3, .int .i64 a1_4, .int .i64 a1_5, .slice A1_6 l1_6.length c1_6, .int .i64 a1_7, .int .i64 a1_8]) (t := 26) ?hr ?_; (case hd => rfl); (case hg => rfl); (case hr => first | (go_simp; done) | (go_simp; rfl)); intro gb170 hg w21 hbox hb; have n0_ := Aside0.mk (blk_below (g := gb169) (o := .cells #[.int .i64 a0_0, .int .i64 a0_1, .string a0_2, .int .i64 a0_3, .int .i64 a0_4, .int .i64 a0_5, .slice A0_6 l0_6.length c0_6, .int .i64 a0_7, .int .i64 a0_8] 26 (0, 0)) (by (with_reducible repeat (first | refine blk_drewN ?_ _ | refine blk_drew ?_ | refine blk_alloc ?_ _)); exact BK169.out) hb); have n1_ := Aside0.mk (below_step (by repeat (first | (with_reducible first | exact HB.out | apply below_alloc | apply pw_below_drewN | apply below_drew1 | refine below_set ?_ GE169.out) | exact HB.out)) hb); have n2_ := Aside0.mk (hbox); have n3_ := Aside0.mk ((by rw [hg]; exact (below_size (by repeat (first | (with_reducible first | exact HB.out | apply below_alloc | apply pw_below_drewN | apply below_drew1 | refine below_set ?_ GE169.out) | exact HB.out))) : w.heap.size ≤ gb170)); have n4_ := Aside0.mk ((by rw [hg]; exact (below_size (by repeat (first | (with_reducible first | exact HB.out | apply below_alloc | apply pw_below_drewN | apply below_drew1 | refine below_set ?_ GE169.out) | exact HB.out))) : w.heap.size ≤ gb170)); have n5_ := Aside0.mk ((by rw [hg]; exact Nat.ne_of_lt (blk_lt (g := gb169) (o := .cells #[.int .i64 a0_0, .int .i64 a0_1, .string a0_2, .int .i64 a0_3, .int .i64 a0_4, .int .i64 a0_5, .slice A0_6 l0_6.length c0_6, .int .i64 a0_7, .int .i64 a0_8] 26 (0, 0)) (by (with_reducible repeat (first | refine blk_drewN ?_ _ | refine blk_drew ?_ | refine blk_alloc ?_ _)); exact BK169.out)) : gb169 ≠ gb170)); have n6_ := Aside0.mk ((by rw [hg]; exact Nat.ne_of_gt (blk_lt (g := gb169) (o := .cells #[.int .i64 a0_0, .int .i64 a0_1, .string a0_2, .int .i64 a0_3, .int .i64 a0_4, .int .i64 a0_5, .slice A0_6 l0_6.length c0_6, .int .i64 a0_7, .int .i64 a0_8] 26 (0, 0)) (by (with_reducible repeat (first | refine blk_drewN ?_ _ | refine blk_drew ?_ | refine blk_alloc ?_ _)); exact BK169.out)) : gb170 ≠ gb169)); clear BK169; clear HB; have BK169 := n0_; have HB := n1_; have BK170 := n2_; have GW170 := n3_; have GE170 := n4_; have NB169_170 := n5_; have NB170_169 := n6_; clear n0_ n1_ n2_ n3_ n4_ n5_ n6_; clear hb hbox hg; have hnb22 := NB169_170.out; have hnc22 := NB170_169.out; have hcz23_0 : w21.cell? ⟨gb169, 0, none⟩ = some (.int .i64 a0_0) := (blk_cell BK169.out 0).trans rfl; have hcz23_1 : w21.cell? ⟨gb169, 1, none⟩ = some (.int .i64 a0_1) := (blk_cell BK169.out 1).trans rfl; have hcz23_2 : w21.cell? ⟨gb169, 2, none⟩ = some (.string a0_2) := (blk_cell BK169.out 2).trans rfl; have hcz23_3 : w21.cell? ⟨gb169, 3, none⟩ = some (.int .i64 a0_3) := (blk_cell BK169.out 3).trans rfl; have hcz23_4 : w21.cell? ⟨gb169, 4, none⟩ = some (.int .i64 a0_4) := (blk_cell BK169.out 4).trans rfl; have hcz23_5 : w21.cell? ⟨gb169, 5, none⟩ = some (.int .i64 a0_5) := (blk_cell BK169.out 5).trans rfl; have hcz23_6 : w21.cell? ⟨gb169, 6, none⟩ = some (.slice A0_6 l0_6.length c0_6) := (blk_cell BK169.out 6).trans rfl; have hcz23_7 : w21.cell? ⟨gb169, 7, none⟩ = some (.int .i64 a0_7) := (blk_cell BK169.out 7).trans rfl; have hcz23_8 : w21.cell? ⟨gb169, 8, none⟩ = some (.int .i64 a0_8) := (blk_cell BK169.out 8).trans rfl; have hfz23_0 := blk_frozen BK169.out 0; have hfz23_1 := blk_frozen BK169.out 1; have hfz23_2 := blk_frozen BK169.out 2; have hfz23_3 := blk_frozen BK169.out 3; have hfz23_4 := blk_frozen BK169.out 4; have hfz23_5 := blk_frozen BK169.out 5; have hfz23_6 := blk_frozen BK169.out 6; have hfz23_7 := blk_frozen BK169.out 7; have hfz23_8 := blk_frozen BK169.out 8; have hcz24_0 : w21.cell? ⟨gb170, 0, none⟩ = some (.int .i64 a1_0) := (blk_cell BK170.out 0).trans rfl; have hcz24_1 : w21.cell? ⟨gb170, 1, none⟩ = some (.int .i64 a1_1) := (blk_cell BK170.out 1).trans rfl; have hcz24_2 : w21.cell? ⟨gb170, 2, none⟩ = some (.string a1_2) := (blk_cell BK170.out 2).trans rfl; have hcz24_3 : w21.cell? ⟨gb170, 3, none⟩ = some (.int .i64 a1_3) := (blk_cell BK170.out 3).trans rfl; have hcz24_4 : w21.cell? ⟨gb170, 4, none⟩ = some (.int .i64 a1_4) := (blk_cell BK170.out 4).trans rfl; have hcz24_5 : w21.cell? ⟨gb170, 5, none⟩ = some (.int .i64 a1_5) := (blk_cell BK170.out 5).trans rfl; have hcz24_6 : w21.cell? ⟨gb170, 6, none⟩ = some (.slice A1_6 l1_6.length c1_6) := (blk_cell BK170.out 6).trans rfl; have hcz24_7 : w21.cell? ⟨gb170, 7, none⟩ = some (.int .i64 a1_7) := (blk_cell BK170.out 7).trans rfl; have hcz24_8 : w21.cell? ⟨gb170, 8, none⟩ = some (.int .i64 a1_8) := (blk_cell BK170.out 8).trans rfl; have hfz24_0 := blk_frozen BK170.out 0; have hfz24_1 := blk_frozen BK170.out 1; have hfz24_2 := blk_frozen BK170.out 2; have hfz24_3 := blk_frozen BK170.out 3; have hfz24_4 := blk_frozen BK170.out 4; have hfz24_5 := blk_frozen BK170.out 5; have hfz24_6 := blk_frozen BK170.out 6; have hfz24_7 := blk_frozen BK170.out 7; have hfz24_8 := blk_frozen BK170.out 8))
          go_ret
          exact ⟨by first | rfl | (simp [errW_none, errW_some] <;> rfl) | (simp [*, errW_none, errW_some] <;> rfl), by repeat (first | (with_reducible first | exact HB.out | apply below_alloc | apply pw_below_drewN | apply below_drew1 | refine below_set ?_ GE169.out | refine below_set ?_ GE170.out) | exact HB.out)⟩
      · rw [if_neg c5] at H
        have c5b0 : (a0_2.toList == a1_2.toList) = false := beq_eq_false_iff_ne.mpr c5
        have c5b1 : (a0_2.toList != a1_2.toList) = true := bne_iff_ne.mpr c5
        obtain rfl := Option.some.inj H
        go_enter Tryd.func24, Tryd.ntmps24
        go_wp2_with (first | ((with_reducible refine gate_dst (N := 2) rfl ?_); refine box_event ?hg (N := 2) ?hd (cs := #[.int .i64 a0_0, .int .i64 a0_1, .string a0_2, .int .i64 a0_3, .int .i64 a0_4, .int .i64 a0_5, .slice A0_6 l0_6.length c0_6, .int .i64 a0_7, .int .i64 a0_8]) (t := 26) ?hr ?_; (case hd => rfl); (case hg => rfl); (case hr => first | (go_simp; done) | (go_simp; rfl)); intro gb169 hg w25 hbox hb; have n0_ := Aside0.mk (below_step (by repeat (first | (with_reducible first | exact HB.out | apply below_alloc | apply pw_below_drewN | apply below_drew1) | exact HB.out)) hb); have n1_ := Aside0.mk (hbox); have n2_ := Aside0.mk ((by rw [hg]; exact (below_size (by repeat (first | (with_reducible first | exact HB.out | apply below_alloc | apply pw_below_drewN | apply below_drew1) | exact HB.out))) : w.heap.size ≤ gb169)); have n3_ := Aside0.mk ((by rw [hg]; exact (below_size (by repeat (first | (with_reducible first | exact HB.out | apply below_alloc | apply pw_below_drewN | apply below_drew1) | exact HB.out))) : w.heap.size ≤ gb169)); clear HB; have HB := n0_; have BK169 := n1_; have GW169 := n2_; have GE169 := n3_; clear n0_ n1_ n2_ n3_; clear hb hbox hg) | ((with_reducible refine gate_dst (N := 3) rfl ?_); refine box_event ?hg (N := 3) ?hd (cs := #[.int .i64 a1_0, .int .i64 a1_1, .string a1_2, .int .i64 a1_3, .int .i64 a1_4, .int .i64 a1_5, .slice A1_6 l1_6.length c1_6, .int .i64 a1_7, .int .i64 a1_8]) (t := 26) ?hr ?_; (case hd => rfl); (case hg => rfl); (case hr => first | (go_simp; done) | (go_simp; rfl)); intro gb170 hg w26 hbox hb; have n0_ := Aside0.mk (blk_below (g := gb169) (o := .cells #[.int .i64 a0_0, .int .i64 a0_1, .string a0_2, .int .i64 a0_3, .int .i64 a0_4, .int .i64 a0_5, .slice A0_6 l0_6.length c0_6, .int .i64 a0_7, .int .i64 a0_8] 26 (0, 0)) (by (with_reducible repeat (first | refine blk_drewN ?_ _ | refine blk_drew ?_ | refine blk_alloc ?_ _)); exact BK169.out) hb); have n1_ := Aside0.mk (below_step (by repeat (first | (with_reducible first | exact HB.out | apply below_alloc | apply pw_below_drewN | apply below_drew1 | refine below_set ?_ GE169.out) | exact HB.out)) hb); have n2_ := Aside0.mk (hbox); have n3_ := Aside0.mk ((by rw [hg]; exact (below_size (by repeat (first | (with_reducible first | exact HB.out | apply below_alloc | apply pw_below_drewN | apply below_drew1 | refine below_set ?_ GE169.out) | exact HB.out))) : w.heap.size ≤ gb170)); have n4_ := Aside0.mk ((by rw [hg]; exact (below_size (by repeat (first | (with_reducible first | exact HB.out | apply below_alloc | apply pw_below_drewN | apply below_drew1 | refine below_set ?_ GE169.out) | exact HB.out))) : w.heap.size ≤ gb170)); have n5_ := Aside0.mk ((by rw [hg]; exact Nat.ne_of_lt (blk_lt (g := gb169) (o := .cells #[.int .i64 a0_0, .int .i64 a0_1, .string a0_2, .int .i64 a0_3, .int .i64 a0_4, .int .i64 a0_5, .slice A0_6 l0_6.length c0_6, .int .i64 a0_7, .int .i64 a0_8] 26 (0, 0)) (by (with_reducible repeat (first | refine blk_drewN ?_ _ | refine blk_drew ?_ | refine blk_alloc ?_ _)); exact BK169.out)) : gb169 ≠ gb170)); have n6_ := Aside0.mk ((by rw [hg]; exact Nat.ne_of_gt (blk_lt (g := gb169) (o := .cells #[.int .i64 a0_0, .int .i64 a0_1, .string a0_2, .int .i64 a0_3, .int .i64 a0_4, .int .i64 a0_5, .slice A0_6 l0_6.length c0_6, .int .i64 a0_7, .int .i64 a0_8] 26 (0, 0)) (by (with_reducible repeat (first | refine blk_drewN ?_ _ | refine blk_drew ?_ | refine blk_alloc ?_ _)); exact BK169.out)) : gb170 ≠ gb169)); clear BK169; clear HB; have BK169 := n0_; have HB := n1_; have BK170 := n2_; have GW170 := n3_; have GE170 := n4_; have NB169_170 := n5_; have NB170_169 := n6_; clear n0_ n1_ n2_ n3_ n4_ n5_ n6_; clear hb hbox hg; have hnb27 := NB169_170.out; have hnc27 := NB170_169.out; have hcz28_0 : w26.cell? ⟨gb169, 0, none⟩ = some (.int .i64 a0_0) := (blk_cell BK169.out 0).trans rfl; have hcz28_1 : w26.cell? ⟨gb169, 1, none⟩ = some (.int .i64 a0_1) := (blk_cell BK169.out 1).trans rfl; have hcz28_2 : w26.cell? ⟨gb169, 2, none⟩ = some (.string a0_2) := (blk_cell BK169.out 2).trans rfl; have hcz28_3 : w26.cell? ⟨gb169, 3, none⟩ = some (.int .i64 a0_3) := (blk_cell BK169.out 3).trans rfl; have hcz28_4 : w26.cell? ⟨gb169, 4, none⟩ = some (.int .i64 a0_4) := (blk_cell BK169.out 4).trans rfl; have hcz28_5 : w26.cell? ⟨gb169, 5, none⟩ = some (.int .i64 a0_5) := (blk_cell BK169.out 5).trans rfl; have hcz28_6 : w26.cell? ⟨gb169, 6, none⟩ = some (.slice A0_6 l0_6.length c0_6) := (blk_cell BK169.out 6).trans rfl; have hcz28_7 : w26.cell? ⟨gb169, 7, none⟩ = some (.int .i64 a0_7) := (blk_cell BK169.out 7).trans rfl; have hcz28_8 : w26.cell? ⟨gb169, 8, none⟩ = some (.int .i64 a0_8) := (blk_cell BK169.out 8).trans rfl; have hfz28_0 := blk_frozen BK169.out 0; have hfz28_1 := blk_frozen BK169.out 1; have hfz28_2 := blk_frozen BK169.out 2; have hfz28_3 := blk_frozen BK169.out 3; have hfz28_4 := blk_frozen BK169.out 4; have hfz28_5 := blk_frozen BK169.out 5; have hfz28_6 := blk_frozen BK169.out 6; have hfz28_7 := blk_frozen BK169.out 7; have hfz28_8 := blk_frozen BK169.out 8; have hcz29_0 : w26.cell? ⟨gb170, 0, none⟩ = some (.int .i64 a1_0) := (blk_cell BK170.out 0).trans rfl; have hcz29_1 : w26.cell? ⟨gb170, 1, none⟩ = some (.int .i64 a1_1) := (blk_cell BK170.out 1).trans rfl; have hcz29_2 : w26.cell? ⟨gb170, 2, none⟩ = some (.string a1_2) := (blk_cell BK170.out 2).trans rfl; have hcz29_3 : w26.cell? ⟨gb170, 3, none⟩ = some (.int .i64 a1_3) := (blk_cell BK170.out 3).trans rfl; have hcz29_4 : w26.cell? ⟨gb170, 4, none⟩ = some (.int .i64 a1_4) := (blk_cell BK170.out 4).trans rfl; have hcz29_5 : w26.cell? ⟨gb170, 5, none⟩ = some (.int .i64 a1_5) := (blk_cell BK170.out 5).trans rfl; have hcz29_6 : w26.cell? ⟨gb170, 6, none⟩ = some (.slice A1_6 l1_6.length c1_6) := (blk_cell BK170.out 6).trans rfl; have hcz29_7 : w26.cell? ⟨gb170, 7, none⟩ = some (.int .i64 a1_7) := (blk_cell BK170.out 7).trans rfl; have hcz29_8 : w26.cell? ⟨gb170, 8, none⟩ = some (.int .i64 a1_8) := (blk_cell BK170.out 8).trans rfl; have hfz29_0 := blk_frozen BK170.out 0; have hfz29_1 := blk_frozen BK170.out 1; have hfz29_2 := blk_frozen BK170.out 2; have hfz29_3 := blk_frozen BK170.out 3; have hfz29_4 := blk_frozen BK170.out 4; have hfz29_5 := blk_frozen BK170.out 5; have hfz29_6 := blk_frozen BK170.out 6; have hfz29_7 := blk_frozen BK170.out 7; have hfz29_8 := blk_frozen BK170.out 8))
        go_ret
        exact ⟨by first | rfl | (simp [errW_none, errW_some] <;> rfl) | (simp [*, errW_none, errW_some] <;> rfl), by repeat (first | (with_reducible first | exact HB.out | apply below_alloc | apply pw_below_drewN | apply below_drew1 | refine below_set ?_ GE169.out | refine below_set ?_ GE170.out) | exact HB.out)⟩
    · rw [if_neg c4] at H
      have c4b0 : (a0_1 == a1_1) = false := beq_eq_false_iff_ne.mpr c4
      have c4b1 : (a0_1 != a1_1) = true := bne_iff_ne.mpr c4
      obtain rfl := Option.some.inj H
      go_enter Tryd.func24, Tryd.ntmps24
      go_wp2_with (first | ((with_reducible refine gate_dst (N := 2) rfl ?_); refine box_event ?hg (N := 2) ?hd (cs := #[.int .i64 a0_0, .int .i64 a0_1, .string a0_2, .int .i64 a0_3, .int .i64 a0_4, .int .i64 a0_5, .slice A0_6 l0_6.length c0_6, .int .i64 a0_7, .int .i64 a0_8]) (t := 26) ?hr ?_; (case hd => rfl); (case hg => rfl); (case hr => first | (go_simp; done) | (go_simp; rfl)); intro gb169 hg w30 hbox hb; have n0_ := Aside0.mk (below_step (by repeat (first | (with_reducible first | exact HB.out | apply below_alloc | apply pw_below_drewN | apply below_drew1) | exact HB.out)) hb); have n1_ := Aside0.mk (hbox); have n2_ := Aside0.mk ((by rw [hg]; exact (below_size (by repeat (first | (with_reducible first | exact HB.out | apply below_alloc | apply pw_below_drewN | apply below_drew1) | exact HB.out))) : w.heap.size ≤ gb169)); have n3_ := Aside0.mk ((by rw [hg]; exact (below_size (by repeat (first | (with_reducible first | exact HB.out | apply below_alloc | apply pw_below_drewN | apply below_drew1) | exact HB.out))) : w.heap.size ≤ gb169)); clear HB; have HB := n0_; have BK169 := n1_; have GW169 := n2_; have GE169 := n3_; clear n0_ n1_ n2_ n3_; clear hb hbox hg) | ((with_reducible refine gate_dst (N := 3) rfl ?_); refine box_event ?hg (N := 3) ?hd (cs := #[.int .i64 a1_0, .int .i64 a1_1, .string a1_2, .int .i64 a1_3, .int .i64 a1_4, .int .i64 a1_5, .slice A1_6 l1_6.length c1_6, .int .i64 a1_7, .int .i64 a1_8]) (t := 26) ?hr ?_; (case hd => rfl); (case hg => rfl); (case hr => first | (go_simp; done) | (go_simp; rfl)); intro gb170 hg w31 hbox hb; have n0_ := Aside0.mk (blk_below (g := gb169) (o := .cells #[.int .i64 a0_0, .int .i64 a0_1, .string a0_2, .int .i64 a0_3, .int .i64 a0_4, .int .i64 a0_5, .slice A0_6 l0_6.length c0_6, .int .i64 a0_7, .int .i64 a0_8] 26 (0, 0)) (by (with_reducible repeat (first | refine blk_drewN ?_ _ | refine blk_drew ?_ | refine blk_alloc ?_ _)); exact BK169.out) hb); have n1_ := Aside0.mk (below_step (by repeat (first | (with_reducible first | exact HB.out | apply below_alloc | apply pw_below_drewN | apply below_drew1 | refine below_set ?_ GE169.out) | exact HB.out)) hb); have n2_ := Aside0.mk (hbox); have n3_ := Aside0.mk ((by rw [hg]; exact (below_size (by repeat (first | (with_reducible first | exact HB.out | apply below_alloc | apply pw_below_drewN | apply below_drew1 | refine below_set ?_ GE169.out) | exact HB.out))) : w.heap.size ≤ gb170)); have n4_ := Aside0.mk ((by rw [hg]; exact (below_size (by repeat (first | (with_reducible first | exact HB.out | apply below_alloc | apply pw_below_drewN | apply below_drew1 | refine below_set ?_ GE169.out) | exact HB.out))) : w.heap.size ≤ gb170)); have n5_ := Aside0.mk ((by rw [hg]; exact Nat.ne_of_lt (blk_lt (g := gb169) (o := .cells #[.int .i64 a0_0, .int .i64 a0_1, .string a0_2, .int .i64 a0_3, .int .i64 a0_4, .int .i64 a0_5, .slice A0_6 l0_6.length c0_6, .int .i64 a0_7, .int .i64 a0_8] 26 (0, 0)) (by (with_reducible repeat (first | refine blk_drewN ?_ _ | refine blk_drew ?_ | refine blk_alloc ?_ _)); exact BK169.out)) : gb169 ≠ gb170)); have n6_ := Aside0.mk ((by rw [hg]; exact Nat.ne_of_gt (blk_lt (g := gb169) (o := .cells #[.int .i64 a0_0, .int .i64 a0_1, .string a0_2, .int .i64 a0_3, .int .i64 a0_4, .int .i64 a0_5, .slice A0_6 l0_6.length c0_6, .int .i64 a0_7, .int .i64 a0_8] 26 (0, 0)) (by (with_reducible repeat (first | refine blk_drewN ?_ _ | refine blk_drew ?_ | refine blk_alloc ?_ _)); exact BK169.out)) : gb170 ≠ gb169)); clear BK169; clear HB; have BK169 := n0_; have HB := n1_; have BK170 := n2_; have GW170 := n3_; have GE170 := n4_; have NB169_170 := n5_; have NB170_169 := n6_; clear n0_ n1_ n2_ n3_ n4_ n5_ n6_; clear hb hbox hg; have hnb32 := NB169_170.out; have hnc32 := NB170_169.out; have hcz33_0 : w31.cell? ⟨gb169, 0, none⟩ = some (.int .i64 a0_0) := (blk_cell BK169.out 0).trans rfl; have hcz33_1 : w31.cell? ⟨gb169, 1, none⟩ = some (.int .i64 a0_1) := (blk_cell BK169.out 1).trans rfl; have hcz33_2 : w31.cell? ⟨gb169, 2, none⟩ = some (.string a0_2) := (blk_cell BK169.out 2).trans rfl; have hcz33_3 : w31.cell? ⟨gb169, 3, none⟩ = some (.int .i64 a0_3) := (blk_cell BK169.out 3).trans rfl; have hcz33_4 : w31.cell? ⟨gb169, 4, none⟩ = some (.int .i64 a0_4) := (blk_cell BK169.out 4).trans rfl; have hcz33_5 : w31.cell? ⟨gb169, 5, none⟩ = some (.int .i64 a0_5) := (blk_cell BK169.out 5).trans rfl; have hcz33_6 : w31.cell? ⟨gb169, 6, none⟩ = some (.slice A0_6 l0_6.length c0_6) := (blk_cell BK169.out 6).trans rfl; have hcz33_7 : w31.cell? ⟨gb169, 7, none⟩ = some (.int .i64 a0_7) := (blk_cell BK169.out 7).trans rfl; have hcz33_8 : w31.cell? ⟨gb169, 8, none⟩ = some (.int .i64 a0_8) := (blk_cell BK169.out 8).trans rfl; have hfz33_0 := blk_frozen BK169.out 0; have hfz33_1 := blk_frozen BK169.out 1; have hfz33_2 := blk_frozen BK169.out 2; have hfz33_3 := blk_frozen BK169.out 3; have hfz33_4 := blk_frozen BK169.out 4; have hfz33_5 := blk_frozen BK169.out 5; have hfz33_6 := blk_frozen BK169.out 6; have hfz33_7 := blk_frozen BK169.out 7; have hfz33_8 := blk_frozen BK169.out 8; have hcz34_0 : w31.cell? ⟨gb170, 0, none⟩ = some (.int .i64 a1_0) := (blk_cell BK170.out 0).trans rfl; have hcz34_1 : w31.cell? ⟨gb170, 1, none⟩ = some (.int .i64 a1_1) := (blk_cell BK170.out 1).trans rfl; have hcz34_2 : w31.cell? ⟨gb170, 2, none⟩ = some (.string a1_2) := (blk_cell BK170.out 2).trans rfl; have hcz34_3 : w31.cell? ⟨gb170, 3, none⟩ = some (.int .i64 a1_3) := (blk_cell BK170.out 3).trans rfl; have hcz34_4 : w31.cell? ⟨gb170, 4, none⟩ = some (.int .i64 a1_4) := (blk_cell BK170.out 4).trans rfl; have hcz34_5 : w31.cell? ⟨gb170, 5, none⟩ = some (.int .i64 a1_5) := (blk_cell BK170.out 5).trans rfl; have hcz34_6 : w31.cell? ⟨gb170, 6, none⟩ = some (.slice A1_6 l1_6.length c1_6) := (blk_cell BK170.out 6).trans rfl; have hcz34_7 : w31.cell? ⟨gb170, 7, none⟩ = some (.int .i64 a1_7) := (blk_cell BK170.out 7).trans rfl; have hcz34_8 : w31.cell? ⟨gb170, 8, none⟩ = some (.int .i64 a1_8) := (blk_cell BK170.out 8).trans rfl; have hfz34_0 := blk_frozen BK170.out 0; have hfz34_1 := blk_frozen BK170.out 1; have hfz34_2 := blk_frozen BK170.out 2; have hfz34_3 := blk_frozen BK170.out 3; have hfz34_4 := blk_frozen BK170.out 4; have hfz34_5 := blk_frozen BK170.out 5; have hfz34_6 := blk_frozen BK170.out 6; have hfz34_7 := blk_frozen BK170.out 7; have hfz34_8 := blk_frozen BK170.out 8))
      go_ret
      exact ⟨by first | rfl | (simp [errW_none, errW_some] <;> rfl) | (simp [*, errW_none, errW_some] <;> rfl), by repeat (first | (with_reducible first | exact HB.out | apply below_alloc | apply pw_below_drewN | apply below_drew1 | refine below_set ?_ GE169.out | refine below_set ?_ GE170.out) | exact HB.out)⟩
  · rw [if_neg c3] at H
    have c3b0 : (a0_0 == a1_0) = false := beq_eq_false_iff_ne.mpr c3
    have c3b1 : (a0_0 != a1_0) = true := bne_iff_ne.mpr c3
    obtain rfl := Option.some.inj H
    go_enter Tryd.func24, Tryd.ntmps24
    go_wp2_with (first | ((with_reducible refine gate_dst (N := 2) rfl ?_); refine box_event ?hg (N := 2) ?hd (cs := #[.int .i64 a0_0, .int .i64 a0_1, .string a0_2, .int .i64 a0_3, .int .i64 a0_4, .int .i64 a0_5, .slice A0_6 l0_6.length c0_6, .int .i64 a0_7, .int .i64 a0_8]) (t := 26) ?hr ?_; (case hd => rfl); (case hg => rfl); (case hr => first | (go_simp; done) | (go_simp; rfl)); intro gb169 hg w35 hbox hb; have n0_ := Aside0.mk (below_step (by repeat (first | (with_reducible first | exact HB.out | apply below_alloc | apply pw_below_drewN | apply below_drew1) | exact HB.out)) hb); have n1_ := Aside0.mk (hbox); have n2_ := Aside0.mk ((by rw [hg]; exact (below_size (by repeat (first | (with_reducible first | exact HB.out | apply below_alloc | apply pw_below_drewN | apply below_drew1) | exact HB.out))) : w.heap.size ≤ gb169)); have n3_ := Aside0.mk ((by rw [hg]; exact (below_size (by repeat (first | (with_reducible first | exact HB.out | apply below_alloc | apply pw_below_drewN | apply below_drew1) | exact HB.out))) : w.heap.size ≤ gb169)); clear HB; have HB := n0_; have BK169 := n1_; have GW169 := n2_; have GE169 := n3_; clear n0_ n1_ n2_ n3_; clear hb hbox hg) | ((with_reducible refine gate_dst (N := 3) rfl ?_); refine box_event ?hg (N := 3) ?hd (cs := #[.int .i64 a1_0, .int .i64 a1_1, .string a1_2, .int .i64 a1_3, .int .i64 a1_4, .int .i64 a1_5, .slice A1_6 l1_6.length c1_6, .int .i64 a1_7, .int .i64 a1_8]) (t := 26) ?hr ?_; (case hd => rfl); (case hg => rfl); (case hr => first | (go_simp; done) | (go_simp; rfl)); intro gb170 hg w36 hbox hb; have n0_ := Aside0.mk (blk_below (g := gb169) (o := .cells #[.int .i64 a0_0, .int .i64 a0_1, .string a0_2, .int .i64 a0_3, .int .i64 a0_4, .int .i64 a0_5, .slice A0_6 l0_6.length c0_6, .int .i64 a0_7, .int .i64 a0_8] 26 (0, 0)) (by (with_reducible repeat (first | refine blk_drewN ?_ _ | refine blk_drew ?_ | refine blk_alloc ?_ _)); exact BK169.out) hb); have n1_ := Aside0.mk (below_step (by repeat (first | (with_reducible first | exact HB.out | apply below_alloc | apply pw_below_drewN | apply below_drew1 | refine below_set ?_ GE169.out) | exact HB.out)) hb); have n2_ := Aside0.mk (hbox); have n3_ := Aside0.mk ((by rw [hg]; exact (below_size (by repeat (first | (with_reducible first | exact HB.out | apply below_alloc | apply pw_below_drewN | apply below_drew1 | refine below_set ?_ GE169.out) | exact HB.out))) : w.heap.size ≤ gb170)); have n4_ := Aside0.mk ((by rw [hg]; exact (below_size (by repeat (first | (with_reducible first | exact HB.out | apply below_alloc | apply pw_below_drewN | apply below_drew1 | refine below_set ?_ GE169.out) | exact HB.out))) : w.heap.size ≤ gb170)); have n5_ := Aside0.mk ((by rw [hg]; exact Nat.ne_of_lt (blk_lt (g := gb169) (o := .cells #[.int .i64 a0_0, .int .i64 a0_1, .string a0_2, .int .i64 a0_3, .int .i64 a0_4, .int .i64 a0_5, .slice A0_6 l0_6.length c0_6, .int .i64 a0_7, .int .i64 a0_8] 26 (0, 0)) (by (with_reducible repeat (first | refine blk_drewN ?_ _ | refine blk_drew ?_ | refine blk_alloc ?_ _)); exact BK169.out)) : gb169 ≠ gb170)); have n6_ := Aside0.mk ((by rw [hg]; exact Nat.ne_of_gt (blk_lt (g := gb169) (o := .cells #[.int .i64 a0_0, .int .i64 a0_1, .string a0_2, .int .i64 a0_3, .int .i64 a0_4, .int .i64 a0_5, .slice A0_6 l0_6.length c0_6, .int .i64 a0_7, .int .i64 a0_8] 26 (0, 0)) (by (with_reducible repeat (first | refine blk_drewN ?_ _ | refine blk_drew ?_ | refine blk_alloc ?_ _)); exact BK169.out)) : gb170 ≠ gb169)); clear BK169; clear HB; have BK169 := n0_; have HB := n1_; have BK170 := n2_; have GW170 := n3_; have GE170 := n4_; have NB169_170 := n5_; have NB170_169 := n6_; clear n0_ n1_ n2_ n3_ n4_ n5_ n6_; clear hb hbox hg; have hnb37 := NB169_170.out; have hnc37 := NB170_169.out; have hcz38_0 : w36.cell? ⟨gb169, 0, none⟩ = some (.int .i64 a0_0) := (blk_cell BK169.out 0).trans rfl; have hcz38_1 : w36.cell? ⟨gb169, 1, none⟩ = some (.int .i64 a0_1) := (blk_cell BK169.out 1).trans rfl; have hcz38_2 : w36.cell? ⟨gb169, 2, none⟩ = some (.string a0_2) := (blk_cell BK169.out 2).trans rfl; have hcz38_3 : w36.cell? ⟨gb169, 3, none⟩ = some (.int .i64 a0_3) := (blk_cell BK169.out 3).trans rfl; have hcz38_4 : w36.cell? ⟨gb169, 4, none⟩ = some (.int .i64 a0_4) := (blk_cell BK169.out 4).trans rfl; have hcz38_5 : w36.cell? ⟨gb169, 5, none⟩ = some (.int .i64 a0_5) := (blk_cell BK169.out 5).trans rfl; have hcz38_6 : w36.cell? ⟨gb169, 6, none⟩ = some (.slice A0_6 l0_6.length c0_6) := (blk_cell BK169.out 6).trans rfl; have hcz38_7 : w36.cell? ⟨gb169, 7, none⟩ = some (.int .i64 a0_7) := (blk_cell BK169.out 7).trans rfl; have hcz38_8 : w36.cell? ⟨gb169, 8, none⟩ = some (.int .i64 a0_8) := (blk_cell BK169.out 8).trans rfl; have hfz38_0 := blk_frozen BK169.out 0; have hfz38_1 := blk_frozen BK169.out 1; have hfz38_2 := blk_frozen BK169.out 2; have hfz38_3 := blk_frozen BK169.out 3; have hfz38_4 := blk_frozen BK169.out 4; have hfz38_5 := blk_frozen BK169.out 5; have hfz38_6 := blk_frozen BK169.out 6; have hfz38_7 := blk_frozen BK169.out 7; have hfz38_8 := blk_frozen BK169.out 8; have hcz39_0 : w36.cell? ⟨gb170, 0, none⟩ = some (.int .i64 a1_0) := (blk_cell BK170.out 0).trans rfl; have hcz39_1 : w36.cell? ⟨gb170, 1, none⟩ = some (.int .i64 a1_1) := (blk_cell BK170.out 1).trans rfl; have hcz39_2 : w36.cell? ⟨gb170, 2, none⟩ = some (.string a1_2) := (blk_cell BK170.out 2).trans rfl; have hcz39_3 : w36.cell? ⟨gb170, 3, none⟩ = some (.int .i64 a1_3) := (blk_cell BK170.out 3).trans rfl; have hcz39_4 : w36.cell? ⟨gb170, 4, none⟩ = some (.int .i64 a1_4) := (blk_cell BK170.out 4).trans rfl; have hcz39_5 : w36.cell? ⟨gb170, 5, none⟩ = some (.int .i64 a1_5) := (blk_cell BK170.out 5).trans rfl; have hcz39_6 : w36.cell? ⟨gb170, 6, none⟩ = some (.slice A1_6 l1_6.length c1_6) := (blk_cell BK170.out 6).trans rfl; have hcz39_7 : w36.cell? ⟨gb170, 7, none⟩ = some (.int .i64 a1_7) := (blk_cell BK170.out 7).trans rfl; have hcz39_8 : w36.cell? ⟨gb170, 8, none⟩ = some (.int .i64 a1_8) := (blk_cell BK170.out 8).trans rfl; have hfz39_0 := blk_frozen BK170.out 0; have hfz39_1 := blk_frozen BK170.out 1; have hfz39_2 := blk_frozen BK170.out 2; have hfz39_3 := blk_frozen BK170.out 3; have hfz39_4 := blk_frozen BK170.out 4; have hfz39_5 := blk_frozen BK170.out 5; have hfz39_6 := blk_frozen BK170.out 6; have hfz39_7 := blk_frozen BK170.out 7; have hfz39_8 := blk_frozen BK170.out 8))
    go_ret
    exact ⟨by first | rfl | (simp [errW_none, errW_some] <;> rfl) | (simp [*, errW_none, errW_some] <;> rfl), by repeat (first | (with_reducible first | exact HB.out | apply below_alloc | apply pw_below_drewN | apply below_drew1 | refine below_set ?_ GE169.out | refine below_set ?_ GE170.out) | exact HB.out)⟩
end Go.Proofs.YtpgjhjlhipikgaaDoor.PK
end
section
namespace Go.Proofs.YtpgjhjlhipikgaaDoor.PK
open Go.RowKit Go.Proofs.YtpgjhjlhipikgaaDoorW.PrintWords Go.Proofs.YtpgjhjlhipikgaaDoorW.PrintLast Go.Proofs.YtpgjhjlhipikgaaDoorW.PrintMore
attribute [local go_sem] max2_int min2_int max_two min_two max_three min_three max_four min_four   -- for this text's walks alone
set_option linter.unusedVariables false
set_option linter.unusedSimpArgs false
def copydeskref03_SameList.l0 : Nat → List (S26) → List (S26) → Int → Option (Bool)
  | 0, _, _, _ => none
  | k + 1, x0, x1, x5 => if x5 < (x0.length : Int) then (if 0 ≤ x5 then (if x5 < (x1.length : Int) then ((copydeskref03_Same.f k ((rd_T26 x0 x5).f0) ((rd_T26 x0 x5).f1) ((rd_T26 x0 x5).f2) ((rd_T26 x0 x5).f3) ((rd_T26 x0 x5).f4) ((rd_T26 x0 x5).f5.f0) ((rd_T26 x0 x5).f5.f1) ((rd_T26 x0 x5).f5.f2) ((rd_T26 x0 x5).f5.f3) ((rd_T26 x1 x5).f0) ((rd_T26 x1 x5).f1) ((rd_T26 x1 x5).f2) ((rd_T26 x1 x5).f3) ((rd_T26 x1 x5).f4) ((rd_T26 x1 x5).f5.f0) ((rd_T26 x1 x5).f5.f1) ((rd_T26 x1 x5).f5.f2) ((rd_T26 x1 x5).f5.f3)).bind fun t174 => (if t174 = true then (copydeskref03_SameList.l0 k x0 x1 (wrap64 (x5 + 1))) else (some false))) else (none)) else (none)) else (some true)
def copydeskref03_SameList.f (k : Nat) (l0 : List (S26)) (l1 : List (S26)) : Option (Bool) := if (l0.length : Int) = (l1.length : Int) then (copydeskref03_SameList.l0 k l0 l1 0) else (some false)
theorem copydeskref03_SameList.mono_l : ∀ k, (∀ y0 y1 y2, LeO (copydeskref03_SameList.l0 k y0 y1 y2) (copydeskref03_SameList.l0 (k + 1) y0 y1 y2))
  | 0 => fun _ _ _ r h => by simp [copydeskref03_SameList.l0] at h
  | k + 1 => by
    have ih0 := copydeskref03_SameList.mono_l k
    · intro y0 y1 y2
      unfold copydeskref03_SameList.l0
      repeat' first
      | (with_reducible exact ih0 _ _ _)
      | (with_reducible exact copydeskref03_Same.mono _ _ _ _ _ _ _ _ _ _ _ _ _ _ _ _ _ _ _)
      | (with_reducible exact LeO.refl _)
      | (with_reducible exact LeO.none _)
      | (with_reducible refine LeO.ite ?_ ?_)
      | (with_reducible refine LeO.bind ?_ (fun _ => ?_))
      | exact ih0 _ _ _
      | exact copydeskref03_Same.mono _ _ _ _ _ _ _ _ _ _ _ _ _ _ _ _ _ _ _
      | exact LeO.none _
      | refine LeO.ite ?_ ?_
      | refine LeO.bind ?_ (fun _ => ?_)
theorem copydeskref03_SameList.mono : ∀ a0 a1 k, LeO (copydeskref03_SameList.f k a0 a1) (copydeskref03_SameList.f (k + 1) a0 a1) := by
  intro a0 a1 k
  have ih0 := copydeskref03_SameList.mono_l k
  unfold copydeskref03_SameList.f
  repeat' first
      | (with_reducible exact ih0 _ _ _)
      | (with_reducible exact copydeskref03_Same.mono _ _ _ _ _ _ _ _ _ _ _ _ _ _ _ _ _ _ _)
      | (with_reducible exact LeO.refl _)
      | (with_reducible exact LeO.none _)
      | (with_reducible refine LeO.ite ?_ ?_)
      | (with_reducible refine LeO.bind ?_ (fun _ => ?_))
      | exact ih0 _ _ _
      | exact copydeskref03_Same.mono _ _ _ _ _ _ _ _ _ _ _ _ _ _ _ _ _ _ _
      | exact LeO.none _
      | refine LeO.ite ?_ ?_
      | refine LeO.bind ?_ (fun _ => ?_)
def copydeskref03_SameList.T6 : Bool × List (List Nat × List Nat) := (true, [([], []), ([], []), ([0, 1], [0, 1]), ([2], [2]), ([], []), ([], []), ([4, 5], [4, 5]), ([6], [6]), ([3, 7], [3, 7]), ([8, 8, 0, 1, 2, 3, 4, 5, 6, 7, 8], [8])])
def copydeskref03_SameList.B6 : List Nat := [0, 0, 3, 7, 0, 0, 48, 112, 255, 511]
theorem copydeskref03_SameList.tab6 : rtab .any (opsOf Tryd.f26 6) = copydeskref03_SameList.T6 := by kernel_rfl
theorem copydeskref03_SameList.bits6 : waitsOk copydeskref03_SameList.T6.2 copydeskref03_SameList.B6 = true := by kernel_rfl
set_option maxHeartbeats 8000000 in
set_option maxRecDepth 100000 in
theorem copydeskref03_SameList.calls (k : Nat) (A0 : Option Addr) (c0 : Nat) (l0 : List (S26)) (A1 : Option Addr) (c1 : Nat) (l1 : List (S26)) (r : Bool) (w : World) (hr0 : Kd.C k26 w A0 l0.length l0) (hc0 : l0.length ≤ c0) (hr1 : Kd.C k26 w A1 l1.length l1) (hc1 : l1.length ≤ c1) (h : copydeskref03_SameList.f k l0 l1 = some r) :
    Calls Tryd.prog 26 #[.slice A0 l0.length c0, .slice A1 l1.length c1] w fun e w' => e = .returned (.bool r) ∧ Below w.heap.size w w' := by
  have hu26 := Tryd.underlying26
  have HR0 := Aside0.mk hr0
  have HC0 := Aside0.mk hc0
  clear hr0 hc0
  have HR1 := Aside0.mk hr1
  have HC1 := Aside0.mk hc1
  clear hr1 hc1
  have HB := Aside0.mk (Below.refl w.heap.size w)
  have H : (if (l0.length : Int) = (l1.length : Int) then (copydeskref03_SameList.l0 k l0 l1 0) else (some false)) = some r := h
  clear h
  by_cases c3 : (l0.length : Int) = (l1.length : Int)
  · rw [if_pos c3] at H
    have c3b0 : ((l0.length : Int) == (l1.length : Int)) = true := beq_iff_eq.mpr c3
    have c3b1 : ((l0.length : Int) != (l1.length : Int)) = false := bne_eq_false_iff_eq.mpr c3
    have c3b2 : (l0.length == l1.length) = true := by first | simpa using c3 | (simp at c3 ⊢; omega)
    clear c3
    have H' := Aside0.mk H
    clear H
    go_enter Tryd.func26, Tryd.ntmps26
    go_wp2
    go_loopg [5] k (fun kq v5 w' => ∃ (x5_1 : Int), v5 = .int .i64 x5_1 ∧ Aside0 (copydeskref03_SameList.l0 kq l0 l1 x5_1 = some r) ∧ Aside0 (kq ≤ k) ∧ Aside0 (Below w.heap.size w w'))
    case atStart => exact ⟨(0), (by first | rfl | (simp; done) | (simp [*]; done)), H', ⟨Nat.le_refl _⟩, ⟨by repeat (first | (with_reducible first | exact HB.out | apply below_alloc | apply pw_below_drewN | apply below_drew1) | exact HB.out)⟩⟩
    case round =>
      clear H'
      try clear c1
      try clear c2
      try clear p2
      try clear c3
      try clear c3b0
      try clear c3b1
      try clear c3b2
      obtain ⟨x5_1, rfl, HA, HK1, HB⟩ := hrel
      cases gk with
      | zero => exact absurd HA.out (by simp [copydeskref03_SameList.l0])
      | succ k1 =>
        have H := HA.out
        clear HA
        simp only [copydeskref03_SameList.l0] at H
        by_cases c4 : x5_1 < (l0.length : Int)
        · rw [if_pos c4] at H
          have c4b0 : decide (x5_1 < (l0.length : Int)) = true := decide_eq_true c4
          clear c4
          by_cases c5 : 0 ≤ x5_1
          · rw [if_pos c5] at H
            have c5b0 : decide (0 ≤ x5_1) = true := decide_eq_true c5
            clear c5
            by_cases c6 : x5_1 < (l1.length : Int)
            · rw [if_pos c6] at H
              have c6b0 : decide (x5_1 < (l1.length : Int)) = true := decide_eq_true c6
              clear c6
              replace H := Option.bind_eq_some_iff.mp H
              obtain ⟨t174, A70, H⟩ := H
              replace H : (if t174 = true then (copydeskref03_SameList.l0 k1 l0 l1 (wrap64 (x5_1 + 1))) else (some false)) = some r := H
              have A7 := Aside0.mk A70
              clear A70
              by_cases c8 : t174 = true
              · subst c8
                have H1 : (copydeskref03_SameList.l0 k1 l0 l1 (wrap64 (x5_1 + 1))) = some r := by rw [if_pos rfl] at H; exact H
                clear H
                have H := H1
                clear H1
                have H' := Aside0.mk H
                clear H
                try go_wp2
                have n0_ := Aside0.mk (below_drew1 HB.out)
                clear HB
                have HB := n0_
                clear n0_
                have p172 : 0 ≤ (x5_1 : Int) := of_decide_eq_true (by first | (with_reducible assumption) | assumption)
                have q172 : x5_1 < (l0.length : Int) := of_decide_eq_true (by first | (with_reducible assumption) | assumption)
                obtain ⟨ad172, A172_6, c172_6, e172, hx172_0, hx172_1, hx172_2, hx172_3, hx172_4, hx172_5, hx172_6, hx172_7, hx172_8, hl172_6, hi172_6⟩ := at_T26 HR0.out x5_1 p172 q172
                have hw172_8 := hx172_8
                have hw172_7 := hx172_7
                have hw172_6 := hx172_6
                have hw172_5 := hx172_5
                have hw172_4 := hx172_4
                have hw172_3 := hx172_3
                have hw172_2 := hx172_2
                have hw172_1 := hx172_1
                have hw172_0 := hx172_0
                cases e172
                replace hx172_0 := (HB.out.cell (World.block_lt_of_cell? w _ hx172_0)).trans hx172_0
                replace hx172_1 := (HB.out.cell (World.block_lt_of_cell? w _ hx172_1)).trans hx172_1
                replace hx172_2 := (HB.out.cell (World.block_lt_of_cell? w _ hx172_2)).trans hx172_2
                replace hx172_3 := (HB.out.cell (World.block_lt_of_cell? w _ hx172_3)).trans hx172_3
                replace hx172_4 := (HB.out.cell (World.block_lt_of_cell? w _ hx172_4)).trans hx172_4
                replace hx172_5 := (HB.out.cell (World.block_lt_of_cell? w _ hx172_5)).trans hx172_5
                replace hx172_6 := (HB.out.cell (World.block_lt_of_cell? w _ hx172_6)).trans hx172_6
                replace hx172_7 := (HB.out.cell (World.block_lt_of_cell? w _ hx172_7)).trans hx172_7
                replace hx172_8 := (HB.out.cell (World.block_lt_of_cell? w _ hx172_8)).trans hx172_8
                have HR172_6 := Aside0.mk hi172_6
                have HC172_6 := Aside0.mk hl172_6
                clear hi172_6 hl172_6
                replace p172 := eq_true p172
                replace q172 := eq_true q172
                have p173 : 0 ≤ (x5_1 : Int) := of_decide_eq_true (by first | (with_reducible assumption) | assumption)
                have q173 : x5_1 < (l1.length : Int) := of_decide_eq_true (by first | (with_reducible assumption) | assumption)
                obtain ⟨ad173, A173_6, c173_6, e173, hx173_0, hx173_1, hx173_2, hx173_3, hx173_4, hx173_5, hx173_6, hx173_7, hx173_8, hl173_6, hi173_6⟩ := at_T26 HR1.out x5_1 p173 q173
                have hw173_8 := hx173_8
                have hw173_7 := hx173_7
                have hw173_6 := hx173_6
                have hw173_5 := hx173_5
                have hw173_4 := hx173_4
                have hw173_3 := hx173_3
                have hw173_2 := hx173_2
                have hw173_1 := hx173_1
                have hw173_0 := hx173_0
                cases e173
                replace hx173_0 := (HB.out.cell (World.block_lt_of_cell? w _ hx173_0)).trans hx173_0
                replace hx173_1 := (HB.out.cell (World.block_lt_of_cell? w _ hx173_1)).trans hx173_1
                replace hx173_2 := (HB.out.cell (World.block_lt_of_cell? w _ hx173_2)).trans hx173_2
                replace hx173_3 := (HB.out.cell (World.block_lt_of_cell? w _ hx173_3)).trans hx173_3
                replace hx173_4 := (HB.out.cell (World.block_lt_of_cell? w _ hx173_4)).trans hx173_4
                replace hx173_5 := (HB.out.cell (World.block_lt_of_cell? w _ hx173_5)).trans hx173_5
                replace hx173_6 := (HB.out.cell (World.block_lt_of_cell? w _ hx173_6)).trans hx173_6
                replace hx173_7 := (HB.out.cell (World.block_lt_of_cell? w _ hx173_7)).trans hx173_7
                replace hx173_8 := (HB.out.cell (World.block_lt_of_cell? w _ hx173_8)).trans hx173_8
                have HR173_6 := Aside0.mk hi173_6
                have HC173_6 := Aside0.mk hl173_6
                clear hi173_6 hl173_6
                replace p173 := eq_true p173
                replace q173 := eq_true q173
                refine start_ (n := 10) (S := fun w' => w'.cell? (ad172.add ((x5_1).toNat * 9)) = some (.int .i64 ((rd_T26 l0 x5_1).f0)) ∧ w'.cell? ⟨(ad172.add ((x5_1).toNat * 9)).block, (ad172.add ((x5_1).toNat * 9)).off + 1, none⟩ = some (.int .i64 ((rd_T26 l0 x5_1).f1)) ∧ w'.cell? ⟨(ad172.add ((x5_1).toNat * 9)).block, (ad172.add ((x5_1).toNat * 9)).off + 2, none⟩ = some (.string ((rd_T26 l0 x5_1).f2)) ∧ w'.cell? ⟨(ad172.add ((x5_1).toNat * 9)).block, (ad172.add ((x5_1).toNat * 9)).off + 3, none⟩ = some (.int .i64 ((rd_T26 l0 x5_1).f3)) ∧ w'.cell? ⟨(ad172.add ((x5_1).toNat * 9)).block, (ad172.add ((x5_1).toNat * 9)).off + 4, none⟩ = some (.int .i64 ((rd_T26 l0 x5_1).f4)) ∧ w'.cell? ⟨(ad172.add ((x5_1).toNat * 9)).block, (ad172.add ((x5_1).toNat * 9)).off + 5, none⟩ = some (.int .i64 ((rd_T26 l0 x5_1).f5.f0)) ∧ w'.cell? ⟨(ad172.add ((x5_1).toNat * 9)).block, (ad172.add ((x5_1).toNat * 9)).off + 6, none⟩ = some (.slice A172_6 ((rd_T26 l0 x5_1).f5.f1).length c172_6) ∧ w'.cell? ⟨(ad172.add ((x5_1).toNat * 9)).block, (ad172.add ((x5_1).toNat * 9)).off + 7, none⟩ = some (.int .i64 ((rd_T26 l0 x5_1).f5.f2)) ∧ w'.cell? ⟨(ad172.add ((x5_1).toNat * 9)).block, (ad172.add ((x5_1).toNat * 9)).off + 8, none⟩ = some (.int .i64 ((rd_T26 l0 x5_1).f5.f3)) ∧ w'.cell? (ad173.add ((x5_1).toNat * 9)) = some (.int .i64 ((rd_T26 l1 x5_1).f0)) ∧ w'.cell? ⟨(ad173.add ((x5_1).toNat * 9)).block, (ad173.add ((x5_1).toNat * 9)).off + 1, none⟩ = some (.int .i64 ((rd_T26 l1 x5_1).f1)) ∧ w'.cell? ⟨(ad173.add ((x5_1).toNat * 9)).block, (ad173.add ((x5_1).toNat * 9)).off + 2, none⟩ = some (.string ((rd_T26 l1 x5_1).f2)) ∧ w'.cell? ⟨(ad173.add ((x5_1).toNat * 9)).block, (ad173.add ((x5_1).toNat * 9)).off + 3, none⟩ = some (.int .i64 ((rd_T26 l1 x5_1).f3)) ∧ w'.cell? ⟨(ad173.add ((x5_1).toNat * 9)).block, (ad173.add ((x5_1).toNat * 9)).off + 4, none⟩ = some (.int .i64 ((rd_T26 l1 x5_1).f4)) ∧ w'.cell? ⟨(ad173.add ((x5_1).toNat * 9)).block, (ad173.add ((x5_1).toNat * 9)).off + 5, none⟩ = some (.int .i64 ((rd_T26 l1 x5_1).f5.f0)) ∧ w'.cell? ⟨(ad173.add ((x5_1).toNat * 9)).block, (ad173.add ((x5_1).toNat * 9)).off + 6, none⟩ = some (.slice A173_6 ((rd_T26 l1 x5_1).f5.f1).length c173_6) ∧ w'.cell? ⟨(ad173.add ((x5_1).toNat * 9)).block, (ad173.add ((x5_1).toNat * 9)).off + 7, none⟩ = some (.int .i64 ((rd_T26 l1 x5_1).f5.f2)) ∧ w'.cell? ⟨(ad173.add ((x5_1).toNat * 9)).block, (ad173.add ((x5_1).toNat * 9)).off + 8, none⟩ = some (.int .i64 ((rd_T26 l1 x5_1).f5.f3))) (ds := []) #[false, false, false, false, false, false, false, false, false, false] (by kernel_rfl) rfl rfl ⟨((HB.out.cell (World.block_lt_of_cell? w _ hw172_0)).trans hw172_0), ((HB.out.cell (World.block_lt_of_cell? w _ hw172_1)).trans hw172_1), ((HB.out.cell (World.block_lt_of_cell? w _ hw172_2)).trans hw172_2), ((HB.out.cell (World.block_lt_of_cell? w _ hw172_3)).trans hw172_3), ((HB.out.cell (World.block_lt_of_cell? w _ hw172_4)).trans hw172_4), ((HB.out.cell (World.block_lt_of_cell? w _ hw172_5)).trans hw172_5), ((HB.out.cell (World.block_lt_of_cell? w _ hw172_6)).trans hw172_6), ((HB.out.cell (World.block_lt_of_cell? w _ hw172_7)).trans hw172_7), ((HB.out.cell (World.block_lt_of_cell? w _ hw172_8)).trans hw172_8), ((HB.out.cell (World.block_lt_of_cell? w _ hw173_0)).trans hw173_0), ((HB.out.cell (World.block_lt_of_cell? w _ hw173_1)).trans hw173_1), ((HB.out.cell (World.block_lt_of_cell? w _ hw173_2)).trans hw173_2), ((HB.out.cell (World.block_lt_of_cell? w _ hw173_3)).trans hw173_3), ((HB.out.cell (World.block_lt_of_cell? w _ hw173_4)).trans hw173_4), ((HB.out.cell (World.block_lt_of_cell? w _ hw173_5)).trans hw173_5), ((HB.out.cell (World.block_lt_of_cell? w _ hw173_6)).trans hw173_6), ((HB.out.cell (World.block_lt_of_cell? w _ hw173_7)).trans hw173_7), ((HB.out.cell (World.block_lt_of_cell? w _ hw173_8)).trans hw173_8)⟩ (fun hHeld => ?_); refine with_tabW copydeskref03_SameList.tab6 copydeskref03_SameList.bits6 (fun HT_ HW_ => ?_)
                generalize wr.drew = w9 at HB HR172_6 HR173_6 hx172_0 hx172_1 hx172_2 hx172_3 hx172_4 hx172_5 hx172_6 hx172_7 hx172_8 hx173_0 hx173_1 hx173_2 hx173_3 hx173_4 hx173_5 hx173_6 hx173_7 hx173_8 hHeld ⊢
                refine pure_ (i := 0) (N := some 18) (v := ?_) (a' := ?_) #[true, false, false, false, false, false, false, false, false, false] rfl rfl (any_of HT_.out (by kernel_rfl)) (fun _ _ _ h => h) (Or.inl ⟨by rfl, ?_⟩) ?_ ?_
                rotate_left
                · intro w'
                  go_simp
                  with_reducible rfl
                rotate_left
                · simp only [Act.put, List.setIfInBounds_toArray, List.set_cons_zero, List.set_cons_succ, i64_w, i32_w]
                  rfl
                refine pure_ (i := 1) (N := some 19) (v := ?_) (a' := ?_) #[true, true, false, false, false, false, false, false, false, false] rfl rfl (any_of HT_.out (by kernel_rfl)) (fun _ _ _ h => h) (Or.inl ⟨by rfl, ?_⟩) ?_ ?_
                rotate_left
                · intro w'
                  go_simp
                  with_reducible rfl
                rotate_left
                · simp only [Act.put, List.setIfInBounds_toArray, List.set_cons_zero, List.set_cons_succ, i64_w, i32_w]
                  rfl
                refine pure_ (i := 2) (N := some 20) (v := ?_) (a' := ?_) #[true, true, true, false, false, false, false, false, false, false] rfl rfl (any_of HT_.out (by kernel_rfl)) (fun _ _ _ h => h) (Or.inl ⟨by rfl, ?_⟩) ?_ ?_
                rotate_left
                · intro w'
                  go_simp
                  with_reducible rfl
                rotate_left
                · simp only [Act.put, List.setIfInBounds_toArray, List.set_cons_zero, List.set_cons_succ, i64_w, i32_w]
                  rfl
                refine pure_ (i := 4) (N := some 22) (v := ?_) (a' := ?_) #[true, true, true, false, true, false, false, false, false, false] rfl rfl (any_of HT_.out (by kernel_rfl)) (fun _ _ _ h => h) (Or.inl ⟨by rfl, ?_⟩) ?_ ?_
                rotate_left
                · intro w'
                  go_simp
                  with_reducible rfl
                rotate_left
                · simp only [Act.put, List.setIfInBounds_toArray, List.set_cons_zero, List.set_cons_succ, i64_w, i32_w]
                  rfl
                refine pure_ (i := 5) (N := some 23) (v := ?_) (a' := ?_) #[true, true, true, false, true, true, false, false, false, false] rfl rfl (any_of HT_.out (by kernel_rfl)) (fun _ _ _ h => h) (Or.inl ⟨by rfl, ?_⟩) ?_ ?_
                rotate_left
                · intro w'
                  go_simp
                  with_reducible rfl
                rotate_left
                · simp only [Act.put, List.setIfInBounds_toArray, List.set_cons_zero, List.set_cons_succ, i64_w, i32_w]
                  rfl
                refine pure_ (i := 6) (N := some 24) (v := ?_) (a' := ?_) #[true, true, true, false, true, true, true, false, false, false] rfl rfl (any_of HT_.out (by kernel_rfl)) (fun _ _ _ h => h) (Or.inl ⟨by rfl, ?_⟩) ?_ ?_
                rotate_left
                · intro w'
                  go_simp
                  with_reducible rfl
                rotate_left
                · simp only [Act.put, List.setIfInBounds_toArray, List.set_cons_zero, List.set_cons_succ, i64_w, i32_w]
                  rfl
                refine take_ (i := 3) (N := some 21) (v := ?_) (a' := ?_) #[true, true, true, true, true, true, true, false, false, false] rfl rfl (take_ofW HT_.out HW_.out (by kernel_rfl)) (fun _ _ _ h => h) (Or.inl ⟨by rfl, ?_⟩) hHeld ?_ ?_
                rotate_left
                · rintro w' ⟨s0, s1, s2, s3, s4, s5, s6, s7, s8, s9, s10, s11, s12, s13, s14, s15, s16, s17⟩
                  go_simp
                  with_reducible rfl
                rotate_left
                · simp only [Act.put, List.setIfInBounds_toArray, List.set_cons_zero, List.set_cons_succ, i64_w, i32_w]
                  rfl
                refine take_ (i := 7) (N := some 25) (v := ?_) (a' := ?_) #[true, true, true, true, true, true, true, true, false, false] rfl rfl (take_ofW HT_.out HW_.out (by kernel_rfl)) (fun _ _ _ h => h) (Or.inl ⟨by rfl, ?_⟩) hHeld ?_ ?_
                rotate_left
                · rintro w' ⟨s0, s1, s2, s3, s4, s5, s6, s7, s8, s9, s10, s11, s12, s13, s14, s15, s16, s17⟩
                  go_simp
                  with_reducible rfl
                rotate_left
                · simp only [Act.put, List.setIfInBounds_toArray, List.set_cons_zero, List.set_cons_succ, i64_w, i32_w]
                  rfl
                refine one_ (i := 8) (N := some 26) #[true, true, true, true, true, true, true, true, true, false] rfl rfl (one_of HT_.out (by kernel_rfl)) (by decide) (fun K hK => ?_)
                refine goes_ Tryd.func24 (by kernel_rfl) rfl #[.agg #[.int .i64 ((rd_T26 l0 x5_1).f0), .int .i64 ((rd_T26 l0 x5_1).f1), .string ((rd_T26 l0 x5_1).f2), .int .i64 ((rd_T26 l0 x5_1).f3), .int .i64 ((rd_T26 l0 x5_1).f4), .int .i64 ((rd_T26 l0 x5_1).f5.f0), .slice A172_6 ((rd_T26 l0 x5_1).f5.f1).length c172_6, .int .i64 ((rd_T26 l0 x5_1).f5.f2), .int .i64 ((rd_T26 l0 x5_1).f5.f3)], .agg #[.int .i64 ((rd_T26 l1 x5_1).f0), .int .i64 ((rd_T26 l1 x5_1).f1), .string ((rd_T26 l1 x5_1).f2), .int .i64 ((rd_T26 l1 x5_1).f3), .int .i64 ((rd_T26 l1 x5_1).f4), .int .i64 ((rd_T26 l1 x5_1).f5.f0), .slice A173_6 ((rd_T26 l1 x5_1).f5.f1).length c173_6, .int .i64 ((rd_T26 l1 x5_1).f5.f2), .int .i64 ((rd_T26 l1 x5_1).f5.f3)]] (by rfl) rfl rfl (by (try simp only [List.map_toArray, List.map_cons, List.map_nil]); first | done | rfl | (simp only [List.length_drop, List.length_take]; rfl)) ?_
                with_reducible refine (copydeskref03_Same.calls k1 ((rd_T26 l0 x5_1).f0) ((rd_T26 l0 x5_1).f1) ((rd_T26 l0 x5_1).f2) ((rd_T26 l0 x5_1).f3) ((rd_T26 l0 x5_1).f4) ((rd_T26 l0 x5_1).f5.f0) _ _ ((rd_T26 l0 x5_1).f5.f1) ((rd_T26 l0 x5_1).f5.f2) ((rd_T26 l0 x5_1).f5.f3) ((rd_T26 l1 x5_1).f0) ((rd_T26 l1 x5_1).f1) ((rd_T26 l1 x5_1).f2) ((rd_T26 l1 x5_1).f3) ((rd_T26 l1 x5_1).f4) ((rd_T26 l1 x5_1).f5.f0) _ _ ((rd_T26 l1 x5_1).f5.f1) ((rd_T26 l1 x5_1).f5.f2) ((rd_T26 l1 x5_1).f5.f3) true _ ?side1 ?side2 ?side3 ?side4 A7.out).mono ?_
                (case side1 => repeat (first | exact (Kd.C_below HR172_6.out HB.out) | (with_reducible refine Kd.C_alloc ?_ _) | (with_reducible refine Kd.C_drewN ?_ _) | (with_reducible refine Kd.C_drew ?_)))
                (case side2 => exact HC172_6.out)
                (case side3 => repeat (first | exact (Kd.C_below HR173_6.out HB.out) | (with_reducible refine Kd.C_alloc ?_ _) | (with_reducible refine Kd.C_drewN ?_ _) | (with_reducible refine Kd.C_drew ?_)))
                (case side4 => exact HC173_6.out)
                rintro e w10 ⟨rfl, hb⟩
                refine ⟨_, rfl, ?_⟩
                have n0_ := Aside0.mk (below_step (by repeat (first | (with_reducible first | exact HB.out | apply below_alloc | apply pw_below_drewN | apply below_drew1) | exact HB.out)) hb)
                clear HB
                have HB := n0_
                clear n0_
                (try clear hb)
                (try clear hb2)
                (try clear hk)
                (try clear hi)
                refine hK.out _ _ ⟨((HB.out.cell (World.block_lt_of_cell? w _ hw172_0)).trans hw172_0), ((HB.out.cell (World.block_lt_of_cell? w _ hw172_1)).trans hw172_1), ((HB.out.cell (World.block_lt_of_cell? w _ hw172_2)).trans hw172_2), ((HB.out.cell (World.block_lt_of_cell? w _ hw172_3)).trans hw172_3), ((HB.out.cell (World.block_lt_of_cell? w _ hw172_4)).trans hw172_4), ((HB.out.cell (World.block_lt_of_cell? w _ hw172_5)).trans hw172_5), ((HB.out.cell (World.block_lt_of_cell? w _ hw172_6)).trans hw172_6), ((HB.out.cell (World.block_lt_of_cell? w _ hw172_7)).trans hw172_7), ((HB.out.cell (World.block_lt_of_cell? w _ hw172_8)).trans hw172_8), ((HB.out.cell (World.block_lt_of_cell? w _ hw173_0)).trans hw173_0), ((HB.out.cell (World.block_lt_of_cell? w _ hw173_1)).trans hw173_1), ((HB.out.cell (World.block_lt_of_cell? w _ hw173_2)).trans hw173_2), ((HB.out.cell (World.block_lt_of_cell? w _ hw173_3)).trans hw173_3), ((HB.out.cell (World.block_lt_of_cell? w _ hw173_4)).trans hw173_4), ((HB.out.cell (World.block_lt_of_cell? w _ hw173_5)).trans hw173_5), ((HB.out.cell (World.block_lt_of_cell? w _ hw173_6)).trans hw173_6), ((HB.out.cell (World.block_lt_of_cell? w _ hw173_7)).trans hw173_7), ((HB.out.cell (World.block_lt_of_cell? w _ hw173_8)).trans hw173_8)⟩ (fun hHeld => ?_)
                clear hK K
                refine norm_ (a' := ?_) ?_ ?_
                rotate_left
                · show Act.put _ (some 26) _ = _
                  simp only [Act.put, List.setIfInBounds_toArray, List.set_cons_zero, List.set_cons_succ, i64_w, i32_w]
                  rfl
                refine pure_ (i := 9) (N := some 6) (v := ?_) (a' := ?_) #[true, true, true, true, true, true, true, true, true, true] rfl rfl (any_of HT_.out (by kernel_rfl)) (fun _ _ _ h => h) (Or.inl ⟨by rfl, ?_⟩) ?_ ?_
                rotate_left
                · intro w'
                  go_simp
                  with_reducible rfl
                rotate_left
                · simp only [Act.put, List.setIfInBounds_toArray, List.set_cons_zero, List.set_cons_succ, i64_w, i32_w]
                  rfl
                refine done_ (done_of HT_.out (by kernel_rfl)) ?_
                try go_wp2
                go_roundg k1
                case measure => have := HK1.out; omega
                case rel => exact ⟨(wrap64 (x5_1 + 1)), (by first | rfl | (simp; done) | (simp [*]; done)), H', ⟨by have := HK1.out; omega⟩, ⟨by repeat (first | (with_reducible first | exact HB.out | apply below_alloc | apply pw_below_drewN | apply below_drew1) | exact HB.out)⟩⟩
              · replace c8 := Bool.eq_false_iff.mpr c8
                subst c8
                have H1 : (some false) = some r := by rw [if_neg (show ¬ (false = true) by decide)] at H; exact H
                clear H
                have H := H1
                clear H1
                obtain rfl := Option.some.inj H
                try go_wp2
                have n0_ := Aside0.mk (below_drew1 HB.out)
                clear HB
                have HB := n0_
                clear n0_
                have p172 : 0 ≤ (x5_1 : Int) := of_decide_eq_true (by first | (with_reducible assumption) | assumption)
                have q172 : x5_1 < (l0.length : Int) := of_decide_eq_true (by first | (with_reducible assumption) | assumption)
                obtain ⟨ad172, A172_6, c172_6, e172, hx172_0, hx172_1, hx172_2, hx172_3, hx172_4, hx172_5, hx172_6, hx172_7, hx172_8, hl172_6, hi172_6⟩ := at_T26 HR0.out x5_1 p172 q172
                have hw172_8 := hx172_8
                have hw172_7 := hx172_7
                have hw172_6 := hx172_6
                have hw172_5 := hx172_5
                have hw172_4 := hx172_4
                have hw172_3 := hx172_3
                have hw172_2 := hx172_2
                have hw172_1 := hx172_1
                have hw172_0 := hx172_0
                cases e172
                replace hx172_0 := (HB.out.cell (World.block_lt_of_cell? w _ hx172_0)).trans hx172_0
                replace hx172_1 := (HB.out.cell (World.block_lt_of_cell? w _ hx172_1)).trans hx172_1
                replace hx172_2 := (HB.out.cell (World.block_lt_of_cell? w _ hx172_2)).trans hx172_2
                replace hx172_3 := (HB.out.cell (World.block_lt_of_cell? w _ hx172_3)).trans hx172_3
                replace hx172_4 := (HB.out.cell (World.block_lt_of_cell? w _ hx172_4)).trans hx172_4
                replace hx172_5 := (HB.out.cell (World.block_lt_of_cell? w _ hx172_5)).trans hx172_5
                replace hx172_6 := (HB.out.cell (World.block_lt_of_cell? w _ hx172_6)).trans hx172_6
                replace hx172_7 := (HB.out.cell (World.block_lt_of_cell? w _ hx172_7)).trans hx172_7
                replace hx172_8 := (HB.out.cell (World.block_lt_of_cell? w _ hx172_8)).trans hx172_8
                have HR172_6 := Aside0.mk hi172_6
                have HC172_6 := Aside0.mk hl172_6
                clear hi172_6 hl172_6
                replace p172 := eq_true p172
                replace q172 := eq_true q172
                have p173 : 0 ≤ (x5_1 : Int) := of_decide_eq_true (by first | (with_reducible assumption) | assumption)
                have q173 : x5_1 < (l1.length : Int) := of_decide_eq_true (by first | (with_reducible assumption) | assumption)
                obtain ⟨ad173, A173_6, c173_6, e173, hx173_0, hx173_1, hx173_2, hx173_3, hx173_4, hx173_5, hx173_6, hx173_7, hx173_8, hl173_6, hi173_6⟩ := at_T26 HR1.out x5_1 p173 q173
                have hw173_8 := hx173_8
                have hw173_7 := hx173_7
                have hw173_6 := hx173_6
                have hw173_5 := hx173_5
                have hw173_4 := hx173_4
                have hw173_3 := hx173_3
                have hw173_2 := hx173_2
                have hw173_1 := hx173_1
                have hw173_0 := hx173_0
                cases e173
                replace hx173_0 := (HB.out.cell (World.block_lt_of_cell? w _ hx173_0)).trans hx173_0
                replace hx173_1 := (HB.out.cell (World.block_lt_of_cell? w _ hx173_1)).trans hx173_1
                replace hx173_2 := (HB.out.cell (World.block_lt_of_cell? w _ hx173_2)).trans hx173_2
                replace hx173_3 := (HB.out.cell (World.block_lt_of_cell? w _ hx173_3)).trans hx173_3
                replace hx173_4 := (HB.out.cell (World.block_lt_of_cell? w _ hx173_4)).trans hx173_4
                replace hx173_5 := (HB.out.cell (World.block_lt_of_cell? w _ hx173_5)).trans hx173_5
                replace hx173_6 := (HB.out.cell (World.block_lt_of_cell? w _ hx173_6)).trans hx173_6
                replace hx173_7 := (HB.out.cell (World.block_lt_of_cell? w _ hx173_7)).trans hx173_7
                replace hx173_8 := (HB.out.cell (World.block_lt_of_cell? w _ hx173_8)).trans hx173_8
                have HR173_6 := Aside0.mk hi173_6
                have HC173_6 := Aside0.mk hl173_6
                clear hi173_6 hl173_6
                replace p173 := eq_true p173
                replace q173 := eq_true q173
                refine start_ (n := 10) (S := fun w' => w'.cell? (ad172.add ((x5_1).toNat * 9)) = some (.int .i64 ((rd_T26 l0 x5_1).f0)) ∧ w'.cell? ⟨(ad172.add ((x5_1).toNat * 9)).block, (ad172.add ((x5_1).toNat * 9)).off + 1, none⟩ = some (.int .i64 ((rd_T26 l0 x5_1).f1)) ∧ w'.cell? ⟨(ad172.add ((x5_1).toNat * 9)).block, (ad172.add ((x5_1).toNat * 9)).off + 2, none⟩ = some (.string ((rd_T26 l0 x5_1).f2)) ∧ w'.cell? ⟨(ad172.add ((x5_1).toNat * 9)).block, (ad172.add ((x5_1).toNat * 9)).off + 3, none⟩ = some (.int .i64 ((rd_T26 l0 x5_1).f3)) ∧ w'.cell? ⟨(ad172.add ((x5_1).toNat * 9)).block, (ad172.add ((x5_1).toNat * 9)).off + 4, none⟩ = some (.int .i64 ((rd_T26 l0 x5_1).f4)) ∧ w'.cell? ⟨(ad172.add ((x5_1).toNat * 9)).block, (ad172.add ((x5_1).toNat * 9)).off + 5, none⟩ = some (.int .i64 ((rd_T26 l0 x5_1).f5.f0)) ∧ w'.cell? ⟨(ad172.add ((x5_1).toNat * 9)).block, (ad172.add ((x5_1).toNat * 9)).off + 6, none⟩ = some (.slice A172_6 ((rd_T26 l0 x5_1).f5.f1).length c172_6) ∧ w'.cell? ⟨(ad172.add ((x5_1).toNat * 9)).block, (ad172.add ((x5_1).toNat * 9)).off + 7, none⟩ = some (.int .i64 ((rd_T26 l0 x5_1).f5.f2)) ∧ w'.cell? ⟨(ad172.add ((x5_1).toNat * 9)).block, (ad172.add ((x5_1).toNat * 9)).off + 8, none⟩ = some (.int .i64 ((rd_T26 l0 x5_1).f5.f3)) ∧ w'.cell? (ad173.add ((x5_1).toNat * 9)) = some (.int .i64 ((rd_T26 l1 x5_1).f0)) ∧ w'.cell? ⟨(ad173.add ((x5_1).toNat * 9)).block, (ad173.add ((x5_1).toNat * 9)).off + 1, none⟩ = some (.int .i64 ((rd_T26 l1 x5_1).f1)) ∧ w'.cell? ⟨(ad173.add ((x5_1).toNat * 9)).block, (ad173.add ((x5_1).toNat * 9)).off + 2, none⟩ = some (.string ((rd_T26 l1 x5_1).f2)) ∧ w'.cell? ⟨(ad173.add ((x5_1).toNat * 9)).block, (ad173.add ((x5_1).toNat * 9)).off + 3, none⟩ = some (.int .i64 ((rd_T26 l1 x5_1).f3)) ∧ w'.cell? ⟨(ad173.add ((x5_1).toNat * 9)).block, (ad173.add ((x5_1).toNat * 9)).off + 4, none⟩ = some (.int .i64 ((rd_T26 l1 x5_1).f4)) ∧ w'.cell? ⟨(ad173.add ((x5_1).toNat * 9)).block, (ad173.add ((x5_1).toNat * 9)).off + 5, none⟩ = some (.int .i64 ((rd_T26 l1 x5_1).f5.f0)) ∧ w'.cell? ⟨(ad173.add ((x5_1).toNat * 9)).block, (ad173.add ((x5_1).toNat * 9)).off + 6, none⟩ = some (.slice A173_6 ((rd_T26 l1 x5_1).f5.f1).length c173_6) ∧ w'.cell? ⟨(ad173.add ((x5_1).toNat * 9)).block, (ad173.add ((x5_1).toNat * 9)).off + 7, none⟩ = some (.int .i64 ((rd_T26 l1 x5_1).f5.f2)) ∧ w'.cell? ⟨(ad173.add ((x5_1).toNat * 9)).block, (ad173.add ((x5_1).toNat * 9)).off + 8, none⟩ = some (.int .i64 ((rd_T26 l1 x5_1).f5.f3))) (ds := []) #[false, false, false, false, false, false, false, false, false, false] (by kernel_rfl) rfl rfl ⟨((HB.out.cell (World.block_lt_of_cell? w _ hw172_0)).trans hw172_0), ((HB.out.cell (World.block_lt_of_cell? w _ hw172_1)).trans hw172_1), ((HB.out.cell (World.block_lt_of_cell? w _ hw172_2)).trans hw172_2), ((HB.out.cell (World.block_lt_of_cell? w _ hw172_3)).trans hw172_3), ((HB.out.cell (World.block_lt_of_cell? w _ hw172_4)).trans hw172_4), ((HB.out.cell (World.block_lt_of_cell? w _ hw172_5)).trans hw172_5), ((HB.out.cell (World.block_lt_of_cell? w _ hw172_6)).trans hw172_6), ((HB.out.cell (World.block_lt_of_cell? w _ hw172_7)).trans hw172_7), ((HB.out.cell (World.block_lt_of_cell? w _ hw172_8)).trans hw172_8), ((HB.out.cell (World.block_lt_of_cell? w _ hw173_0)).trans hw173_0), ((HB.out.cell (World.block_lt_of_cell? w _ hw173_1)).trans hw173_1), ((HB.out.cell (World.block_lt_of_cell? w _ hw173_2)).trans hw173_2), ((HB.out.cell (World.block_lt_of_cell? w _ hw173_3)).trans hw173_3), ((HB.out.cell (World.block_lt_of_cell? w _ hw173_4)).trans hw173_4), ((HB.out.cell (World.block_lt_of_cell? w _ hw173_5)).trans hw173_5), ((HB.out.cell (World.block_lt_of_cell? w _ hw173_6)).trans hw173_6), ((HB.out.cell (World.block_lt_of_cell? w _ hw173_7)).trans hw173_7), ((HB.out.cell (World.block_lt_of_cell? w _ hw173_8)).trans hw173_8)⟩ (fun hHeld => ?_); refine with_tabW copydeskref03_SameList.tab6 copydeskref03_SameList.bits6 (fun HT_ HW_ => ?_)
                generalize wr.drew = w11 at HB HR172_6 HR173_6 hx172_0 hx172_1 hx172_2 hx172_3 hx172_4 hx172_5 hx172_6 hx172_7 hx172_8 hx173_0 hx173_1 hx173_2 hx173_3 hx173_4 hx173_5 hx173_6 hx173_7 hx173_8 hHeld ⊢
                refine pure_ (i := 0) (N := some 18) (v := ?_) (a' := ?_) #[true, false, false, false, false, false, false, false, false, false] rfl rfl (any_of HT_.out (by kernel_rfl)) (fun _ _ _ h => h) (Or.inl ⟨by rfl, ?_⟩) ?_ ?_
                rotate_left
                · intro w'
                  go_simp
                  with_reducible rfl
                rotate_left
                · simp only [Act.put, List.setIfInBounds_toArray, List.set_cons_zero, List.set_cons_succ, i64_w, i32_w]
                  rfl
                refine pure_ (i := 1) (N := some 19) (v := ?_) (a' := ?_) #[true, true, false, false, false, false, false, false, false, false] rfl rfl (any_of HT_.out (by kernel_rfl)) (fun _ _ _ h => h) (Or.inl ⟨by rfl, ?_⟩) ?_ ?_
                rotate_left
                · intro w'
                  go_simp
                  with_reducible rfl
                rotate_left
                · simp only [Act.put, List.setIfInBounds_toArray, List.set_cons_zero, List.set_cons_succ, i64_w, i32_w]
                  rfl
                refine pure_ (i := 2) (N := some 20) (v := ?_) (a' := ?_) #[true, true, true, false, false, false, false, false, false, false] rfl rfl (any_of HT_.out (by kernel_rfl)) (fun _ _ _ h => h) (Or.inl ⟨by rfl, ?_⟩) ?_ ?_
                rotate_left
                · intro w'
                  go_simp
                  with_reducible rfl
                rotate_left
                · simp only [Act.put, List.setIfInBounds_toArray, List.set_cons_zero, List.set_cons_succ, i64_w, i32_w]
                  rfl
                refine pure_ (i := 4) (N := some 22) (v := ?_) (a' := ?_) #[true, true, true, false, true, false, false, false, false, false] rfl rfl (any_of HT_.out (by kernel_rfl)) (fun _ _ _ h => h) (Or.inl ⟨by rfl, ?_⟩) ?_ ?_
                rotate_left
                · intro w'
                  go_simp
                  with_reducible rfl
                rotate_left
                · simp only [Act.put, List.setIfInBounds_toArray, List.set_cons_zero, List.set_cons_succ, i64_w, i32_w]
                  rfl
                refine pure_ (i := 5) (N := some 23) (v := ?_) (a' := ?_) #[true, true, true, false, true, true, false, false, false, false] rfl rfl (any_of HT_.out (by kernel_rfl)) (fun _ _ _ h => h) (Or.inl ⟨by rfl, ?_⟩) ?_ ?_
                rotate_left
                · intro w'
                  go_simp
                  with_reducible rfl
                rotate_left
                · simp only [Act.put, List.setIfInBounds_toArray, List.set_cons_zero, List.set_cons_succ, i64_w, i32_w]
                  rfl
                refine pure_ (i := 6) (N := some 24) (v := ?_) (a' := ?_) #[true, true, true, false, true, true, true, false, false, false] rfl rfl (any_of HT_.out (by kernel_rfl)) (fun _ _ _ h => h) (Or.inl ⟨by rfl, ?_⟩) ?_ ?_
                rotate_left
                · intro w'
                  go_simp
                  with_reducible rfl
                rotate_left
                · simp only [Act.put, List.setIfInBounds_toArray, List.set_cons_zero, List.set_cons_succ, i64_w, i32_w]
                  rfl
                refine take_ (i := 3) (N := some 21) (v := ?_) (a' := ?_) #[true, true, true, true, true, true, true, false, false, false] rfl rfl (take_ofW HT_.out HW_.out (by kernel_rfl)) (fun _ _ _ h => h) (Or.inl ⟨by rfl, ?_⟩) hHeld ?_ ?_
                rotate_left
                · rintro w' ⟨s0, s1, s2, s3, s4, s5, s6, s7, s8, s9, s10, s11, s12, s13, s14, s15, s16, s17⟩
                  go_simp
                  with_reducible rfl
                rotate_left
                · simp only [Act.put, List.setIfInBounds_toArray, List.set_cons_zero, List.set_cons_succ, i64_w, i32_w]
                  rfl
                refine take_ (i := 7) (N := some 25) (v := ?_) (a' := ?_) #[true, true, true, true, true, true, true, true, false, false] rfl rfl (take_ofW HT_.out HW_.out (by kernel_rfl)) (fun _ _ _ h => h) (Or.inl ⟨by rfl, ?_⟩) hHeld ?_ ?_
                rotate_left
                · rintro w' ⟨s0, s1, s2, s3, s4, s5, s6, s7, s8, s9, s10, s11, s12, s13, s14, s15, s16, s17⟩
                  go_simp
                  with_reducible rfl
                rotate_left
                · simp only [Act.put, List.setIfInBounds_toArray, List.set_cons_zero, List.set_cons_succ, i64_w, i32_w]
                  rfl
                refine one_ (i := 8) (N := some 26) #[true, true, true, true, true, true, true, true, true, false] rfl rfl (one_of HT_.out (by kernel_rfl)) (by decide) (fun K hK => ?_)
                refine goes_ Tryd.func24 (by kernel_rfl) rfl #[.agg #[.int .i64 ((rd_T26 l0 x5_1).f0), .int .i64 ((rd_T26 l0 x5_1).f1), .string ((rd_T26 l0 x5_1).f2), .int .i64 ((rd_T26 l0 x5_1).f3), .int .i64 ((rd_T26 l0 x5_1).f4), .int .i64 ((rd_T26 l0 x5_1).f5.f0), .slice A172_6 ((rd_T26 l0 x5_1).f5.f1).length c172_6, .int .i64 ((rd_T26 l0 x5_1).f5.f2), .int .i64 ((rd_T26 l0 x5_1).f5.f3)], .agg #[.int .i64 ((rd_T26 l1 x5_1).f0), .int .i64 ((rd_T26 l1 x5_1).f1), .string ((rd_T26 l1 x5_1).f2), .int .i64 ((rd_T26 l1 x5_1).f3), .int .i64 ((rd_T26 l1 x5_1).f4), .int .i64 ((rd_T26 l1 x5_1).f5.f0), .slice A173_6 ((rd_T26 l1 x5_1).f5.f1).length c173_6, .int .i64 ((rd_T26 l1 x5_1).f5.f2), .int .i64 ((rd_T26 l1 x5_1).f5.f3)]] (by rfl) rfl rfl (by (try simp only [List.map_toArray, List.map_cons, List.map_nil]); first | done | rfl | (simp only [List.length_drop, List.length_take]; rfl)) ?_
                with_reducible refine (copydeskref03_Same.calls k1 ((rd_T26 l0 x5_1).f0) ((rd_T26 l0 x5_1).f1) ((rd_T26 l0 x5_1).f2) ((rd_T26 l0 x5_1).f3) ((rd_T26 l0 x5_1).f4) ((rd_T26 l0 x5_1).f5.f0) _ _ ((rd_T26 l0 x5_1).f5.f1) ((rd_T26 l0 x5_1).f5.f2) ((rd_T26 l0 x5_1).f5.f3) ((rd_T26 l1 x5_1).f0) ((rd_T26 l1 x5_1).f1) ((rd_T26 l1 x5_1).f2) ((rd_T26 l1 x5_1).f3) ((rd_T26 l1 x5_1).f4) ((rd_T26 l1 x5_1).f5.f0) _ _ ((rd_T26 l1 x5_1).f5.f1) ((rd_T26 l1 x5_1).f5.f2) ((rd_T26 l1 x5_1).f5.f3) false _ ?side1 ?side2 ?side3 ?side4 A7.out).mono ?_
                (case side1 => repeat (first | exact (Kd.C_below HR172_6.out HB.out) | (with_reducible refine Kd.C_alloc ?_ _) | (with_reducible refine Kd.C_drewN ?_ _) | (with_reducible refine Kd.C_drew ?_)))
                (case side2 => exact HC172_6.out)
                (case side3 => repeat (first | exact (Kd.C_below HR173_6.out HB.out) | (with_reducible refine Kd.C_alloc ?_ _) | (with_reducible refine Kd.C_drewN ?_ _) | (with_reducible refine Kd.C_drew ?_)))
                (case side4 => exact HC173_6.out)
                rintro e w12 ⟨rfl, hb⟩
                refine ⟨_, rfl, ?_⟩
                have n0_ := Aside0.mk (below_step (by repeat (first | (with_reducible first | exact HB.out | apply below_alloc | apply pw_below_drewN | apply below_drew1) | exact HB.out)) hb)
                clear HB
                have HB := n0_
                clear n0_
                (try clear hb)
                (try clear hb2)
                (try clear hk)
                (try clear hi)
                refine hK.out _ _ ⟨((HB.out.cell (World.block_lt_of_cell? w _ hw172_0)).trans hw172_0), ((HB.out.cell (World.block_lt_of_cell? w _ hw172_1)).trans hw172_1), ((HB.out.cell (World.block_lt_of_cell? w _ hw172_2)).trans hw172_2), ((HB.out.cell (World.block_lt_of_cell? w _ hw172_3)).trans hw172_3), ((HB.out.cell (World.block_lt_of_cell? w _ hw172_4)).trans hw172_4), ((HB.out.cell (World.block_lt_of_cell? w _ hw172_5)).trans hw172_5), ((HB.out.cell (World.block_lt_of_cell? w _ hw172_6)).trans hw172_6), ((HB.out.cell (World.block_lt_of_cell? w _ hw172_7)).trans hw172_7), ((HB.out.cell (World.block_lt_of_cell? w _ hw172_8)).trans hw172_8), ((HB.out.cell (World.block_lt_of_cell? w _ hw173_0)).trans hw173_0), ((HB.out.cell (World.block_lt_of_cell? w _ hw173_1)).trans hw173_1), ((HB.out.cell (World.block_lt_of_cell? w _ hw173_2)).trans hw173_2), ((HB.out.cell (World.block_lt_of_cell? w _ hw173_3)).trans hw173_3), ((HB.out.cell (World.block_lt_of_cell? w _ hw173_4)).trans hw173_4), ((HB.out.cell (World.block_lt_of_cell? w _ hw173_5)).trans hw173_5), ((HB.out.cell (World.block_lt_of_cell? w _ hw173_6)).trans hw173_6), ((HB.out.cell (World.block_lt_of_cell? w _ hw173_7)).trans hw173_7), ((HB.out.cell (World.block_lt_of_cell? w _ hw173_8)).trans hw173_8)⟩ (fun hHeld => ?_)
                clear hK K
                refine norm_ (a' := ?_) ?_ ?_
                rotate_left
                · show Act.put _ (some 26) _ = _
                  simp only [Act.put, List.setIfInBounds_toArray, List.set_cons_zero, List.set_cons_succ, i64_w, i32_w]
                  rfl
                refine pure_ (i := 9) (N := some 6) (v := ?_) (a' := ?_) #[true, true, true, true, true, true, true, true, true, true] rfl rfl (any_of HT_.out (by kernel_rfl)) (fun _ _ _ h => h) (Or.inl ⟨by rfl, ?_⟩) ?_ ?_
                rotate_left
                · intro w'
                  go_simp
                  with_reducible rfl
                rotate_left
                · simp only [Act.put, List.setIfInBounds_toArray, List.set_cons_zero, List.set_cons_succ, i64_w, i32_w]
                  rfl
                refine done_ (done_of HT_.out (by kernel_rfl)) ?_
                try go_wp2
                go_ret
                exact ⟨by first | rfl | (simp [errW_none, errW_some] <;> rfl) | (simp [*, errW_none, errW_some] <;> rfl), by repeat (first | (with_reducible first | exact HB.out | apply below_alloc | apply pw_below_drewN | apply below_drew1) | exact HB.out)⟩
            · rw [if_neg c6] at H
              exact absurd H (by simp)
          · rw [if_neg c5] at H
            exact absurd H (by simp)
        · rw [if_neg c4] at H
          have c4b0 : decide (x5_1 < (l0.length : Int)) = false := decide_eq_false c4
          clear c4
          obtain rfl := Option.some.inj H
          go_wp2
          go_ret
          exact ⟨by first | rfl | (simp [errW_none, errW_some] <;> rfl) | (simp [*, errW_none, errW_some] <;> rfl), by repeat (first | (with_reducible first | exact HB.out | apply below_alloc | apply pw_below_drewN | apply below_drew1) | exact HB.out)⟩
  · rw [if_neg c3] at H
    have c3b0 : ((l0.length : Int) == (l1.length : Int)) = false := beq_eq_false_iff_ne.mpr c3
    have c3b1 : ((l0.length : Int) != (l1.length : Int)) = true := bne_iff_ne.mpr c3
    have c3b2 : (l0.length == l1.length) = false := by first | simpa using c3 | (simp at c3 ⊢; omega)
    obtain rfl := Option.some.inj H
    go_enter Tryd.func26, Tryd.ntmps26
    go_wp2
    go_ret
    exact ⟨by first | rfl | (simp [errW_none, errW_some] <;> rfl) | (simp [*, errW_none, errW_some] <;> rfl), by repeat (first | (with_reducible first | exact HB.out | apply below_alloc | apply pw_below_drewN | apply below_drew1) | exact HB.out)⟩
end Go.Proofs.YtpgjhjlhipikgaaDoor.PK
end
section
set_option linter.unusedVariables false
set_option linter.unusedSimpArgs false
namespace Go.Proofs.YtpgjhjlhipikgaaDoor.PK
open Go.RowKit Go.Proofs.YtpgjhjlhipikgaaDoorW.PrintWords Go.Proofs.YtpgjhjlhipikgaaDoorW.PrintLast Go.Proofs.YtpgjhjlhipikgaaDoorW.PrintMore
def AllSp (s : List UInt8) : Prop := ∀ c ∈ s, c = 32
theorem AllSp.at {s : List UInt8} (h : AllSp s) (i : Nat) (hi : i < s.length) : m_at s i = 32 := by
  have := h s[i] (List.getElem_mem hi)
  simp [m_at, List.getD_eq_getElem?_getD, hi, this]
def SpHead (s : List UInt8) : Prop := s = [] ∨ ∃ t, s = 32 :: t
theorem SpHead.at {s : List UInt8} (h : SpHead s) (hs : s ≠ []) : m_at s 0 = 32 := by
  rcases h with h | ⟨t, rfl⟩
  · exact absurd h hs
  · rfl
def Neat (x : List UInt8) : Prop := x.head? ≠ some 32 ∧ x.getLast? ≠ some 32 ∧ x ≠ []
def Ended (x : List UInt8) : Prop := Neat x ∧ m_ends x (x.length - 1) = true ∧ ∀ j, j + 1 < x.length → m_ends x j = false
def Open (x : List UInt8) : Prop := Neat x ∧ ∀ j, j < x.length → m_ends x j = false
inductive Parts : List UInt8 → List (List UInt8) → Prop where
  | none (s : List UInt8) (h : AllSp s) : Parts s []
  | last (sp x sq : List UInt8) (h1 : AllSp sp) (h2 : AllSp sq) (hx : Open x) : Parts (sp ++ x ++ sq) [x]
  | more (sp x rest : List UInt8) (xs : List (List UInt8)) (h1 : AllSp sp) (hr : SpHead rest) (hx : Ended x) (h : Parts rest xs) : Parts (sp ++ x ++ rest) (x :: xs)
end Go.Proofs.YtpgjhjlhipikgaaDoor.PK
end
section
set_option linter.unusedVariables false
set_option linter.unusedSimpArgs false
namespace Go.Proofs.YtpgjhjlhipikgaaDoor.PK
open Go.RowKit Go.Proofs.YtpgjhjlhipikgaaDoorW.PrintWords Go.Proofs.YtpgjhjlhipikgaaDoorW.PrintLast Go.Proofs.YtpgjhjlhipikgaaDoorW.PrintMore
theorem pu_mn (a b : Int) : mn a b = if b < a then b else a := rfl
theorem pu_cut (a0 : ByteArray) (m : Int) (hm : 0 ≤ m) : 0 ≤ mn (a0.size : Int) m ∧ mn (a0.size : Int) m ≤ (a0.size : Int) ∧ (a0.extract 0 (mn (a0.size : Int) m).toNat).size ≤ m.toNat := by
  rw [pu_mn]
  refine ⟨by split <;> omega, by split <;> omega, ?_⟩
  rw [ByteArray.size_extract]
  split <;> omega
theorem pu_w1 (n : Nat) (h : n ≤ 9000000000000000000) : wrap64 ((n : Int) + 1) = ((n + 1 : Nat) : Int) := by unfold wrap64; omega
theorem Parts.len {l : List UInt8} {xs : List (List UInt8)} (h : Parts l xs) : (∀ x ∈ xs, x.length ≤ l.length) ∧ xs.length ≤ l.length := by
  induction h with
  | none s h => simp
  | last sp x sq h1 h2 hx =>
    have hn : 0 < x.length := List.length_pos_iff.2 hx.1.2.2
    exact ⟨by simp; omega, by simp; omega⟩
  | more sp x rest xs h1 hr hx h ih =>
    have hn : 0 < x.length := List.length_pos_iff.2 hx.1.2.2
    refine ⟨?_, by simp; omega⟩
    intro y hy
    rcases List.mem_cons.1 hy with rfl | hy
    · simp; omega
    · have := ih.1 y hy; simp; omega
end Go.Proofs.YtpgjhjlhipikgaaDoor.PK
end
section
set_option linter.unusedVariables false
set_option linter.unusedSimpArgs false
namespace Go.Proofs.YtpgjhjlhipikgaaDoor.PK
open Go.RowKit Go.Proofs.YtpgjhjlhipikgaaDoorW.PrintWords Go.Proofs.YtpgjhjlhipikgaaDoorW.PrintLast Go.Proofs.YtpgjhjlhipikgaaDoorW.PrintMore
abbrev rgS (W0 : World) : World → Prop := fun w' => Below W0.heap.size W0 w'
theorem rg_get {W0 w' : World} {p : Addr} {v : Value} (h : rgS W0 w') (c : W0.cell? p = some v) : w'.cell? p = some v := (Below.cell h (World.block_lt_of_cell? _ _ c)).trans c
section
variable {P : Program} {ops : Array Oper} {Q : Exit → Act → World → Prop} {W0 : World} {ds : List Nat}
theorem rg_start {id n : Nat} {a : Act} (ds : List Nat) (hm : P.follows .mixedOrders = true) (hn : ops.size = n) (h : wpAnyLast P .any ops Q (rgS W0) ds n (Array.replicate n false) a W0.drew) : (Code.region id ops true).wp P Q a W0 :=
  start_ (S := rgS W0) (Array.replicate n false) hm hn rfl (below_drew1 (Below.refl _ _)) (fun _ => h)
theorem rg_pure (i : Nat) {N : Option Tmp} {oi : Oper} {v : Value} {fuel : Nat} {l : Array Bool} {a a' : Act} {w : World} (hi : ops[i]? = some oi) (hN : oi.dst = N) (hc : anyB .any ops l (l.setIfInBounds i true) i = true)
    (hQ : ∀ c a w, Q (.panic c) (a.put oi.dst v) w → Q (.panic c) a w) (hw : Region.wanted oi (yielded ops a.tmps) = true) (hrun : ∀ w', (execOp a.eval oi).run P w' = .ok (.value v) w') (ha : a.put N v = a')
    (h : wpAnyLast P .any ops Q (rgS W0) ds fuel (l.setIfInBounds i true) a' w) : wpAnyLast P .any ops Q (rgS W0) ds (fuel + 1) l a w :=
  pure_ _ hi hN hc hQ (.inl ⟨hw, hrun⟩) ha h
theorem rg_pureG (i : Nat) (b : Bool) (v : Value) {N : Option Tmp} {oi : Oper} {fuel : Nat} {l : Array Bool} {a a' : Act} {w : World} (hi : ops[i]? = some oi) (hN : oi.dst = N) (hc : anyB .any ops l (l.setIfInBounds i true) i = true)
    (hQ : ∀ c a w, Q (.panic c) (a.put oi.dst (if b then v else undef)) w → Q (.panic c) a w) (hw : Region.wanted oi (yielded ops a.tmps) = b) (hrun : b = true → ∀ w', (execOp a.eval oi).run P w' = .ok (.value v) w') (ha : a.put N (if b then v else undef) = a')
    (h : wpAnyLast P .any ops Q (rgS W0) ds fuel (l.setIfInBounds i true) a' w) : wpAnyLast P .any ops Q (rgS W0) ds (fuel + 1) l a w := by
  refine pure_ _ hi hN hc hQ ?_ ha h
  cases b with
  | true => exact .inl ⟨hw, hrun rfl⟩
  | false => exact .inr ⟨hw, rfl⟩
theorem rg_load (i : Nat) {N : Option Tmp} {oi : Oper} {v : Value} {fuel : Nat} {l : Array Bool} {a a' : Act} {w : World} (hi : ops[i]? = some oi) (hN : oi.dst = N) (hc : takeB .any ops ds l (l.setIfInBounds i true) i = true)
    (hQ : ∀ c a w, Q (.panic c) (a.put oi.dst v) w → Q (.panic c) a w) (hw : Region.wanted oi (yielded ops a.tmps) = true) (hS : rgS W0 w) (hrun : ∀ w', rgS W0 w' → (execOp a.eval oi).run P w' = .ok (.value v) w') (ha : a.put N v = a')
    (h : wpAnyLast P .any ops Q (rgS W0) ds fuel (l.setIfInBounds i true) a' w) : wpAnyLast P .any ops Q (rgS W0) ds (fuel + 1) l a w :=
  take_ _ hi hN hc hQ (.inl ⟨hw, hrun⟩) hS ha h
theorem rg_loadG (i : Nat) (b : Bool) (v : Value) {N : Option Tmp} {oi : Oper} {fuel : Nat} {l : Array Bool} {a a' : Act} {w : World} (hi : ops[i]? = some oi) (hN : oi.dst = N) (hc : takeB .any ops ds l (l.setIfInBounds i true) i = true)
    (hQ : ∀ c a w, Q (.panic c) (a.put oi.dst (if b then v else undef)) w → Q (.panic c) a w) (hw : Region.wanted oi (yielded ops a.tmps) = b) (hS : rgS W0 w) (hrun : b = true → ∀ w', rgS W0 w' → (execOp a.eval oi).run P w' = .ok (.value v) w') (ha : a.put N (if b then v else undef) = a')
    (h : wpAnyLast P .any ops Q (rgS W0) ds fuel (l.setIfInBounds i true) a' w) : wpAnyLast P .any ops Q (rgS W0) ds (fuel + 1) l a w := by
  refine take_ _ hi hN hc hQ ?_ hS ha h
  cases b with
  | true => exact .inl ⟨hw, hrun rfl⟩
  | false => exact .inr ⟨hw, rfl⟩
theorem rg_step_call {oi : Oper} {N : Option Tmp} {b : Bool} {v : Value} {a : Act} {w : World} {K : Act → World → Prop} {f : FuncId} {fn : Func} {az : Array Operand} {ts : Array TypeId} {args : Array Value} (hN : oi.dst = N) (hw : Region.wanted oi (yielded ops a.tmps) = b)
    (hf : P.funcs[f]? = some fn) (hname : (fn.name == "runtime.NumGoroutine") = false) (hb : fn.body.isSome = true) (hop : oi.op = .call { callee := .value (.func f), args := az, argTypes := ts }) (hargs : b = true → az.map a.eval = args) (hS : rgS W0 w)
    (hcall : b = true → ∀ w1, rgS W0 w1 → Calls P f args w1 fun e w2 => e = .returned v ∧ rgS W0 w2) (hK : ∀ w1, rgS W0 w1 → K (a.put N (if b then v else undef)) w1) :
    if Region.wanted oi (yielded ops a.tmps) = true then Oper.wp P oi a w K Q else K (a.put N undef) w := by
  cases b with
  | true => exact goes_ hf hname hb args hw hN hop (hargs rfl) ((hcall rfl w hS).mono fun e w2 h => ⟨v, h.1, hK w2 h.2⟩)
  | false => rw [hw, if_neg (by simp)]; exact hK w hS
theorem rg_call (i : Nat) (b : Bool) (v : Value) (args : Array Value) {f : FuncId} {fn : Func} {az : Array Operand} {ts : Array TypeId} {N : Option Tmp} {oi : Oper} {fuel : Nat} {l : Array Bool} {a a' : Act} {w : World} (hi : ops[i]? = some oi) (hN : oi.dst = N) (hc : readyB .any ops l (l.setIfInBounds i true) i = true) (hd : i ∉ ds)
    (hw : Region.wanted oi (yielded ops a.tmps) = b) (hf : P.funcs[f]? = some fn) (hname : (fn.name == "runtime.NumGoroutine") = false) (hb : fn.body.isSome = true) (hop : oi.op = .call { callee := .value (.func f), args := az, argTypes := ts }) (hargs : b = true → az.map a.eval = args) (hS : rgS W0 w)
    (hcall : b = true → ∀ w1, rgS W0 w1 → Calls P f args w1 fun e w2 => e = .returned v ∧ rgS W0 w2) (ha : a.put N (if b then v else undef) = a')
    (h : ∀ w1, rgS W0 w1 → wpAnyLast P .any ops Q (rgS W0) ds fuel (l.setIfInBounds i true) a' w1) : wpAnyLast P .any ops Q (rgS W0) ds (fuel + 1) l a w :=
  one_ _ hi hN hc hd (fun K hK => rg_step_call hN hw hf hname hb hop hargs hS hcall (fun w1 h1 => hK _ _ h1 (fun h2 => by rw [ha]; exact h w1 h1)))
theorem rg_done {l : Array Bool} {a : Act} {w : World} {n : Nat} (hr : (Region.ready .any ops l == []) = true) (h : Q .normal a w) : wpAnyLast P .any ops Q (rgS W0) ds n l a w := done_ hr h
end
theorem rg_wantT {ops : Array Oper} {o : Oper} {j : Nat} {B : Bool} {tm : Array Value} (hg : o.guard = some (j, true)) (hy : yielded ops tm j = some B) : Region.wanted o (yielded ops tm) = B := by
  unfold Region.wanted
  rw [hg]
  dsimp only
  rw [hy]
  cases B <;> rfl
theorem rg_wantF {ops : Array Oper} {o : Oper} {j : Nat} {B : Bool} {tm : Array Value} (hg : o.guard = some (j, false)) (hy : yielded ops tm j = some B) : Region.wanted o (yielded ops tm) = !B := by
  unfold Region.wanted
  rw [hg]
  dsimp only
  rw [hy]
  cases B <;> rfl
theorem rg_args2 {a : Act} {x y : Operand} {X Y : Value} (hx : a.eval x = X) (hy : a.eval y = Y) : (#[x, y] : Array Operand).map a.eval = #[X, Y] := by simp [hx, hy]
end Go.Proofs.YtpgjhjlhipikgaaDoor.PK
end
