/- Texts of this claim, one behind the other. -/
import Derived.Test.YtpgjhjlhipikgaaDoorMDx3
import Derived.Test.YtpgjhjlhipikgaaDoorMEx2
import Derived.Test.YtpgjhjlhipikgaaDoorMDx8
import Derived.Test.YtpgjhjlhipikgaaDoorMDx9
import Derived.Test.YtpgjhjlhipikgaaDoorMEx1
section
namespace Go.Proofs.YtpgjhjlhipikgaaDoor.PK
open Go.RowKit Go.Proofs.YtpgjhjlhipikgaaDoorW.PrintWords Go.Proofs.YtpgjhjlhipikgaaDoorW.PrintLast Go.Proofs.YtpgjhjlhipikgaaDoorW.PrintMore
attribute [local go_sem] max2_int min2_int max_two min_two max_three min_three max_four min_four   -- for this text's walks alone
set_option linter.unusedVariables false
set_option linter.unusedSimpArgs false
mutual
def copydeskref03_Encode.l0 : Nat → List (S26) → ByteArray → Int → Option (ByteArray × Int)
  | 0, _, _, _ => none
  | k + 1, x0, x5, x6 => if x6 < (x0.length : Int) then (if 0 ≤ x6 then ((copydeskref01_PutString.f k ((rd_T26 x0 x6).f2)).bind fun bt209 => ((copydeskref03_number.f k ((rd_T26 x0 x6).f0)).bind fun t211 => (if x5.size + t211.size ≤ 9223372036854775807 then ((copydeskref03_number.f k ((rd_T26 x0 x6).f1)).bind fun t212 => (if (x5 ++ t211).size + t212.size ≤ 9223372036854775807 then (if ((x5 ++ t211) ++ t212).size + bt209.1.size ≤ 9223372036854775807 then ((copydeskref03_number.f k ((rd_T26 x0 x6).f3)).bind fun t213 => (if (((x5 ++ t211) ++ t212) ++ bt209.1).size + t213.size ≤ 9223372036854775807 then ((copydeskref03_number.f k ((rd_T26 x0 x6).f4)).bind fun t214 => (if ((((x5 ++ t211) ++ t212) ++ bt209.1) ++ t213).size + t214.size ≤ 9223372036854775807 then ((copydeskref03_number.f k ((rd_T26 x0 x6).f5.f0)).bind fun t215 => (if (((((x5 ++ t211) ++ t212) ++ bt209.1) ++ t213) ++ t214).size + t215.size ≤ 9223372036854775807 then ((copydeskref03_number.f k (((rd_T26 x0 x6).f5.f1).length : Int)).bind fun t216 => (if ((((((x5 ++ t211) ++ t212) ++ bt209.1) ++ t213) ++ t214) ++ t215).size + t216.size ≤ 9223372036854775807 then (copydeskref03_Encode.l1 k x0 (((((((x5 ++ t211) ++ t212) ++ bt209.1) ++ t213) ++ t214) ++ t215) ++ t216) x6 0 ((rd_T26 x0 x6).f0) ((rd_T26 x0 x6).f1) ((rd_T26 x0 x6).f2) ((rd_T26 x0 x6).f3) ((rd_T26 x0 x6).f4) ((rd_T26 x0 x6).f5.f0) ((rd_T26 x0 x6).f5.f1) ((rd_T26 x0 x6).f5.f2) ((rd_T26 x0 x6).f5.f3)) else (none))) else (none))) else (none))) else (none))) else (none)) else (none))) else (none)))) else (none)) else (some (x5, 0))
def copydeskref03_Encode.l1 : Nat → List (S26) → ByteArray → Int → Int → Int → Int → ByteArray → Int → Int → Int → List Int → Int → Int → Option (ByteArray × Int)
  | 0, _, _, _, _, _, _, _, _, _, _, _, _, _ => none
  | k + 1, x0, x5, x6, x10, x209000, x209001, x209002, x209003, x209004, x209005, x209006, x209007, x209008 => if x10 < (x209006.length : Int) then (if 0 ≤ x10 then ((copydeskref03_number.f k (rd x209006 x10)).bind fun t218 => (if x5.size + t218.size ≤ 9223372036854775807 then (copydeskref03_Encode.l1 k x0 (x5 ++ t218) x6 (wrap64 (x10 + 1)) x209000 x209001 x209002 x209003 x209004 x209005 x209006 x209007 x209008) else (none))) else (none)) else ((copydeskref03_number.f k x209007).bind fun t219 => (if x5.size + t219.size ≤ 9223372036854775807 then ((copydeskref03_number.f k x209008).bind fun t220 => (if (x5 ++ t219).size + t220.size ≤ 9223372036854775807 then (copydeskref03_Encode.l0 k x0 ((x5 ++ t219) ++ t220) (wrap64 (x6 + 1))) else (none))) else (none)))
end
def copydeskref03_Encode.f (k : Nat) (l0 : List (S26)) : Option (ByteArray × Int) := (copydeskref03_ValidList.f k l0).bind fun t205 => (if t205 = true then ((copydeskref03_number.f k (l0.length : Int)).bind fun t206 => (copydeskref03_Encode.l0 k l0 t206 0)) else (some ((⟨#[]⟩ : ByteArray), 30)))
theorem copydeskref03_Encode.mono_l : ∀ k, (∀ y0 y1 y2, LeO (copydeskref03_Encode.l0 k y0 y1 y2) (copydeskref03_Encode.l0 (k + 1) y0 y1 y2)) ∧ (∀ y0 y1 y2 y3 y4 y5 y6 y7 y8 y9 y10 y11 y12, LeO (copydeskref03_Encode.l1 k y0 y1 y2 y3 y4 y5 y6 y7 y8 y9 y10 y11 y12) (copydeskref03_Encode.l1 (k + 1) y0 y1 y2 y3 y4 y5 y6 y7 y8 y9 y10 y11 y12))
  | 0 => ⟨fun _ _ _ r h => by simp [copydeskref03_Encode.l0] at h, fun _ _ _ _ _ _ _ _ _ _ _ _ _ r h => by simp [copydeskref03_Encode.l1] at h⟩
  | k + 1 => by
    obtain ⟨ih0, ih1⟩ := copydeskref03_Encode.mono_l k
    refine ⟨?_, ?_⟩
    · intro y0 y1 y2
      unfold copydeskref03_Encode.l0
      repeat' first
      | (with_reducible exact ih0 _ _ _)
      | (with_reducible exact ih1 _ _ _ _ _ _ _ _ _ _ _ _ _)
      | (with_reducible exact copydeskref01_PutString.mono _ _)
      | (with_reducible exact copydeskref03_ValidList.mono _ _)
      | (with_reducible exact copydeskref03_number.mono _ _)
      | (with_reducible exact LeO.refl _)
      | (with_reducible exact LeO.none _)
      | (with_reducible refine LeO.ite ?_ ?_)
      | (with_reducible refine LeO.bind ?_ (fun _ => ?_))
      | exact ih0 _ _ _
      | exact ih1 _ _ _ _ _ _ _ _ _ _ _ _ _
      | exact copydeskref01_PutString.mono _ _
      | exact copydeskref03_ValidList.mono _ _
      | exact copydeskref03_number.mono _ _
      | exact LeO.none _
      | refine LeO.ite ?_ ?_
      | refine LeO.bind ?_ (fun _ => ?_)
    · intro y0 y1 y2 y3 y4 y5 y6 y7 y8 y9 y10 y11 y12
      unfold copydeskref03_Encode.l1
      repeat' first
      | (with_reducible exact ih0 _ _ _)
      | (with_reducible exact ih1 _ _ _ _ _ _ _ _ _ _ _ _ _)
      | (with_reducible exact copydeskref01_PutString.mono _ _)
      | (with_reducible exact copydeskref03_ValidList.mono _ _)
      | (with_reducible exact copydeskref03_number.mono _ _)
      | (with_reducible exact LeO.refl _)
      | (with_reducible exact LeO.none _)
      | (with_reducible refine LeO.ite ?_ ?_)
      | (with_reducible refine LeO.bind ?_ (fun _ => ?_))
      | exact ih0 _ _ _
      | exact ih1 _ _ _ _ _ _ _ _ _ _ _ _ _
      | exact copydeskref01_PutString.mono _ _
      | exact copydeskref03_ValidList.mono _ _
      | exact copydeskref03_number.mono _ _
      | exact LeO.none _
      | refine LeO.ite ?_ ?_
      | refine LeO.bind ?_ (fun _ => ?_)
theorem copydeskref03_Encode.mono : ∀ a0 k, LeO (copydeskref03_Encode.f k a0) (copydeskref03_Encode.f (k + 1) a0) := by
  intro a0 k
  obtain ⟨ih0, ih1⟩ := copydeskref03_Encode.mono_l k
  unfold copydeskref03_Encode.f
  repeat' first
      | (with_reducible exact ih0 _ _ _)
      | (with_reducible exact ih1 _ _ _ _ _ _ _ _ _ _ _ _ _)
      | (with_reducible exact copydeskref01_PutString.mono _ _)
      | (with_reducible exact copydeskref03_ValidList.mono _ _)
      | (with_reducible exact copydeskref03_number.mono _ _)
      | (with_reducible exact LeO.refl _)
      | (with_reducible exact LeO.none _)
      | (with_reducible refine LeO.ite ?_ ?_)
      | (with_reducible refine LeO.bind ?_ (fun _ => ?_))
      | exact ih0 _ _ _
      | exact ih1 _ _ _ _ _ _ _ _ _ _ _ _ _
      | exact copydeskref01_PutString.mono _ _
      | exact copydeskref03_ValidList.mono _ _
      | exact copydeskref03_number.mono _ _
      | exact LeO.none _
      | refine LeO.ite ?_ ?_
      | refine LeO.bind ?_ (fun _ => ?_)
def copydeskref03_Encode.T10 : Bool × List (List Nat × List Nat) := (true, [([], []), ([], []), ([1], [1]), ([2], [2]), ([0, 3], [0, 3]), ([], []), ([5], [5]), ([6, 3], [6]), ([4, 7], [4, 7]), ([], []), ([8, 9], [8, 9]), ([], []), ([11], [11]), ([12, 7], [12]), ([10, 13], [10, 13]), ([], []), ([15], [15]), ([16, 13], [16]), ([14, 17], [14, 17]), ([18, 17, 0, 1, 2, 3, 4, 5, 6, 7, 8, 9, 10, 11, 12, 13, 14, 15, 16, 17, 18], [0, 18])])
def copydeskref03_Encode.B10 : List Nat := [0, 0, 2, 6, 15, 0, 32, 110, 255, 0, 1023, 0, 2048, 6382, 16383, 0, 32768, 112878, 262143, 524287]
theorem copydeskref03_Encode.tab10 : rtab .any (opsOf Tryd.f28 10) = copydeskref03_Encode.T10 := by kernel_rfl
theorem copydeskref03_Encode.bits10 : waitsOk copydeskref03_Encode.T10.2 copydeskref03_Encode.B10 = true := by kernel_rfl
def copydeskref03_Encode.T11 : Bool × List (List Nat × List Nat) := (true, [([], []), ([], []), ([1], [1]), ([2], [2]), ([3], [3]), ([0, 4], [0, 4]), ([], []), ([6], [6]), ([7], [7]), ([8], [8]), ([9, 4], [9]), ([5, 10], [5, 10]), ([11, 10, 0, 1, 2, 3, 4, 5, 6, 7, 8, 9, 10, 11], [0, 11])])
def copydeskref03_Encode.B11 : List Nat := [0, 0, 2, 6, 14, 31, 0, 64, 192, 448, 990, 2047, 4095]
theorem copydeskref03_Encode.tab11 : rtab .any (opsOf Tryd.f28 11) = copydeskref03_Encode.T11 := by kernel_rfl
theorem copydeskref03_Encode.bits11 : waitsOk copydeskref03_Encode.T11.2 copydeskref03_Encode.B11 = true := by kernel_rfl
def copydeskref03_Encode.T16 : Bool × List (List Nat × List Nat) := (true, [([], []), ([], []), ([1], [1]), ([2], [2]), ([3], [3]), ([0, 4], [0, 4]), ([], []), ([6], [6]), ([7], [7]), ([8, 4], [8]), ([5, 9], [5, 9]), ([10, 9, 0, 1, 2, 3, 4, 5, 6, 7, 8, 9, 10], [0, 10])])
def copydeskref03_Encode.B16 : List Nat := [0, 0, 2, 6, 14, 31, 0, 64, 192, 478, 1023, 2047]
theorem copydeskref03_Encode.tab16 : rtab .any (opsOf Tryd.f28 16) = copydeskref03_Encode.T16 := by kernel_rfl
theorem copydeskref03_Encode.bits16 : waitsOk copydeskref03_Encode.T16.2 copydeskref03_Encode.B16 = true := by kernel_rfl
set_option maxHeartbeats 8000000 in
set_option maxRecDepth 100000 in
theorem copydeskref03_Encode.calls (k : Nat) (A0 : Option Addr) (c0 : Nat) (l0 : List (S26)) (r1 : ByteArray) (r2 : Int) (w : World) (hr0 : Kd.C k26 w A0 l0.length l0) (hc0 : l0.length ≤ c0) (h : copydeskref03_Encode.f k l0 = some (r1, r2)) :
    Calls Tryd.prog 28 #[.slice A0 l0.length c0] w fun e w' => e = .returned (.tuple #[.string r1, .int .i64 r2]) ∧ Below w.heap.size w w' := by
  have hu26 := Tryd.underlying26
  have HR0 := Aside0.mk hr0
  have HC0 := Aside0.mk hc0
  clear hr0 hc0
  have HB := Aside0.mk (Below.refl w.heap.size w)
  have H : ((copydeskref03_ValidList.f k l0).bind fun t205 => (if t205 = true then ((copydeskref03_number.f k (l0.length : Int)).bind fun t206 => (copydeskref03_Encode.l0 k l0 t206 0)) else (some ((⟨#[]⟩ : ByteArray), 30)))) = some (r1, r2) := h
  clear h
  replace H := Option.bind_eq_some_iff.mp H
  obtain ⟨t205, A20, H⟩ := H
  replace H : (if t205 = true then ((copydeskref03_number.f k (l0.length : Int)).bind fun t206 => (copydeskref03_Encode.l0 k l0 t206 0)) else (some ((⟨#[]⟩ : ByteArray), 30))) = some (r1, r2) := H
  have A2 := Aside0.mk A20
  clear A20
  by_cases c3 : t205 = true
  · subst c3
    have H1 : ((copydeskref03_number.f k (l0.length : Int)).bind fun t206 => (copydeskref03_Encode.l0 k l0 t206 0)) = some (r1, r2) := by rw [if_pos rfl] at H; exact H
    clear H
    have H := H1
    clear H1
    replace H := Option.bind_eq_some_iff.mp H
    obtain ⟨t206, A40, H⟩ := H
    replace H : (copydeskref03_Encode.l0 k l0 t206 0) = some (r1, r2) := H
    have A4 := Aside0.mk A40
    clear A40
    have H' := Aside0.mk H
    clear H
    go_enter Tryd.func28, Tryd.ntmps28
    go_wp2_with (first | ((with_reducible refine gate_callee (f := 22) rfl ?_); refine goesL_ (some 12) rfl rfl Tryd.func22 (by kernel_rfl) rfl #[.slice A0 l0.length c0] rfl (by (try simp only [List.map_toArray, List.map_cons, List.map_nil]); first | done | rfl | (simp only [List.length_drop, List.length_take]; rfl)) ?_; (with_reducible refine (copydeskref03_ValidList.calls k _ _ l0 true _ ?side1 ?side2 A2.out).mono ?_); (case side1 => repeat (first | exact HR0.out | (with_reducible refine Kd.C_alloc ?_ _) | (with_reducible refine Kd.C_drewN ?_ _) | (with_reducible refine Kd.C_drew ?_))); (case side2 => exact HC0.out); rintro e w5 ⟨rfl, hb⟩; refine ⟨_, rfl, ?_⟩; have n0_ := Aside0.mk (below_step (by repeat (first | (with_reducible first | exact HB.out | apply below_alloc | apply pw_below_drewN | apply below_drew1) | exact HB.out)) hb); clear HB; have HB := n0_; clear n0_; (try clear hb); (try clear hb2); (try clear hk); (try clear hi)) | ((with_reducible refine gate_callee (f := 55) rfl ?_); refine goesL_ (some 17) rfl rfl Tryd.func55 (by kernel_rfl) rfl #[.int .i64 (l0.length : Int)] rfl (by (try simp only [List.map_toArray, List.map_cons, List.map_nil]); first | done | rfl | (simp only [List.length_drop, List.length_take]; rfl)) ?_; (with_reducible refine (copydeskref03_number.calls k (l0.length : Int) t206 _ A4.out).mono ?_); rintro e w6 ⟨rfl, hb⟩; refine ⟨_, rfl, ?_⟩; have n0_ := Aside0.mk (below_step (by repeat (first | (with_reducible first | exact HB.out | apply below_alloc | apply pw_below_drewN | apply below_drew1) | exact HB.out)) hb); clear HB; have HB := n0_; clear n0_; (try clear hb); (try clear hb2); (try clear hk); (try clear hi)))
    go_loopg [5, 6] k (fun kq v5 v6 w' => ∃ (x5_1 : ByteArray) (x6_1 : Int), v5 = .string x5_1 ∧ v6 = .int .i64 x6_1 ∧ Aside0 (copydeskref03_Encode.l0 kq l0 x5_1 x6_1 = some (r1, r2)) ∧ Aside0 (kq ≤ k) ∧ Aside0 (Below w.heap.size w w'))
    case atStart => exact ⟨(t206), (0), (by first | rfl | (simp; done) | (simp [*]; done)), (by first | rfl | (simp; done) | (simp [*]; done)), H', ⟨Nat.le_refl _⟩, ⟨by repeat (first | (with_reducible first | exact HB.out | apply below_alloc | apply pw_below_drewN | apply below_drew1) | exact HB.out)⟩⟩
    case round =>
      clear H'
      try clear c2
      try clear p2
      try clear c3
      try clear c5
      obtain ⟨x5_1, x6_1, rfl, rfl, HA, HK1, HB⟩ := hrel
      cases gk with
      | zero => exact absurd HA.out (by simp [copydeskref03_Encode.l0])
      | succ k1 =>
        have H := HA.out
        clear HA
        simp only [copydeskref03_Encode.l0] at H
        by_cases c7 : x6_1 < (l0.length : Int)
        · rw [if_pos c7] at H
          have c7b0 : decide (x6_1 < (l0.length : Int)) = true := decide_eq_true c7
          clear c7
          by_cases c8 : 0 ≤ x6_1
          · rw [if_pos c8] at H
            have c8b0 : decide (0 ≤ x6_1) = true := decide_eq_true c8
            clear c8
            replace H := Option.bind_eq_some_iff.mp H
            obtain ⟨⟨t209, t210⟩, A90, H⟩ := H
            replace H : ((copydeskref03_number.f k1 ((rd_T26 l0 x6_1).f0)).bind fun t211 => (if x5_1.size + t211.size ≤ 9223372036854775807 then ((copydeskref03_number.f k1 ((rd_T26 l0 x6_1).f1)).bind fun t212 => (if (x5_1 ++ t211).size + t212.size ≤ 9223372036854775807 then (if ((x5_1 ++ t211) ++ t212).size + t209.size ≤ 9223372036854775807 then ((copydeskref03_number.f k1 ((rd_T26 l0 x6_1).f3)).bind fun t213 => (if (((x5_1 ++ t211) ++ t212) ++ t209).size + t213.size ≤ 9223372036854775807 then ((copydeskref03_number.f k1 ((rd_T26 l0 x6_1).f4)).bind fun t214 => (if ((((x5_1 ++ t211) ++ t212) ++ t209) ++ t213).size + t214.size ≤ 9223372036854775807 then ((copydeskref03_number.f k1 ((rd_T26 l0 x6_1).f5.f0)).bind fun t215 => (if (((((x5_1 ++ t211) ++ t212) ++ t209) ++ t213) ++ t214).size + t215.size ≤ 9223372036854775807 then ((copydeskref03_number.f k1 (((rd_T26 l0 x6_1).f5.f1).length : Int)).bind fun t216 => (if ((((((x5_1 ++ t211) ++ t212) ++ t209) ++ t213) ++ t214) ++ t215).size + t216.size ≤ 9223372036854775807 then (copydeskref03_Encode.l1 k1 l0 (((((((x5_1 ++ t211) ++ t212) ++ t209) ++ t213) ++ t214) ++ t215) ++ t216) x6_1 0 ((rd_T26 l0 x6_1).f0) ((rd_T26 l0 x6_1).f1) ((rd_T26 l0 x6_1).f2) ((rd_T26 l0 x6_1).f3) ((rd_T26 l0 x6_1).f4) ((rd_T26 l0 x6_1).f5.f0) ((rd_T26 l0 x6_1).f5.f1) ((rd_T26 l0 x6_1).f5.f2) ((rd_T26 l0 x6_1).f5.f3)) else (none))) else (none))) else (none))) else (none))) else (none)) else (none))) else (none))) = some (r1, r2) := H
            have A9 := Aside0.mk A90
            clear A90
            replace H := Option.bind_eq_some_iff.mp H
            obtain ⟨t211, A100, H⟩ := H
            replace H : (if x5_1.size + t211.size ≤ 9223372036854775807 then ((copydeskref03_number.f k1 ((rd_T26 l0 x6_1).f1)).bind fun t212 => (if (x5_1 ++ t211).size + t212.size ≤ 9223372036854775807 then (if ((x5_1 ++ t211) ++ t212).size + t209.size ≤ 9223372036854775807 then ((copydeskref03_number.f k1 ((rd_T26 l0 x6_1).f3)).bind fun t213 => (if (((x5_1 ++ t211) ++ t212) ++ t209).size + t213.size ≤ 9223372036854775807 then ((copydeskref03_number.f k1 ((rd_T26 l0 x6_1).f4)).bind fun t214 => (if ((((x5_1 ++ t211) ++ t212) ++ t209) ++ t213).size + t214.size ≤ 9223372036854775807 then ((copydeskref03_number.f k1 ((rd_T26 l0 x6_1).f5.f0)).bind fun t215 => (if (((((x5_1 ++ t211) ++ t212) ++ t209) ++ t213) ++ t214).size + t215.size ≤ 9223372036854775807 then ((copydeskref03_number.f k1 (((rd_T26 l0 x6_1).f5.f1).length : Int)).bind fun t216 => (if ((((((x5_1 ++ t211) ++ t212) ++ t209) ++ t213) ++ t214) ++ t215).size + t216.size ≤ 9223372036854775807 then (copydeskref03_Encode.l1 k1 l0 (((((((x5_1 ++ t211) ++ t212) ++ t209) ++ t213) ++ t214) ++ t215) ++ t216) x6_1 0 ((rd_T26 l0 x6_1).f0) ((rd_T26 l0 x6_1).f1) ((rd_T26 l0 x6_1).f2) ((rd_T26 l0 x6_1).f3) ((rd_T26 l0 x6_1).f4) ((rd_T26 l0 x6_1).f5.f0) ((rd_T26 l0 x6_1).f5.f1) ((rd_T26 l0 x6_1).f5.f2) ((rd_T26 l0 x6_1).f5.f3)) else (none))) else (none))) else (none))) else (none))) else (none)) else (none))) else (none)) = some (r1, r2) := H
            have A10 := Aside0.mk A100
            clear A100
            by_cases c11 : x5_1.size + t211.size ≤ 9223372036854775807
            · rw [if_pos c11] at H
              have c11b0 := eq_true c11
              have c11b1 : decide (x5_1.size + t211.size ≤ 9223372036854775807) = true := decide_eq_true c11
              try have c11b2 : (9223372036854775807 < x5_1.size + t211.size) = False := eq_false (Nat.not_lt.2 c11)
              try have c11b3 := c11
              try simp only [ByteArray.size_append] at c11b3
              try have c11b4 := Nat.not_lt.2 c11b3
              try simp only [show ∀ (a b : UInt8), (⟨#[a, b]⟩ : ByteArray).size = 2 from fun _ _ => rfl, show ∀ (a : UInt8), (⟨#[a]⟩ : ByteArray).size = 1 from fun _ => rfl, Nat.reduceLeDiff] at c11b3
              replace H := Option.bind_eq_some_iff.mp H
              obtain ⟨t212, A120, H⟩ := H
              replace H : (if (x5_1 ++ t211).size + t212.size ≤ 9223372036854775807 then (if ((x5_1 ++ t211) ++ t212).size + t209.size ≤ 9223372036854775807 then ((copydeskref03_number.f k1 ((rd_T26 l0 x6_1).f3)).bind fun t213 => (if (((x5_1 ++ t211) ++ t212) ++ t209).size + t213.size ≤ 9223372036854775807 then ((copydeskref03_number.f k1 ((rd_T26 l0 x6_1).f4)).bind fun t214 => (if ((((x5_1 ++ t211) ++ t212) ++ t209) ++ t213).size + t214.size ≤ 9223372036854775807 then ((copydeskref03_number.f k1 ((rd_T26 l0 x6_1).f5.f0)).bind fun t215 => (if (((((x5_1 ++ t211) ++ t212) ++ t209) ++ t213) ++ t214).size + t215.size ≤ 9223372036854775807 then ((copydeskref03_number.f k1 (((rd_T26 l0 x6_1).f5.f1).length : Int)).bind fun t216 => (if ((((((x5_1 ++ t211) ++ t212) ++ t209) ++ t213) ++ t214) ++ t215).size + t216.size ≤ 9223372036854775807 then (copydeskref03_Encode.l1 k1 l0 (((((((x5_1 ++ t211) ++ t212) ++ t209) ++ t213) ++ t214) ++ t215) ++ t216) x6_1 0 ((rd_T26 l0 x6_1).f0) ((rd_T26 l0 x6_1).f1) ((rd_T26 l0 x6_1).f2) ((rd_T26 l0 x6_1).f3) ((rd_T26 l0 x6_1).f4) ((rd_T26 l0 x6_1).f5.f0) ((rd_T26 l0 x6_1).f5.f1) ((rd_T26 l0 x6_1).f5.f2) ((rd_T26 l0 x6_1).f5.f3)) else (none))) else (none))) else (none))) else (none))) else (none)) else (none)) = some (r1, r2) := H
              have A12 := Aside0.mk A120
              clear A120
              by_cases c13 : (x5_1 ++ t211).size + t212.size ≤ 9223372036854775807
              · rw [if_pos c13] at H
                have c13b0 := eq_true c13
                have c13b1 : decide ((x5_1 ++ t211).size + t212.size ≤ 9223372036854775807) = true := decide_eq_true c13
                try have c13b2 : (9223372036854775807 < (x5_1 ++ t211).size + t212.size) = False := eq_false (Nat.not_lt.2 c13)
                try have c13b3 := c13
                try simp only [ByteArray.size_append] at c13b3
                try have c13b4 := Nat.not_lt.2 c13b3
                try simp only [show ∀ (a b : UInt8), (⟨#[a, b]⟩ : ByteArray).size = 2 from fun _ _ => rfl, show ∀ (a : UInt8), (⟨#[a]⟩ : ByteArray).size = 1 from fun _ => rfl, Nat.reduceLeDiff] at c13b3
                by_cases c14 : ((x5_1 ++ t211) ++ t212).size + t209.size ≤ 9223372036854775807
                · rw [if_pos c14] at H
                  have c14b0 := eq_true c14
                  have c14b1 : decide (((x5_1 ++ t211) ++ t212).size + t209.size ≤ 9223372036854775807) = true := decide_eq_true c14
                  try have c14b2 : (9223372036854775807 < ((x5_1 ++ t211) ++ t212).size + t209.size) = False := eq_false (Nat.not_lt.2 c14)
                  try have c14b3 := c14
                  try simp only [ByteArray.size_append] at c14b3
                  try have c14b4 := Nat.not_lt.2 c14b3
                  try simp only [show ∀ (a b : UInt8), (⟨#[a, b]⟩ : ByteArray).size = 2 from fun _ _ => rfl, show ∀ (a : UInt8), (⟨#[a]⟩ : ByteArray).size = 1 from fun _ => rfl, Nat.reduceLeDiff] at c14b3
                  replace H := Option.bind_eq_some_iff.mp H
                  obtain ⟨t213, A150, H⟩ := H
                  replace H : (if (((x5_1 ++ t211) ++ t212) ++ t209).size + t213.size ≤ 9223372036854775807 then ((copydeskref03_number.f k1 ((rd_T26 l0 x6_1).f4)).bind fun t214 => (if ((((x5_1 ++ t211) ++ t212) ++ t209) ++ t213).size + t214.size ≤ 9223372036854775807 then ((copydeskref03_number.f k1 ((rd_T26 l0 x6_1).f5.f0)).bind fun t215 => (if (((((x5_1 ++ t211) ++ t212) ++ t209) ++ t213) ++ t214).size + t215.size ≤ 9223372036854775807 then ((copydeskref03_number.f k1 (((rd_T26 l0 x6_1).f5.f1).length : Int)).bind fun t216 => (if ((((((x5_1 ++ t211) ++ t212) ++ t209) ++ t213) ++ t214) ++ t215).size + t216.size ≤ 9223372036854775807 then (copydeskref03_Encode.l1 k1 l0 (((((((x5_1 ++ t211) ++ t212) ++ t209) ++ t213) ++ t214) ++ t215) ++ t216) x6_1 0 ((rd_T26 l0 x6_1).f0) ((rd_T26 l0 x6_1).f1) ((rd_T26 l0 x6_1).f2) ((rd_T26 l0 x6_1).f3) ((rd_T26 l0 x6_1).f4) ((rd_T26 l0 x6_1).f5.f0) ((rd_T26 l0 x6_1).f5.f1) ((rd_T26 l0 x6_1).f5.f2) ((rd_T26 l0 x6_1).f5.f3)) else (none))) else (none))) else (none))) else (none)) = some (r1, r2) := H
                  have A15 := Aside0.mk A150
                  clear A150
                  by_cases c16 : (((x5_1 ++ t211) ++ t212) ++ t209).size + t213.size ≤ 9223372036854775807
                  · rw [if_pos c16] at H
                    have c16b0 := eq_true c16
                    have c16b1 : decide ((((x5_1 ++ t211) ++ t212) ++ t209).size + t213.size ≤ 9223372036854775807) = true := decide_eq_true c16
                    try have c16b2 : (9223372036854775807 < (((x5_1 ++ t211) ++ t212) ++ t209).size + t213.size) = False := eq_false (Nat.not_lt.2 c16)
                    try have c16b3 := c16
                    try simp only [ByteArray.size_append] at c16b3
                    try have c16b4 := Nat.not_lt.2 c16b3
                    try simp only [show ∀ (a b : UInt8), (⟨#[a, b]⟩ : ByteArray).size = 2 from fun _ _ => rfl, show ∀ (a : UInt8), (⟨#[a]⟩ : ByteArray).size = 1 from fun _ => rfl, Nat.reduceLeDiff] at c16b3
                    replace H := Option.bind_eq_some_iff.mp H
                    obtain ⟨t214, A170, H⟩ := H
                    replace H : (if ((((x5_1 ++ t211) ++ t212) ++ t209) ++ t213).size + t214.size ≤ 9223372036854775807 then ((copydeskref03_number.f k1 ((rd_T26 l0 x6_1).f5.f0)).bind fun t215 => (if (((((x5_1 ++ t211) ++ t212) ++ t209) ++ t213) ++ t214).size + t215.size ≤ 9223372036854775807 then ((copydeskref03_number.f k1 (((rd_T26 l0 x6_1).f5.f1).length : Int)).bind fun t216 => (if ((((((x5_1 ++ t211) ++ t212) ++ t209) ++ t213) ++ t214) ++ t215).size + t216.size ≤ 9223372036854775807 then (copydeskref03_Encode.l1 k1 l0 (((((((x5_1 ++ t211) ++ t212) ++ t209) ++ t213) ++ t214) ++ t215) ++ t216) x6_1 0 ((rd_T26 l0 x6_1).f0) ((rd_T26 l0 x6_1).f1) ((rd_T26 l0 x6_1).f2) ((rd_T26 l0 x6_1).f3) ((rd_T26 l0 x6_1).f4) ((rd_T26 l0 x6_1).f5.f0) ((rd_T26 l0 x6_1).f5.f1) ((rd_T26 l0 x6_1).f5.f2) ((rd_T26 l0 x6_1).f5.f3)) else (none))) else (none))) else (none)) = some (r1, r2) := H
                    have A17 := Aside0.mk A170
                    clear A170
                    by_cases c18 : ((((x5_1 ++ t211) ++ t212) ++ t209) ++ t213).size + t214.size ≤ 9223372036854775807
                    · rw [if_pos c18] at H
                      have c18b0 := eq_true c18
                      have c18b1 : decide (((((x5_1 ++ t211) ++ t212) ++ t209) ++ t213).size + t214.size ≤ 9223372036854775807) = true := decide_eq_true c18
                      try have c18b2 : (9223372036854775807 < ((((x5_1 ++ t211) ++ t212) ++ t209) ++ t213).size + t214.size) = False := eq_false (Nat.not_lt.2 c18)
                      try have c18b3 := c18
                      try simp only [ByteArray.size_append] at c18b3
                      try have c18b4 := Nat.not_lt.2 c18b3
                      try simp only [show ∀ (a b : UInt8), (⟨#[a, b]⟩ : ByteArray).size = 2 from fun _ _ => rfl, show ∀ (a : UInt8), (⟨#[a]⟩ : ByteArray).size = 1 from fun _ => rfl, Nat.reduceLeDiff] at c18b3
                      replace H := Option.bind_eq_some_iff.mp H
                      obtain ⟨t215, A190, H⟩ := H
                      replace H : (if (((((x5_1 ++ t211) ++ t212) ++ t209) ++ t213) ++ t214).size + t215.size ≤ 9223372036854775807 then ((copydeskref03_number.f k1 (((rd_T26 l0 x6_1).f5.f1).length : Int)).bind fun t216 => (if ((((((x5_1 ++ t211) ++ t212) ++ t209) ++ t213) ++ t214) ++ t215).size + t216.size ≤ 9223372036854775807 then (copydeskref03_Encode.l1 k1 l0 (((((((x5_1 ++ t211) ++ t212) ++ t209) ++ t213) ++ t214) ++ t215) ++ t216) x6_1 0 ((rd_T26 l0 x6_1).f0) ((rd_T26 l0 x6_1).f1) ((rd_T26 l0 x6_1).f2) ((rd_T26 l0 x6_1).f3) ((rd_T26 l0 x6_1).f4) ((rd_T26 l0 x6_1).f5.f0) ((rd_T26 l0 x6_1).f5.f1) ((rd_T26 l0 x6_1).f5.f2) ((rd_T26 l0 x6_1).f5.f3)) else (none))) else (none)) = some (r1, r2) := H
                      have A19 := Aside0.mk A190
                      clear A190
                      by_cases c20 : (((((x5_1 ++ t211) ++ t212) ++ t209) ++ t213) ++ t214).size + t215.size ≤ 9223372036854775807
                      · rw [if_pos c20] at H
                        have c20b0 := eq_true c20
                        have c20b1 : decide ((((((x5_1 ++ t211) ++ t212) ++ t209) ++ t213) ++ t214).size + t215.size ≤ 9223372036854775807) = true := decide_eq_true c20
                        try have c20b2 : (9223372036854775807 < (((((x5_1 ++ t211) ++ t212) ++ t209) ++ t213) ++ t214).size + t215.size) = False := eq_false (Nat.not_lt.2 c20)
                        try have c20b3 := c20
                        try simp only [ByteArray.size_append] at c20b3
                        try have c20b4 := Nat.not_lt.2 c20b3
                        try simp only [show ∀ (a b : UInt8), (⟨#[a, b]⟩ : ByteArray).size = 2 from fun _ _ => rfl, show ∀ (a : UInt8), (⟨#[a]⟩ : ByteArray).size = 1 from fun _ => rfl, Nat.reduceLeDiff] at c20b3
                        replace H := Option.bind_eq_some_iff.mp H
                        obtain ⟨t216, A210, H⟩ := H
                        replace H : (if ((((((x5_1 ++ t211) ++ t212) ++ t209) ++ t213) ++ t214) ++ t215).size + t216.size ≤ 9223372036854775807 then (copydeskref03_Encode.l1 k1 l0 (((((((x5_1 ++ t211) ++ t212) ++ t209) ++ t213) ++ t214) ++ t215) ++ t216) x6_1 0 ((rd_T26 l0 x6_1).f0) ((rd_T26 l0 x6_1).f1) ((rd_T26 l0 x6_1).f2) ((rd_T26 l0 x6_1).f3) ((rd_T26 l0 x6_1).f4) ((rd_T26 l0 x6_1).f5.f0) ((rd_T26 l0 x6_1).f5.f1) ((rd_T26 l0 x6_1).f5.f2) ((rd_T26 l0 x6_1).f5.f3)) else (none)) = some (r1, r2) := H
                        have A21 := Aside0.mk A210
                        clear A210
                        by_cases c22 : ((((((x5_1 ++ t211) ++ t212) ++ t209) ++ t213) ++ t214) ++ t215).size + t216.size ≤ 9223372036854775807
                        · rw [if_pos c22] at H
                          have c22b0 := eq_true c22
                          have c22b1 : decide (((((((x5_1 ++ t211) ++ t212) ++ t209) ++ t213) ++ t214) ++ t215).size + t216.size ≤ 9223372036854775807) = true := decide_eq_true c22
                          try have c22b2 : (9223372036854775807 < ((((((x5_1 ++ t211) ++ t212) ++ t209) ++ t213) ++ t214) ++ t215).size + t216.size) = False := eq_false (Nat.not_lt.2 c22)
                          try have c22b3 := c22
                          try simp only [ByteArray.size_append] at c22b3
                          try have c22b4 := Nat.not_lt.2 c22b3
                          try simp only [show ∀ (a b : UInt8), (⟨#[a, b]⟩ : ByteArray).size = 2 from fun _ _ => rfl, show ∀ (a : UInt8), (⟨#[a]⟩ : ByteArray).size = 1 from fun _ => rfl, Nat.reduceLeDiff] at c22b3
                          have H' := Aside0.mk H
                          clear H
                          have p207 : 0 ≤ (x6_1 : Int) := of_decide_eq_true (by first | (with_reducible assumption) | assumption)
                          have q207 : x6_1 < (l0.length : Int) := of_decide_eq_true (by first | (with_reducible assumption) | assumption)
                          obtain ⟨ad207, A207_6, c207_6, e207, hx207_0, hx207_1, hx207_2, hx207_3, hx207_4, hx207_5, hx207_6, hx207_7, hx207_8, hl207_6, hi207_6⟩ := at_T26 HR0.out x6_1 p207 q207
                          cases e207
                          replace hx207_0 := (HB.out.cell (World.block_lt_of_cell? w _ hx207_0)).trans hx207_0
                          replace hx207_1 := (HB.out.cell (World.block_lt_of_cell? w _ hx207_1)).trans hx207_1
                          replace hx207_2 := (HB.out.cell (World.block_lt_of_cell? w _ hx207_2)).trans hx207_2
                          replace hx207_3 := (HB.out.cell (World.block_lt_of_cell? w _ hx207_3)).trans hx207_3
                          replace hx207_4 := (HB.out.cell (World.block_lt_of_cell? w _ hx207_4)).trans hx207_4
                          replace hx207_5 := (HB.out.cell (World.block_lt_of_cell? w _ hx207_5)).trans hx207_5
                          replace hx207_6 := (HB.out.cell (World.block_lt_of_cell? w _ hx207_6)).trans hx207_6
                          replace hx207_7 := (HB.out.cell (World.block_lt_of_cell? w _ hx207_7)).trans hx207_7
                          replace hx207_8 := (HB.out.cell (World.block_lt_of_cell? w _ hx207_8)).trans hx207_8
                          have HR207_6 := Aside0.mk hi207_6
                          have HC207_6 := Aside0.mk hl207_6
                          clear hi207_6 hl207_6
                          replace p207 := eq_true p207
                          replace q207 := eq_true q207
                          try go_wp2_with (first | ((with_reducible refine gate_dst (N := 7) rfl ?_); refine box_event ?hg (N := 7) ?hd (cs := #[.int .i64 0, .int .i64 0, .string (⟨#[]⟩ : ByteArray), .int .i64 0, .int .i64 0, .int .i64 0, .slice none 0 0, .int .i64 0, .int .i64 0]) (t := 26) ?hr ?_; (case hd => rfl); (case hg => rfl); (case hr => first | (go_simp; done) | (go_simp; rfl)); intro gb208 hg w23 hbox hb; have n0_ := Aside0.mk (below_step (by repeat (first | (with_reducible first | exact HB.out | apply below_alloc | apply pw_below_drewN | apply below_drew1) | exact HB.out)) hb); have n1_ := Aside0.mk (hbox); have n2_ := Aside0.mk ((by rw [hg]; exact (below_size (by repeat (first | (with_reducible first | exact HB.out | apply below_alloc | apply pw_below_drewN | apply below_drew1) | exact HB.out))) : w.heap.size ≤ gb208)); have n3_ := Aside0.mk ((by rw [hg]; exact (below_size (by repeat (first | (with_reducible first | exact HB.out | apply below_alloc | apply pw_below_drewN | apply below_drew1) | exact HB.out))) : w.heap.size ≤ gb208)); clear HB; have HB := n0_; have BK208 := n1_; have GW208 := n2_; have GE208 := n3_; clear n0_ n1_ n2_ n3_; clear hb hbox hg; have hcz24_0 : w23.cell? ⟨gb208, 0, none⟩ = some (.int .i64 0) := (blk_cell BK208.out 0).trans rfl; have hcz24_1 : w23.cell? ⟨gb208, 1, none⟩ = some (.int .i64 0) := (blk_cell BK208.out 1).trans rfl; have hcz24_2 : w23.cell? ⟨gb208, 2, none⟩ = some (.string (⟨#[]⟩ : ByteArray)) := (blk_cell BK208.out 2).trans rfl; have hcz24_3 : w23.cell? ⟨gb208, 3, none⟩ = some (.int .i64 0) := (blk_cell BK208.out 3).trans rfl; have hcz24_4 : w23.cell? ⟨gb208, 4, none⟩ = some (.int .i64 0) := (blk_cell BK208.out 4).trans rfl; have hcz24_5 : w23.cell? ⟨gb208, 5, none⟩ = some (.int .i64 0) := (blk_cell BK208.out 5).trans rfl; have hcz24_6 : w23.cell? ⟨gb208, 6, none⟩ = some (.slice none 0 0) := (blk_cell BK208.out 6).trans rfl; have hcz24_7 : w23.cell? ⟨gb208, 7, none⟩ = some (.int .i64 0) := (blk_cell BK208.out 7).trans rfl; have hcz24_8 : w23.cell? ⟨gb208, 8, none⟩ = some (.int .i64 0) := (blk_cell BK208.out 8).trans rfl; have hfz24_0 := blk_frozen BK208.out 0; have hfz24_1 := blk_frozen BK208.out 1; have hfz24_2 := blk_frozen BK208.out 2; have hfz24_3 := blk_frozen BK208.out 3; have hfz24_4 := blk_frozen BK208.out 4; have hfz24_5 := blk_frozen BK208.out 5; have hfz24_6 := blk_frozen BK208.out 6; have hfz24_7 := blk_frozen BK208.out 7; have hfz24_8 := blk_frozen BK208.out 8) | ((with_reducible refine gate_callee (f := 56) rfl ?_); refine goesL_ (some 31) rfl rfl Tryd.func56 (by kernel_rfl) rfl #[.string ((rd_T26 l0 x6_1).f2)] rfl (by (try simp only [List.map_toArray, List.map_cons, List.map_nil]); first | done | rfl | (simp only [List.length_drop, List.length_take]; rfl)) ?_; (with_reducible refine (copydeskref01_PutString.calls k1 ((rd_T26 l0 x6_1).f2) t209 t210 _ A9.out).mono ?_); rintro e w25 ⟨rfl, hb⟩; refine ⟨_, rfl, ?_⟩; have n0_ := Aside0.mk (blk_below (g := gb208) (o := .cells #[.int .i64 ((rd_T26 l0 x6_1).f0), .int .i64 ((rd_T26 l0 x6_1).f1), .string ((rd_T26 l0 x6_1).f2), .int .i64 ((rd_T26 l0 x6_1).f3), .int .i64 ((rd_T26 l0 x6_1).f4), .int .i64 ((rd_T26 l0 x6_1).f5.f0), .slice A207_6 ((rd_T26 l0 x6_1).f5.f1).length c207_6, .int .i64 ((rd_T26 l0 x6_1).f5.f2), .int .i64 ((rd_T26 l0 x6_1).f5.f3)] 26 (0, 0)) (by (with_reducible repeat (first | refine blk_drewN ?_ _ | refine blk_drew ?_ | refine blk_alloc ?_ _)); refine blk_put (cs := #[.int .i64 ((rd_T26 l0 x6_1).f0), .int .i64 ((rd_T26 l0 x6_1).f1), .string ((rd_T26 l0 x6_1).f2), .int .i64 ((rd_T26 l0 x6_1).f3), .int .i64 ((rd_T26 l0 x6_1).f4), .int .i64 ((rd_T26 l0 x6_1).f5.f0), .slice A207_6 ((rd_T26 l0 x6_1).f5.f1).length c207_6, .int .i64 ((rd_T26 l0 x6_1).f5.f2), .int .i64 0]) ?_ 8 _ rfl; (with_reducible repeat (first | refine blk_drewN ?_ _ | refine blk_drew ?_ | refine blk_alloc ?_ _)); refine blk_put (cs := #[.int .i64 ((rd_T26 l0 x6_1).f0), .int .i64 ((rd_T26 l0 x6_1).f1), .string ((rd_T26 l0 x6_1).f2), .int .i64 ((rd_T26 l0 x6_1).f3), .int .i64 ((rd_T26 l0 x6_1).f4), .int .i64 ((rd_T26 l0 x6_1).f5.f0), .slice A207_6 ((rd_T26 l0 x6_1).f5.f1).length c207_6, .int .i64 0, .int .i64 0]) ?_ 7 _ rfl; (with_reducible repeat (first | refine blk_drewN ?_ _ | refine blk_drew ?_ | refine blk_alloc ?_ _)); refine blk_put (cs := #[.int .i64 ((rd_T26 l0 x6_1).f0), .int .i64 ((rd_T26 l0 x6_1).f1), .string ((rd_T26 l0 x6_1).f2), .int .i64 ((rd_T26 l0 x6_1).f3), .int .i64 ((rd_T26 l0 x6_1).f4), .int .i64 ((rd_T26 l0 x6_1).f5.f0), .slice none 0 0, .int .i64 0, .int .i64 0]) ?_ 6 _ rfl; (with_reducible repeat (first | refine blk_drewN ?_ _ | refine blk_drew ?_ | refine blk_alloc ?_ _)); refine blk_put (cs := #[.int .i64 ((rd_T26 l0 x6_1).f0), .int .i64 ((rd_T26 l0 x6_1).f1), .string ((rd_T26 l0 x6_1).f2), .int .i64 ((rd_T26 l0 x6_1).f3), .int .i64 ((rd_T26 l0 x6_1).f4), .int .i64 0, .slice none 0 0, .int .i64 0, .int .i64 0]) ?_ 5 _ rfl; (with_reducible repeat (first | refine blk_drewN ?_ _ | refine blk_drew ?_ | refine blk_alloc ?_ _)); refine blk_put (cs := #[.int .i64 ((rd_T26 l0 x6_1).f0), .int .i64 ((rd_T26 l0 x6_1).f1), .string ((rd_T26 l0 x6_1).f2), .int .i64 ((rd_T26 l0 x6_1).f3), .int .i64 0, .int .i64 0, .slice none 0 0, .int .i64 0, .int .i64 0]) ?_ 4 _ rfl; (with_reducible repeat (first | refine blk_drewN ?_ _ | refine blk_drew ?_ | refine blk_alloc ?_ _)); refine blk_put (cs := #[.int .i64 ((rd_T26 l0 x6_1).f0), .int .i64 ((rd_T26 l0 x6_1).f1), .string ((rd_T26 l0 x6_1).f2), .int .i64 0, .int .i64 0, .int .i64 0, .slice none 0 0, .int .i64 0, .int .i64 0]) ?_ 3 _ rfl; (with_reducible repeat (first | refine blk_drewN ?_ _ | refine blk_drew ?_ | refine blk_alloc ?_ _)); refine blk_put (cs := #[.int .i64 ((rd_T26 l0 x6_1).f0), .int .i64 ((rd_T26 l0 x6_1).f1), .string (⟨#[]⟩ : ByteArray), .int .i64 0, .int .i64 0, .int .i64 0, .slice none 0 0, .int .i64 0, .int .i64 0]) ?_ 2 _ rfl; (with_reducible repeat (first | refine blk_drewN ?_ _ | refine blk_drew ?_ | refine blk_alloc ?_ _)); refine blk_put (cs := #[.int .i64 ((rd_T26 l0 x6_1).f0), .int .i64 0, .string (⟨#[]⟩ : ByteArray), .int .i64 0, .int .i64 0, .int .i64 0, .slice none 0 0, .int .i64 0, .int .i64 0]) ?_ 1 _ rfl; (with_reducible repeat (first | refine blk_drewN ?_ _ | refine blk_drew ?_ | refine blk_alloc ?_ _)); refine blk_put (cs := #[.int .i64 0, .int .i64 0, .string (⟨#[]⟩ : ByteArray), .int .i64 0, .int .i64 0, .int .i64 0, .slice none 0 0, .int .i64 0, .int .i64 0]) ?_ 0 _ rfl; (with_reducible repeat (first | refine blk_drewN ?_ _ | refine blk_drew ?_ | refine blk_alloc ?_ _)); exact BK208.out) hb); have n1_ := Aside0.mk (below_step (by repeat (first | (with_reducible first | exact HB.out | apply below_alloc | apply pw_below_drewN | apply below_drew1 | refine below_set ?_ GE208.out) | exact HB.out)) hb); clear BK208; clear HB; have BK208 := n0_; have HB := n1_; clear n0_ n1_; (try clear hb); (try clear hb2); (try clear hk); (try clear hi)))
                          have n0_ := Aside0.mk (blk_drew BK208.out)
                          have n1_ := Aside0.mk (below_drew1 HB.out)
                          clear BK208
                          clear HB
                          have BK208 := n0_
                          have HB := n1_
                          clear n0_ n1_
                          refine start_ (n := 20) (S := fun w' => w'.cell? ⟨gb208, 0, none⟩ = some (.int .i64 ((rd_T26 l0 x6_1).f0)) ∧ w'.cell? ⟨gb208, 1, none⟩ = some (.int .i64 ((rd_T26 l0 x6_1).f1)) ∧ w'.cell? ⟨gb208, 2, none⟩ = some (.string ((rd_T26 l0 x6_1).f2)) ∧ w'.cell? ⟨gb208, 3, none⟩ = some (.int .i64 ((rd_T26 l0 x6_1).f3)) ∧ w'.cell? ⟨gb208, 4, none⟩ = some (.int .i64 ((rd_T26 l0 x6_1).f4)) ∧ w'.cell? ⟨gb208, 5, none⟩ = some (.int .i64 ((rd_T26 l0 x6_1).f5.f0)) ∧ w'.cell? ⟨gb208, 6, none⟩ = some (.slice A207_6 ((rd_T26 l0 x6_1).f5.f1).length c207_6) ∧ w'.cell? ⟨gb208, 7, none⟩ = some (.int .i64 ((rd_T26 l0 x6_1).f5.f2)) ∧ w'.cell? ⟨gb208, 8, none⟩ = some (.int .i64 ((rd_T26 l0 x6_1).f5.f3))) (ds := []) #[false, false, false, false, false, false, false, false, false, false, false, false, false, false, false, false, false, false, false, false] (by kernel_rfl) rfl rfl ⟨(blk_cell BK208.out 0).trans rfl, (blk_cell BK208.out 1).trans rfl, (blk_cell BK208.out 2).trans rfl, (blk_cell BK208.out 3).trans rfl, (blk_cell BK208.out 4).trans rfl, (blk_cell BK208.out 5).trans rfl, (blk_cell BK208.out 6).trans rfl, (blk_cell BK208.out 7).trans rfl, (blk_cell BK208.out 8).trans rfl⟩ (fun hHeld => ?_); refine with_tabW copydeskref03_Encode.tab10 copydeskref03_Encode.bits10 (fun HT_ HW_ => ?_)
                          generalize w25.drew = w26 at BK208 HB hHeld ⊢
                          refine pure_ (i := 0) (N := some 34) (v := ?_) (a' := ?_) #[true, false, false, false, false, false, false, false, false, false, false, false, false, false, false, false, false, false, false, false] rfl rfl (any_of HT_.out (by kernel_rfl)) (fun _ _ _ h => h) (Or.inl ⟨by rfl, ?_⟩) ?_ ?_
                          rotate_left
                          · intro w'
                            go_simp
                            with_reducible rfl
                          rotate_left
                          · simp only [Act.put, List.setIfInBounds_toArray, List.set_cons_zero, List.set_cons_succ, i64_w, i32_w]
                            rfl
                          refine pure_ (i := 1) (N := some 35) (v := ?_) (a' := ?_) #[true, true, false, false, false, false, false, false, false, false, false, false, false, false, false, false, false, false, false, false] rfl rfl (any_of HT_.out (by kernel_rfl)) (fun _ _ _ h => h) (Or.inl ⟨by rfl, ?_⟩) ?_ ?_
                          rotate_left
                          · intro w'
                            go_simp
                            with_reducible rfl
                          rotate_left
                          · simp only [Act.put, List.setIfInBounds_toArray, List.set_cons_zero, List.set_cons_succ, i64_w, i32_w]
                            rfl
                          refine pure_ (i := 5) (N := some 39) (v := ?_) (a' := ?_) #[true, true, false, false, false, true, false, false, false, false, false, false, false, false, false, false, false, false, false, false] rfl rfl (any_of HT_.out (by kernel_rfl)) (fun _ _ _ h => h) (Or.inl ⟨by rfl, ?_⟩) ?_ ?_
                          rotate_left
                          · intro w'
                            go_simp
                            with_reducible rfl
                          rotate_left
                          · simp only [Act.put, List.setIfInBounds_toArray, List.set_cons_zero, List.set_cons_succ, i64_w, i32_w]
                            rfl
                          refine pure_ (i := 9) (N := some 43) (v := ?_) (a' := ?_) #[true, true, false, false, false, true, false, false, false, true, false, false, false, false, false, false, false, false, false, false] rfl rfl (any_of HT_.out (by kernel_rfl)) (fun _ _ _ h => h) (Or.inl ⟨by rfl, ?_⟩) ?_ ?_
                          rotate_left
                          · intro w'
                            go_simp
                            with_reducible rfl
                          rotate_left
                          · simp only [Act.put, List.setIfInBounds_toArray, List.set_cons_zero, List.set_cons_succ, i64_w, i32_w]
                            rfl
                          refine pure_ (i := 11) (N := some 45) (v := ?_) (a' := ?_) #[true, true, false, false, false, true, false, false, false, true, false, true, false, false, false, false, false, false, false, false] rfl rfl (any_of HT_.out (by kernel_rfl)) (fun _ _ _ h => h) (Or.inl ⟨by rfl, ?_⟩) ?_ ?_
                          rotate_left
                          · intro w'
                            go_simp
                            with_reducible rfl
                          rotate_left
                          · simp only [Act.put, List.setIfInBounds_toArray, List.set_cons_zero, List.set_cons_succ, i64_w, i32_w]
                            rfl
                          refine pure_ (i := 15) (N := some 49) (v := ?_) (a' := ?_) #[true, true, false, false, false, true, false, false, false, true, false, true, false, false, false, true, false, false, false, false] rfl rfl (any_of HT_.out (by kernel_rfl)) (fun _ _ _ h => h) (Or.inl ⟨by rfl, ?_⟩) ?_ ?_
                          rotate_left
                          · intro w'
                            go_simp
                            with_reducible rfl
                          rotate_left
                          · simp only [Act.put, List.setIfInBounds_toArray, List.set_cons_zero, List.set_cons_succ, i64_w, i32_w]
                            rfl
                          refine take_ (i := 2) (N := some 36) (v := ?_) (a' := ?_) #[true, true, true, false, false, true, false, false, false, true, false, true, false, false, false, true, false, false, false, false] rfl rfl (take_ofW HT_.out HW_.out (by kernel_rfl)) (fun _ _ _ h => h) (Or.inl ⟨by rfl, ?_⟩) hHeld ?_ ?_
                          rotate_left
                          · rintro w' ⟨s0, s1, s2, s3, s4, s5, s6, s7, s8⟩
                            go_simp
                            with_reducible rfl
                          rotate_left
                          · simp only [Act.put, List.setIfInBounds_toArray, List.set_cons_zero, List.set_cons_succ, i64_w, i32_w]
                            rfl
                          refine take_ (i := 6) (N := some 40) (v := ?_) (a' := ?_) #[true, true, true, false, false, true, true, false, false, true, false, true, false, false, false, true, false, false, false, false] rfl rfl (take_ofW HT_.out HW_.out (by kernel_rfl)) (fun _ _ _ h => h) (Or.inl ⟨by rfl, ?_⟩) hHeld ?_ ?_
                          rotate_left
                          · rintro w' ⟨s0, s1, s2, s3, s4, s5, s6, s7, s8⟩
                            go_simp
                            with_reducible rfl
                          rotate_left
                          · simp only [Act.put, List.setIfInBounds_toArray, List.set_cons_zero, List.set_cons_succ, i64_w, i32_w]
                            rfl
                          refine take_ (i := 12) (N := some 46) (v := ?_) (a' := ?_) #[true, true, true, false, false, true, true, false, false, true, false, true, true, false, false, true, false, false, false, false] rfl rfl (take_ofW HT_.out HW_.out (by kernel_rfl)) (fun _ _ _ h => h) (Or.inl ⟨by rfl, ?_⟩) hHeld ?_ ?_
                          rotate_left
                          · rintro w' ⟨s0, s1, s2, s3, s4, s5, s6, s7, s8⟩
                            go_simp
                            with_reducible rfl
                          rotate_left
                          · simp only [Act.put, List.setIfInBounds_toArray, List.set_cons_zero, List.set_cons_succ, i64_w, i32_w]
                            rfl
                          refine take_ (i := 16) (N := some 50) (v := ?_) (a' := ?_) #[true, true, true, false, false, true, true, false, false, true, false, true, true, false, false, true, true, false, false, false] rfl rfl (take_ofW HT_.out HW_.out (by kernel_rfl)) (fun _ _ _ h => h) (Or.inl ⟨by rfl, ?_⟩) hHeld ?_ ?_
                          rotate_left
                          · rintro w' ⟨s0, s1, s2, s3, s4, s5, s6, s7, s8⟩
                            go_simp
                            with_reducible rfl
                          rotate_left
                          · simp only [Act.put, List.setIfInBounds_toArray, List.set_cons_zero, List.set_cons_succ, i64_w, i32_w]
                            rfl
                          refine one_ (i := 3) (N := some 37) #[true, true, true, true, false, true, true, false, false, true, false, true, true, false, false, true, true, false, false, false] rfl rfl (one_of HT_.out (by kernel_rfl)) (by decide) (fun K hK => ?_)
                          refine goes_ Tryd.func55 (by kernel_rfl) rfl #[.int .i64 ((rd_T26 l0 x6_1).f0)] (by rfl) rfl rfl (by (try simp only [List.map_toArray, List.map_cons, List.map_nil]); first | done | rfl | (simp only [List.length_drop, List.length_take]; rfl)) ?_
                          with_reducible refine (copydeskref03_number.calls k1 ((rd_T26 l0 x6_1).f0) t211 _ A10.out).mono ?_
                          rintro e w27 ⟨rfl, hb⟩
                          refine ⟨_, rfl, ?_⟩
                          have n0_ := Aside0.mk (blk_below (g := gb208) (o := .cells #[.int .i64 ((rd_T26 l0 x6_1).f0), .int .i64 ((rd_T26 l0 x6_1).f1), .string ((rd_T26 l0 x6_1).f2), .int .i64 ((rd_T26 l0 x6_1).f3), .int .i64 ((rd_T26 l0 x6_1).f4), .int .i64 ((rd_T26 l0 x6_1).f5.f0), .slice A207_6 ((rd_T26 l0 x6_1).f5.f1).length c207_6, .int .i64 ((rd_T26 l0 x6_1).f5.f2), .int .i64 ((rd_T26 l0 x6_1).f5.f3)] 26 (0, 0)) (by (with_reducible repeat (first | refine blk_drewN ?_ _ | refine blk_drew ?_ | refine blk_alloc ?_ _)); exact BK208.out) hb)
                          have n1_ := Aside0.mk (below_step (by repeat (first | (with_reducible first | exact HB.out | apply below_alloc | apply pw_below_drewN | apply below_drew1 | refine below_set ?_ GE208.out) | exact HB.out)) hb)
                          clear BK208
                          clear HB
                          have BK208 := n0_
                          have HB := n1_
                          clear n0_ n1_
                          (try clear hb)
                          (try clear hb2)
                          (try clear hk)
                          (try clear hi)
                          refine hK.out _ _ ⟨(blk_cell BK208.out 0).trans rfl, (blk_cell BK208.out 1).trans rfl, (blk_cell BK208.out 2).trans rfl, (blk_cell BK208.out 3).trans rfl, (blk_cell BK208.out 4).trans rfl, (blk_cell BK208.out 5).trans rfl, (blk_cell BK208.out 6).trans rfl, (blk_cell BK208.out 7).trans rfl, (blk_cell BK208.out 8).trans rfl⟩ (fun hHeld => ?_)
                          clear hK K
                          refine norm_ (a' := ?_) ?_ ?_
                          rotate_left
                          · show Act.put _ (some 37) _ = _
                            simp only [Act.put, List.setIfInBounds_toArray, List.set_cons_zero, List.set_cons_succ, i64_w, i32_w]
                            rfl
                          refine pure_ (i := 4) (N := some 38) (v := ?_) (a' := ?_) #[true, true, true, true, true, true, true, false, false, true, false, true, true, false, false, true, true, false, false, false] rfl rfl (any_of HT_.out (by kernel_rfl)) (fun _ _ _ h => h) (Or.inl ⟨by rfl, ?_⟩) ?_ ?_
                          rotate_left
                          · intro w'
                            go_simp
                            with_reducible rfl
                          rotate_left
                          · simp only [Act.put, List.setIfInBounds_toArray, List.set_cons_zero, List.set_cons_succ, i64_w, i32_w]
                            rfl
                          refine one_ (i := 7) (N := some 41) #[true, true, true, true, true, true, true, true, false, true, false, true, true, false, false, true, true, false, false, false] rfl rfl (one_of HT_.out (by kernel_rfl)) (by decide) (fun K hK => ?_)
                          refine goes_ Tryd.func55 (by kernel_rfl) rfl #[.int .i64 ((rd_T26 l0 x6_1).f1)] (by rfl) rfl rfl (by (try simp only [List.map_toArray, List.map_cons, List.map_nil]); first | done | rfl | (simp only [List.length_drop, List.length_take]; rfl)) ?_
                          with_reducible refine (copydeskref03_number.calls k1 ((rd_T26 l0 x6_1).f1) t212 _ A12.out).mono ?_
                          rintro e w28 ⟨rfl, hb⟩
                          refine ⟨_, rfl, ?_⟩
                          have n0_ := Aside0.mk (blk_below (g := gb208) (o := .cells #[.int .i64 ((rd_T26 l0 x6_1).f0), .int .i64 ((rd_T26 l0 x6_1).f1), .string ((rd_T26 l0 x6_1).f2), .int .i64 ((rd_T26 l0 x6_1).f3), .int .i64 ((rd_T26 l0 x6_1).f4), .int .i64 ((rd_T26 l0 x6_1).f5.f0), .slice A207_6 ((rd_T26 l0 x6_1).f5.f1).length c207_6, .int .i64 ((rd_T26 l0 x6_1).f5.f2), .int .i64 ((rd_T26 l0 x6_1).f5.f3)] 26 (0, 0)) (by (with_reducible repeat (first | refine blk_drewN ?_ _ | refine blk_drew ?_ | refine blk_alloc ?_ _)); exact BK208.out) hb)
                          have n1_ := Aside0.mk (below_step (by repeat (first | (with_reducible first | exact HB.out | apply below_alloc | apply pw_below_drewN | apply below_drew1 | refine below_set ?_ GE208.out) | exact HB.out)) hb)
                          clear BK208
                          clear HB
                          have BK208 := n0_
                          have HB := n1_
                          clear n0_ n1_
                          (try clear hb)
                          (try clear hb2)
                          (try clear hk)
                          (try clear hi)
                          refine hK.out _ _ ⟨(blk_cell BK208.out 0).trans rfl, (blk_cell BK208.out 1).trans rfl, (blk_cell BK208.out 2).trans rfl, (blk_cell BK208.out 3).trans rfl, (blk_cell BK208.out 4).trans rfl, (blk_cell BK208.out 5).trans rfl, (blk_cell BK208.out 6).trans rfl, (blk_cell BK208.out 7).trans rfl, (blk_cell BK208.out 8).trans rfl⟩ (fun hHeld => ?_)
                          clear hK K
                          refine norm_ (a' := ?_) ?_ ?_
                          rotate_left
                          · show Act.put _ (some 41) _ = _
                            simp only [Act.put, List.setIfInBounds_toArray, List.set_cons_zero, List.set_cons_succ, i64_w, i32_w]
                            rfl
                          refine pure_ (i := 8) (N := some 42) (v := ?_) (a' := ?_) #[true, true, true, true, true, true, true, true, true, true, false, true, true, false, false, true, true, false, false, false] rfl rfl (any_of HT_.out (by kernel_rfl)) (fun _ _ _ h => h) (Or.inl ⟨by rfl, ?_⟩) ?_ ?_
                          rotate_left
                          · intro w'
                            go_simp
                            with_reducible rfl
                          rotate_left
                          · simp only [Act.put, List.setIfInBounds_toArray, List.set_cons_zero, List.set_cons_succ, i64_w, i32_w]
                            rfl
                          refine pure_ (i := 10) (N := some 44) (v := ?_) (a' := ?_) #[true, true, true, true, true, true, true, true, true, true, true, true, true, false, false, true, true, false, false, false] rfl rfl (any_of HT_.out (by kernel_rfl)) (fun _ _ _ h => h) (Or.inl ⟨by rfl, ?_⟩) ?_ ?_
                          rotate_left
                          · intro w'
                            go_simp
                            with_reducible rfl
                          rotate_left
                          · simp only [Act.put, List.setIfInBounds_toArray, List.set_cons_zero, List.set_cons_succ, i64_w, i32_w]
                            rfl
                          refine one_ (i := 13) (N := some 47) #[true, true, true, true, true, true, true, true, true, true, true, true, true, true, false, true, true, false, false, false] rfl rfl (one_of HT_.out (by kernel_rfl)) (by decide) (fun K hK => ?_)
                          refine goes_ Tryd.func55 (by kernel_rfl) rfl #[.int .i64 ((rd_T26 l0 x6_1).f3)] (by rfl) rfl rfl (by (try simp only [List.map_toArray, List.map_cons, List.map_nil]); first | done | rfl | (simp only [List.length_drop, List.length_take]; rfl)) ?_
                          with_reducible refine (copydeskref03_number.calls k1 ((rd_T26 l0 x6_1).f3) t213 _ A15.out).mono ?_
                          rintro e w29 ⟨rfl, hb⟩
                          refine ⟨_, rfl, ?_⟩
                          have n0_ := Aside0.mk (blk_below (g := gb208) (o := .cells #[.int .i64 ((rd_T26 l0 x6_1).f0), .int .i64 ((rd_T26 l0 x6_1).f1), .string ((rd_T26 l0 x6_1).f2), .int .i64 ((rd_T26 l0 x6_1).f3), .int .i64 ((rd_T26 l0 x6_1).f4), .int .i64 ((rd_T26 l0 x6_1).f5.f0), .slice A207_6 ((rd_T26 l0 x6_1).f5.f1).length c207_6, .int .i64 ((rd_T26 l0 x6_1).f5.f2), .int .i64 ((rd_T26 l0 x6_1).f5.f3)] 26 (0, 0)) (by (with_reducible repeat (first | refine blk_drewN ?_ _ | refine blk_drew ?_ | refine blk_alloc ?_ _)); exact BK208.out) hb)
                          have n1_ := Aside0.mk (below_step (by repeat (first | (with_reducible first | exact HB.out | apply below_alloc | apply pw_below_drewN | apply below_drew1 | refine below_set ?_ GE208.out) | exact HB.out)) hb)
                          clear BK208
                          clear HB
                          have BK208 := n0_
                          have HB := n1_
                          clear n0_ n1_
                          (try clear hb)
                          (try clear hb2)
                          (try clear hk)
                          (try clear hi)
                          refine hK.out _ _ ⟨(blk_cell BK208.out 0).trans rfl, (blk_cell BK208.out 1).trans rfl, (blk_cell BK208.out 2).trans rfl, (blk_cell BK208.out 3).trans rfl, (blk_cell BK208.out 4).trans rfl, (blk_cell BK208.out 5).trans rfl, (blk_cell BK208.out 6).trans rfl, (blk_cell BK208.out 7).trans rfl, (blk_cell BK208.out 8).trans rfl⟩ (fun hHeld => ?_)
                          clear hK K
                          refine norm_ (a' := ?_) ?_ ?_
                          rotate_left
                          · show Act.put _ (some 47) _ = _
                            simp only [Act.put, List.setIfInBounds_toArray, List.set_cons_zero, List.set_cons_succ, i64_w, i32_w]
                            rfl
                          refine pure_ (i := 14) (N := some 48) (v := ?_) (a' := ?_) #[true, true, true, true, true, true, true, true, true, true, true, true, true, true, true, true, true, false, false, false] rfl rfl (any_of HT_.out (by kernel_rfl)) (fun _ _ _ h => h) (Or.inl ⟨by rfl, ?_⟩) ?_ ?_
                          rotate_left
                          · intro w'
                            go_simp
                            with_reducible rfl
                          rotate_left
                          · simp only [Act.put, List.setIfInBounds_toArray, List.set_cons_zero, List.set_cons_succ, i64_w, i32_w]
                            rfl
                          refine one_ (i := 17) (N := some 51) #[true, true, true, true, true, true, true, true, true, true, true, true, true, true, true, true, true, true, false, false] rfl rfl (one_of HT_.out (by kernel_rfl)) (by decide) (fun K hK => ?_)
                          refine goes_ Tryd.func55 (by kernel_rfl) rfl #[.int .i64 ((rd_T26 l0 x6_1).f4)] (by rfl) rfl rfl (by (try simp only [List.map_toArray, List.map_cons, List.map_nil]); first | done | rfl | (simp only [List.length_drop, List.length_take]; rfl)) ?_
                          with_reducible refine (copydeskref03_number.calls k1 ((rd_T26 l0 x6_1).f4) t214 _ A17.out).mono ?_
                          rintro e w30 ⟨rfl, hb⟩
                          refine ⟨_, rfl, ?_⟩
                          have n0_ := Aside0.mk (blk_below (g := gb208) (o := .cells #[.int .i64 ((rd_T26 l0 x6_1).f0), .int .i64 ((rd_T26 l0 x6_1).f1), .string ((rd_T26 l0 x6_1).f2), .int .i64 ((rd_T26 l0 x6_1).f3), .int .i64 ((rd_T26 l0 x6_1).f4), .int .i64 ((rd_T26 l0 x6_1).f5.f0), .slice A207_6 ((rd_T26 l0 x6_1).f5.f1).length c207_6, .int .i64 ((rd_T26 l0 x6_1).f5.f2), .int .i64 ((rd_T26 l0 x6_1).f5.f3)] 26 (0, 0)) (by (with_reducible repeat (first | refine blk_drewN ?_ _ | refine blk_drew ?_ | refine blk_alloc ?_ _)); exact BK208.out) hb)
                          have n1_ := Aside0.mk (below_step (by repeat (first | (with_reducible first | exact HB.out | apply below_alloc | apply pw_below_drewN | apply below_drew1 | refine below_set ?_ GE208.out) | exact HB.out)) hb)
                          clear BK208
                          clear HB
                          have BK208 := n0_
                          have HB := n1_
                          clear n0_ n1_
                          (try clear hb)
                          (try clear hb2)
                          (try clear hk)
                          (try clear hi)
                          refine hK.out _ _ ⟨(blk_cell BK208.out 0).trans rfl, (blk_cell BK208.out 1).trans rfl, (blk_cell BK208.out 2).trans rfl, (blk_cell BK208.out 3).trans rfl, (blk_cell BK208.out 4).trans rfl, (blk_cell BK208.out 5).trans rfl, (blk_cell BK208.out 6).trans rfl, (blk_cell BK208.out 7).trans rfl, (blk_cell BK208.out 8).trans rfl⟩ (fun hHeld => ?_)
                          clear hK K
                          refine norm_ (a' := ?_) ?_ ?_
                          rotate_left
                          · show Act.put _ (some 51) _ = _
                            simp only [Act.put, List.setIfInBounds_toArray, List.set_cons_zero, List.set_cons_succ, i64_w, i32_w]
                            rfl
                          refine pure_ (i := 18) (N := some 52) (v := ?_) (a' := ?_) #[true, true, true, true, true, true, true, true, true, true, true, true, true, true, true, true, true, true, true, false] rfl rfl (any_of HT_.out (by kernel_rfl)) (fun _ _ _ h => h) (Or.inl ⟨by rfl, ?_⟩) ?_ ?_
                          rotate_left
                          · intro w'
                            go_simp
                            with_reducible rfl
                          rotate_left
                          · simp only [Act.put, List.setIfInBounds_toArray, List.set_cons_zero, List.set_cons_succ, i64_w, i32_w]
                            rfl
                          refine pure_ (i := 19) (N := some 5) (v := ?_) (a' := ?_) #[true, true, true, true, true, true, true, true, true, true, true, true, true, true, true, true, true, true, true, true] rfl rfl (any_of HT_.out (by kernel_rfl)) (fun _ _ _ h => h) (Or.inl ⟨by rfl, ?_⟩) ?_ ?_
                          rotate_left
                          · intro w'
                            go_simp
                            with_reducible rfl
                          rotate_left
                          · simp only [Act.put, List.setIfInBounds_toArray, List.set_cons_zero, List.set_cons_succ, i64_w, i32_w]
                            rfl
                          refine done_ (done_of HT_.out (by kernel_rfl)) ?_
                          try go_wp2
                          have n0_ := Aside0.mk (blk_drew BK208.out)
                          have n1_ := Aside0.mk (below_drew1 HB.out)
                          clear BK208
                          clear HB
                          have BK208 := n0_
                          have HB := n1_
                          clear n0_ n1_
                          refine start_ (n := 13) (S := fun w' => w'.cell? ⟨gb208, 0, none⟩ = some (.int .i64 ((rd_T26 l0 x6_1).f0)) ∧ w'.cell? ⟨gb208, 1, none⟩ = some (.int .i64 ((rd_T26 l0 x6_1).f1)) ∧ w'.cell? ⟨gb208, 2, none⟩ = some (.string ((rd_T26 l0 x6_1).f2)) ∧ w'.cell? ⟨gb208, 3, none⟩ = some (.int .i64 ((rd_T26 l0 x6_1).f3)) ∧ w'.cell? ⟨gb208, 4, none⟩ = some (.int .i64 ((rd_T26 l0 x6_1).f4)) ∧ w'.cell? ⟨gb208, 5, none⟩ = some (.int .i64 ((rd_T26 l0 x6_1).f5.f0)) ∧ w'.cell? ⟨gb208, 6, none⟩ = some (.slice A207_6 ((rd_T26 l0 x6_1).f5.f1).length c207_6) ∧ w'.cell? ⟨gb208, 7, none⟩ = some (.int .i64 ((rd_T26 l0 x6_1).f5.f2)) ∧ w'.cell? ⟨gb208, 8, none⟩ = some (.int .i64 ((rd_T26 l0 x6_1).f5.f3))) (ds := []) #[false, false, false, false, false, false, false, false, false, false, false, false, false] (by kernel_rfl) rfl rfl ⟨(blk_cell BK208.out 0).trans rfl, (blk_cell BK208.out 1).trans rfl, (blk_cell BK208.out 2).trans rfl, (blk_cell BK208.out 3).trans rfl, (blk_cell BK208.out 4).trans rfl, (blk_cell BK208.out 5).trans rfl, (blk_cell BK208.out 6).trans rfl, (blk_cell BK208.out 7).trans rfl, (blk_cell BK208.out 8).trans rfl⟩ (fun hHeld => ?_); refine with_tabW copydeskref03_Encode.tab11 copydeskref03_Encode.bits11 (fun HT_ HW_ => ?_)
                          generalize w30.drew = w31 at BK208 HB hHeld ⊢
                          refine pure_ (i := 0) (N := some 53) (v := ?_) (a' := ?_) #[true, false, false, false, false, false, false, false, false, false, false, false, false] rfl rfl (any_of HT_.out (by kernel_rfl)) (fun _ _ _ h => h) (Or.inl ⟨by rfl, ?_⟩) ?_ ?_
                          rotate_left
                          · intro w'
                            go_simp
                            with_reducible rfl
                          rotate_left
                          · simp only [Act.put, List.setIfInBounds_toArray, List.set_cons_zero, List.set_cons_succ, i64_w, i32_w]
                            rfl
                          refine pure_ (i := 1) (N := some 54) (v := ?_) (a' := ?_) #[true, true, false, false, false, false, false, false, false, false, false, false, false] rfl rfl (any_of HT_.out (by kernel_rfl)) (fun _ _ _ h => h) (Or.inl ⟨by rfl, ?_⟩) ?_ ?_
                          rotate_left
                          · intro w'
                            go_simp
                            with_reducible rfl
                          rotate_left
                          · simp only [Act.put, List.setIfInBounds_toArray, List.set_cons_zero, List.set_cons_succ, i64_w, i32_w]
                            rfl
                          refine pure_ (i := 2) (N := some 55) (v := ?_) (a' := ?_) #[true, true, true, false, false, false, false, false, false, false, false, false, false] rfl rfl (any_of HT_.out (by kernel_rfl)) (fun _ _ _ h => h) (Or.inl ⟨by rfl, ?_⟩) ?_ ?_
                          rotate_left
                          · intro w'
                            go_simp
                            with_reducible rfl
                          rotate_left
                          · simp only [Act.put, List.setIfInBounds_toArray, List.set_cons_zero, List.set_cons_succ, i64_w, i32_w]
                            rfl
                          refine pure_ (i := 6) (N := some 59) (v := ?_) (a' := ?_) #[true, true, true, false, false, false, true, false, false, false, false, false, false] rfl rfl (any_of HT_.out (by kernel_rfl)) (fun _ _ _ h => h) (Or.inl ⟨by rfl, ?_⟩) ?_ ?_
                          rotate_left
                          · intro w'
                            go_simp
                            with_reducible rfl
                          rotate_left
                          · simp only [Act.put, List.setIfInBounds_toArray, List.set_cons_zero, List.set_cons_succ, i64_w, i32_w]
                            rfl
                          refine pure_ (i := 7) (N := some 60) (v := ?_) (a' := ?_) #[true, true, true, false, false, false, true, true, false, false, false, false, false] rfl rfl (any_of HT_.out (by kernel_rfl)) (fun _ _ _ h => h) (Or.inl ⟨by rfl, ?_⟩) ?_ ?_
                          rotate_left
                          · intro w'
                            go_simp
                            with_reducible rfl
                          rotate_left
                          · simp only [Act.put, List.setIfInBounds_toArray, List.set_cons_zero, List.set_cons_succ, i64_w, i32_w]
                            rfl
                          refine take_ (i := 3) (N := some 56) (v := ?_) (a' := ?_) #[true, true, true, true, false, false, true, true, false, false, false, false, false] rfl rfl (take_ofW HT_.out HW_.out (by kernel_rfl)) (fun _ _ _ h => h) (Or.inl ⟨by rfl, ?_⟩) hHeld ?_ ?_
                          rotate_left
                          · rintro w' ⟨s0, s1, s2, s3, s4, s5, s6, s7, s8⟩
                            go_simp
                            with_reducible rfl
                          rotate_left
                          · simp only [Act.put, List.setIfInBounds_toArray, List.set_cons_zero, List.set_cons_succ, i64_w, i32_w]
                            rfl
                          refine take_ (i := 8) (N := some 61) (v := ?_) (a' := ?_) #[true, true, true, true, false, false, true, true, true, false, false, false, false] rfl rfl (take_ofW HT_.out HW_.out (by kernel_rfl)) (fun _ _ _ h => h) (Or.inl ⟨by rfl, ?_⟩) hHeld ?_ ?_
                          rotate_left
                          · rintro w' ⟨s0, s1, s2, s3, s4, s5, s6, s7, s8⟩
                            go_simp
                            with_reducible rfl
                          rotate_left
                          · simp only [Act.put, List.setIfInBounds_toArray, List.set_cons_zero, List.set_cons_succ, i64_w, i32_w]
                            rfl
                          refine pure_ (i := 9) (N := some 62) (v := ?_) (a' := ?_) #[true, true, true, true, false, false, true, true, true, true, false, false, false] rfl rfl (any_of HT_.out (by kernel_rfl)) (fun _ _ _ h => h) (Or.inl ⟨by rfl, ?_⟩) ?_ ?_
                          rotate_left
                          · intro w'
                            go_simp
                            with_reducible rfl
                          rotate_left
                          · simp only [Act.put, List.setIfInBounds_toArray, List.set_cons_zero, List.set_cons_succ, i64_w, i32_w]
                            rfl
                          refine one_ (i := 4) (N := some 57) #[true, true, true, true, true, false, true, true, true, true, false, false, false] rfl rfl (one_of HT_.out (by kernel_rfl)) (by decide) (fun K hK => ?_)
                          refine goes_ Tryd.func55 (by kernel_rfl) rfl #[.int .i64 ((rd_T26 l0 x6_1).f5.f0)] (by rfl) rfl rfl (by (try simp only [List.map_toArray, List.map_cons, List.map_nil]); first | done | rfl | (simp only [List.length_drop, List.length_take]; rfl)) ?_
                          with_reducible refine (copydeskref03_number.calls k1 ((rd_T26 l0 x6_1).f5.f0) t215 _ A19.out).mono ?_
                          rintro e w32 ⟨rfl, hb⟩
                          refine ⟨_, rfl, ?_⟩
                          have n0_ := Aside0.mk (blk_below (g := gb208) (o := .cells #[.int .i64 ((rd_T26 l0 x6_1).f0), .int .i64 ((rd_T26 l0 x6_1).f1), .string ((rd_T26 l0 x6_1).f2), .int .i64 ((rd_T26 l0 x6_1).f3), .int .i64 ((rd_T26 l0 x6_1).f4), .int .i64 ((rd_T26 l0 x6_1).f5.f0), .slice A207_6 ((rd_T26 l0 x6_1).f5.f1).length c207_6, .int .i64 ((rd_T26 l0 x6_1).f5.f2), .int .i64 ((rd_T26 l0 x6_1).f5.f3)] 26 (0, 0)) (by (with_reducible repeat (first | refine blk_drewN ?_ _ | refine blk_drew ?_ | refine blk_alloc ?_ _)); exact BK208.out) hb)
                          have n1_ := Aside0.mk (below_step (by repeat (first | (with_reducible first | exact HB.out | apply below_alloc | apply pw_below_drewN | apply below_drew1 | refine below_set ?_ GE208.out) | exact HB.out)) hb)
                          clear BK208
                          clear HB
                          have BK208 := n0_
                          have HB := n1_
                          clear n0_ n1_
                          (try clear hb)
                          (try clear hb2)
                          (try clear hk)
                          (try clear hi)
                          refine hK.out _ _ ⟨(blk_cell BK208.out 0).trans rfl, (blk_cell BK208.out 1).trans rfl, (blk_cell BK208.out 2).trans rfl, (blk_cell BK208.out 3).trans rfl, (blk_cell BK208.out 4).trans rfl, (blk_cell BK208.out 5).trans rfl, (blk_cell BK208.out 6).trans rfl, (blk_cell BK208.out 7).trans rfl, (blk_cell BK208.out 8).trans rfl⟩ (fun hHeld => ?_)
                          clear hK K
                          refine norm_ (a' := ?_) ?_ ?_
                          rotate_left
                          · show Act.put _ (some 57) _ = _
                            simp only [Act.put, List.setIfInBounds_toArray, List.set_cons_zero, List.set_cons_succ, i64_w, i32_w]
                            rfl
                          refine pure_ (i := 5) (N := some 58) (v := ?_) (a' := ?_) #[true, true, true, true, true, true, true, true, true, true, false, false, false] rfl rfl (any_of HT_.out (by kernel_rfl)) (fun _ _ _ h => h) (Or.inl ⟨by rfl, ?_⟩) ?_ ?_
                          rotate_left
                          · intro w'
                            go_simp
                            with_reducible rfl
                          rotate_left
                          · simp only [Act.put, List.setIfInBounds_toArray, List.set_cons_zero, List.set_cons_succ, i64_w, i32_w]
                            rfl
                          refine one_ (i := 10) (N := some 63) #[true, true, true, true, true, true, true, true, true, true, true, false, false] rfl rfl (one_of HT_.out (by kernel_rfl)) (by decide) (fun K hK => ?_)
                          refine goes_ Tryd.func55 (by kernel_rfl) rfl #[.int .i64 (((rd_T26 l0 x6_1).f5.f1).length : Int)] (by rfl) rfl rfl (by (try simp only [List.map_toArray, List.map_cons, List.map_nil]); first | done | rfl | (simp only [List.length_drop, List.length_take]; rfl)) ?_
                          with_reducible refine (copydeskref03_number.calls k1 (((rd_T26 l0 x6_1).f5.f1).length : Int) t216 _ A21.out).mono ?_
                          rintro e w33 ⟨rfl, hb⟩
                          refine ⟨_, rfl, ?_⟩
                          have n0_ := Aside0.mk (blk_below (g := gb208) (o := .cells #[.int .i64 ((rd_T26 l0 x6_1).f0), .int .i64 ((rd_T26 l0 x6_1).f1), .string ((rd_T26 l0 x6_1).f2), .int .i64 ((rd_T26 l0 x6_1).f3), .int .i64 ((rd_T26 l0 x6_1).f4), .int .i64 ((rd_T26 l0 x6_1).f5.f0), .slice A207_6 ((rd_T26 l0 x6_1).f5.f1).length c207_6, .int .i64 ((rd_T26 l0 x6_1).f5.f2), .int .i64 ((rd_T26 l0 x6_1).f5.f3)] 26 (0, 0)) (by (with_reducible repeat (first | refine blk_drewN ?_ _ | refine blk_drew ?_ | refine blk_alloc ?_ _)); exact BK208.out) hb)
                          have n1_ := Aside0.mk (below_step (by repeat (first | (with_reducible first | exact HB.out | apply below_alloc | apply pw_below_drewN | apply below_drew1 | refine below_set ?_ GE208.out) | exact HB.out)) hb)
                          clear BK208
                          clear HB
                          have BK208 := n0_
                          have HB := n1_
                          clear n0_ n1_
                          (try clear hb)
                          (try clear hb2)
                          (try clear hk)
                          (try clear hi)
                          refine hK.out _ _ ⟨(blk_cell BK208.out 0).trans rfl, (blk_cell BK208.out 1).trans rfl, (blk_cell BK208.out 2).trans rfl, (blk_cell BK208.out 3).trans rfl, (blk_cell BK208.out 4).trans rfl, (blk_cell BK208.out 5).trans rfl, (blk_cell BK208.out 6).trans rfl, (blk_cell BK208.out 7).trans rfl, (blk_cell BK208.out 8).trans rfl⟩ (fun hHeld => ?_)
                          clear hK K
                          refine norm_ (a' := ?_) ?_ ?_
                          rotate_left
                          · show Act.put _ (some 63) _ = _
                            simp only [Act.put, List.setIfInBounds_toArray, List.set_cons_zero, List.set_cons_succ, i64_w, i32_w]
                            rfl
                          refine pure_ (i := 11) (N := some 64) (v := ?_) (a' := ?_) #[true, true, true, true, true, true, true, true, true, true, true, true, false] rfl rfl (any_of HT_.out (by kernel_rfl)) (fun _ _ _ h => h) (Or.inl ⟨by rfl, ?_⟩) ?_ ?_
                          rotate_left
                          · intro w'
                            go_simp
                            with_reducible rfl
                          rotate_left
                          · simp only [Act.put, List.setIfInBounds_toArray, List.set_cons_zero, List.set_cons_succ, i64_w, i32_w]
                            rfl
                          refine pure_ (i := 12) (N := some 5) (v := ?_) (a' := ?_) #[true, true, true, true, true, true, true, true, true, true, true, true, true] rfl rfl (any_of HT_.out (by kernel_rfl)) (fun _ _ _ h => h) (Or.inl ⟨by rfl, ?_⟩) ?_ ?_
                          rotate_left
                          · intro w'
                            go_simp
                            with_reducible rfl
                          rotate_left
                          · simp only [Act.put, List.setIfInBounds_toArray, List.set_cons_zero, List.set_cons_succ, i64_w, i32_w]
                            rfl
                          refine done_ (done_of HT_.out (by kernel_rfl)) ?_
                          try go_wp2
                          go_loopg [5, 10] k1 (fun kq v5 v10 w' => ∃ (x5_2 : ByteArray) (x10_2 : Int), v5 = .string x5_2 ∧ v10 = .int .i64 x10_2 ∧ Aside0 (copydeskref03_Encode.l1 kq l0 x5_2 x6_1 x10_2 ((rd_T26 l0 x6_1).f0) ((rd_T26 l0 x6_1).f1) ((rd_T26 l0 x6_1).f2) ((rd_T26 l0 x6_1).f3) ((rd_T26 l0 x6_1).f4) ((rd_T26 l0 x6_1).f5.f0) ((rd_T26 l0 x6_1).f5.f1) ((rd_T26 l0 x6_1).f5.f2) ((rd_T26 l0 x6_1).f5.f3) = some (r1, r2)) ∧ Aside0 (kq ≤ k1) ∧ Aside0 (w'.heap[gb208]? = some (.cells #[.int .i64 ((rd_T26 l0 x6_1).f0), .int .i64 ((rd_T26 l0 x6_1).f1), .string ((rd_T26 l0 x6_1).f2), .int .i64 ((rd_T26 l0 x6_1).f3), .int .i64 ((rd_T26 l0 x6_1).f4), .int .i64 ((rd_T26 l0 x6_1).f5.f0), (.slice A207_6 ((rd_T26 l0 x6_1).f5.f1).length c207_6), .int .i64 ((rd_T26 l0 x6_1).f5.f2), .int .i64 ((rd_T26 l0 x6_1).f5.f3)] 26 (0, 0))) ∧ Aside0 (Below w.heap.size w w'))
                          case atStart => exact ⟨(((((((x5_1 ++ t211) ++ t212) ++ t209) ++ t213) ++ t214) ++ t215) ++ t216), (0), (by first | rfl | (simp; done) | (simp [*]; done)), (by first | rfl | (simp; done) | (simp [*]; done)), H', ⟨Nat.le_refl _⟩, ⟨by (with_reducible repeat (first | refine blk_drewN ?_ _ | refine blk_drew ?_ | refine blk_alloc ?_ _)); exact BK208.out⟩, ⟨by repeat (first | (with_reducible first | exact HB.out | apply below_alloc | apply pw_below_drewN | apply below_drew1 | refine below_set ?_ GE208.out) | exact HB.out)⟩⟩
                          case round =>
                            clear H'
                            try clear c1
                            try clear c2
                            try clear p2
                            try clear q2
                            try clear hx2
                            try clear c3
                            try clear c5
                            try clear c7
                            try clear c7b0
                            try clear c8
                            try clear c8b0
                            try clear c11
                            try clear c11b0
                            try clear c11b1
                            try clear c11b2
                            try clear c13
                            try clear c13b0
                            try clear c13b1
                            try clear c13b2
                            try clear c14
                            try clear c14b0
                            try clear c14b1
                            try clear c14b2
                            try clear c16
                            try clear c16b0
                            try clear c16b1
                            try clear c16b2
                            try clear c18
                            try clear c18b0
                            try clear c18b1
                            try clear c18b2
                            try clear c20
                            try clear c20b0
                            try clear c20b1
                            try clear c20b2
                            try clear p20
                            try clear q20
                            try clear hx20
                            try clear c22
                            try clear c22b0
                            try clear c22b1
                            try clear c22b2
                            try clear c28
                            try clear hcz24_0
                            try clear hcz24_1
                            try clear hcz24_2
                            try clear hcz24_3
                            try clear hcz24_4
                            try clear hcz24_5
                            try clear hcz24_6
                            try clear hcz24_7
                            try clear hcz24_8
                            try clear hfz24_0
                            try clear hfz24_1
                            try clear hfz24_2
                            try clear hfz24_3
                            try clear hfz24_4
                            try clear hfz24_5
                            try clear hfz24_6
                            try clear hfz24_7
                            try clear hfz24_8
                            try clear hx207_0
                            try clear hx207_1
                            try clear hx207_2
                            try clear hx207_3
                            try clear hx207_4
                            try clear hx207_5
                            try clear hx207_6
                            try clear hx207_7
                            try clear hx207_8
                            try clear p2
                            try clear p207
                            try clear q207
                            obtain ⟨x5_2, x10_2, rfl, rfl, HA, HK2, BK208, HB⟩ := hrel
                            cases gk with
                            | zero => exact absurd HA.out (by simp [copydeskref03_Encode.l1])
                            | succ k2 =>
                              have H := HA.out
                              clear HA
                              simp only [copydeskref03_Encode.l1] at H
                              by_cases c34 : x10_2 < (((rd_T26 l0 x6_1).f5.f1).length : Int)
                              · rw [if_pos c34] at H
                                have c34b0 : decide (x10_2 < (((rd_T26 l0 x6_1).f5.f1).length : Int)) = true := decide_eq_true c34
                                clear c34
                                by_cases c35 : 0 ≤ x10_2
                                · rw [if_pos c35] at H
                                  have c35b0 : decide (0 ≤ x10_2) = true := decide_eq_true c35
                                  clear c35
                                  replace H := Option.bind_eq_some_iff.mp H
                                  obtain ⟨t218, A360, H⟩ := H
                                  replace H : (if x5_2.size + t218.size ≤ 9223372036854775807 then (copydeskref03_Encode.l1 k2 l0 (x5_2 ++ t218) x6_1 (wrap64 (x10_2 + 1)) ((rd_T26 l0 x6_1).f0) ((rd_T26 l0 x6_1).f1) ((rd_T26 l0 x6_1).f2) ((rd_T26 l0 x6_1).f3) ((rd_T26 l0 x6_1).f4) ((rd_T26 l0 x6_1).f5.f0) ((rd_T26 l0 x6_1).f5.f1) ((rd_T26 l0 x6_1).f5.f2) ((rd_T26 l0 x6_1).f5.f3)) else (none)) = some (r1, r2) := H
                                  have A36 := Aside0.mk A360
                                  clear A360
                                  by_cases c37 : x5_2.size + t218.size ≤ 9223372036854775807
                                  · rw [if_pos c37] at H
                                    have c37b0 := eq_true c37
                                    have c37b1 : decide (x5_2.size + t218.size ≤ 9223372036854775807) = true := decide_eq_true c37
                                    try have c37b2 : (9223372036854775807 < x5_2.size + t218.size) = False := eq_false (Nat.not_lt.2 c37)
                                    try have c37b3 := c37
                                    try simp only [ByteArray.size_append] at c37b3
                                    try have c37b4 := Nat.not_lt.2 c37b3
                                    try simp only [show ∀ (a b : UInt8), (⟨#[a, b]⟩ : ByteArray).size = 2 from fun _ _ => rfl, show ∀ (a : UInt8), (⟨#[a]⟩ : ByteArray).size = 1 from fun _ => rfl, Nat.reduceLeDiff] at c37b3
                                    have H' := Aside0.mk H
                                    clear H
                                    have hcz38_0 : wr.cell? ⟨gb208, 0, none⟩ = some (.int .i64 ((rd_T26 l0 x6_1).f0)) := (blk_cell BK208.out 0).trans rfl
                                    have hcz38_1 : wr.cell? ⟨gb208, 1, none⟩ = some (.int .i64 ((rd_T26 l0 x6_1).f1)) := (blk_cell BK208.out 1).trans rfl
                                    have hcz38_2 : wr.cell? ⟨gb208, 2, none⟩ = some (.string ((rd_T26 l0 x6_1).f2)) := (blk_cell BK208.out 2).trans rfl
                                    have hcz38_3 : wr.cell? ⟨gb208, 3, none⟩ = some (.int .i64 ((rd_T26 l0 x6_1).f3)) := (blk_cell BK208.out 3).trans rfl
                                    have hcz38_4 : wr.cell? ⟨gb208, 4, none⟩ = some (.int .i64 ((rd_T26 l0 x6_1).f4)) := (blk_cell BK208.out 4).trans rfl
                                    have hcz38_5 : wr.cell? ⟨gb208, 5, none⟩ = some (.int .i64 ((rd_T26 l0 x6_1).f5.f0)) := (blk_cell BK208.out 5).trans rfl
                                    have hcz38_6 : wr.cell? ⟨gb208, 6, none⟩ = some (.slice A207_6 ((rd_T26 l0 x6_1).f5.f1).length c207_6) := (blk_cell BK208.out 6).trans rfl
                                    have hcz38_7 : wr.cell? ⟨gb208, 7, none⟩ = some (.int .i64 ((rd_T26 l0 x6_1).f5.f2)) := (blk_cell BK208.out 7).trans rfl
                                    have hcz38_8 : wr.cell? ⟨gb208, 8, none⟩ = some (.int .i64 ((rd_T26 l0 x6_1).f5.f3)) := (blk_cell BK208.out 8).trans rfl
                                    have hfz38_0 := blk_frozen BK208.out 0
                                    have hfz38_1 := blk_frozen BK208.out 1
                                    have hfz38_2 := blk_frozen BK208.out 2
                                    have hfz38_3 := blk_frozen BK208.out 3
                                    have hfz38_4 := blk_frozen BK208.out 4
                                    have hfz38_5 := blk_frozen BK208.out 5
                                    have hfz38_6 := blk_frozen BK208.out 6
                                    have hfz38_7 := blk_frozen BK208.out 7
                                    have hfz38_8 := blk_frozen BK208.out 8
                                    have p217 : 0 ≤ (x10_2 : Int) := of_decide_eq_true (by first | (with_reducible assumption) | assumption)
                                    have q217 : x10_2 < (((rd_T26 l0 x6_1).f5.f1).length : Int) := of_decide_eq_true (by first | (with_reducible assumption) | assumption)
                                    obtain ⟨ad217, e217, hx217_0⟩ := Kd.at_int HR207_6.out x10_2 p217 q217
                                    cases e217
                                    replace hx217_0 := (HB.out.cell (World.block_lt_of_cell? w _ hx217_0)).trans hx217_0
                                    replace p217 := eq_true p217
                                    replace q217 := eq_true q217
                                    go_wp2_with (first | ((with_reducible refine gate_callee (f := 55) rfl ?_); refine goesL_ (some 80) rfl rfl Tryd.func55 (by kernel_rfl) rfl #[.int .i64 (rd ((rd_T26 l0 x6_1).f5.f1) x10_2)] rfl (by (try simp only [List.map_toArray, List.map_cons, List.map_nil]); first | done | rfl | (simp only [List.length_drop, List.length_take]; rfl)) ?_; (with_reducible refine (copydeskref03_number.calls k2 (rd ((rd_T26 l0 x6_1).f5.f1) x10_2) t218 _ A36.out).mono ?_); rintro e w39 ⟨rfl, hb⟩; refine ⟨_, rfl, ?_⟩; have n0_ := Aside0.mk (blk_below (g := gb208) (o := .cells #[.int .i64 ((rd_T26 l0 x6_1).f0), .int .i64 ((rd_T26 l0 x6_1).f1), .string ((rd_T26 l0 x6_1).f2), .int .i64 ((rd_T26 l0 x6_1).f3), .int .i64 ((rd_T26 l0 x6_1).f4), .int .i64 ((rd_T26 l0 x6_1).f5.f0), .slice (some ad217) ((rd_T26 l0 x6_1).f5.f1).length c207_6, .int .i64 ((rd_T26 l0 x6_1).f5.f2), .int .i64 ((rd_T26 l0 x6_1).f5.f3)] 26 (0, 0)) (by (with_reducible repeat (first | refine blk_drewN ?_ _ | refine blk_drew ?_ | refine blk_alloc ?_ _)); exact BK208.out) hb); have n1_ := Aside0.mk (below_step (by repeat (first | (with_reducible first | exact HB.out | apply below_alloc | apply pw_below_drewN | apply below_drew1 | refine below_set ?_ GE208.out) | exact HB.out)) hb); clear BK208; clear HB; have BK208 := n0_; have HB := n1_; clear n0_ n1_; (try clear hb); (try clear hb2); (try clear hk); (try clear hi)))
                                    go_roundg k2
                                    case measure => have := HK1.out; have := HK2.out; omega
                                    case rel => exact ⟨(x5_2 ++ t218), (wrap64 (x10_2 + 1)), (by first | rfl | (simp; done) | (simp [*]; done)), (by first | rfl | (simp; done) | (simp [*]; done)), H', ⟨by have := HK1.out; have := HK2.out; omega⟩, ⟨by (with_reducible repeat (first | refine blk_drewN ?_ _ | refine blk_drew ?_ | refine blk_alloc ?_ _)); exact BK208.out⟩, ⟨by repeat (first | (with_reducible first | exact HB.out | apply below_alloc | apply pw_below_drewN | apply below_drew1 | refine below_set ?_ GE208.out) | exact HB.out)⟩⟩
                                  · rw [if_neg c37] at H
                                    exact absurd H (by simp)
                                · rw [if_neg c35] at H
                                  exact absurd H (by simp)
                              · rw [if_neg c34] at H
                                have c34b0 : decide (x10_2 < (((rd_T26 l0 x6_1).f5.f1).length : Int)) = false := decide_eq_false c34
                                clear c34
                                replace H := Option.bind_eq_some_iff.mp H
                                obtain ⟨t219, A400, H⟩ := H
                                replace H : (if x5_2.size + t219.size ≤ 9223372036854775807 then ((copydeskref03_number.f k2 ((rd_T26 l0 x6_1).f5.f3)).bind fun t220 => (if (x5_2 ++ t219).size + t220.size ≤ 9223372036854775807 then (copydeskref03_Encode.l0 k2 l0 ((x5_2 ++ t219) ++ t220) (wrap64 (x6_1 + 1))) else (none))) else (none)) = some (r1, r2) := H
                                have A40 := Aside0.mk A400
                                clear A400
                                by_cases c41 : x5_2.size + t219.size ≤ 9223372036854775807
                                · rw [if_pos c41] at H
                                  have c41b0 := eq_true c41
                                  have c41b1 : decide (x5_2.size + t219.size ≤ 9223372036854775807) = true := decide_eq_true c41
                                  try have c41b2 : (9223372036854775807 < x5_2.size + t219.size) = False := eq_false (Nat.not_lt.2 c41)
                                  try have c41b3 := c41
                                  try simp only [ByteArray.size_append] at c41b3
                                  try have c41b4 := Nat.not_lt.2 c41b3
                                  try simp only [show ∀ (a b : UInt8), (⟨#[a, b]⟩ : ByteArray).size = 2 from fun _ _ => rfl, show ∀ (a : UInt8), (⟨#[a]⟩ : ByteArray).size = 1 from fun _ => rfl, Nat.reduceLeDiff] at c41b3
                                  replace H := Option.bind_eq_some_iff.mp H
                                  obtain ⟨t220, A420, H⟩ := H
                                  replace H : (if (x5_2 ++ t219).size + t220.size ≤ 9223372036854775807 then (copydeskref03_Encode.l0 k2 l0 ((x5_2 ++ t219) ++ t220) (wrap64 (x6_1 + 1))) else (none)) = some (r1, r2) := H
                                  have A42 := Aside0.mk A420
                                  clear A420
                                  by_cases c43 : (x5_2 ++ t219).size + t220.size ≤ 9223372036854775807
                                  · rw [if_pos c43] at H
                                    have c43b0 := eq_true c43
                                    have c43b1 : decide ((x5_2 ++ t219).size + t220.size ≤ 9223372036854775807) = true := decide_eq_true c43
                                    try have c43b2 : (9223372036854775807 < (x5_2 ++ t219).size + t220.size) = False := eq_false (Nat.not_lt.2 c43)
                                    try have c43b3 := c43
                                    try simp only [ByteArray.size_append] at c43b3
                                    try have c43b4 := Nat.not_lt.2 c43b3
                                    try simp only [show ∀ (a b : UInt8), (⟨#[a, b]⟩ : ByteArray).size = 2 from fun _ _ => rfl, show ∀ (a : UInt8), (⟨#[a]⟩ : ByteArray).size = 1 from fun _ => rfl, Nat.reduceLeDiff] at c43b3
                                    have H' := Aside0.mk H
                                    clear H
                                    have hcz44_0 : wr.cell? ⟨gb208, 0, none⟩ = some (.int .i64 ((rd_T26 l0 x6_1).f0)) := (blk_cell BK208.out 0).trans rfl
                                    have hcz44_1 : wr.cell? ⟨gb208, 1, none⟩ = some (.int .i64 ((rd_T26 l0 x6_1).f1)) := (blk_cell BK208.out 1).trans rfl
                                    have hcz44_2 : wr.cell? ⟨gb208, 2, none⟩ = some (.string ((rd_T26 l0 x6_1).f2)) := (blk_cell BK208.out 2).trans rfl
                                    have hcz44_3 : wr.cell? ⟨gb208, 3, none⟩ = some (.int .i64 ((rd_T26 l0 x6_1).f3)) := (blk_cell BK208.out 3).trans rfl
                                    have hcz44_4 : wr.cell? ⟨gb208, 4, none⟩ = some (.int .i64 ((rd_T26 l0 x6_1).f4)) := (blk_cell BK208.out 4).trans rfl
                                    have hcz44_5 : wr.cell? ⟨gb208, 5, none⟩ = some (.int .i64 ((rd_T26 l0 x6_1).f5.f0)) := (blk_cell BK208.out 5).trans rfl
                                    have hcz44_6 : wr.cell? ⟨gb208, 6, none⟩ = some (.slice A207_6 ((rd_T26 l0 x6_1).f5.f1).length c207_6) := (blk_cell BK208.out 6).trans rfl
                                    have hcz44_7 : wr.cell? ⟨gb208, 7, none⟩ = some (.int .i64 ((rd_T26 l0 x6_1).f5.f2)) := (blk_cell BK208.out 7).trans rfl
                                    have hcz44_8 : wr.cell? ⟨gb208, 8, none⟩ = some (.int .i64 ((rd_T26 l0 x6_1).f5.f3)) := (blk_cell BK208.out 8).trans rfl
                                    have hfz44_0 := blk_frozen BK208.out 0
                                    have hfz44_1 := blk_frozen BK208.out 1
                                    have hfz44_2 := blk_frozen BK208.out 2
                                    have hfz44_3 := blk_frozen BK208.out 3
                                    have hfz44_4 := blk_frozen BK208.out 4
                                    have hfz44_5 := blk_frozen BK208.out 5
                                    have hfz44_6 := blk_frozen BK208.out 6
                                    have hfz44_7 := blk_frozen BK208.out 7
                                    have hfz44_8 := blk_frozen BK208.out 8
                                    try go_wp2
                                    have n0_ := Aside0.mk (blk_drew BK208.out)
                                    have n1_ := Aside0.mk (below_drew1 HB.out)
                                    clear BK208
                                    clear HB
                                    have BK208 := n0_
                                    have HB := n1_
                                    clear n0_ n1_
                                    refine start_ (n := 12) (S := fun w' => w'.cell? ⟨gb208, 0, none⟩ = some (.int .i64 ((rd_T26 l0 x6_1).f0)) ∧ w'.cell? ⟨gb208, 1, none⟩ = some (.int .i64 ((rd_T26 l0 x6_1).f1)) ∧ w'.cell? ⟨gb208, 2, none⟩ = some (.string ((rd_T26 l0 x6_1).f2)) ∧ w'.cell? ⟨gb208, 3, none⟩ = some (.int .i64 ((rd_T26 l0 x6_1).f3)) ∧ w'.cell? ⟨gb208, 4, none⟩ = some (.int .i64 ((rd_T26 l0 x6_1).f4)) ∧ w'.cell? ⟨gb208, 5, none⟩ = some (.int .i64 ((rd_T26 l0 x6_1).f5.f0)) ∧ w'.cell? ⟨gb208, 6, none⟩ = some (.slice A207_6 ((rd_T26 l0 x6_1).f5.f1).length c207_6) ∧ w'.cell? ⟨gb208, 7, none⟩ = some (.int .i64 ((rd_T26 l0 x6_1).f5.f2)) ∧ w'.cell? ⟨gb208, 8, none⟩ = some (.int .i64 ((rd_T26 l0 x6_1).f5.f3))) (ds := []) #[false, false, false, false, false, false, false, false, false, false, false, false] (by kernel_rfl) rfl rfl ⟨(blk_cell BK208.out 0).trans rfl, (blk_cell BK208.out 1).trans rfl, (blk_cell BK208.out 2).trans rfl, (blk_cell BK208.out 3).trans rfl, (blk_cell BK208.out 4).trans rfl, (blk_cell BK208.out 5).trans rfl, (blk_cell BK208.out 6).trans rfl, (blk_cell BK208.out 7).trans rfl, (blk_cell BK208.out 8).trans rfl⟩ (fun hHeld => ?_); refine with_tabW copydeskref03_Encode.tab16 copydeskref03_Encode.bits16 (fun HT_ HW_ => ?_)
                                    generalize wr.drew = w45 at BK208 HB hHeld ⊢
                                    refine pure_ (i := 0) (N := some 82) (v := ?_) (a' := ?_) #[true, false, false, false, false, false, false, false, false, false, false, false] rfl rfl (any_of HT_.out (by kernel_rfl)) (fun _ _ _ h => h) (Or.inl ⟨by rfl, ?_⟩) ?_ ?_
                                    rotate_left
                                    · intro w'
                                      go_simp
                                      with_reducible rfl
                                    rotate_left
                                    · simp only [Act.put, List.setIfInBounds_toArray, List.set_cons_zero, List.set_cons_succ, i64_w, i32_w]
                                      rfl
                                    refine pure_ (i := 1) (N := some 83) (v := ?_) (a' := ?_) #[true, true, false, false, false, false, false, false, false, false, false, false] rfl rfl (any_of HT_.out (by kernel_rfl)) (fun _ _ _ h => h) (Or.inl ⟨by rfl, ?_⟩) ?_ ?_
                                    rotate_left
                                    · intro w'
                                      go_simp
                                      with_reducible rfl
                                    rotate_left
                                    · simp only [Act.put, List.setIfInBounds_toArray, List.set_cons_zero, List.set_cons_succ, i64_w, i32_w]
                                      rfl
                                    refine pure_ (i := 2) (N := some 84) (v := ?_) (a' := ?_) #[true, true, true, false, false, false, false, false, false, false, false, false] rfl rfl (any_of HT_.out (by kernel_rfl)) (fun _ _ _ h => h) (Or.inl ⟨by rfl, ?_⟩) ?_ ?_
                                    rotate_left
                                    · intro w'
                                      go_simp
                                      with_reducible rfl
                                    rotate_left
                                    · simp only [Act.put, List.setIfInBounds_toArray, List.set_cons_zero, List.set_cons_succ, i64_w, i32_w]
                                      rfl
                                    refine pure_ (i := 6) (N := some 88) (v := ?_) (a' := ?_) #[true, true, true, false, false, false, true, false, false, false, false, false] rfl rfl (any_of HT_.out (by kernel_rfl)) (fun _ _ _ h => h) (Or.inl ⟨by rfl, ?_⟩) ?_ ?_
                                    rotate_left
                                    · intro w'
                                      go_simp
                                      with_reducible rfl
                                    rotate_left
                                    · simp only [Act.put, List.setIfInBounds_toArray, List.set_cons_zero, List.set_cons_succ, i64_w, i32_w]
                                      rfl
                                    refine pure_ (i := 7) (N := some 89) (v := ?_) (a' := ?_) #[true, true, true, false, false, false, true, true, false, false, false, false] rfl rfl (any_of HT_.out (by kernel_rfl)) (fun _ _ _ h => h) (Or.inl ⟨by rfl, ?_⟩) ?_ ?_
                                    rotate_left
                                    · intro w'
                                      go_simp
                                      with_reducible rfl
                                    rotate_left
                                    · simp only [Act.put, List.setIfInBounds_toArray, List.set_cons_zero, List.set_cons_succ, i64_w, i32_w]
                                      rfl
                                    refine take_ (i := 3) (N := some 85) (v := ?_) (a' := ?_) #[true, true, true, true, false, false, true, true, false, false, false, false] rfl rfl (take_ofW HT_.out HW_.out (by kernel_rfl)) (fun _ _ _ h => h) (Or.inl ⟨by rfl, ?_⟩) hHeld ?_ ?_
                                    rotate_left
                                    · rintro w' ⟨s0, s1, s2, s3, s4, s5, s6, s7, s8⟩
                                      go_simp
                                      with_reducible rfl
                                    rotate_left
                                    · simp only [Act.put, List.setIfInBounds_toArray, List.set_cons_zero, List.set_cons_succ, i64_w, i32_w]
                                      rfl
                                    refine take_ (i := 8) (N := some 90) (v := ?_) (a' := ?_) #[true, true, true, true, false, false, true, true, true, false, false, false] rfl rfl (take_ofW HT_.out HW_.out (by kernel_rfl)) (fun _ _ _ h => h) (Or.inl ⟨by rfl, ?_⟩) hHeld ?_ ?_
                                    rotate_left
                                    · rintro w' ⟨s0, s1, s2, s3, s4, s5, s6, s7, s8⟩
                                      go_simp
                                      with_reducible rfl
                                    rotate_left
                                    · simp only [Act.put, List.setIfInBounds_toArray, List.set_cons_zero, List.set_cons_succ, i64_w, i32_w]
                                      rfl
                                    refine one_ (i := 4) (N := some 86) #[true, true, true, true, true, false, true, true, true, false, false, false] rfl rfl (one_of HT_.out (by kernel_rfl)) (by decide) (fun K hK => ?_)
                                    refine goes_ Tryd.func55 (by kernel_rfl) rfl #[.int .i64 ((rd_T26 l0 x6_1).f5.f2)] (by rfl) rfl rfl (by (try simp only [List.map_toArray, List.map_cons, List.map_nil]); first | done | rfl | (simp only [List.length_drop, List.length_take]; rfl)) ?_
                                    with_reducible refine (copydeskref03_number.calls k2 ((rd_T26 l0 x6_1).f5.f2) t219 _ A40.out).mono ?_
                                    rintro e w46 ⟨rfl, hb⟩
                                    refine ⟨_, rfl, ?_⟩
                                    have n0_ := Aside0.mk (blk_below (g := gb208) (o := .cells #[.int .i64 ((rd_T26 l0 x6_1).f0), .int .i64 ((rd_T26 l0 x6_1).f1), .string ((rd_T26 l0 x6_1).f2), .int .i64 ((rd_T26 l0 x6_1).f3), .int .i64 ((rd_T26 l0 x6_1).f4), .int .i64 ((rd_T26 l0 x6_1).f5.f0), .slice A207_6 ((rd_T26 l0 x6_1).f5.f1).length c207_6, .int .i64 ((rd_T26 l0 x6_1).f5.f2), .int .i64 ((rd_T26 l0 x6_1).f5.f3)] 26 (0, 0)) (by (with_reducible repeat (first | refine blk_drewN ?_ _ | refine blk_drew ?_ | refine blk_alloc ?_ _)); exact BK208.out) hb)
                                    have n1_ := Aside0.mk (below_step (by repeat (first | (with_reducible first | exact HB.out | apply below_alloc | apply pw_below_drewN | apply below_drew1 | refine below_set ?_ GE208.out) | exact HB.out)) hb)
                                    clear BK208
                                    clear HB
                                    have BK208 := n0_
                                    have HB := n1_
                                    clear n0_ n1_
                                    (try clear hb)
                                    (try clear hb2)
                                    (try clear hk)
                                    (try clear hi)
                                    refine hK.out _ _ ⟨(blk_cell BK208.out 0).trans rfl, (blk_cell BK208.out 1).trans rfl, (blk_cell BK208.out 2).trans rfl, (blk_cell BK208.out 3).trans rfl, (blk_cell BK208.out 4).trans rfl, (blk_cell BK208.out 5).trans rfl, (blk_cell BK208.out 6).trans rfl, (blk_cell BK208.out 7).trans rfl, (blk_cell BK208.out 8).trans rfl⟩ (fun hHeld => ?_)
                                    clear hK K
                                    refine norm_ (a' := ?_) ?_ ?_
                                    rotate_left
                                    · show Act.put _ (some 86) _ = _
                                      simp only [Act.put, List.setIfInBounds_toArray, List.set_cons_zero, List.set_cons_succ, i64_w, i32_w]
                                      rfl
                                    refine pure_ (i := 5) (N := some 87) (v := ?_) (a' := ?_) #[true, true, true, true, true, true, true, true, true, false, false, false] rfl rfl (any_of HT_.out (by kernel_rfl)) (fun _ _ _ h => h) (Or.inl ⟨by rfl, ?_⟩) ?_ ?_
                                    rotate_left
                                    · intro w'
                                      go_simp
                                      with_reducible rfl
                                    rotate_left
                                    · simp only [Act.put, List.setIfInBounds_toArray, List.set_cons_zero, List.set_cons_succ, i64_w, i32_w]
                                      rfl
                                    refine one_ (i := 9) (N := some 91) #[true, true, true, true, true, true, true, true, true, true, false, false] rfl rfl (one_of HT_.out (by kernel_rfl)) (by decide) (fun K hK => ?_)
                                    refine goes_ Tryd.func55 (by kernel_rfl) rfl #[.int .i64 ((rd_T26 l0 x6_1).f5.f3)] (by rfl) rfl rfl (by (try simp only [List.map_toArray, List.map_cons, List.map_nil]); first | done | rfl | (simp only [List.length_drop, List.length_take]; rfl)) ?_
                                    with_reducible refine (copydeskref03_number.calls k2 ((rd_T26 l0 x6_1).f5.f3) t220 _ A42.out).mono ?_
                                    rintro e w47 ⟨rfl, hb⟩
                                    refine ⟨_, rfl, ?_⟩
                                    have n0_ := Aside0.mk (blk_below (g := gb208) (o := .cells #[.int .i64 ((rd_T26 l0 x6_1).f0), .int .i64 ((rd_T26 l0 x6_1).f1), .string ((rd_T26 l0 x6_1).f2), .int .i64 ((rd_T26 l0 x6_1).f3), .int .i64 ((rd_T26 l0 x6_1).f4), .int .i64 ((rd_T26 l0 x6_1).f5.f0), .slice A207_6 ((rd_T26 l0 x6_1).f5.f1).length c207_6, .int .i64 ((rd_T26 l0 x6_1).f5.f2), .int .i64 ((rd_T26 l0 x6_1).f5.f3)] 26 (0, 0)) (by (with_reducible repeat (first | refine blk_drewN ?_ _ | refine blk_drew ?_ | refine blk_alloc ?_ _)); exact BK208.out) hb)
                                    have n1_ := Aside0.mk (below_step (by repeat (first | (with_reducible first | exact HB.out | apply below_alloc | apply pw_below_drewN | apply below_drew1 | refine below_set ?_ GE208.out) | exact HB.out)) hb)
                                    clear BK208
                                    clear HB
                                    have BK208 := n0_
                                    have HB := n1_
                                    clear n0_ n1_
                                    (try clear hb)
                                    (try clear hb2)
                                    (try clear hk)
                                    (try clear hi)
                                    refine hK.out _ _ ⟨(blk_cell BK208.out 0).trans rfl, (blk_cell BK208.out 1).trans rfl, (blk_cell BK208.out 2).trans rfl, (blk_cell BK208.out 3).trans rfl, (blk_cell BK208.out 4).trans rfl, (blk_cell BK208.out 5).trans rfl, (blk_cell BK208.out 6).trans rfl, (blk_cell BK208.out 7).trans rfl, (blk_cell BK208.out 8).trans rfl⟩ (fun hHeld => ?_)
                                    clear hK K
                                    refine norm_ (a' := ?_) ?_ ?_
                                    rotate_left
                                    · show Act.put _ (some 91) _ = _
                                      simp only [Act.put, List.setIfInBounds_toArray, List.set_cons_zero, List.set_cons_succ, i64_w, i32_w]
                                      rfl
                                    refine pure_ (i := 10) (N := some 92) (v := ?_) (a' := ?_) #[true, true, true, true, true, true, true, true, true, true, true, false] rfl rfl (any_of HT_.out (by kernel_rfl)) (fun _ _ _ h => h) (Or.inl ⟨by rfl, ?_⟩) ?_ ?_
                                    rotate_left
                                    · intro w'
                                      go_simp
                                      with_reducible rfl
                                    rotate_left
                                    · simp only [Act.put, List.setIfInBounds_toArray, List.set_cons_zero, List.set_cons_succ, i64_w, i32_w]
                                      rfl
                                    refine pure_ (i := 11) (N := some 5) (v := ?_) (a' := ?_) #[true, true, true, true, true, true, true, true, true, true, true, true] rfl rfl (any_of HT_.out (by kernel_rfl)) (fun _ _ _ h => h) (Or.inl ⟨by rfl, ?_⟩) ?_ ?_
                                    rotate_left
                                    · intro w'
                                      go_simp
                                      with_reducible rfl
                                    rotate_left
                                    · simp only [Act.put, List.setIfInBounds_toArray, List.set_cons_zero, List.set_cons_succ, i64_w, i32_w]
                                      rfl
                                    refine done_ (done_of HT_.out (by kernel_rfl)) ?_
                                    try go_wp2
                                    go_roundg k2
                                    case measure => have := HK1.out; have := HK2.out; omega
                                    case rel => exact ⟨((x5_2 ++ t219) ++ t220), (wrap64 (x6_1 + 1)), (by first | rfl | (simp; done) | (simp [*]; done)), (by first | rfl | (simp; done) | (simp [*]; done)), H', ⟨by have := HK1.out; have := HK2.out; omega⟩, ⟨by repeat (first | (with_reducible first | exact HB.out | apply below_alloc | apply pw_below_drewN | apply below_drew1 | refine below_set ?_ GE208.out) | exact HB.out)⟩⟩
                                  · rw [if_neg c43] at H
                                    exact absurd H (by simp)
                                · rw [if_neg c41] at H
                                  exact absurd H (by simp)
                        · rw [if_neg c22] at H
                          exact absurd H (by simp)
                      · rw [if_neg c20] at H
                        exact absurd H (by simp)
                    · rw [if_neg c18] at H
                      exact absurd H (by simp)
                  · rw [if_neg c16] at H
                    exact absurd H (by simp)
                · rw [if_neg c14] at H
                  exact absurd H (by simp)
              · rw [if_neg c13] at H
                exact absurd H (by simp)
            · rw [if_neg c11] at H
              exact absurd H (by simp)
          · rw [if_neg c8] at H
            exact absurd H (by simp)
        · rw [if_neg c7] at H
          have c7b0 : decide (x6_1 < (l0.length : Int)) = false := decide_eq_false c7
          clear c7
          simp only [Option.some.injEq, Prod.mk.injEq] at H
          obtain ⟨rfl, rfl⟩ := H
          go_wp2
          go_ret2
          exact ⟨by first | rfl | (simp [errW_none, errW_some] <;> rfl) | (simp [*, errW_none, errW_some] <;> rfl), by repeat (first | (with_reducible first | exact HB.out | apply below_alloc | apply pw_below_drewN | apply below_drew1) | exact HB.out)⟩
  · replace c3 := Bool.eq_false_iff.mpr c3
    subst c3
    have H1 : (some ((⟨#[]⟩ : ByteArray), 30)) = some (r1, r2) := by rw [if_neg (show ¬ (false = true) by decide)] at H; exact H
    clear H
    have H := H1
    clear H1
    simp only [Option.some.injEq, Prod.mk.injEq] at H
    obtain ⟨rfl, rfl⟩ := H
    go_enter Tryd.func28, Tryd.ntmps28
    go_wp2_with (first | ((with_reducible refine gate_callee (f := 22) rfl ?_); refine goesL_ (some 12) rfl rfl Tryd.func22 (by kernel_rfl) rfl #[.slice A0 l0.length c0] rfl (by (try simp only [List.map_toArray, List.map_cons, List.map_nil]); first | done | rfl | (simp only [List.length_drop, List.length_take]; rfl)) ?_; (with_reducible refine (copydeskref03_ValidList.calls k _ _ l0 false _ ?side1 ?side2 A2.out).mono ?_); (case side1 => repeat (first | exact HR0.out | (with_reducible refine Kd.C_alloc ?_ _) | (with_reducible refine Kd.C_drewN ?_ _) | (with_reducible refine Kd.C_drew ?_))); (case side2 => exact HC0.out); rintro e w48 ⟨rfl, hb⟩; refine ⟨_, rfl, ?_⟩; have n0_ := Aside0.mk (below_step (by repeat (first | (with_reducible first | exact HB.out | apply below_alloc | apply pw_below_drewN | apply below_drew1) | exact HB.out)) hb); clear HB; have HB := n0_; clear n0_; (try clear hb); (try clear hb2); (try clear hk); (try clear hi)))
    go_ret2
    exact ⟨by first | rfl | (simp [errW_none, errW_some] <;> rfl) | (simp [*, errW_none, errW_some] <;> rfl), by repeat (first | (with_reducible first | exact HB.out | apply below_alloc | apply pw_below_drewN | apply below_drew1) | exact HB.out)⟩
end Go.Proofs.YtpgjhjlhipikgaaDoor.PK
end
section
namespace Go.Proofs.YtpgjhjlhipikgaaDoor.PK
open Go.RowKit Go.Proofs.YtpgjhjlhipikgaaDoorW.PrintWords Go.Proofs.YtpgjhjlhipikgaaDoorW.PrintLast Go.Proofs.YtpgjhjlhipikgaaDoorW.PrintMore
attribute [local go_sem] max2_int min2_int max_two min_two max_three min_three max_four min_four   -- for this text's walks alone
set_option linter.unusedVariables false
set_option linter.unusedSimpArgs false
def copydesklaw03_BlockEncodeMatchesReference.f (k : Nat) (l0 : List (S26)) : Option (Bool) := (copydesklaw03_sane.f).bind fun t221 => ((copydesklaw03_short.f k l0).bind fun t222 => ((block_Encode.f t222).bind fun bt225 => ((copydeskref03_Encode.f k t222).bind fun bt227 => (if t221 = true then (if bt225.1.toList = bt227.1.toList then (some (bt225.2 == bt227.2)) else (some false)) else (some false)))))
theorem copydesklaw03_BlockEncodeMatchesReference.mono : ∀ a0 k, LeO (copydesklaw03_BlockEncodeMatchesReference.f k a0) (copydesklaw03_BlockEncodeMatchesReference.f (k + 1) a0) := by
  intro a0 k
  unfold copydesklaw03_BlockEncodeMatchesReference.f
  repeat' first
      | (with_reducible exact copydesklaw03_short.mono _ _)
      | (with_reducible exact copydeskref03_Encode.mono _ _)
      | (with_reducible exact LeO.refl _)
      | (with_reducible exact LeO.none _)
      | (with_reducible refine LeO.ite ?_ ?_)
      | (with_reducible refine LeO.bind ?_ (fun _ => ?_))
      | exact copydesklaw03_short.mono _ _
      | exact copydeskref03_Encode.mono _ _
      | exact LeO.none _
      | refine LeO.ite ?_ ?_
      | refine LeO.bind ?_ (fun _ => ?_)
set_option maxHeartbeats 8000000 in
set_option maxRecDepth 100000 in
theorem copydesklaw03_BlockEncodeMatchesReference.calls (k : Nat) (A0 : Option Addr) (c0 : Nat) (l0 : List (S26)) (r : Bool) (w : World) (hr0 : Kd.C k26 w A0 l0.length l0) (hc0 : l0.length ≤ c0) (h : copydesklaw03_BlockEncodeMatchesReference.f k l0 = some r) :
    Calls Tryd.prog 5 #[.slice A0 l0.length c0] w fun e w' => e = .returned (.bool r) ∧ Below w.heap.size w w' := by
  have HR0 := Aside0.mk hr0
  have HC0 := Aside0.mk hc0
  clear hr0 hc0
  have HB := Aside0.mk (Below.refl w.heap.size w)
  have H : ((copydesklaw03_sane.f).bind fun t221 => ((copydesklaw03_short.f k l0).bind fun t222 => ((block_Encode.f t222).bind fun bt225 => ((copydeskref03_Encode.f k t222).bind fun bt227 => (if t221 = true then (if bt225.1.toList = bt227.1.toList then (some (bt225.2 == bt227.2)) else (some false)) else (some false)))))) = some r := h
  clear h
  replace H := Option.bind_eq_some_iff.mp H
  obtain ⟨t221, A20, H⟩ := H
  replace H : ((copydesklaw03_short.f k l0).bind fun t222 => ((block_Encode.f t222).bind fun bt225 => ((copydeskref03_Encode.f k t222).bind fun bt227 => (if t221 = true then (if bt225.1.toList = bt227.1.toList then (some (bt225.2 == bt227.2)) else (some false)) else (some false))))) = some r := H
  have A2 := Aside0.mk A20
  clear A20
  replace H := Option.bind_eq_some_iff.mp H
  obtain ⟨t222, A30, H⟩ := H
  replace H : ((block_Encode.f t222).bind fun bt225 => ((copydeskref03_Encode.f k t222).bind fun bt227 => (if t221 = true then (if bt225.1.toList = bt227.1.toList then (some (bt225.2 == bt227.2)) else (some false)) else (some false)))) = some r := H
  have A3 := Aside0.mk A30
  clear A30
  replace H := Option.bind_eq_some_iff.mp H
  obtain ⟨⟨t225, t226⟩, A40, H⟩ := H
  replace H : ((copydeskref03_Encode.f k t222).bind fun bt227 => (if t221 = true then (if t225.toList = bt227.1.toList then (some (t226 == bt227.2)) else (some false)) else (some false))) = some r := H
  have A4 := Aside0.mk A40
  clear A40
  replace H := Option.bind_eq_some_iff.mp H
  obtain ⟨⟨t227, t228⟩, A50, H⟩ := H
  replace H : (if t221 = true then (if t225.toList = t227.toList then (some (t226 == t228)) else (some false)) else (some false)) = some r := H
  have A5 := Aside0.mk A50
  clear A50
  by_cases c6 : t221 = true
  · subst c6
    have H1 : (if t225.toList = t227.toList then (some (t226 == t228)) else (some false)) = some r := by rw [if_pos rfl] at H; exact H
    clear H
    have H := H1
    clear H1
    by_cases c7 : t225.toList = t227.toList
    · rw [if_pos c7] at H
      have c7b0 : (t225.toList == t227.toList) = true := beq_iff_eq.mpr c7
      have c7b1 : (t225.toList != t227.toList) = false := bne_eq_false_iff_eq.mpr c7
      clear c7
      obtain rfl := Option.some.inj H
      go_enter Tryd.func5, Tryd.ntmps5
      go_wp2_with (first | ((with_reducible refine gate_callee (f := 17) rfl ?_); refine goesL_ (some 8) rfl rfl Tryd.func17 (by kernel_rfl) rfl #[] rfl (by (try simp only [List.map_toArray, List.map_cons, List.map_nil]); first | done | rfl | (simp only [List.length_drop, List.length_take]; rfl)) ?_; (with_reducible refine (copydesklaw03_sane.calls  true _ A2.out).mono ?_); rintro e w8 ⟨rfl, hb⟩; refine ⟨_, rfl, ?_⟩; have n0_ := Aside0.mk (below_step (by repeat (first | (with_reducible first | exact HB.out | apply below_alloc | apply pw_below_drewN | apply below_drew1) | exact HB.out)) hb); clear HB; have HB := n0_; clear n0_; (try clear hb); (try clear hb2); (try clear hk); (try clear hi)) | ((with_reducible refine gate_callee (f := 18) rfl ?_); refine goesL_ (some 10) rfl rfl Tryd.func18 (by kernel_rfl) rfl #[.slice A0 l0.length c0] rfl (by (try simp only [List.map_toArray, List.map_cons, List.map_nil]); first | done | rfl | (simp only [List.length_drop, List.length_take]; rfl)) ?_; (with_reducible refine (copydesklaw03_short.calls k (fun k_ => k_ < w.heap.size) _ _ l0 t222 _ ?side1 A3.out).mono ?_); (case side1 => exact Kd.V_mk HC0.out (Kd.F_below (Kd.C_F k26_heap HR0.out) (by repeat (first | (with_reducible first | exact HB.out | apply below_alloc | apply pw_below_drewN | apply below_drew1) | exact HB.out)))); rintro e w9 ⟨v223, rfl, ho0, hb⟩; refine ⟨_, rfl, ?_⟩; have n0_ := Aside0.mk (Kd.N_lower (Kd.N_mono (ok' := fun k_ => True) ho0 (fun k_ hk_ => trivial)) (below_size (by repeat (first | (with_reducible first | exact HB.out | apply below_alloc | apply pw_below_drewN | apply below_drew1) | exact HB.out)))); have n1_ := Aside0.mk (below_step (by repeat (first | (with_reducible first | exact HB.out | apply below_alloc | apply pw_below_drewN | apply below_drew1) | exact HB.out)) hb); clear HB; have HO224 := n0_; have HB := n1_; clear n0_ n1_; (try clear hb); (try clear hb2); (try clear hk); (try clear hi); (try clear ho0); obtain ⟨Ao10, co10, eo10⟩ := Kd.N_slice HO224.out; subst eo10) | ((with_reducible refine gate_callee (f := 27) rfl ?_); refine goesL_ (some 13) rfl rfl Tryd.func27 (by kernel_rfl) rfl #[.slice Ao10 t222.length co10] rfl (by (try simp only [List.map_toArray, List.map_cons, List.map_nil]); first | done | rfl | (simp only [List.length_drop, List.length_take]; rfl)) ?_; (with_reducible refine (block_Encode.calls _ _ t222 t225 t226 _ ?side1 ?side2 A4.out).mono ?_); (case side1 => repeat (first | exact (Kd.N_reads' HO224.out).2.2 | (with_reducible refine Kd.C_alloc ?_ _) | (with_reducible refine Kd.C_drewN ?_ _) | (with_reducible refine Kd.C_drew ?_))); (case side2 => exact (Kd.N_reads' HO224.out).2.1); rintro e w11 ⟨rfl, hb⟩; refine ⟨_, rfl, ?_⟩; have n0_ := Aside0.mk (Kd.N_below (by (with_reducible repeat (first | apply Kd.N_alloc | apply Kd.N_drewN | apply Kd.N_drew)); exact HO224.out) hb); have n1_ := Aside0.mk (below_step (by repeat (first | (with_reducible first | exact HB.out | apply below_alloc | apply pw_below_drewN | apply below_drew1) | exact HB.out)) hb); clear HO224; clear HB; have HO224 := n0_; have HB := n1_; clear n0_ n1_; (try clear hb); (try clear hb2); (try clear hk); (try clear hi)) | ((with_reducible refine gate_callee (f := 28) rfl ?_); refine goesL_ (some 18) rfl rfl Tryd.func28 (by kernel_rfl) rfl #[.slice Ao10 t222.length co10] rfl (by (try simp only [List.map_toArray, List.map_cons, List.map_nil]); first | done | rfl | (simp only [List.length_drop, List.length_take]; rfl)) ?_; (with_reducible refine (copydeskref03_Encode.calls k _ _ t222 t227 t228 _ ?side1 ?side2 A5.out).mono ?_); (case side1 => repeat (first | exact (Kd.N_reads' HO224.out).2.2 | (with_reducible refine Kd.C_alloc ?_ _) | (with_reducible refine Kd.C_drewN ?_ _) | (with_reducible refine Kd.C_drew ?_))); (case side2 => exact (Kd.N_reads' HO224.out).2.1); rintro e w12 ⟨rfl, hb⟩; refine ⟨_, rfl, ?_⟩; have n0_ := Aside0.mk (Kd.N_below (by (with_reducible repeat (first | apply Kd.N_alloc | apply Kd.N_drewN | apply Kd.N_drew)); exact HO224.out) hb); have n1_ := Aside0.mk (below_step (by repeat (first | (with_reducible first | exact HB.out | apply below_alloc | apply pw_below_drewN | apply below_drew1) | exact HB.out)) hb); clear HO224; clear HB; have HO224 := n0_; have HB := n1_; clear n0_ n1_; (try clear hb); (try clear hb2); (try clear hk); (try clear hi)))
      go_ret
      exact ⟨by first | rfl | (simp [errW_none, errW_some] <;> rfl) | (simp [*, errW_none, errW_some] <;> rfl), by repeat (first | (with_reducible first | exact HB.out | apply below_alloc | apply pw_below_drewN | apply below_drew1) | exact HB.out)⟩
    · rw [if_neg c7] at H
      have c7b0 : (t225.toList == t227.toList) = false := beq_eq_false_iff_ne.mpr c7
      have c7b1 : (t225.toList != t227.toList) = true := bne_iff_ne.mpr c7
      obtain rfl := Option.some.inj H
      go_enter Tryd.func5, Tryd.ntmps5
      go_wp2_with (first | ((with_reducible refine gate_callee (f := 17) rfl ?_); refine goesL_ (some 8) rfl rfl Tryd.func17 (by kernel_rfl) rfl #[] rfl (by (try simp only [List.map_toArray, List.map_cons, List.map_nil]); first | done | rfl | (simp only [List.length_drop, List.length_take]; rfl)) ?_; (with_reducible refine (copydesklaw03_sane.calls  true _ A2.out).mono ?_); rintro e w13 ⟨rfl, hb⟩; refine ⟨_, rfl, ?_⟩; have n0_ := Aside0.mk (below_step (by repeat (first | (with_reducible first | exact HB.out | apply below_alloc | apply pw_below_drewN | apply below_drew1) | exact HB.out)) hb); clear HB; have HB := n0_; clear n0_; (try clear hb); (try clear hb2); (try clear hk); (try clear hi)) | ((with_reducible refine gate_callee (f := 18) rfl ?_); refine goesL_ (some 10) rfl rfl Tryd.func18 (by kernel_rfl) rfl #[.slice A0 l0.length c0] rfl (by (try simp only [List.map_toArray, List.map_cons, List.map_nil]); first | done | rfl | (simp only [List.length_drop, List.length_take]; rfl)) ?_; (with_reducible refine (copydesklaw03_short.calls k (fun k_ => k_ < w.heap.size) _ _ l0 t222 _ ?side1 A3.out).mono ?_); (case side1 => exact Kd.V_mk HC0.out (Kd.F_below (Kd.C_F k26_heap HR0.out) (by repeat (first | (with_reducible first | exact HB.out | apply below_alloc | apply pw_below_drewN | apply below_drew1) | exact HB.out)))); rintro e w14 ⟨v223, rfl, ho0, hb⟩; refine ⟨_, rfl, ?_⟩; have n0_ := Aside0.mk (Kd.N_lower (Kd.N_mono (ok' := fun k_ => True) ho0 (fun k_ hk_ => trivial)) (below_size (by repeat (first | (with_reducible first | exact HB.out | apply below_alloc | apply pw_below_drewN | apply below_drew1) | exact HB.out)))); have n1_ := Aside0.mk (below_step (by repeat (first | (with_reducible first | exact HB.out | apply below_alloc | apply pw_below_drewN | apply below_drew1) | exact HB.out)) hb); clear HB; have HO224 := n0_; have HB := n1_; clear n0_ n1_; (try clear hb); (try clear hb2); (try clear hk); (try clear hi); (try clear ho0); obtain ⟨Ao15, co15, eo15⟩ := Kd.N_slice HO224.out; subst eo15) | ((with_reducible refine gate_callee (f := 27) rfl ?_); refine goesL_ (some 13) rfl rfl Tryd.func27 (by kernel_rfl) rfl #[.slice Ao15 t222.length co15] rfl (by (try simp only [List.map_toArray, List.map_cons, List.map_nil]); first | done | rfl | (simp only [List.length_drop, List.length_take]; rfl)) ?_; (with_reducible refine (block_Encode.calls _ _ t222 t225 t226 _ ?side1 ?side2 A4.out).mono ?_); (case side1 => repeat (first | exact (Kd.N_reads' HO224.out).2.2 | (with_reducible refine Kd.C_alloc ?_ _) | (with_reducible refine Kd.C_drewN ?_ _) | (with_reducible refine Kd.C_drew ?_))); (case side2 => exact (Kd.N_reads' HO224.out).2.1); rintro e w16 ⟨rfl, hb⟩; refine ⟨_, rfl, ?_⟩; have n0_ := Aside0.mk (Kd.N_below (by (with_reducible repeat (first | apply Kd.N_alloc | apply Kd.N_drewN | apply Kd.N_drew)); exact HO224.out) hb); have n1_ := Aside0.mk (below_step (by repeat (first | (with_reducible first | exact HB.out | apply below_alloc | apply pw_below_drewN | apply below_drew1) | exact HB.out)) hb); clear HO224; clear HB; have HO224 := n0_; have HB := n1_; clear n0_ n1_; (try clear hb); (try clear hb2); (try clear hk); (try clear hi)) | ((with_reducible refine gate_callee (f := 28) rfl ?_); refine goesL_ (some 18) rfl rfl Tryd.func28 (by kernel_rfl) rfl #[.slice Ao15 t222.length co15] rfl (by (try simp only [List.map_toArray, List.map_cons, List.map_nil]); first | done | rfl | (simp only [List.length_drop, List.length_take]; rfl)) ?_; (with_reducible refine (copydeskref03_Encode.calls k _ _ t222 t227 t228 _ ?side1 ?side2 A5.out).mono ?_); (case side1 => repeat (first | exact (Kd.N_reads' HO224.out).2.2 | (with_reducible refine Kd.C_alloc ?_ _) | (with_reducible refine Kd.C_drewN ?_ _) | (with_reducible refine Kd.C_drew ?_))); (case side2 => exact (Kd.N_reads' HO224.out).2.1); rintro e w17 ⟨rfl, hb⟩; refine ⟨_, rfl, ?_⟩; have n0_ := Aside0.mk (Kd.N_below (by (with_reducible repeat (first | apply Kd.N_alloc | apply Kd.N_drewN | apply Kd.N_drew)); exact HO224.out) hb); have n1_ := Aside0.mk (below_step (by repeat (first | (with_reducible first | exact HB.out | apply below_alloc | apply pw_below_drewN | apply below_drew1) | exact HB.out)) hb); clear HO224; clear HB; have HO224 := n0_; have HB := n1_; clear n0_ n1_; (try clear hb); (try clear hb2); (try clear hk); (try clear hi)))
      go_ret
      exact ⟨by first | rfl | (simp [errW_none, errW_some] <;> rfl) | (simp [*, errW_none, errW_some] <;> rfl), by repeat (first | (with_reducible first | exact HB.out | apply below_alloc | apply pw_below_drewN | apply below_drew1) | exact HB.out)⟩
  · replace c6 := Bool.eq_false_iff.mpr c6
    subst c6
    have H1 : (some false) = some r := by rw [if_neg (show ¬ (false = true) by decide)] at H; exact H
    clear H
    have H := H1
    clear H1
    obtain rfl := Option.some.inj H
    go_enter Tryd.func5, Tryd.ntmps5
    go_wp2_with (first | ((with_reducible refine gate_callee (f := 17) rfl ?_); refine goesL_ (some 8) rfl rfl Tryd.func17 (by kernel_rfl) rfl #[] rfl (by (try simp only [List.map_toArray, List.map_cons, List.map_nil]); first | done | rfl | (simp only [List.length_drop, List.length_take]; rfl)) ?_; (with_reducible refine (copydesklaw03_sane.calls  false _ A2.out).mono ?_); rintro e w18 ⟨rfl, hb⟩; refine ⟨_, rfl, ?_⟩; have n0_ := Aside0.mk (below_step (by repeat (first | (with_reducible first | exact HB.out | apply below_alloc | apply pw_below_drewN | apply below_drew1) | exact HB.out)) hb); clear HB; have HB := n0_; clear n0_; (try clear hb); (try clear hb2); (try clear hk); (try clear hi)) | ((with_reducible refine gate_callee (f := 18) rfl ?_); refine goesL_ (some 10) rfl rfl Tryd.func18 (by kernel_rfl) rfl #[.slice A0 l0.length c0] rfl (by (try simp only [List.map_toArray, List.map_cons, List.map_nil]); first | done | rfl | (simp only [List.length_drop, List.length_take]; rfl)) ?_; (with_reducible refine (copydesklaw03_short.calls k (fun k_ => k_ < w.heap.size) _ _ l0 t222 _ ?side1 A3.out).mono ?_); (case side1 => exact Kd.V_mk HC0.out (Kd.F_below (Kd.C_F k26_heap HR0.out) (by repeat (first | (with_reducible first | exact HB.out | apply below_alloc | apply pw_below_drewN | apply below_drew1) | exact HB.out)))); rintro e w19 ⟨v223, rfl, ho0, hb⟩; refine ⟨_, rfl, ?_⟩; have n0_ := Aside0.mk (Kd.N_lower (Kd.N_mono (ok' := fun k_ => True) ho0 (fun k_ hk_ => trivial)) (below_size (by repeat (first | (with_reducible first | exact HB.out | apply below_alloc | apply pw_below_drewN | apply below_drew1) | exact HB.out)))); have n1_ := Aside0.mk (below_step (by repeat (first | (with_reducible first | exact HB.out | apply below_alloc | apply pw_below_drewN | apply below_drew1) | exact HB.out)) hb); clear HB; have HO224 := n0_; have HB := n1_; clear n0_ n1_; (try clear hb); (try clear hb2); (try clear hk); (try clear hi); (try clear ho0); obtain ⟨Ao20, co20, eo20⟩ := Kd.N_slice HO224.out; subst eo20) | ((with_reducible refine gate_callee (f := 27) rfl ?_); refine goesL_ (some 13) rfl rfl Tryd.func27 (by kernel_rfl) rfl #[.slice Ao20 t222.length co20] rfl (by (try simp only [List.map_toArray, List.map_cons, List.map_nil]); first | done | rfl | (simp only [List.length_drop, List.length_take]; rfl)) ?_; (with_reducible refine (block_Encode.calls _ _ t222 t225 t226 _ ?side1 ?side2 A4.out).mono ?_); (case side1 => repeat (first | exact (Kd.N_reads' HO224.out).2.2 | (with_reducible refine Kd.C_alloc ?_ _) | (with_reducible refine Kd.C_drewN ?_ _) | (with_reducible refine Kd.C_drew ?_))); (case side2 => exact (Kd.N_reads' HO224.out).2.1); rintro e w21 ⟨rfl, hb⟩; refine ⟨_, rfl, ?_⟩; have n0_ := Aside0.mk (Kd.N_below (by (with_reducible repeat (first | apply Kd.N_alloc | apply Kd.N_drewN | apply Kd.N_drew)); exact HO224.out) hb); have n1_ := Aside0.mk (below_step (by repeat (first | (with_reducible first | exact HB.out | apply below_alloc | apply pw_below_drewN | apply below_drew1) | exact HB.out)) hb); clear HO224; clear HB; have HO224 := n0_; have HB := n1_; clear n0_ n1_; (try clear hb); (try clear hb2); (try clear hk); (try clear hi)) | ((with_reducible refine gate_callee (f := 28) rfl ?_); refine goesL_ (some 18) rfl rfl Tryd.func28 (by kernel_rfl) rfl #[.slice Ao20 t222.length co20] rfl (by (try simp only [List.map_toArray, List.map_cons, List.map_nil]); first | done | rfl | (simp only [List.length_drop, List.length_take]; rfl)) ?_; (with_reducible refine (copydeskref03_Encode.calls k _ _ t222 t227 t228 _ ?side1 ?side2 A5.out).mono ?_); (case side1 => repeat (first | exact (Kd.N_reads' HO224.out).2.2 | (with_reducible refine Kd.C_alloc ?_ _) | (with_reducible refine Kd.C_drewN ?_ _) | (with_reducible refine Kd.C_drew ?_))); (case side2 => exact (Kd.N_reads' HO224.out).2.1); rintro e w22 ⟨rfl, hb⟩; refine ⟨_, rfl, ?_⟩; have n0_ := Aside0.mk (Kd.N_below (by (with_reducible repeat (first | apply Kd.N_alloc | apply Kd.N_drewN | apply Kd.N_drew)); exact HO224.out) hb); have n1_ := Aside0.mk (below_step (by repeat (first | (with_reducible first | exact HB.out | apply below_alloc | apply pw_below_drewN | apply below_drew1) | exact HB.out)) hb); clear HO224; clear HB; have HO224 := n0_; have HB := n1_; clear n0_ n1_; (try clear hb); (try clear hb2); (try clear hk); (try clear hi)))
    go_ret
    exact ⟨by first | rfl | (simp [errW_none, errW_some] <;> rfl) | (simp [*, errW_none, errW_some] <;> rfl), by repeat (first | (with_reducible first | exact HB.out | apply below_alloc | apply pw_below_drewN | apply below_drew1) | exact HB.out)⟩
end Go.Proofs.YtpgjhjlhipikgaaDoor.PK
end
