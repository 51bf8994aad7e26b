/- Texts of this claim, one behind the other. -/
import Derived.Test.YtkhgdglaophkbaaGreatDoorMUx2
import Derived.Test.YtkhgdglaophkbaaGreatDoorMUx4
import Derived.Test.YtkhgdglaophkbaaGreatDoorMUx7
import Derived.Test.YtkhgdglaophkbaaGreatDoorMUx6
import Derived.Deep.Cut
import Derived.Deep.RegionWith
section
set_option linter.unusedVariables false
set_option linter.unusedSimpArgs false
namespace Go.Proofs.YtkhgdglaophkbaaGreatDoor.PK
open Go.RowKit Go.Proofs.YtkhgdglaophkbaaGreatDoorW.PrintWords Go.Proofs.YtkhgdglaophkbaaGreatDoorW.PrintLast Go.Proofs.YtkhgdglaophkbaaGreatDoorW.PrintMore
set_option maxHeartbeats 8000000 in
set_option maxRecDepth 100000 in
theorem fact_right.walk4 (f : Fa) (A9f : Option Addr) (c9f : Nat) (A10f : Option Addr) (c10f : Nat) (A12f : Option Addr) (c12f : Nat) (w : World) (hk : f.f2 = 4)
    (l9 : f.f9.length ≤ c9f) (h9 : Kd.string.C w A9f f.f9.length f.f9) (l10 : f.f10.length ≤ c10f) (h10 : k49.C w A10f f.f10.length f.f10) (l12 : f.f11.f1.length ≤ c12f) (h12 : (Kd.int .i64).C w A12f f.f11.f1.length f.f11.f1) :
    Calls Tryz.prog 30 #[.agg #[.int .i64 f.f0, .int .i64 f.f1, .int .i64 f.f2, .int .i64 f.f3, .string f.f4, .int .i64 f.f5, .int .i64 f.f6, .string f.f7, .string f.f8, .slice A9f f.f9.length c9f, .slice A10f f.f10.length c10f, .int .i64 f.f11.f0, .slice A12f f.f11.f1.length c12f, .int .i64 f.f11.f2, .int .i64 f.f11.f3, .int .i64 f.f12, .int .i64 f.f13, .int .i64 f.f14, .string f.f15, .string f.f16, .int .i64 f.f17, .int .i64 f.f18, .int .i64 f.f19]] w fun e w' => ∃ cs, e = .returned (.tuple #[.bool (m_used f), .agg cs]) ∧ faK w' (m_rest f) cs ∧ Below w.heap.size w w' := by
  have H9 := Aside0.mk h9
  have H10 := Aside0.mk h10
  have H12 := Aside0.mk h12
  have HK := Aside0.mk hk
  clear h9 h10 h12 hk
  go_enter Tryz.func30, Tryz.ntmps30
  go_wp2_with (with_reducible refine is_box rfl ?_; refine Rg.stop_here ?_)
  refine ⟨?_⟩
  refine box_event rfl (N := 1) rfl (cs := #[.int .i64 f.f0, .int .i64 f.f1, .int .i64 f.f2, .int .i64 f.f3, .string f.f4, .int .i64 f.f5, .int .i64 f.f6, .string f.f7, .string f.f8, .slice A9f f.f9.length c9f, .slice A10f f.f10.length c10f, .int .i64 f.f11.f0, .slice A12f f.f11.f1.length c12f, .int .i64 f.f11.f2, .int .i64 f.f11.f3, .int .i64 f.f12, .int .i64 f.f13, .int .i64 f.f14, .string f.f15, .string f.f16, .int .i64 f.f17, .int .i64 f.f18, .int .i64 f.f19]) (t := 28) (by first | (go_simp; done) | (go_simp; rfl)) ?_
  intro p1 hp1 w1 hbx1 hb1
  have hg1 : w.heap.size ≤ p1 := Nat.le_of_eq hp1.symm
  have HX1 := Aside0.mk hbx1
  have HB1 := Aside0.mk hb1
  clear hp1 hb1 hbx1
  go_wp2_with (with_reducible refine is_alloc rfl ?_; refine Rg.stop_here ?_)
  refine ⟨?_⟩
  refine box_event rfl (N := 3) rfl (cs := #[.int .i64 0, .int .i64 0, .int .i64 0, .int .i64 0, .string (⟨#[]⟩ : ByteArray), .int .i64 0, .int .i64 0, .string (⟨#[]⟩ : ByteArray), .string (⟨#[]⟩ : ByteArray), .slice none 0 0, .slice none 0 0, .int .i64 0, .slice none 0 0, .int .i64 0, .int .i64 0, .int .i64 0, .int .i64 0, .int .i64 0, .string (⟨#[]⟩ : ByteArray), .string (⟨#[]⟩ : ByteArray), .int .i64 0, .int .i64 0, .int .i64 0]) (t := 28) (by first | (go_simp; done) | (go_simp; rfl)) ?_
  intro p3 hp3 w2 hbx3 hb3
  have hl1 := blk_lt HX1.out
  have h13 : p1 ≠ p3 := by omega
  have hg3 : w.heap.size ≤ p3 := by have := HB1.out.size; omega
  have HX1 := Aside0.mk (bk_heap_below HX1.out hb3)
  have HX3 := Aside0.mk hbx3
  have HB2 := Aside0.mk (below_step HB1.out hb3)
  clear hp3 hbx3 hb3 hl1 HB1
  go_wp2_with (with_reducible refine is_loadF rfl ?_; refine Rg.stop_here ?_)
  refine ⟨?_⟩
  refine wpList_load_row rfl 28 _ rfl p1 rfl _ _ _ _ HX1.out Tryz.underlying28 rfl fa_size ?_
  go_wp2_with (with_reducible refine is_alloc rfl ?_; refine Rg.stop_here ?_)
  refine ⟨?_⟩
  refine box_event rfl (N := 4) rfl (cs := #[.int .i64 0, .int .i64 0, .int .i64 0, .int .i64 0, .string (⟨#[]⟩ : ByteArray), .int .i64 0, .int .i64 0, .string (⟨#[]⟩ : ByteArray), .string (⟨#[]⟩ : ByteArray), .slice none 0 0, .slice none 0 0, .int .i64 0, .slice none 0 0, .int .i64 0, .int .i64 0, .int .i64 0, .int .i64 0, .int .i64 0, .string (⟨#[]⟩ : ByteArray), .string (⟨#[]⟩ : ByteArray), .int .i64 0, .int .i64 0, .int .i64 0]) (t := 28) (by first | (go_simp; done) | (go_simp; rfl)) ?_
  intro p4 hp4 w3 hbx4 hb4
  have hl1 := blk_lt HX1.out
  have hl3 := blk_lt HX3.out
  have h14 : p1 ≠ p4 := by omega
  have h34 : p3 ≠ p4 := by omega
  have hg4 : w.heap.size ≤ p4 := by have := HB2.out.size; omega
  have HX1 := Aside0.mk (bk_heap_below HX1.out hb4)
  have HX3 := Aside0.mk (bk_heap_below HX3.out hb4)
  have HB3 := Aside0.mk (below_step HB2.out hb4)
  clear hp4 hb4 hl1 hl3 HB2
  go_wp2_with (with_reducible refine is_store rfl ?_; refine Rg.stop_here ?_)
  refine ⟨?_⟩
  refine wpList_store_box rfl rfl _ _ _ rfl p4 _ _ _ rfl rfl hbx4 fa_size rfl (by repeat (first | exact List.forall_mem_nil _ | refine List.forall_mem_cons.2 ⟨rfl, ?_⟩)) ?_
  intro w4 hx4 hst hot
  have HX4 := Aside0.mk hx4
  have HX1 := Aside0.mk ((hot p1 h14).trans HX1.out)
  have HX3 := Aside0.mk ((hot p3 h34).trans HX3.out)
  have HB := Aside0.mk (show Below w.heap.size w w4 from ⟨(hst p4 (Nat.le_refl _)).os.trans HB3.out.os, (hst p4 (Nat.le_refl _)).tape.trans HB3.out.tape, (hst p4 (Nat.le_refl _)).output.trans HB3.out.output, Nat.le_trans HB3.out.size (hst p4 (Nat.le_refl _)).size, fun k hk => (hot k (by omega)).trans (HB3.out.block k hk)⟩)
  clear hbx4 hx4 hst hot HB3
  have c3 := bk_cell HX1.out 3
  have c20 := bk_cell HX1.out 20
  have c22 := bk_cell HX1.out 22
  go_upto_region 3 with (first | (go_at_call 31; (with_reducible refine (fr_within f.f3 1 64 _).mono ?_); rintro e wa ⟨rfl, hd⟩; obtain ⟨m, rfl⟩ := fr_drawn hd))
  go_cut [6] from 12 to 19 (fun v6 wx => v6 = .bool (m_in f.f17 1 8 && m_in f.f19 0 1000000000) ∧ ∃ nq, wx = w4.drewN nq)
  case first =>
    have HF := Aside0.mk (fr_within f.f17 1 8)
    cases hB : m_in f.f17 1 8 with
    | false =>
      rw [hB] at HF
      have HBB := Aside0.mk hB
      clear hB
      go_wp2_with (go_at_call 31; (with_reducible refine (HF.out _).mono ?_); rintro e wb ⟨rfl, hd2⟩; obtain ⟨m2, rfl⟩ := fr_drawn hd2)
      go_meet
      exact ⟨by rw [HBB.out]; rfl, _, by first | rfl | exact (World.drewN_drewN _ _ _)⟩
    | true =>
      rw [hB] at HF
      have HBB := Aside0.mk hB
      clear hB
      go_wp2_with (first | (go_at_call 31; (with_reducible refine (HF.out _).mono ?_); rintro e wb ⟨rfl, hd2⟩; obtain ⟨m2, rfl⟩ := fr_drawn hd2) | (go_at_call 31; (with_reducible refine (fr_within f.f19 0 1000000000 _).mono ?_); rintro e wc ⟨rfl, hd3⟩; obtain ⟨m3, rfl⟩ := fr_drawn hd3))
      go_meet
      exact ⟨by rw [HBB.out]; rfl, _, by first | rfl | exact (World.drewN_drewN _ _ _)⟩
  case rest =>
  obtain ⟨rfl, nq, rfl⟩ := hcut
  clear c3 c20 c22
  obtain ⟨w5, hw5⟩ : ∃ w5, w4.drewN nq = w5 := ⟨_, rfl⟩
  have HX1 : Aside0 (w5.heap[p1]? = some (.cells #[.int .i64 f.f0, .int .i64 f.f1, .int .i64 f.f2, .int .i64 f.f3, .string f.f4, .int .i64 f.f5, .int .i64 f.f6, .string f.f7, .string f.f8, .slice A9f f.f9.length c9f, .slice A10f f.f10.length c10f, .int .i64 f.f11.f0, .slice A12f f.f11.f1.length c12f, .int .i64 f.f11.f2, .int .i64 f.f11.f3, .int .i64 f.f12, .int .i64 f.f13, .int .i64 f.f14, .string f.f15, .string f.f16, .int .i64 f.f17, .int .i64 f.f18, .int .i64 f.f19] 28 (0, 0))) := ⟨by rw [← hw5]; exact HX1.out⟩
  have HX3 : Aside0 (w5.heap[p3]? = some (.cells #[.int .i64 0, .int .i64 0, .int .i64 0, .int .i64 0, .string (⟨#[]⟩ : ByteArray), .int .i64 0, .int .i64 0, .string (⟨#[]⟩ : ByteArray), .string (⟨#[]⟩ : ByteArray), .slice none 0 0, .slice none 0 0, .int .i64 0, .slice none 0 0, .int .i64 0, .int .i64 0, .int .i64 0, .int .i64 0, .int .i64 0, .string (⟨#[]⟩ : ByteArray), .string (⟨#[]⟩ : ByteArray), .int .i64 0, .int .i64 0, .int .i64 0] 28 (0, 0))) := ⟨by rw [← hw5]; exact HX3.out⟩
  have HX4 : Aside0 (w5.heap[p4]? = some (.cells #[.int .i64 f.f0, .int .i64 f.f1, .int .i64 f.f2, .int .i64 f.f3, .string f.f4, .int .i64 f.f5, .int .i64 f.f6, .string f.f7, .string f.f8, .slice A9f f.f9.length c9f, .slice A10f f.f10.length c10f, .int .i64 f.f11.f0, .slice A12f f.f11.f1.length c12f, .int .i64 f.f11.f2, .int .i64 f.f11.f3, .int .i64 f.f12, .int .i64 f.f13, .int .i64 f.f14, .string f.f15, .string f.f16, .int .i64 f.f17, .int .i64 f.f18, .int .i64 f.f19] 28 (0, 0))) := ⟨by rw [← hw5]; exact HX4.out⟩
  have HB := Aside0.mk (show Below w.heap.size w w5 by rw [← hw5]; exact pw_below_drewN HB.out nq)
  rw [hw5]
  clear hw5
  have hk := HK.out
  · have HKD := Aside0.mk hk
    have e1 : (f.f2 == 1) = false := by rw [hk]; rfl
    have e2 : (f.f2 == 2) = false := by rw [hk]; rfl
    have e3 : (f.f2 == 3) = false := by rw [hk]; rfl
    have e4 : (f.f2 == 4) = true := by rw [hk]; rfl
    clear hk
    have c2 := bk_cell HX1.out 2
    have d3 := bk_cell HX4.out 3
    have z3 := bk_frozen HX4.out 3
    have d4 := bk_cell HX4.out 4
    have z4 := bk_frozen HX4.out 4
    have d16 := bk_cell HX4.out 16
    have z16 := bk_frozen HX4.out 16
    have d17 := bk_cell HX4.out 17
    have z17 := bk_frozen HX4.out 17
    have d18 := bk_cell HX4.out 18
    have z18 := bk_frozen HX4.out 18
    go_upto_region 16 with fail
    go_cut [] from 105 to 109 (fun wx => wx.heap[p4]? = some (.cells #[.int .i64 f.f0, .int .i64 f.f1, .int .i64 f.f2, .int .i64 0, .string (⟨#[]⟩ : ByteArray), .int .i64 f.f5, .int .i64 f.f6, .string f.f7, .string f.f8, .slice A9f f.f9.length c9f, .slice A10f f.f10.length c10f, .int .i64 f.f11.f0, .slice A12f f.f11.f1.length c12f, .int .i64 f.f11.f2, .int .i64 f.f11.f3, .int .i64 f.f12, .int .i64 0, .int .i64 0, .string (⟨#[]⟩ : ByteArray), .string f.f16, .int .i64 f.f17, .int .i64 f.f18, .int .i64 f.f19] 28 (0, 0)) ∧ wx.heap[p1]? = some (.cells #[.int .i64 f.f0, .int .i64 f.f1, .int .i64 f.f2, .int .i64 f.f3, .string f.f4, .int .i64 f.f5, .int .i64 f.f6, .string f.f7, .string f.f8, .slice A9f f.f9.length c9f, .slice A10f f.f10.length c10f, .int .i64 f.f11.f0, .slice A12f f.f11.f1.length c12f, .int .i64 f.f11.f2, .int .i64 f.f11.f3, .int .i64 f.f12, .int .i64 f.f13, .int .i64 f.f14, .string f.f15, .string f.f16, .int .i64 f.f17, .int .i64 f.f18, .int .i64 f.f19] 28 (0, 0)) ∧ wx.heap[p3]? = some (.cells #[.int .i64 0, .int .i64 0, .int .i64 0, .int .i64 0, .string (⟨#[]⟩ : ByteArray), .int .i64 0, .int .i64 0, .string (⟨#[]⟩ : ByteArray), .string (⟨#[]⟩ : ByteArray), .slice none 0 0, .slice none 0 0, .int .i64 0, .slice none 0 0, .int .i64 0, .int .i64 0, .int .i64 0, .int .i64 0, .int .i64 0, .string (⟨#[]⟩ : ByteArray), .string (⟨#[]⟩ : ByteArray), .int .i64 0, .int .i64 0, .int .i64 0] 28 (0, 0)) ∧ Below w.heap.size w wx)
    case first =>
      go_wp2_with fail
      go_meet
      have g0_ := HX4.out
      have g1_ := blk_set g0_ 3 (.int .i64 0)
      simp only [List.setIfInBounds_toArray, List.set_cons_zero, List.set_cons_succ] at g1_
      clear g0_
      have g2_ := blk_set g1_ 4 (.string ⟨#[]⟩)
      simp only [List.setIfInBounds_toArray, List.set_cons_zero, List.set_cons_succ] at g2_
      clear g1_
      have g3_ := blk_set g2_ 16 (.int .i64 0)
      simp only [List.setIfInBounds_toArray, List.set_cons_zero, List.set_cons_succ] at g3_
      clear g2_
      have g4_ := blk_set g3_ 17 (.int .i64 0)
      simp only [List.setIfInBounds_toArray, List.set_cons_zero, List.set_cons_succ] at g4_
      clear g3_
      have g5_ := blk_set g4_ 18 (.string ⟨#[]⟩)
      simp only [List.setIfInBounds_toArray, List.set_cons_zero, List.set_cons_succ] at g5_
      clear g4_
      exact ⟨g5_, ((Below.heap_setCell _ _ _ _ h14).trans ((Below.heap_setCell _ _ _ _ h14).trans ((Below.heap_setCell _ _ _ _ h14).trans ((Below.heap_setCell _ _ _ _ h14).trans ((Below.heap_setCell _ _ _ _ h14).trans HX1.out))))), ((Below.heap_setCell _ _ _ _ h34).trans ((Below.heap_setCell _ _ _ _ h34).trans ((Below.heap_setCell _ _ _ _ h34).trans ((Below.heap_setCell _ _ _ _ h34).trans ((Below.heap_setCell _ _ _ _ h34).trans HX3.out))))), (Below.setCell (Below.setCell (Below.setCell (Below.setCell (Below.setCell HB.out hg4 _) hg4 _) hg4 _) hg4 _) hg4 _)⟩
    case rest =>
    obtain ⟨hx4, hx1, hx3, hB⟩ := hcut
    have HX1 := Aside0.mk hx1
    have HB := Aside0.mk hB
    clear hx1 hB d3 z3 d4 z4 d16 z16 d17 z17 d18 z18 c2 e1 e2 e3 e4
    obtain ⟨w6, hw6⟩ : ∃ w6, wc = w6 := ⟨_, rfl⟩
    rw [hw6] at HX1 HB hx4 hx3 ⊢
    clear hw6
    have c4 := bk_cell HX1.out 4
    have c16 := bk_cell HX1.out 16
    have c17 := bk_cell HX1.out 17
    have c18 := bk_cell HX1.out 18
    go_wp2_with fail
    refine rg_start [23] (by kernel_rfl) rfl ?_
    refine rg_pure (N := some 110) 0 (v := _) rfl rfl (by kernel_rfl) (fun _ _ _ h => h) rfl (fun w' => by go_simp <;> with_reducible rfl) (by dsimp only [Act.put, List.setIfInBounds_toArray, List.set_cons_zero, List.set_cons_succ, ↓reduceIte]) ?_
    refine rg_pure (N := some 111) 1 (v := _) rfl rfl (by kernel_rfl) (fun _ _ _ h => h) rfl (fun w' => by go_simp <;> with_reducible rfl) (by dsimp only [Act.put, List.setIfInBounds_toArray, List.set_cons_zero, List.set_cons_succ, ↓reduceIte]) ?_
    refine rg_pureG (N := some 112) 2 (m_in f.f3 1 64) (_) rfl rfl (by kernel_rfl) (fun _ _ _ h => h) (rg_wantT rfl (by kernel_rfl)) (fun hb_ w' => by go_simp <;> with_reducible rfl) (by dsimp only [Act.put, List.setIfInBounds_toArray, List.set_cons_zero, List.set_cons_succ, ↓reduceIte]) ?_
    refine rg_loadG (N := some 113) 3 (m_in f.f3 1 64) _ rfl rfl (by kernel_rfl) (fun _ _ _ h => h) (rg_wantT rfl (by kernel_rfl)) (below_drew1 (Below.refl _ _)) (fun hb_ w' hS' => by have c_ := rg_get hS' c4; go_simp <;> with_reducible rfl) (by dsimp only [Act.put, List.setIfInBounds_toArray, List.set_cons_zero, List.set_cons_succ, ↓reduceIte]) ?_
    refine rg_load (N := some 131) 21 rfl rfl (by kernel_rfl) (fun _ _ _ h => h) rfl (below_drew1 (Below.refl _ _)) (fun w' hS' => rg_runRow _ _ rfl p4 (by kernel_rfl) _ _ _ _ (rg_blk hS' hx4) Tryz.underlying28 rfl fa_size) (by dsimp only [Act.put, List.setIfInBounds_toArray, List.set_cons_zero, List.set_cons_succ, ↓reduceIte]) ?_
    refine rg_call (N := some 114) 4 (m_in f.f3 1 64) (.bool (m_name f.f4)) #[.string f.f4] rfl rfl (by kernel_rfl) (by decide) (rg_wantT rfl (by kernel_rfl)) Tryz.func46 (by kernel_rfl) rfl rfl (fun hb_ => rg_args1 (by go_simp)) (below_drew1 (Below.refl _ _)) (fun hb_ w1 h1 => (fr_name f.f4 w1).mono (fun e w2 h => ⟨h.1, rg_drawn h1 h.2⟩)) (by dsimp only [Act.put, List.setIfInBounds_toArray, List.set_cons_zero, List.set_cons_succ, ↓reduceIte]) (fun wq1 hq1 => ?_)
    refine rg_pure (N := some 115) 5 (v := .bool ((m_in f.f3 1 64) && ((m_name f.f4)))) rfl rfl (by kernel_rfl) (fun _ _ _ h => h) rfl (fun w' => rg_runAnd rfl (by kernel_rfl) (fun h_ => by go_simp)) (by dsimp only [Act.put, List.setIfInBounds_toArray, List.set_cons_zero, List.set_cons_succ, ↓reduceIte]) ?_
    refine rg_pure (N := some 116) 6 (v := _) rfl rfl (by kernel_rfl) (fun _ _ _ h => h) rfl (fun w' => by go_simp <;> with_reducible rfl) (by dsimp only [Act.put, List.setIfInBounds_toArray, List.set_cons_zero, List.set_cons_succ, ↓reduceIte]) ?_
    refine rg_pureG (N := some 117) 7 ((m_in f.f3 1 64) && ((m_name f.f4))) (_) rfl rfl (by kernel_rfl) (fun _ _ _ h => h) (rg_wantT rfl (by kernel_rfl)) (fun hb_ w' => by go_simp <;> with_reducible rfl) (by dsimp only [Act.put, List.setIfInBounds_toArray, List.set_cons_zero, List.set_cons_succ, ↓reduceIte]) ?_
    refine rg_oneG (N := some 118) 8 ((m_in f.f3 1 64) && ((m_name f.f4))) _ rfl rfl (by kernel_rfl) (by decide) (rg_wantT rfl (by kernel_rfl)) hq1 (fun hb_ w' hS' => by have c_ := rg_get hS' c16; go_simp <;> with_reducible rfl) (by dsimp only [Act.put, List.setIfInBounds_toArray, List.set_cons_zero, List.set_cons_succ, ↓reduceIte]) ?_
    refine rg_call (N := some 119) 9 ((m_in f.f3 1 64) && ((m_name f.f4))) (.bool (m_in f.f13 1 1000)) #[.int .i64 f.f13, .int .i64 1, .int .i64 1000] rfl rfl (by kernel_rfl) (by decide) (rg_wantT rfl (by kernel_rfl)) Tryz.func31 (by kernel_rfl) rfl rfl (fun hb_ => rg_args3 (by go_simp) rfl rfl) hq1 (fun hb_ w1 h1 => (fr_within f.f13 1 1000 w1).mono (fun e w2 h => ⟨h.1, rg_drawn h1 h.2⟩)) (by dsimp only [Act.put, List.setIfInBounds_toArray, List.set_cons_zero, List.set_cons_succ, ↓reduceIte]) (fun wq2 hq2 => ?_)
    refine rg_pure (N := some 120) 10 (v := .bool (((m_in f.f3 1 64) && ((m_name f.f4))) && ((m_in f.f13 1 1000)))) rfl rfl (by kernel_rfl) (fun _ _ _ h => h) rfl (fun w' => rg_runAnd rfl (by kernel_rfl) (fun h_ => by go_simp)) (by dsimp only [Act.put, List.setIfInBounds_toArray, List.set_cons_zero, List.set_cons_succ, ↓reduceIte]) ?_
    refine rg_pure (N := some 121) 11 (v := _) rfl rfl (by kernel_rfl) (fun _ _ _ h => h) rfl (fun w' => by go_simp <;> with_reducible rfl) (by dsimp only [Act.put, List.setIfInBounds_toArray, List.set_cons_zero, List.set_cons_succ, ↓reduceIte]) ?_
    refine rg_pureG (N := some 122) 12 (((m_in f.f3 1 64) && ((m_name f.f4))) && ((m_in f.f13 1 1000))) (_) rfl rfl (by kernel_rfl) (fun _ _ _ h => h) (rg_wantT rfl (by kernel_rfl)) (fun hb_ w' => by go_simp <;> with_reducible rfl) (by dsimp only [Act.put, List.setIfInBounds_toArray, List.set_cons_zero, List.set_cons_succ, ↓reduceIte]) ?_
    refine rg_oneG (N := some 123) 13 (((m_in f.f3 1 64) && ((m_name f.f4))) && ((m_in f.f13 1 1000))) _ rfl rfl (by kernel_rfl) (by decide) (rg_wantT rfl (by kernel_rfl)) hq2 (fun hb_ w' hS' => by have c_ := rg_get hS' c17; go_simp <;> with_reducible rfl) (by dsimp only [Act.put, List.setIfInBounds_toArray, List.set_cons_zero, List.set_cons_succ, ↓reduceIte]) ?_
    refine rg_call (N := some 124) 14 (((m_in f.f3 1 64) && ((m_name f.f4))) && ((m_in f.f13 1 1000))) (.bool (m_in f.f14 0 299)) #[.int .i64 f.f14, .int .i64 0, .int .i64 299] rfl rfl (by kernel_rfl) (by decide) (rg_wantT rfl (by kernel_rfl)) Tryz.func31 (by kernel_rfl) rfl rfl (fun hb_ => rg_args3 (by go_simp) rfl rfl) hq2 (fun hb_ w1 h1 => (fr_within f.f14 0 299 w1).mono (fun e w2 h => ⟨h.1, rg_drawn h1 h.2⟩)) (by dsimp only [Act.put, List.setIfInBounds_toArray, List.set_cons_zero, List.set_cons_succ, ↓reduceIte]) (fun wq3 hq3 => ?_)
    refine rg_pure (N := some 125) 15 (v := .bool ((((m_in f.f3 1 64) && ((m_name f.f4))) && ((m_in f.f13 1 1000))) && ((m_in f.f14 0 299)))) rfl rfl (by kernel_rfl) (fun _ _ _ h => h) rfl (fun w' => rg_runAnd rfl (by kernel_rfl) (fun h_ => by go_simp)) (by dsimp only [Act.put, List.setIfInBounds_toArray, List.set_cons_zero, List.set_cons_succ, ↓reduceIte]) ?_
    refine rg_pure (N := some 126) 16 (v := _) rfl rfl (by kernel_rfl) (fun _ _ _ h => h) rfl (fun w' => by go_simp <;> with_reducible rfl) (by dsimp only [Act.put, List.setIfInBounds_toArray, List.set_cons_zero, List.set_cons_succ, ↓reduceIte]) ?_
    refine rg_pureG (N := some 127) 17 ((((m_in f.f3 1 64) && ((m_name f.f4))) && ((m_in f.f13 1 1000))) && ((m_in f.f14 0 299))) (_) rfl rfl (by kernel_rfl) (fun _ _ _ h => h) (rg_wantT rfl (by kernel_rfl)) (fun hb_ w' => by go_simp <;> with_reducible rfl) (by dsimp only [Act.put, List.setIfInBounds_toArray, List.set_cons_zero, List.set_cons_succ, ↓reduceIte]) ?_
    refine rg_oneG (N := some 128) 18 ((((m_in f.f3 1 64) && ((m_name f.f4))) && ((m_in f.f13 1 1000))) && ((m_in f.f14 0 299))) _ rfl rfl (by kernel_rfl) (by decide) (rg_wantT rfl (by kernel_rfl)) hq3 (fun hb_ w' hS' => by have c_ := rg_get hS' c18; go_simp <;> with_reducible rfl) (by dsimp only [Act.put, List.setIfInBounds_toArray, List.set_cons_zero, List.set_cons_succ, ↓reduceIte]) ?_
    refine rg_call (N := some 129) 19 ((((m_in f.f3 1 64) && ((m_name f.f4))) && ((m_in f.f13 1 1000))) && ((m_in f.f14 0 299))) (.bool (m_ftext f.f15)) #[.string f.f15] rfl rfl (by kernel_rfl) (by decide) (rg_wantT rfl (by kernel_rfl)) Tryz.func47 (by kernel_rfl) rfl rfl (fun hb_ => rg_args1 (by go_simp)) hq3 (fun hb_ w1 h1 => (fr_text f.f15 w1).mono (fun e w2 h => ⟨h.1, rg_drawn h1 h.2⟩)) (by dsimp only [Act.put, List.setIfInBounds_toArray, List.set_cons_zero, List.set_cons_succ, ↓reduceIte]) (fun wq4 hq4 => ?_)
    refine rg_pure (N := some 130) 20 (v := .bool (((((m_in f.f3 1 64) && ((m_name f.f4))) && ((m_in f.f13 1 1000))) && ((m_in f.f14 0 299))) && ((m_ftext f.f15)))) rfl rfl (by kernel_rfl) (fun _ _ _ h => h) rfl (fun w' => rg_runAnd rfl (by kernel_rfl) (fun h_ => by go_simp)) (by dsimp only [Act.put, List.setIfInBounds_toArray, List.set_cons_zero, List.set_cons_succ, ↓reduceIte]) ?_
    refine rg_pure (N := some 2) 22 (v := _) rfl rfl (by kernel_rfl) (fun _ _ _ h => h) rfl (fun w' => by go_simp <;> with_reducible rfl) (by dsimp only [Act.put, List.setIfInBounds_toArray, List.set_cons_zero, List.set_cons_succ, ↓reduceIte]) ?_
    have hS9 : rgS _ _ := hq4
    refine rg_storeRow 23 rfl rfl (by kernel_rfl) (by decide) rfl 28 _ _ rfl p3 #[.int .i64 0, .int .i64 0, .int .i64 0, .int .i64 0, .string (⟨#[]⟩ : ByteArray), .int .i64 0, .int .i64 0, .string (⟨#[]⟩ : ByteArray), .string (⟨#[]⟩ : ByteArray), .slice none 0 0, .slice none 0 0, .int .i64 0, .slice none 0 0, .int .i64 0, .int .i64 0, .int .i64 0, .int .i64 0, .int .i64 0, .string (⟨#[]⟩ : ByteArray), .string (⟨#[]⟩ : ByteArray), .int .i64 0, .int .i64 0, .int .i64 0] #[.int .i64 f.f0, .int .i64 f.f1, .int .i64 f.f2, .int .i64 0, .string (⟨#[]⟩ : ByteArray), .int .i64 f.f5, .int .i64 f.f6, .string f.f7, .string f.f8, .slice A9f f.f9.length c9f, .slice A10f f.f10.length c10f, .int .i64 f.f11.f0, .slice A12f f.f11.f1.length c12f, .int .i64 f.f11.f2, .int .i64 f.f11.f3, .int .i64 f.f12, .int .i64 0, .int .i64 0, .string (⟨#[]⟩ : ByteArray), .string f.f16, .int .i64 f.f17, .int .i64 f.f18, .int .i64 f.f19] 28 (by kernel_rfl) (by kernel_rfl) (rg_blk hS9 hx3) fa_size rfl (by repeat (first | exact List.forall_mem_nil _ | refine List.forall_mem_cons.2 ⟨rfl, ?_⟩)) ?_
    intro w9 hx9 hst hot
    refine rg_done (by kernel_rfl) ?_
    have hBF : Below w.heap.size w w9 := (below_step HB.out hS9).trans (hst w.heap.size hg3)
    have HBF := Aside0.mk hBF
    have HX9 := Aside0.mk hx9
    clear hS9 hst hot hBF hx9 hx3 hx4 c4 c16 c17 c18
    go_wp2
    all_goals
      refine bodyPost_ret (rg_results2 rfl _ _ p3 _ _ _ _ rfl HX9.out Tryz.underlying28 rfl fa_size) rfl ?_
      have hBF := HBF.out
      refine ⟨#[.int .i64 f.f0, .int .i64 f.f1, .int .i64 f.f2, .int .i64 0, .string (⟨#[]⟩ : ByteArray), .int .i64 f.f5, .int .i64 f.f6, .string f.f7, .string f.f8, .slice A9f f.f9.length c9f, .slice A10f f.f10.length c10f, .int .i64 f.f11.f0, .slice A12f f.f11.f1.length c12f, .int .i64 f.f11.f2, .int .i64 f.f11.f3, .int .i64 f.f12, .int .i64 0, .int .i64 0, .string (⟨#[]⟩ : ByteArray), .string f.f16, .int .i64 f.f17, .int .i64 f.f18, .int .i64 f.f19], ?_, ?_, hBF⟩
      · exact congrArg (fun b : Bool => Ending.returned (.tuple #[.bool b, .agg #[.int .i64 f.f0, .int .i64 f.f1, .int .i64 f.f2, .int .i64 0, .string (⟨#[]⟩ : ByteArray), .int .i64 f.f5, .int .i64 f.f6, .string f.f7, .string f.f8, .slice A9f f.f9.length c9f, .slice A10f f.f10.length c10f, .int .i64 f.f11.f0, .slice A12f f.f11.f1.length c12f, .int .i64 f.f11.f2, .int .i64 f.f11.f3, .int .i64 f.f12, .int .i64 0, .int .i64 0, .string (⟨#[]⟩ : ByteArray), .string f.f16, .int .i64 f.f17, .int .i64 f.f18, .int .i64 f.f19]])) (show _ = m_used f by unfold m_used; rw [if_neg (by have := HKD.out; omega), if_neg (by have := HKD.out; omega), if_neg (by have := HKD.out; omega), if_pos (by have := HKD.out; omega)]; try (first | rfl | (rw [h]; done) | (simp [h]; done) | (simp [*]; done)))
      · rw [show m_rest f = { f with f3 := 0, f4 := ⟨#[]⟩, f13 := 0, f14 := 0, f15 := ⟨#[]⟩ } by unfold m_rest; rw [if_neg (by have := HKD.out; omega), if_neg (by have := HKD.out; omega), if_neg (by have := HKD.out; omega), if_pos (by have := HKD.out; omega)]]
        exact faK_mk w9 { f with f3 := 0, f4 := ⟨#[]⟩, f13 := 0, f14 := 0, f15 := ⟨#[]⟩ } (A9 := A9f) (c9 := c9f) l9 (Kd.C_below H9.out hBF) (A10 := A10f) (c10 := c10f) l10 (Kd.C_below H10.out hBF) (A12 := A12f) (c12 := c12f) l12 (Kd.C_below H12.out hBF)
end Go.Proofs.YtkhgdglaophkbaaGreatDoor.PK
end
section
set_option linter.unusedVariables false
set_option linter.unusedSimpArgs false
namespace Go.Proofs.YtkhgdglaophkbaaGreatDoor.PK
open Go.RowKit Go.Proofs.YtkhgdglaophkbaaGreatDoorW.PrintWords Go.Proofs.YtkhgdglaophkbaaGreatDoorW.PrintLast Go.Proofs.YtkhgdglaophkbaaGreatDoorW.PrintMore
set_option maxHeartbeats 8000000 in
set_option maxRecDepth 100000 in
theorem fact_right.walk5 (f : Fa) (A9f : Option Addr) (c9f : Nat) (A10f : Option Addr) (c10f : Nat) (A12f : Option Addr) (c12f : Nat) (w : World) (hk : f.f2 = 5)
    (l9 : f.f9.length ≤ c9f) (h9 : Kd.string.C w A9f f.f9.length f.f9) (l10 : f.f10.length ≤ c10f) (h10 : k49.C w A10f f.f10.length f.f10) (l12 : f.f11.f1.length ≤ c12f) (h12 : (Kd.int .i64).C w A12f f.f11.f1.length f.f11.f1) :
    Calls Tryz.prog 30 #[.agg #[.int .i64 f.f0, .int .i64 f.f1, .int .i64 f.f2, .int .i64 f.f3, .string f.f4, .int .i64 f.f5, .int .i64 f.f6, .string f.f7, .string f.f8, .slice A9f f.f9.length c9f, .slice A10f f.f10.length c10f, .int .i64 f.f11.f0, .slice A12f f.f11.f1.length c12f, .int .i64 f.f11.f2, .int .i64 f.f11.f3, .int .i64 f.f12, .int .i64 f.f13, .int .i64 f.f14, .string f.f15, .string f.f16, .int .i64 f.f17, .int .i64 f.f18, .int .i64 f.f19]] w fun e w' => ∃ cs, e = .returned (.tuple #[.bool (m_used f), .agg cs]) ∧ faK w' (m_rest f) cs ∧ Below w.heap.size w w' := by
  have H9 := Aside0.mk h9
  have H10 := Aside0.mk h10
  have H12 := Aside0.mk h12
  have HK := Aside0.mk hk
  clear h9 h10 h12 hk
  go_enter Tryz.func30, Tryz.ntmps30
  go_wp2_with (with_reducible refine is_box rfl ?_; refine Rg.stop_here ?_)
  refine ⟨?_⟩
  refine box_event rfl (N := 1) rfl (cs := #[.int .i64 f.f0, .int .i64 f.f1, .int .i64 f.f2, .int .i64 f.f3, .string f.f4, .int .i64 f.f5, .int .i64 f.f6, .string f.f7, .string f.f8, .slice A9f f.f9.length c9f, .slice A10f f.f10.length c10f, .int .i64 f.f11.f0, .slice A12f f.f11.f1.length c12f, .int .i64 f.f11.f2, .int .i64 f.f11.f3, .int .i64 f.f12, .int .i64 f.f13, .int .i64 f.f14, .string f.f15, .string f.f16, .int .i64 f.f17, .int .i64 f.f18, .int .i64 f.f19]) (t := 28) (by first | (go_simp; done) | (go_simp; rfl)) ?_
  intro p1 hp1 w1 hbx1 hb1
  have hg1 : w.heap.size ≤ p1 := Nat.le_of_eq hp1.symm
  have HX1 := Aside0.mk hbx1
  have HB1 := Aside0.mk hb1
  clear hp1 hb1 hbx1
  go_wp2_with (with_reducible refine is_alloc rfl ?_; refine Rg.stop_here ?_)
  refine ⟨?_⟩
  refine box_event rfl (N := 3) rfl (cs := #[.int .i64 0, .int .i64 0, .int .i64 0, .int .i64 0, .string (⟨#[]⟩ : ByteArray), .int .i64 0, .int .i64 0, .string (⟨#[]⟩ : ByteArray), .string (⟨#[]⟩ : ByteArray), .slice none 0 0, .slice none 0 0, .int .i64 0, .slice none 0 0, .int .i64 0, .int .i64 0, .int .i64 0, .int .i64 0, .int .i64 0, .string (⟨#[]⟩ : ByteArray), .string (⟨#[]⟩ : ByteArray), .int .i64 0, .int .i64 0, .int .i64 0]) (t := 28) (by first | (go_simp; done) | (go_simp; rfl)) ?_
  intro p3 hp3 w2 hbx3 hb3
  have hl1 := blk_lt HX1.out
  have h13 : p1 ≠ p3 := by omega
  have hg3 : w.heap.size ≤ p3 := by have := HB1.out.size; omega
  have HX1 := Aside0.mk (bk_heap_below HX1.out hb3)
  have HX3 := Aside0.mk hbx3
  have HB2 := Aside0.mk (below_step HB1.out hb3)
  clear hp3 hbx3 hb3 hl1 HB1
  go_wp2_with (with_reducible refine is_loadF rfl ?_; refine Rg.stop_here ?_)
  refine ⟨?_⟩
  refine wpList_load_row rfl 28 _ rfl p1 rfl _ _ _ _ HX1.out Tryz.underlying28 rfl fa_size ?_
  go_wp2_with (with_reducible refine is_alloc rfl ?_; refine Rg.stop_here ?_)
  refine ⟨?_⟩
  refine box_event rfl (N := 4) rfl (cs := #[.int .i64 0, .int .i64 0, .int .i64 0, .int .i64 0, .string (⟨#[]⟩ : ByteArray), .int .i64 0, .int .i64 0, .string (⟨#[]⟩ : ByteArray), .string (⟨#[]⟩ : ByteArray), .slice none 0 0, .slice none 0 0, .int .i64 0, .slice none 0 0, .int .i64 0, .int .i64 0, .int .i64 0, .int .i64 0, .int .i64 0, .string (⟨#[]⟩ : ByteArray), .string (⟨#[]⟩ : ByteArray), .int .i64 0, .int .i64 0, .int .i64 0]) (t := 28) (by first | (go_simp; done) | (go_simp; rfl)) ?_
  intro p4 hp4 w3 hbx4 hb4
  have hl1 := blk_lt HX1.out
  have hl3 := blk_lt HX3.out
  have h14 : p1 ≠ p4 := by omega
  have h34 : p3 ≠ p4 := by omega
  have hg4 : w.heap.size ≤ p4 := by have := HB2.out.size; omega
  have HX1 := Aside0.mk (bk_heap_below HX1.out hb4)
  have HX3 := Aside0.mk (bk_heap_below HX3.out hb4)
  have HB3 := Aside0.mk (below_step HB2.out hb4)
  clear hp4 hb4 hl1 hl3 HB2
  go_wp2_with (with_reducible refine is_store rfl ?_; refine Rg.stop_here ?_)
  refine ⟨?_⟩
  refine wpList_store_box rfl rfl _ _ _ rfl p4 _ _ _ rfl rfl hbx4 fa_size rfl (by repeat (first | exact List.forall_mem_nil _ | refine List.forall_mem_cons.2 ⟨rfl, ?_⟩)) ?_
  intro w4 hx4 hst hot
  have HX4 := Aside0.mk hx4
  have HX1 := Aside0.mk ((hot p1 h14).trans HX1.out)
  have HX3 := Aside0.mk ((hot p3 h34).trans HX3.out)
  have HB := Aside0.mk (show Below w.heap.size w w4 from ⟨(hst p4 (Nat.le_refl _)).os.trans HB3.out.os, (hst p4 (Nat.le_refl _)).tape.trans HB3.out.tape, (hst p4 (Nat.le_refl _)).output.trans HB3.out.output, Nat.le_trans HB3.out.size (hst p4 (Nat.le_refl _)).size, fun k hk => (hot k (by omega)).trans (HB3.out.block k hk)⟩)
  clear hbx4 hx4 hst hot HB3
  have c3 := bk_cell HX1.out 3
  have c20 := bk_cell HX1.out 20
  have c22 := bk_cell HX1.out 22
  go_upto_region 3 with (first | (go_at_call 31; (with_reducible refine (fr_within f.f3 1 64 _).mono ?_); rintro e wa ⟨rfl, hd⟩; obtain ⟨m, rfl⟩ := fr_drawn hd))
  go_cut [6] from 12 to 19 (fun v6 wx => v6 = .bool (m_in f.f17 1 8 && m_in f.f19 0 1000000000) ∧ ∃ nq, wx = w4.drewN nq)
  case first =>
    have HF := Aside0.mk (fr_within f.f17 1 8)
    cases hB : m_in f.f17 1 8 with
    | false =>
      rw [hB] at HF
      have HBB := Aside0.mk hB
      clear hB
      go_wp2_with (go_at_call 31; (with_reducible refine (HF.out _).mono ?_); rintro e wb ⟨rfl, hd2⟩; obtain ⟨m2, rfl⟩ := fr_drawn hd2)
      go_meet
      exact ⟨by rw [HBB.out]; rfl, _, by first | rfl | exact (World.drewN_drewN _ _ _)⟩
    | true =>
      rw [hB] at HF
      have HBB := Aside0.mk hB
      clear hB
      go_wp2_with (first | (go_at_call 31; (with_reducible refine (HF.out _).mono ?_); rintro e wb ⟨rfl, hd2⟩; obtain ⟨m2, rfl⟩ := fr_drawn hd2) | (go_at_call 31; (with_reducible refine (fr_within f.f19 0 1000000000 _).mono ?_); rintro e wc ⟨rfl, hd3⟩; obtain ⟨m3, rfl⟩ := fr_drawn hd3))
      go_meet
      exact ⟨by rw [HBB.out]; rfl, _, by first | rfl | exact (World.drewN_drewN _ _ _)⟩
  case rest =>
  obtain ⟨rfl, nq, rfl⟩ := hcut
  clear c3 c20 c22
  obtain ⟨w5, hw5⟩ : ∃ w5, w4.drewN nq = w5 := ⟨_, rfl⟩
  have HX1 : Aside0 (w5.heap[p1]? = some (.cells #[.int .i64 f.f0, .int .i64 f.f1, .int .i64 f.f2, .int .i64 f.f3, .string f.f4, .int .i64 f.f5, .int .i64 f.f6, .string f.f7, .string f.f8, .slice A9f f.f9.length c9f, .slice A10f f.f10.length c10f, .int .i64 f.f11.f0, .slice A12f f.f11.f1.length c12f, .int .i64 f.f11.f2, .int .i64 f.f11.f3, .int .i64 f.f12, .int .i64 f.f13, .int .i64 f.f14, .string f.f15, .string f.f16, .int .i64 f.f17, .int .i64 f.f18, .int .i64 f.f19] 28 (0, 0))) := ⟨by rw [← hw5]; exact HX1.out⟩
  have HX3 : Aside0 (w5.heap[p3]? = some (.cells #[.int .i64 0, .int .i64 0, .int .i64 0, .int .i64 0, .string (⟨#[]⟩ : ByteArray), .int .i64 0, .int .i64 0, .string (⟨#[]⟩ : ByteArray), .string (⟨#[]⟩ : ByteArray), .slice none 0 0, .slice none 0 0, .int .i64 0, .slice none 0 0, .int .i64 0, .int .i64 0, .int .i64 0, .int .i64 0, .int .i64 0, .string (⟨#[]⟩ : ByteArray), .string (⟨#[]⟩ : ByteArray), .int .i64 0, .int .i64 0, .int .i64 0] 28 (0, 0))) := ⟨by rw [← hw5]; exact HX3.out⟩
  have HX4 : Aside0 (w5.heap[p4]? = some (.cells #[.int .i64 f.f0, .int .i64 f.f1, .int .i64 f.f2, .int .i64 f.f3, .string f.f4, .int .i64 f.f5, .int .i64 f.f6, .string f.f7, .string f.f8, .slice A9f f.f9.length c9f, .slice A10f f.f10.length c10f, .int .i64 f.f11.f0, .slice A12f f.f11.f1.length c12f, .int .i64 f.f11.f2, .int .i64 f.f11.f3, .int .i64 f.f12, .int .i64 f.f13, .int .i64 f.f14, .string f.f15, .string f.f16, .int .i64 f.f17, .int .i64 f.f18, .int .i64 f.f19] 28 (0, 0))) := ⟨by rw [← hw5]; exact HX4.out⟩
  have HB := Aside0.mk (show Below w.heap.size w w5 by rw [← hw5]; exact pw_below_drewN HB.out nq)
  rw [hw5]
  clear hw5
  have hk := HK.out
  · have HKD := Aside0.mk hk
    have e1 : (f.f2 == 1) = false := by rw [hk]; rfl
    have e2 : (f.f2 == 2) = false := by rw [hk]; rfl
    have e3 : (f.f2 == 3) = false := by rw [hk]; rfl
    have e4 : (f.f2 == 4) = false := by rw [hk]; rfl
    have e5 : (f.f2 == 5) = true := by rw [hk]; rfl
    clear hk
    have c2 := bk_cell HX1.out 2
    have d3 := bk_cell HX4.out 3
    have z3 := bk_frozen HX4.out 3
    have d18 := bk_cell HX4.out 18
    have z18 := bk_frozen HX4.out 18
    go_upto_region 19 with fail
    go_cut [] from 134 to 135 (fun wx => wx.heap[p4]? = some (.cells #[.int .i64 f.f0, .int .i64 f.f1, .int .i64 f.f2, .int .i64 0, .string f.f4, .int .i64 f.f5, .int .i64 f.f6, .string f.f7, .string f.f8, .slice A9f f.f9.length c9f, .slice A10f f.f10.length c10f, .int .i64 f.f11.f0, .slice A12f f.f11.f1.length c12f, .int .i64 f.f11.f2, .int .i64 f.f11.f3, .int .i64 f.f12, .int .i64 f.f13, .int .i64 f.f14, .string (⟨#[]⟩ : ByteArray), .string f.f16, .int .i64 f.f17, .int .i64 f.f18, .int .i64 f.f19] 28 (0, 0)) ∧ wx.heap[p1]? = some (.cells #[.int .i64 f.f0, .int .i64 f.f1, .int .i64 f.f2, .int .i64 f.f3, .string f.f4, .int .i64 f.f5, .int .i64 f.f6, .string f.f7, .string f.f8, .slice A9f f.f9.length c9f, .slice A10f f.f10.length c10f, .int .i64 f.f11.f0, .slice A12f f.f11.f1.length c12f, .int .i64 f.f11.f2, .int .i64 f.f11.f3, .int .i64 f.f12, .int .i64 f.f13, .int .i64 f.f14, .string f.f15, .string f.f16, .int .i64 f.f17, .int .i64 f.f18, .int .i64 f.f19] 28 (0, 0)) ∧ wx.heap[p3]? = some (.cells #[.int .i64 0, .int .i64 0, .int .i64 0, .int .i64 0, .string (⟨#[]⟩ : ByteArray), .int .i64 0, .int .i64 0, .string (⟨#[]⟩ : ByteArray), .string (⟨#[]⟩ : ByteArray), .slice none 0 0, .slice none 0 0, .int .i64 0, .slice none 0 0, .int .i64 0, .int .i64 0, .int .i64 0, .int .i64 0, .int .i64 0, .string (⟨#[]⟩ : ByteArray), .string (⟨#[]⟩ : ByteArray), .int .i64 0, .int .i64 0, .int .i64 0] 28 (0, 0)) ∧ Below w.heap.size w wx)
    case first =>
      go_wp2_with fail
      go_meet
      have g0_ := HX4.out
      have g1_ := blk_set g0_ 3 (.int .i64 0)
      simp only [List.setIfInBounds_toArray, List.set_cons_zero, List.set_cons_succ] at g1_
      clear g0_
      have g2_ := blk_set g1_ 18 (.string ⟨#[]⟩)
      simp only [List.setIfInBounds_toArray, List.set_cons_zero, List.set_cons_succ] at g2_
      clear g1_
      exact ⟨g2_, ((Below.heap_setCell _ _ _ _ h14).trans ((Below.heap_setCell _ _ _ _ h14).trans HX1.out)), ((Below.heap_setCell _ _ _ _ h34).trans ((Below.heap_setCell _ _ _ _ h34).trans HX3.out)), (Below.setCell (Below.setCell HB.out hg4 _) hg4 _)⟩
    case rest =>
    obtain ⟨hx4, hx1, hx3, hB⟩ := hcut
    have HX1 := Aside0.mk hx1
    have HB := Aside0.mk hB
    clear hx1 hB d3 z3 d18 z18 c2 e1 e2 e3 e4 e5
    obtain ⟨w6, hw6⟩ : ∃ w6, wc = w6 := ⟨_, rfl⟩
    rw [hw6] at HX1 HB hx4 hx3 ⊢
    clear hw6
    have c18 := bk_cell HX1.out 18
    go_wp2_with fail
    refine rg_start [8] (by kernel_rfl) rfl ?_
    refine rg_pure (N := some 136) 0 (v := _) rfl rfl (by kernel_rfl) (fun _ _ _ h => h) rfl (fun w' => by go_simp <;> with_reducible rfl) (by dsimp only [Act.put, List.setIfInBounds_toArray, List.set_cons_zero, List.set_cons_succ, ↓reduceIte]) ?_
    refine rg_pure (N := some 137) 1 (v := _) rfl rfl (by kernel_rfl) (fun _ _ _ h => h) rfl (fun w' => by go_simp <;> with_reducible rfl) (by dsimp only [Act.put, List.setIfInBounds_toArray, List.set_cons_zero, List.set_cons_succ, ↓reduceIte]) ?_
    refine rg_pureG (N := some 138) 2 (m_in f.f3 1 64) (_) rfl rfl (by kernel_rfl) (fun _ _ _ h => h) (rg_wantT rfl (by kernel_rfl)) (fun hb_ w' => by go_simp <;> with_reducible rfl) (by dsimp only [Act.put, List.setIfInBounds_toArray, List.set_cons_zero, List.set_cons_succ, ↓reduceIte]) ?_
    refine rg_loadG (N := some 139) 3 (m_in f.f3 1 64) _ rfl rfl (by kernel_rfl) (fun _ _ _ h => h) (rg_wantT rfl (by kernel_rfl)) (below_drew1 (Below.refl _ _)) (fun hb_ w' hS' => by have c_ := rg_get hS' c18; go_simp <;> with_reducible rfl) (by dsimp only [Act.put, List.setIfInBounds_toArray, List.set_cons_zero, List.set_cons_succ, ↓reduceIte]) ?_
    refine rg_load (N := some 142) 6 rfl rfl (by kernel_rfl) (fun _ _ _ h => h) rfl (below_drew1 (Below.refl _ _)) (fun w' hS' => rg_runRow _ _ rfl p4 (by kernel_rfl) _ _ _ _ (rg_blk hS' hx4) Tryz.underlying28 rfl fa_size) (by dsimp only [Act.put, List.setIfInBounds_toArray, List.set_cons_zero, List.set_cons_succ, ↓reduceIte]) ?_
    refine rg_call (N := some 140) 4 (m_in f.f3 1 64) (.bool (m_ftext f.f15)) #[.string f.f15] rfl rfl (by kernel_rfl) (by decide) (rg_wantT rfl (by kernel_rfl)) Tryz.func47 (by kernel_rfl) rfl rfl (fun hb_ => rg_args1 (by go_simp)) (below_drew1 (Below.refl _ _)) (fun hb_ w1 h1 => (fr_text f.f15 w1).mono (fun e w2 h => ⟨h.1, rg_drawn h1 h.2⟩)) (by dsimp only [Act.put, List.setIfInBounds_toArray, List.set_cons_zero, List.set_cons_succ, ↓reduceIte]) (fun wq1 hq1 => ?_)
    refine rg_pure (N := some 141) 5 (v := .bool ((m_in f.f3 1 64) && ((m_ftext f.f15)))) rfl rfl (by kernel_rfl) (fun _ _ _ h => h) rfl (fun w' => rg_runAnd rfl (by kernel_rfl) (fun h_ => by go_simp)) (by dsimp only [Act.put, List.setIfInBounds_toArray, List.set_cons_zero, List.set_cons_succ, ↓reduceIte]) ?_
    refine rg_pure (N := some 2) 7 (v := _) rfl rfl (by kernel_rfl) (fun _ _ _ h => h) rfl (fun w' => by go_simp <;> with_reducible rfl) (by dsimp only [Act.put, List.setIfInBounds_toArray, List.set_cons_zero, List.set_cons_succ, ↓reduceIte]) ?_
    have hS9 : rgS _ _ := hq1
    refine rg_storeRow 8 rfl rfl (by kernel_rfl) (by decide) rfl 28 _ _ rfl p3 #[.int .i64 0, .int .i64 0, .int .i64 0, .int .i64 0, .string (⟨#[]⟩ : ByteArray), .int .i64 0, .int .i64 0, .string (⟨#[]⟩ : ByteArray), .string (⟨#[]⟩ : ByteArray), .slice none 0 0, .slice none 0 0, .int .i64 0, .slice none 0 0, .int .i64 0, .int .i64 0, .int .i64 0, .int .i64 0, .int .i64 0, .string (⟨#[]⟩ : ByteArray), .string (⟨#[]⟩ : ByteArray), .int .i64 0, .int .i64 0, .int .i64 0] #[.int .i64 f.f0, .int .i64 f.f1, .int .i64 f.f2, .int .i64 0, .string f.f4, .int .i64 f.f5, .int .i64 f.f6, .string f.f7, .string f.f8, .slice A9f f.f9.length c9f, .slice A10f f.f10.length c10f, .int .i64 f.f11.f0, .slice A12f f.f11.f1.length c12f, .int .i64 f.f11.f2, .int .i64 f.f11.f3, .int .i64 f.f12, .int .i64 f.f13, .int .i64 f.f14, .string (⟨#[]⟩ : ByteArray), .string f.f16, .int .i64 f.f17, .int .i64 f.f18, .int .i64 f.f19] 28 (by kernel_rfl) (by kernel_rfl) (rg_blk hS9 hx3) fa_size rfl (by repeat (first | exact List.forall_mem_nil _ | refine List.forall_mem_cons.2 ⟨rfl, ?_⟩)) ?_
    intro w9 hx9 hst hot
    refine rg_done (by kernel_rfl) ?_
    have hBF : Below w.heap.size w w9 := (below_step HB.out hS9).trans (hst w.heap.size hg3)
    have HBF := Aside0.mk hBF
    have HX9 := Aside0.mk hx9
    clear hS9 hst hot hBF hx9 hx3 hx4 c18
    go_wp2
    all_goals
      refine bodyPost_ret (rg_results2 rfl _ _ p3 _ _ _ _ rfl HX9.out Tryz.underlying28 rfl fa_size) rfl ?_
      have hBF := HBF.out
      refine ⟨#[.int .i64 f.f0, .int .i64 f.f1, .int .i64 f.f2, .int .i64 0, .string f.f4, .int .i64 f.f5, .int .i64 f.f6, .string f.f7, .string f.f8, .slice A9f f.f9.length c9f, .slice A10f f.f10.length c10f, .int .i64 f.f11.f0, .slice A12f f.f11.f1.length c12f, .int .i64 f.f11.f2, .int .i64 f.f11.f3, .int .i64 f.f12, .int .i64 f.f13, .int .i64 f.f14, .string (⟨#[]⟩ : ByteArray), .string f.f16, .int .i64 f.f17, .int .i64 f.f18, .int .i64 f.f19], ?_, ?_, hBF⟩
      · exact congrArg (fun b : Bool => Ending.returned (.tuple #[.bool b, .agg #[.int .i64 f.f0, .int .i64 f.f1, .int .i64 f.f2, .int .i64 0, .string f.f4, .int .i64 f.f5, .int .i64 f.f6, .string f.f7, .string f.f8, .slice A9f f.f9.length c9f, .slice A10f f.f10.length c10f, .int .i64 f.f11.f0, .slice A12f f.f11.f1.length c12f, .int .i64 f.f11.f2, .int .i64 f.f11.f3, .int .i64 f.f12, .int .i64 f.f13, .int .i64 f.f14, .string (⟨#[]⟩ : ByteArray), .string f.f16, .int .i64 f.f17, .int .i64 f.f18, .int .i64 f.f19]])) (show _ = m_used f by unfold m_used; rw [if_neg (by have := HKD.out; omega), if_neg (by have := HKD.out; omega), if_neg (by have := HKD.out; omega), if_neg (by have := HKD.out; omega), if_pos (by have := HKD.out; omega)]; try (first | rfl | (rw [h]; done) | (simp [h]; done) | (simp [*]; done)))
      · rw [show m_rest f = { f with f3 := 0, f15 := ⟨#[]⟩ } by unfold m_rest; rw [if_neg (by have := HKD.out; omega), if_neg (by have := HKD.out; omega), if_neg (by have := HKD.out; omega), if_neg (by have := HKD.out; omega), if_pos (by have := HKD.out; omega)]]
        exact faK_mk w9 { f with f3 := 0, f15 := ⟨#[]⟩ } (A9 := A9f) (c9 := c9f) l9 (Kd.C_below H9.out hBF) (A10 := A10f) (c10 := c10f) l10 (Kd.C_below H10.out hBF) (A12 := A12f) (c12 := c12f) l12 (Kd.C_below H12.out hBF)
end Go.Proofs.YtkhgdglaophkbaaGreatDoor.PK
end
section
set_option linter.unusedVariables false
set_option linter.unusedSimpArgs false
namespace Go.Proofs.YtkhgdglaophkbaaGreatDoor.PK
open Go.RowKit Go.Proofs.YtkhgdglaophkbaaGreatDoorW.PrintWords Go.Proofs.YtkhgdglaophkbaaGreatDoorW.PrintLast Go.Proofs.YtkhgdglaophkbaaGreatDoorW.PrintMore
set_option maxHeartbeats 8000000 in
set_option maxRecDepth 100000 in
theorem fact_right.walk6 (f : Fa) (A9f : Option Addr) (c9f : Nat) (A10f : Option Addr) (c10f : Nat) (A12f : Option Addr) (c12f : Nat) (w : World) (hk : f.f2 = 6)
    (l9 : f.f9.length ≤ c9f) (h9 : Kd.string.C w A9f f.f9.length f.f9) (l10 : f.f10.length ≤ c10f) (h10 : k49.C w A10f f.f10.length f.f10) (l12 : f.f11.f1.length ≤ c12f) (h12 : (Kd.int .i64).C w A12f f.f11.f1.length f.f11.f1) :
    Calls Tryz.prog 30 #[.agg #[.int .i64 f.f0, .int .i64 f.f1, .int .i64 f.f2, .int .i64 f.f3, .string f.f4, .int .i64 f.f5, .int .i64 f.f6, .string f.f7, .string f.f8, .slice A9f f.f9.length c9f, .slice A10f f.f10.length c10f, .int .i64 f.f11.f0, .slice A12f f.f11.f1.length c12f, .int .i64 f.f11.f2, .int .i64 f.f11.f3, .int .i64 f.f12, .int .i64 f.f13, .int .i64 f.f14, .string f.f15, .string f.f16, .int .i64 f.f17, .int .i64 f.f18, .int .i64 f.f19]] w fun e w' => ∃ cs, e = .returned (.tuple #[.bool (m_used f), .agg cs]) ∧ faK w' (m_rest f) cs ∧ Below w.heap.size w w' := by
  have H9 := Aside0.mk h9
  have H10 := Aside0.mk h10
  have H12 := Aside0.mk h12
  have HK := Aside0.mk hk
  clear h9 h10 h12 hk
  go_enter Tryz.func30, Tryz.ntmps30
  go_wp2_with (with_reducible refine is_box rfl ?_; refine Rg.stop_here ?_)
  refine ⟨?_⟩
  refine box_event rfl (N := 1) rfl (cs := #[.int .i64 f.f0, .int .i64 f.f1, .int .i64 f.f2, .int .i64 f.f3, .string f.f4, .int .i64 f.f5, .int .i64 f.f6, .string f.f7, .string f.f8, .slice A9f f.f9.length c9f, .slice A10f f.f10.length c10f, .int .i64 f.f11.f0, .slice A12f f.f11.f1.length c12f, .int .i64 f.f11.f2, .int .i64 f.f11.f3, .int .i64 f.f12, .int .i64 f.f13, .int .i64 f.f14, .string f.f15, .string f.f16, .int .i64 f.f17, .int .i64 f.f18, .int .i64 f.f19]) (t := 28) (by first | (go_simp; done) | (go_simp; rfl)) ?_
  intro p1 hp1 w1 hbx1 hb1
  have hg1 : w.heap.size ≤ p1 := Nat.le_of_eq hp1.symm
  have HX1 := Aside0.mk hbx1
  have HB1 := Aside0.mk hb1
  clear hp1 hb1 hbx1
  go_wp2_with (with_reducible refine is_alloc rfl ?_; refine Rg.stop_here ?_)
  refine ⟨?_⟩
  refine box_event rfl (N := 3) rfl (cs := #[.int .i64 0, .int .i64 0, .int .i64 0, .int .i64 0, .string (⟨#[]⟩ : ByteArray), .int .i64 0, .int .i64 0, .string (⟨#[]⟩ : ByteArray), .string (⟨#[]⟩ : ByteArray), .slice none 0 0, .slice none 0 0, .int .i64 0, .slice none 0 0, .int .i64 0, .int .i64 0, .int .i64 0, .int .i64 0, .int .i64 0, .string (⟨#[]⟩ : ByteArray), .string (⟨#[]⟩ : ByteArray), .int .i64 0, .int .i64 0, .int .i64 0]) (t := 28) (by first | (go_simp; done) | (go_simp; rfl)) ?_
  intro p3 hp3 w2 hbx3 hb3
  have hl1 := blk_lt HX1.out
  have h13 : p1 ≠ p3 := by omega
  have hg3 : w.heap.size ≤ p3 := by have := HB1.out.size; omega
  have HX1 := Aside0.mk (bk_heap_below HX1.out hb3)
  have HX3 := Aside0.mk hbx3
  have HB2 := Aside0.mk (below_step HB1.out hb3)
  clear hp3 hbx3 hb3 hl1 HB1
  go_wp2_with (with_reducible refine is_loadF rfl ?_; refine Rg.stop_here ?_)
  refine ⟨?_⟩
  refine wpList_load_row rfl 28 _ rfl p1 rfl _ _ _ _ HX1.out Tryz.underlying28 rfl fa_size ?_
  go_wp2_with (with_reducible refine is_alloc rfl ?_; refine Rg.stop_here ?_)
  refine ⟨?_⟩
  refine box_event rfl (N := 4) rfl (cs := #[.int .i64 0, .int .i64 0, .int .i64 0, .int .i64 0, .string (⟨#[]⟩ : ByteArray), .int .i64 0, .int .i64 0, .string (⟨#[]⟩ : ByteArray), .string (⟨#[]⟩ : ByteArray), .slice none 0 0, .slice none 0 0, .int .i64 0, .slice none 0 0, .int .i64 0, .int .i64 0, .int .i64 0, .int .i64 0, .int .i64 0, .string (⟨#[]⟩ : ByteArray), .string (⟨#[]⟩ : ByteArray), .int .i64 0, .int .i64 0, .int .i64 0]) (t := 28) (by first | (go_simp; done) | (go_simp; rfl)) ?_
  intro p4 hp4 w3 hbx4 hb4
  have hl1 := blk_lt HX1.out
  have hl3 := blk_lt HX3.out
  have h14 : p1 ≠ p4 := by omega
  have h34 : p3 ≠ p4 := by omega
  have hg4 : w.heap.size ≤ p4 := by have := HB2.out.size; omega
  have HX1 := Aside0.mk (bk_heap_below HX1.out hb4)
  have HX3 := Aside0.mk (bk_heap_below HX3.out hb4)
  have HB3 := Aside0.mk (below_step HB2.out hb4)
  clear hp4 hb4 hl1 hl3 HB2
  go_wp2_with (with_reducible refine is_store rfl ?_; refine Rg.stop_here ?_)
  refine ⟨?_⟩
  refine wpList_store_box rfl rfl _ _ _ rfl p4 _ _ _ rfl rfl hbx4 fa_size rfl (by repeat (first | exact List.forall_mem_nil _ | refine List.forall_mem_cons.2 ⟨rfl, ?_⟩)) ?_
  intro w4 hx4 hst hot
  have HX4 := Aside0.mk hx4
  have HX1 := Aside0.mk ((hot p1 h14).trans HX1.out)
  have HX3 := Aside0.mk ((hot p3 h34).trans HX3.out)
  have HB := Aside0.mk (show Below w.heap.size w w4 from ⟨(hst p4 (Nat.le_refl _)).os.trans HB3.out.os, (hst p4 (Nat.le_refl _)).tape.trans HB3.out.tape, (hst p4 (Nat.le_refl _)).output.trans HB3.out.output, Nat.le_trans HB3.out.size (hst p4 (Nat.le_refl _)).size, fun k hk => (hot k (by omega)).trans (HB3.out.block k hk)⟩)
  clear hbx4 hx4 hst hot HB3
  have c3 := bk_cell HX1.out 3
  have c20 := bk_cell HX1.out 20
  have c22 := bk_cell HX1.out 22
  go_upto_region 3 with (first | (go_at_call 31; (with_reducible refine (fr_within f.f3 1 64 _).mono ?_); rintro e wa ⟨rfl, hd⟩; obtain ⟨m, rfl⟩ := fr_drawn hd))
  go_cut [6] from 12 to 19 (fun v6 wx => v6 = .bool (m_in f.f17 1 8 && m_in f.f19 0 1000000000) ∧ ∃ nq, wx = w4.drewN nq)
  case first =>
    have HF := Aside0.mk (fr_within f.f17 1 8)
    cases hB : m_in f.f17 1 8 with
    | false =>
      rw [hB] at HF
      have HBB := Aside0.mk hB
      clear hB
      go_wp2_with (go_at_call 31; (with_reducible refine (HF.out _).mono ?_); rintro e wb ⟨rfl, hd2⟩; obtain ⟨m2, rfl⟩ := fr_drawn hd2)
      go_meet
      exact ⟨by rw [HBB.out]; rfl, _, by first | rfl | exact (World.drewN_drewN _ _ _)⟩
    | true =>
      rw [hB] at HF
      have HBB := Aside0.mk hB
      clear hB
      go_wp2_with (first | (go_at_call 31; (with_reducible refine (HF.out _).mono ?_); rintro e wb ⟨rfl, hd2⟩; obtain ⟨m2, rfl⟩ := fr_drawn hd2) | (go_at_call 31; (with_reducible refine (fr_within f.f19 0 1000000000 _).mono ?_); rintro e wc ⟨rfl, hd3⟩; obtain ⟨m3, rfl⟩ := fr_drawn hd3))
      go_meet
      exact ⟨by rw [HBB.out]; rfl, _, by first | rfl | exact (World.drewN_drewN _ _ _)⟩
  case rest =>
  obtain ⟨rfl, nq, rfl⟩ := hcut
  clear c3 c20 c22
  obtain ⟨w5, hw5⟩ : ∃ w5, w4.drewN nq = w5 := ⟨_, rfl⟩
  have HX1 : Aside0 (w5.heap[p1]? = some (.cells #[.int .i64 f.f0, .int .i64 f.f1, .int .i64 f.f2, .int .i64 f.f3, .string f.f4, .int .i64 f.f5, .int .i64 f.f6, .string f.f7, .string f.f8, .slice A9f f.f9.length c9f, .slice A10f f.f10.length c10f, .int .i64 f.f11.f0, .slice A12f f.f11.f1.length c12f, .int .i64 f.f11.f2, .int .i64 f.f11.f3, .int .i64 f.f12, .int .i64 f.f13, .int .i64 f.f14, .string f.f15, .string f.f16, .int .i64 f.f17, .int .i64 f.f18, .int .i64 f.f19] 28 (0, 0))) := ⟨by rw [← hw5]; exact HX1.out⟩
  have HX3 : Aside0 (w5.heap[p3]? = some (.cells #[.int .i64 0, .int .i64 0, .int .i64 0, .int .i64 0, .string (⟨#[]⟩ : ByteArray), .int .i64 0, .int .i64 0, .string (⟨#[]⟩ : ByteArray), .string (⟨#[]⟩ : ByteArray), .slice none 0 0, .slice none 0 0, .int .i64 0, .slice none 0 0, .int .i64 0, .int .i64 0, .int .i64 0, .int .i64 0, .int .i64 0, .string (⟨#[]⟩ : ByteArray), .string (⟨#[]⟩ : ByteArray), .int .i64 0, .int .i64 0, .int .i64 0] 28 (0, 0))) := ⟨by rw [← hw5]; exact HX3.out⟩
  have HX4 : Aside0 (w5.heap[p4]? = some (.cells #[.int .i64 f.f0, .int .i64 f.f1, .int .i64 f.f2, .int .i64 f.f3, .string f.f4, .int .i64 f.f5, .int .i64 f.f6, .string f.f7, .string f.f8, .slice A9f f.f9.length c9f, .slice A10f f.f10.length c10f, .int .i64 f.f11.f0, .slice A12f f.f11.f1.length c12f, .int .i64 f.f11.f2, .int .i64 f.f11.f3, .int .i64 f.f12, .int .i64 f.f13, .int .i64 f.f14, .string f.f15, .string f.f16, .int .i64 f.f17, .int .i64 f.f18, .int .i64 f.f19] 28 (0, 0))) := ⟨by rw [← hw5]; exact HX4.out⟩
  have HB := Aside0.mk (show Below w.heap.size w w5 by rw [← hw5]; exact pw_below_drewN HB.out nq)
  rw [hw5]
  clear hw5
  have hk := HK.out
  · have HKD := Aside0.mk hk
    have e1 : (f.f2 == 1) = false := by rw [hk]; rfl
    have e2 : (f.f2 == 2) = false := by rw [hk]; rfl
    have e3 : (f.f2 == 3) = false := by rw [hk]; rfl
    have e4 : (f.f2 == 4) = false := by rw [hk]; rfl
    have e5 : (f.f2 == 5) = false := by rw [hk]; rfl
    have e6 : (f.f2 == 6) = true := by rw [hk]; rfl
    clear hk
    have c2 := bk_cell HX1.out 2
    have d3 := bk_cell HX4.out 3
    have z3 := bk_frozen HX4.out 3
    go_upto_region 23 with fail
    go_cut [] from 146 to 146 (fun wx => wx.heap[p4]? = some (.cells #[.int .i64 f.f0, .int .i64 f.f1, .int .i64 f.f2, .int .i64 0, .string f.f4, .int .i64 f.f5, .int .i64 f.f6, .string f.f7, .string f.f8, .slice A9f f.f9.length c9f, .slice A10f f.f10.length c10f, .int .i64 f.f11.f0, .slice A12f f.f11.f1.length c12f, .int .i64 f.f11.f2, .int .i64 f.f11.f3, .int .i64 f.f12, .int .i64 f.f13, .int .i64 f.f14, .string f.f15, .string f.f16, .int .i64 f.f17, .int .i64 f.f18, .int .i64 f.f19] 28 (0, 0)) ∧ wx.heap[p1]? = some (.cells #[.int .i64 f.f0, .int .i64 f.f1, .int .i64 f.f2, .int .i64 f.f3, .string f.f4, .int .i64 f.f5, .int .i64 f.f6, .string f.f7, .string f.f8, .slice A9f f.f9.length c9f, .slice A10f f.f10.length c10f, .int .i64 f.f11.f0, .slice A12f f.f11.f1.length c12f, .int .i64 f.f11.f2, .int .i64 f.f11.f3, .int .i64 f.f12, .int .i64 f.f13, .int .i64 f.f14, .string f.f15, .string f.f16, .int .i64 f.f17, .int .i64 f.f18, .int .i64 f.f19] 28 (0, 0)) ∧ wx.heap[p3]? = some (.cells #[.int .i64 0, .int .i64 0, .int .i64 0, .int .i64 0, .string (⟨#[]⟩ : ByteArray), .int .i64 0, .int .i64 0, .string (⟨#[]⟩ : ByteArray), .string (⟨#[]⟩ : ByteArray), .slice none 0 0, .slice none 0 0, .int .i64 0, .slice none 0 0, .int .i64 0, .int .i64 0, .int .i64 0, .int .i64 0, .int .i64 0, .string (⟨#[]⟩ : ByteArray), .string (⟨#[]⟩ : ByteArray), .int .i64 0, .int .i64 0, .int .i64 0] 28 (0, 0)) ∧ Below w.heap.size w wx)
    case first =>
      go_wp2_with fail
      go_meet
      have g0_ := HX4.out
      have g1_ := blk_set g0_ 3 (.int .i64 0)
      simp only [List.setIfInBounds_toArray, List.set_cons_zero, List.set_cons_succ] at g1_
      clear g0_
      exact ⟨g1_, ((Below.heap_setCell _ _ _ _ h14).trans HX1.out), ((Below.heap_setCell _ _ _ _ h34).trans HX3.out), (Below.setCell HB.out hg4 _)⟩
    case rest =>
    obtain ⟨hx4, hx1, hx3, hB⟩ := hcut
    have HX1 := Aside0.mk hx1
    have HB := Aside0.mk hB
    clear hx1 hB d3 z3 c2 e1 e2 e3 e4 e5 e6
    obtain ⟨w6, hw6⟩ : ∃ w6, wc = w6 := ⟨_, rfl⟩
    rw [hw6] at HX1 HB hx4 hx3 ⊢
    clear hw6
    go_wp2_with fail
    refine rg_start [3] (by kernel_rfl) rfl ?_
    refine rg_pure (N := some 147) 0 (v := _) rfl rfl (by kernel_rfl) (fun _ _ _ h => h) rfl (fun w' => by go_simp <;> with_reducible rfl) (by dsimp only [Act.put, List.setIfInBounds_toArray, List.set_cons_zero, List.set_cons_succ, ↓reduceIte]) ?_
    refine rg_pure (N := some 2) 2 (v := _) rfl rfl (by kernel_rfl) (fun _ _ _ h => h) rfl (fun w' => by go_simp <;> with_reducible rfl) (by dsimp only [Act.put, List.setIfInBounds_toArray, List.set_cons_zero, List.set_cons_succ, ↓reduceIte]) ?_
    refine rg_oneG (N := some 148) 1 true _ rfl rfl (by kernel_rfl) (by decide) rfl (below_drew1 (Below.refl _ _)) (fun hb_ w' hS' => rg_runRow _ _ rfl p4 (by kernel_rfl) _ _ _ _ (rg_blk hS' hx4) Tryz.underlying28 rfl fa_size) (by dsimp only [Act.put, List.setIfInBounds_toArray, List.set_cons_zero, List.set_cons_succ, ↓reduceIte]) ?_
    have hS9 : rgS w6 w6.drew := (below_drew1 (Below.refl _ _))
    refine rg_storeRow 3 rfl rfl (by kernel_rfl) (by decide) rfl 28 _ _ rfl p3 #[.int .i64 0, .int .i64 0, .int .i64 0, .int .i64 0, .string (⟨#[]⟩ : ByteArray), .int .i64 0, .int .i64 0, .string (⟨#[]⟩ : ByteArray), .string (⟨#[]⟩ : ByteArray), .slice none 0 0, .slice none 0 0, .int .i64 0, .slice none 0 0, .int .i64 0, .int .i64 0, .int .i64 0, .int .i64 0, .int .i64 0, .string (⟨#[]⟩ : ByteArray), .string (⟨#[]⟩ : ByteArray), .int .i64 0, .int .i64 0, .int .i64 0] #[.int .i64 f.f0, .int .i64 f.f1, .int .i64 f.f2, .int .i64 0, .string f.f4, .int .i64 f.f5, .int .i64 f.f6, .string f.f7, .string f.f8, .slice A9f f.f9.length c9f, .slice A10f f.f10.length c10f, .int .i64 f.f11.f0, .slice A12f f.f11.f1.length c12f, .int .i64 f.f11.f2, .int .i64 f.f11.f3, .int .i64 f.f12, .int .i64 f.f13, .int .i64 f.f14, .string f.f15, .string f.f16, .int .i64 f.f17, .int .i64 f.f18, .int .i64 f.f19] 28 (by kernel_rfl) (by kernel_rfl) (rg_blk hS9 hx3) fa_size rfl (by repeat (first | exact List.forall_mem_nil _ | refine List.forall_mem_cons.2 ⟨rfl, ?_⟩)) ?_
    intro w9 hx9 hst hot
    refine rg_done (by kernel_rfl) ?_
    have hBF : Below w.heap.size w w9 := (below_step HB.out hS9).trans (hst w.heap.size hg3)
    have HBF := Aside0.mk hBF
    have HX9 := Aside0.mk hx9
    clear hS9 hst hot hBF hx9 hx3 hx4 
    go_wp2
    all_goals
      refine bodyPost_ret (rg_results2 rfl _ _ p3 _ _ _ _ rfl HX9.out Tryz.underlying28 rfl fa_size) rfl ?_
      have hBF := HBF.out
      refine ⟨#[.int .i64 f.f0, .int .i64 f.f1, .int .i64 f.f2, .int .i64 0, .string f.f4, .int .i64 f.f5, .int .i64 f.f6, .string f.f7, .string f.f8, .slice A9f f.f9.length c9f, .slice A10f f.f10.length c10f, .int .i64 f.f11.f0, .slice A12f f.f11.f1.length c12f, .int .i64 f.f11.f2, .int .i64 f.f11.f3, .int .i64 f.f12, .int .i64 f.f13, .int .i64 f.f14, .string f.f15, .string f.f16, .int .i64 f.f17, .int .i64 f.f18, .int .i64 f.f19], ?_, ?_, hBF⟩
      · exact congrArg (fun b : Bool => Ending.returned (.tuple #[.bool b, .agg #[.int .i64 f.f0, .int .i64 f.f1, .int .i64 f.f2, .int .i64 0, .string f.f4, .int .i64 f.f5, .int .i64 f.f6, .string f.f7, .string f.f8, .slice A9f f.f9.length c9f, .slice A10f f.f10.length c10f, .int .i64 f.f11.f0, .slice A12f f.f11.f1.length c12f, .int .i64 f.f11.f2, .int .i64 f.f11.f3, .int .i64 f.f12, .int .i64 f.f13, .int .i64 f.f14, .string f.f15, .string f.f16, .int .i64 f.f17, .int .i64 f.f18, .int .i64 f.f19]])) (show _ = m_used f by unfold m_used; rw [if_neg (by have := HKD.out; omega), if_neg (by have := HKD.out; omega), if_neg (by have := HKD.out; omega), if_neg (by have := HKD.out; omega), if_neg (by have := HKD.out; omega), if_pos (by have := HKD.out; omega)]; try (first | rfl | (rw [h]; done) | (simp [h]; done) | (simp [*]; done)))
      · rw [show m_rest f = { f with f3 := 0 } by unfold m_rest; rw [if_neg (by have := HKD.out; omega), if_neg (by have := HKD.out; omega), if_neg (by have := HKD.out; omega), if_neg (by have := HKD.out; omega), if_neg (by have := HKD.out; omega), if_pos (by have := HKD.out; omega)]]
        exact faK_mk w9 { f with f3 := 0 } (A9 := A9f) (c9 := c9f) l9 (Kd.C_below H9.out hBF) (A10 := A10f) (c10 := c10f) l10 (Kd.C_below H10.out hBF) (A12 := A12f) (c12 := c12f) l12 (Kd.C_below H12.out hBF)
end Go.Proofs.YtkhgdglaophkbaaGreatDoor.PK
end
section
set_option linter.unusedVariables false
set_option linter.unusedSimpArgs false
namespace Go.Proofs.YtkhgdglaophkbaaGreatDoor.PK
open Go.RowKit Go.Proofs.YtkhgdglaophkbaaGreatDoorW.PrintWords Go.Proofs.YtkhgdglaophkbaaGreatDoorW.PrintLast Go.Proofs.YtkhgdglaophkbaaGreatDoorW.PrintMore
set_option maxHeartbeats 8000000 in
set_option maxRecDepth 100000 in
theorem fact_right.walk10 (f : Fa) (A9f : Option Addr) (c9f : Nat) (A10f : Option Addr) (c10f : Nat) (A12f : Option Addr) (c12f : Nat) (w : World) (hk : f.f2 = 10)
    (l9 : f.f9.length ≤ c9f) (h9 : Kd.string.C w A9f f.f9.length f.f9) (l10 : f.f10.length ≤ c10f) (h10 : k49.C w A10f f.f10.length f.f10) (l12 : f.f11.f1.length ≤ c12f) (h12 : (Kd.int .i64).C w A12f f.f11.f1.length f.f11.f1) :
    Calls Tryz.prog 30 #[.agg #[.int .i64 f.f0, .int .i64 f.f1, .int .i64 f.f2, .int .i64 f.f3, .string f.f4, .int .i64 f.f5, .int .i64 f.f6, .string f.f7, .string f.f8, .slice A9f f.f9.length c9f, .slice A10f f.f10.length c10f, .int .i64 f.f11.f0, .slice A12f f.f11.f1.length c12f, .int .i64 f.f11.f2, .int .i64 f.f11.f3, .int .i64 f.f12, .int .i64 f.f13, .int .i64 f.f14, .string f.f15, .string f.f16, .int .i64 f.f17, .int .i64 f.f18, .int .i64 f.f19]] w fun e w' => ∃ cs, e = .returned (.tuple #[.bool (m_used f), .agg cs]) ∧ faK w' (m_rest f) cs ∧ Below w.heap.size w w' := by
  have H9 := Aside0.mk h9
  have H10 := Aside0.mk h10
  have H12 := Aside0.mk h12
  have HK := Aside0.mk hk
  clear h9 h10 h12 hk
  go_enter Tryz.func30, Tryz.ntmps30
  go_wp2_with (with_reducible refine is_box rfl ?_; refine Rg.stop_here ?_)
  refine ⟨?_⟩
  refine box_event rfl (N := 1) rfl (cs := #[.int .i64 f.f0, .int .i64 f.f1, .int .i64 f.f2, .int .i64 f.f3, .string f.f4, .int .i64 f.f5, .int .i64 f.f6, .string f.f7, .string f.f8, .slice A9f f.f9.length c9f, .slice A10f f.f10.length c10f, .int .i64 f.f11.f0, .slice A12f f.f11.f1.length c12f, .int .i64 f.f11.f2, .int .i64 f.f11.f3, .int .i64 f.f12, .int .i64 f.f13, .int .i64 f.f14, .string f.f15, .string f.f16, .int .i64 f.f17, .int .i64 f.f18, .int .i64 f.f19]) (t := 28) (by first | (go_simp; done) | (go_simp; rfl)) ?_
  intro p1 hp1 w1 hbx1 hb1
  have hg1 : w.heap.size ≤ p1 := Nat.le_of_eq hp1.symm
  have HX1 := Aside0.mk hbx1
  have HB1 := Aside0.mk hb1
  clear hp1 hb1 hbx1
  go_wp2_with (with_reducible refine is_alloc rfl ?_; refine Rg.stop_here ?_)
  refine ⟨?_⟩
  refine box_event rfl (N := 3) rfl (cs := #[.int .i64 0, .int .i64 0, .int .i64 0, .int .i64 0, .string (⟨#[]⟩ : ByteArray), .int .i64 0, .int .i64 0, .string (⟨#[]⟩ : ByteArray), .string (⟨#[]⟩ : ByteArray), .slice none 0 0, .slice none 0 0, .int .i64 0, .slice none 0 0, .int .i64 0, .int .i64 0, .int .i64 0, .int .i64 0, .int .i64 0, .string (⟨#[]⟩ : ByteArray), .string (⟨#[]⟩ : ByteArray), .int .i64 0, .int .i64 0, .int .i64 0]) (t := 28) (by first | (go_simp; done) | (go_simp; rfl)) ?_
  intro p3 hp3 w2 hbx3 hb3
  have hl1 := blk_lt HX1.out
  have h13 : p1 ≠ p3 := by omega
  have hg3 : w.heap.size ≤ p3 := by have := HB1.out.size; omega
  have HX1 := Aside0.mk (bk_heap_below HX1.out hb3)
  have HX3 := Aside0.mk hbx3
  have HB2 := Aside0.mk (below_step HB1.out hb3)
  clear hp3 hbx3 hb3 hl1 HB1
  go_wp2_with (with_reducible refine is_loadF rfl ?_; refine Rg.stop_here ?_)
  refine ⟨?_⟩
  refine wpList_load_row rfl 28 _ rfl p1 rfl _ _ _ _ HX1.out Tryz.underlying28 rfl fa_size ?_
  go_wp2_with (with_reducible refine is_alloc rfl ?_; refine Rg.stop_here ?_)
  refine ⟨?_⟩
  refine box_event rfl (N := 4) rfl (cs := #[.int .i64 0, .int .i64 0, .int .i64 0, .int .i64 0, .string (⟨#[]⟩ : ByteArray), .int .i64 0, .int .i64 0, .string (⟨#[]⟩ : ByteArray), .string (⟨#[]⟩ : ByteArray), .slice none 0 0, .slice none 0 0, .int .i64 0, .slice none 0 0, .int .i64 0, .int .i64 0, .int .i64 0, .int .i64 0, .int .i64 0, .string (⟨#[]⟩ : ByteArray), .string (⟨#[]⟩ : ByteArray), .int .i64 0, .int .i64 0, .int .i64 0]) (t := 28) (by first | (go_simp; done) | (go_simp; rfl)) ?_
  intro p4 hp4 w3 hbx4 hb4
  have hl1 := blk_lt HX1.out
  have hl3 := blk_lt HX3.out
  have h14 : p1 ≠ p4 := by omega
  have h34 : p3 ≠ p4 := by omega
  have hg4 : w.heap.size ≤ p4 := by have := HB2.out.size; omega
  have HX1 := Aside0.mk (bk_heap_below HX1.out hb4)
  have HX3 := Aside0.mk (bk_heap_below HX3.out hb4)
  have HB3 := Aside0.mk (below_step HB2.out hb4)
  clear hp4 hb4 hl1 hl3 HB2
  go_wp2_with (with_reducible refine is_store rfl ?_; refine Rg.stop_here ?_)
  refine ⟨?_⟩
  refine wpList_store_box rfl rfl _ _ _ rfl p4 _ _ _ rfl rfl hbx4 fa_size rfl (by repeat (first | exact List.forall_mem_nil _ | refine List.forall_mem_cons.2 ⟨rfl, ?_⟩)) ?_
  intro w4 hx4 hst hot
  have HX4 := Aside0.mk hx4
  have HX1 := Aside0.mk ((hot p1 h14).trans HX1.out)
  have HX3 := Aside0.mk ((hot p3 h34).trans HX3.out)
  have HB := Aside0.mk (show Below w.heap.size w w4 from ⟨(hst p4 (Nat.le_refl _)).os.trans HB3.out.os, (hst p4 (Nat.le_refl _)).tape.trans HB3.out.tape, (hst p4 (Nat.le_refl _)).output.trans HB3.out.output, Nat.le_trans HB3.out.size (hst p4 (Nat.le_refl _)).size, fun k hk => (hot k (by omega)).trans (HB3.out.block k hk)⟩)
  clear hbx4 hx4 hst hot HB3
  have c3 := bk_cell HX1.out 3
  have c20 := bk_cell HX1.out 20
  have c22 := bk_cell HX1.out 22
  go_upto_region 3 with (first | (go_at_call 31; (with_reducible refine (fr_within f.f3 1 64 _).mono ?_); rintro e wa ⟨rfl, hd⟩; obtain ⟨m, rfl⟩ := fr_drawn hd))
  go_cut [6] from 12 to 19 (fun v6 wx => v6 = .bool (m_in f.f17 1 8 && m_in f.f19 0 1000000000) ∧ ∃ nq, wx = w4.drewN nq)
  case first =>
    have HF := Aside0.mk (fr_within f.f17 1 8)
    cases hB : m_in f.f17 1 8 with
    | false =>
      rw [hB] at HF
      have HBB := Aside0.mk hB
      clear hB
      go_wp2_with (go_at_call 31; (with_reducible refine (HF.out _).mono ?_); rintro e wb ⟨rfl, hd2⟩; obtain ⟨m2, rfl⟩ := fr_drawn hd2)
      go_meet
      exact ⟨by rw [HBB.out]; rfl, _, by first | rfl | exact (World.drewN_drewN _ _ _)⟩
    | true =>
      rw [hB] at HF
      have HBB := Aside0.mk hB
      clear hB
      go_wp2_with (first | (go_at_call 31; (with_reducible refine (HF.out _).mono ?_); rintro e wb ⟨rfl, hd2⟩; obtain ⟨m2, rfl⟩ := fr_drawn hd2) | (go_at_call 31; (with_reducible refine (fr_within f.f19 0 1000000000 _).mono ?_); rintro e wc ⟨rfl, hd3⟩; obtain ⟨m3, rfl⟩ := fr_drawn hd3))
      go_meet
      exact ⟨by rw [HBB.out]; rfl, _, by first | rfl | exact (World.drewN_drewN _ _ _)⟩
  case rest =>
  obtain ⟨rfl, nq, rfl⟩ := hcut
  clear c3 c20 c22
  obtain ⟨w5, hw5⟩ : ∃ w5, w4.drewN nq = w5 := ⟨_, rfl⟩
  have HX1 : Aside0 (w5.heap[p1]? = some (.cells #[.int .i64 f.f0, .int .i64 f.f1, .int .i64 f.f2, .int .i64 f.f3, .string f.f4, .int .i64 f.f5, .int .i64 f.f6, .string f.f7, .string f.f8, .slice A9f f.f9.length c9f, .slice A10f f.f10.length c10f, .int .i64 f.f11.f0, .slice A12f f.f11.f1.length c12f, .int .i64 f.f11.f2, .int .i64 f.f11.f3, .int .i64 f.f12, .int .i64 f.f13, .int .i64 f.f14, .string f.f15, .string f.f16, .int .i64 f.f17, .int .i64 f.f18, .int .i64 f.f19] 28 (0, 0))) := ⟨by rw [← hw5]; exact HX1.out⟩
  have HX3 : Aside0 (w5.heap[p3]? = some (.cells #[.int .i64 0, .int .i64 0, .int .i64 0, .int .i64 0, .string (⟨#[]⟩ : ByteArray), .int .i64 0, .int .i64 0, .string (⟨#[]⟩ : ByteArray), .string (⟨#[]⟩ : ByteArray), .slice none 0 0, .slice none 0 0, .int .i64 0, .slice none 0 0, .int .i64 0, .int .i64 0, .int .i64 0, .int .i64 0, .int .i64 0, .string (⟨#[]⟩ : ByteArray), .string (⟨#[]⟩ : ByteArray), .int .i64 0, .int .i64 0, .int .i64 0] 28 (0, 0))) := ⟨by rw [← hw5]; exact HX3.out⟩
  have HX4 : Aside0 (w5.heap[p4]? = some (.cells #[.int .i64 f.f0, .int .i64 f.f1, .int .i64 f.f2, .int .i64 f.f3, .string f.f4, .int .i64 f.f5, .int .i64 f.f6, .string f.f7, .string f.f8, .slice A9f f.f9.length c9f, .slice A10f f.f10.length c10f, .int .i64 f.f11.f0, .slice A12f f.f11.f1.length c12f, .int .i64 f.f11.f2, .int .i64 f.f11.f3, .int .i64 f.f12, .int .i64 f.f13, .int .i64 f.f14, .string f.f15, .string f.f16, .int .i64 f.f17, .int .i64 f.f18, .int .i64 f.f19] 28 (0, 0))) := ⟨by rw [← hw5]; exact HX4.out⟩
  have HB := Aside0.mk (show Below w.heap.size w w5 by rw [← hw5]; exact pw_below_drewN HB.out nq)
  rw [hw5]
  clear hw5
  have hk := HK.out
  · have HKD := Aside0.mk hk
    have e1 : (f.f2 == 1) = false := by rw [hk]; rfl
    have e2 : (f.f2 == 2) = false := by rw [hk]; rfl
    have e3 : (f.f2 == 3) = false := by rw [hk]; rfl
    have e4 : (f.f2 == 4) = false := by rw [hk]; rfl
    have e5 : (f.f2 == 5) = false := by rw [hk]; rfl
    have e6 : (f.f2 == 6) = false := by rw [hk]; rfl
    have e10 : (f.f2 == 10) = true := by rw [hk]; rfl
    clear hk
    have c2 := bk_cell HX1.out 2
    have d3 := bk_cell HX4.out 3
    have z3 := bk_frozen HX4.out 3
    go_upto_region 23 with fail
    go_cut [] from 146 to 146 (fun wx => wx.heap[p4]? = some (.cells #[.int .i64 f.f0, .int .i64 f.f1, .int .i64 f.f2, .int .i64 0, .string f.f4, .int .i64 f.f5, .int .i64 f.f6, .string f.f7, .string f.f8, .slice A9f f.f9.length c9f, .slice A10f f.f10.length c10f, .int .i64 f.f11.f0, .slice A12f f.f11.f1.length c12f, .int .i64 f.f11.f2, .int .i64 f.f11.f3, .int .i64 f.f12, .int .i64 f.f13, .int .i64 f.f14, .string f.f15, .string f.f16, .int .i64 f.f17, .int .i64 f.f18, .int .i64 f.f19] 28 (0, 0)) ∧ wx.heap[p1]? = some (.cells #[.int .i64 f.f0, .int .i64 f.f1, .int .i64 f.f2, .int .i64 f.f3, .string f.f4, .int .i64 f.f5, .int .i64 f.f6, .string f.f7, .string f.f8, .slice A9f f.f9.length c9f, .slice A10f f.f10.length c10f, .int .i64 f.f11.f0, .slice A12f f.f11.f1.length c12f, .int .i64 f.f11.f2, .int .i64 f.f11.f3, .int .i64 f.f12, .int .i64 f.f13, .int .i64 f.f14, .string f.f15, .string f.f16, .int .i64 f.f17, .int .i64 f.f18, .int .i64 f.f19] 28 (0, 0)) ∧ wx.heap[p3]? = some (.cells #[.int .i64 0, .int .i64 0, .int .i64 0, .int .i64 0, .string (⟨#[]⟩ : ByteArray), .int .i64 0, .int .i64 0, .string (⟨#[]⟩ : ByteArray), .string (⟨#[]⟩ : ByteArray), .slice none 0 0, .slice none 0 0, .int .i64 0, .slice none 0 0, .int .i64 0, .int .i64 0, .int .i64 0, .int .i64 0, .int .i64 0, .string (⟨#[]⟩ : ByteArray), .string (⟨#[]⟩ : ByteArray), .int .i64 0, .int .i64 0, .int .i64 0] 28 (0, 0)) ∧ Below w.heap.size w wx)
    case first =>
      go_wp2_with fail
      go_meet
      have g0_ := HX4.out
      have g1_ := blk_set g0_ 3 (.int .i64 0)
      simp only [List.setIfInBounds_toArray, List.set_cons_zero, List.set_cons_succ] at g1_
      clear g0_
      exact ⟨g1_, ((Below.heap_setCell _ _ _ _ h14).trans HX1.out), ((Below.heap_setCell _ _ _ _ h34).trans HX3.out), (Below.setCell HB.out hg4 _)⟩
    case rest =>
    obtain ⟨hx4, hx1, hx3, hB⟩ := hcut
    have HX1 := Aside0.mk hx1
    have HB := Aside0.mk hB
    clear hx1 hB d3 z3 c2 e1 e2 e3 e4 e5 e6 e10
    obtain ⟨w6, hw6⟩ : ∃ w6, wc = w6 := ⟨_, rfl⟩
    rw [hw6] at HX1 HB hx4 hx3 ⊢
    clear hw6
    go_wp2_with fail
    refine rg_start [3] (by kernel_rfl) rfl ?_
    refine rg_pure (N := some 147) 0 (v := _) rfl rfl (by kernel_rfl) (fun _ _ _ h => h) rfl (fun w' => by go_simp <;> with_reducible rfl) (by dsimp only [Act.put, List.setIfInBounds_toArray, List.set_cons_zero, List.set_cons_succ, ↓reduceIte]) ?_
    refine rg_pure (N := some 2) 2 (v := _) rfl rfl (by kernel_rfl) (fun _ _ _ h => h) rfl (fun w' => by go_simp <;> with_reducible rfl) (by dsimp only [Act.put, List.setIfInBounds_toArray, List.set_cons_zero, List.set_cons_succ, ↓reduceIte]) ?_
    refine rg_oneG (N := some 148) 1 true _ rfl rfl (by kernel_rfl) (by decide) rfl (below_drew1 (Below.refl _ _)) (fun hb_ w' hS' => rg_runRow _ _ rfl p4 (by kernel_rfl) _ _ _ _ (rg_blk hS' hx4) Tryz.underlying28 rfl fa_size) (by dsimp only [Act.put, List.setIfInBounds_toArray, List.set_cons_zero, List.set_cons_succ, ↓reduceIte]) ?_
    have hS9 : rgS w6 w6.drew := (below_drew1 (Below.refl _ _))
    refine rg_storeRow 3 rfl rfl (by kernel_rfl) (by decide) rfl 28 _ _ rfl p3 #[.int .i64 0, .int .i64 0, .int .i64 0, .int .i64 0, .string (⟨#[]⟩ : ByteArray), .int .i64 0, .int .i64 0, .string (⟨#[]⟩ : ByteArray), .string (⟨#[]⟩ : ByteArray), .slice none 0 0, .slice none 0 0, .int .i64 0, .slice none 0 0, .int .i64 0, .int .i64 0, .int .i64 0, .int .i64 0, .int .i64 0, .string (⟨#[]⟩ : ByteArray), .string (⟨#[]⟩ : ByteArray), .int .i64 0, .int .i64 0, .int .i64 0] #[.int .i64 f.f0, .int .i64 f.f1, .int .i64 f.f2, .int .i64 0, .string f.f4, .int .i64 f.f5, .int .i64 f.f6, .string f.f7, .string f.f8, .slice A9f f.f9.length c9f, .slice A10f f.f10.length c10f, .int .i64 f.f11.f0, .slice A12f f.f11.f1.length c12f, .int .i64 f.f11.f2, .int .i64 f.f11.f3, .int .i64 f.f12, .int .i64 f.f13, .int .i64 f.f14, .string f.f15, .string f.f16, .int .i64 f.f17, .int .i64 f.f18, .int .i64 f.f19] 28 (by kernel_rfl) (by kernel_rfl) (rg_blk hS9 hx3) fa_size rfl (by repeat (first | exact List.forall_mem_nil _ | refine List.forall_mem_cons.2 ⟨rfl, ?_⟩)) ?_
    intro w9 hx9 hst hot
    refine rg_done (by kernel_rfl) ?_
    have hBF : Below w.heap.size w w9 := (below_step HB.out hS9).trans (hst w.heap.size hg3)
    have HBF := Aside0.mk hBF
    have HX9 := Aside0.mk hx9
    clear hS9 hst hot hBF hx9 hx3 hx4 
    go_wp2
    all_goals
      refine bodyPost_ret (rg_results2 rfl _ _ p3 _ _ _ _ rfl HX9.out Tryz.underlying28 rfl fa_size) rfl ?_
      have hBF := HBF.out
      refine ⟨#[.int .i64 f.f0, .int .i64 f.f1, .int .i64 f.f2, .int .i64 0, .string f.f4, .int .i64 f.f5, .int .i64 f.f6, .string f.f7, .string f.f8, .slice A9f f.f9.length c9f, .slice A10f f.f10.length c10f, .int .i64 f.f11.f0, .slice A12f f.f11.f1.length c12f, .int .i64 f.f11.f2, .int .i64 f.f11.f3, .int .i64 f.f12, .int .i64 f.f13, .int .i64 f.f14, .string f.f15, .string f.f16, .int .i64 f.f17, .int .i64 f.f18, .int .i64 f.f19], ?_, ?_, hBF⟩
      · exact congrArg (fun b : Bool => Ending.returned (.tuple #[.bool b, .agg #[.int .i64 f.f0, .int .i64 f.f1, .int .i64 f.f2, .int .i64 0, .string f.f4, .int .i64 f.f5, .int .i64 f.f6, .string f.f7, .string f.f8, .slice A9f f.f9.length c9f, .slice A10f f.f10.length c10f, .int .i64 f.f11.f0, .slice A12f f.f11.f1.length c12f, .int .i64 f.f11.f2, .int .i64 f.f11.f3, .int .i64 f.f12, .int .i64 f.f13, .int .i64 f.f14, .string f.f15, .string f.f16, .int .i64 f.f17, .int .i64 f.f18, .int .i64 f.f19]])) (show _ = m_used f by unfold m_used; rw [if_neg (by have := HKD.out; omega), if_neg (by have := HKD.out; omega), if_neg (by have := HKD.out; omega), if_neg (by have := HKD.out; omega), if_neg (by have := HKD.out; omega), if_pos (by have := HKD.out; omega)]; try (first | rfl | (rw [h]; done) | (simp [h]; done) | (simp [*]; done)))
      · rw [show m_rest f = { f with f3 := 0 } by unfold m_rest; rw [if_neg (by have := HKD.out; omega), if_neg (by have := HKD.out; omega), if_neg (by have := HKD.out; omega), if_neg (by have := HKD.out; omega), if_neg (by have := HKD.out; omega), if_pos (by have := HKD.out; omega)]]
        exact faK_mk w9 { f with f3 := 0 } (A9 := A9f) (c9 := c9f) l9 (Kd.C_below H9.out hBF) (A10 := A10f) (c10 := c10f) l10 (Kd.C_below H10.out hBF) (A12 := A12f) (c12 := c12f) l12 (Kd.C_below H12.out hBF)
end Go.Proofs.YtkhgdglaophkbaaGreatDoor.PK
end
section
set_option linter.unusedVariables false
set_option linter.unusedSimpArgs false
namespace Go.Proofs.YtkhgdglaophkbaaGreatDoor.PK
open Go.RowKit Go.Proofs.YtkhgdglaophkbaaGreatDoorW.PrintWords Go.Proofs.YtkhgdglaophkbaaGreatDoorW.PrintLast Go.Proofs.YtkhgdglaophkbaaGreatDoorW.PrintMore
set_option maxHeartbeats 8000000 in
set_option maxRecDepth 100000 in
theorem fact_right.walk7 (f : Fa) (A9f : Option Addr) (c9f : Nat) (A10f : Option Addr) (c10f : Nat) (A12f : Option Addr) (c12f : Nat) (w : World) (hk : f.f2 = 7)
    (l9 : f.f9.length ≤ c9f) (h9 : Kd.string.C w A9f f.f9.length f.f9) (l10 : f.f10.length ≤ c10f) (h10 : k49.C w A10f f.f10.length f.f10) (l12 : f.f11.f1.length ≤ c12f) (h12 : (Kd.int .i64).C w A12f f.f11.f1.length f.f11.f1) :
    Calls Tryz.prog 30 #[.agg #[.int .i64 f.f0, .int .i64 f.f1, .int .i64 f.f2, .int .i64 f.f3, .string f.f4, .int .i64 f.f5, .int .i64 f.f6, .string f.f7, .string f.f8, .slice A9f f.f9.length c9f, .slice A10f f.f10.length c10f, .int .i64 f.f11.f0, .slice A12f f.f11.f1.length c12f, .int .i64 f.f11.f2, .int .i64 f.f11.f3, .int .i64 f.f12, .int .i64 f.f13, .int .i64 f.f14, .string f.f15, .string f.f16, .int .i64 f.f17, .int .i64 f.f18, .int .i64 f.f19]] w fun e w' => ∃ cs, e = .returned (.tuple #[.bool (m_used f), .agg cs]) ∧ faK w' (m_rest f) cs ∧ Below w.heap.size w w' := by
  have H9 := Aside0.mk h9
  have H10 := Aside0.mk h10
  have H12 := Aside0.mk h12
  have HK := Aside0.mk hk
  clear h9 h10 h12 hk
  go_enter Tryz.func30, Tryz.ntmps30
  go_wp2_with (with_reducible refine is_box rfl ?_; refine Rg.stop_here ?_)
  refine ⟨?_⟩
  refine box_event rfl (N := 1) rfl (cs := #[.int .i64 f.f0, .int .i64 f.f1, .int .i64 f.f2, .int .i64 f.f3, .string f.f4, .int .i64 f.f5, .int .i64 f.f6, .string f.f7, .string f.f8, .slice A9f f.f9.length c9f, .slice A10f f.f10.length c10f, .int .i64 f.f11.f0, .slice A12f f.f11.f1.length c12f, .int .i64 f.f11.f2, .int .i64 f.f11.f3, .int .i64 f.f12, .int .i64 f.f13, .int .i64 f.f14, .string f.f15, .string f.f16, .int .i64 f.f17, .int .i64 f.f18, .int .i64 f.f19]) (t := 28) (by first | (go_simp; done) | (go_simp; rfl)) ?_
  intro p1 hp1 w1 hbx1 hb1
  have hg1 : w.heap.size ≤ p1 := Nat.le_of_eq hp1.symm
  have HX1 := Aside0.mk hbx1
  have HB1 := Aside0.mk hb1
  clear hp1 hb1 hbx1
  go_wp2_with (with_reducible refine is_alloc rfl ?_; refine Rg.stop_here ?_)
  refine ⟨?_⟩
  refine box_event rfl (N := 3) rfl (cs := #[.int .i64 0, .int .i64 0, .int .i64 0, .int .i64 0, .string (⟨#[]⟩ : ByteArray), .int .i64 0, .int .i64 0, .string (⟨#[]⟩ : ByteArray), .string (⟨#[]⟩ : ByteArray), .slice none 0 0, .slice none 0 0, .int .i64 0, .slice none 0 0, .int .i64 0, .int .i64 0, .int .i64 0, .int .i64 0, .int .i64 0, .string (⟨#[]⟩ : ByteArray), .string (⟨#[]⟩ : ByteArray), .int .i64 0, .int .i64 0, .int .i64 0]) (t := 28) (by first | (go_simp; done) | (go_simp; rfl)) ?_
  intro p3 hp3 w2 hbx3 hb3
  have hl1 := blk_lt HX1.out
  have h13 : p1 ≠ p3 := by omega
  have hg3 : w.heap.size ≤ p3 := by have := HB1.out.size; omega
  have HX1 := Aside0.mk (bk_heap_below HX1.out hb3)
  have HX3 := Aside0.mk hbx3
  have HB2 := Aside0.mk (below_step HB1.out hb3)
  clear hp3 hbx3 hb3 hl1 HB1
  go_wp2_with (with_reducible refine is_loadF rfl ?_; refine Rg.stop_here ?_)
  refine ⟨?_⟩
  refine wpList_load_row rfl 28 _ rfl p1 rfl _ _ _ _ HX1.out Tryz.underlying28 rfl fa_size ?_
  go_wp2_with (with_reducible refine is_alloc rfl ?_; refine Rg.stop_here ?_)
  refine ⟨?_⟩
  refine box_event rfl (N := 4) rfl (cs := #[.int .i64 0, .int .i64 0, .int .i64 0, .int .i64 0, .string (⟨#[]⟩ : ByteArray), .int .i64 0, .int .i64 0, .string (⟨#[]⟩ : ByteArray), .string (⟨#[]⟩ : ByteArray), .slice none 0 0, .slice none 0 0, .int .i64 0, .slice none 0 0, .int .i64 0, .int .i64 0, .int .i64 0, .int .i64 0, .int .i64 0, .string (⟨#[]⟩ : ByteArray), .string (⟨#[]⟩ : ByteArray), .int .i64 0, .int .i64 0, .int .i64 0]) (t := 28) (by first | (go_simp; done) | (go_simp; rfl)) ?_
  intro p4 hp4 w3 hbx4 hb4
  have hl1 := blk_lt HX1.out
  have hl3 := blk_lt HX3.out
  have h14 : p1 ≠ p4 := by omega
  have h34 : p3 ≠ p4 := by omega
  have hg4 : w.heap.size ≤ p4 := by have := HB2.out.size; omega
  have HX1 := Aside0.mk (bk_heap_below HX1.out hb4)
  have HX3 := Aside0.mk (bk_heap_below HX3.out hb4)
  have HB3 := Aside0.mk (below_step HB2.out hb4)
  clear hp4 hb4 hl1 hl3 HB2
  go_wp2_with (with_reducible refine is_store rfl ?_; refine Rg.stop_here ?_)
  refine ⟨?_⟩
  refine wpList_store_box rfl rfl _ _ _ rfl p4 _ _ _ rfl rfl hbx4 fa_size rfl (by repeat (first | exact List.forall_mem_nil _ | refine List.forall_mem_cons.2 ⟨rfl, ?_⟩)) ?_
  intro w4 hx4 hst hot
  have HX4 := Aside0.mk hx4
  have HX1 := Aside0.mk ((hot p1 h14).trans HX1.out)
  have HX3 := Aside0.mk ((hot p3 h34).trans HX3.out)
  have HB := Aside0.mk (show Below w.heap.size w w4 from ⟨(hst p4 (Nat.le_refl _)).os.trans HB3.out.os, (hst p4 (Nat.le_refl _)).tape.trans HB3.out.tape, (hst p4 (Nat.le_refl _)).output.trans HB3.out.output, Nat.le_trans HB3.out.size (hst p4 (Nat.le_refl _)).size, fun k hk => (hot k (by omega)).trans (HB3.out.block k hk)⟩)
  clear hbx4 hx4 hst hot HB3
  have c3 := bk_cell HX1.out 3
  have c20 := bk_cell HX1.out 20
  have c22 := bk_cell HX1.out 22
  go_upto_region 3 with (first | (go_at_call 31; (with_reducible refine (fr_within f.f3 1 64 _).mono ?_); rintro e wa ⟨rfl, hd⟩; obtain ⟨m, rfl⟩ := fr_drawn hd))
  go_cut [6] from 12 to 19 (fun v6 wx => v6 = .bool (m_in f.f17 1 8 && m_in f.f19 0 1000000000) ∧ ∃ nq, wx = w4.drewN nq)
  case first =>
    have HF := Aside0.mk (fr_within f.f17 1 8)
    cases hB : m_in f.f17 1 8 with
    | false =>
      rw [hB] at HF
      have HBB := Aside0.mk hB
      clear hB
      go_wp2_with (go_at_call 31; (with_reducible refine (HF.out _).mono ?_); rintro e wb ⟨rfl, hd2⟩; obtain ⟨m2, rfl⟩ := fr_drawn hd2)
      go_meet
      exact ⟨by rw [HBB.out]; rfl, _, by first | rfl | exact (World.drewN_drewN _ _ _)⟩
    | true =>
      rw [hB] at HF
      have HBB := Aside0.mk hB
      clear hB
      go_wp2_with (first | (go_at_call 31; (with_reducible refine (HF.out _).mono ?_); rintro e wb ⟨rfl, hd2⟩; obtain ⟨m2, rfl⟩ := fr_drawn hd2) | (go_at_call 31; (with_reducible refine (fr_within f.f19 0 1000000000 _).mono ?_); rintro e wc ⟨rfl, hd3⟩; obtain ⟨m3, rfl⟩ := fr_drawn hd3))
      go_meet
      exact ⟨by rw [HBB.out]; rfl, _, by first | rfl | exact (World.drewN_drewN _ _ _)⟩
  case rest =>
  obtain ⟨rfl, nq, rfl⟩ := hcut
  clear c3 c20 c22
  obtain ⟨w5, hw5⟩ : ∃ w5, w4.drewN nq = w5 := ⟨_, rfl⟩
  have HX1 : Aside0 (w5.heap[p1]? = some (.cells #[.int .i64 f.f0, .int .i64 f.f1, .int .i64 f.f2, .int .i64 f.f3, .string f.f4, .int .i64 f.f5, .int .i64 f.f6, .string f.f7, .string f.f8, .slice A9f f.f9.length c9f, .slice A10f f.f10.length c10f, .int .i64 f.f11.f0, .slice A12f f.f11.f1.length c12f, .int .i64 f.f11.f2, .int .i64 f.f11.f3, .int .i64 f.f12, .int .i64 f.f13, .int .i64 f.f14, .string f.f15, .string f.f16, .int .i64 f.f17, .int .i64 f.f18, .int .i64 f.f19] 28 (0, 0))) := ⟨by rw [← hw5]; exact HX1.out⟩
  have HX3 : Aside0 (w5.heap[p3]? = some (.cells #[.int .i64 0, .int .i64 0, .int .i64 0, .int .i64 0, .string (⟨#[]⟩ : ByteArray), .int .i64 0, .int .i64 0, .string (⟨#[]⟩ : ByteArray), .string (⟨#[]⟩ : ByteArray), .slice none 0 0, .slice none 0 0, .int .i64 0, .slice none 0 0, .int .i64 0, .int .i64 0, .int .i64 0, .int .i64 0, .int .i64 0, .string (⟨#[]⟩ : ByteArray), .string (⟨#[]⟩ : ByteArray), .int .i64 0, .int .i64 0, .int .i64 0] 28 (0, 0))) := ⟨by rw [← hw5]; exact HX3.out⟩
  have HX4 : Aside0 (w5.heap[p4]? = some (.cells #[.int .i64 f.f0, .int .i64 f.f1, .int .i64 f.f2, .int .i64 f.f3, .string f.f4, .int .i64 f.f5, .int .i64 f.f6, .string f.f7, .string f.f8, .slice A9f f.f9.length c9f, .slice A10f f.f10.length c10f, .int .i64 f.f11.f0, .slice A12f f.f11.f1.length c12f, .int .i64 f.f11.f2, .int .i64 f.f11.f3, .int .i64 f.f12, .int .i64 f.f13, .int .i64 f.f14, .string f.f15, .string f.f16, .int .i64 f.f17, .int .i64 f.f18, .int .i64 f.f19] 28 (0, 0))) := ⟨by rw [← hw5]; exact HX4.out⟩
  have HB := Aside0.mk (show Below w.heap.size w w5 by rw [← hw5]; exact pw_below_drewN HB.out nq)
  rw [hw5]
  clear hw5
  have hk := HK.out
  · have HKD := Aside0.mk hk
    have e1 : (f.f2 == 1) = false := by rw [hk]; rfl
    have e2 : (f.f2 == 2) = false := by rw [hk]; rfl
    have e3 : (f.f2 == 3) = false := by rw [hk]; rfl
    have e4 : (f.f2 == 4) = false := by rw [hk]; rfl
    have e5 : (f.f2 == 5) = false := by rw [hk]; rfl
    have e6 : (f.f2 == 6) = false := by rw [hk]; rfl
    have e10 : (f.f2 == 10) = false := by rw [hk]; rfl
    have e7 : (f.f2 == 7) = true := by rw [hk]; rfl
    clear hk
    have c2 := bk_cell HX1.out 2
    have d19 := bk_cell HX4.out 19
    have z19 := bk_frozen HX4.out 19
    have d18 := bk_cell HX4.out 18
    have z18 := bk_frozen HX4.out 18
    go_upto_region 26 with fail
    go_cut [] from 151 to 152 (fun wx => wx.heap[p4]? = some (.cells #[.int .i64 f.f0, .int .i64 f.f1, .int .i64 f.f2, .int .i64 f.f3, .string f.f4, .int .i64 f.f5, .int .i64 f.f6, .string f.f7, .string f.f8, .slice A9f f.f9.length c9f, .slice A10f f.f10.length c10f, .int .i64 f.f11.f0, .slice A12f f.f11.f1.length c12f, .int .i64 f.f11.f2, .int .i64 f.f11.f3, .int .i64 f.f12, .int .i64 f.f13, .int .i64 f.f14, .string (⟨#[]⟩ : ByteArray), .string (⟨#[]⟩ : ByteArray), .int .i64 f.f17, .int .i64 f.f18, .int .i64 f.f19] 28 (0, 0)) ∧ wx.heap[p1]? = some (.cells #[.int .i64 f.f0, .int .i64 f.f1, .int .i64 f.f2, .int .i64 f.f3, .string f.f4, .int .i64 f.f5, .int .i64 f.f6, .string f.f7, .string f.f8, .slice A9f f.f9.length c9f, .slice A10f f.f10.length c10f, .int .i64 f.f11.f0, .slice A12f f.f11.f1.length c12f, .int .i64 f.f11.f2, .int .i64 f.f11.f3, .int .i64 f.f12, .int .i64 f.f13, .int .i64 f.f14, .string f.f15, .string f.f16, .int .i64 f.f17, .int .i64 f.f18, .int .i64 f.f19] 28 (0, 0)) ∧ wx.heap[p3]? = some (.cells #[.int .i64 0, .int .i64 0, .int .i64 0, .int .i64 0, .string (⟨#[]⟩ : ByteArray), .int .i64 0, .int .i64 0, .string (⟨#[]⟩ : ByteArray), .string (⟨#[]⟩ : ByteArray), .slice none 0 0, .slice none 0 0, .int .i64 0, .slice none 0 0, .int .i64 0, .int .i64 0, .int .i64 0, .int .i64 0, .int .i64 0, .string (⟨#[]⟩ : ByteArray), .string (⟨#[]⟩ : ByteArray), .int .i64 0, .int .i64 0, .int .i64 0] 28 (0, 0)) ∧ Below w.heap.size w wx)
    case first =>
      go_wp2_with fail
      go_meet
      have g0_ := HX4.out
      have g1_ := blk_set g0_ 19 (.string ⟨#[]⟩)
      simp only [List.setIfInBounds_toArray, List.set_cons_zero, List.set_cons_succ] at g1_
      clear g0_
      have g2_ := blk_set g1_ 18 (.string ⟨#[]⟩)
      simp only [List.setIfInBounds_toArray, List.set_cons_zero, List.set_cons_succ] at g2_
      clear g1_
      exact ⟨g2_, ((Below.heap_setCell _ _ _ _ h14).trans ((Below.heap_setCell _ _ _ _ h14).trans HX1.out)), ((Below.heap_setCell _ _ _ _ h34).trans ((Below.heap_setCell _ _ _ _ h34).trans HX3.out)), (Below.setCell (Below.setCell HB.out hg4 _) hg4 _)⟩
    case rest =>
    obtain ⟨hx4, hx1, hx3, hB⟩ := hcut
    have HX1 := Aside0.mk hx1
    have HB := Aside0.mk hB
    clear hx1 hB d19 z19 d18 z18 c2 e1 e2 e3 e4 e5 e6 e10 e7
    obtain ⟨w6, hw6⟩ : ∃ w6, wc = w6 := ⟨_, rfl⟩
    rw [hw6] at HX1 HB hx4 hx3 ⊢
    clear hw6
    have c18 := bk_cell HX1.out 18
    have c19 := bk_cell HX1.out 19
    go_wp2_with fail
    refine rg_start [10] (by kernel_rfl) rfl ?_
    refine rg_pure (N := some 153) 0 (v := _) rfl rfl (by kernel_rfl) (fun _ _ _ h => h) rfl (fun w' => by go_simp <;> with_reducible rfl) (by dsimp only [Act.put, List.setIfInBounds_toArray, List.set_cons_zero, List.set_cons_succ, ↓reduceIte]) ?_
    refine rg_load (N := some 154) 1 rfl rfl (by kernel_rfl) (fun _ _ _ h => h) rfl (below_drew1 (Below.refl _ _)) (fun w' hS' => by have c_ := rg_get hS' c19; go_simp <;> with_reducible rfl) (by dsimp only [Act.put, List.setIfInBounds_toArray, List.set_cons_zero, List.set_cons_succ, ↓reduceIte]) ?_
    refine rg_load (N := some 161) 8 rfl rfl (by kernel_rfl) (fun _ _ _ h => h) rfl (below_drew1 (Below.refl _ _)) (fun w' hS' => rg_runRow _ _ rfl p4 (by kernel_rfl) _ _ _ _ (rg_blk hS' hx4) Tryz.underlying28 rfl fa_size) (by dsimp only [Act.put, List.setIfInBounds_toArray, List.set_cons_zero, List.set_cons_succ, ↓reduceIte]) ?_
    refine rg_call (N := some 155) 2 true (.bool (m_name f.f16)) #[.string f.f16] rfl rfl (by kernel_rfl) (by decide) rfl Tryz.func46 (by kernel_rfl) rfl rfl (fun hb_ => rg_args1 (by go_simp)) (below_drew1 (Below.refl _ _)) (fun hb_ w1 h1 => (fr_name f.f16 w1).mono (fun e w2 h => ⟨h.1, rg_drawn h1 h.2⟩)) (by dsimp only [Act.put, List.setIfInBounds_toArray, List.set_cons_zero, List.set_cons_succ, ↓reduceIte]) (fun wq1 hq1 => ?_)
    refine rg_pure (N := some 156) 3 (v := _) rfl rfl (by kernel_rfl) (fun _ _ _ h => h) rfl (fun w' => by go_simp <;> with_reducible rfl) (by dsimp only [Act.put, List.setIfInBounds_toArray, List.set_cons_zero, List.set_cons_succ, ↓reduceIte]) ?_
    refine rg_pureG (N := some 157) 4 ((m_name f.f16)) (_) rfl rfl (by kernel_rfl) (fun _ _ _ h => h) (rg_wantT rfl (by kernel_rfl)) (fun hb_ w' => by go_simp <;> with_reducible rfl) (by dsimp only [Act.put, List.setIfInBounds_toArray, List.set_cons_zero, List.set_cons_succ, ↓reduceIte]) ?_
    refine rg_oneG (N := some 158) 5 ((m_name f.f16)) _ rfl rfl (by kernel_rfl) (by decide) (rg_wantT rfl (by kernel_rfl)) hq1 (fun hb_ w' hS' => by have c_ := rg_get hS' c18; go_simp <;> with_reducible rfl) (by dsimp only [Act.put, List.setIfInBounds_toArray, List.set_cons_zero, List.set_cons_succ, ↓reduceIte]) ?_
    refine rg_call (N := some 159) 6 ((m_name f.f16)) (.bool (m_fsource f.f15)) #[.string f.f15] rfl rfl (by kernel_rfl) (by decide) (rg_wantT rfl (by kernel_rfl)) Tryz.func50 (by kernel_rfl) rfl rfl (fun hb_ => rg_args1 (by go_simp)) hq1 (fun hb_ w1 h1 => (fr_source f.f15 w1).mono (fun e w2 h => ⟨h.1, rg_drawn h1 h.2⟩)) (by dsimp only [Act.put, List.setIfInBounds_toArray, List.set_cons_zero, List.set_cons_succ, ↓reduceIte]) (fun wq2 hq2 => ?_)
    refine rg_pure (N := some 160) 7 (v := .bool (((m_name f.f16)) && ((m_fsource f.f15)))) rfl rfl (by kernel_rfl) (fun _ _ _ h => h) rfl (fun w' => rg_runAnd rfl (by kernel_rfl) (fun h_ => by go_simp)) (by dsimp only [Act.put, List.setIfInBounds_toArray, List.set_cons_zero, List.set_cons_succ, ↓reduceIte]) ?_
    refine rg_pure (N := some 2) 9 (v := _) rfl rfl (by kernel_rfl) (fun _ _ _ h => h) rfl (fun w' => by go_simp <;> with_reducible rfl) (by dsimp only [Act.put, List.setIfInBounds_toArray, List.set_cons_zero, List.set_cons_succ, ↓reduceIte]) ?_
    have hS9 : rgS _ _ := hq2
    refine rg_storeRow 10 rfl rfl (by kernel_rfl) (by decide) rfl 28 _ _ rfl p3 #[.int .i64 0, .int .i64 0, .int .i64 0, .int .i64 0, .string (⟨#[]⟩ : ByteArray), .int .i64 0, .int .i64 0, .string (⟨#[]⟩ : ByteArray), .string (⟨#[]⟩ : ByteArray), .slice none 0 0, .slice none 0 0, .int .i64 0, .slice none 0 0, .int .i64 0, .int .i64 0, .int .i64 0, .int .i64 0, .int .i64 0, .string (⟨#[]⟩ : ByteArray), .string (⟨#[]⟩ : ByteArray), .int .i64 0, .int .i64 0, .int .i64 0] #[.int .i64 f.f0, .int .i64 f.f1, .int .i64 f.f2, .int .i64 f.f3, .string f.f4, .int .i64 f.f5, .int .i64 f.f6, .string f.f7, .string f.f8, .slice A9f f.f9.length c9f, .slice A10f f.f10.length c10f, .int .i64 f.f11.f0, .slice A12f f.f11.f1.length c12f, .int .i64 f.f11.f2, .int .i64 f.f11.f3, .int .i64 f.f12, .int .i64 f.f13, .int .i64 f.f14, .string (⟨#[]⟩ : ByteArray), .string (⟨#[]⟩ : ByteArray), .int .i64 f.f17, .int .i64 f.f18, .int .i64 f.f19] 28 (by kernel_rfl) (by kernel_rfl) (rg_blk hS9 hx3) fa_size rfl (by repeat (first | exact List.forall_mem_nil _ | refine List.forall_mem_cons.2 ⟨rfl, ?_⟩)) ?_
    intro w9 hx9 hst hot
    refine rg_done (by kernel_rfl) ?_
    have hBF : Below w.heap.size w w9 := (below_step HB.out hS9).trans (hst w.heap.size hg3)
    have HBF := Aside0.mk hBF
    have HX9 := Aside0.mk hx9
    clear hS9 hst hot hBF hx9 hx3 hx4 c18 c19
    go_wp2
    all_goals
      refine bodyPost_ret (rg_results2 rfl _ _ p3 _ _ _ _ rfl HX9.out Tryz.underlying28 rfl fa_size) rfl ?_
      have hBF := HBF.out
      refine ⟨#[.int .i64 f.f0, .int .i64 f.f1, .int .i64 f.f2, .int .i64 f.f3, .string f.f4, .int .i64 f.f5, .int .i64 f.f6, .string f.f7, .string f.f8, .slice A9f f.f9.length c9f, .slice A10f f.f10.length c10f, .int .i64 f.f11.f0, .slice A12f f.f11.f1.length c12f, .int .i64 f.f11.f2, .int .i64 f.f11.f3, .int .i64 f.f12, .int .i64 f.f13, .int .i64 f.f14, .string (⟨#[]⟩ : ByteArray), .string (⟨#[]⟩ : ByteArray), .int .i64 f.f17, .int .i64 f.f18, .int .i64 f.f19], ?_, ?_, hBF⟩
      · exact congrArg (fun b : Bool => Ending.returned (.tuple #[.bool b, .agg #[.int .i64 f.f0, .int .i64 f.f1, .int .i64 f.f2, .int .i64 f.f3, .string f.f4, .int .i64 f.f5, .int .i64 f.f6, .string f.f7, .string f.f8, .slice A9f f.f9.length c9f, .slice A10f f.f10.length c10f, .int .i64 f.f11.f0, .slice A12f f.f11.f1.length c12f, .int .i64 f.f11.f2, .int .i64 f.f11.f3, .int .i64 f.f12, .int .i64 f.f13, .int .i64 f.f14, .string (⟨#[]⟩ : ByteArray), .string (⟨#[]⟩ : ByteArray), .int .i64 f.f17, .int .i64 f.f18, .int .i64 f.f19]])) (show _ = m_used f by unfold m_used; rw [if_neg (by have := HKD.out; omega), if_neg (by have := HKD.out; omega), if_neg (by have := HKD.out; omega), if_neg (by have := HKD.out; omega), if_neg (by have := HKD.out; omega), if_neg (by have := HKD.out; omega), if_pos (by have := HKD.out; omega)]; try (first | rfl | (rw [h]; done) | (simp [h]; done) | (simp [*]; done)))
      · rw [show m_rest f = { f with f16 := ⟨#[]⟩, f15 := ⟨#[]⟩ } by unfold m_rest; rw [if_neg (by have := HKD.out; omega), if_neg (by have := HKD.out; omega), if_neg (by have := HKD.out; omega), if_neg (by have := HKD.out; omega), if_neg (by have := HKD.out; omega), if_neg (by have := HKD.out; omega), if_pos (by have := HKD.out; omega)]]
        exact faK_mk w9 { f with f16 := ⟨#[]⟩, f15 := ⟨#[]⟩ } (A9 := A9f) (c9 := c9f) l9 (Kd.C_below H9.out hBF) (A10 := A10f) (c10 := c10f) l10 (Kd.C_below H10.out hBF) (A12 := A12f) (c12 := c12f) l12 (Kd.C_below H12.out hBF)
end Go.Proofs.YtkhgdglaophkbaaGreatDoor.PK
end
section
set_option linter.unusedVariables false
set_option linter.unusedSimpArgs false
namespace Go.Proofs.YtkhgdglaophkbaaGreatDoor.PK
open Go.RowKit Go.Proofs.YtkhgdglaophkbaaGreatDoorW.PrintWords Go.Proofs.YtkhgdglaophkbaaGreatDoorW.PrintLast Go.Proofs.YtkhgdglaophkbaaGreatDoorW.PrintMore
set_option maxHeartbeats 8000000 in
set_option maxRecDepth 100000 in
theorem fact_right.walk8 (f : Fa) (A9f : Option Addr) (c9f : Nat) (A10f : Option Addr) (c10f : Nat) (A12f : Option Addr) (c12f : Nat) (w : World) (hk : f.f2 = 8)
    (l9 : f.f9.length ≤ c9f) (h9 : Kd.string.C w A9f f.f9.length f.f9) (l10 : f.f10.length ≤ c10f) (h10 : k49.C w A10f f.f10.length f.f10) (l12 : f.f11.f1.length ≤ c12f) (h12 : (Kd.int .i64).C w A12f f.f11.f1.length f.f11.f1) :
    Calls Tryz.prog 30 #[.agg #[.int .i64 f.f0, .int .i64 f.f1, .int .i64 f.f2, .int .i64 f.f3, .string f.f4, .int .i64 f.f5, .int .i64 f.f6, .string f.f7, .string f.f8, .slice A9f f.f9.length c9f, .slice A10f f.f10.length c10f, .int .i64 f.f11.f0, .slice A12f f.f11.f1.length c12f, .int .i64 f.f11.f2, .int .i64 f.f11.f3, .int .i64 f.f12, .int .i64 f.f13, .int .i64 f.f14, .string f.f15, .string f.f16, .int .i64 f.f17, .int .i64 f.f18, .int .i64 f.f19]] w fun e w' => ∃ cs, e = .returned (.tuple #[.bool (m_used f), .agg cs]) ∧ faK w' (m_rest f) cs ∧ Below w.heap.size w w' := by
  have H9 := Aside0.mk h9
  have H10 := Aside0.mk h10
  have H12 := Aside0.mk h12
  have HK := Aside0.mk hk
  clear h9 h10 h12 hk
  go_enter Tryz.func30, Tryz.ntmps30
  go_wp2_with (with_reducible refine is_box rfl ?_; refine Rg.stop_here ?_)
  refine ⟨?_⟩
  refine box_event rfl (N := 1) rfl (cs := #[.int .i64 f.f0, .int .i64 f.f1, .int .i64 f.f2, .int .i64 f.f3, .string f.f4, .int .i64 f.f5, .int .i64 f.f6, .string f.f7, .string f.f8, .slice A9f f.f9.length c9f, .slice A10f f.f10.length c10f, .int .i64 f.f11.f0, .slice A12f f.f11.f1.length c12f, .int .i64 f.f11.f2, .int .i64 f.f11.f3, .int .i64 f.f12, .int .i64 f.f13, .int .i64 f.f14, .string f.f15, .string f.f16, .int .i64 f.f17, .int .i64 f.f18, .int .i64 f.f19]) (t := 28) (by first | (go_simp; done) | (go_simp; rfl)) ?_
  intro p1 hp1 w1 hbx1 hb1
  have hg1 : w.heap.size ≤ p1 := Nat.le_of_eq hp1.symm
  have HX1 := Aside0.mk hbx1
  have HB1 := Aside0.mk hb1
  clear hp1 hb1 hbx1
  go_wp2_with (with_reducible refine is_alloc rfl ?_; refine Rg.stop_here ?_)
  refine ⟨?_⟩
  refine box_event rfl (N := 3) rfl (cs := #[.int .i64 0, .int .i64 0, .int .i64 0, .int .i64 0, .string (⟨#[]⟩ : ByteArray), .int .i64 0, .int .i64 0, .string (⟨#[]⟩ : ByteArray), .string (⟨#[]⟩ : ByteArray), .slice none 0 0, .slice none 0 0, .int .i64 0, .slice none 0 0, .int .i64 0, .int .i64 0, .int .i64 0, .int .i64 0, .int .i64 0, .string (⟨#[]⟩ : ByteArray), .string (⟨#[]⟩ : ByteArray), .int .i64 0, .int .i64 0, .int .i64 0]) (t := 28) (by first | (go_simp; done) | (go_simp; rfl)) ?_
  intro p3 hp3 w2 hbx3 hb3
  have hl1 := blk_lt HX1.out
  have h13 : p1 ≠ p3 := by omega
  have hg3 : w.heap.size ≤ p3 := by have := HB1.out.size; omega
  have HX1 := Aside0.mk (bk_heap_below HX1.out hb3)
  have HX3 := Aside0.mk hbx3
  have HB2 := Aside0.mk (below_step HB1.out hb3)
  clear hp3 hbx3 hb3 hl1 HB1
  go_wp2_with (with_reducible refine is_loadF rfl ?_; refine Rg.stop_here ?_)
  refine ⟨?_⟩
  refine wpList_load_row rfl 28 _ rfl p1 rfl _ _ _ _ HX1.out Tryz.underlying28 rfl fa_size ?_
  go_wp2_with (with_reducible refine is_alloc rfl ?_; refine Rg.stop_here ?_)
  refine ⟨?_⟩
  refine box_event rfl (N := 4) rfl (cs := #[.int .i64 0, .int .i64 0, .int .i64 0, .int .i64 0, .string (⟨#[]⟩ : ByteArray), .int .i64 0, .int .i64 0, .string (⟨#[]⟩ : ByteArray), .string (⟨#[]⟩ : ByteArray), .slice none 0 0, .slice none 0 0, .int .i64 0, .slice none 0 0, .int .i64 0, .int .i64 0, .int .i64 0, .int .i64 0, .int .i64 0, .string (⟨#[]⟩ : ByteArray), .string (⟨#[]⟩ : ByteArray), .int .i64 0, .int .i64 0, .int .i64 0]) (t := 28) (by first | (go_simp; done) | (go_simp; rfl)) ?_
  intro p4 hp4 w3 hbx4 hb4
  have hl1 := blk_lt HX1.out
  have hl3 := blk_lt HX3.out
  have h14 : p1 ≠ p4 := by omega
  have h34 : p3 ≠ p4 := by omega
  have hg4 : w.heap.size ≤ p4 := by have := HB2.out.size; omega
  have HX1 := Aside0.mk (bk_heap_below HX1.out hb4)
  have HX3 := Aside0.mk (bk_heap_below HX3.out hb4)
  have HB3 := Aside0.mk (below_step HB2.out hb4)
  clear hp4 hb4 hl1 hl3 HB2
  go_wp2_with (with_reducible refine is_store rfl ?_; refine Rg.stop_here ?_)
  refine ⟨?_⟩
  refine wpList_store_box rfl rfl _ _ _ rfl p4 _ _ _ rfl rfl hbx4 fa_size rfl (by repeat (first | exact List.forall_mem_nil _ | refine List.forall_mem_cons.2 ⟨rfl, ?_⟩)) ?_
  intro w4 hx4 hst hot
  have HX4 := Aside0.mk hx4
  have HX1 := Aside0.mk ((hot p1 h14).trans HX1.out)
  have HX3 := Aside0.mk ((hot p3 h34).trans HX3.out)
  have HB := Aside0.mk (show Below w.heap.size w w4 from ⟨(hst p4 (Nat.le_refl _)).os.trans HB3.out.os, (hst p4 (Nat.le_refl _)).tape.trans HB3.out.tape, (hst p4 (Nat.le_refl _)).output.trans HB3.out.output, Nat.le_trans HB3.out.size (hst p4 (Nat.le_refl _)).size, fun k hk => (hot k (by omega)).trans (HB3.out.block k hk)⟩)
  clear hbx4 hx4 hst hot HB3
  have c3 := bk_cell HX1.out 3
  have c20 := bk_cell HX1.out 20
  have c22 := bk_cell HX1.out 22
  go_upto_region 3 with (first | (go_at_call 31; (with_reducible refine (fr_within f.f3 1 64 _).mono ?_); rintro e wa ⟨rfl, hd⟩; obtain ⟨m, rfl⟩ := fr_drawn hd))
  go_cut [6] from 12 to 19 (fun v6 wx => v6 = .bool (m_in f.f17 1 8 && m_in f.f19 0 1000000000) ∧ ∃ nq, wx = w4.drewN nq)
  case first =>
    have HF := Aside0.mk (fr_within f.f17 1 8)
    cases hB : m_in f.f17 1 8 with
    | false =>
      rw [hB] at HF
      have HBB := Aside0.mk hB
      clear hB
      go_wp2_with (go_at_call 31; (with_reducible refine (HF.out _).mono ?_); rintro e wb ⟨rfl, hd2⟩; obtain ⟨m2, rfl⟩ := fr_drawn hd2)
      go_meet
      exact ⟨by rw [HBB.out]; rfl, _, by first | rfl | exact (World.drewN_drewN _ _ _)⟩
    | true =>
      rw [hB] at HF
      have HBB := Aside0.mk hB
      clear hB
      go_wp2_with (first | (go_at_call 31; (with_reducible refine (HF.out _).mono ?_); rintro e wb ⟨rfl, hd2⟩; obtain ⟨m2, rfl⟩ := fr_drawn hd2) | (go_at_call 31; (with_reducible refine (fr_within f.f19 0 1000000000 _).mono ?_); rintro e wc ⟨rfl, hd3⟩; obtain ⟨m3, rfl⟩ := fr_drawn hd3))
      go_meet
      exact ⟨by rw [HBB.out]; rfl, _, by first | rfl | exact (World.drewN_drewN _ _ _)⟩
  case rest =>
  obtain ⟨rfl, nq, rfl⟩ := hcut
  clear c3 c20 c22
  obtain ⟨w5, hw5⟩ : ∃ w5, w4.drewN nq = w5 := ⟨_, rfl⟩
  have HX1 : Aside0 (w5.heap[p1]? = some (.cells #[.int .i64 f.f0, .int .i64 f.f1, .int .i64 f.f2, .int .i64 f.f3, .string f.f4, .int .i64 f.f5, .int .i64 f.f6, .string f.f7, .string f.f8, .slice A9f f.f9.length c9f, .slice A10f f.f10.length c10f, .int .i64 f.f11.f0, .slice A12f f.f11.f1.length c12f, .int .i64 f.f11.f2, .int .i64 f.f11.f3, .int .i64 f.f12, .int .i64 f.f13, .int .i64 f.f14, .string f.f15, .string f.f16, .int .i64 f.f17, .int .i64 f.f18, .int .i64 f.f19] 28 (0, 0))) := ⟨by rw [← hw5]; exact HX1.out⟩
  have HX3 : Aside0 (w5.heap[p3]? = some (.cells #[.int .i64 0, .int .i64 0, .int .i64 0, .int .i64 0, .string (⟨#[]⟩ : ByteArray), .int .i64 0, .int .i64 0, .string (⟨#[]⟩ : ByteArray), .string (⟨#[]⟩ : ByteArray), .slice none 0 0, .slice none 0 0, .int .i64 0, .slice none 0 0, .int .i64 0, .int .i64 0, .int .i64 0, .int .i64 0, .int .i64 0, .string (⟨#[]⟩ : ByteArray), .string (⟨#[]⟩ : ByteArray), .int .i64 0, .int .i64 0, .int .i64 0] 28 (0, 0))) := ⟨by rw [← hw5]; exact HX3.out⟩
  have HX4 : Aside0 (w5.heap[p4]? = some (.cells #[.int .i64 f.f0, .int .i64 f.f1, .int .i64 f.f2, .int .i64 f.f3, .string f.f4, .int .i64 f.f5, .int .i64 f.f6, .string f.f7, .string f.f8, .slice A9f f.f9.length c9f, .slice A10f f.f10.length c10f, .int .i64 f.f11.f0, .slice A12f f.f11.f1.length c12f, .int .i64 f.f11.f2, .int .i64 f.f11.f3, .int .i64 f.f12, .int .i64 f.f13, .int .i64 f.f14, .string f.f15, .string f.f16, .int .i64 f.f17, .int .i64 f.f18, .int .i64 f.f19] 28 (0, 0))) := ⟨by rw [← hw5]; exact HX4.out⟩
  have HB := Aside0.mk (show Below w.heap.size w w5 by rw [← hw5]; exact pw_below_drewN HB.out nq)
  rw [hw5]
  clear hw5
  have hk := HK.out
  · have HKD := Aside0.mk hk
    have e1 : (f.f2 == 1) = false := by rw [hk]; rfl
    have e2 : (f.f2 == 2) = false := by rw [hk]; rfl
    have e3 : (f.f2 == 3) = false := by rw [hk]; rfl
    have e4 : (f.f2 == 4) = false := by rw [hk]; rfl
    have e5 : (f.f2 == 5) = false := by rw [hk]; rfl
    have e6 : (f.f2 == 6) = false := by rw [hk]; rfl
    have e10 : (f.f2 == 10) = false := by rw [hk]; rfl
    have e7 : (f.f2 == 7) = false := by rw [hk]; rfl
    have e8 : (f.f2 == 8) = true := by rw [hk]; rfl
    clear hk
    have c2 := bk_cell HX1.out 2
    have d20 := bk_cell HX4.out 20
    have z20 := bk_frozen HX4.out 20
    have d21 := bk_cell HX4.out 21
    have z21 := bk_frozen HX4.out 21
    have d22 := bk_cell HX4.out 22
    have z22 := bk_frozen HX4.out 22
    go_upto_region 29 with fail
    go_cut [] from 164 to 166 (fun wx => wx.heap[p4]? = some (.cells #[.int .i64 f.f0, .int .i64 f.f1, .int .i64 f.f2, .int .i64 f.f3, .string f.f4, .int .i64 f.f5, .int .i64 f.f6, .string f.f7, .string f.f8, .slice A9f f.f9.length c9f, .slice A10f f.f10.length c10f, .int .i64 f.f11.f0, .slice A12f f.f11.f1.length c12f, .int .i64 f.f11.f2, .int .i64 f.f11.f3, .int .i64 f.f12, .int .i64 f.f13, .int .i64 f.f14, .string f.f15, .string f.f16, .int .i64 0, .int .i64 0, .int .i64 0] 28 (0, 0)) ∧ wx.heap[p1]? = some (.cells #[.int .i64 f.f0, .int .i64 f.f1, .int .i64 f.f2, .int .i64 f.f3, .string f.f4, .int .i64 f.f5, .int .i64 f.f6, .string f.f7, .string f.f8, .slice A9f f.f9.length c9f, .slice A10f f.f10.length c10f, .int .i64 f.f11.f0, .slice A12f f.f11.f1.length c12f, .int .i64 f.f11.f2, .int .i64 f.f11.f3, .int .i64 f.f12, .int .i64 f.f13, .int .i64 f.f14, .string f.f15, .string f.f16, .int .i64 f.f17, .int .i64 f.f18, .int .i64 f.f19] 28 (0, 0)) ∧ wx.heap[p3]? = some (.cells #[.int .i64 0, .int .i64 0, .int .i64 0, .int .i64 0, .string (⟨#[]⟩ : ByteArray), .int .i64 0, .int .i64 0, .string (⟨#[]⟩ : ByteArray), .string (⟨#[]⟩ : ByteArray), .slice none 0 0, .slice none 0 0, .int .i64 0, .slice none 0 0, .int .i64 0, .int .i64 0, .int .i64 0, .int .i64 0, .int .i64 0, .string (⟨#[]⟩ : ByteArray), .string (⟨#[]⟩ : ByteArray), .int .i64 0, .int .i64 0, .int .i64 0] 28 (0, 0)) ∧ Below w.heap.size w wx)
    case first =>
      go_wp2_with fail
      go_meet
      have g0_ := HX4.out
      have g1_ := blk_set g0_ 20 (.int .i64 0)
      simp only [List.setIfInBounds_toArray, List.set_cons_zero, List.set_cons_succ] at g1_
      clear g0_
      have g2_ := blk_set g1_ 21 (.int .i64 0)
      simp only [List.setIfInBounds_toArray, List.set_cons_zero, List.set_cons_succ] at g2_
      clear g1_
      have g3_ := blk_set g2_ 22 (.int .i64 0)
      simp only [List.setIfInBounds_toArray, List.set_cons_zero, List.set_cons_succ] at g3_
      clear g2_
      exact ⟨g3_, ((Below.heap_setCell _ _ _ _ h14).trans ((Below.heap_setCell _ _ _ _ h14).trans ((Below.heap_setCell _ _ _ _ h14).trans HX1.out))), ((Below.heap_setCell _ _ _ _ h34).trans ((Below.heap_setCell _ _ _ _ h34).trans ((Below.heap_setCell _ _ _ _ h34).trans HX3.out))), (Below.setCell (Below.setCell (Below.setCell HB.out hg4 _) hg4 _) hg4 _)⟩
    case rest =>
    obtain ⟨hx4, hx1, hx3, hB⟩ := hcut
    have HX1 := Aside0.mk hx1
    have HB := Aside0.mk hB
    clear hx1 hB d20 z20 d21 z21 d22 z22 c2 e1 e2 e3 e4 e5 e6 e10 e7 e8
    obtain ⟨w6, hw6⟩ : ∃ w6, wc = w6 := ⟨_, rfl⟩
    rw [hw6] at HX1 HB hx4 hx3 ⊢
    clear hw6
    have c21 := bk_cell HX1.out 21
    go_wp2_with fail
    refine rg_start [8] (by kernel_rfl) rfl ?_
    refine rg_pure (N := some 167) 0 (v := _) rfl rfl (by kernel_rfl) (fun _ _ _ h => h) rfl (fun w' => by go_simp <;> with_reducible rfl) (by dsimp only [Act.put, List.setIfInBounds_toArray, List.set_cons_zero, List.set_cons_succ, ↓reduceIte]) ?_
    refine rg_pure (N := some 168) 1 (v := _) rfl rfl (by kernel_rfl) (fun _ _ _ h => h) rfl (fun w' => by go_simp <;> with_reducible rfl) (by dsimp only [Act.put, List.setIfInBounds_toArray, List.set_cons_zero, List.set_cons_succ, ↓reduceIte]) ?_
    refine rg_pureG (N := some 169) 2 ((m_in f.f17 1 8 && m_in f.f19 0 1000000000)) (_) rfl rfl (by kernel_rfl) (fun _ _ _ h => h) (rg_wantT rfl (by kernel_rfl)) (fun hb_ w' => by go_simp <;> with_reducible rfl) (by dsimp only [Act.put, List.setIfInBounds_toArray, List.set_cons_zero, List.set_cons_succ, ↓reduceIte]) ?_
    refine rg_loadG (N := some 170) 3 ((m_in f.f17 1 8 && m_in f.f19 0 1000000000)) _ rfl rfl (by kernel_rfl) (fun _ _ _ h => h) (rg_wantT rfl (by kernel_rfl)) (below_drew1 (Below.refl _ _)) (fun hb_ w' hS' => by have c_ := rg_get hS' c21; go_simp <;> with_reducible rfl) (by dsimp only [Act.put, List.setIfInBounds_toArray, List.set_cons_zero, List.set_cons_succ, ↓reduceIte]) ?_
    refine rg_load (N := some 173) 6 rfl rfl (by kernel_rfl) (fun _ _ _ h => h) rfl (below_drew1 (Below.refl _ _)) (fun w' hS' => rg_runRow _ _ rfl p4 (by kernel_rfl) _ _ _ _ (rg_blk hS' hx4) Tryz.underlying28 rfl fa_size) (by dsimp only [Act.put, List.setIfInBounds_toArray, List.set_cons_zero, List.set_cons_succ, ↓reduceIte]) ?_
    refine rg_call (N := some 171) 4 ((m_in f.f17 1 8 && m_in f.f19 0 1000000000)) (.bool (m_in f.f18 0 3)) #[.int .i64 f.f18, .int .i64 0, .int .i64 3] rfl rfl (by kernel_rfl) (by decide) (rg_wantT rfl (by kernel_rfl)) Tryz.func31 (by kernel_rfl) rfl rfl (fun hb_ => rg_args3 (by go_simp) rfl rfl) (below_drew1 (Below.refl _ _)) (fun hb_ w1 h1 => (fr_within f.f18 0 3 w1).mono (fun e w2 h => ⟨h.1, rg_drawn h1 h.2⟩)) (by dsimp only [Act.put, List.setIfInBounds_toArray, List.set_cons_zero, List.set_cons_succ, ↓reduceIte]) (fun wq1 hq1 => ?_)
    refine rg_pure (N := some 172) 5 (v := .bool (((m_in f.f17 1 8 && m_in f.f19 0 1000000000)) && ((m_in f.f18 0 3)))) rfl rfl (by kernel_rfl) (fun _ _ _ h => h) rfl (fun w' => rg_runAnd rfl (by kernel_rfl) (fun h_ => by go_simp)) (by dsimp only [Act.put, List.setIfInBounds_toArray, List.set_cons_zero, List.set_cons_succ, ↓reduceIte]) ?_
    refine rg_pure (N := some 2) 7 (v := _) rfl rfl (by kernel_rfl) (fun _ _ _ h => h) rfl (fun w' => by go_simp <;> with_reducible rfl) (by dsimp only [Act.put, List.setIfInBounds_toArray, List.set_cons_zero, List.set_cons_succ, ↓reduceIte]) ?_
    have hS9 : rgS _ _ := hq1
    refine rg_storeRow 8 rfl rfl (by kernel_rfl) (by decide) rfl 28 _ _ rfl p3 #[.int .i64 0, .int .i64 0, .int .i64 0, .int .i64 0, .string (⟨#[]⟩ : ByteArray), .int .i64 0, .int .i64 0, .string (⟨#[]⟩ : ByteArray), .string (⟨#[]⟩ : ByteArray), .slice none 0 0, .slice none 0 0, .int .i64 0, .slice none 0 0, .int .i64 0, .int .i64 0, .int .i64 0, .int .i64 0, .int .i64 0, .string (⟨#[]⟩ : ByteArray), .string (⟨#[]⟩ : ByteArray), .int .i64 0, .int .i64 0, .int .i64 0] #[.int .i64 f.f0, .int .i64 f.f1, .int .i64 f.f2, .int .i64 f.f3, .string f.f4, .int .i64 f.f5, .int .i64 f.f6, .string f.f7, .string f.f8, .slice A9f f.f9.length c9f, .slice A10f f.f10.length c10f, .int .i64 f.f11.f0, .slice A12f f.f11.f1.length c12f, .int .i64 f.f11.f2, .int .i64 f.f11.f3, .int .i64 f.f12, .int .i64 f.f13, .int .i64 f.f14, .string f.f15, .string f.f16, .int .i64 0, .int .i64 0, .int .i64 0] 28 (by kernel_rfl) (by kernel_rfl) (rg_blk hS9 hx3) fa_size rfl (by repeat (first | exact List.forall_mem_nil _ | refine List.forall_mem_cons.2 ⟨rfl, ?_⟩)) ?_
    intro w9 hx9 hst hot
    refine rg_done (by kernel_rfl) ?_
    have hBF : Below w.heap.size w w9 := (below_step HB.out hS9).trans (hst w.heap.size hg3)
    have HBF := Aside0.mk hBF
    have HX9 := Aside0.mk hx9
    clear hS9 hst hot hBF hx9 hx3 hx4 c21
    go_wp2
    all_goals
      refine bodyPost_ret (rg_results2 rfl _ _ p3 _ _ _ _ rfl HX9.out Tryz.underlying28 rfl fa_size) rfl ?_
      have hBF := HBF.out
      refine ⟨#[.int .i64 f.f0, .int .i64 f.f1, .int .i64 f.f2, .int .i64 f.f3, .string f.f4, .int .i64 f.f5, .int .i64 f.f6, .string f.f7, .string f.f8, .slice A9f f.f9.length c9f, .slice A10f f.f10.length c10f, .int .i64 f.f11.f0, .slice A12f f.f11.f1.length c12f, .int .i64 f.f11.f2, .int .i64 f.f11.f3, .int .i64 f.f12, .int .i64 f.f13, .int .i64 f.f14, .string f.f15, .string f.f16, .int .i64 0, .int .i64 0, .int .i64 0], ?_, ?_, hBF⟩
      · exact congrArg (fun b : Bool => Ending.returned (.tuple #[.bool b, .agg #[.int .i64 f.f0, .int .i64 f.f1, .int .i64 f.f2, .int .i64 f.f3, .string f.f4, .int .i64 f.f5, .int .i64 f.f6, .string f.f7, .string f.f8, .slice A9f f.f9.length c9f, .slice A10f f.f10.length c10f, .int .i64 f.f11.f0, .slice A12f f.f11.f1.length c12f, .int .i64 f.f11.f2, .int .i64 f.f11.f3, .int .i64 f.f12, .int .i64 f.f13, .int .i64 f.f14, .string f.f15, .string f.f16, .int .i64 0, .int .i64 0, .int .i64 0]])) (show _ = m_used f by unfold m_used; rw [if_neg (by have := HKD.out; omega), if_neg (by have := HKD.out; omega), if_neg (by have := HKD.out; omega), if_neg (by have := HKD.out; omega), if_neg (by have := HKD.out; omega), if_neg (by have := HKD.out; omega), if_neg (by have := HKD.out; omega), if_pos (by have := HKD.out; omega)]; try (first | rfl | (rw [h]; done) | (simp [h]; done) | (simp [*]; done)))
      · rw [show m_rest f = { f with f17 := 0, f18 := 0, f19 := 0 } by unfold m_rest; rw [if_neg (by have := HKD.out; omega), if_neg (by have := HKD.out; omega), if_neg (by have := HKD.out; omega), if_neg (by have := HKD.out; omega), if_neg (by have := HKD.out; omega), if_neg (by have := HKD.out; omega), if_neg (by have := HKD.out; omega), if_pos (by have := HKD.out; omega)]]
        exact faK_mk w9 { f with f17 := 0, f18 := 0, f19 := 0 } (A9 := A9f) (c9 := c9f) l9 (Kd.C_below H9.out hBF) (A10 := A10f) (c10 := c10f) l10 (Kd.C_below H10.out hBF) (A12 := A12f) (c12 := c12f) l12 (Kd.C_below H12.out hBF)
end Go.Proofs.YtkhgdglaophkbaaGreatDoor.PK
end
section
set_option linter.unusedVariables false
set_option linter.unusedSimpArgs false
namespace Go.Proofs.YtkhgdglaophkbaaGreatDoor.PK
open Go.RowKit Go.Proofs.YtkhgdglaophkbaaGreatDoorW.PrintWords Go.Proofs.YtkhgdglaophkbaaGreatDoorW.PrintLast Go.Proofs.YtkhgdglaophkbaaGreatDoorW.PrintMore
set_option maxHeartbeats 8000000 in
set_option maxRecDepth 100000 in
theorem fact_right.walk9 (f : Fa) (A9f : Option Addr) (c9f : Nat) (A10f : Option Addr) (c10f : Nat) (A12f : Option Addr) (c12f : Nat) (w : World) (hk : f.f2 = 9)
    (l9 : f.f9.length ≤ c9f) (h9 : Kd.string.C w A9f f.f9.length f.f9) (l10 : f.f10.length ≤ c10f) (h10 : k49.C w A10f f.f10.length f.f10) (l12 : f.f11.f1.length ≤ c12f) (h12 : (Kd.int .i64).C w A12f f.f11.f1.length f.f11.f1) :
    Calls Tryz.prog 30 #[.agg #[.int .i64 f.f0, .int .i64 f.f1, .int .i64 f.f2, .int .i64 f.f3, .string f.f4, .int .i64 f.f5, .int .i64 f.f6, .string f.f7, .string f.f8, .slice A9f f.f9.length c9f, .slice A10f f.f10.length c10f, .int .i64 f.f11.f0, .slice A12f f.f11.f1.length c12f, .int .i64 f.f11.f2, .int .i64 f.f11.f3, .int .i64 f.f12, .int .i64 f.f13, .int .i64 f.f14, .string f.f15, .string f.f16, .int .i64 f.f17, .int .i64 f.f18, .int .i64 f.f19]] w fun e w' => ∃ cs, e = .returned (.tuple #[.bool (m_used f), .agg cs]) ∧ faK w' (m_rest f) cs ∧ Below w.heap.size w w' := by
  have H9 := Aside0.mk h9
  have H10 := Aside0.mk h10
  have H12 := Aside0.mk h12
  have HK := Aside0.mk hk
  clear h9 h10 h12 hk
  go_enter Tryz.func30, Tryz.ntmps30
  go_wp2_with (with_reducible refine is_box rfl ?_; refine Rg.stop_here ?_)
  refine ⟨?_⟩
  refine box_event rfl (N := 1) rfl (cs := #[.int .i64 f.f0, .int .i64 f.f1, .int .i64 f.f2, .int .i64 f.f3, .string f.f4, .int .i64 f.f5, .int .i64 f.f6, .string f.f7, .string f.f8, .slice A9f f.f9.length c9f, .slice A10f f.f10.length c10f, .int .i64 f.f11.f0, .slice A12f f.f11.f1.length c12f, .int .i64 f.f11.f2, .int .i64 f.f11.f3, .int .i64 f.f12, .int .i64 f.f13, .int .i64 f.f14, .string f.f15, .string f.f16, .int .i64 f.f17, .int .i64 f.f18, .int .i64 f.f19]) (t := 28) (by first | (go_simp; done) | (go_simp; rfl)) ?_
  intro p1 hp1 w1 hbx1 hb1
  have hg1 : w.heap.size ≤ p1 := Nat.le_of_eq hp1.symm
  have HX1 := Aside0.mk hbx1
  have HB1 := Aside0.mk hb1
  clear hp1 hb1 hbx1
  go_wp2_with (with_reducible refine is_alloc rfl ?_; refine Rg.stop_here ?_)
  refine ⟨?_⟩
  refine box_event rfl (N := 3) rfl (cs := #[.int .i64 0, .int .i64 0, .int .i64 0, .int .i64 0, .string (⟨#[]⟩ : ByteArray), .int .i64 0, .int .i64 0, .string (⟨#[]⟩ : ByteArray), .string (⟨#[]⟩ : ByteArray), .slice none 0 0, .slice none 0 0, .int .i64 0, .slice none 0 0, .int .i64 0, .int .i64 0, .int .i64 0, .int .i64 0, .int .i64 0, .string (⟨#[]⟩ : ByteArray), .string (⟨#[]⟩ : ByteArray), .int .i64 0, .int .i64 0, .int .i64 0]) (t := 28) (by first | (go_simp; done) | (go_simp; rfl)) ?_
  intro p3 hp3 w2 hbx3 hb3
  have hl1 := blk_lt HX1.out
  have h13 : p1 ≠ p3 := by omega
  have hg3 : w.heap.size ≤ p3 := by have := HB1.out.size; omega
  have HX1 := Aside0.mk (bk_heap_below HX1.out hb3)
  have HX3 := Aside0.mk hbx3
  have HB2 := Aside0.mk (below_step HB1.out hb3)
  clear hp3 hbx3 hb3 hl1 HB1
  go_wp2_with (with_reducible refine is_loadF rfl ?_; refine Rg.stop_here ?_)
  refine ⟨?_⟩
  refine wpList_load_row rfl 28 _ rfl p1 rfl _ _ _ _ HX1.out Tryz.underlying28 rfl fa_size ?_
  go_wp2_with (with_reducible refine is_alloc rfl ?_; refine Rg.stop_here ?_)
  refine ⟨?_⟩
  refine box_event rfl (N := 4) rfl (cs := #[.int .i64 0, .int .i64 0, .int .i64 0, .int .i64 0, .string (⟨#[]⟩ : ByteArray), .int .i64 0, .int .i64 0, .string (⟨#[]⟩ : ByteArray), .string (⟨#[]⟩ : ByteArray), .slice none 0 0, .slice none 0 0, .int .i64 0, .slice none 0 0, .int .i64 0, .int .i64 0, .int .i64 0, .int .i64 0, .int .i64 0, .string (⟨#[]⟩ : ByteArray), .string (⟨#[]⟩ : ByteArray), .int .i64 0, .int .i64 0, .int .i64 0]) (t := 28) (by first | (go_simp; done) | (go_simp; rfl)) ?_
  intro p4 hp4 w3 hbx4 hb4
  have hl1 := blk_lt HX1.out
  have hl3 := blk_lt HX3.out
  have h14 : p1 ≠ p4 := by omega
  have h34 : p3 ≠ p4 := by omega
  have hg4 : w.heap.size ≤ p4 := by have := HB2.out.size; omega
  have HX1 := Aside0.mk (bk_heap_below HX1.out hb4)
  have HX3 := Aside0.mk (bk_heap_below HX3.out hb4)
  have HB3 := Aside0.mk (below_step HB2.out hb4)
  clear hp4 hb4 hl1 hl3 HB2
  go_wp2_with (with_reducible refine is_store rfl ?_; refine Rg.stop_here ?_)
  refine ⟨?_⟩
  refine wpList_store_box rfl rfl _ _ _ rfl p4 _ _ _ rfl rfl hbx4 fa_size rfl (by repeat (first | exact List.forall_mem_nil _ | refine List.forall_mem_cons.2 ⟨rfl, ?_⟩)) ?_
  intro w4 hx4 hst hot
  have HX4 := Aside0.mk hx4
  have HX1 := Aside0.mk ((hot p1 h14).trans HX1.out)
  have HX3 := Aside0.mk ((hot p3 h34).trans HX3.out)
  have HB := Aside0.mk (show Below w.heap.size w w4 from ⟨(hst p4 (Nat.le_refl _)).os.trans HB3.out.os, (hst p4 (Nat.le_refl _)).tape.trans HB3.out.tape, (hst p4 (Nat.le_refl _)).output.trans HB3.out.output, Nat.le_trans HB3.out.size (hst p4 (Nat.le_refl _)).size, fun k hk => (hot k (by omega)).trans (HB3.out.block k hk)⟩)
  clear hbx4 hx4 hst hot HB3
  have c3 := bk_cell HX1.out 3
  have c20 := bk_cell HX1.out 20
  have c22 := bk_cell HX1.out 22
  go_upto_region 3 with (first | (go_at_call 31; (with_reducible refine (fr_within f.f3 1 64 _).mono ?_); rintro e wa ⟨rfl, hd⟩; obtain ⟨m, rfl⟩ := fr_drawn hd))
  go_cut [6] from 12 to 19 (fun v6 wx => v6 = .bool (m_in f.f17 1 8 && m_in f.f19 0 1000000000) ∧ ∃ nq, wx = w4.drewN nq)
  case first =>
    have HF := Aside0.mk (fr_within f.f17 1 8)
    cases hB : m_in f.f17 1 8 with
    | false =>
      rw [hB] at HF
      have HBB := Aside0.mk hB
      clear hB
      go_wp2_with (go_at_call 31; (with_reducible refine (HF.out _).mono ?_); rintro e wb ⟨rfl, hd2⟩; obtain ⟨m2, rfl⟩ := fr_drawn hd2)
      go_meet
      exact ⟨by rw [HBB.out]; rfl, _, by first | rfl | exact (World.drewN_drewN _ _ _)⟩
    | true =>
      rw [hB] at HF
      have HBB := Aside0.mk hB
      clear hB
      go_wp2_with (first | (go_at_call 31; (with_reducible refine (HF.out _).mono ?_); rintro e wb ⟨rfl, hd2⟩; obtain ⟨m2, rfl⟩ := fr_drawn hd2) | (go_at_call 31; (with_reducible refine (fr_within f.f19 0 1000000000 _).mono ?_); rintro e wc ⟨rfl, hd3⟩; obtain ⟨m3, rfl⟩ := fr_drawn hd3))
      go_meet
      exact ⟨by rw [HBB.out]; rfl, _, by first | rfl | exact (World.drewN_drewN _ _ _)⟩
  case rest =>
  obtain ⟨rfl, nq, rfl⟩ := hcut
  clear c3 c20 c22
  obtain ⟨w5, hw5⟩ : ∃ w5, w4.drewN nq = w5 := ⟨_, rfl⟩
  have HX1 : Aside0 (w5.heap[p1]? = some (.cells #[.int .i64 f.f0, .int .i64 f.f1, .int .i64 f.f2, .int .i64 f.f3, .string f.f4, .int .i64 f.f5, .int .i64 f.f6, .string f.f7, .string f.f8, .slice A9f f.f9.length c9f, .slice A10f f.f10.length c10f, .int .i64 f.f11.f0, .slice A12f f.f11.f1.length c12f, .int .i64 f.f11.f2, .int .i64 f.f11.f3, .int .i64 f.f12, .int .i64 f.f13, .int .i64 f.f14, .string f.f15, .string f.f16, .int .i64 f.f17, .int .i64 f.f18, .int .i64 f.f19] 28 (0, 0))) := ⟨by rw [← hw5]; exact HX1.out⟩
  have HX3 : Aside0 (w5.heap[p3]? = some (.cells #[.int .i64 0, .int .i64 0, .int .i64 0, .int .i64 0, .string (⟨#[]⟩ : ByteArray), .int .i64 0, .int .i64 0, .string (⟨#[]⟩ : ByteArray), .string (⟨#[]⟩ : ByteArray), .slice none 0 0, .slice none 0 0, .int .i64 0, .slice none 0 0, .int .i64 0, .int .i64 0, .int .i64 0, .int .i64 0, .int .i64 0, .string (⟨#[]⟩ : ByteArray), .string (⟨#[]⟩ : ByteArray), .int .i64 0, .int .i64 0, .int .i64 0] 28 (0, 0))) := ⟨by rw [← hw5]; exact HX3.out⟩
  have HX4 : Aside0 (w5.heap[p4]? = some (.cells #[.int .i64 f.f0, .int .i64 f.f1, .int .i64 f.f2, .int .i64 f.f3, .string f.f4, .int .i64 f.f5, .int .i64 f.f6, .string f.f7, .string f.f8, .slice A9f f.f9.length c9f, .slice A10f f.f10.length c10f, .int .i64 f.f11.f0, .slice A12f f.f11.f1.length c12f, .int .i64 f.f11.f2, .int .i64 f.f11.f3, .int .i64 f.f12, .int .i64 f.f13, .int .i64 f.f14, .string f.f15, .string f.f16, .int .i64 f.f17, .int .i64 f.f18, .int .i64 f.f19] 28 (0, 0))) := ⟨by rw [← hw5]; exact HX4.out⟩
  have HB := Aside0.mk (show Below w.heap.size w w5 by rw [← hw5]; exact pw_below_drewN HB.out nq)
  rw [hw5]
  clear hw5
  have hk := HK.out
  · have HKD := Aside0.mk hk
    have e1 : (f.f2 == 1) = false := by rw [hk]; rfl
    have e2 : (f.f2 == 2) = false := by rw [hk]; rfl
    have e3 : (f.f2 == 3) = false := by rw [hk]; rfl
    have e4 : (f.f2 == 4) = false := by rw [hk]; rfl
    have e5 : (f.f2 == 5) = false := by rw [hk]; rfl
    have e6 : (f.f2 == 6) = false := by rw [hk]; rfl
    have e10 : (f.f2 == 10) = false := by rw [hk]; rfl
    have e7 : (f.f2 == 7) = false := by rw [hk]; rfl
    have e8 : (f.f2 == 8) = false := by rw [hk]; rfl
    have e9 : (f.f2 == 9) = true := by rw [hk]; rfl
    clear hk
    have c2 := bk_cell HX1.out 2
    have d20 := bk_cell HX4.out 20
    have z20 := bk_frozen HX4.out 20
    have d22 := bk_cell HX4.out 22
    have z22 := bk_frozen HX4.out 22
    go_upto_region 32 with fail
    go_cut [] from 176 to 177 (fun wx => wx.heap[p4]? = some (.cells #[.int .i64 f.f0, .int .i64 f.f1, .int .i64 f.f2, .int .i64 f.f3, .string f.f4, .int .i64 f.f5, .int .i64 f.f6, .string f.f7, .string f.f8, .slice A9f f.f9.length c9f, .slice A10f f.f10.length c10f, .int .i64 f.f11.f0, .slice A12f f.f11.f1.length c12f, .int .i64 f.f11.f2, .int .i64 f.f11.f3, .int .i64 f.f12, .int .i64 f.f13, .int .i64 f.f14, .string f.f15, .string f.f16, .int .i64 0, .int .i64 f.f18, .int .i64 0] 28 (0, 0)) ∧ wx.heap[p1]? = some (.cells #[.int .i64 f.f0, .int .i64 f.f1, .int .i64 f.f2, .int .i64 f.f3, .string f.f4, .int .i64 f.f5, .int .i64 f.f6, .string f.f7, .string f.f8, .slice A9f f.f9.length c9f, .slice A10f f.f10.length c10f, .int .i64 f.f11.f0, .slice A12f f.f11.f1.length c12f, .int .i64 f.f11.f2, .int .i64 f.f11.f3, .int .i64 f.f12, .int .i64 f.f13, .int .i64 f.f14, .string f.f15, .string f.f16, .int .i64 f.f17, .int .i64 f.f18, .int .i64 f.f19] 28 (0, 0)) ∧ wx.heap[p3]? = some (.cells #[.int .i64 0, .int .i64 0, .int .i64 0, .int .i64 0, .string (⟨#[]⟩ : ByteArray), .int .i64 0, .int .i64 0, .string (⟨#[]⟩ : ByteArray), .string (⟨#[]⟩ : ByteArray), .slice none 0 0, .slice none 0 0, .int .i64 0, .slice none 0 0, .int .i64 0, .int .i64 0, .int .i64 0, .int .i64 0, .int .i64 0, .string (⟨#[]⟩ : ByteArray), .string (⟨#[]⟩ : ByteArray), .int .i64 0, .int .i64 0, .int .i64 0] 28 (0, 0)) ∧ Below w.heap.size w wx)
    case first =>
      go_wp2_with fail
      go_meet
      have g0_ := HX4.out
      have g1_ := blk_set g0_ 20 (.int .i64 0)
      simp only [List.setIfInBounds_toArray, List.set_cons_zero, List.set_cons_succ] at g1_
      clear g0_
      have g2_ := blk_set g1_ 22 (.int .i64 0)
      simp only [List.setIfInBounds_toArray, List.set_cons_zero, List.set_cons_succ] at g2_
      clear g1_
      exact ⟨g2_, ((Below.heap_setCell _ _ _ _ h14).trans ((Below.heap_setCell _ _ _ _ h14).trans HX1.out)), ((Below.heap_setCell _ _ _ _ h34).trans ((Below.heap_setCell _ _ _ _ h34).trans HX3.out)), (Below.setCell (Below.setCell HB.out hg4 _) hg4 _)⟩
    case rest =>
    obtain ⟨hx4, hx1, hx3, hB⟩ := hcut
    have HX1 := Aside0.mk hx1
    have HB := Aside0.mk hB
    clear hx1 hB d20 z20 d22 z22 c2 e1 e2 e3 e4 e5 e6 e10 e7 e8 e9
    obtain ⟨w6, hw6⟩ : ∃ w6, wc = w6 := ⟨_, rfl⟩
    rw [hw6] at HX1 HB hx4 hx3 ⊢
    clear hw6
    go_wp2_with fail
    refine rg_start [3] (by kernel_rfl) rfl ?_
    refine rg_pure (N := some 178) 0 (v := _) rfl rfl (by kernel_rfl) (fun _ _ _ h => h) rfl (fun w' => by go_simp <;> with_reducible rfl) (by dsimp only [Act.put, List.setIfInBounds_toArray, List.set_cons_zero, List.set_cons_succ, ↓reduceIte]) ?_
    refine rg_pure (N := some 2) 2 (v := _) rfl rfl (by kernel_rfl) (fun _ _ _ h => h) rfl (fun w' => by go_simp <;> with_reducible rfl) (by dsimp only [Act.put, List.setIfInBounds_toArray, List.set_cons_zero, List.set_cons_succ, ↓reduceIte]) ?_
    refine rg_oneG (N := some 179) 1 true _ rfl rfl (by kernel_rfl) (by decide) rfl (below_drew1 (Below.refl _ _)) (fun hb_ w' hS' => rg_runRow _ _ rfl p4 (by kernel_rfl) _ _ _ _ (rg_blk hS' hx4) Tryz.underlying28 rfl fa_size) (by dsimp only [Act.put, List.setIfInBounds_toArray, List.set_cons_zero, List.set_cons_succ, ↓reduceIte]) ?_
    have hS9 : rgS w6 w6.drew := (below_drew1 (Below.refl _ _))
    refine rg_storeRow 3 rfl rfl (by kernel_rfl) (by decide) rfl 28 _ _ rfl p3 #[.int .i64 0, .int .i64 0, .int .i64 0, .int .i64 0, .string (⟨#[]⟩ : ByteArray), .int .i64 0, .int .i64 0, .string (⟨#[]⟩ : ByteArray), .string (⟨#[]⟩ : ByteArray), .slice none 0 0, .slice none 0 0, .int .i64 0, .slice none 0 0, .int .i64 0, .int .i64 0, .int .i64 0, .int .i64 0, .int .i64 0, .string (⟨#[]⟩ : ByteArray), .string (⟨#[]⟩ : ByteArray), .int .i64 0, .int .i64 0, .int .i64 0] #[.int .i64 f.f0, .int .i64 f.f1, .int .i64 f.f2, .int .i64 f.f3, .string f.f4, .int .i64 f.f5, .int .i64 f.f6, .string f.f7, .string f.f8, .slice A9f f.f9.length c9f, .slice A10f f.f10.length c10f, .int .i64 f.f11.f0, .slice A12f f.f11.f1.length c12f, .int .i64 f.f11.f2, .int .i64 f.f11.f3, .int .i64 f.f12, .int .i64 f.f13, .int .i64 f.f14, .string f.f15, .string f.f16, .int .i64 0, .int .i64 f.f18, .int .i64 0] 28 (by kernel_rfl) (by kernel_rfl) (rg_blk hS9 hx3) fa_size rfl (by repeat (first | exact List.forall_mem_nil _ | refine List.forall_mem_cons.2 ⟨rfl, ?_⟩)) ?_
    intro w9 hx9 hst hot
    refine rg_done (by kernel_rfl) ?_
    have hBF : Below w.heap.size w w9 := (below_step HB.out hS9).trans (hst w.heap.size hg3)
    have HBF := Aside0.mk hBF
    have HX9 := Aside0.mk hx9
    clear hS9 hst hot hBF hx9 hx3 hx4 
    go_wp2
    all_goals
      refine bodyPost_ret (rg_results2 rfl _ _ p3 _ _ _ _ rfl HX9.out Tryz.underlying28 rfl fa_size) rfl ?_
      have hBF := HBF.out
      refine ⟨#[.int .i64 f.f0, .int .i64 f.f1, .int .i64 f.f2, .int .i64 f.f3, .string f.f4, .int .i64 f.f5, .int .i64 f.f6, .string f.f7, .string f.f8, .slice A9f f.f9.length c9f, .slice A10f f.f10.length c10f, .int .i64 f.f11.f0, .slice A12f f.f11.f1.length c12f, .int .i64 f.f11.f2, .int .i64 f.f11.f3, .int .i64 f.f12, .int .i64 f.f13, .int .i64 f.f14, .string f.f15, .string f.f16, .int .i64 0, .int .i64 f.f18, .int .i64 0], ?_, ?_, hBF⟩
      · exact congrArg (fun b : Bool => Ending.returned (.tuple #[.bool b, .agg #[.int .i64 f.f0, .int .i64 f.f1, .int .i64 f.f2, .int .i64 f.f3, .string f.f4, .int .i64 f.f5, .int .i64 f.f6, .string f.f7, .string f.f8, .slice A9f f.f9.length c9f, .slice A10f f.f10.length c10f, .int .i64 f.f11.f0, .slice A12f f.f11.f1.length c12f, .int .i64 f.f11.f2, .int .i64 f.f11.f3, .int .i64 f.f12, .int .i64 f.f13, .int .i64 f.f14, .string f.f15, .string f.f16, .int .i64 0, .int .i64 f.f18, .int .i64 0]])) (show _ = m_used f by unfold m_used; rw [if_neg (by have := HKD.out; omega), if_neg (by have := HKD.out; omega), if_neg (by have := HKD.out; omega), if_neg (by have := HKD.out; omega), if_neg (by have := HKD.out; omega), if_neg (by have := HKD.out; omega), if_neg (by have := HKD.out; omega), if_neg (by have := HKD.out; omega), if_pos (by have := HKD.out; omega)]; try (first | rfl | (rw [h]; done) | (simp [h]; done) | (simp [*]; done)))
      · rw [show m_rest f = { f with f17 := 0, f19 := 0 } by unfold m_rest; rw [if_neg (by have := HKD.out; omega), if_neg (by have := HKD.out; omega), if_neg (by have := HKD.out; omega), if_neg (by have := HKD.out; omega), if_neg (by have := HKD.out; omega), if_neg (by have := HKD.out; omega), if_neg (by have := HKD.out; omega), if_neg (by have := HKD.out; omega), if_pos (by have := HKD.out; omega)]]
        exact faK_mk w9 { f with f17 := 0, f19 := 0 } (A9 := A9f) (c9 := c9f) l9 (Kd.C_below H9.out hBF) (A10 := A10f) (c10 := c10f) l10 (Kd.C_below H10.out hBF) (A12 := A12f) (c12 := c12f) l12 (Kd.C_below H12.out hBF)
end Go.Proofs.YtkhgdglaophkbaaGreatDoor.PK
end
