/- Texts of this claim, one behind the other. -/
import Derived.Test.YtkhgdglaophkbaaGreatDoorMUx4
import Derived.Deep.Cut
import Derived.Deep.RegionWith
import Derived.StillTailTactics
import Derived.Test.YtkhgdglaophkbaaGreatDoorMUx5
import Derived.Test.YtkhgdglaophkbaaGreatDoorMUx11
import Derived.Test.YtkhgdglaophkbaaGreatDoorMUx6
import Derived.Defers
import Derived.Recover
import Derived.BigRegion
import Derived.RegionTactic
import Derived.ChangeAlike
section
set_option linter.unusedVariables false
set_option linter.unusedSimpArgs false
namespace Go.Proofs.YtkhgdglaophkbaaGreatDoor.PK
open Go.RowKit Go.Proofs.YtkhgdglaophkbaaGreatDoorW.PrintWords Go.Proofs.YtkhgdglaophkbaaGreatDoorW.PrintLast Go.Proofs.YtkhgdglaophkbaaGreatDoorW.PrintMore
theorem info_str : (Tryz.prog.info? 9).map (fun i => (i.zero, i.size, i.bytes)) = some (some (.string ⟨#[]⟩), 1, 16) := by kernel_rfl
theorem codec_size : (Tryz.prog.info? 62).map (·.size) = some 4 := by kernel_rfl
theorem ws_load_row {P : Program} {ops : Array Oper} {w : World} {Q : Act → Prop} {o : Oper} {rest : List Oper} {a : Act} {ty : TypeId} {x : Operand} (hop : o.op = .load ty x) (hgd : o.guard = none) (g : Nat) (hx : a.eval x = .pointer (some ⟨g, 0, none⟩)) (t : TypeId) (cs : Array Value) (fr : Nat × Nat) (d : TypeDesc) (hg : w.heap[g]? = some (.cells cs t fr))
    (hu : P.underlying ty = some d) (hd : (match d with | .struct _ | .array _ _ => true | _ => false) = true) (hi : (P.info? ty).map (·.size) = some cs.size) (h : wpStill P ops w Q rest (a.put o.dst (.agg cs))) : wpStill P ops w Q (o :: rest) a := by
  refine wpStill_step (fun K hK => ?_)
  rw [if_pos (by simp [Region.wanted, hgd])]
  unfold Oper.still
  rw [rg_runRow ty x hop g hx t cs fr d hg hu hd hi, Oper.stillUpon_value]
  exact hK _ h
theorem c_rev_nest {σ : Type} (D : Drv σ) (f : Fa) (s : σ) : c_k1 D.c f s = (cB (D.c.num f.f3 s) fun x3 s => cB (D.c.txt f.f4 s) fun x4 s => cB (D.c.num f.f5 s) fun x5 s => cB (D.c.num f.f6 s) fun x6 s => cB (D.c.txt f.f7 s) fun x7 s => cB (D.c.txt f.f8 s) fun x8 s => cB (D.c.cnt 4 f.f9.length s) fun n s => cB (c_txts D.c n.toNat f.f9 s) fun x9 s => cB (D.c.blk f.f10 s) fun x10 s => cB (c_label D.c f.f11 s) fun x11 s => .ok ({ f with f3 := x3, f4 := x4, f5 := x5, f6 := x6, f7 := x7, f8 := x8, f9 := x9, f10 := x10, f11 := x11 }, s) : Except Int (Fa × σ)) := by
  unfold c_k1 c_topics
  simp only [cB_assoc]
set_option maxHeartbeats 8000000 in
set_option maxRecDepth 100000 in
theorem cw_rev0 {σ : Type} (D : Drv σ) (s : σ) (w : World) (b : Nat) (f : Fa) (X : Except Int (Fa × σ)) (hR : D.R s w) (hF : FBk D.Pv w b f) (hb : D.B0 ≤ b) (hbP : ¬ D.Pv b) (hB : D.B0 ≤ w.heap.size) (hl : D.len s ≤ 100000000) (hts : f.f9.length ≤ 4) (hxs : f.f11.f1.length ≤ 64)
    (hX : (cB (D.c.num f.f3 s) fun x3 s => cB (D.c.txt f.f4 s) fun x4 s => cB (D.c.num f.f5 s) fun x5 s => cB (D.c.num f.f6 s) fun x6 s => cB (D.c.txt f.f7 s) fun x7 s => cB (D.c.txt f.f8 s) fun x8 s => cB (D.c.cnt 4 f.f9.length s) fun n s => cB (c_txts D.c n.toNat f.f9 s) fun x9 s => cB (D.c.blk f.f10 s) fun x10 s => cB (c_label D.c f.f11 s) fun x11 s => .ok ({ f with f3 := x3, f4 := x4, f5 := x5, f6 := x6, f7 := x7, f8 := x8, f9 := x9, f10 := x10, f11 := x11 }, s)) = X) : Calls Tryz.prog 44 #[D.val, .pointer (some ⟨b, 0, none⟩)] w (StepP D b w (.tuple #[]) X) := by
  have eN := D.eN
  have eT := D.eT
  have eC := D.eC
  have eB := D.eB
  have hS : ∀ k, (D.Pv k ∨ k = b) → D.B0 ≤ k := fun k hk => hk.elim (D.pvB k) (fun h => h ▸ hb)
  have HX0 : Aside0 ((cB (D.c.num f.f3 s) fun x3 s => cB (D.c.txt f.f4 s) fun x4 s => cB (D.c.num f.f5 s) fun x5 s => cB (D.c.num f.f6 s) fun x6 s => cB (D.c.txt f.f7 s) fun x7 s => cB (D.c.txt f.f8 s) fun x8 s => cB (D.c.cnt 4 f.f9.length s) fun n s => cB (c_txts D.c n.toNat f.f9 s) fun x9 s => cB (D.c.blk f.f10 s) fun x10 s => cB (c_label D.c f.f11 s) fun x11 s => .ok ({ f with f3 := x3, f4 := x4, f5 := x5, f6 := x6, f7 := x7, f8 := x8, f9 := x9, f10 := x10, f11 := x11 }, s)) = X) := ⟨hX⟩
  have HR := Aside0.mk hR
  have HF := Aside0.mk hF
  clear hR hF hX
  unfold Drv.val
  go_enter Tryz.func44, Tryz.ntmps44
  go_wp2_with (with_reducible refine is_box rfl ?_; refine Rg.stop_here ?_)
  refine ⟨?_⟩
  refine box_event rfl (N := 2) rfl (cs := #[.func (.func D.nf) #[] D.nc, .func (.func D.tf) #[] D.tc, .func (.func D.cf) #[] D.cc, .func (.func D.bf) #[] D.bc]) (t := 62) (by first | (go_simp; done) | (go_simp; rfl)) ?_
  intro p hp w1 hbx hb1
  have hpb : w.heap.size ≤ p := Nat.le_of_eq hp.symm
  have hpS : ¬ (D.Pv p ∨ p = b) := fun h => h.elim (fun h => by have := D.pvlt HR.out h; omega) (fun h => by have := FBk_lt HF.out; omega)
  have HBX1 := Aside0.mk hbx
  have HR1 := Aside0.mk (D.R_below HR.out hb1)
  have HF1 := Aside0.mk (FBk_below HF.out hb1)
  have HK1 := Aside0.mk (Kp.of_below (fun k => D.Pv k ∨ k = b) hb1)
  have HL1 : Aside0 (D.len s ≤ D.len s + 70000 * 1) := ⟨by omega⟩
  have HX1 := HX0
  clear hp hbx hb1 HX0 HR HF
  replace HR1 := Aside0.mk (D.R_drew HR1.out)
  replace HF1 := Aside0.mk (FBk_drew HF1.out)
  replace HK1 := Aside0.mk (HK1.out.drewN 1)
  have z0 : w1.cell? ⟨p, 0, none⟩ = some (.func (.func D.nf) #[] D.nc) := bk_cell HBX1.out 0
  go_wp2_with fail
  refine rg_tail 5 (by kernel_rfl) (by kernel_rfl) ?_
  simp only [List.take_succ_cons, List.take_zero, List.drop_succ_cons, List.drop_zero]
  repeat still_step
  refine wpStill_nil ?_
  go_wp2_with fail
  refine (dr_f3 HR1.out HF1.out hb hbP (by have := HL1.out; omega)).mono ?_
  intro e w2 h
  cases hx : D.c.num f.f3 s with
  | error er =>
    rw [hx] at h
    obtain ⟨rfl, hbe, hfb⟩ := h
    have hX := HX1.out
    rw [cB_err hx] at hX
    subst hX
    have hbt := HK1.out.step hbe
    clear hx
    go_wp2
    exact ⟨rfl, StepP_err hbt hfb⟩
  | ok q =>
  obtain ⟨x2, s2⟩ := q
  rw [hx] at h
  obtain ⟨rfl, hR2, hF2, hk2⟩ := h
  have hX2 := HX1.out
  rw [cB_ok hx] at hX2
  have HX2 := Aside0.mk hX2
  have HL2 : Aside0 (D.len s2 ≤ D.len s + 70000 * 2) := ⟨by have h1_ := D.lN hx; have h2_ := HL1.out; omega⟩
  have HK2 := Aside0.mk (HK1.out.step hk2)
  have HR2 := Aside0.mk hR2
  have HF2 : Aside0 (FBk D.Pv w2 b { f with f3 := x2 }) := ⟨hF2⟩
  have HBX2 := Aside0.mk (blk_kept HBX1.out hk2.kept hpS)
  clear hx hX2 hk2 hR2 hF2 HX1 HK1 HR1 HF1 HBX1
  replace HR2 := Aside0.mk (D.R_drew HR2.out)
  replace HF2 := Aside0.mk (FBk_drew HF2.out)
  replace HK2 := Aside0.mk (HK2.out.drewN 1)
  have z1 : w2.cell? ⟨p, 1, none⟩ = some (.func (.func D.tf) #[] D.tc) := bk_cell HBX2.out 1
  go_wp2_with fail
  refine rg_tail 5 (by kernel_rfl) (by kernel_rfl) ?_
  simp only [List.take_succ_cons, List.take_zero, List.drop_succ_cons, List.drop_zero]
  repeat still_step
  refine wpStill_nil ?_
  go_wp2_with fail
  refine (dr_f4 HR2.out HF2.out hb hbP (by have := HL2.out; omega)).mono ?_
  intro e w3 h
  cases hx : D.c.txt f.f4 s2 with
  | error er =>
    rw [hx] at h
    obtain ⟨rfl, hbe, hfb⟩ := h
    have hX := HX2.out
    rw [cB_err hx] at hX
    subst hX
    have hbt := HK2.out.step hbe
    clear hx
    go_wp2
    exact ⟨rfl, StepP_err hbt hfb⟩
  | ok q =>
  obtain ⟨x3, s3⟩ := q
  rw [hx] at h
  obtain ⟨rfl, hR3, hF3, hk3⟩ := h
  have hX3 := HX2.out
  rw [cB_ok hx] at hX3
  have HX3 := Aside0.mk hX3
  have HL3 : Aside0 (D.len s3 ≤ D.len s + 70000 * 3) := ⟨by have h1_ := D.lT hx; have h2_ := HL2.out; omega⟩
  have HK3 := Aside0.mk (HK2.out.step hk3)
  have HR3 := Aside0.mk hR3
  have HF3 : Aside0 (FBk D.Pv w3 b { f with f3 := x2, f4 := x3 }) := ⟨hF3⟩
  have HBX3 := Aside0.mk (blk_kept HBX2.out hk3.kept hpS)
  clear hx hX3 hk3 hR3 hF3 HX2 HK2 HR2 HF2 HBX2
  replace HR3 := Aside0.mk (D.R_drew HR3.out)
  replace HF3 := Aside0.mk (FBk_drew HF3.out)
  replace HK3 := Aside0.mk (HK3.out.drewN 1)
  have z0 : w3.cell? ⟨p, 0, none⟩ = some (.func (.func D.nf) #[] D.nc) := bk_cell HBX3.out 0
  go_wp2_with fail
  refine rg_tail 5 (by kernel_rfl) (by kernel_rfl) ?_
  simp only [List.take_succ_cons, List.take_zero, List.drop_succ_cons, List.drop_zero]
  repeat still_step
  refine wpStill_nil ?_
  go_wp2_with fail
  refine (dr_f5 HR3.out HF3.out hb hbP (by have := HL3.out; omega)).mono ?_
  intro e w4 h
  cases hx : D.c.num f.f5 s3 with
  | error er =>
    rw [hx] at h
    obtain ⟨rfl, hbe, hfb⟩ := h
    have hX := HX3.out
    rw [cB_err hx] at hX
    subst hX
    have hbt := HK3.out.step hbe
    clear hx
    go_wp2
    exact ⟨rfl, StepP_err hbt hfb⟩
  | ok q =>
  obtain ⟨x4, s4⟩ := q
  rw [hx] at h
  obtain ⟨rfl, hR4, hF4, hk4⟩ := h
  have hX4 := HX3.out
  rw [cB_ok hx] at hX4
  have HX4 := Aside0.mk hX4
  have HL4 : Aside0 (D.len s4 ≤ D.len s + 70000 * 4) := ⟨by have h1_ := D.lN hx; have h2_ := HL3.out; omega⟩
  have HK4 := Aside0.mk (HK3.out.step hk4)
  have HR4 := Aside0.mk hR4
  have HF4 : Aside0 (FBk D.Pv w4 b { f with f3 := x2, f4 := x3, f5 := x4 }) := ⟨hF4⟩
  have HBX4 := Aside0.mk (blk_kept HBX3.out hk4.kept hpS)
  clear hx hX4 hk4 hR4 hF4 HX3 HK3 HR3 HF3 HBX3
  replace HR4 := Aside0.mk (D.R_drew HR4.out)
  replace HF4 := Aside0.mk (FBk_drew HF4.out)
  replace HK4 := Aside0.mk (HK4.out.drewN 1)
  have z0 : w4.cell? ⟨p, 0, none⟩ = some (.func (.func D.nf) #[] D.nc) := bk_cell HBX4.out 0
  go_wp2_with fail
  refine rg_tail 5 (by kernel_rfl) (by kernel_rfl) ?_
  simp only [List.take_succ_cons, List.take_zero, List.drop_succ_cons, List.drop_zero]
  repeat still_step
  refine wpStill_nil ?_
  go_wp2_with fail
  refine (dr_f6 HR4.out HF4.out hb hbP (by have := HL4.out; omega)).mono ?_
  intro e w5 h
  cases hx : D.c.num f.f6 s4 with
  | error er =>
    rw [hx] at h
    obtain ⟨rfl, hbe, hfb⟩ := h
    have hX := HX4.out
    rw [cB_err hx] at hX
    subst hX
    have hbt := HK4.out.step hbe
    clear hx
    go_wp2
    exact ⟨rfl, StepP_err hbt hfb⟩
  | ok q =>
  obtain ⟨x5, s5⟩ := q
  rw [hx] at h
  obtain ⟨rfl, hR5, hF5, hk5⟩ := h
  have hX5 := HX4.out
  rw [cB_ok hx] at hX5
  have HX5 := Aside0.mk hX5
  have HL5 : Aside0 (D.len s5 ≤ D.len s + 70000 * 5) := ⟨by have h1_ := D.lN hx; have h2_ := HL4.out; omega⟩
  have HK5 := Aside0.mk (HK4.out.step hk5)
  have HR5 := Aside0.mk hR5
  have HF5 : Aside0 (FBk D.Pv w5 b { f with f3 := x2, f4 := x3, f5 := x4, f6 := x5 }) := ⟨hF5⟩
  have HBX5 := Aside0.mk (blk_kept HBX4.out hk5.kept hpS)
  clear hx hX5 hk5 hR5 hF5 HX4 HK4 HR4 HF4 HBX4
  replace HR5 := Aside0.mk (D.R_drew HR5.out)
  replace HF5 := Aside0.mk (FBk_drew HF5.out)
  replace HK5 := Aside0.mk (HK5.out.drewN 1)
  have z1 : w5.cell? ⟨p, 1, none⟩ = some (.func (.func D.tf) #[] D.tc) := bk_cell HBX5.out 1
  go_wp2_with fail
  refine rg_tail 5 (by kernel_rfl) (by kernel_rfl) ?_
  simp only [List.take_succ_cons, List.take_zero, List.drop_succ_cons, List.drop_zero]
  repeat still_step
  refine wpStill_nil ?_
  go_wp2_with fail
  refine (dr_f7 HR5.out HF5.out hb hbP (by have := HL5.out; omega)).mono ?_
  intro e w6 h
  cases hx : D.c.txt f.f7 s5 with
  | error er =>
    rw [hx] at h
    obtain ⟨rfl, hbe, hfb⟩ := h
    have hX := HX5.out
    rw [cB_err hx] at hX
    subst hX
    have hbt := HK5.out.step hbe
    clear hx
    go_wp2
    exact ⟨rfl, StepP_err hbt hfb⟩
  | ok q =>
  obtain ⟨x6, s6⟩ := q
  rw [hx] at h
  obtain ⟨rfl, hR6, hF6, hk6⟩ := h
  have hX6 := HX5.out
  rw [cB_ok hx] at hX6
  have HX6 := Aside0.mk hX6
  have HL6 : Aside0 (D.len s6 ≤ D.len s + 70000 * 6) := ⟨by have h1_ := D.lT hx; have h2_ := HL5.out; omega⟩
  have HK6 := Aside0.mk (HK5.out.step hk6)
  have HR6 := Aside0.mk hR6
  have HF6 : Aside0 (FBk D.Pv w6 b { f with f3 := x2, f4 := x3, f5 := x4, f6 := x5, f7 := x6 }) := ⟨hF6⟩
  have HBX6 := Aside0.mk (blk_kept HBX5.out hk6.kept hpS)
  clear hx hX6 hk6 hR6 hF6 HX5 HK5 HR5 HF5 HBX5
  replace HR6 := Aside0.mk (D.R_drew HR6.out)
  replace HF6 := Aside0.mk (FBk_drew HF6.out)
  replace HK6 := Aside0.mk (HK6.out.drewN 1)
  have z1 : w6.cell? ⟨p, 1, none⟩ = some (.func (.func D.tf) #[] D.tc) := bk_cell HBX6.out 1
  go_wp2_with fail
  refine rg_tail 5 (by kernel_rfl) (by kernel_rfl) ?_
  simp only [List.take_succ_cons, List.take_zero, List.drop_succ_cons, List.drop_zero]
  repeat still_step
  refine wpStill_nil ?_
  go_wp2_with fail
  refine (dr_f8 HR6.out HF6.out hb hbP (by have := HL6.out; omega)).mono ?_
  intro e w7 h
  cases hx : D.c.txt f.f8 s6 with
  | error er =>
    rw [hx] at h
    obtain ⟨rfl, hbe, hfb⟩ := h
    have hX := HX6.out
    rw [cB_err hx] at hX
    subst hX
    have hbt := HK6.out.step hbe
    clear hx
    go_wp2
    exact ⟨rfl, StepP_err hbt hfb⟩
  | ok q =>
  obtain ⟨x7, s7⟩ := q
  rw [hx] at h
  obtain ⟨rfl, hR7, hF7, hk7⟩ := h
  have hX7 := HX6.out
  rw [cB_ok hx] at hX7
  have HX7 := Aside0.mk hX7
  have HL7 : Aside0 (D.len s7 ≤ D.len s + 70000 * 7) := ⟨by have h1_ := D.lT hx; have h2_ := HL6.out; omega⟩
  have HK7 := Aside0.mk (HK6.out.step hk7)
  have HR7 := Aside0.mk hR7
  have HF7 : Aside0 (FBk D.Pv w7 b { f with f3 := x2, f4 := x3, f5 := x4, f6 := x5, f7 := x6, f8 := x7 }) := ⟨hF7⟩
  have HBX7 := Aside0.mk (blk_kept HBX6.out hk7.kept hpS)
  clear hx hX7 hk7 hR7 hF7 HX6 HK6 HR6 HF6 HBX6
  obtain ⟨A, c, c12⟩ : ∃ A c, w7.cell? ⟨b, 9, none⟩ = some (.slice A f.f9.length c) := by
    obtain ⟨v9, v10, v12, h0, h9, h10, h12⟩ := HF7.out
    obtain ⟨A, c, rfl, _, _⟩ := h9
    exact ⟨A, c, bk_cell h0 9⟩
  go_wp2_with (with_reducible refine is_alloc rfl ?_; refine Rg.stop_here ?_)
  refine ⟨?_⟩
  refine box_event rfl (N := 4) rfl (cs := #[.int .i64 0]) (t := 3) (by first | (go_simp; done) | (go_simp; rfl)) ?_
  intro p4 hp4 w8 hbx4 hb3
  have hp4' : w7.heap.size ≤ p4 := Nat.le_of_eq hp4.symm
  clear hp4
  have c4 : w8.cell? ⟨p4, 0, none⟩ = some (.int .i64 0) := bk_cell hbx4 0
  have z4 := bk_frozen hbx4 0
  go_upto_region 8 with fail
  obtain ⟨w9, hw4⟩ : ∃ w4_, w8.setCell ⟨p4, 0, none⟩ (.int .i64 (f.f9.length : Int)) = w4_ := ⟨_, rfl⟩
  rw [hw4]
  have hbx5 : w9.heap[p4]? = some (.cells #[.int .i64 (f.f9.length : Int)] 3 (0, 0)) := by rw [← hw4]; exact blk_set hbx4 0 _
  have hb24 : Below w7.heap.size w7 w9 := by rw [← hw4]; exact hb3.setCell hp4' _
  have hR4 : D.R s7 w9 := D.R_below HR7.out hb24
  have z2 : w9.cell? ⟨p, 2, none⟩ = some (.func (.func D.cf) #[] D.cc) := bk_cell (blk_below HBX7.out hb24) 2
  have HB24 := Aside0.mk hb24
  have HP4 := Aside0.mk hbx5
  have HR4 := Aside0.mk hR4
  have hpv4 : ¬ D.Pv p4 := fun h => by have := D.pvlt HR7.out h; omega
  have hwB := (HK7.out.below hB hS).size
  have hB0p : D.B0 ≤ p4 := by have := HK7.out.size; omega
  have hB0w : D.B0 ≤ w7.heap.size := by have := HK7.out.size; omega
  clear hw4 hbx4 hbx5 hb3 hb24 hR4 c4 z4 c12 hwB
  go_wp2_with fail
  refine (D.cnt s7 w9 p4 0 (f.f9.length : Int) 4 HR4.out hB0p hpv4 (bk_cell HP4.out 0) (bk_frozen HP4.out 0) (by have := HL7.out; omega)).mono ?_
  intro e w10 h
  unfold Post at h
  cases hx : D.c.cnt 4 f.f9.length s7 with
  | error er =>
    rw [hx] at h
    obtain ⟨rfl, hbe, _⟩ := h
    have hX := HX7.out
    rw [cB_err hx] at hX
    subst hX
    have hk25 : Kp D.Pv w7 w10 := (Kp.of_below D.Pv HB24.out).trans hbe (fun k hk => hk.elim .inl (fun h => .inr (by rw [h]; exact hp4')))
    have hfb := FBk_FaB (FBk_kp HF7.out hk25 (fun k h => .inl h) hbP) (Shp.of_eq rfl)
    have hbt := HK7.out.trans hk25 (fun k h => .inl (.inl h))
    clear hx
    go_wp2
    exact ⟨rfl, StepP_err hbt hfb⟩
  | ok q =>
  obtain ⟨n0, s10⟩ := q
  rw [hx] at h
  obtain ⟨rfl, hR5, hc5, hk5⟩ := h
  have hn : 0 ≤ n0 ∧ n0 ≤ 4 := by rcases D.cC hx with h1 | h1 <;> omega
  obtain ⟨n, rfl⟩ := Int.eq_ofNat_of_zero_le hn.1
  have hn64 : n ≤ 4 := by omega
  have hk25 : Kp D.Pv w7 w10 := (Kp.of_below D.Pv HB24.out).trans hk5 (fun k hk => hk.elim .inl (fun h => .inr (by rw [h]; exact hp4')))
  have hX10 := HX7.out
  rw [cB_ok hx, Int.toNat_natCast] at hX10
  have HX10 := Aside0.mk hX10
  have HL10 : Aside0 (D.len s10 ≤ D.len s + 70000 * 10) := ⟨by have h1_ := D.lC hx; have h2_ := HL7.out; omega⟩
  have HR10 := Aside0.mk hR5
  have HF10 := Aside0.mk (FBk_kp HF7.out hk25 (fun k h => .inl h) hbP)
  have HBX10 := Aside0.mk (blk_kept HBX7.out hk25.kept (fun h => hpS (.inl h)))
  have HK10 := Aside0.mk (HK7.out.trans hk25 (fun k h => .inl (.inl h)))
  have c4 : w10.cell? ⟨p4, 0, none⟩ = some (.int .i64 (n : Int)) := bk_cell (hc5.trans (blk_set HP4.out 0 _)) 0
  have H4lt := Aside0.mk (show p4 < w10.heap.size from blk_lt (hc5.trans (blk_set HP4.out 0 _)))
  have H4b : Aside0 (p4 ≠ b) := ⟨fun h => by have := FBk_lt HF7.out; omega⟩
  have H4p : Aside0 (p4 ≠ p) := ⟨fun h => by have := blk_lt HBX7.out; omega⟩
  have H4c := Aside0.mk c4
  clear hx hX10 hR5 hc5 hk5 hk25 hn hp4' z2 hpv4 hB0p hB0w HX7 HK7 HR7 HF7 HBX7 HB24 HR4 HP4 c4
  obtain ⟨v9, v10, v12, h0, h9, h10, h12⟩ := HF10.out
  obtain ⟨A, c, rfl, hlc, hFt⟩ := h9
  have hlc : f.f9.length ≤ c := hlc
  have hC : Kd.string.C w10 A f.f9.length f.f9 := Kd.F_now hFt
  have c12 : w10.cell? ⟨b, 9, none⟩ = some (.slice A f.f9.length c) := bk_cell h0 9
  have H0 := Aside0.mk h0
  have HV1 := Aside0.mk h10
  have HV2 := Aside0.mk h12
  have HC := Aside0.mk hC
  clear h0 h10 h12 hC hFt
  go_wp2_with (at_builtin; refine Rg.stop_here ?_)
  refine ⟨?_⟩
  refine Kd.R_append_rows Kd.string (Rr := Kd.string.K w10) (w0 := w10) w10.heap.size rfl (.const (.slice none 0 0)) (.tmp 54) 22 9 (.string ⟨#[]⟩) 16 rfl Tryz.underlying22 info_str rfl (by decide) (by decide) (.slice none 0 0) [] f.f9 A f.f9.length c (fun k => w10.heap.size ≤ k) (fun _ => False) rfl rfl (Kd.R_nil _ _ _ _ _) HC.out (fun _ _ h => h) (fun _ hk => hk.elim) (fun k hk => hk) (Below.refl _ _) (Nat.le_refl _) (by simp only [List.length_nil]; omega) ?_
  intro v1 w11 hR6 hb6 _ _
  rw [List.nil_append] at hR6
  obtain ⟨A1, c1, rfl⟩ := Kd.R_slice hR6
  have h06 := blk_below H0.out hb6
  have c12' : w11.cell? ⟨b, 9, none⟩ = some (.slice A f.f9.length c) := bk_cell h06 9
  have z12 := bk_frozen h06 9
  go_upto_region 10 with fail
  obtain ⟨w12, hw7⟩ : ∃ w7_, w11.setCell ⟨b, 9, none⟩ (.slice A1 f.f9.length c1) = w7_ := ⟨_, rfl⟩
  rw [hw7]
  have hbi : b < w10.heap.size := blk_lt H0.out
  have h07 : w12.heap[b]? = some (.cells (fa_cells { f with f3 := x2, f4 := x3, f5 := x4, f6 := x5, f7 := x6, f8 := x7 } (.slice A1 f.f9.length c1) v10 v12) 28 (0, 0)) := by rw [← hw7]; exact blk_set h06 9 _
  have hR7 : Kd.string.R 9 w12 w10.heap.size (fun k => w10.heap.size ≤ k) (.slice A1 f.f9.length c1) f.f9 := by
    rw [← hw7]; exact Kd.R_step hR6 (fun k hk _ => Below.heap_setCell _ _ _ k (fun h => by have h : k = b := h; omega))
  have hk57 : Kp (fun k => k = b) w10 w12 := by rw [← hw7]; exact (Kp.of_below (fun k => k = b) hb6).set (.inl rfl) _
  have HI : Aside0 (LstI D Kd.string 9 w10 b (fun v => fa_cells { f with f3 := x2, f4 := x3, f5 := x4, f6 := x5, f7 := x6, f8 := x7 } v v10 v12) f.f9 n (D.len s + 70000 * 10) (c_txts D.c) (fun zs s => cB (D.c.blk f.f10 s) fun x10_ s => cB (c_label D.c f.f11 s) fun x11_ s => .ok ({ f with f3 := x2, f4 := x3, f5 := x4, f6 := x5, f7 := x6, f8 := x7, f9 := zs, f10 := x10_, f11 := x11_ }, s)) X 0 w12) :=
    ⟨[], s10, A1, c1, Nat.zero_le _, rfl, D.keep HR10.out (fun k hk => hk57.kept.2 k (D.pvlt HR10.out hk) (fun h => hbP (h ▸ hk))), h07, hR7, hk57.mono (fun _ h => .inr h), by have := HL10.out; omega, HX10.out⟩
  have c4 : w12.cell? ⟨p4, 0, none⟩ = some (.int .i64 (n : Int)) := (by have := hk57.kept.2 p4 H4lt.out H4b.out; simpa [World.cell?, this] using H4c.out)
  have hBi : D.B0 ≤ w10.heap.size := by have := HK10.out.size; omega
  have hpi : p < w10.heap.size := blk_lt HBX10.out
  clear hw7 h06 h07 hR7 hb6 hR6 hk57 c12 c12' z12 H0 HC HX10 H4c
  go_wp2_with fail
  go_loopw [59] (fun p29 wr => ∃ i : Nat, p29 = .int .i64 (i : Int) ∧ LstI D Kd.string 9 w10 b (fun v => fa_cells { f with f3 := x2, f4 := x3, f5 := x4, f6 := x5, f7 := x6, f8 := x7 } v v10 v12) f.f9 n (D.len s + 70000 * 10) (c_txts D.c) (fun zs s => cB (D.c.blk f.f10 s) fun x10_ s => cB (c_label D.c f.f11 s) fun x11_ s => .ok ({ f with f3 := x2, f4 := x3, f5 := x4, f6 := x5, f7 := x6, f8 := x7, f9 := zs, f10 := x10_, f11 := x11_ }, s)) X i wr) (fun p _ => n - (intOf p).toNat)
  case atStart => exact ⟨0, rfl, HI.out⟩
  case round =>
    clear HI c4
    obtain ⟨i, rfl, hI⟩ := hrel
    obtain ⟨ys, si, Ai, ci, hin, hyl, hRi, h0i, hRRi, hki, hLi, hXi⟩ := hI
    obtain ⟨L, hL⟩ : ∃ L, (ys ++ (f.f9).drop i).length = L := ⟨_, rfl⟩
    have hLx : L = i + ((f.f9).length - i) := by rw [← hL, List.length_append, List.length_drop, hyl]
    rw [hL] at h0i hRRi
    have hbr : wr.heap[p]? = some (.cells #[.func (.func D.nf) #[] D.nc, .func (.func D.tf) #[] D.tc, .func (.func D.cf) #[] D.cc, .func (.func D.bf) #[] D.bc] 62 (0, 0)) := blk_kept HBX10.out hki.kept hpS
    have HBR := Aside0.mk hbr
    have HRi := Aside0.mk hRi
    have H0i := Aside0.mk h0i
    have HRRi := Aside0.mk hRRi
    have Hki := Aside0.mk hki
    have hsz := hki.size
    have HLi := Aside0.mk hLi
    have HXi := Aside0.mk hXi
    have HYL := Aside0.mk hyl
    have HLEN := Aside0.mk hL
    have hL1 : i ≤ L := by omega
    have hL2 : i < (f.f9).length → i < L := by omega
    have hL3 : ¬ i < (f.f9).length → L = i := by omega
    have hL4 : L ≤ i + 4 := by omega
    clear hbr hRi h0i hRRi hki hLi hXi hyl hL hLx
    by_cases hlt : i < n
    · have hd : decide ((i : Int) < (n : Int)) = true := decide_eq_true (by omega)
      obtain ⟨m, hm⟩ : ∃ m, n = i + 1 + m := ⟨n - i - 1, by omega⟩
      have HM := Aside0.mk hm
      have hXn := HXi.out
      rw [show n - i = m + 1 by omega, lst_txts, List.tail_drop] at hXn
      have HXn := Aside0.mk hXn
      clear hm hXn HXi
      by_cases hx : i < (f.f9).length
      · have hiL : i < L := hL2 hx
        obtain ⟨g, cap, hv, hgb, hgl, cells, hgc⟩ := Kd.R_form HRRi.out (by rw [HLEN.out]; omega)
        injection hv with hv1 hv2 hv3
        subst hv1
        obtain ⟨v0, hv0⟩ : ∃ v0, ((f.f9).drop i).headD (⟨#[]⟩ : ByteArray) = v0 := ⟨_, rfl⟩
        have HSET : Aside0 (∀ y, (ys ++ (f.f9).drop i).set i y = (ys ++ [y]) ++ (f.f9).drop (i + 1)) := ⟨fun y => lst_set ys (f.f9) i y HYL.out hx⟩
        have HV0 : Aside0 (rdOf (⟨#[]⟩ : ByteArray) (ys ++ (f.f9).drop i) (i : Int) = v0) := ⟨by rw [← hv0]; exact lst_rd (⟨#[]⟩ : ByteArray) ys (f.f9) i HYL.out hx⟩
        have HXv := HXn.out
        rw [hv0] at HXv
        have HXv := Aside0.mk HXv
        have e8 : ((i : Int) == (L : Int)) = false := beq_eq_false_iff_ne.2 (by omega)
        have e9 : decide ((i : Int) = (L : Int)) = false := decide_eq_false (by omega)
        have c12i : wr.cell? ⟨b, 9, none⟩ = some (.slice (some ⟨g, 0, none⟩) L ci) := bk_cell H0i.out 9
        clear hv0 HXn hgc hv2 hv3 hx hL2 hL3
        go_upto_region 15 with fail
        clear e8 e9 hd
        obtain ⟨zs, hzs⟩ : ∃ zs, ys ++ (f.f9).drop i = zs := ⟨_, rfl⟩
        rw [hzs] at HSET HV0 HRRi HLEN
        have HRW := HRi
        have HkW := Hki
        have HRRW := HRRi
        have H0W := H0i
        have hLW : i < L := hiL
        clear hzs HRi Hki HRRi H0i
        have z0i : wr.cell? ⟨p, 1, none⟩ = some (.func (.func D.tf) #[] D.tc) := bk_cell HBR.out 1
        have q0 := eq_true (show (0 : Int) ≤ (i : Int) by omega)
        have q1 := eq_true (show (i : Int) < ((L : Nat) : Int) by omega)
        have q2 := eq_true (show (i : Int) < ((L : Int)) by omega)
        refine rg_tail 8 (by kernel_rfl) (by kernel_rfl) ?_
        simp only [List.take_succ_cons, List.take_zero, List.drop_succ_cons, List.drop_zero]
        repeat still_step
        refine wpStill_nil ?_
        go_wp2_with fail
        have hgp : ¬ D.Pv g := fun h => by have := D.pvlt HR10.out h; omega
        have hgb2 : D.B0 ≤ g := by omega
        have cg := Kd.R_celln (⟨#[]⟩ : ByteArray) (show (Kd.scalar (Value.string) (fun _ => rfl)).R 9 wr w10.heap.size (fun k => w10.heap.size ≤ k) (.slice (some ⟨g, 0, none⟩) (L) ci) zs from HRRW.out) (i : Int) (by omega) (by omega)
        rw [HV0.out, Int.toNat_natCast] at cg
        refine (D.txt si wr.drew g i (v0) (D.R_drew HRW.out) hgb2 hgp cg.1 cg.2 (by have := HLi.out; omega)).mono ?_
        intro e w9 h
        unfold Post at h
        cases hx : D.c.txt (v0) si with
        | error er =>
          rw [hx] at h
          obtain ⟨rfl, hbe, _⟩ := h
          have hX := HXv.out
          rw [cB_err hx] at hX
          subst hX
          have hbt := HK10.out.step ((HkW.out.drewN 1).trans hbe (fun k (hk : D.Pv k ∨ k = g) => hk.elim (fun h => .inl (.inl h)) (fun h => .inr (by rw [h]; exact hgb))))
          have hfb : FaB b w9 := ⟨_, (hbe.kept.2 b (Nat.lt_of_lt_of_le hbi HkW.out.size) (fun h => h.elim hbP (fun h => by omega))).trans H0W.out, rfl⟩
          clear hx cg
          go_wp2
          exact ⟨rfl, StepP_err hbt hfb⟩
        | ok q =>
        obtain ⟨y, s9⟩ := q
        rw [hx] at h
        obtain ⟨rfl, hR9, hc9, hk9⟩ := h
        have hX9 := HXv.out
        rw [cB_ok hx] at hX9
        have HX9 := Aside0.mk hX9
        have HL9 : Aside0 (D.len s9 ≤ D.len s + 70000 * 10 + 70000 * (i + 1)) := ⟨lst_len (D.lT hx) HLi.out⟩
        have a1 := Kd.R_putn (show (Kd.scalar (Value.string) (fun _ => rfl)).R 9 wr w10.heap.size (fun k => w10.heap.size ≤ k) (.slice (some ⟨g, 0, none⟩) (L) ci) zs from HRRW.out) (i : Int) y
        rw [Int.toNat_natCast, HSET.out y] at a1
        have a2 : Kd.string.R 9 w9 w10.heap.size (fun k => some k = (Value.slice (some ⟨g, 0, none⟩) (L) ci).ownBlock) (.slice (some ⟨g, 0, none⟩) (L) ci) ((ys ++ [y]) ++ (f.f9).drop (i + 1)) :=
          Kd.R_step (Kd.R_tight rfl a1) (fun k hk _ => by obtain rfl : k = g := by simpa [Value.ownBlock] using hk
                                                          exact hc9)
        have a3 : Kd.string.R 9 w9 w10.heap.size (fun k => w10.heap.size ≤ k) (.slice (some ⟨g, 0, none⟩) (L) ci) ((ys ++ [y]) ++ (f.f9).drop (i + 1)) :=
          Kd.R_reok rfl a2 (fun k hk => by obtain rfl : g = k := by simpa [Value.ownBlock] using hk
                                           exact hgb)
        have hlen9 : ((ys ++ [y]) ++ (f.f9).drop (i + 1)).length = L := by rw [← HSET.out y, List.length_set]; exact HLEN.out
        have h09 := (hk9.kept.2 b (Nat.lt_of_lt_of_le hbi HkW.out.size) (fun h => h.elim hbP (fun h => by omega))).trans H0W.out
        have hk59 := (HkW.out.drewN 1).trans (hk9) (fun k (hk : D.Pv k ∨ k = g) => hk.elim (fun h => .inl (.inl h)) (fun h => .inr (by rw [h]; exact hgb)))
        have hm' : n = i + 1 + m := HM.out
        have HFIN : Aside0 (LstI D Kd.string 9 w10 b (fun v => fa_cells { f with f3 := x2, f4 := x3, f5 := x4, f6 := x5, f7 := x6, f8 := x7 } v v10 v12) (f.f9) n (D.len s + 70000 * 10) (c_txts D.c) (fun zs s => cB (D.c.blk f.f10 s) fun x10_ s => cB (c_label D.c f.f11 s) fun x11_ s => .ok ({ f with f3 := x2, f4 := x3, f5 := x4, f6 := x5, f7 := x6, f8 := x7, f9 := zs, f10 := x10_, f11 := x11_ }, s)) X (i + 1) w9) :=
          ⟨ys ++ [y], s9, some ⟨g, 0, none⟩, ci, by omega, by rw [List.length_append]; have := HYL.out; show ys.length + 1 = _; omega, hR9, by rw [hlen9]; exact h09, by rw [hlen9]; exact a3, hk59, HL9.out, by
            rw [show n - (i + 1) = m by omega]
            have := HX9.out
            simpa only [List.append_assoc, List.singleton_append] using this⟩
        clear hx cg a1 a2 a3 hlen9 h09 hk59 hm' hX9 HX9 HL9 hR9 hc9 hk9 HSET HV0
        go_wp2_with fail
        go_roundw
        case rel => exact ⟨i + 1, by go_num, HFIN.out⟩
        case measure => simp [intOf]; omega
      · have hiL : L = i := hL3 hx
        subst hiL
        have e8 : ((L : Int) == (L : Int)) = true := beq_self_eq_true _
        have e9 : decide ((L : Int) = (L : Int)) = true := decide_eq_true rfl
        have c12i : wr.cell? ⟨b, 9, none⟩ = some (.slice Ai L ci) := bk_cell H0i.out 9
        clear hL2 hL3 hL1
        go_wp2_with (at_builtin; refine Rg.stop_here ?_)
        refine ⟨?_⟩
        refine Kd.R_append Kd.string (w0 := wr) w10.heap.size rfl (.tmp 73) (.tmp 74) 22 9 (.string ⟨#[]⟩) 16 rfl Tryz.underlying22 info_str rfl (by decide) (by decide) _ (ys ++ (f.f9).drop L) (⟨#[]⟩ : ByteArray) [.string ⟨#[]⟩] (fun k => w10.heap.size ≤ k) (fun _ => False) rfl rfl rfl (fun _ hk => hk.elim) (fun k hk => by omega) HRRi.out (Below.refl _ _) hsz (by rw [HLEN.out]; omega) ?_
        intro v2 wa hRa hba _ _
        obtain ⟨A2, c2, rfl⟩ := Kd.R_slice hRa
        have hLa : (ys ++ (f.f9).drop L ++ [(⟨#[]⟩ : ByteArray)]).length = L + 1 := by rw [List.length_append, HLEN.out]; rfl
        rw [hLa] at hRa ⊢
        obtain ⟨g, cap, hv, hgb, hgl, cells, hgc⟩ := Kd.R_form hRa (by rw [hLa]; omega)
        injection hv with hv1 hv2 hv3
        subst hv1
        have h0a := (hba.block b hbi).trans H0i.out
        have c12a : wa.cell? ⟨b, 9, none⟩ = some (.slice Ai L ci) := bk_cell h0a 9
        have z12a := bk_frozen h0a 9
        have HLA := Aside0.mk hLa
        have HRa := Aside0.mk hRa
        have HBA := Aside0.mk hba
        have H0a := Aside0.mk h0a
        clear hLa hRa hba h0a hgc hv2 hv3 e8 e9 hd c12i
        go_upto_region 15 with fail
        obtain ⟨W, hW⟩ : ∃ W, wa.setCell ⟨b, 9, none⟩ (.slice (some ⟨g, 0, none⟩) (L + 1) c2) = W := ⟨_, rfl⟩
        rw [hW]
        clear c12a z12a
        have hdr : (f.f9).drop L = [] := List.drop_eq_nil_of_le (by omega)
        have HkW : Aside0 (Kp (fun k => D.Pv k ∨ k = b) w10 W) := ⟨by rw [← hW]; exact (Hki.out.then_belowB HBA.out).set (.inl (.inr rfl)) _⟩
        have HRW : Aside0 (D.R si W) := ⟨by rw [← hW]; exact D.keep HRi.out (fun k hk => (Below.heap_setCell _ _ _ k (fun h => by have h : k = b := h; exact hbP (h ▸ hk))).trans (HBA.out.block k (D.pvlt HR10.out hk)))⟩
        have H0W : Aside0 (W.heap[b]? = some (.cells (fa_cells { f with f3 := x2, f4 := x3, f5 := x4, f6 := x5, f7 := x6, f8 := x7 } (.slice (some ⟨g, 0, none⟩) (L + 1) c2) v10 v12) 28 (0, 0))) := ⟨by rw [← hW]; exact blk_set H0a.out 9 _⟩
        have HRRW0 : Kd.string.R 9 W w10.heap.size (fun k => w10.heap.size ≤ k) (.slice (some ⟨g, 0, none⟩) (L + 1) c2) (ys ++ (f.f9).drop L ++ [(⟨#[]⟩ : ByteArray)]) := by
          rw [← hW]; exact Kd.R_step HRa.out (fun k hk _ => Below.heap_setCell _ _ _ k (fun h => by have h : k = b := h; omega))
        rw [hdr, List.append_nil] at HRRW0
        have HRRW := Aside0.mk HRRW0
        have hlys : ys.length = L := HYL.out
        have HSET : Aside0 (∀ y, (ys ++ [(⟨#[]⟩ : ByteArray)]).set L y = (ys ++ [y]) ++ (f.f9).drop (L + 1)) := ⟨fun y => lst_set2 ys (f.f9) L (⟨#[]⟩ : ByteArray) y hlys (by omega)⟩
        have HV0 : Aside0 (rdOf (⟨#[]⟩ : ByteArray) (ys ++ [(⟨#[]⟩ : ByteArray)]) (L : Int) = (⟨#[]⟩ : ByteArray)) := ⟨lst_rd2 (⟨#[]⟩ : ByteArray) ys L hlys⟩
        have HLEN2 : Aside0 ((ys ++ [(⟨#[]⟩ : ByteArray)]).length = L + 1) := ⟨by rw [List.length_append, hlys]; rfl⟩
        have HXv := HXn.out
        rw [hdr, show ([] : List ByteArray).headD (⟨#[]⟩ : ByteArray) = (⟨#[]⟩ : ByteArray) from rfl] at HXv
        have HXv := Aside0.mk HXv
        have HBRW := Aside0.mk (blk_kept HBX10.out HkW.out.kept hpS)
        obtain ⟨zs, hzs⟩ : ∃ zs, ys ++ [(⟨#[]⟩ : ByteArray)] = zs := ⟨_, rfl⟩
        rw [hzs] at HSET HV0 HRRW HLEN2
        have hszW := HkW.out.size
        have hLW : L < L + 1 := by omega
        have c12i : W.cell? ⟨b, 9, none⟩ = some (.slice (some ⟨g, 0, none⟩) (L + 1) c2) := bk_cell H0W.out 9
        clear HLEN HRi Hki HRRi H0i HBA HRa H0a HBR HRRW0 hdr hlys hW hzs HXn HLA
        have HBR := HBRW
        have HLEN := HLEN2
        clear HBRW HLEN2
        have z0i : W.cell? ⟨p, 1, none⟩ = some (.func (.func D.tf) #[] D.tc) := bk_cell HBR.out 1
        have q0 := eq_true (show (0 : Int) ≤ (L : Int) by omega)
        have q1 := eq_true (show (L : Int) < ((L + 1 : Nat) : Int) by omega)
        have q2 := eq_true (show (L : Int) < ((L : Int) + 1) by omega)
        refine rg_tail 8 (by kernel_rfl) (by kernel_rfl) ?_
        simp only [List.take_succ_cons, List.take_zero, List.drop_succ_cons, List.drop_zero]
        repeat still_step
        refine wpStill_nil ?_
        go_wp2_with fail
        have hgp : ¬ D.Pv g := fun h => by have := D.pvlt HR10.out h; omega
        have hgb2 : D.B0 ≤ g := by omega
        have cg := Kd.R_celln (⟨#[]⟩ : ByteArray) (show (Kd.scalar (Value.string) (fun _ => rfl)).R 9 W w10.heap.size (fun k => w10.heap.size ≤ k) (.slice (some ⟨g, 0, none⟩) (L + 1) c2) zs from HRRW.out) (L : Int) (by omega) (by omega)
        rw [HV0.out, Int.toNat_natCast] at cg
        refine (D.txt si W.drew g L ((⟨#[]⟩ : ByteArray)) (D.R_drew HRW.out) hgb2 hgp cg.1 cg.2 (by have := HLi.out; omega)).mono ?_
        intro e w9 h
        unfold Post at h
        cases hx : D.c.txt ((⟨#[]⟩ : ByteArray)) si with
        | error er =>
          rw [hx] at h
          obtain ⟨rfl, hbe, _⟩ := h
          have hX := HXv.out
          rw [cB_err hx] at hX
          subst hX
          have hbt := HK10.out.step ((HkW.out.drewN 1).trans hbe (fun k (hk : D.Pv k ∨ k = g) => hk.elim (fun h => .inl (.inl h)) (fun h => .inr (by rw [h]; exact hgb))))
          have hfb : FaB b w9 := ⟨_, (hbe.kept.2 b (Nat.lt_of_lt_of_le hbi HkW.out.size) (fun h => h.elim hbP (fun h => by omega))).trans H0W.out, rfl⟩
          clear hx cg
          go_wp2
          exact ⟨rfl, StepP_err hbt hfb⟩
        | ok q =>
        obtain ⟨y, s9⟩ := q
        rw [hx] at h
        obtain ⟨rfl, hR9, hc9, hk9⟩ := h
        have hX9 := HXv.out
        rw [cB_ok hx] at hX9
        have HX9 := Aside0.mk hX9
        have HL9 : Aside0 (D.len s9 ≤ D.len s + 70000 * 10 + 70000 * (L + 1)) := ⟨lst_len (D.lT hx) HLi.out⟩
        have a1 := Kd.R_putn (show (Kd.scalar (Value.string) (fun _ => rfl)).R 9 W w10.heap.size (fun k => w10.heap.size ≤ k) (.slice (some ⟨g, 0, none⟩) (L + 1) c2) zs from HRRW.out) (L : Int) y
        rw [Int.toNat_natCast, HSET.out y] at a1
        have a2 : Kd.string.R 9 w9 w10.heap.size (fun k => some k = (Value.slice (some ⟨g, 0, none⟩) (L + 1) c2).ownBlock) (.slice (some ⟨g, 0, none⟩) (L + 1) c2) ((ys ++ [y]) ++ (f.f9).drop (L + 1)) :=
          Kd.R_step (Kd.R_tight rfl a1) (fun k hk _ => by obtain rfl : k = g := by simpa [Value.ownBlock] using hk
                                                          exact hc9)
        have a3 : Kd.string.R 9 w9 w10.heap.size (fun k => w10.heap.size ≤ k) (.slice (some ⟨g, 0, none⟩) (L + 1) c2) ((ys ++ [y]) ++ (f.f9).drop (L + 1)) :=
          Kd.R_reok rfl a2 (fun k hk => by obtain rfl : g = k := by simpa [Value.ownBlock] using hk
                                           exact hgb)
        have hlen9 : ((ys ++ [y]) ++ (f.f9).drop (L + 1)).length = L + 1 := by rw [← HSET.out y, List.length_set]; exact HLEN.out
        have h09 := (hk9.kept.2 b (Nat.lt_of_lt_of_le hbi HkW.out.size) (fun h => h.elim hbP (fun h => by omega))).trans H0W.out
        have hk59 := (HkW.out.drewN 1).trans (hk9) (fun k (hk : D.Pv k ∨ k = g) => hk.elim (fun h => .inl (.inl h)) (fun h => .inr (by rw [h]; exact hgb)))
        have hm' : n = L + 1 + m := HM.out
        have HFIN : Aside0 (LstI D Kd.string 9 w10 b (fun v => fa_cells { f with f3 := x2, f4 := x3, f5 := x4, f6 := x5, f7 := x6, f8 := x7 } v v10 v12) (f.f9) n (D.len s + 70000 * 10) (c_txts D.c) (fun zs s => cB (D.c.blk f.f10 s) fun x10_ s => cB (c_label D.c f.f11 s) fun x11_ s => .ok ({ f with f3 := x2, f4 := x3, f5 := x4, f6 := x5, f7 := x6, f8 := x7, f9 := zs, f10 := x10_, f11 := x11_ }, s)) X (L + 1) w9) :=
          ⟨ys ++ [y], s9, some ⟨g, 0, none⟩, c2, by omega, by rw [List.length_append]; have := HYL.out; show ys.length + 1 = _; omega, hR9, by rw [hlen9]; exact h09, by rw [hlen9]; exact a3, hk59, HL9.out, by
            rw [show n - (L + 1) = m by omega]
            have := HX9.out
            simpa only [List.append_assoc, List.singleton_append] using this⟩
        clear hx cg a1 a2 a3 hlen9 h09 hk59 hm' hX9 HX9 HL9 hR9 hc9 hk9 HSET HV0
        go_wp2_with fail
        go_roundw
        case rel => exact ⟨L + 1, by go_num, HFIN.out⟩
        case measure => simp [intOf]; omega
    · have hin2 : i = n := by omega
      subst hin2
      have hd : decide ((i : Int) < (i : Int)) = false := decide_eq_false (by omega)
      have hXe := HXi.out
      rw [Nat.sub_self] at hXe
      obtain ⟨zs, hzs⟩ : ∃ zs, ys ++ (f.f9).drop i = zs := ⟨_, rfl⟩
      have hXe : (fun zs s => cB (D.c.blk f.f10 s) fun x10_ s => cB (c_label D.c f.f11 s) fun x11_ s => .ok ({ f with f3 := x2, f4 := x3, f5 := x4, f6 := x5, f7 := x6, f8 := x7, f9 := zs, f10 := x10_, f11 := x11_ }, s)) zs si = X := by rw [← hzs]; exact hXe
      dsimp only at hXe
      have HX8 := Aside0.mk hXe
      rw [hzs] at HRRi HLEN
      have hzl := HLEN.out
      subst hzl
      have HF8 : Aside0 (FBk D.Pv wr b ({ f with f3 := x2, f4 := x3, f5 := x4, f6 := x5, f7 := x6, f8 := x7, f9 := zs })) := ⟨lst_fb_f9 H0i.out (V_kp HV1.out Hki.out) (V_kp HV2.out Hki.out) HRRi.out hbi (fun k hk => D.pvlt HR10.out hk)⟩
      have HK8 := Aside0.mk (HK10.out.step Hki.out)
      have HL8 : Aside0 (D.len si ≤ D.len s + 70000 * 108) := ⟨by have := HLi.out; omega⟩
      obtain ⟨s8, hs8⟩ : ∃ s8, si = s8 := ⟨_, rfl⟩
      rw [hs8] at HRi HX8 HL8
      have HR8 := HRi
      have HBX8 := HBR
      clear hXe hzs hs8 HRi HLi HXi HK10 HBR HYL HLEN Hki H0i HRRi hL1 hL2 hL3 hL4 hlt
      replace HR8 := Aside0.mk (D.R_drew HR8.out)
      replace HF8 := Aside0.mk (FBk_drew HF8.out)
      replace HK8 := Aside0.mk (HK8.out.drewN 1)
      have z3 : wr.cell? ⟨p, 3, none⟩ = some (.func (.func D.bf) #[] D.bc) := bk_cell HBX8.out 3
      go_wp2_with fail
      refine rg_tail 5 (by kernel_rfl) (by kernel_rfl) ?_
      simp only [List.take_succ_cons, List.take_zero, List.drop_succ_cons, List.drop_zero]
      repeat still_step
      refine wpStill_nil ?_
      go_wp2_with fail
      refine (dr_f10 HR8.out HF8.out hb hbP (by have := HL8.out; omega)).mono ?_
      intro e w9 h
      cases hx : D.c.blk f.f10 s8 with
      | error er =>
        rw [hx] at h
        obtain ⟨rfl, hbe, hfb⟩ := h
        have hX := HX8.out
        rw [cB_err hx] at hX
        subst hX
        have hbt := HK8.out.step hbe
        clear hx
        go_wp2
        exact ⟨rfl, StepP_err hbt hfb⟩
      | ok q =>
      obtain ⟨x9, s9⟩ := q
      rw [hx] at h
      obtain ⟨rfl, hR9, hF9, hk9⟩ := h
      have hX9 := HX8.out
      rw [cB_ok hx] at hX9
      have HX9 := Aside0.mk hX9
      have HL9 : Aside0 (D.len s9 ≤ D.len s + 70000 * 109) := ⟨by have h1_ := D.lB hx; have h2_ := HL8.out; omega⟩
      have HK9 := Aside0.mk (HK8.out.step hk9)
      have HR9 := Aside0.mk hR9
      have HF9 : Aside0 (FBk D.Pv w9 b { f with f3 := x2, f4 := x3, f5 := x4, f6 := x5, f7 := x6, f8 := x7, f9 := zs, f10 := x9 }) := ⟨hF9⟩
      have HBX9 := Aside0.mk (blk_kept HBX8.out hk9.kept hpS)
      clear hx hX9 hk9 hR9 hF9 HX8 HK8 HR8 HF8 HBX8
      replace HR9 := Aside0.mk (D.R_drew HR9.out)
      replace HF9 := Aside0.mk (FBk_drew HF9.out)
      replace HK9 := Aside0.mk (HK9.out.drewN 1)
      go_wp2_with fail
      refine rg_tail 4 (by kernel_rfl) (by kernel_rfl) ?_
      simp only [List.take_succ_cons, List.take_zero, List.drop_succ_cons, List.drop_zero]
      refine ws_load_row rfl rfl p rfl 62 _ (0, 0) _ HBX9.out Tryz.underlying62 rfl codec_size ?_
      repeat still_step
      refine wpStill_nil ?_
      go_wp2_with fail
      refine (cw_label D s9 w9.drew b _ HR9.out HF9.out hb hbP (Nat.le_trans hB HK9.out.size) (by have := HL9.out; omega) hxs).mono ?_
      intro e w10 h
      cases hx : c_label D.c f.f11 s9 with
      | error er =>
        rw [hx] at h
        obtain ⟨rfl, hbe, hfb⟩ := h
        have hX := HX9.out
        rw [cB_err hx] at hX
        subst hX
        have hbt := HK9.out.step hbe
        clear hx
        go_wp2
        exact ⟨rfl, StepP_err hbt hfb⟩
      | ok q =>
      obtain ⟨x10, s10⟩ := q
      rw [hx] at h
      obtain ⟨rfl, hR10, hF10, hk10⟩ := h
      have hX10 := HX9.out
      rw [cB_ok hx] at hX10
      have HX10 := Aside0.mk hX10
      skip
      have HK10 := Aside0.mk (HK9.out.step hk10)
      have HR10 := Aside0.mk hR10
      have HF10 : Aside0 (FBk D.Pv w10 b { f with f3 := x2, f4 := x3, f5 := x4, f6 := x5, f7 := x6, f8 := x7, f9 := zs, f10 := x9, f11 := x10 }) := ⟨hF10⟩
      have HBX10 := Aside0.mk (blk_kept HBX9.out hk10.kept hpS)
      clear hx hX10 hk10 hR10 hF10 HX9 HK9 HR9 HF9 HBX9
      go_wp2_with fail
      go_end0
      have hX := HX10.out
      subst hX
      exact ⟨rfl, HR10.out, HF10.out, HK10.out⟩
theorem cw_rev {σ : Type} (D : Drv σ) (s : σ) (w : World) (b : Nat) (f : Fa) (hR : D.R s w) (hF : FBk D.Pv w b f) (hb : D.B0 ≤ b) (hbP : ¬ D.Pv b) (hB : D.B0 ≤ w.heap.size) (hl : D.len s ≤ 100000000) (hts : f.f9.length ≤ 4) (hxs : f.f11.f1.length ≤ 64) :
    Calls Tryz.prog 44 #[D.val, .pointer (some ⟨b, 0, none⟩)] w (StepP D b w (.tuple #[]) (c_k1 D.c f s)) :=
  cw_rev0 D s w b f _ hR hF hb hbP hB hl hts hxs (c_rev_nest D f s).symm
end Go.Proofs.YtkhgdglaophkbaaGreatDoor.PK
end
section
set_option linter.unusedVariables false
set_option linter.unusedSimpArgs false
namespace Go.Proofs.YtkhgdglaophkbaaGreatDoor.PK
open Go.RowKit Go.Proofs.YtkhgdglaophkbaaGreatDoorW.PrintWords Go.Proofs.YtkhgdglaophkbaaGreatDoorW.PrintLast Go.Proofs.YtkhgdglaophkbaaGreatDoorW.PrintMore
theorem is_loadC {P : Program} {W : World} {ops : Array Oper} {rest : List Oper} {o : Oper} {a : Act} {Q : Exit → Act → World → Prop} {t : TypeId} {p : Operand} (_ : o.op = .load t p) (h : wpList P ops Q (o :: rest) a W) : wpList P ops Q (o :: rest) a W := h
set_option maxHeartbeats 4000000 in
set_option maxRecDepth 100000 in
theorem cw_f1 {σ : Type} (D : Drv σ) (s : σ) (w : World) (b : Nat) (f : Fa) (X : Except Int (Fa × σ)) (hR : D.R s w) (hF : FBk D.Pv w b f) (hb : D.B0 ≤ b) (hbP : ¬ D.Pv b) (hB : D.B0 ≤ w.heap.size) (hl : D.len s ≤ 100000000) (hk : f.f2 = 1) (hts : f.f9.length ≤ 4) (hxs : f.f11.f1.length ≤ 64)
    (hX : (c_k1 D.c f s) = X) : Calls Tryz.prog 29 #[D.val, .pointer (some ⟨b, 0, none⟩)] w (StepP D b w (.bool true) X) := by
  have e1 : (f.f2 == 1) = true := by rw [hk]; rfl
  clear hk
  have eN := D.eN
  have eT := D.eT
  have eC := D.eC
  have eB := D.eB
  have hS : ∀ k, (D.Pv k ∨ k = b) → D.B0 ≤ k := fun k hk => hk.elim (D.pvB k) (fun h => h ▸ hb)
  have HX0 : Aside0 ((c_k1 D.c f s) = X) := ⟨hX⟩
  have HR := Aside0.mk hR
  have HF := Aside0.mk hF
  clear hR hF hX
  unfold Drv.val
  go_enter Tryz.func29, Tryz.ntmps29
  go_wp2_with (with_reducible refine is_box rfl ?_; refine Rg.stop_here ?_)
  refine ⟨?_⟩
  refine box_event rfl (N := 2) rfl (cs := #[.func (.func D.nf) #[] D.nc, .func (.func D.tf) #[] D.tc, .func (.func D.cf) #[] D.cc, .func (.func D.bf) #[] D.bc]) (t := 62) (by first | (go_simp; done) | (go_simp; rfl)) ?_
  intro p hp w1 hbx hb1
  have hpb : w.heap.size ≤ p := Nat.le_of_eq hp.symm
  have hpS : ¬ (D.Pv p ∨ p = b) := fun h => h.elim (fun h => by have := D.pvlt HR.out h; omega) (fun h => by have := FBk_lt HF.out; omega)
  have HBX1 := Aside0.mk hbx
  have HR1 := Aside0.mk (D.R_below HR.out hb1)
  have HF1 := Aside0.mk (FBk_below HF.out hb1)
  have HK1 := Aside0.mk (Kp.of_below (fun k => D.Pv k ∨ k = b) hb1)
  have HL1 : Aside0 (D.len s ≤ D.len s + 70000 * 1) := ⟨by omega⟩
  have HX1 := HX0
  clear hp hbx hb1 HX0 HR HF
  have c2 : w1.cell? ⟨b, 2, none⟩ = some (.int .i64 f.f2) := (FBc_f2 HF1.out).1
  go_upto_region 4 with fail
  clear c2 e1
  go_wp2_with (with_reducible refine is_loadC rfl ?_; refine Rg.stop_here ?_)
  refine ⟨?_⟩
  refine wpList_load_row rfl 62 _ rfl p rfl _ _ _ _ HBX1.out Tryz.underlying62 rfl codec_size ?_
  go_wp2_with (go_at_call 44; refine Rg.stop_here ?_)
  refine ⟨?_⟩
  refine (cw_rev D s w1 b f HR1.out HF1.out hb hbP (Nat.le_trans hB HK1.out.size) hl hts hxs).mono ?_
  intro e w2 h
  rw [HX1.out] at h
  cases X with
  | error er =>
    obtain ⟨rfl, hbe, hfb⟩ := h
    have hbt := HK1.out.step hbe
    go_wp2
    exact ⟨rfl, StepP_err hbt hfb⟩
  | ok q =>
  obtain ⟨f', s'⟩ := q
  obtain ⟨rfl, hR2, hF2, hk2⟩ := h
  have HK2 := Aside0.mk (HK1.out.step hk2)
  clear hk2
  go_wp2
  go_ret
  exact ⟨rfl, hR2, hF2, HK2.out⟩
set_option maxHeartbeats 4000000 in
set_option maxRecDepth 100000 in
theorem cw_f2 {σ : Type} (D : Drv σ) (s : σ) (w : World) (b : Nat) (f : Fa) (X : Except Int (Fa × σ)) (hR : D.R s w) (hF : FBk D.Pv w b f) (hb : D.B0 ≤ b) (hbP : ¬ D.Pv b) (hB : D.B0 ≤ w.heap.size) (hl : D.len s ≤ 100000000) (hk : f.f2 = 2)
    (hX : (cB (D.c.num f.f3 s) fun x3 s => cB (D.c.num f.f12 s) fun x12 s => .ok ({ f with f3 := x3, f12 := x12 }, s)) = X) : Calls Tryz.prog 29 #[D.val, .pointer (some ⟨b, 0, none⟩)] w (StepP D b w (.bool true) X) := by
  have e1 : (f.f2 == 1) = false := by rw [hk]; rfl
  have e2 : (f.f2 == 2) = true := by rw [hk]; rfl
  clear hk
  have eN := D.eN
  have eT := D.eT
  have eC := D.eC
  have eB := D.eB
  have hS : ∀ k, (D.Pv k ∨ k = b) → D.B0 ≤ k := fun k hk => hk.elim (D.pvB k) (fun h => h ▸ hb)
  have HX0 : Aside0 ((cB (D.c.num f.f3 s) fun x3 s => cB (D.c.num f.f12 s) fun x12 s => .ok ({ f with f3 := x3, f12 := x12 }, s)) = X) := ⟨hX⟩
  have HR := Aside0.mk hR
  have HF := Aside0.mk hF
  clear hR hF hX
  unfold Drv.val
  go_enter Tryz.func29, Tryz.ntmps29
  go_wp2_with (with_reducible refine is_box rfl ?_; refine Rg.stop_here ?_)
  refine ⟨?_⟩
  refine box_event rfl (N := 2) rfl (cs := #[.func (.func D.nf) #[] D.nc, .func (.func D.tf) #[] D.tc, .func (.func D.cf) #[] D.cc, .func (.func D.bf) #[] D.bc]) (t := 62) (by first | (go_simp; done) | (go_simp; rfl)) ?_
  intro p hp w1 hbx hb1
  have hpb : w.heap.size ≤ p := Nat.le_of_eq hp.symm
  have hpS : ¬ (D.Pv p ∨ p = b) := fun h => h.elim (fun h => by have := D.pvlt HR.out h; omega) (fun h => by have := FBk_lt HF.out; omega)
  have HBX1 := Aside0.mk hbx
  have HR1 := Aside0.mk (D.R_below HR.out hb1)
  have HF1 := Aside0.mk (FBk_below HF.out hb1)
  have HK1 := Aside0.mk (Kp.of_below (fun k => D.Pv k ∨ k = b) hb1)
  have HL1 : Aside0 (D.len s ≤ D.len s + 70000 * 1) := ⟨by omega⟩
  have HX1 := HX0
  clear hp hbx hb1 HX0 HR HF
  have c2 : w1.cell? ⟨b, 2, none⟩ = some (.int .i64 f.f2) := (FBc_f2 HF1.out).1
  replace HR1 := Aside0.mk (D.R_drew HR1.out)
  replace HF1 := Aside0.mk (FBk_drew HF1.out)
  replace HK1 := Aside0.mk (HK1.out.drewN 1)
  have z0 : w1.cell? ⟨p, 0, none⟩ = some (.func (.func D.nf) #[] D.nc) := bk_cell HBX1.out 0
  go_wp2_with fail
  refine rg_tail 5 (by kernel_rfl) (by kernel_rfl) ?_
  simp only [List.take_succ_cons, List.take_zero, List.drop_succ_cons, List.drop_zero]
  repeat still_step
  refine wpStill_nil ?_
  go_wp2_with fail
  refine (dr_f3 HR1.out HF1.out hb hbP (by have := HL1.out; omega)).mono ?_
  intro e w2 h
  cases hx : D.c.num f.f3 s with
  | error er =>
    rw [hx] at h
    obtain ⟨rfl, hbe, hfb⟩ := h
    have hX := HX1.out
    rw [cB_err hx] at hX
    subst hX
    have hbt := HK1.out.step hbe
    clear hx
    go_wp2
    exact ⟨rfl, StepP_err hbt hfb⟩
  | ok q =>
  obtain ⟨x2, s2⟩ := q
  rw [hx] at h
  obtain ⟨rfl, hR2, hF2, hk2⟩ := h
  have hX2 := HX1.out
  rw [cB_ok hx] at hX2
  have HX2 := Aside0.mk hX2
  have HL2 : Aside0 (D.len s2 ≤ D.len s + 70000 * 2) := ⟨by have h1_ := D.lN hx; have h2_ := HL1.out; omega⟩
  have HK2 := Aside0.mk (HK1.out.step hk2)
  have HR2 := Aside0.mk hR2
  have HF2 : Aside0 (FBk D.Pv w2 b { f with f3 := x2 }) := ⟨hF2⟩
  have HBX2 := Aside0.mk (blk_kept HBX1.out hk2.kept hpS)
  clear hx hX2 hk2 hR2 hF2 HX1 HK1 HR1 HF1 HBX1
  replace HR2 := Aside0.mk (D.R_drew HR2.out)
  replace HF2 := Aside0.mk (FBk_drew HF2.out)
  replace HK2 := Aside0.mk (HK2.out.drewN 1)
  have z0 : w2.cell? ⟨p, 0, none⟩ = some (.func (.func D.nf) #[] D.nc) := bk_cell HBX2.out 0
  go_wp2_with fail
  refine rg_tail 5 (by kernel_rfl) (by kernel_rfl) ?_
  simp only [List.take_succ_cons, List.take_zero, List.drop_succ_cons, List.drop_zero]
  repeat still_step
  refine wpStill_nil ?_
  go_wp2_with fail
  refine (dr_f12 HR2.out HF2.out hb hbP (by have := HL2.out; omega)).mono ?_
  intro e w3 h
  cases hx : D.c.num f.f12 s2 with
  | error er =>
    rw [hx] at h
    obtain ⟨rfl, hbe, hfb⟩ := h
    have hX := HX2.out
    rw [cB_err hx] at hX
    subst hX
    have hbt := HK2.out.step hbe
    clear hx
    go_wp2
    exact ⟨rfl, StepP_err hbt hfb⟩
  | ok q =>
  obtain ⟨x3, s3⟩ := q
  rw [hx] at h
  obtain ⟨rfl, hR3, hF3, hk3⟩ := h
  have hX3 := HX2.out
  rw [cB_ok hx] at hX3
  have HX3 := Aside0.mk hX3
  have HL3 : Aside0 (D.len s3 ≤ D.len s + 70000 * 3) := ⟨by have h1_ := D.lN hx; have h2_ := HL2.out; omega⟩
  have HK3 := Aside0.mk (HK2.out.step hk3)
  have HR3 := Aside0.mk hR3
  have HF3 : Aside0 (FBk D.Pv w3 b { f with f3 := x2, f12 := x3 }) := ⟨hF3⟩
  have HBX3 := Aside0.mk (blk_kept HBX2.out hk3.kept hpS)
  clear hx hX3 hk3 hR3 hF3 HX2 HK2 HR2 HF2 HBX2
  go_wp2
  go_ret
  have hX := HX3.out
  subst hX
  exact ⟨rfl, HR3.out, HF3.out, HK3.out⟩
set_option maxHeartbeats 4000000 in
set_option maxRecDepth 100000 in
theorem cw_f3 {σ : Type} (D : Drv σ) (s : σ) (w : World) (b : Nat) (f : Fa) (X : Except Int (Fa × σ)) (hR : D.R s w) (hF : FBk D.Pv w b f) (hb : D.B0 ≤ b) (hbP : ¬ D.Pv b) (hB : D.B0 ≤ w.heap.size) (hl : D.len s ≤ 100000000) (hk : f.f2 = 3) (hxs : f.f11.f1.length ≤ 64)
    (hX : (cB (D.c.num f.f3 s) fun x3 s => cB (c_label D.c f.f11 s) fun x11 s => .ok ({ f with f3 := x3, f11 := x11 }, s)) = X) : Calls Tryz.prog 29 #[D.val, .pointer (some ⟨b, 0, none⟩)] w (StepP D b w (.bool true) X) := by
  have e1 : (f.f2 == 1) = false := by rw [hk]; rfl
  have e2 : (f.f2 == 2) = false := by rw [hk]; rfl
  have e3 : (f.f2 == 3) = true := by rw [hk]; rfl
  clear hk
  have eN := D.eN
  have eT := D.eT
  have eC := D.eC
  have eB := D.eB
  have hS : ∀ k, (D.Pv k ∨ k = b) → D.B0 ≤ k := fun k hk => hk.elim (D.pvB k) (fun h => h ▸ hb)
  have HX0 : Aside0 ((cB (D.c.num f.f3 s) fun x3 s => cB (c_label D.c f.f11 s) fun x11 s => .ok ({ f with f3 := x3, f11 := x11 }, s)) = X) := ⟨hX⟩
  have HR := Aside0.mk hR
  have HF := Aside0.mk hF
  clear hR hF hX
  unfold Drv.val
  go_enter Tryz.func29, Tryz.ntmps29
  go_wp2_with (with_reducible refine is_box rfl ?_; refine Rg.stop_here ?_)
  refine ⟨?_⟩
  refine box_event rfl (N := 2) rfl (cs := #[.func (.func D.nf) #[] D.nc, .func (.func D.tf) #[] D.tc, .func (.func D.cf) #[] D.cc, .func (.func D.bf) #[] D.bc]) (t := 62) (by first | (go_simp; done) | (go_simp; rfl)) ?_
  intro p hp w1 hbx hb1
  have hpb : w.heap.size ≤ p := Nat.le_of_eq hp.symm
  have hpS : ¬ (D.Pv p ∨ p = b) := fun h => h.elim (fun h => by have := D.pvlt HR.out h; omega) (fun h => by have := FBk_lt HF.out; omega)
  have HBX1 := Aside0.mk hbx
  have HR1 := Aside0.mk (D.R_below HR.out hb1)
  have HF1 := Aside0.mk (FBk_below HF.out hb1)
  have HK1 := Aside0.mk (Kp.of_below (fun k => D.Pv k ∨ k = b) hb1)
  have HL1 : Aside0 (D.len s ≤ D.len s + 70000 * 1) := ⟨by omega⟩
  have HX1 := HX0
  clear hp hbx hb1 HX0 HR HF
  have c2 : w1.cell? ⟨b, 2, none⟩ = some (.int .i64 f.f2) := (FBc_f2 HF1.out).1
  replace HR1 := Aside0.mk (D.R_drew HR1.out)
  replace HF1 := Aside0.mk (FBk_drew HF1.out)
  replace HK1 := Aside0.mk (HK1.out.drewN 1)
  have z0 : w1.cell? ⟨p, 0, none⟩ = some (.func (.func D.nf) #[] D.nc) := bk_cell HBX1.out 0
  go_wp2_with fail
  refine rg_tail 5 (by kernel_rfl) (by kernel_rfl) ?_
  simp only [List.take_succ_cons, List.take_zero, List.drop_succ_cons, List.drop_zero]
  repeat still_step
  refine wpStill_nil ?_
  go_wp2_with fail
  refine (dr_f3 HR1.out HF1.out hb hbP (by have := HL1.out; omega)).mono ?_
  intro e w2 h
  cases hx : D.c.num f.f3 s with
  | error er =>
    rw [hx] at h
    obtain ⟨rfl, hbe, hfb⟩ := h
    have hX := HX1.out
    rw [cB_err hx] at hX
    subst hX
    have hbt := HK1.out.step hbe
    clear hx
    go_wp2
    exact ⟨rfl, StepP_err hbt hfb⟩
  | ok q =>
  obtain ⟨x2, s2⟩ := q
  rw [hx] at h
  obtain ⟨rfl, hR2, hF2, hk2⟩ := h
  have hX2 := HX1.out
  rw [cB_ok hx] at hX2
  have HX2 := Aside0.mk hX2
  have HL2 : Aside0 (D.len s2 ≤ D.len s + 70000 * 2) := ⟨by have h1_ := D.lN hx; have h2_ := HL1.out; omega⟩
  have HK2 := Aside0.mk (HK1.out.step hk2)
  have HR2 := Aside0.mk hR2
  have HF2 : Aside0 (FBk D.Pv w2 b { f with f3 := x2 }) := ⟨hF2⟩
  have HBX2 := Aside0.mk (blk_kept HBX1.out hk2.kept hpS)
  clear hx hX2 hk2 hR2 hF2 HX1 HK1 HR1 HF1 HBX1
  replace HR2 := Aside0.mk (D.R_drew HR2.out)
  replace HF2 := Aside0.mk (FBk_drew HF2.out)
  replace HK2 := Aside0.mk (HK2.out.drewN 1)
  go_wp2_with fail
  refine rg_tail 4 (by kernel_rfl) (by kernel_rfl) ?_
  simp only [List.take_succ_cons, List.take_zero, List.drop_succ_cons, List.drop_zero]
  refine ws_load_row rfl rfl p rfl 62 _ (0, 0) _ HBX2.out Tryz.underlying62 rfl codec_size ?_
  repeat still_step
  refine wpStill_nil ?_
  go_wp2_with fail
  refine (cw_label D s2 w2.drew b _ HR2.out HF2.out hb hbP (Nat.le_trans hB HK2.out.size) (by have := HL2.out; omega) hxs).mono ?_
  intro e w3 h
  cases hx : c_label D.c f.f11 s2 with
  | error er =>
    rw [hx] at h
    obtain ⟨rfl, hbe, hfb⟩ := h
    have hX := HX2.out
    rw [cB_err hx] at hX
    subst hX
    have hbt := HK2.out.step hbe
    clear hx
    go_wp2
    exact ⟨rfl, StepP_err hbt hfb⟩
  | ok q =>
  obtain ⟨x3, s3⟩ := q
  rw [hx] at h
  obtain ⟨rfl, hR3, hF3, hk3⟩ := h
  have hX3 := HX2.out
  rw [cB_ok hx] at hX3
  have HX3 := Aside0.mk hX3
  skip
  have HK3 := Aside0.mk (HK2.out.step hk3)
  have HR3 := Aside0.mk hR3
  have HF3 : Aside0 (FBk D.Pv w3 b { f with f3 := x2, f11 := x3 }) := ⟨hF3⟩
  have HBX3 := Aside0.mk (blk_kept HBX2.out hk3.kept hpS)
  clear hx hX3 hk3 hR3 hF3 HX2 HK2 HR2 HF2 HBX2
  go_wp2
  go_ret
  have hX := HX3.out
  subst hX
  exact ⟨rfl, HR3.out, HF3.out, HK3.out⟩
set_option maxHeartbeats 4000000 in
set_option maxRecDepth 100000 in
theorem cw_f4 {σ : Type} (D : Drv σ) (s : σ) (w : World) (b : Nat) (f : Fa) (X : Except Int (Fa × σ)) (hR : D.R s w) (hF : FBk D.Pv w b f) (hb : D.B0 ≤ b) (hbP : ¬ D.Pv b) (hB : D.B0 ≤ w.heap.size) (hl : D.len s ≤ 100000000) (hk : f.f2 = 4)
    (hX : (cB (D.c.num f.f3 s) fun x3 s => cB (D.c.txt f.f4 s) fun x4 s => cB (D.c.num f.f13 s) fun x13 s => cB (D.c.num f.f14 s) fun x14 s => cB (D.c.txt f.f15 s) fun x15 s => .ok ({ f with f3 := x3, f4 := x4, f13 := x13, f14 := x14, f15 := x15 }, s)) = X) : Calls Tryz.prog 29 #[D.val, .pointer (some ⟨b, 0, none⟩)] w (StepP D b w (.bool true) X) := by
  have e1 : (f.f2 == 1) = false := by rw [hk]; rfl
  have e2 : (f.f2 == 2) = false := by rw [hk]; rfl
  have e3 : (f.f2 == 3) = false := by rw [hk]; rfl
  have e4 : (f.f2 == 4) = true := by rw [hk]; rfl
  clear hk
  have eN := D.eN
  have eT := D.eT
  have eC := D.eC
  have eB := D.eB
  have hS : ∀ k, (D.Pv k ∨ k = b) → D.B0 ≤ k := fun k hk => hk.elim (D.pvB k) (fun h => h ▸ hb)
  have HX0 : Aside0 ((cB (D.c.num f.f3 s) fun x3 s => cB (D.c.txt f.f4 s) fun x4 s => cB (D.c.num f.f13 s) fun x13 s => cB (D.c.num f.f14 s) fun x14 s => cB (D.c.txt f.f15 s) fun x15 s => .ok ({ f with f3 := x3, f4 := x4, f13 := x13, f14 := x14, f15 := x15 }, s)) = X) := ⟨hX⟩
  have HR := Aside0.mk hR
  have HF := Aside0.mk hF
  clear hR hF hX
  unfold Drv.val
  go_enter Tryz.func29, Tryz.ntmps29
  go_wp2_with (with_reducible refine is_box rfl ?_; refine Rg.stop_here ?_)
  refine ⟨?_⟩
  refine box_event rfl (N := 2) rfl (cs := #[.func (.func D.nf) #[] D.nc, .func (.func D.tf) #[] D.tc, .func (.func D.cf) #[] D.cc, .func (.func D.bf) #[] D.bc]) (t := 62) (by first | (go_simp; done) | (go_simp; rfl)) ?_
  intro p hp w1 hbx hb1
  have hpb : w.heap.size ≤ p := Nat.le_of_eq hp.symm
  have hpS : ¬ (D.Pv p ∨ p = b) := fun h => h.elim (fun h => by have := D.pvlt HR.out h; omega) (fun h => by have := FBk_lt HF.out; omega)
  have HBX1 := Aside0.mk hbx
  have HR1 := Aside0.mk (D.R_below HR.out hb1)
  have HF1 := Aside0.mk (FBk_below HF.out hb1)
  have HK1 := Aside0.mk (Kp.of_below (fun k => D.Pv k ∨ k = b) hb1)
  have HL1 : Aside0 (D.len s ≤ D.len s + 70000 * 1) := ⟨by omega⟩
  have HX1 := HX0
  clear hp hbx hb1 HX0 HR HF
  have c2 : w1.cell? ⟨b, 2, none⟩ = some (.int .i64 f.f2) := (FBc_f2 HF1.out).1
  replace HR1 := Aside0.mk (D.R_drew HR1.out)
  replace HF1 := Aside0.mk (FBk_drew HF1.out)
  replace HK1 := Aside0.mk (HK1.out.drewN 1)
  have z0 : w1.cell? ⟨p, 0, none⟩ = some (.func (.func D.nf) #[] D.nc) := bk_cell HBX1.out 0
  go_wp2_with fail
  refine rg_tail 5 (by kernel_rfl) (by kernel_rfl) ?_
  simp only [List.take_succ_cons, List.take_zero, List.drop_succ_cons, List.drop_zero]
  repeat still_step
  refine wpStill_nil ?_
  go_wp2_with fail
  refine (dr_f3 HR1.out HF1.out hb hbP (by have := HL1.out; omega)).mono ?_
  intro e w2 h
  cases hx : D.c.num f.f3 s with
  | error er =>
    rw [hx] at h
    obtain ⟨rfl, hbe, hfb⟩ := h
    have hX := HX1.out
    rw [cB_err hx] at hX
    subst hX
    have hbt := HK1.out.step hbe
    clear hx
    go_wp2
    exact ⟨rfl, StepP_err hbt hfb⟩
  | ok q =>
  obtain ⟨x2, s2⟩ := q
  rw [hx] at h
  obtain ⟨rfl, hR2, hF2, hk2⟩ := h
  have hX2 := HX1.out
  rw [cB_ok hx] at hX2
  have HX2 := Aside0.mk hX2
  have HL2 : Aside0 (D.len s2 ≤ D.len s + 70000 * 2) := ⟨by have h1_ := D.lN hx; have h2_ := HL1.out; omega⟩
  have HK2 := Aside0.mk (HK1.out.step hk2)
  have HR2 := Aside0.mk hR2
  have HF2 : Aside0 (FBk D.Pv w2 b { f with f3 := x2 }) := ⟨hF2⟩
  have HBX2 := Aside0.mk (blk_kept HBX1.out hk2.kept hpS)
  clear hx hX2 hk2 hR2 hF2 HX1 HK1 HR1 HF1 HBX1
  replace HR2 := Aside0.mk (D.R_drew HR2.out)
  replace HF2 := Aside0.mk (FBk_drew HF2.out)
  replace HK2 := Aside0.mk (HK2.out.drewN 1)
  have z1 : w2.cell? ⟨p, 1, none⟩ = some (.func (.func D.tf) #[] D.tc) := bk_cell HBX2.out 1
  go_wp2_with fail
  refine rg_tail 5 (by kernel_rfl) (by kernel_rfl) ?_
  simp only [List.take_succ_cons, List.take_zero, List.drop_succ_cons, List.drop_zero]
  repeat still_step
  refine wpStill_nil ?_
  go_wp2_with fail
  refine (dr_f4 HR2.out HF2.out hb hbP (by have := HL2.out; omega)).mono ?_
  intro e w3 h
  cases hx : D.c.txt f.f4 s2 with
  | error er =>
    rw [hx] at h
    obtain ⟨rfl, hbe, hfb⟩ := h
    have hX := HX2.out
    rw [cB_err hx] at hX
    subst hX
    have hbt := HK2.out.step hbe
    clear hx
    go_wp2
    exact ⟨rfl, StepP_err hbt hfb⟩
  | ok q =>
  obtain ⟨x3, s3⟩ := q
  rw [hx] at h
  obtain ⟨rfl, hR3, hF3, hk3⟩ := h
  have hX3 := HX2.out
  rw [cB_ok hx] at hX3
  have HX3 := Aside0.mk hX3
  have HL3 : Aside0 (D.len s3 ≤ D.len s + 70000 * 3) := ⟨by have h1_ := D.lT hx; have h2_ := HL2.out; omega⟩
  have HK3 := Aside0.mk (HK2.out.step hk3)
  have HR3 := Aside0.mk hR3
  have HF3 : Aside0 (FBk D.Pv w3 b { f with f3 := x2, f4 := x3 }) := ⟨hF3⟩
  have HBX3 := Aside0.mk (blk_kept HBX2.out hk3.kept hpS)
  clear hx hX3 hk3 hR3 hF3 HX2 HK2 HR2 HF2 HBX2
  replace HR3 := Aside0.mk (D.R_drew HR3.out)
  replace HF3 := Aside0.mk (FBk_drew HF3.out)
  replace HK3 := Aside0.mk (HK3.out.drewN 1)
  have z0 : w3.cell? ⟨p, 0, none⟩ = some (.func (.func D.nf) #[] D.nc) := bk_cell HBX3.out 0
  go_wp2_with fail
  refine rg_tail 5 (by kernel_rfl) (by kernel_rfl) ?_
  simp only [List.take_succ_cons, List.take_zero, List.drop_succ_cons, List.drop_zero]
  repeat still_step
  refine wpStill_nil ?_
  go_wp2_with fail
  refine (dr_f13 HR3.out HF3.out hb hbP (by have := HL3.out; omega)).mono ?_
  intro e w4 h
  cases hx : D.c.num f.f13 s3 with
  | error er =>
    rw [hx] at h
    obtain ⟨rfl, hbe, hfb⟩ := h
    have hX := HX3.out
    rw [cB_err hx] at hX
    subst hX
    have hbt := HK3.out.step hbe
    clear hx
    go_wp2
    exact ⟨rfl, StepP_err hbt hfb⟩
  | ok q =>
  obtain ⟨x4, s4⟩ := q
  rw [hx] at h
  obtain ⟨rfl, hR4, hF4, hk4⟩ := h
  have hX4 := HX3.out
  rw [cB_ok hx] at hX4
  have HX4 := Aside0.mk hX4
  have HL4 : Aside0 (D.len s4 ≤ D.len s + 70000 * 4) := ⟨by have h1_ := D.lN hx; have h2_ := HL3.out; omega⟩
  have HK4 := Aside0.mk (HK3.out.step hk4)
  have HR4 := Aside0.mk hR4
  have HF4 : Aside0 (FBk D.Pv w4 b { f with f3 := x2, f4 := x3, f13 := x4 }) := ⟨hF4⟩
  have HBX4 := Aside0.mk (blk_kept HBX3.out hk4.kept hpS)
  clear hx hX4 hk4 hR4 hF4 HX3 HK3 HR3 HF3 HBX3
  replace HR4 := Aside0.mk (D.R_drew HR4.out)
  replace HF4 := Aside0.mk (FBk_drew HF4.out)
  replace HK4 := Aside0.mk (HK4.out.drewN 1)
  have z0 : w4.cell? ⟨p, 0, none⟩ = some (.func (.func D.nf) #[] D.nc) := bk_cell HBX4.out 0
  go_wp2_with fail
  refine rg_tail 5 (by kernel_rfl) (by kernel_rfl) ?_
  simp only [List.take_succ_cons, List.take_zero, List.drop_succ_cons, List.drop_zero]
  repeat still_step
  refine wpStill_nil ?_
  go_wp2_with fail
  refine (dr_f14 HR4.out HF4.out hb hbP (by have := HL4.out; omega)).mono ?_
  intro e w5 h
  cases hx : D.c.num f.f14 s4 with
  | error er =>
    rw [hx] at h
    obtain ⟨rfl, hbe, hfb⟩ := h
    have hX := HX4.out
    rw [cB_err hx] at hX
    subst hX
    have hbt := HK4.out.step hbe
    clear hx
    go_wp2
    exact ⟨rfl, StepP_err hbt hfb⟩
  | ok q =>
  obtain ⟨x5, s5⟩ := q
  rw [hx] at h
  obtain ⟨rfl, hR5, hF5, hk5⟩ := h
  have hX5 := HX4.out
  rw [cB_ok hx] at hX5
  have HX5 := Aside0.mk hX5
  have HL5 : Aside0 (D.len s5 ≤ D.len s + 70000 * 5) := ⟨by have h1_ := D.lN hx; have h2_ := HL4.out; omega⟩
  have HK5 := Aside0.mk (HK4.out.step hk5)
  have HR5 := Aside0.mk hR5
  have HF5 : Aside0 (FBk D.Pv w5 b { f with f3 := x2, f4 := x3, f13 := x4, f14 := x5 }) := ⟨hF5⟩
  have HBX5 := Aside0.mk (blk_kept HBX4.out hk5.kept hpS)
  clear hx hX5 hk5 hR5 hF5 HX4 HK4 HR4 HF4 HBX4
  replace HR5 := Aside0.mk (D.R_drew HR5.out)
  replace HF5 := Aside0.mk (FBk_drew HF5.out)
  replace HK5 := Aside0.mk (HK5.out.drewN 1)
  have z1 : w5.cell? ⟨p, 1, none⟩ = some (.func (.func D.tf) #[] D.tc) := bk_cell HBX5.out 1
  go_wp2_with fail
  refine rg_tail 5 (by kernel_rfl) (by kernel_rfl) ?_
  simp only [List.take_succ_cons, List.take_zero, List.drop_succ_cons, List.drop_zero]
  repeat still_step
  refine wpStill_nil ?_
  go_wp2_with fail
  refine (dr_f15 HR5.out HF5.out hb hbP (by have := HL5.out; omega)).mono ?_
  intro e w6 h
  cases hx : D.c.txt f.f15 s5 with
  | error er =>
    rw [hx] at h
    obtain ⟨rfl, hbe, hfb⟩ := h
    have hX := HX5.out
    rw [cB_err hx] at hX
    subst hX
    have hbt := HK5.out.step hbe
    clear hx
    go_wp2
    exact ⟨rfl, StepP_err hbt hfb⟩
  | ok q =>
  obtain ⟨x6, s6⟩ := q
  rw [hx] at h
  obtain ⟨rfl, hR6, hF6, hk6⟩ := h
  have hX6 := HX5.out
  rw [cB_ok hx] at hX6
  have HX6 := Aside0.mk hX6
  have HL6 : Aside0 (D.len s6 ≤ D.len s + 70000 * 6) := ⟨by have h1_ := D.lT hx; have h2_ := HL5.out; omega⟩
  have HK6 := Aside0.mk (HK5.out.step hk6)
  have HR6 := Aside0.mk hR6
  have HF6 : Aside0 (FBk D.Pv w6 b { f with f3 := x2, f4 := x3, f13 := x4, f14 := x5, f15 := x6 }) := ⟨hF6⟩
  have HBX6 := Aside0.mk (blk_kept HBX5.out hk6.kept hpS)
  clear hx hX6 hk6 hR6 hF6 HX5 HK5 HR5 HF5 HBX5
  go_wp2
  go_ret
  have hX := HX6.out
  subst hX
  exact ⟨rfl, HR6.out, HF6.out, HK6.out⟩
set_option maxHeartbeats 4000000 in
set_option maxRecDepth 100000 in
theorem cw_f5 {σ : Type} (D : Drv σ) (s : σ) (w : World) (b : Nat) (f : Fa) (X : Except Int (Fa × σ)) (hR : D.R s w) (hF : FBk D.Pv w b f) (hb : D.B0 ≤ b) (hbP : ¬ D.Pv b) (hB : D.B0 ≤ w.heap.size) (hl : D.len s ≤ 100000000) (hk : f.f2 = 5)
    (hX : (cB (D.c.num f.f3 s) fun x3 s => cB (D.c.txt f.f15 s) fun x15 s => .ok ({ f with f3 := x3, f15 := x15 }, s)) = X) : Calls Tryz.prog 29 #[D.val, .pointer (some ⟨b, 0, none⟩)] w (StepP D b w (.bool true) X) := by
  have e1 : (f.f2 == 1) = false := by rw [hk]; rfl
  have e2 : (f.f2 == 2) = false := by rw [hk]; rfl
  have e3 : (f.f2 == 3) = false := by rw [hk]; rfl
  have e4 : (f.f2 == 4) = false := by rw [hk]; rfl
  have e5 : (f.f2 == 5) = true := by rw [hk]; rfl
  clear hk
  have eN := D.eN
  have eT := D.eT
  have eC := D.eC
  have eB := D.eB
  have hS : ∀ k, (D.Pv k ∨ k = b) → D.B0 ≤ k := fun k hk => hk.elim (D.pvB k) (fun h => h ▸ hb)
  have HX0 : Aside0 ((cB (D.c.num f.f3 s) fun x3 s => cB (D.c.txt f.f15 s) fun x15 s => .ok ({ f with f3 := x3, f15 := x15 }, s)) = X) := ⟨hX⟩
  have HR := Aside0.mk hR
  have HF := Aside0.mk hF
  clear hR hF hX
  unfold Drv.val
  go_enter Tryz.func29, Tryz.ntmps29
  go_wp2_with (with_reducible refine is_box rfl ?_; refine Rg.stop_here ?_)
  refine ⟨?_⟩
  refine box_event rfl (N := 2) rfl (cs := #[.func (.func D.nf) #[] D.nc, .func (.func D.tf) #[] D.tc, .func (.func D.cf) #[] D.cc, .func (.func D.bf) #[] D.bc]) (t := 62) (by first | (go_simp; done) | (go_simp; rfl)) ?_
  intro p hp w1 hbx hb1
  have hpb : w.heap.size ≤ p := Nat.le_of_eq hp.symm
  have hpS : ¬ (D.Pv p ∨ p = b) := fun h => h.elim (fun h => by have := D.pvlt HR.out h; omega) (fun h => by have := FBk_lt HF.out; omega)
  have HBX1 := Aside0.mk hbx
  have HR1 := Aside0.mk (D.R_below HR.out hb1)
  have HF1 := Aside0.mk (FBk_below HF.out hb1)
  have HK1 := Aside0.mk (Kp.of_below (fun k => D.Pv k ∨ k = b) hb1)
  have HL1 : Aside0 (D.len s ≤ D.len s + 70000 * 1) := ⟨by omega⟩
  have HX1 := HX0
  clear hp hbx hb1 HX0 HR HF
  have c2 : w1.cell? ⟨b, 2, none⟩ = some (.int .i64 f.f2) := (FBc_f2 HF1.out).1
  replace HR1 := Aside0.mk (D.R_drew HR1.out)
  replace HF1 := Aside0.mk (FBk_drew HF1.out)
  replace HK1 := Aside0.mk (HK1.out.drewN 1)
  have z0 : w1.cell? ⟨p, 0, none⟩ = some (.func (.func D.nf) #[] D.nc) := bk_cell HBX1.out 0
  go_wp2_with fail
  refine rg_tail 5 (by kernel_rfl) (by kernel_rfl) ?_
  simp only [List.take_succ_cons, List.take_zero, List.drop_succ_cons, List.drop_zero]
  repeat still_step
  refine wpStill_nil ?_
  go_wp2_with fail
  refine (dr_f3 HR1.out HF1.out hb hbP (by have := HL1.out; omega)).mono ?_
  intro e w2 h
  cases hx : D.c.num f.f3 s with
  | error er =>
    rw [hx] at h
    obtain ⟨rfl, hbe, hfb⟩ := h
    have hX := HX1.out
    rw [cB_err hx] at hX
    subst hX
    have hbt := HK1.out.step hbe
    clear hx
    go_wp2
    exact ⟨rfl, StepP_err hbt hfb⟩
  | ok q =>
  obtain ⟨x2, s2⟩ := q
  rw [hx] at h
  obtain ⟨rfl, hR2, hF2, hk2⟩ := h
  have hX2 := HX1.out
  rw [cB_ok hx] at hX2
  have HX2 := Aside0.mk hX2
  have HL2 : Aside0 (D.len s2 ≤ D.len s + 70000 * 2) := ⟨by have h1_ := D.lN hx; have h2_ := HL1.out; omega⟩
  have HK2 := Aside0.mk (HK1.out.step hk2)
  have HR2 := Aside0.mk hR2
  have HF2 : Aside0 (FBk D.Pv w2 b { f with f3 := x2 }) := ⟨hF2⟩
  have HBX2 := Aside0.mk (blk_kept HBX1.out hk2.kept hpS)
  clear hx hX2 hk2 hR2 hF2 HX1 HK1 HR1 HF1 HBX1
  replace HR2 := Aside0.mk (D.R_drew HR2.out)
  replace HF2 := Aside0.mk (FBk_drew HF2.out)
  replace HK2 := Aside0.mk (HK2.out.drewN 1)
  have z1 : w2.cell? ⟨p, 1, none⟩ = some (.func (.func D.tf) #[] D.tc) := bk_cell HBX2.out 1
  go_wp2_with fail
  refine rg_tail 5 (by kernel_rfl) (by kernel_rfl) ?_
  simp only [List.take_succ_cons, List.take_zero, List.drop_succ_cons, List.drop_zero]
  repeat still_step
  refine wpStill_nil ?_
  go_wp2_with fail
  refine (dr_f15 HR2.out HF2.out hb hbP (by have := HL2.out; omega)).mono ?_
  intro e w3 h
  cases hx : D.c.txt f.f15 s2 with
  | error er =>
    rw [hx] at h
    obtain ⟨rfl, hbe, hfb⟩ := h
    have hX := HX2.out
    rw [cB_err hx] at hX
    subst hX
    have hbt := HK2.out.step hbe
    clear hx
    go_wp2
    exact ⟨rfl, StepP_err hbt hfb⟩
  | ok q =>
  obtain ⟨x3, s3⟩ := q
  rw [hx] at h
  obtain ⟨rfl, hR3, hF3, hk3⟩ := h
  have hX3 := HX2.out
  rw [cB_ok hx] at hX3
  have HX3 := Aside0.mk hX3
  have HL3 : Aside0 (D.len s3 ≤ D.len s + 70000 * 3) := ⟨by have h1_ := D.lT hx; have h2_ := HL2.out; omega⟩
  have HK3 := Aside0.mk (HK2.out.step hk3)
  have HR3 := Aside0.mk hR3
  have HF3 : Aside0 (FBk D.Pv w3 b { f with f3 := x2, f15 := x3 }) := ⟨hF3⟩
  have HBX3 := Aside0.mk (blk_kept HBX2.out hk3.kept hpS)
  clear hx hX3 hk3 hR3 hF3 HX2 HK2 HR2 HF2 HBX2
  go_wp2
  go_ret
  have hX := HX3.out
  subst hX
  exact ⟨rfl, HR3.out, HF3.out, HK3.out⟩
set_option maxHeartbeats 4000000 in
set_option maxRecDepth 100000 in
theorem cw_f6 {σ : Type} (D : Drv σ) (s : σ) (w : World) (b : Nat) (f : Fa) (X : Except Int (Fa × σ)) (hR : D.R s w) (hF : FBk D.Pv w b f) (hb : D.B0 ≤ b) (hbP : ¬ D.Pv b) (hB : D.B0 ≤ w.heap.size) (hl : D.len s ≤ 100000000) (hk : f.f2 = 6)
    (hX : (cB (D.c.num f.f3 s) fun x3 s => .ok ({ f with f3 := x3 }, s)) = X) : Calls Tryz.prog 29 #[D.val, .pointer (some ⟨b, 0, none⟩)] w (StepP D b w (.bool true) X) := by
  have e1 : (f.f2 == 1) = false := by rw [hk]; rfl
  have e2 : (f.f2 == 2) = false := by rw [hk]; rfl
  have e3 : (f.f2 == 3) = false := by rw [hk]; rfl
  have e4 : (f.f2 == 4) = false := by rw [hk]; rfl
  have e5 : (f.f2 == 5) = false := by rw [hk]; rfl
  have e6 : (f.f2 == 6) = true := by rw [hk]; rfl
  clear hk
  have eN := D.eN
  have eT := D.eT
  have eC := D.eC
  have eB := D.eB
  have hS : ∀ k, (D.Pv k ∨ k = b) → D.B0 ≤ k := fun k hk => hk.elim (D.pvB k) (fun h => h ▸ hb)
  have HX0 : Aside0 ((cB (D.c.num f.f3 s) fun x3 s => .ok ({ f with f3 := x3 }, s)) = X) := ⟨hX⟩
  have HR := Aside0.mk hR
  have HF := Aside0.mk hF
  clear hR hF hX
  unfold Drv.val
  go_enter Tryz.func29, Tryz.ntmps29
  go_wp2_with (with_reducible refine is_box rfl ?_; refine Rg.stop_here ?_)
  refine ⟨?_⟩
  refine box_event rfl (N := 2) rfl (cs := #[.func (.func D.nf) #[] D.nc, .func (.func D.tf) #[] D.tc, .func (.func D.cf) #[] D.cc, .func (.func D.bf) #[] D.bc]) (t := 62) (by first | (go_simp; done) | (go_simp; rfl)) ?_
  intro p hp w1 hbx hb1
  have hpb : w.heap.size ≤ p := Nat.le_of_eq hp.symm
  have hpS : ¬ (D.Pv p ∨ p = b) := fun h => h.elim (fun h => by have := D.pvlt HR.out h; omega) (fun h => by have := FBk_lt HF.out; omega)
  have HBX1 := Aside0.mk hbx
  have HR1 := Aside0.mk (D.R_below HR.out hb1)
  have HF1 := Aside0.mk (FBk_below HF.out hb1)
  have HK1 := Aside0.mk (Kp.of_below (fun k => D.Pv k ∨ k = b) hb1)
  have HL1 : Aside0 (D.len s ≤ D.len s + 70000 * 1) := ⟨by omega⟩
  have HX1 := HX0
  clear hp hbx hb1 HX0 HR HF
  have c2 : w1.cell? ⟨b, 2, none⟩ = some (.int .i64 f.f2) := (FBc_f2 HF1.out).1
  replace HR1 := Aside0.mk (D.R_drew HR1.out)
  replace HF1 := Aside0.mk (FBk_drew HF1.out)
  replace HK1 := Aside0.mk (HK1.out.drewN 1)
  have z0 : w1.cell? ⟨p, 0, none⟩ = some (.func (.func D.nf) #[] D.nc) := bk_cell HBX1.out 0
  go_wp2_with fail
  refine rg_tail 5 (by kernel_rfl) (by kernel_rfl) ?_
  simp only [List.take_succ_cons, List.take_zero, List.drop_succ_cons, List.drop_zero]
  repeat still_step
  refine wpStill_nil ?_
  go_wp2_with fail
  refine (dr_f3 HR1.out HF1.out hb hbP (by have := HL1.out; omega)).mono ?_
  intro e w2 h
  cases hx : D.c.num f.f3 s with
  | error er =>
    rw [hx] at h
    obtain ⟨rfl, hbe, hfb⟩ := h
    have hX := HX1.out
    rw [cB_err hx] at hX
    subst hX
    have hbt := HK1.out.step hbe
    clear hx
    go_wp2
    exact ⟨rfl, StepP_err hbt hfb⟩
  | ok q =>
  obtain ⟨x2, s2⟩ := q
  rw [hx] at h
  obtain ⟨rfl, hR2, hF2, hk2⟩ := h
  have hX2 := HX1.out
  rw [cB_ok hx] at hX2
  have HX2 := Aside0.mk hX2
  have HL2 : Aside0 (D.len s2 ≤ D.len s + 70000 * 2) := ⟨by have h1_ := D.lN hx; have h2_ := HL1.out; omega⟩
  have HK2 := Aside0.mk (HK1.out.step hk2)
  have HR2 := Aside0.mk hR2
  have HF2 : Aside0 (FBk D.Pv w2 b { f with f3 := x2 }) := ⟨hF2⟩
  have HBX2 := Aside0.mk (blk_kept HBX1.out hk2.kept hpS)
  clear hx hX2 hk2 hR2 hF2 HX1 HK1 HR1 HF1 HBX1
  go_wp2
  go_ret
  have hX := HX2.out
  subst hX
  exact ⟨rfl, HR2.out, HF2.out, HK2.out⟩
set_option maxHeartbeats 4000000 in
set_option maxRecDepth 100000 in
theorem cw_f10 {σ : Type} (D : Drv σ) (s : σ) (w : World) (b : Nat) (f : Fa) (X : Except Int (Fa × σ)) (hR : D.R s w) (hF : FBk D.Pv w b f) (hb : D.B0 ≤ b) (hbP : ¬ D.Pv b) (hB : D.B0 ≤ w.heap.size) (hl : D.len s ≤ 100000000) (hk : f.f2 = 10)
    (hX : (cB (D.c.num f.f3 s) fun x3 s => .ok ({ f with f3 := x3 }, s)) = X) : Calls Tryz.prog 29 #[D.val, .pointer (some ⟨b, 0, none⟩)] w (StepP D b w (.bool true) X) := by
  have e1 : (f.f2 == 1) = false := by rw [hk]; rfl
  have e2 : (f.f2 == 2) = false := by rw [hk]; rfl
  have e3 : (f.f2 == 3) = false := by rw [hk]; rfl
  have e4 : (f.f2 == 4) = false := by rw [hk]; rfl
  have e5 : (f.f2 == 5) = false := by rw [hk]; rfl
  have e6 : (f.f2 == 6) = false := by rw [hk]; rfl
  have e10 : (f.f2 == 10) = true := by rw [hk]; rfl
  clear hk
  have eN := D.eN
  have eT := D.eT
  have eC := D.eC
  have eB := D.eB
  have hS : ∀ k, (D.Pv k ∨ k = b) → D.B0 ≤ k := fun k hk => hk.elim (D.pvB k) (fun h => h ▸ hb)
  have HX0 : Aside0 ((cB (D.c.num f.f3 s) fun x3 s => .ok ({ f with f3 := x3 }, s)) = X) := ⟨hX⟩
  have HR := Aside0.mk hR
  have HF := Aside0.mk hF
  clear hR hF hX
  unfold Drv.val
  go_enter Tryz.func29, Tryz.ntmps29
  go_wp2_with (with_reducible refine is_box rfl ?_; refine Rg.stop_here ?_)
  refine ⟨?_⟩
  refine box_event rfl (N := 2) rfl (cs := #[.func (.func D.nf) #[] D.nc, .func (.func D.tf) #[] D.tc, .func (.func D.cf) #[] D.cc, .func (.func D.bf) #[] D.bc]) (t := 62) (by first | (go_simp; done) | (go_simp; rfl)) ?_
  intro p hp w1 hbx hb1
  have hpb : w.heap.size ≤ p := Nat.le_of_eq hp.symm
  have hpS : ¬ (D.Pv p ∨ p = b) := fun h => h.elim (fun h => by have := D.pvlt HR.out h; omega) (fun h => by have := FBk_lt HF.out; omega)
  have HBX1 := Aside0.mk hbx
  have HR1 := Aside0.mk (D.R_below HR.out hb1)
  have HF1 := Aside0.mk (FBk_below HF.out hb1)
  have HK1 := Aside0.mk (Kp.of_below (fun k => D.Pv k ∨ k = b) hb1)
  have HL1 : Aside0 (D.len s ≤ D.len s + 70000 * 1) := ⟨by omega⟩
  have HX1 := HX0
  clear hp hbx hb1 HX0 HR HF
  have c2 : w1.cell? ⟨b, 2, none⟩ = some (.int .i64 f.f2) := (FBc_f2 HF1.out).1
  replace HR1 := Aside0.mk (D.R_drew HR1.out)
  replace HF1 := Aside0.mk (FBk_drew HF1.out)
  replace HK1 := Aside0.mk (HK1.out.drewN 1)
  have z0 : w1.cell? ⟨p, 0, none⟩ = some (.func (.func D.nf) #[] D.nc) := bk_cell HBX1.out 0
  go_wp2_with fail
  refine rg_tail 5 (by kernel_rfl) (by kernel_rfl) ?_
  simp only [List.take_succ_cons, List.take_zero, List.drop_succ_cons, List.drop_zero]
  repeat still_step
  refine wpStill_nil ?_
  go_wp2_with fail
  refine (dr_f3 HR1.out HF1.out hb hbP (by have := HL1.out; omega)).mono ?_
  intro e w2 h
  cases hx : D.c.num f.f3 s with
  | error er =>
    rw [hx] at h
    obtain ⟨rfl, hbe, hfb⟩ := h
    have hX := HX1.out
    rw [cB_err hx] at hX
    subst hX
    have hbt := HK1.out.step hbe
    clear hx
    go_wp2
    exact ⟨rfl, StepP_err hbt hfb⟩
  | ok q =>
  obtain ⟨x2, s2⟩ := q
  rw [hx] at h
  obtain ⟨rfl, hR2, hF2, hk2⟩ := h
  have hX2 := HX1.out
  rw [cB_ok hx] at hX2
  have HX2 := Aside0.mk hX2
  have HL2 : Aside0 (D.len s2 ≤ D.len s + 70000 * 2) := ⟨by have h1_ := D.lN hx; have h2_ := HL1.out; omega⟩
  have HK2 := Aside0.mk (HK1.out.step hk2)
  have HR2 := Aside0.mk hR2
  have HF2 : Aside0 (FBk D.Pv w2 b { f with f3 := x2 }) := ⟨hF2⟩
  have HBX2 := Aside0.mk (blk_kept HBX1.out hk2.kept hpS)
  clear hx hX2 hk2 hR2 hF2 HX1 HK1 HR1 HF1 HBX1
  go_wp2
  go_ret
  have hX := HX2.out
  subst hX
  exact ⟨rfl, HR2.out, HF2.out, HK2.out⟩
set_option maxHeartbeats 4000000 in
set_option maxRecDepth 100000 in
theorem cw_f7 {σ : Type} (D : Drv σ) (s : σ) (w : World) (b : Nat) (f : Fa) (X : Except Int (Fa × σ)) (hR : D.R s w) (hF : FBk D.Pv w b f) (hb : D.B0 ≤ b) (hbP : ¬ D.Pv b) (hB : D.B0 ≤ w.heap.size) (hl : D.len s ≤ 100000000) (hk : f.f2 = 7)
    (hX : (cB (D.c.txt f.f16 s) fun x16 s => cB (D.c.txt f.f15 s) fun x15 s => .ok ({ f with f16 := x16, f15 := x15 }, s)) = X) : Calls Tryz.prog 29 #[D.val, .pointer (some ⟨b, 0, none⟩)] w (StepP D b w (.bool true) X) := by
  have e1 : (f.f2 == 1) = false := by rw [hk]; rfl
  have e2 : (f.f2 == 2) = false := by rw [hk]; rfl
  have e3 : (f.f2 == 3) = false := by rw [hk]; rfl
  have e4 : (f.f2 == 4) = false := by rw [hk]; rfl
  have e5 : (f.f2 == 5) = false := by rw [hk]; rfl
  have e6 : (f.f2 == 6) = false := by rw [hk]; rfl
  have e10 : (f.f2 == 10) = false := by rw [hk]; rfl
  have e7 : (f.f2 == 7) = true := by rw [hk]; rfl
  clear hk
  have eN := D.eN
  have eT := D.eT
  have eC := D.eC
  have eB := D.eB
  have hS : ∀ k, (D.Pv k ∨ k = b) → D.B0 ≤ k := fun k hk => hk.elim (D.pvB k) (fun h => h ▸ hb)
  have HX0 : Aside0 ((cB (D.c.txt f.f16 s) fun x16 s => cB (D.c.txt f.f15 s) fun x15 s => .ok ({ f with f16 := x16, f15 := x15 }, s)) = X) := ⟨hX⟩
  have HR := Aside0.mk hR
  have HF := Aside0.mk hF
  clear hR hF hX
  unfold Drv.val
  go_enter Tryz.func29, Tryz.ntmps29
  go_wp2_with (with_reducible refine is_box rfl ?_; refine Rg.stop_here ?_)
  refine ⟨?_⟩
  refine box_event rfl (N := 2) rfl (cs := #[.func (.func D.nf) #[] D.nc, .func (.func D.tf) #[] D.tc, .func (.func D.cf) #[] D.cc, .func (.func D.bf) #[] D.bc]) (t := 62) (by first | (go_simp; done) | (go_simp; rfl)) ?_
  intro p hp w1 hbx hb1
  have hpb : w.heap.size ≤ p := Nat.le_of_eq hp.symm
  have hpS : ¬ (D.Pv p ∨ p = b) := fun h => h.elim (fun h => by have := D.pvlt HR.out h; omega) (fun h => by have := FBk_lt HF.out; omega)
  have HBX1 := Aside0.mk hbx
  have HR1 := Aside0.mk (D.R_below HR.out hb1)
  have HF1 := Aside0.mk (FBk_below HF.out hb1)
  have HK1 := Aside0.mk (Kp.of_below (fun k => D.Pv k ∨ k = b) hb1)
  have HL1 : Aside0 (D.len s ≤ D.len s + 70000 * 1) := ⟨by omega⟩
  have HX1 := HX0
  clear hp hbx hb1 HX0 HR HF
  have c2 : w1.cell? ⟨b, 2, none⟩ = some (.int .i64 f.f2) := (FBc_f2 HF1.out).1
  replace HR1 := Aside0.mk (D.R_drew HR1.out)
  replace HF1 := Aside0.mk (FBk_drew HF1.out)
  replace HK1 := Aside0.mk (HK1.out.drewN 1)
  have z1 : w1.cell? ⟨p, 1, none⟩ = some (.func (.func D.tf) #[] D.tc) := bk_cell HBX1.out 1
  go_wp2_with fail
  refine rg_tail 5 (by kernel_rfl) (by kernel_rfl) ?_
  simp only [List.take_succ_cons, List.take_zero, List.drop_succ_cons, List.drop_zero]
  repeat still_step
  refine wpStill_nil ?_
  go_wp2_with fail
  refine (dr_f16 HR1.out HF1.out hb hbP (by have := HL1.out; omega)).mono ?_
  intro e w2 h
  cases hx : D.c.txt f.f16 s with
  | error er =>
    rw [hx] at h
    obtain ⟨rfl, hbe, hfb⟩ := h
    have hX := HX1.out
    rw [cB_err hx] at hX
    subst hX
    have hbt := HK1.out.step hbe
    clear hx
    go_wp2
    exact ⟨rfl, StepP_err hbt hfb⟩
  | ok q =>
  obtain ⟨x2, s2⟩ := q
  rw [hx] at h
  obtain ⟨rfl, hR2, hF2, hk2⟩ := h
  have hX2 := HX1.out
  rw [cB_ok hx] at hX2
  have HX2 := Aside0.mk hX2
  have HL2 : Aside0 (D.len s2 ≤ D.len s + 70000 * 2) := ⟨by have h1_ := D.lT hx; have h2_ := HL1.out; omega⟩
  have HK2 := Aside0.mk (HK1.out.step hk2)
  have HR2 := Aside0.mk hR2
  have HF2 : Aside0 (FBk D.Pv w2 b { f with f16 := x2 }) := ⟨hF2⟩
  have HBX2 := Aside0.mk (blk_kept HBX1.out hk2.kept hpS)
  clear hx hX2 hk2 hR2 hF2 HX1 HK1 HR1 HF1 HBX1
  replace HR2 := Aside0.mk (D.R_drew HR2.out)
  replace HF2 := Aside0.mk (FBk_drew HF2.out)
  replace HK2 := Aside0.mk (HK2.out.drewN 1)
  have z1 : w2.cell? ⟨p, 1, none⟩ = some (.func (.func D.tf) #[] D.tc) := bk_cell HBX2.out 1
  go_wp2_with fail
  refine rg_tail 5 (by kernel_rfl) (by kernel_rfl) ?_
  simp only [List.take_succ_cons, List.take_zero, List.drop_succ_cons, List.drop_zero]
  repeat still_step
  refine wpStill_nil ?_
  go_wp2_with fail
  refine (dr_f15 HR2.out HF2.out hb hbP (by have := HL2.out; omega)).mono ?_
  intro e w3 h
  cases hx : D.c.txt f.f15 s2 with
  | error er =>
    rw [hx] at h
    obtain ⟨rfl, hbe, hfb⟩ := h
    have hX := HX2.out
    rw [cB_err hx] at hX
    subst hX
    have hbt := HK2.out.step hbe
    clear hx
    go_wp2
    exact ⟨rfl, StepP_err hbt hfb⟩
  | ok q =>
  obtain ⟨x3, s3⟩ := q
  rw [hx] at h
  obtain ⟨rfl, hR3, hF3, hk3⟩ := h
  have hX3 := HX2.out
  rw [cB_ok hx] at hX3
  have HX3 := Aside0.mk hX3
  have HL3 : Aside0 (D.len s3 ≤ D.len s + 70000 * 3) := ⟨by have h1_ := D.lT hx; have h2_ := HL2.out; omega⟩
  have HK3 := Aside0.mk (HK2.out.step hk3)
  have HR3 := Aside0.mk hR3
  have HF3 : Aside0 (FBk D.Pv w3 b { f with f16 := x2, f15 := x3 }) := ⟨hF3⟩
  have HBX3 := Aside0.mk (blk_kept HBX2.out hk3.kept hpS)
  clear hx hX3 hk3 hR3 hF3 HX2 HK2 HR2 HF2 HBX2
  go_wp2
  go_ret
  have hX := HX3.out
  subst hX
  exact ⟨rfl, HR3.out, HF3.out, HK3.out⟩
set_option maxHeartbeats 4000000 in
set_option maxRecDepth 100000 in
theorem cw_f8 {σ : Type} (D : Drv σ) (s : σ) (w : World) (b : Nat) (f : Fa) (X : Except Int (Fa × σ)) (hR : D.R s w) (hF : FBk D.Pv w b f) (hb : D.B0 ≤ b) (hbP : ¬ D.Pv b) (hB : D.B0 ≤ w.heap.size) (hl : D.len s ≤ 100000000) (hk : f.f2 = 8)
    (hX : (cB (D.c.num f.f17 s) fun x17 s => cB (D.c.num f.f18 s) fun x18 s => cB (D.c.num f.f19 s) fun x19 s => .ok ({ f with f17 := x17, f18 := x18, f19 := x19 }, s)) = X) : Calls Tryz.prog 29 #[D.val, .pointer (some ⟨b, 0, none⟩)] w (StepP D b w (.bool true) X) := by
  have e1 : (f.f2 == 1) = false := by rw [hk]; rfl
  have e2 : (f.f2 == 2) = false := by rw [hk]; rfl
  have e3 : (f.f2 == 3) = false := by rw [hk]; rfl
  have e4 : (f.f2 == 4) = false := by rw [hk]; rfl
  have e5 : (f.f2 == 5) = false := by rw [hk]; rfl
  have e6 : (f.f2 == 6) = false := by rw [hk]; rfl
  have e10 : (f.f2 == 10) = false := by rw [hk]; rfl
  have e7 : (f.f2 == 7) = false := by rw [hk]; rfl
  have e8 : (f.f2 == 8) = true := by rw [hk]; rfl
  clear hk
  have eN := D.eN
  have eT := D.eT
  have eC := D.eC
  have eB := D.eB
  have hS : ∀ k, (D.Pv k ∨ k = b) → D.B0 ≤ k := fun k hk => hk.elim (D.pvB k) (fun h => h ▸ hb)
  have HX0 : Aside0 ((cB (D.c.num f.f17 s) fun x17 s => cB (D.c.num f.f18 s) fun x18 s => cB (D.c.num f.f19 s) fun x19 s => .ok ({ f with f17 := x17, f18 := x18, f19 := x19 }, s)) = X) := ⟨hX⟩
  have HR := Aside0.mk hR
  have HF := Aside0.mk hF
  clear hR hF hX
  unfold Drv.val
  go_enter Tryz.func29, Tryz.ntmps29
  go_wp2_with (with_reducible refine is_box rfl ?_; refine Rg.stop_here ?_)
  refine ⟨?_⟩
  refine box_event rfl (N := 2) rfl (cs := #[.func (.func D.nf) #[] D.nc, .func (.func D.tf) #[] D.tc, .func (.func D.cf) #[] D.cc, .func (.func D.bf) #[] D.bc]) (t := 62) (by first | (go_simp; done) | (go_simp; rfl)) ?_
  intro p hp w1 hbx hb1
  have hpb : w.heap.size ≤ p := Nat.le_of_eq hp.symm
  have hpS : ¬ (D.Pv p ∨ p = b) := fun h => h.elim (fun h => by have := D.pvlt HR.out h; omega) (fun h => by have := FBk_lt HF.out; omega)
  have HBX1 := Aside0.mk hbx
  have HR1 := Aside0.mk (D.R_below HR.out hb1)
  have HF1 := Aside0.mk (FBk_below HF.out hb1)
  have HK1 := Aside0.mk (Kp.of_below (fun k => D.Pv k ∨ k = b) hb1)
  have HL1 : Aside0 (D.len s ≤ D.len s + 70000 * 1) := ⟨by omega⟩
  have HX1 := HX0
  clear hp hbx hb1 HX0 HR HF
  have c2 : w1.cell? ⟨b, 2, none⟩ = some (.int .i64 f.f2) := (FBc_f2 HF1.out).1
  replace HR1 := Aside0.mk (D.R_drew HR1.out)
  replace HF1 := Aside0.mk (FBk_drew HF1.out)
  replace HK1 := Aside0.mk (HK1.out.drewN 1)
  have z0 : w1.cell? ⟨p, 0, none⟩ = some (.func (.func D.nf) #[] D.nc) := bk_cell HBX1.out 0
  go_wp2_with fail
  refine rg_tail 5 (by kernel_rfl) (by kernel_rfl) ?_
  simp only [List.take_succ_cons, List.take_zero, List.drop_succ_cons, List.drop_zero]
  repeat still_step
  refine wpStill_nil ?_
  go_wp2_with fail
  refine (dr_f17 HR1.out HF1.out hb hbP (by have := HL1.out; omega)).mono ?_
  intro e w2 h
  cases hx : D.c.num f.f17 s with
  | error er =>
    rw [hx] at h
    obtain ⟨rfl, hbe, hfb⟩ := h
    have hX := HX1.out
    rw [cB_err hx] at hX
    subst hX
    have hbt := HK1.out.step hbe
    clear hx
    go_wp2
    exact ⟨rfl, StepP_err hbt hfb⟩
  | ok q =>
  obtain ⟨x2, s2⟩ := q
  rw [hx] at h
  obtain ⟨rfl, hR2, hF2, hk2⟩ := h
  have hX2 := HX1.out
  rw [cB_ok hx] at hX2
  have HX2 := Aside0.mk hX2
  have HL2 : Aside0 (D.len s2 ≤ D.len s + 70000 * 2) := ⟨by have h1_ := D.lN hx; have h2_ := HL1.out; omega⟩
  have HK2 := Aside0.mk (HK1.out.step hk2)
  have HR2 := Aside0.mk hR2
  have HF2 : Aside0 (FBk D.Pv w2 b { f with f17 := x2 }) := ⟨hF2⟩
  have HBX2 := Aside0.mk (blk_kept HBX1.out hk2.kept hpS)
  clear hx hX2 hk2 hR2 hF2 HX1 HK1 HR1 HF1 HBX1
  replace HR2 := Aside0.mk (D.R_drew HR2.out)
  replace HF2 := Aside0.mk (FBk_drew HF2.out)
  replace HK2 := Aside0.mk (HK2.out.drewN 1)
  have z0 : w2.cell? ⟨p, 0, none⟩ = some (.func (.func D.nf) #[] D.nc) := bk_cell HBX2.out 0
  go_wp2_with fail
  refine rg_tail 5 (by kernel_rfl) (by kernel_rfl) ?_
  simp only [List.take_succ_cons, List.take_zero, List.drop_succ_cons, List.drop_zero]
  repeat still_step
  refine wpStill_nil ?_
  go_wp2_with fail
  refine (dr_f18 HR2.out HF2.out hb hbP (by have := HL2.out; omega)).mono ?_
  intro e w3 h
  cases hx : D.c.num f.f18 s2 with
  | error er =>
    rw [hx] at h
    obtain ⟨rfl, hbe, hfb⟩ := h
    have hX := HX2.out
    rw [cB_err hx] at hX
    subst hX
    have hbt := HK2.out.step hbe
    clear hx
    go_wp2
    exact ⟨rfl, StepP_err hbt hfb⟩
  | ok q =>
  obtain ⟨x3, s3⟩ := q
  rw [hx] at h
  obtain ⟨rfl, hR3, hF3, hk3⟩ := h
  have hX3 := HX2.out
  rw [cB_ok hx] at hX3
  have HX3 := Aside0.mk hX3
  have HL3 : Aside0 (D.len s3 ≤ D.len s + 70000 * 3) := ⟨by have h1_ := D.lN hx; have h2_ := HL2.out; omega⟩
  have HK3 := Aside0.mk (HK2.out.step hk3)
  have HR3 := Aside0.mk hR3
  have HF3 : Aside0 (FBk D.Pv w3 b { f with f17 := x2, f18 := x3 }) := ⟨hF3⟩
  have HBX3 := Aside0.mk (blk_kept HBX2.out hk3.kept hpS)
  clear hx hX3 hk3 hR3 hF3 HX2 HK2 HR2 HF2 HBX2
  replace HR3 := Aside0.mk (D.R_drew HR3.out)
  replace HF3 := Aside0.mk (FBk_drew HF3.out)
  replace HK3 := Aside0.mk (HK3.out.drewN 1)
  have z0 : w3.cell? ⟨p, 0, none⟩ = some (.func (.func D.nf) #[] D.nc) := bk_cell HBX3.out 0
  go_wp2_with fail
  refine rg_tail 5 (by kernel_rfl) (by kernel_rfl) ?_
  simp only [List.take_succ_cons, List.take_zero, List.drop_succ_cons, List.drop_zero]
  repeat still_step
  refine wpStill_nil ?_
  go_wp2_with fail
  refine (dr_f19 HR3.out HF3.out hb hbP (by have := HL3.out; omega)).mono ?_
  intro e w4 h
  cases hx : D.c.num f.f19 s3 with
  | error er =>
    rw [hx] at h
    obtain ⟨rfl, hbe, hfb⟩ := h
    have hX := HX3.out
    rw [cB_err hx] at hX
    subst hX
    have hbt := HK3.out.step hbe
    clear hx
    go_wp2
    exact ⟨rfl, StepP_err hbt hfb⟩
  | ok q =>
  obtain ⟨x4, s4⟩ := q
  rw [hx] at h
  obtain ⟨rfl, hR4, hF4, hk4⟩ := h
  have hX4 := HX3.out
  rw [cB_ok hx] at hX4
  have HX4 := Aside0.mk hX4
  have HL4 : Aside0 (D.len s4 ≤ D.len s + 70000 * 4) := ⟨by have h1_ := D.lN hx; have h2_ := HL3.out; omega⟩
  have HK4 := Aside0.mk (HK3.out.step hk4)
  have HR4 := Aside0.mk hR4
  have HF4 : Aside0 (FBk D.Pv w4 b { f with f17 := x2, f18 := x3, f19 := x4 }) := ⟨hF4⟩
  have HBX4 := Aside0.mk (blk_kept HBX3.out hk4.kept hpS)
  clear hx hX4 hk4 hR4 hF4 HX3 HK3 HR3 HF3 HBX3
  go_wp2
  go_ret
  have hX := HX4.out
  subst hX
  exact ⟨rfl, HR4.out, HF4.out, HK4.out⟩
set_option maxHeartbeats 4000000 in
set_option maxRecDepth 100000 in
theorem cw_f9 {σ : Type} (D : Drv σ) (s : σ) (w : World) (b : Nat) (f : Fa) (X : Except Int (Fa × σ)) (hR : D.R s w) (hF : FBk D.Pv w b f) (hb : D.B0 ≤ b) (hbP : ¬ D.Pv b) (hB : D.B0 ≤ w.heap.size) (hl : D.len s ≤ 100000000) (hk : f.f2 = 9)
    (hX : (cB (D.c.num f.f17 s) fun x17 s => cB (D.c.num f.f19 s) fun x19 s => .ok ({ f with f17 := x17, f19 := x19 }, s)) = X) : Calls Tryz.prog 29 #[D.val, .pointer (some ⟨b, 0, none⟩)] w (StepP D b w (.bool true) X) := by
  have e1 : (f.f2 == 1) = false := by rw [hk]; rfl
  have e2 : (f.f2 == 2) = false := by rw [hk]; rfl
  have e3 : (f.f2 == 3) = false := by rw [hk]; rfl
  have e4 : (f.f2 == 4) = false := by rw [hk]; rfl
  have e5 : (f.f2 == 5) = false := by rw [hk]; rfl
  have e6 : (f.f2 == 6) = false := by rw [hk]; rfl
  have e10 : (f.f2 == 10) = false := by rw [hk]; rfl
  have e7 : (f.f2 == 7) = false := by rw [hk]; rfl
  have e8 : (f.f2 == 8) = false := by rw [hk]; rfl
  have e9 : (f.f2 == 9) = true := by rw [hk]; rfl
  clear hk
  have eN := D.eN
  have eT := D.eT
  have eC := D.eC
  have eB := D.eB
  have hS : ∀ k, (D.Pv k ∨ k = b) → D.B0 ≤ k := fun k hk => hk.elim (D.pvB k) (fun h => h ▸ hb)
  have HX0 : Aside0 ((cB (D.c.num f.f17 s) fun x17 s => cB (D.c.num f.f19 s) fun x19 s => .ok ({ f with f17 := x17, f19 := x19 }, s)) = X) := ⟨hX⟩
  have HR := Aside0.mk hR
  have HF := Aside0.mk hF
  clear hR hF hX
  unfold Drv.val
  go_enter Tryz.func29, Tryz.ntmps29
  go_wp2_with (with_reducible refine is_box rfl ?_; refine Rg.stop_here ?_)
  refine ⟨?_⟩
  refine box_event rfl (N := 2) rfl (cs := #[.func (.func D.nf) #[] D.nc, .func (.func D.tf) #[] D.tc, .func (.func D.cf) #[] D.cc, .func (.func D.bf) #[] D.bc]) (t := 62) (by first | (go_simp; done) | (go_simp; rfl)) ?_
  intro p hp w1 hbx hb1
  have hpb : w.heap.size ≤ p := Nat.le_of_eq hp.symm
  have hpS : ¬ (D.Pv p ∨ p = b) := fun h => h.elim (fun h => by have := D.pvlt HR.out h; omega) (fun h => by have := FBk_lt HF.out; omega)
  have HBX1 := Aside0.mk hbx
  have HR1 := Aside0.mk (D.R_below HR.out hb1)
  have HF1 := Aside0.mk (FBk_below HF.out hb1)
  have HK1 := Aside0.mk (Kp.of_below (fun k => D.Pv k ∨ k = b) hb1)
  have HL1 : Aside0 (D.len s ≤ D.len s + 70000 * 1) := ⟨by omega⟩
  have HX1 := HX0
  clear hp hbx hb1 HX0 HR HF
  have c2 : w1.cell? ⟨b, 2, none⟩ = some (.int .i64 f.f2) := (FBc_f2 HF1.out).1
  replace HR1 := Aside0.mk (D.R_drew HR1.out)
  replace HF1 := Aside0.mk (FBk_drew HF1.out)
  replace HK1 := Aside0.mk (HK1.out.drewN 1)
  have z0 : w1.cell? ⟨p, 0, none⟩ = some (.func (.func D.nf) #[] D.nc) := bk_cell HBX1.out 0
  go_wp2_with fail
  refine rg_tail 5 (by kernel_rfl) (by kernel_rfl) ?_
  simp only [List.take_succ_cons, List.take_zero, List.drop_succ_cons, List.drop_zero]
  repeat still_step
  refine wpStill_nil ?_
  go_wp2_with fail
  refine (dr_f17 HR1.out HF1.out hb hbP (by have := HL1.out; omega)).mono ?_
  intro e w2 h
  cases hx : D.c.num f.f17 s with
  | error er =>
    rw [hx] at h
    obtain ⟨rfl, hbe, hfb⟩ := h
    have hX := HX1.out
    rw [cB_err hx] at hX
    subst hX
    have hbt := HK1.out.step hbe
    clear hx
    go_wp2
    exact ⟨rfl, StepP_err hbt hfb⟩
  | ok q =>
  obtain ⟨x2, s2⟩ := q
  rw [hx] at h
  obtain ⟨rfl, hR2, hF2, hk2⟩ := h
  have hX2 := HX1.out
  rw [cB_ok hx] at hX2
  have HX2 := Aside0.mk hX2
  have HL2 : Aside0 (D.len s2 ≤ D.len s + 70000 * 2) := ⟨by have h1_ := D.lN hx; have h2_ := HL1.out; omega⟩
  have HK2 := Aside0.mk (HK1.out.step hk2)
  have HR2 := Aside0.mk hR2
  have HF2 : Aside0 (FBk D.Pv w2 b { f with f17 := x2 }) := ⟨hF2⟩
  have HBX2 := Aside0.mk (blk_kept HBX1.out hk2.kept hpS)
  clear hx hX2 hk2 hR2 hF2 HX1 HK1 HR1 HF1 HBX1
  replace HR2 := Aside0.mk (D.R_drew HR2.out)
  replace HF2 := Aside0.mk (FBk_drew HF2.out)
  replace HK2 := Aside0.mk (HK2.out.drewN 1)
  have z0 : w2.cell? ⟨p, 0, none⟩ = some (.func (.func D.nf) #[] D.nc) := bk_cell HBX2.out 0
  go_wp2_with fail
  refine rg_tail 5 (by kernel_rfl) (by kernel_rfl) ?_
  simp only [List.take_succ_cons, List.take_zero, List.drop_succ_cons, List.drop_zero]
  repeat still_step
  refine wpStill_nil ?_
  go_wp2_with fail
  refine (dr_f19 HR2.out HF2.out hb hbP (by have := HL2.out; omega)).mono ?_
  intro e w3 h
  cases hx : D.c.num f.f19 s2 with
  | error er =>
    rw [hx] at h
    obtain ⟨rfl, hbe, hfb⟩ := h
    have hX := HX2.out
    rw [cB_err hx] at hX
    subst hX
    have hbt := HK2.out.step hbe
    clear hx
    go_wp2
    exact ⟨rfl, StepP_err hbt hfb⟩
  | ok q =>
  obtain ⟨x3, s3⟩ := q
  rw [hx] at h
  obtain ⟨rfl, hR3, hF3, hk3⟩ := h
  have hX3 := HX2.out
  rw [cB_ok hx] at hX3
  have HX3 := Aside0.mk hX3
  have HL3 : Aside0 (D.len s3 ≤ D.len s + 70000 * 3) := ⟨by have h1_ := D.lN hx; have h2_ := HL2.out; omega⟩
  have HK3 := Aside0.mk (HK2.out.step hk3)
  have HR3 := Aside0.mk hR3
  have HF3 : Aside0 (FBk D.Pv w3 b { f with f17 := x2, f19 := x3 }) := ⟨hF3⟩
  have HBX3 := Aside0.mk (blk_kept HBX2.out hk3.kept hpS)
  clear hx hX3 hk3 hR3 hF3 HX2 HK2 HR2 HF2 HBX2
  go_wp2
  go_ret
  have hX := HX3.out
  subst hX
  exact ⟨rfl, HR3.out, HF3.out, HK3.out⟩
set_option maxHeartbeats 4000000 in
set_option maxRecDepth 100000 in
theorem cw_f0 {σ : Type} (D : Drv σ) (s : σ) (w : World) (b : Nat) (f : Fa) (X : Except Int (Fa × σ)) (hR : D.R s w) (hF : FBk D.Pv w b f) (hb : D.B0 ≤ b) (hbP : ¬ D.Pv b) (hB : D.B0 ≤ w.heap.size) (hl : D.len s ≤ 100000000) (hk : m_kind f.f2 = false)
    (hX : (.ok (f, s)) = X) : Calls Tryz.prog 29 #[D.val, .pointer (some ⟨b, 0, none⟩)] w (StepP D b w (.bool false) X) := by
  have e1 : (f.f2 == 1) = false := beq_eq_false_iff_ne.2 (by intro h; rw [h] at hk; exact absurd hk (by decide))
  have e2 : (f.f2 == 2) = false := beq_eq_false_iff_ne.2 (by intro h; rw [h] at hk; exact absurd hk (by decide))
  have e3 : (f.f2 == 3) = false := beq_eq_false_iff_ne.2 (by intro h; rw [h] at hk; exact absurd hk (by decide))
  have e4 : (f.f2 == 4) = false := beq_eq_false_iff_ne.2 (by intro h; rw [h] at hk; exact absurd hk (by decide))
  have e5 : (f.f2 == 5) = false := beq_eq_false_iff_ne.2 (by intro h; rw [h] at hk; exact absurd hk (by decide))
  have e6 : (f.f2 == 6) = false := beq_eq_false_iff_ne.2 (by intro h; rw [h] at hk; exact absurd hk (by decide))
  have e10 : (f.f2 == 10) = false := beq_eq_false_iff_ne.2 (by intro h; rw [h] at hk; exact absurd hk (by decide))
  have e7 : (f.f2 == 7) = false := beq_eq_false_iff_ne.2 (by intro h; rw [h] at hk; exact absurd hk (by decide))
  have e8 : (f.f2 == 8) = false := beq_eq_false_iff_ne.2 (by intro h; rw [h] at hk; exact absurd hk (by decide))
  have e9 : (f.f2 == 9) = false := beq_eq_false_iff_ne.2 (by intro h; rw [h] at hk; exact absurd hk (by decide))
  clear hk
  have eN := D.eN
  have eT := D.eT
  have eC := D.eC
  have eB := D.eB
  have hS : ∀ k, (D.Pv k ∨ k = b) → D.B0 ≤ k := fun k hk => hk.elim (D.pvB k) (fun h => h ▸ hb)
  have HX0 : Aside0 ((.ok (f, s)) = X) := ⟨hX⟩
  have HR := Aside0.mk hR
  have HF := Aside0.mk hF
  clear hR hF hX
  unfold Drv.val
  go_enter Tryz.func29, Tryz.ntmps29
  go_wp2_with (with_reducible refine is_box rfl ?_; refine Rg.stop_here ?_)
  refine ⟨?_⟩
  refine box_event rfl (N := 2) rfl (cs := #[.func (.func D.nf) #[] D.nc, .func (.func D.tf) #[] D.tc, .func (.func D.cf) #[] D.cc, .func (.func D.bf) #[] D.bc]) (t := 62) (by first | (go_simp; done) | (go_simp; rfl)) ?_
  intro p hp w1 hbx hb1
  have hpb : w.heap.size ≤ p := Nat.le_of_eq hp.symm
  have hpS : ¬ (D.Pv p ∨ p = b) := fun h => h.elim (fun h => by have := D.pvlt HR.out h; omega) (fun h => by have := FBk_lt HF.out; omega)
  have HBX1 := Aside0.mk hbx
  have HR1 := Aside0.mk (D.R_below HR.out hb1)
  have HF1 := Aside0.mk (FBk_below HF.out hb1)
  have HK1 := Aside0.mk (Kp.of_below (fun k => D.Pv k ∨ k = b) hb1)
  have HL1 : Aside0 (D.len s ≤ D.len s + 70000 * 1) := ⟨by omega⟩
  have HX1 := HX0
  clear hp hbx hb1 HX0 HR HF
  have c2 : w1.cell? ⟨b, 2, none⟩ = some (.int .i64 f.f2) := (FBc_f2 HF1.out).1
  go_wp2
  go_ret
  have hX := HX1.out
  subst hX
  exact ⟨rfl, HR1.out, HF1.out, HK1.out⟩
theorem cw_fields {σ : Type} (D : Drv σ) (s : σ) (w : World) (b : Nat) (f : Fa) (hR : D.R s w) (hF : FBk D.Pv w b f) (hb : D.B0 ≤ b) (hbP : ¬ D.Pv b) (hB : D.B0 ≤ w.heap.size) (hl : D.len s ≤ 100000000) (hts : f.f9.length ≤ 4) (hxs : f.f11.f1.length ≤ 64) :
    Calls Tryz.prog 29 #[D.val, .pointer (some ⟨b, 0, none⟩)] w (StepP D b w (.bool (m_kind f.f2)) (c_fields D.c f s)) := by
  cases hk : m_kind f.f2 with
  | false =>
    have hn : ¬ (1 ≤ f.f2 ∧ f.f2 ≤ 10) := fun h => by rw [(m_kind_iff _).2 h] at hk; cases hk
    refine cw_f0 D s w b f _ hR hF hb hbP hB hl hk ?_
    unfold c_fields
    rw [if_neg (by omega), if_neg (by omega), if_neg (by omega), if_neg (by omega), if_neg (by omega), if_neg (by omega), if_neg (by omega), if_neg (by omega), if_neg (by omega)]
  | true =>
    rw [m_kind_iff] at hk
    unfold c_fields
    by_cases k1 : f.f2 = 1
    · rw [if_pos (by omega)]
      exact cw_f1 D s w b f _ hR hF hb hbP hB hl k1 hts hxs rfl
    by_cases k2 : f.f2 = 2
    · rw [if_neg (by omega), if_pos (by omega)]
      exact cw_f2 D s w b f _ hR hF hb hbP hB hl k2 rfl
    by_cases k3 : f.f2 = 3
    · rw [if_neg (by omega), if_neg (by omega), if_pos (by omega)]
      exact cw_f3 D s w b f _ hR hF hb hbP hB hl k3 hxs rfl
    by_cases k4 : f.f2 = 4
    · rw [if_neg (by omega), if_neg (by omega), if_neg (by omega), if_pos (by omega)]
      exact cw_f4 D s w b f _ hR hF hb hbP hB hl k4 rfl
    by_cases k5 : f.f2 = 5
    · rw [if_neg (by omega), if_neg (by omega), if_neg (by omega), if_neg (by omega), if_pos (by omega)]
      exact cw_f5 D s w b f _ hR hF hb hbP hB hl k5 rfl
    by_cases k6 : f.f2 = 6
    · rw [if_neg (by omega), if_neg (by omega), if_neg (by omega), if_neg (by omega), if_neg (by omega), if_pos (by omega)]
      exact cw_f6 D s w b f _ hR hF hb hbP hB hl k6 rfl
    by_cases k7 : f.f2 = 7
    · rw [if_neg (by omega), if_neg (by omega), if_neg (by omega), if_neg (by omega), if_neg (by omega), if_neg (by omega), if_pos (by omega)]
      exact cw_f7 D s w b f _ hR hF hb hbP hB hl k7 rfl
    by_cases k8 : f.f2 = 8
    · rw [if_neg (by omega), if_neg (by omega), if_neg (by omega), if_neg (by omega), if_neg (by omega), if_neg (by omega), if_neg (by omega), if_pos (by omega)]
      exact cw_f8 D s w b f _ hR hF hb hbP hB hl k8 rfl
    by_cases k9 : f.f2 = 9
    · rw [if_neg (by omega), if_neg (by omega), if_neg (by omega), if_neg (by omega), if_neg (by omega), if_neg (by omega), if_neg (by omega), if_neg (by omega), if_pos (by omega)]
      exact cw_f9 D s w b f _ hR hF hb hbP hB hl k9 rfl
    rw [if_neg (by omega), if_neg (by omega), if_neg (by omega), if_neg (by omega), if_neg (by omega), if_pos (by omega)]
    exact cw_f10 D s w b f _ hR hF hb hbP hB hl (by omega) rfl
end Go.Proofs.YtkhgdglaophkbaaGreatDoor.PK
end
section
set_option linter.unusedVariables false
set_option linter.unusedSimpArgs false
namespace Go.Proofs.YtkhgdglaophkbaaGreatDoor.PK
open Go.RowKit Go.Proofs.YtkhgdglaophkbaaGreatDoorW.PrintWords Go.Proofs.YtkhgdglaophkbaaGreatDoorW.PrintLast Go.Proofs.YtkhgdglaophkbaaGreatDoorW.PrintMore
theorem bl_heap : Kd.Heap k49 := by
  unfold k49 k26
  repeat (first | exact Kd.heap_int _ | exact Kd.heap_string | refine Kd.heap_pair ?_ ?_ | refine Kd.heap_iso _ ?_ | refine Kd.heap_slice _ ?_)
theorem fa_heap : Kd.Heap kFa := by
  unfold kFa k28 k49 k26
  repeat (first | exact Kd.heap_int _ | exact Kd.heap_string | refine Kd.heap_pair ?_ ?_ | refine Kd.heap_iso _ ?_ | refine Kd.heap_slice _ ?_)
theorem FBk_mk {Pv : Nat → Prop} {w w1 : World} {b : Nat} {f : Fa} {cs : Array Value} (h : faK w f cs) (hb1 : Below w.heap.size w w1) (hbx : w1.heap[b]? = some (.cells cs 28 (0, 0))) (hb : w.heap.size ≤ b) (hP : ∀ k, Pv k → w.heap.size ≤ k) : FBk Pv w1 b f := by
  obtain ⟨A9, c9, A10, c10, A12, c12, rfl, l9, h9, l10, h10, l12, h12⟩ := faK_open h
  have hs := hb1.size
  have hlt := blk_lt hbx
  have key : ∀ k, k < w.heap.size → (¬ Pv k ∧ k ≠ b) ∧ k < w1.heap.size := fun k hk => ⟨⟨fun hp => by have := hP k hp; omega, by omega⟩, by omega⟩
  exact ⟨_, _, _, hbx, Kd.V_mk l9 (Kd.F_mono (Kd.F_below (Kd.C_F Kd.heap_string h9) hb1) key), Kd.V_mk l10 (Kd.F_mono (Kd.F_below (Kd.C_F bl_heap h10) hb1) key), Kd.V_mk l12 (Kd.F_mono (Kd.F_below (Kd.C_F (Kd.heap_int .i64) h12) hb1) key)⟩
theorem valid_small (f : Fa) (h : m_fvalid f = true) : f.f9.length ≤ 4 ∧ f.f11.f1.length ≤ 64 := by
  obtain ⟨⟨_, _, _, hk, _, _, _, ho⟩, _⟩ := cf_valid f h
  by_cases k1 : f.f2 = 1
  · rw [if_pos k1] at ho
    exact ⟨ho.1.2.2.2.2.2.2.1.1, ho.1.2.2.2.2.2.2.2.2.2.1.1⟩
  rw [if_neg k1] at ho
  by_cases k2 : f.f2 = 2
  · rw [if_pos k2] at ho
    exact ⟨by rw [show f.f9 = [] by rw [ho.2]; rfl]; exact Nat.zero_le _, by rw [show f.f11.f1 = [] by rw [ho.2]; rfl]; exact Nat.zero_le _⟩
  rw [if_neg k2] at ho
  by_cases k3 : f.f2 = 3
  · rw [if_pos k3] at ho
    exact ⟨by rw [show f.f9 = [] by rw [ho.2]; rfl]; exact Nat.zero_le _, ho.1.2.2.1.1⟩
  rw [if_neg k3] at ho
  by_cases k4 : f.f2 = 4
  · rw [if_pos k4] at ho
    exact ⟨by rw [show f.f9 = [] by rw [ho.2]; rfl]; exact Nat.zero_le _, by rw [show f.f11.f1 = [] by rw [ho.2]; rfl]; exact Nat.zero_le _⟩
  rw [if_neg k4] at ho
  by_cases k5 : f.f2 = 5
  · rw [if_pos k5] at ho
    exact ⟨by rw [show f.f9 = [] by rw [ho.2]; rfl]; exact Nat.zero_le _, by rw [show f.f11.f1 = [] by rw [ho.2]; rfl]; exact Nat.zero_le _⟩
  rw [if_neg k5] at ho
  by_cases k6 : f.f2 = 6 ∨ f.f2 = 10
  · rw [if_pos k6] at ho
    exact ⟨by rw [show f.f9 = [] by rw [ho.2]; rfl]; exact Nat.zero_le _, by rw [show f.f11.f1 = [] by rw [ho.2]; rfl]; exact Nat.zero_le _⟩
  rw [if_neg k6] at ho
  by_cases k7 : f.f2 = 7
  · rw [if_pos k7] at ho
    exact ⟨by rw [show f.f9 = [] by rw [ho.2]; rfl]; exact Nat.zero_le _, by rw [show f.f11.f1 = [] by rw [ho.2]; rfl]; exact Nat.zero_le _⟩
  rw [if_neg k7] at ho
  by_cases k8 : f.f2 = 8
  · rw [if_pos k8] at ho
    exact ⟨by rw [show f.f9 = [] by rw [ho.2]; rfl]; exact Nat.zero_le _, by rw [show f.f11.f1 = [] by rw [ho.2]; rfl]; exact Nat.zero_le _⟩
  rw [if_neg k8] at ho
  by_cases k9 : f.f2 = 9
  · rw [if_pos k9] at ho
    exact ⟨by rw [show f.f9 = [] by rw [ho.2]; rfl]; exact Nat.zero_le _, by rw [show f.f11.f1 = [] by rw [ho.2]; rfl]; exact Nat.zero_le _⟩
  rw [if_neg k9] at ho
  exact ho.elim
theorem codec_nil : (Tryz.prog.info? 62).map (·.size) = some 4 := by kernel_rfl
set_option maxHeartbeats 4000000 in
set_option maxRecDepth 100000 in
theorem fv_encode (f : Fa) (cs : Array Value) (w : World) (h : faK w f cs) : Calls Tryz.prog 12 #[.agg cs] w fun e w' => e = .returned (.tuple #[.string (m_fencode f).1, .int .i64 (m_fencode f).2]) ∧ Below w.heap.size w w' := by
  have HF := Aside0.mk h
  obtain ⟨A9, c9, A10, c10, A12, c12, rfl, _⟩ := faK_open h
  clear h
  unfold fa_cells at HF ⊢
  have hmf : ∀ (fn : Fn) (first cap : Array Value) (w : World), (Instr.makeFunc fn first cap).run Tryz.prog w = .ok (.func fn first cap) w := fun _ _ _ _ => rfl
  go_enter Tryz.func12, Tryz.ntmps12
  go_wp2_with (with_reducible refine is_box rfl ?_; refine Rg.stop_here ?_)
  refine ⟨?_⟩
  refine box_event rfl (N := 1) rfl (cs := #[.int .i64 f.f0, .int .i64 f.f1, .int .i64 f.f2, .int .i64 f.f3, .string f.f4, .int .i64 f.f5, .int .i64 f.f6, .string f.f7, .string f.f8, .slice A9 f.f9.length c9, .slice A10 f.f10.length c10, .int .i64 f.f11.f0, .slice A12 f.f11.f1.length c12, .int .i64 f.f11.f2, .int .i64 f.f11.f3, .int .i64 f.f12, .int .i64 f.f13, .int .i64 f.f14, .string f.f15, .string f.f16, .int .i64 f.f17, .int .i64 f.f18, .int .i64 f.f19]) (t := 28) (by first | (go_simp; done) | (go_simp; rfl)) ?_
  intro p1 hp1 w1 hbx1 hb1
  have hp1' : w.heap.size ≤ p1 := Nat.le_of_eq hp1.symm
  have HX1 := Aside0.mk hbx1
  have HB1 := Aside0.mk hb1
  have HF1 := Aside0.mk (faK_below HF.out hb1)
  clear hp1 hb1 hbx1
  go_wp2_with (with_reducible refine is_loadFa rfl ?_; refine Rg.stop_here ?_)
  refine ⟨?_⟩
  refine wpList_load_row rfl 28 _ rfl p1 rfl _ _ _ _ HX1.out Tryz.underlying28 rfl fa_size ?_
  go_wp2_with (go_at_call 13; refine Rg.stop_here ?_)
  refine ⟨?_⟩
  refine (fv_valid f _ w1 HF1.out).mono ?_
  rintro e w2 ⟨rfl, hb2⟩
  have HX2 := Aside0.mk (bk_heap_below HX1.out hb2)
  have HB2 := Aside0.mk (below_step HB1.out hb2)
  clear hb2 HX1 HB1 HF1
  cases hv : m_fvalid f with
  | false =>
    have HE := Aside0.mk (fd_encode_err f hv)
    clear hv
    go_wp2
    go_ret2
    exact ⟨by rw [HE.out]; rfl, HB2.out⟩
  | true =>
  have HE := Aside0.mk (fd_encode_ok f hv)
  have HW := Aside0.mk (wr_fact f hv)
  have hsm := valid_small f hv
  have hk10 : m_kind f.f2 = true := (cf_valid f hv).1.2.2.2.1
  have HKD := Aside0.mk hk10
  clear hv hk10
  -- what is written
  go_wp2_with (with_reducible refine is_alloc rfl ?_; refine Rg.stop_here ?_)
  refine ⟨?_⟩
  refine box_event rfl (N := 4) rfl (cs := #[.string ⟨#[]⟩]) (t := 9) (by first | (go_simp; done) | (go_simp; rfl)) ?_
  intro po hpo w3 hbo hb3
  have hpo' : w2.heap.size ≤ po := Nat.le_of_eq hpo.symm
  have co : w3.cell? ⟨po, 0, none⟩ = some (.string ⟨#[]⟩) := bk_cell hbo 0
  have zo := bk_frozen hbo 0
  have HO3 := Aside0.mk hbo
  have HB23 := Aside0.mk hb3
  clear hpo hbo hb3
  go_upto_region 4 with fail
  obtain ⟨w4, hw4⟩ : ∃ w4, w3.setCell ⟨po, 0, none⟩ (.string ⟨#[]⟩) = w4 := ⟨_, rfl⟩
  rw [hw4]
  have HO4 : Aside0 (w4.heap[po]? = some (.cells #[.string ⟨#[]⟩] 9 (0, 0))) := ⟨by rw [← hw4]; exact blk_set HO3.out 0 _⟩
  have HB24 : Aside0 (Below w2.heap.size w2 w4) := ⟨by rw [← hw4]; exact HB23.out.setCell hpo' _⟩
  clear hw4 co zo HO3 HB23
  -- put
  go_wp2_with (with_reducible refine is_alloc rfl ?_; refine Rg.stop_here ?_)
  refine ⟨?_⟩
  refine box_event rfl (N := 5) rfl (cs := #[.nilFunc]) (t := 50) (by first | (go_simp; done) | (go_simp; rfl)) ?_
  intro pu hpu w5 hbu hb5
  have hpu' : w4.heap.size ≤ pu := Nat.le_of_eq hpu.symm
  have cu : w5.cell? ⟨pu, 0, none⟩ = some .nilFunc := bk_cell hbu 0
  have zu := bk_frozen hbu 0
  have HU5 := Aside0.mk hbu
  have HO5 := Aside0.mk (blk_below HO4.out hb5)
  have HB45 := Aside0.mk hb5
  clear hpu hbu hb5
  go_upto_region 5 with fail
  obtain ⟨w6, hw6⟩ : ∃ w6, w5.setCell ⟨pu, 0, none⟩ (.func (.func 21) #[] #[.pointer (some ⟨po, 0, none⟩)]) = w6 := ⟨_, rfl⟩
  rw [hw6]
  have hou : po ≠ pu := by have := blk_lt HO4.out; omega
  have HU6 : Aside0 (w6.heap[pu]? = some (.cells #[.func (.func 21) #[] #[.pointer (some ⟨po, 0, none⟩)]] 50 (0, 0))) := ⟨by rw [← hw6]; exact blk_set HU5.out 0 _⟩
  have HO6 : Aside0 (w6.heap[po]? = some (.cells #[.string ⟨#[]⟩] 9 (0, 0))) := ⟨by rw [← hw6]; exact blk_far HO5.out hou _⟩
  have HB26 : Aside0 (Below w2.heap.size w2 w6) := ⟨by rw [← hw6]; exact (HB24.out.trans (bk_below_mono HB45.out HB24.out.size)).setCell (Nat.le_trans HB24.out.size hpu') _⟩
  have hpu2 : w2.heap.size ≤ pu := Nat.le_trans HB24.out.size hpu'
  clear hw6 cu zu HU5 HO5 HO4 HB45 HB24
  -- the codec
  go_wp2_with (with_reducible refine is_alloc rfl ?_; refine Rg.stop_here ?_)
  refine ⟨?_⟩
  refine box_event rfl (N := 6) rfl (cs := #[.nilFunc, .nilFunc, .nilFunc, .nilFunc]) (t := 62) (by first | (go_simp; done) | (go_simp; rfl)) ?_
  intro pc hpc w7 hbc hb7
  have hpc' : w6.heap.size ≤ pc := Nat.le_of_eq hpc.symm
  have HC7 := Aside0.mk hbc
  have HB67 := Aside0.mk hb7
  clear hpc hbc hb7
  go_wp2_with (with_reducible refine is_store rfl ?_; refine Rg.stop_here ?_)
  refine ⟨?_⟩
  refine wpList_store_box rfl rfl _ _ _ rfl pc _ #[.func (.func 22) #[] #[.pointer (some ⟨pu, 0, none⟩)], .func (.func 24) #[] #[.pointer (some ⟨pu, 0, none⟩)], .func (.func 26) #[] #[.pointer (some ⟨pu, 0, none⟩)], .func (.func 27) #[] #[.pointer (some ⟨pu, 0, none⟩)]] _ rfl rfl HC7.out codec_nil rfl (by repeat (first | exact List.forall_mem_nil _ | refine List.forall_mem_cons.2 ⟨rfl, ?_⟩)) ?_
  intro w8 hx8 hst hot
  have HC8 := Aside0.mk hx8
  have hb68 : Below w6.heap.size w6 w8 := HB67.out.trans (hst _ hpc')
  have hb28 : Below w2.heap.size w2 w8 := HB26.out.trans (bk_below_mono hb68 HB26.out.size)
  have HB28 := Aside0.mk hb28
  have HR8 : Aside0 (WrR po pu [] w8) := ⟨⟨blk_below HO6.out hb68, blk_below HU6.out hb68⟩⟩
  have hw02 := HB2.out.size
  have h1 : w.heap.size ≤ po := Nat.le_trans hw02 hpo'
  have h2 : w.heap.size ≤ pu := Nat.le_trans hw02 hpu2
  have hpP : ¬ WrP po pu p1 := fun hh => by have := blk_lt HX2.out; rcases hh with hh | hh <;> omega
  have hbt := below_step HB2.out hb28
  have HBT := Aside0.mk hbt
  have HF8 : Aside0 (FBk (WrP po pu) w8 p1 f) := ⟨FBk_mk HF.out hbt (blk_below HX2.out hb28) hp1' (fun k hk => hk.elim (fun hh => hh ▸ h1) (fun hh => hh ▸ h2))⟩
  obtain ⟨D, hD⟩ : ∃ D, wrD po pu w.heap.size hou h1 h2 = D := ⟨_, rfl⟩
  have hcP : ¬ (WrP po pu pc ∨ pc = p1) := fun hh => by
    have a1 := blk_lt HO6.out
    have a2 := blk_lt HU6.out
    have a3 := blk_lt (bk_heap_below HX2.out HB26.out)
    rcases hh with (hh | hh) | hh <;> omega
  have hB0w : w.heap.size ≤ w8.heap.size := hbt.size
  have hS : ∀ k, (WrP po pu k ∨ k = p1) → w.heap.size ≤ k := fun k hk => hk.elim (fun hh => hh.elim (fun hh => hh ▸ h1) (fun hh => hh ▸ h2)) (fun hh => hh ▸ hp1')
  clear hx8 hst hot hb68 hb28 hbt HC7 HB67 HO6 HU6 HB26 HX2 HB28
  have z0 : w8.cell? ⟨pc, 0, none⟩ = some (.func (.func 22) #[] #[.pointer (some ⟨pu, 0, none⟩)]) := bk_cell HC8.out 0
  go_wp2_with (go_at_call 22; refine Rg.stop_here ?_)
  refine ⟨?_⟩
  refine (calls_of_args (by rfl) (dr_f0 (D := wrD po pu w.heap.size hou h1 h2) HR8.out HF8.out hp1' hpP (by show ([] : List UInt8).length ≤ _; decide))).mono ?_
  intro e w9 h
  obtain ⟨rfl, hR9, hF9, hk9⟩ := h
  have HR9 : Aside0 (WrR po pu ([] ++ (m_putInt f.f0).1.data.toList) w9) := ⟨hR9⟩
  have HF9 : Aside0 (FBk (WrP po pu) w9 p1 f) := ⟨hF9⟩
  have HK9 : Aside0 (Kp (fun k => WrP po pu k ∨ k = p1) w8 w9) := ⟨hk9⟩
  have HC9 := Aside0.mk (blk_kept HC8.out hk9.kept hcP)
  have HL9 : Aside0 (([] ++ (m_putInt f.f0).1.data.toList).length ≤ 10 * 1) := ⟨by have h_ := ew_putInt_len f.f0; simp only [List.length_append, List.length_nil] at *; omega⟩
  clear hR9 hF9 hk9 z0 HR8 HF8 HC8 
  have z0 : w9.cell? ⟨pc, 0, none⟩ = some (.func (.func 22) #[] #[.pointer (some ⟨pu, 0, none⟩)]) := bk_cell HC9.out 0
  go_wp2_with (go_at_call 22; refine Rg.stop_here ?_)
  refine ⟨?_⟩
  refine (calls_of_args (by rfl) (dr_f1 (D := wrD po pu w.heap.size hou h1 h2) HR9.out HF9.out hp1' hpP (Nat.le_trans HL9.out (by decide)))).mono ?_
  intro e w10 h
  obtain ⟨rfl, hR10, hF10, hk10⟩ := h
  have HR10 : Aside0 (WrR po pu (([] ++ (m_putInt f.f0).1.data.toList) ++ (m_putInt f.f1).1.data.toList) w10) := ⟨hR10⟩
  have HF10 : Aside0 (FBk (WrP po pu) w10 p1 f) := ⟨hF10⟩
  have HK10 : Aside0 (Kp (fun k => WrP po pu k ∨ k = p1) w8 w10) := ⟨HK9.out.step hk10⟩
  have HC10 := Aside0.mk (blk_kept HC9.out hk10.kept hcP)
  have HL10 : Aside0 ((([] ++ (m_putInt f.f0).1.data.toList) ++ (m_putInt f.f1).1.data.toList).length ≤ 10 * 2) := ⟨by have h_ := ew_putInt_len f.f1; have h2_ := HL9.out; simp only [List.length_append, List.length_nil] at *; omega⟩
  clear hR10 hF10 hk10 z0 HR9 HF9 HC9 HK9 HL9
  have z0 : w10.cell? ⟨pc, 0, none⟩ = some (.func (.func 22) #[] #[.pointer (some ⟨pu, 0, none⟩)]) := bk_cell HC10.out 0
  go_wp2_with (go_at_call 22; refine Rg.stop_here ?_)
  refine ⟨?_⟩
  refine (calls_of_args (by rfl) (dr_f2 (D := wrD po pu w.heap.size hou h1 h2) HR10.out HF10.out hp1' hpP (Nat.le_trans HL10.out (by decide)))).mono ?_
  intro e w11 h
  obtain ⟨rfl, hR11, hF11, hk11⟩ := h
  have HR11 : Aside0 (WrR po pu ((([] ++ (m_putInt f.f0).1.data.toList) ++ (m_putInt f.f1).1.data.toList) ++ (m_putInt f.f2).1.data.toList) w11) := ⟨hR11⟩
  have HF11 : Aside0 (FBk (WrP po pu) w11 p1 f) := ⟨hF11⟩
  have HK11 : Aside0 (Kp (fun k => WrP po pu k ∨ k = p1) w8 w11) := ⟨HK10.out.step hk11⟩
  have HC11 := Aside0.mk (blk_kept HC10.out hk11.kept hcP)
  have HL11 : Aside0 (((([] ++ (m_putInt f.f0).1.data.toList) ++ (m_putInt f.f1).1.data.toList) ++ (m_putInt f.f2).1.data.toList).length ≤ 10 * 3) := ⟨by have h_ := ew_putInt_len f.f2; have h2_ := HL10.out; simp only [List.length_append, List.length_nil] at *; omega⟩
  clear hR11 hF11 hk11 z0 HR10 HF10 HC10 HK10 HL10
  have hX : c_fields wrC f ((([] ++ (m_putInt f.f0).1.data.toList) ++ (m_putInt f.f1).1.data.toList) ++ (m_putInt f.f2).1.data.toList) = .ok (f, m_fenc f) := HW.out
  obtain ⟨s3, hs3⟩ : ∃ s3, (([] ++ (m_putInt f.f0).1.data.toList) ++ (m_putInt f.f1).1.data.toList) ++ (m_putInt f.f2).1.data.toList = s3 := ⟨_, rfl⟩
  rw [hs3] at hX HR11 HL11
  have HXX := Aside0.mk hX
  clear hX hs3
  go_wp2_with (with_reducible refine is_loadC rfl ?_; refine Rg.stop_here ?_)
  refine ⟨?_⟩
  refine wpList_load_row rfl 62 _ rfl pc rfl _ _ _ _ HC11.out Tryz.underlying62 rfl codec_nil ?_
  go_wp2_with (go_at_call 29; refine Rg.stop_here ?_)
  refine ⟨?_⟩
  refine (calls_of_args (by rfl) (cw_fields (wrD po pu w.heap.size hou h1 h2) s3 w11 p1 f HR11.out HF11.out hp1' hpP (Nat.le_trans hB0w HK11.out.size) (Nat.le_trans HL11.out (by decide)) hsm.1 hsm.2)).mono ?_
  intro e w12 h
  have h : StepP (wrD po pu w.heap.size hou h1 h2) p1 w11 (.bool (m_kind f.f2)) (c_fields wrC f s3) e w12 := h
  rw [HXX.out] at h
  obtain ⟨rfl, hR12, hF12, hk12⟩ := h
  have hR12 : WrR po pu (m_fenc f) w12 := hR12
  have hbe := HBT.out.trans ((HK11.out.step hk12).below hB0w hS)
  have co : w12.cell? ⟨po, 0, none⟩ = some (.string ⟨(m_fenc f).toArray⟩) := bk_cell hR12.out 0
  have HBE := Aside0.mk hbe
  clear hR12 hF12 hk12 hbe
  go_wp2
  go_ret2
  exact ⟨by rw [HE.out]; rfl, HBE.out⟩
end Go.Proofs.YtkhgdglaophkbaaGreatDoor.PK
end
section
set_option linter.unusedVariables false
set_option linter.unusedSimpArgs false
namespace Go.Proofs.YtkhgdglaophkbaaGreatDoor.PK
open Go.RowKit Go.Proofs.YtkhgdglaophkbaaGreatDoorW.PrintWords Go.Proofs.YtkhgdglaophkbaaGreatDoorW.PrintLast Go.Proofs.YtkhgdglaophkbaaGreatDoorW.PrintMore
theorem codec_sz : (Tryz.prog.info? 62).map (·.size) = some 4 := by kernel_rfl
theorem four_set {w : World} {g : Nat} {t : TypeId} {x0 x1 x2 x3 : Value} (h : w.heap[g]? = some (.cells #[x0, x1, x2, x3] t (0, 0))) (a b c d : Value) :
    ∃ wz, (((w.setCell ⟨g, 0, none⟩ a).setCell ⟨g, 1, none⟩ b).setCell ⟨g, 2, none⟩ c).setCell ⟨g, 3, none⟩ d = wz ∧ wz.heap[g]? = some (.cells #[a, b, c, d] t (0, 0)) ∧ (∀ k, k ≠ g → wz.heap[k]? = w.heap[k]?) ∧ (∀ B, B ≤ g → Below B w wz) :=
  ⟨_, rfl, blk_set (blk_set (blk_set (blk_set h 0 a) 1 b) 2 c) 3 d, fun k hk => (Below.heap_setCell _ _ _ k hk).trans ((Below.heap_setCell _ _ _ k hk).trans ((Below.heap_setCell _ _ _ k hk).trans (Below.heap_setCell _ _ _ k hk))), fun B hB => ((((Below.refl B w).setCell (p := ⟨g, 0, none⟩) hB a).setCell (p := ⟨g, 1, none⟩) hB b).setCell (p := ⟨g, 2, none⟩) hB c).setCell (p := ⟨g, 3, none⟩) hB d⟩
set_option maxHeartbeats 1000000 in
set_option maxRecDepth 100000 in
theorem er_reader (s : ByteArray) (w : World) : Calls Tryz.prog 33 #[.string s] w fun e w' => ∃ ps pp pa pn pt, e = .returned (.tuple #[.agg #[.func (.func 51) #[] #[.pointer (some ⟨ps, 0, none⟩), .pointer (some ⟨pp, 0, none⟩)], .func (.func 53) #[] #[.pointer (some ⟨ps, 0, none⟩), .pointer (some ⟨pp, 0, none⟩)], .func (.func 55) #[] #[.pointer (some ⟨pn, 0, none⟩)], .func (.func 56) #[] #[.pointer (some ⟨pt, 0, none⟩)]], .pointer (some ⟨pa, 0, none⟩)]) ∧
    [ps, pp, pa, pn, pt].Nodup ∧ (∀ k, RdP ps pp pa pn pt k → w.heap.size ≤ k) ∧ RdR s ps pp pa pn pt s.data.toList w' ∧ Below w.heap.size w w' := by
  have hmf : ∀ (fn : Fn) (first cap : Array Value) (w : World), (Instr.makeFunc fn first cap).run Tryz.prog w = .ok (.func fn first cap) w := fun _ _ _ _ => rfl
  go_enter Tryz.func33, Tryz.ntmps33
  go_wp2_with (with_reducible refine is_box rfl ?_; refine Rg.stop_here ?_)
  refine ⟨?_⟩
  refine box_event rfl (N := 1) rfl (cs := #[.string s]) (t := 9) (by first | (go_simp; done) | (go_simp; rfl)) ?_
  intro ps hps w1 hbx hb1
  have gps : w.heap.size ≤ ps := Nat.le_of_eq hps.symm
  have Hps := Aside0.mk hbx
  have HB := Aside0.mk hb1
  clear hps hbx hb1
  go_wp2_with (with_reducible refine is_alloc rfl ?_; refine Rg.stop_here ?_)
  refine ⟨?_⟩
  refine box_event rfl (N := 2) rfl (cs := #[.nilFunc, .nilFunc, .nilFunc, .nilFunc]) (t := 62) (by first | (go_simp; done) | (go_simp; rfl)) ?_
  intro pr hpr w2 hbx hb1
  have gpr : w1.heap.size ≤ pr := Nat.le_of_eq hpr.symm
  have lpr : ps < pr := Nat.lt_of_lt_of_le (blk_lt Hps.out) gpr
  have Hpr := Aside0.mk hbx
  have Hps := Aside0.mk (blk_below Hps.out hb1)
  have HB := Aside0.mk (HB.out.trans (bk_below_mono hb1 HB.out.size))
  clear hpr hbx hb1
  go_wp2_with (with_reducible refine is_alloc rfl ?_; refine Rg.stop_here ?_)
  refine ⟨?_⟩
  refine box_event rfl (N := 9) rfl (cs := #[.int .i64 0]) (t := 3) (by first | (go_simp; done) | (go_simp; rfl)) ?_
  intro pa hpa w3 hbx hb1
  have gpa : w2.heap.size ≤ pa := Nat.le_of_eq hpa.symm
  have lpa : pr < pa := Nat.lt_of_lt_of_le (blk_lt Hpr.out) gpa
  have Hpa := Aside0.mk hbx
  have Hps := Aside0.mk (blk_below Hps.out hb1)
  have Hpr := Aside0.mk (blk_below Hpr.out hb1)
  have HB := Aside0.mk (HB.out.trans (bk_below_mono hb1 HB.out.size))
  clear hpa hbx hb1
  go_wp2_with (with_reducible refine is_alloc rfl ?_; refine Rg.stop_here ?_)
  refine ⟨?_⟩
  refine box_event rfl (N := 4) rfl (cs := #[.pointer none]) (t := 51) (by first | (go_simp; done) | (go_simp; rfl)) ?_
  intro pp hpp w4 hbx hb1
  have gpp : w3.heap.size ≤ pp := Nat.le_of_eq hpp.symm
  have lpp : pa < pp := Nat.lt_of_lt_of_le (blk_lt Hpa.out) gpp
  have c_ : w4.cell? ⟨pp, 0, none⟩ = some (.pointer none) := bk_cell hbx 0
  have z_ := bk_frozen hbx 0
  have HBX := Aside0.mk hbx
  have HB1 := Aside0.mk hb1
  clear hpp hbx hb1
  go_upto_region 2 with fail
  obtain ⟨w5, hw⟩ : ∃ w_, w4.setCell ⟨pp, 0, none⟩ (.pointer (some ⟨pa, 0, none⟩)) = w_ := ⟨_, rfl⟩
  rw [hw]
  have hb2 : Below w3.heap.size w3 w5 := by rw [← hw]; exact HB1.out.setCell gpp _
  have Hpp : Aside0 (w5.heap[pp]? = some (.cells #[.pointer (some ⟨pa, 0, none⟩)] 51 (0, 0))) := ⟨by rw [← hw]; exact blk_set HBX.out 0 _⟩
  have Hps := Aside0.mk (blk_below Hps.out hb2)
  have Hpr := Aside0.mk (blk_below Hpr.out hb2)
  have Hpa := Aside0.mk (blk_below Hpa.out hb2)
  have HB := Aside0.mk (HB.out.trans (bk_below_mono hb2 HB.out.size))
  clear hw hb2 c_ z_ HBX HB1
  go_wp2_with (with_reducible refine is_alloc rfl ?_; refine Rg.stop_here ?_)
  refine ⟨?_⟩
  refine box_event rfl (N := 5) rfl (cs := #[.nilFunc]) (t := 53) (by first | (go_simp; done) | (go_simp; rfl)) ?_
  intro pn hpn w6 hbx hb1
  have gpn : w5.heap.size ≤ pn := Nat.le_of_eq hpn.symm
  have lpn : pp < pn := Nat.lt_of_lt_of_le (blk_lt Hpp.out) gpn
  have c_ : w6.cell? ⟨pn, 0, none⟩ = some (.nilFunc) := bk_cell hbx 0
  have z_ := bk_frozen hbx 0
  have HBX := Aside0.mk hbx
  have HB1 := Aside0.mk hb1
  clear hpn hbx hb1
  go_upto_region 3 with fail
  obtain ⟨w7, hw⟩ : ∃ w_, w6.setCell ⟨pn, 0, none⟩ (.func (.func 51) #[] #[.pointer (some ⟨ps, 0, none⟩), .pointer (some ⟨pp, 0, none⟩)]) = w_ := ⟨_, rfl⟩
  rw [hw]
  have hb2 : Below w5.heap.size w5 w7 := by rw [← hw]; exact HB1.out.setCell gpn _
  have Hpn : Aside0 (w7.heap[pn]? = some (.cells #[.func (.func 51) #[] #[.pointer (some ⟨ps, 0, none⟩), .pointer (some ⟨pp, 0, none⟩)]] 53 (0, 0))) := ⟨by rw [← hw]; exact blk_set HBX.out 0 _⟩
  have Hps := Aside0.mk (blk_below Hps.out hb2)
  have Hpr := Aside0.mk (blk_below Hpr.out hb2)
  have Hpa := Aside0.mk (blk_below Hpa.out hb2)
  have Hpp := Aside0.mk (blk_below Hpp.out hb2)
  have HB := Aside0.mk (HB.out.trans (bk_below_mono hb2 HB.out.size))
  clear hw hb2 c_ z_ HBX HB1
  go_wp2_with (with_reducible refine is_alloc rfl ?_; refine Rg.stop_here ?_)
  refine ⟨?_⟩
  refine box_event rfl (N := 6) rfl (cs := #[.nilFunc]) (t := 56) (by first | (go_simp; done) | (go_simp; rfl)) ?_
  intro pt hpt w8 hbx hb1
  have gpt : w7.heap.size ≤ pt := Nat.le_of_eq hpt.symm
  have lpt : pn < pt := Nat.lt_of_lt_of_le (blk_lt Hpn.out) gpt
  have c_ : w8.cell? ⟨pt, 0, none⟩ = some (.nilFunc) := bk_cell hbx 0
  have z_ := bk_frozen hbx 0
  have HBX := Aside0.mk hbx
  have HB1 := Aside0.mk hb1
  clear hpt hbx hb1
  go_upto_region 4 with fail
  obtain ⟨w9, hw⟩ : ∃ w_, w8.setCell ⟨pt, 0, none⟩ (.func (.func 53) #[] #[.pointer (some ⟨ps, 0, none⟩), .pointer (some ⟨pp, 0, none⟩)]) = w_ := ⟨_, rfl⟩
  rw [hw]
  have hb2 : Below w7.heap.size w7 w9 := by rw [← hw]; exact HB1.out.setCell gpt _
  have Hpt : Aside0 (w9.heap[pt]? = some (.cells #[.func (.func 53) #[] #[.pointer (some ⟨ps, 0, none⟩), .pointer (some ⟨pp, 0, none⟩)]] 56 (0, 0))) := ⟨by rw [← hw]; exact blk_set HBX.out 0 _⟩
  have Hps := Aside0.mk (blk_below Hps.out hb2)
  have Hpr := Aside0.mk (blk_below Hpr.out hb2)
  have Hpa := Aside0.mk (blk_below Hpa.out hb2)
  have Hpp := Aside0.mk (blk_below Hpp.out hb2)
  have Hpn := Aside0.mk (blk_below Hpn.out hb2)
  have HB := Aside0.mk (HB.out.trans (bk_below_mono hb2 HB.out.size))
  clear hw hb2 c_ z_ HBX HB1
  have cn : w9.cell? ⟨pn, 0, none⟩ = some (.func (.func 51) #[] #[.pointer (some ⟨ps, 0, none⟩), .pointer (some ⟨pp, 0, none⟩)]) := bk_cell Hpn.out 0
  have ct : w9.cell? ⟨pt, 0, none⟩ = some (.func (.func 53) #[] #[.pointer (some ⟨ps, 0, none⟩), .pointer (some ⟨pp, 0, none⟩)]) := bk_cell Hpt.out 0
  have cp : w9.cell? ⟨pp, 0, none⟩ = some (.pointer (some ⟨pa, 0, none⟩)) := bk_cell Hpp.out 0
  have e0 : w9.cell? ⟨pr, 0, none⟩ = some .nilFunc := bk_cell Hpr.out 0
  have e1 : w9.cell? ⟨pr, 1, none⟩ = some .nilFunc := bk_cell Hpr.out 1
  have e2 : w9.cell? ⟨pr, 2, none⟩ = some .nilFunc := bk_cell Hpr.out 2
  have e3 : w9.cell? ⟨pr, 3, none⟩ = some .nilFunc := bk_cell Hpr.out 3
  have f0 := bk_frozen Hpr.out 0
  have f1 := bk_frozen Hpr.out 1
  have f2 := bk_frozen Hpr.out 2
  have f3 := bk_frozen Hpr.out 3
  have n1 : ¬ pr = pp := by omega
  have n2 : ¬ pp = pr := by omega
  have n3 : ¬ pn = pr := by omega
  have n4 : ¬ pt = pr := by omega
  have hsh : w9.shape? pr = some (62, 4) := by simp [World.shape?, Hpr.out]
  go_wp2_with fail
  go_region
  obtain ⟨wz, hwz, hx9, hot, hst⟩ := four_set Hpr.out (.func (.func 51) #[] #[.pointer (some ⟨ps, 0, none⟩), .pointer (some ⟨pp, 0, none⟩)]) (.func (.func 53) #[] #[.pointer (some ⟨ps, 0, none⟩), .pointer (some ⟨pp, 0, none⟩)]) (.func (.func 55) #[] #[.pointer (some ⟨pn, 0, none⟩)]) (.func (.func 56) #[] #[.pointer (some ⟨pt, 0, none⟩)])
  rw [hwz]
  have HX9 := Aside0.mk hx9
  have hbF : Below w.heap.size w wz := HB.out.trans (hst w.heap.size (by omega))
  have HBF := Aside0.mk hbF
  have HR : Aside0 (RdR s ps pp pa pn pt s.data.toList wz) := ⟨⟨⟨0, Nat.zero_le _, rfl, (hot _ (by omega)).trans Hpa.out⟩, (hot _ (by omega)).trans Hps.out, (hot _ (by omega)).trans Hpp.out, (hot _ (by omega)).trans Hpn.out, (hot _ (by omega)).trans Hpt.out⟩⟩
  clear hx9 hst hot hbF cn ct cp hwz e0 e1 e2 e3 f0 f1 f2 f3 hsh
  go_wp2
  refine bodyPost_ret (results_ct rfl _ _ pr _ _ _ _ rfl HX9.out Tryz.underlying62 rfl codec_sz) rfl ?_
  exact ⟨ps, pp, pa, pn, pt, rfl, by simp only [List.nodup_cons, List.mem_cons, List.not_mem_nil, or_false, not_or, not_false_eq_true, List.nodup_nil, and_true]; omega, fun k hk => by unfold RdP at hk; omega, HR.out.drewN 1, pw_below_drewN HBF.out 1⟩
end Go.Proofs.YtkhgdglaophkbaaGreatDoor.PK
end
