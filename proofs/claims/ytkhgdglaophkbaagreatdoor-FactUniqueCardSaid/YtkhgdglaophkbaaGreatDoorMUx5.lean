/- Texts of this claim, one behind the other. -/
import Derived.Test.YtkhgdglaophkbaaGreatDoorMUx4
import Derived.Deep.Cut
import Derived.Deep.RegionWith
import Derived.StillTailTactics
import Derived.Test.YtkhgdglaophkbaaGreatDoorMUx2
section
set_option linter.unusedVariables false
set_option linter.unusedSimpArgs false
namespace Go.Proofs.YtkhgdglaophkbaaGreatDoor.PK
open Go.RowKit Go.Proofs.YtkhgdglaophkbaaGreatDoorW.PrintWords Go.Proofs.YtkhgdglaophkbaaGreatDoorW.PrintLast Go.Proofs.YtkhgdglaophkbaaGreatDoorW.PrintMore
theorem FBk_lt {Pv : Nat → Prop} {w : World} {b : Nat} {f : Fa} (h : FBk Pv w b f) : b < w.heap.size := by
  obtain ⟨v9, v10, v12, h0, h9, h10, h12⟩ := h
  exact blk_lt h0
theorem FBk_kp {Pv S : Nat → Prop} {w w' : World} {b : Nat} {f : Fa} (h : FBk Pv w b f) (hk : Kp S w w') (hS : ∀ k, S k → Pv k ∨ w.heap.size ≤ k) (hbP : ¬ Pv b) : FBk Pv w' b f := by
  obtain ⟨v9, v10, v12, h0, h9, h10, h12⟩ := h
  have hlt := blk_lt h0
  have hk' : Kp (fun k => Pv k ∨ k = b) w w' := ⟨hk.os, hk.tape, hk.output, hk.kept.1, fun i hi hn => hk.kept.2 i hi (fun hs => by rcases hS i hs with h | h; exact hn (.inl h); omega)⟩
  exact ⟨v9, v10, v12, (hk.kept.2 b hlt (fun hs => by rcases hS b hs with h | h; exact hbP h; omega)).trans h0, V_kp h9 hk', V_kp h10 hk', V_kp h12 hk'⟩
theorem Kp.then_belowB {S : Nat → Prop} {w w1 w2 : World} (h : Kp S w w1) (hb : Below w.heap.size w1 w2) : Kp S w w2 :=
  ⟨hb.os.trans h.os, hb.tape.trans h.tape, hb.output.trans h.output, ⟨Nat.le_trans h.size hb.size, fun i hi hn => (hb.block i hi).trans (h.kept.2 i hi hn)⟩⟩
def LstI {σ α : Type} (D : Drv σ) (d : Kd α) (e : Nat) (w5 : World) (b : Nat) (cells : Value → Array Value) (xs : List α) (n l0 : Nat) (cn : Nat → List α → σ → Except Int (List α × σ)) (K : List α → σ → Except Int (Fa × σ)) (X : Except Int (Fa × σ)) (i : Nat) (wr : World) : Prop :=
  ∃ (ys : List α) (si : σ) (Ai : Option Addr) (ci : Nat), i ≤ n ∧ ys.length = i ∧ D.R si wr ∧ wr.heap[b]? = some (.cells (cells (.slice Ai (ys ++ xs.drop i).length ci)) 28 (0, 0)) ∧
    d.R e wr w5.heap.size (fun k => w5.heap.size ≤ k) (.slice Ai (ys ++ xs.drop i).length ci) (ys ++ xs.drop i) ∧ Kp (fun k => D.Pv k ∨ k = b) w5 wr ∧ D.len si ≤ l0 + 70000 * i ∧
    cB (cn (n - i) (xs.drop i) si) (fun zs s => K (ys ++ zs) s) = X
theorem lst_nums {σ : Type} (c : Cd σ) (m : Nat) (zs : List Int) (s : σ) (K : List Int → σ → Except Int (Fa × σ)) : cB (c_nums c (m + 1) zs s) K = cB (c.num (zs.headD 0) s) (fun y s => cB (c_nums c m zs.tail s) (fun ws s => K (y :: ws) s)) := by
  show cB (cB _ _) _ = _
  simp only [cB_assoc]
  rfl
theorem lst_txts {σ : Type} (c : Cd σ) (m : Nat) (zs : List ByteArray) (s : σ) (K : List ByteArray → σ → Except Int (Fa × σ)) : cB (c_txts c (m + 1) zs s) K = cB (c.txt (zs.headD ⟨#[]⟩) s) (fun y s => cB (c_txts c m zs.tail s) (fun ws s => K (y :: ws) s)) := by
  show cB (cB _ _) _ = _
  simp only [cB_assoc]
  rfl
theorem lst_len {a b c i : Nat} (h1 : a ≤ b + 70000) (h2 : b ≤ c + 70000 * i) : a ≤ c + 70000 * (i + 1) := Nat.le_trans h1 (by have := Nat.add_le_add_right h2 70000; rw [Nat.mul_add, Nat.mul_one, ← Nat.add_assoc]; exact this)
theorem lst_set {α : Type} (ys xs : List α) (i : Nat) (y : α) (h : ys.length = i) (hi : i < xs.length) : (ys ++ xs.drop i).set i y = (ys ++ [y]) ++ xs.drop (i + 1) := by
  rw [List.set_append_right _ _ (by omega), h, Nat.sub_self, List.drop_eq_getElem_cons hi, List.set_cons_zero, List.append_assoc]; rfl
theorem lst_set2 {α : Type} (ys xs : List α) (i : Nat) (z y : α) (h : ys.length = i) (hi : xs.length ≤ i) : (ys ++ [z]).set i y = (ys ++ [y]) ++ xs.drop (i + 1) := by
  rw [List.set_append_right _ _ (by omega), h, Nat.sub_self, List.drop_eq_nil_of_le (by omega), List.append_nil]; rfl
theorem lst_rd {α : Type} (z : α) (ys xs : List α) (i : Nat) (h : ys.length = i) (hi : i < xs.length) : rdOf z (ys ++ xs.drop i) (i : Int) = (xs.drop i).headD z := by
  simp [rdOf, List.getD_eq_getElem?_getD, List.getElem?_append_right, h, List.headD_eq_head?_getD, List.head?_drop]
theorem lst_rd2 {α : Type} (z : α) (ys : List α) (i : Nat) (h : ys.length = i) : rdOf z (ys ++ [z]) (i : Int) = z := by
  simp [rdOf, List.getD_eq_getElem?_getD, List.getElem?_append_right, h]
theorem lst_V {α : Type} {d : Kd α} {e base b : Nat} {Pv : Nat → Prop} {w : World} {A : Option Addr} {c : Nat} {zs : List α} (h : d.R e w base (fun k => base ≤ k) (.slice A zs.length c) zs) (hb : b < base) (hP : ∀ k, Pv k → k < base) :
    Kd.V d 0 w 0 (fun k => (¬ Pv k ∧ k ≠ b) ∧ k < w.heap.size) (.slice A zs.length c) zs :=
  Kd.V_mono (Kd.V_bound (Kd.V_mk (e := 0) (base := 0) (Kd.R_reads' h).2.1 (Kd.R_F h))) (fun k hk => ⟨⟨fun hp => by have := hP k hp; have := hk.1; omega, by have := hk.1; omega⟩, hk.2⟩)
theorem lst_fb_f11 {Pv : Nat → Prop} {w : World} {b base : Nat} {f : Fa} {v9 v10 : Value} {A : Option Addr} {c : Nat} {zs : List Int} (h0 : w.heap[b]? = some (.cells (fa_cells f v9 v10 (.slice A zs.length c)) 28 (0, 0)))
    (h9 : Kd.V Kd.string 0 w 0 (fun k => (¬ Pv k ∧ k ≠ b) ∧ k < w.heap.size) v9 f.f9) (h10 : Kd.V k49 0 w 0 (fun k => (¬ Pv k ∧ k ≠ b) ∧ k < w.heap.size) v10 f.f10)
    (h : (Kd.int .i64).R 3 w base (fun k => base ≤ k) (.slice A zs.length c) zs) (hb : b < base) (hP : ∀ k, Pv k → k < base) : FBk Pv w b { f with f11 := ⟨f.f11.f0, zs, f.f11.f2, f.f11.f3⟩ } := ⟨v9, v10, _, h0, h9, h10, lst_V h hb hP⟩
theorem lst_fb_f9 {Pv : Nat → Prop} {w : World} {b base : Nat} {f : Fa} {v10 v12 : Value} {A : Option Addr} {c : Nat} {zs : List ByteArray} (h0 : w.heap[b]? = some (.cells (fa_cells f (.slice A zs.length c) v10 v12) 28 (0, 0)))
    (h10 : Kd.V k49 0 w 0 (fun k => (¬ Pv k ∧ k ≠ b) ∧ k < w.heap.size) v10 f.f10) (h12 : Kd.V (Kd.int .i64) 0 w 0 (fun k => (¬ Pv k ∧ k ≠ b) ∧ k < w.heap.size) v12 f.f11.f1)
    (h : Kd.string.R 9 w base (fun k => base ≤ k) (.slice A zs.length c) zs) (hb : b < base) (hP : ∀ k, Pv k → k < base) : FBk Pv w b { f with f9 := zs } := ⟨_, v10, v12, h0, lst_V h hb hP, h10, h12⟩
theorem c_label_nest {σ : Type} (D : Drv σ) (f : Fa) (s : σ) : (cB (c_label D.c f.f11 s) fun l s => .ok ({ f with f11 := l }, s)) = (cB (D.c.num f.f11.f0 s) fun x s => cB (D.c.cnt 64 f.f11.f1.length s) fun n s => cB (c_nums D.c n.toNat f.f11.f1 s) fun zs s => cB (D.c.num f.f11.f2 s) fun x2 s => cB (D.c.num f.f11.f3 s) fun x3 s => .ok ({ f with f11 := ⟨x, zs, x2, x3⟩ }, s) : Except Int (Fa × σ)) := by
  unfold c_label
  simp only [cB_assoc]
  rfl
set_option maxHeartbeats 4000000 in
set_option maxRecDepth 100000 in
theorem cw_label0 {σ : Type} (D : Drv σ) (s : σ) (w : World) (b : Nat) (f : Fa) (X : Except Int (Fa × σ)) (hR : D.R s w) (hF : FBk D.Pv w b f) (hb : D.B0 ≤ b) (hbP : ¬ D.Pv b) (hB : D.B0 ≤ w.heap.size) (hl : D.len s ≤ 900000000) (hxs : f.f11.f1.length ≤ 64)
    (hX : (cB (D.c.num f.f11.f0 s) fun x s => cB (D.c.cnt 64 f.f11.f1.length s) fun n s => cB (c_nums D.c n.toNat f.f11.f1 s) fun zs s => cB (D.c.num f.f11.f2 s) fun x2 s => cB (D.c.num f.f11.f3 s) fun x3 s => .ok ({ f with f11 := ⟨x, zs, x2, x3⟩ }, s)) = X) : Calls Tryz.prog 45 #[D.val, .pointer (some ⟨b, 11, none⟩)] w (StepP D b w (.tuple #[]) X) := by
  have eN := D.eN
  have eT := D.eT
  have eC := D.eC
  have eB := D.eB
  have hS : ∀ k, (D.Pv k ∨ k = b) → D.B0 ≤ k := fun k hk => hk.elim (D.pvB k) (fun h => h ▸ hb)
  have HX0 : Aside0 ((cB (D.c.num f.f11.f0 s) fun x s => cB (D.c.cnt 64 f.f11.f1.length s) fun n s => cB (c_nums D.c n.toNat f.f11.f1 s) fun zs s => cB (D.c.num f.f11.f2 s) fun x2 s => cB (D.c.num f.f11.f3 s) fun x3 s => .ok ({ f with f11 := ⟨x, zs, x2, x3⟩ }, s)) = X) := ⟨hX⟩
  have HR := Aside0.mk hR
  have HF := Aside0.mk hF
  clear hR hF hX
  unfold Drv.val
  go_enter Tryz.func45, Tryz.ntmps45
  go_wp2_with (with_reducible refine is_box rfl ?_; refine Rg.stop_here ?_)
  refine ⟨?_⟩
  refine box_event rfl (N := 2) rfl (cs := #[.func (.func D.nf) #[] D.nc, .func (.func D.tf) #[] D.tc, .func (.func D.cf) #[] D.cc, .func (.func D.bf) #[] D.bc]) (t := 62) (by first | (go_simp; done) | (go_simp; rfl)) ?_
  intro p hp w1 hbx hb1
  have hpb : w.heap.size ≤ p := Nat.le_of_eq hp.symm
  have hpS : ¬ (D.Pv p ∨ p = b) := fun h => h.elim (fun h => by have := D.pvlt HR.out h; omega) (fun h => by have := FBk_lt HF.out; omega)
  have HBX1 := Aside0.mk hbx
  have HR1 := Aside0.mk (D.R_below HR.out hb1)
  have HF1 := Aside0.mk (FBk_below HF.out hb1)
  have HK1 := Aside0.mk (Kp.of_below (fun k => D.Pv k ∨ k = b) hb1)
  have HL1 : Aside0 (D.len s ≤ D.len s + 70000 * 1) := ⟨by omega⟩
  have HX1 := HX0
  clear hp hbx hb1 HX0 HR HF
  replace HR1 := Aside0.mk (D.R_drew HR1.out)
  replace HF1 := Aside0.mk (FBk_drew HF1.out)
  replace HK1 := Aside0.mk (HK1.out.drewN 1)
  have z0 : w1.cell? ⟨p, 0, none⟩ = some (.func (.func D.nf) #[] D.nc) := bk_cell HBX1.out 0
  go_wp2_with fail
  refine rg_tail 5 (by kernel_rfl) (by kernel_rfl) ?_
  simp only [List.take_succ_cons, List.take_zero, List.drop_succ_cons, List.drop_zero]
  repeat still_step
  refine wpStill_nil ?_
  go_wp2_with fail
  refine (dr_lf0 HR1.out HF1.out hb hbP (by have := HL1.out; omega)).mono ?_
  intro e w2 h
  cases hx : D.c.num f.f11.f0 s with
  | error er =>
    rw [hx] at h
    obtain ⟨rfl, hbe, hfb⟩ := h
    have hX := HX1.out
    rw [cB_err hx] at hX
    subst hX
    have hbt := HK1.out.step hbe
    clear hx
    go_wp2
    exact ⟨rfl, StepP_err hbt hfb⟩
  | ok q =>
  obtain ⟨x2, s2⟩ := q
  rw [hx] at h
  obtain ⟨rfl, hR2, hF2, hk2⟩ := h
  have hX2 := HX1.out
  rw [cB_ok hx] at hX2
  have HX2 := Aside0.mk hX2
  have HL2 : Aside0 (D.len s2 ≤ D.len s + 70000 * 2) := ⟨by have h1_ := D.lN hx; have h2_ := HL1.out; omega⟩
  have HK2 := Aside0.mk (HK1.out.step hk2)
  have HR2 := Aside0.mk hR2
  have HF2 : Aside0 (FBk D.Pv w2 b { f with f11 := ⟨x2, f.f11.f1, f.f11.f2, f.f11.f3⟩ }) := ⟨hF2⟩
  have HBX2 := Aside0.mk (blk_kept HBX1.out hk2.kept hpS)
  clear hx hX2 hk2 hR2 hF2 HX1 HK1 HR1 HF1 HBX1
  obtain ⟨A, c, c12⟩ : ∃ A c, w2.cell? ⟨b, 12, none⟩ = some (.slice A f.f11.f1.length c) := by
    obtain ⟨v9, v10, v12, h0, h9, h10, h12⟩ := HF2.out
    obtain ⟨A, c, rfl, _, _⟩ := h12
    exact ⟨A, c, bk_cell h0 12⟩
  go_wp2_with (with_reducible refine is_alloc rfl ?_; refine Rg.stop_here ?_)
  refine ⟨?_⟩
  refine box_event rfl (N := 4) rfl (cs := #[.int .i64 0]) (t := 3) (by first | (go_simp; done) | (go_simp; rfl)) ?_
  intro p4 hp4 w3 hbx4 hb3
  have hp4' : w2.heap.size ≤ p4 := Nat.le_of_eq hp4.symm
  clear hp4
  have c4 : w3.cell? ⟨p4, 0, none⟩ = some (.int .i64 0) := bk_cell hbx4 0
  have z4 := bk_frozen hbx4 0
  go_upto_region 3 with fail
  obtain ⟨w4, hw4⟩ : ∃ w4_, w3.setCell ⟨p4, 0, none⟩ (.int .i64 (f.f11.f1.length : Int)) = w4_ := ⟨_, rfl⟩
  rw [hw4]
  have hbx5 : w4.heap[p4]? = some (.cells #[.int .i64 (f.f11.f1.length : Int)] 3 (0, 0)) := by rw [← hw4]; exact blk_set hbx4 0 _
  have hb24 : Below w2.heap.size w2 w4 := by rw [← hw4]; exact hb3.setCell hp4' _
  have hR4 : D.R s2 w4 := D.R_below HR2.out hb24
  have z2 : w4.cell? ⟨p, 2, none⟩ = some (.func (.func D.cf) #[] D.cc) := bk_cell (blk_below HBX2.out hb24) 2
  have HB24 := Aside0.mk hb24
  have HP4 := Aside0.mk hbx5
  have HR4 := Aside0.mk hR4
  have hpv4 : ¬ D.Pv p4 := fun h => by have := D.pvlt HR2.out h; omega
  have hwB := (HK2.out.below hB hS).size
  have hB0p : D.B0 ≤ p4 := by have := HK2.out.size; omega
  have hB0w : D.B0 ≤ w2.heap.size := by have := HK2.out.size; omega
  clear hw4 hbx4 hbx5 hb3 hb24 hR4 c4 z4 c12 hwB
  go_wp2_with fail
  refine (D.cnt s2 w4 p4 0 (f.f11.f1.length : Int) 64 HR4.out hB0p hpv4 (bk_cell HP4.out 0) (bk_frozen HP4.out 0) (by have := HL2.out; omega)).mono ?_
  intro e w5 h
  unfold Post at h
  cases hx : D.c.cnt 64 f.f11.f1.length s2 with
  | error er =>
    rw [hx] at h
    obtain ⟨rfl, hbe, _⟩ := h
    have hX := HX2.out
    rw [cB_err hx] at hX
    subst hX
    have hk25 : Kp D.Pv w2 w5 := (Kp.of_below D.Pv HB24.out).trans hbe (fun k hk => hk.elim .inl (fun h => .inr (by rw [h]; exact hp4')))
    have hfb := FBk_FaB (FBk_kp HF2.out hk25 (fun k h => .inl h) hbP) (Shp.of_eq rfl)
    have hbt := HK2.out.trans hk25 (fun k h => .inl (.inl h))
    clear hx
    go_wp2
    exact ⟨rfl, StepP_err hbt hfb⟩
  | ok q =>
  obtain ⟨n0, s5⟩ := q
  rw [hx] at h
  obtain ⟨rfl, hR5, hc5, hk5⟩ := h
  have hn : 0 ≤ n0 ∧ n0 ≤ 64 := by rcases D.cC hx with h1 | h1 <;> omega
  obtain ⟨n, rfl⟩ := Int.eq_ofNat_of_zero_le hn.1
  have hn64 : n ≤ 64 := by omega
  have hk25 : Kp D.Pv w2 w5 := (Kp.of_below D.Pv HB24.out).trans hk5 (fun k hk => hk.elim .inl (fun h => .inr (by rw [h]; exact hp4')))
  have hX5 := HX2.out
  rw [cB_ok hx, Int.toNat_natCast] at hX5
  have HX5 := Aside0.mk hX5
  have HL5 : Aside0 (D.len s5 ≤ D.len s + 70000 * 5) := ⟨by have h1_ := D.lC hx; have h2_ := HL2.out; omega⟩
  have HR5 := Aside0.mk hR5
  have HF5 := Aside0.mk (FBk_kp HF2.out hk25 (fun k h => .inl h) hbP)
  have HBX5 := Aside0.mk (blk_kept HBX2.out hk25.kept (fun h => hpS (.inl h)))
  have HK5 := Aside0.mk (HK2.out.trans hk25 (fun k h => .inl (.inl h)))
  have c4 : w5.cell? ⟨p4, 0, none⟩ = some (.int .i64 (n : Int)) := bk_cell (hc5.trans (blk_set HP4.out 0 _)) 0
  have H4lt := Aside0.mk (show p4 < w5.heap.size from blk_lt (hc5.trans (blk_set HP4.out 0 _)))
  have H4b : Aside0 (p4 ≠ b) := ⟨fun h => by have := FBk_lt HF2.out; omega⟩
  have H4p : Aside0 (p4 ≠ p) := ⟨fun h => by have := blk_lt HBX2.out; omega⟩
  have H4c := Aside0.mk c4
  clear hx hX5 hR5 hc5 hk5 hk25 hn hp4' z2 hpv4 hB0p hB0w HX2 HK2 HR2 HF2 HBX2 HB24 HR4 HP4 c4
  obtain ⟨v9, v10, v12, h0, h9, h10, h12⟩ := HF5.out
  obtain ⟨A, c, rfl, hlc, hFt⟩ := h12
  have hlc : f.f11.f1.length ≤ c := hlc
  have hC : (Kd.int .i64).C w5 A f.f11.f1.length f.f11.f1 := Kd.F_now hFt
  have c12 : w5.cell? ⟨b, 12, none⟩ = some (.slice A f.f11.f1.length c) := bk_cell h0 12
  have H0 := Aside0.mk h0
  have HV1 := Aside0.mk h9
  have HV2 := Aside0.mk h10
  have HC := Aside0.mk hC
  clear h0 h9 h10 hC hFt
  go_wp2_with (at_builtin; refine Rg.stop_here ?_)
  refine ⟨?_⟩
  refine Kd.R_append_rows (Kd.int .i64) (Rr := (Kd.int .i64).K w5) (w0 := w5) w5.heap.size rfl (.const (.slice none 0 0)) (.tmp 24) 24 3 (.int .i64 0) 8 rfl Tryz.underlying24 bk_info3 rfl (by decide) (by decide) (.slice none 0 0) [] f.f11.f1 A f.f11.f1.length c (fun k => w5.heap.size ≤ k) (fun _ => False) rfl rfl (Kd.R_nil _ _ _ _ _) HC.out (fun _ _ h => h) (fun _ hk => hk.elim) (fun k hk => hk) (Below.refl _ _) (Nat.le_refl _) (by simp only [List.length_nil]; omega) ?_
  intro v1 w6 hR6 hb6 _ _
  rw [List.nil_append] at hR6
  obtain ⟨A1, c1, rfl⟩ := Kd.R_slice hR6
  have h06 := blk_below H0.out hb6
  have c12' : w6.cell? ⟨b, 12, none⟩ = some (.slice A f.f11.f1.length c) := bk_cell h06 12
  have z12 := bk_frozen h06 12
  go_upto_region 5 with fail
  obtain ⟨w7, hw7⟩ : ∃ w7_, w6.setCell ⟨b, 12, none⟩ (.slice A1 f.f11.f1.length c1) = w7_ := ⟨_, rfl⟩
  rw [hw7]
  have hbi : b < w5.heap.size := blk_lt H0.out
  have h07 : w7.heap[b]? = some (.cells (fa_cells { f with f11 := ⟨x2, f.f11.f1, f.f11.f2, f.f11.f3⟩ } v9 v10 (.slice A1 f.f11.f1.length c1)) 28 (0, 0)) := by rw [← hw7]; exact blk_set h06 12 _
  have hR7 : (Kd.int .i64).R 3 w7 w5.heap.size (fun k => w5.heap.size ≤ k) (.slice A1 f.f11.f1.length c1) f.f11.f1 := by
    rw [← hw7]; exact Kd.R_step hR6 (fun k hk _ => Below.heap_setCell _ _ _ k (fun h => by have h : k = b := h; omega))
  have hk57 : Kp (fun k => k = b) w5 w7 := by rw [← hw7]; exact (Kp.of_below (fun k => k = b) hb6).set (.inl rfl) _
  have HI : Aside0 (LstI D (Kd.int .i64) 3 w5 b (fun v => fa_cells { f with f11 := ⟨x2, f.f11.f1, f.f11.f2, f.f11.f3⟩ } v9 v10 v) f.f11.f1 n (D.len s + 70000 * 5) (c_nums D.c) (fun zs s => cB (D.c.num f.f11.f2 s) fun x2_ s => cB (D.c.num f.f11.f3 s) fun x3 s => .ok ({ f with f11 := ⟨x2, zs, x2_, x3⟩ }, s)) X 0 w7) :=
    ⟨[], s5, A1, c1, Nat.zero_le _, rfl, D.keep HR5.out (fun k hk => hk57.kept.2 k (D.pvlt HR5.out hk) (fun h => hbP (h ▸ hk))), h07, hR7, hk57.mono (fun _ h => .inr h), by have := HL5.out; omega, HX5.out⟩
  have c4 : w7.cell? ⟨p4, 0, none⟩ = some (.int .i64 (n : Int)) := (by have := hk57.kept.2 p4 H4lt.out H4b.out; simpa [World.cell?, this] using H4c.out)
  have hBi : D.B0 ≤ w5.heap.size := by have := HK5.out.size; omega
  have hpi : p < w5.heap.size := blk_lt HBX5.out
  clear hw7 h06 h07 hR7 hb6 hR6 hk57 c12 c12' z12 H0 HC HX5 H4c
  go_wp2_with fail
  go_loopw [29] (fun p29 wr => ∃ i : Nat, p29 = .int .i64 (i : Int) ∧ LstI D (Kd.int .i64) 3 w5 b (fun v => fa_cells { f with f11 := ⟨x2, f.f11.f1, f.f11.f2, f.f11.f3⟩ } v9 v10 v) f.f11.f1 n (D.len s + 70000 * 5) (c_nums D.c) (fun zs s => cB (D.c.num f.f11.f2 s) fun x2_ s => cB (D.c.num f.f11.f3 s) fun x3 s => .ok ({ f with f11 := ⟨x2, zs, x2_, x3⟩ }, s)) X i wr) (fun p _ => n - (intOf p).toNat)
  case atStart => exact ⟨0, rfl, HI.out⟩
  case round =>
    clear HI c4
    obtain ⟨i, rfl, hI⟩ := hrel
    obtain ⟨ys, si, Ai, ci, hin, hyl, hRi, h0i, hRRi, hki, hLi, hXi⟩ := hI
    obtain ⟨L, hL⟩ : ∃ L, (ys ++ (f.f11.f1).drop i).length = L := ⟨_, rfl⟩
    have hLx : L = i + ((f.f11.f1).length - i) := by rw [← hL, List.length_append, List.length_drop, hyl]
    rw [hL] at h0i hRRi
    have hbr : wr.heap[p]? = some (.cells #[.func (.func D.nf) #[] D.nc, .func (.func D.tf) #[] D.tc, .func (.func D.cf) #[] D.cc, .func (.func D.bf) #[] D.bc] 62 (0, 0)) := blk_kept HBX5.out hki.kept hpS
    have HBR := Aside0.mk hbr
    have HRi := Aside0.mk hRi
    have H0i := Aside0.mk h0i
    have HRRi := Aside0.mk hRRi
    have Hki := Aside0.mk hki
    have hsz := hki.size
    have HLi := Aside0.mk hLi
    have HXi := Aside0.mk hXi
    have HYL := Aside0.mk hyl
    have HLEN := Aside0.mk hL
    have hL1 : i ≤ L := by omega
    have hL2 : i < (f.f11.f1).length → i < L := by omega
    have hL3 : ¬ i < (f.f11.f1).length → L = i := by omega
    have hL4 : L ≤ i + 64 := by omega
    clear hbr hRi h0i hRRi hki hLi hXi hyl hL hLx
    by_cases hlt : i < n
    · have hd : decide ((i : Int) < (n : Int)) = true := decide_eq_true (by omega)
      obtain ⟨m, hm⟩ : ∃ m, n = i + 1 + m := ⟨n - i - 1, by omega⟩
      have HM := Aside0.mk hm
      have hXn := HXi.out
      rw [show n - i = m + 1 by omega, lst_nums, List.tail_drop] at hXn
      have HXn := Aside0.mk hXn
      clear hm hXn HXi
      by_cases hx : i < (f.f11.f1).length
      · have hiL : i < L := hL2 hx
        obtain ⟨g, cap, hv, hgb, hgl, cells, hgc⟩ := Kd.R_form HRRi.out (by rw [HLEN.out]; omega)
        injection hv with hv1 hv2 hv3
        subst hv1
        obtain ⟨v0, hv0⟩ : ∃ v0, ((f.f11.f1).drop i).headD 0 = v0 := ⟨_, rfl⟩
        have HSET : Aside0 (∀ y, (ys ++ (f.f11.f1).drop i).set i y = (ys ++ [y]) ++ (f.f11.f1).drop (i + 1)) := ⟨fun y => lst_set ys (f.f11.f1) i y HYL.out hx⟩
        have HV0 : Aside0 (rdOf 0 (ys ++ (f.f11.f1).drop i) (i : Int) = v0) := ⟨by rw [← hv0]; exact lst_rd 0 ys (f.f11.f1) i HYL.out hx⟩
        have HXv := HXn.out
        rw [hv0] at HXv
        have HXv := Aside0.mk HXv
        have e8 : ((i : Int) == (L : Int)) = false := beq_eq_false_iff_ne.2 (by omega)
        have e9 : decide ((i : Int) = (L : Int)) = false := decide_eq_false (by omega)
        have c12i : wr.cell? ⟨b, 12, none⟩ = some (.slice (some ⟨g, 0, none⟩) L ci) := bk_cell H0i.out 12
        clear hv0 HXn hgc hv2 hv3 hx hL2 hL3
        go_upto_region 10 with fail
        clear e8 e9 hd
        obtain ⟨zs, hzs⟩ : ∃ zs, ys ++ (f.f11.f1).drop i = zs := ⟨_, rfl⟩
        rw [hzs] at HSET HV0 HRRi HLEN
        have HRW := HRi
        have HkW := Hki
        have HRRW := HRRi
        have H0W := H0i
        have hLW : i < L := hiL
        clear hzs HRi Hki HRRi H0i
        have z0i : wr.cell? ⟨p, 0, none⟩ = some (.func (.func D.nf) #[] D.nc) := bk_cell HBR.out 0
        have q0 := eq_true (show (0 : Int) ≤ (i : Int) by omega)
        have q1 := eq_true (show (i : Int) < ((L : Nat) : Int) by omega)
        have q2 := eq_true (show (i : Int) < ((L : Int)) by omega)
        refine rg_tail 8 (by kernel_rfl) (by kernel_rfl) ?_
        simp only [List.take_succ_cons, List.take_zero, List.drop_succ_cons, List.drop_zero]
        repeat still_step
        refine wpStill_nil ?_
        go_wp2_with fail
        have hgp : ¬ D.Pv g := fun h => by have := D.pvlt HR5.out h; omega
        have hgb2 : D.B0 ≤ g := by omega
        have cg := Kd.R_celln 0 (show (Kd.scalar (Value.int .i64) (fun _ => rfl)).R 3 wr w5.heap.size (fun k => w5.heap.size ≤ k) (.slice (some ⟨g, 0, none⟩) (L) ci) zs from HRRW.out) (i : Int) (by omega) (by omega)
        rw [HV0.out, Int.toNat_natCast] at cg
        refine (D.num si wr.drew g i (v0) (D.R_drew HRW.out) hgb2 hgp cg.1 cg.2 (by have := HLi.out; omega)).mono ?_
        intro e w9 h
        unfold Post at h
        cases hx : D.c.num (v0) si with
        | error er =>
          rw [hx] at h
          obtain ⟨rfl, hbe, _⟩ := h
          have hX := HXv.out
          rw [cB_err hx] at hX
          subst hX
          have hbt := HK5.out.step ((HkW.out.drewN 1).trans hbe (fun k (hk : D.Pv k ∨ k = g) => hk.elim (fun h => .inl (.inl h)) (fun h => .inr (by rw [h]; exact hgb))))
          have hfb : FaB b w9 := ⟨_, (hbe.kept.2 b (Nat.lt_of_lt_of_le hbi HkW.out.size) (fun h => h.elim hbP (fun h => by omega))).trans H0W.out, rfl⟩
          clear hx cg
          go_wp2
          exact ⟨rfl, StepP_err hbt hfb⟩
        | ok q =>
        obtain ⟨y, s9⟩ := q
        rw [hx] at h
        obtain ⟨rfl, hR9, hc9, hk9⟩ := h
        have hX9 := HXv.out
        rw [cB_ok hx] at hX9
        have HX9 := Aside0.mk hX9
        have HL9 : Aside0 (D.len s9 ≤ D.len s + 70000 * 5 + 70000 * (i + 1)) := ⟨lst_len (D.lN hx) HLi.out⟩
        have a1 := Kd.R_putn (show (Kd.scalar (Value.int .i64) (fun _ => rfl)).R 3 wr w5.heap.size (fun k => w5.heap.size ≤ k) (.slice (some ⟨g, 0, none⟩) (L) ci) zs from HRRW.out) (i : Int) y
        rw [Int.toNat_natCast, HSET.out y] at a1
        have a2 : (Kd.int .i64).R 3 w9 w5.heap.size (fun k => some k = (Value.slice (some ⟨g, 0, none⟩) (L) ci).ownBlock) (.slice (some ⟨g, 0, none⟩) (L) ci) ((ys ++ [y]) ++ (f.f11.f1).drop (i + 1)) :=
          Kd.R_step (Kd.R_tight rfl a1) (fun k hk _ => by obtain rfl : k = g := by simpa [Value.ownBlock] using hk
                                                          exact hc9)
        have a3 : (Kd.int .i64).R 3 w9 w5.heap.size (fun k => w5.heap.size ≤ k) (.slice (some ⟨g, 0, none⟩) (L) ci) ((ys ++ [y]) ++ (f.f11.f1).drop (i + 1)) :=
          Kd.R_reok rfl a2 (fun k hk => by obtain rfl : g = k := by simpa [Value.ownBlock] using hk
                                           exact hgb)
        have hlen9 : ((ys ++ [y]) ++ (f.f11.f1).drop (i + 1)).length = L := by rw [← HSET.out y, List.length_set]; exact HLEN.out
        have h09 := (hk9.kept.2 b (Nat.lt_of_lt_of_le hbi HkW.out.size) (fun h => h.elim hbP (fun h => by omega))).trans H0W.out
        have hk59 := (HkW.out.drewN 1).trans (hk9) (fun k (hk : D.Pv k ∨ k = g) => hk.elim (fun h => .inl (.inl h)) (fun h => .inr (by rw [h]; exact hgb)))
        have hm' : n = i + 1 + m := HM.out
        have HFIN : Aside0 (LstI D (Kd.int .i64) 3 w5 b (fun v => fa_cells { f with f11 := ⟨x2, f.f11.f1, f.f11.f2, f.f11.f3⟩ } v9 v10 v) (f.f11.f1) n (D.len s + 70000 * 5) (c_nums D.c) (fun zs s => cB (D.c.num f.f11.f2 s) fun x2_ s => cB (D.c.num f.f11.f3 s) fun x3 s => .ok ({ f with f11 := ⟨x2, zs, x2_, x3⟩ }, s)) X (i + 1) w9) :=
          ⟨ys ++ [y], s9, some ⟨g, 0, none⟩, ci, by omega, by rw [List.length_append]; have := HYL.out; show ys.length + 1 = _; omega, hR9, by rw [hlen9]; exact h09, by rw [hlen9]; exact a3, hk59, HL9.out, by
            rw [show n - (i + 1) = m by omega]
            have := HX9.out
            simpa only [List.append_assoc, List.singleton_append] using this⟩
        clear hx cg a1 a2 a3 hlen9 h09 hk59 hm' hX9 HX9 HL9 hR9 hc9 hk9 HSET HV0
        go_wp2_with fail
        go_roundw
        case rel => exact ⟨i + 1, by go_num, HFIN.out⟩
        case measure => simp [intOf]; omega
      · have hiL : L = i := hL3 hx
        subst hiL
        have e8 : ((L : Int) == (L : Int)) = true := beq_self_eq_true _
        have e9 : decide ((L : Int) = (L : Int)) = true := decide_eq_true rfl
        have c12i : wr.cell? ⟨b, 12, none⟩ = some (.slice Ai L ci) := bk_cell H0i.out 12
        clear hL2 hL3 hL1
        go_wp2_with (at_builtin; refine Rg.stop_here ?_)
        refine ⟨?_⟩
        refine Kd.R_append (Kd.int .i64) (w0 := wr) w5.heap.size rfl (.tmp 43) (.tmp 44) 24 3 (.int .i64 0) 8 rfl Tryz.underlying24 bk_info3 rfl (by decide) (by decide) _ (ys ++ (f.f11.f1).drop L) 0 [.int .i64 0] (fun k => w5.heap.size ≤ k) (fun _ => False) rfl rfl rfl (fun _ hk => hk.elim) (fun k hk => by omega) HRRi.out (Below.refl _ _) hsz (by rw [HLEN.out]; omega) ?_
        intro v2 wa hRa hba _ _
        obtain ⟨A2, c2, rfl⟩ := Kd.R_slice hRa
        have hLa : (ys ++ (f.f11.f1).drop L ++ [0]).length = L + 1 := by rw [List.length_append, HLEN.out]; rfl
        rw [hLa] at hRa ⊢
        obtain ⟨g, cap, hv, hgb, hgl, cells, hgc⟩ := Kd.R_form hRa (by rw [hLa]; omega)
        injection hv with hv1 hv2 hv3
        subst hv1
        have h0a := (hba.block b hbi).trans H0i.out
        have c12a : wa.cell? ⟨b, 12, none⟩ = some (.slice Ai L ci) := bk_cell h0a 12
        have z12a := bk_frozen h0a 12
        have HLA := Aside0.mk hLa
        have HRa := Aside0.mk hRa
        have HBA := Aside0.mk hba
        have H0a := Aside0.mk h0a
        clear hLa hRa hba h0a hgc hv2 hv3 e8 e9 hd c12i
        go_upto_region 10 with fail
        obtain ⟨W, hW⟩ : ∃ W, wa.setCell ⟨b, 12, none⟩ (.slice (some ⟨g, 0, none⟩) (L + 1) c2) = W := ⟨_, rfl⟩
        rw [hW]
        clear c12a z12a
        have hdr : (f.f11.f1).drop L = [] := List.drop_eq_nil_of_le (by omega)
        have HkW : Aside0 (Kp (fun k => D.Pv k ∨ k = b) w5 W) := ⟨by rw [← hW]; exact (Hki.out.then_belowB HBA.out).set (.inl (.inr rfl)) _⟩
        have HRW : Aside0 (D.R si W) := ⟨by rw [← hW]; exact D.keep HRi.out (fun k hk => (Below.heap_setCell _ _ _ k (fun h => by have h : k = b := h; exact hbP (h ▸ hk))).trans (HBA.out.block k (D.pvlt HR5.out hk)))⟩
        have H0W : Aside0 (W.heap[b]? = some (.cells (fa_cells { f with f11 := ⟨x2, f.f11.f1, f.f11.f2, f.f11.f3⟩ } v9 v10 (.slice (some ⟨g, 0, none⟩) (L + 1) c2)) 28 (0, 0))) := ⟨by rw [← hW]; exact blk_set H0a.out 12 _⟩
        have HRRW0 : (Kd.int .i64).R 3 W w5.heap.size (fun k => w5.heap.size ≤ k) (.slice (some ⟨g, 0, none⟩) (L + 1) c2) (ys ++ (f.f11.f1).drop L ++ [0]) := by
          rw [← hW]; exact Kd.R_step HRa.out (fun k hk _ => Below.heap_setCell _ _ _ k (fun h => by have h : k = b := h; omega))
        rw [hdr, List.append_nil] at HRRW0
        have HRRW := Aside0.mk HRRW0
        have hlys : ys.length = L := HYL.out
        have HSET : Aside0 (∀ y, (ys ++ [0]).set L y = (ys ++ [y]) ++ (f.f11.f1).drop (L + 1)) := ⟨fun y => lst_set2 ys (f.f11.f1) L 0 y hlys (by omega)⟩
        have HV0 : Aside0 (rdOf 0 (ys ++ [0]) (L : Int) = 0) := ⟨lst_rd2 0 ys L hlys⟩
        have HLEN2 : Aside0 ((ys ++ [0]).length = L + 1) := ⟨by rw [List.length_append, hlys]; rfl⟩
        have HXv := HXn.out
        rw [hdr, show ([] : List Int).headD 0 = 0 from rfl] at HXv
        have HXv := Aside0.mk HXv
        have HBRW := Aside0.mk (blk_kept HBX5.out HkW.out.kept hpS)
        obtain ⟨zs, hzs⟩ : ∃ zs, ys ++ [0] = zs := ⟨_, rfl⟩
        rw [hzs] at HSET HV0 HRRW HLEN2
        have hszW := HkW.out.size
        have hLW : L < L + 1 := by omega
        have c12i : W.cell? ⟨b, 12, none⟩ = some (.slice (some ⟨g, 0, none⟩) (L + 1) c2) := bk_cell H0W.out 12
        clear HLEN HRi Hki HRRi H0i HBA HRa H0a HBR HRRW0 hdr hlys hW hzs HXn HLA
        have HBR := HBRW
        have HLEN := HLEN2
        clear HBRW HLEN2
        have z0i : W.cell? ⟨p, 0, none⟩ = some (.func (.func D.nf) #[] D.nc) := bk_cell HBR.out 0
        have q0 := eq_true (show (0 : Int) ≤ (L : Int) by omega)
        have q1 := eq_true (show (L : Int) < ((L + 1 : Nat) : Int) by omega)
        have q2 := eq_true (show (L : Int) < ((L : Int) + 1) by omega)
        refine rg_tail 8 (by kernel_rfl) (by kernel_rfl) ?_
        simp only [List.take_succ_cons, List.take_zero, List.drop_succ_cons, List.drop_zero]
        repeat still_step
        refine wpStill_nil ?_
        go_wp2_with fail
        have hgp : ¬ D.Pv g := fun h => by have := D.pvlt HR5.out h; omega
        have hgb2 : D.B0 ≤ g := by omega
        have cg := Kd.R_celln 0 (show (Kd.scalar (Value.int .i64) (fun _ => rfl)).R 3 W w5.heap.size (fun k => w5.heap.size ≤ k) (.slice (some ⟨g, 0, none⟩) (L + 1) c2) zs from HRRW.out) (L : Int) (by omega) (by omega)
        rw [HV0.out, Int.toNat_natCast] at cg
        refine (D.num si W.drew g L (0) (D.R_drew HRW.out) hgb2 hgp cg.1 cg.2 (by have := HLi.out; omega)).mono ?_
        intro e w9 h
        unfold Post at h
        cases hx : D.c.num (0) si with
        | error er =>
          rw [hx] at h
          obtain ⟨rfl, hbe, _⟩ := h
          have hX := HXv.out
          rw [cB_err hx] at hX
          subst hX
          have hbt := HK5.out.step ((HkW.out.drewN 1).trans hbe (fun k (hk : D.Pv k ∨ k = g) => hk.elim (fun h => .inl (.inl h)) (fun h => .inr (by rw [h]; exact hgb))))
          have hfb : FaB b w9 := ⟨_, (hbe.kept.2 b (Nat.lt_of_lt_of_le hbi HkW.out.size) (fun h => h.elim hbP (fun h => by omega))).trans H0W.out, rfl⟩
          clear hx cg
          go_wp2
          exact ⟨rfl, StepP_err hbt hfb⟩
        | ok q =>
        obtain ⟨y, s9⟩ := q
        rw [hx] at h
        obtain ⟨rfl, hR9, hc9, hk9⟩ := h
        have hX9 := HXv.out
        rw [cB_ok hx] at hX9
        have HX9 := Aside0.mk hX9
        have HL9 : Aside0 (D.len s9 ≤ D.len s + 70000 * 5 + 70000 * (L + 1)) := ⟨lst_len (D.lN hx) HLi.out⟩
        have a1 := Kd.R_putn (show (Kd.scalar (Value.int .i64) (fun _ => rfl)).R 3 W w5.heap.size (fun k => w5.heap.size ≤ k) (.slice (some ⟨g, 0, none⟩) (L + 1) c2) zs from HRRW.out) (L : Int) y
        rw [Int.toNat_natCast, HSET.out y] at a1
        have a2 : (Kd.int .i64).R 3 w9 w5.heap.size (fun k => some k = (Value.slice (some ⟨g, 0, none⟩) (L + 1) c2).ownBlock) (.slice (some ⟨g, 0, none⟩) (L + 1) c2) ((ys ++ [y]) ++ (f.f11.f1).drop (L + 1)) :=
          Kd.R_step (Kd.R_tight rfl a1) (fun k hk _ => by obtain rfl : k = g := by simpa [Value.ownBlock] using hk
                                                          exact hc9)
        have a3 : (Kd.int .i64).R 3 w9 w5.heap.size (fun k => w5.heap.size ≤ k) (.slice (some ⟨g, 0, none⟩) (L + 1) c2) ((ys ++ [y]) ++ (f.f11.f1).drop (L + 1)) :=
          Kd.R_reok rfl a2 (fun k hk => by obtain rfl : g = k := by simpa [Value.ownBlock] using hk
                                           exact hgb)
        have hlen9 : ((ys ++ [y]) ++ (f.f11.f1).drop (L + 1)).length = L + 1 := by rw [← HSET.out y, List.length_set]; exact HLEN.out
        have h09 := (hk9.kept.2 b (Nat.lt_of_lt_of_le hbi HkW.out.size) (fun h => h.elim hbP (fun h => by omega))).trans H0W.out
        have hk59 := (HkW.out.drewN 1).trans (hk9) (fun k (hk : D.Pv k ∨ k = g) => hk.elim (fun h => .inl (.inl h)) (fun h => .inr (by rw [h]; exact hgb)))
        have hm' : n = L + 1 + m := HM.out
        have HFIN : Aside0 (LstI D (Kd.int .i64) 3 w5 b (fun v => fa_cells { f with f11 := ⟨x2, f.f11.f1, f.f11.f2, f.f11.f3⟩ } v9 v10 v) (f.f11.f1) n (D.len s + 70000 * 5) (c_nums D.c) (fun zs s => cB (D.c.num f.f11.f2 s) fun x2_ s => cB (D.c.num f.f11.f3 s) fun x3 s => .ok ({ f with f11 := ⟨x2, zs, x2_, x3⟩ }, s)) X (L + 1) w9) :=
          ⟨ys ++ [y], s9, some ⟨g, 0, none⟩, c2, by omega, by rw [List.length_append]; have := HYL.out; show ys.length + 1 = _; omega, hR9, by rw [hlen9]; exact h09, by rw [hlen9]; exact a3, hk59, HL9.out, by
            rw [show n - (L + 1) = m by omega]
            have := HX9.out
            simpa only [List.append_assoc, List.singleton_append] using this⟩
        clear hx cg a1 a2 a3 hlen9 h09 hk59 hm' hX9 HX9 HL9 hR9 hc9 hk9 HSET HV0
        go_wp2_with fail
        go_roundw
        case rel => exact ⟨L + 1, by go_num, HFIN.out⟩
        case measure => simp [intOf]; omega
    · have hin2 : i = n := by omega
      subst hin2
      have hd : decide ((i : Int) < (i : Int)) = false := decide_eq_false (by omega)
      have hXe := HXi.out
      rw [Nat.sub_self] at hXe
      obtain ⟨zs, hzs⟩ : ∃ zs, ys ++ (f.f11.f1).drop i = zs := ⟨_, rfl⟩
      have hXe : (fun zs s => cB (D.c.num f.f11.f2 s) fun x2_ s => cB (D.c.num f.f11.f3 s) fun x3 s => .ok ({ f with f11 := ⟨x2, zs, x2_, x3⟩ }, s)) zs si = X := by rw [← hzs]; exact hXe
      dsimp only at hXe
      have HX8 := Aside0.mk hXe
      rw [hzs] at HRRi HLEN
      have hzl := HLEN.out
      subst hzl
      have HF8 : Aside0 (FBk D.Pv wr b ({ f with f11 := ⟨x2, zs, f.f11.f2, f.f11.f3⟩ })) := ⟨lst_fb_f11 H0i.out (V_kp HV1.out Hki.out) (V_kp HV2.out Hki.out) HRRi.out hbi (fun k hk => D.pvlt HR5.out hk)⟩
      have HK8 := Aside0.mk (HK5.out.step Hki.out)
      have HL8 : Aside0 (D.len si ≤ D.len s + 70000 * 108) := ⟨by have := HLi.out; omega⟩
      obtain ⟨s8, hs8⟩ : ∃ s8, si = s8 := ⟨_, rfl⟩
      rw [hs8] at HRi HX8 HL8
      have HR8 := HRi
      have HBX8 := HBR
      clear hXe hzs hs8 HRi HLi HXi HK5 HBR HYL HLEN Hki H0i HRRi hL1 hL2 hL3 hL4 hlt
      replace HR8 := Aside0.mk (D.R_drew HR8.out)
      replace HF8 := Aside0.mk (FBk_drew HF8.out)
      replace HK8 := Aside0.mk (HK8.out.drewN 1)
      have z0 : wr.cell? ⟨p, 0, none⟩ = some (.func (.func D.nf) #[] D.nc) := bk_cell HBX8.out 0
      go_wp2_with fail
      refine rg_tail 5 (by kernel_rfl) (by kernel_rfl) ?_
      simp only [List.take_succ_cons, List.take_zero, List.drop_succ_cons, List.drop_zero]
      repeat still_step
      refine wpStill_nil ?_
      go_wp2_with fail
      refine (dr_lf2 HR8.out HF8.out hb hbP (by have := HL8.out; omega)).mono ?_
      intro e w9 h
      cases hx : D.c.num f.f11.f2 s8 with
      | error er =>
        rw [hx] at h
        obtain ⟨rfl, hbe, hfb⟩ := h
        have hX := HX8.out
        rw [cB_err hx] at hX
        subst hX
        have hbt := HK8.out.step hbe
        clear hx
        go_wp2
        exact ⟨rfl, StepP_err hbt hfb⟩
      | ok q =>
      obtain ⟨x9, s9⟩ := q
      rw [hx] at h
      obtain ⟨rfl, hR9, hF9, hk9⟩ := h
      have hX9 := HX8.out
      rw [cB_ok hx] at hX9
      have HX9 := Aside0.mk hX9
      have HL9 : Aside0 (D.len s9 ≤ D.len s + 70000 * 109) := ⟨by have h1_ := D.lN hx; have h2_ := HL8.out; omega⟩
      have HK9 := Aside0.mk (HK8.out.step hk9)
      have HR9 := Aside0.mk hR9
      have HF9 : Aside0 (FBk D.Pv w9 b { f with f11 := ⟨x2, zs, x9, f.f11.f3⟩ }) := ⟨hF9⟩
      have HBX9 := Aside0.mk (blk_kept HBX8.out hk9.kept hpS)
      clear hx hX9 hk9 hR9 hF9 HX8 HK8 HR8 HF8 HBX8
      replace HR9 := Aside0.mk (D.R_drew HR9.out)
      replace HF9 := Aside0.mk (FBk_drew HF9.out)
      replace HK9 := Aside0.mk (HK9.out.drewN 1)
      have z0 : w9.cell? ⟨p, 0, none⟩ = some (.func (.func D.nf) #[] D.nc) := bk_cell HBX9.out 0
      go_wp2_with fail
      refine rg_tail 5 (by kernel_rfl) (by kernel_rfl) ?_
      simp only [List.take_succ_cons, List.take_zero, List.drop_succ_cons, List.drop_zero]
      repeat still_step
      refine wpStill_nil ?_
      go_wp2_with fail
      refine (dr_lf3 HR9.out HF9.out hb hbP (by have := HL9.out; omega)).mono ?_
      intro e w10 h
      cases hx : D.c.num f.f11.f3 s9 with
      | error er =>
        rw [hx] at h
        obtain ⟨rfl, hbe, hfb⟩ := h
        have hX := HX9.out
        rw [cB_err hx] at hX
        subst hX
        have hbt := HK9.out.step hbe
        clear hx
        go_wp2
        exact ⟨rfl, StepP_err hbt hfb⟩
      | ok q =>
      obtain ⟨x10, s10⟩ := q
      rw [hx] at h
      obtain ⟨rfl, hR10, hF10, hk10⟩ := h
      have hX10 := HX9.out
      rw [cB_ok hx] at hX10
      have HX10 := Aside0.mk hX10
      have HL10 : Aside0 (D.len s10 ≤ D.len s + 70000 * 110) := ⟨by have h1_ := D.lN hx; have h2_ := HL9.out; omega⟩
      have HK10 := Aside0.mk (HK9.out.step hk10)
      have HR10 := Aside0.mk hR10
      have HF10 : Aside0 (FBk D.Pv w10 b { f with f11 := ⟨x2, zs, x9, x10⟩ }) := ⟨hF10⟩
      have HBX10 := Aside0.mk (blk_kept HBX9.out hk10.kept hpS)
      clear hx hX10 hk10 hR10 hF10 HX9 HK9 HR9 HF9 HBX9
      go_wp2_with fail
      go_end0
      have hX := HX10.out
      subst hX
      exact ⟨rfl, HR10.out, HF10.out, HK10.out⟩
theorem cw_label {σ : Type} (D : Drv σ) (s : σ) (w : World) (b : Nat) (f : Fa) (hR : D.R s w) (hF : FBk D.Pv w b f) (hb : D.B0 ≤ b) (hbP : ¬ D.Pv b) (hB : D.B0 ≤ w.heap.size) (hl : D.len s ≤ 900000000) (hxs : f.f11.f1.length ≤ 64) :
    Calls Tryz.prog 45 #[D.val, .pointer (some ⟨b, 11, none⟩)] w (StepP D b w (.tuple #[]) (cB (c_label D.c f.f11 s) fun l s => .ok ({ f with f11 := l }, s))) :=
  cw_label0 D s w b f _ hR hF hb hbP hB hl hxs (c_label_nest D f s).symm
end Go.Proofs.YtkhgdglaophkbaaGreatDoor.PK
end
section
set_option linter.unusedVariables false
set_option linter.unusedSimpArgs false
namespace Go.Proofs.YtkhgdglaophkbaaGreatDoor.PK
open Go.RowKit Go.Proofs.YtkhgdglaophkbaaGreatDoorW.PrintWords Go.Proofs.YtkhgdglaophkbaaGreatDoorW.PrintLast Go.Proofs.YtkhgdglaophkbaaGreatDoorW.PrintMore
theorem cd_rdB__eq (l : List UInt8) : rdB_ l = match rdI l with
    | .error e => .error 10
    | .ok (n, r) => if n < 0 ∨ 65536 < n ∨ (r.length : Int) < n then .error 10 else .ok (⟨(r.take n.toNat).toArray⟩, r.drop n.toNat) := by
  unfold rdB_
  rw [cd_rdStr]
  cases rdI l with
  | error e => rfl
  | ok p =>
    obtain ⟨n, r⟩ := p
    dsimp only
    by_cases h : n < 0 ∨ 65536 < n ∨ (r.length : Int) < n
    · rw [if_pos h, if_pos h]
    · rw [if_neg h, if_neg h]
theorem bk_rest_len (s : ByteArray) (i : Nat) : (bk_rest s i).length = s.size - i := by
  show (s.data.toList.drop i).length = _
  rw [List.length_drop, Array.length_toList]; rfl
theorem bk_rest_drop (s : ByteArray) (i n : Nat) : (bk_rest s i).drop n = bk_rest s (i + n) := by
  show (s.data.toList.drop i).drop n = _
  rw [List.drop_drop]
theorem bk_extract (s : ByteArray) (i n : Nat) : s.extract i (i + n) = ⟨((bk_rest s i).take n).toArray⟩ := by
  refine cd_ba_inj _ _ ?_
  rw [ByteArray.data_extract, Array.toList_extract, List.extract_eq_take_drop, Nat.add_sub_cancel_left]
set_option maxHeartbeats 2000000 in
set_option maxRecDepth 100000 in
theorem bk_rstring (hI : bk_Reads 52 (Value.int .i64) rdI) : bk_Reads 54 Value.string rdB_ := by
  intro s i hi hs
  rcases hI s i hi hs with ⟨n, j, hj, hone, hc⟩ | ⟨hone, x, j, er, her, hc⟩
  · have hlen := bk_rest_len s j
    by_cases h0 : n < 0
    · refine .inr ⟨by rw [cd_rdB__eq, hone]; dsimp only; rw [if_pos (.inl h0)], ⟨#[]⟩, 0, 10, by decide, fun W => ?_⟩
      have d0 : decide (n < 0) = true := decide_eq_true h0
      clear hI hone
      go_enter Tryz.func54, Tryz.ntmps54
      go_wp2_with (go_at_call 52; refine (hc _).mono ?_; rintro e w1 ⟨rfl, m, rfl⟩)
      go_ret3
      exact ⟨rfl, m, rfl⟩
    · have d0 : decide (n < 0) = false := decide_eq_false h0
      by_cases h1 : 65536 < n
      · refine .inr ⟨by rw [cd_rdB__eq, hone]; dsimp only; rw [if_pos (.inr (.inl h1))], ⟨#[]⟩, 0, 10, by decide, fun W => ?_⟩
        have d1 : decide (65536 < n) = true := decide_eq_true h1
        clear hI hone
        go_enter Tryz.func54, Tryz.ntmps54
        go_wp2_with (go_at_call 52; refine (hc _).mono ?_; rintro e w1 ⟨rfl, m, rfl⟩)
        go_ret3
        exact ⟨rfl, m, rfl⟩
      · have d1 : decide (65536 < n) = false := decide_eq_false h1
        have hw : wrap64 ((s.size : Int) - (j : Int)) = (s.size : Int) - (j : Int) := by unfold wrap64; omega
        by_cases h2 : (s.size : Int) - (j : Int) < n
        · refine .inr ⟨by rw [cd_rdB__eq, hone]; dsimp only; rw [if_pos (.inr (.inr (by omega)))], ⟨#[]⟩, 0, 10, by decide, fun W => ?_⟩
          have d2 : decide ((s.size : Int) - (j : Int) < n) = true := decide_eq_true h2
          clear hI hone
          go_enter Tryz.func54, Tryz.ntmps54
          go_wp2_with (go_at_call 52; refine (hc _).mono ?_; rintro e w1 ⟨rfl, m, rfl⟩)
          go_ret3
          exact ⟨rfl, m, rfl⟩
        · have d2 : decide ((s.size : Int) - (j : Int) < n) = false := decide_eq_false h2
          obtain ⟨k, rfl⟩ : ∃ k : Nat, n = (k : Int) := ⟨n.toNat, by omega⟩
          have hw2 : wrap64 ((j : Int) + (k : Int)) = (j : Int) + (k : Int) := by unfold wrap64; omega
          have hle : j + k ≤ s.size := by omega
          refine .inl ⟨s.extract j (j + k), j + k, hle, by rw [cd_rdB__eq, hone]; dsimp only; rw [if_neg (by omega), Int.toNat_natCast, bk_extract, bk_rest_drop], fun W => ?_⟩
          have q0 := eq_true (show (0 : Int) ≤ (j : Int) by omega)
          have q1 := eq_true (show (j : Int) ≤ (j : Int) + (k : Int) by omega)
          have q2 := eq_true (show (j : Int) + (k : Int) ≤ (s.size : Int) by omega)
          have q3 : ((j : Int) + (k : Int)).toNat = j + k := by omega
          clear hI hone hlen
          go_enter Tryz.func54, Tryz.ntmps54
          go_wp2_with (go_at_call 52; refine (hc _).mono ?_; rintro e w1 ⟨rfl, m, rfl⟩)
          go_ret3
          exact ⟨by simp, m, rfl⟩
  · have hne : (er == 0) = false := by simpa using her
    refine .inr ⟨by rw [cd_rdB__eq, hone], ⟨#[]⟩, 0, er, her, fun W => ?_⟩
    clear hI hone
    go_enter Tryz.func54, Tryz.ntmps54
    go_wp2_with (go_at_call 52; refine (hc _).mono ?_; rintro e w1 ⟨rfl, m, rfl⟩)
    go_ret3
    exact ⟨rfl, m, rfl⟩
end Go.Proofs.YtkhgdglaophkbaaGreatDoor.PK
end
section
namespace Go.Proofs.YtkhgdglaophkbaaGreatDoor.PK
open Go.RowKit Go.Proofs.YtkhgdglaophkbaaGreatDoorW.PrintWords Go.Proofs.YtkhgdglaophkbaaGreatDoorW.PrintLast Go.Proofs.YtkhgdglaophkbaaGreatDoorW.PrintMore
attribute [local go_sem] max2_int min2_int max_two min_two max_three min_three max_four min_four   -- for this text's walks alone
set_option linter.unusedVariables false
set_option linter.unusedSimpArgs false
def label_within.l0 : Nat → Int → Int → List Int → Int → Int → Option (Bool)
  | 0, _, _, _, _, _ => none
  | k + 1, x0, x1, x9, x10, x11 => if x11 < x10 then (if 0 ≤ x11 then (if x11 < (x9.length : Int) then (if (rd x9 x11) < x0 then (some false) else (if (rd x9 x11) > x1 then (some false) else (label_within.l0 k x0 x1 x9 x10 (wrap64 (x11 + 1))))) else (none)) else (none)) else (some true)
def label_within.f (k : Nat) (a0 : Int) (a1 : Int) (l2 : List Int) : Option (Bool) := label_within.l0 k a0 a1 l2 (l2.length : Int) 0
theorem label_within.mono_l : ∀ k, (∀ y0 y1 y2 y3 y4, LeO (label_within.l0 k y0 y1 y2 y3 y4) (label_within.l0 (k + 1) y0 y1 y2 y3 y4))
  | 0 => fun _ _ _ _ _ r h => by simp [label_within.l0] at h
  | k + 1 => by
    have ih0 := label_within.mono_l k
    · intro y0 y1 y2 y3 y4
      unfold label_within.l0
      repeat' first
      | (with_reducible exact ih0 _ _ _ _ _)
      | (with_reducible exact LeO.refl _)
      | (with_reducible exact LeO.none _)
      | (with_reducible refine LeO.ite ?_ ?_)
      | (with_reducible refine LeO.bind ?_ (fun _ => ?_))
      | exact ih0 _ _ _ _ _
      | exact LeO.none _
      | refine LeO.ite ?_ ?_
      | refine LeO.bind ?_ (fun _ => ?_)
theorem label_within.mono : ∀ a0 a1 a2 k, LeO (label_within.f k a0 a1 a2) (label_within.f (k + 1) a0 a1 a2) := by
  intro a0 a1 a2 k
  have ih0 := label_within.mono_l k
  unfold label_within.f
  repeat' first
      | (with_reducible exact ih0 _ _ _ _ _)
      | (with_reducible exact LeO.refl _)
      | (with_reducible exact LeO.none _)
      | (with_reducible refine LeO.ite ?_ ?_)
      | (with_reducible refine LeO.bind ?_ (fun _ => ?_))
      | exact ih0 _ _ _ _ _
      | exact LeO.none _
      | refine LeO.ite ?_ ?_
      | refine LeO.bind ?_ (fun _ => ?_)
set_option maxHeartbeats 8000000 in
set_option maxRecDepth 100000 in
theorem label_within.calls (k : Nat) (a0 : Int) (a1 : Int) (A2 : Option Addr) (c2 : Nat) (l2 : List Int) (r : Bool) (w : World) (hr2 : Kd.C (Kd.int .i64) w A2 l2.length l2) (hc2 : l2.length ≤ c2) (h : label_within.f k a0 a1 l2 = some r) :
    Calls Tryz.prog 68 #[.int .i64 a0, .int .i64 a1, .slice A2 l2.length c2] w fun e w' => e = .returned (.bool r) ∧ Drawn0 w w' := by
  have HR2 := Aside0.mk hr2
  have HC2 := Aside0.mk hc2
  clear hr2 hc2
  have H : (label_within.l0 k a0 a1 l2 (l2.length : Int) 0) = some r := h
  clear h
  have H' := Aside0.mk H
  clear H
  go_enter Tryz.func68, Tryz.ntmps68
  go_wp2
  go_loopg [11] k (fun kq v11 w' => ∃ (x11_1 : Int), v11 = .int .i64 x11_1 ∧ Aside0 (label_within.l0 kq a0 a1 l2 (l2.length : Int) x11_1 = some r) ∧ Aside0 (kq ≤ k) ∧ Drawn0 w w')
  case atStart => exact ⟨(0), (by first | rfl | (simp; done) | (simp [*]; done)), H', ⟨Nat.le_refl _⟩, by repeat (first | exact Drawn0.refl _ | apply Drawn0.step)⟩
  case round =>
    clear H'
    try clear c2
    try clear p2
    obtain ⟨x11_1, rfl, HA, HK1, ⟨m1, rfl⟩⟩ := hrel
    cases gk with
    | zero => exact absurd HA.out (by simp [label_within.l0])
    | succ k1 =>
      have H := HA.out
      clear HA
      simp only [label_within.l0] at H
      by_cases c4 : x11_1 < (l2.length : Int)
      · rw [if_pos c4] at H
        have c4b0 : decide (x11_1 < (l2.length : Int)) = true := decide_eq_true c4
        clear c4
        by_cases c5 : 0 ≤ x11_1
        · rw [if_pos c5] at H
          have c5b0 : decide (0 ≤ x11_1) = true := decide_eq_true c5
          clear c5
          by_cases c6 : x11_1 < (l2.length : Int)
          · rw [if_pos c6] at H
            have c6b0 : decide (x11_1 < (l2.length : Int)) = true := decide_eq_true c6
            clear c6
            by_cases c7 : (rd l2 x11_1) < a0
            · rw [if_pos c7] at H
              have c7b0 : decide ((rd l2 x11_1) < a0) = true := decide_eq_true c7
              clear c7
              obtain rfl := Option.some.inj H
              have p117 : 0 ≤ (x11_1 : Int) := of_decide_eq_true (by first | (with_reducible assumption) | assumption)
              have q117 : x11_1 < (l2.length : Int) := of_decide_eq_true (by first | (with_reducible assumption) | assumption)
              obtain ⟨ad117, e117, hx117_0⟩ := Kd.at_int HR2.out x11_1 p117 q117
              cases e117
              replace p117 := eq_true p117
              replace q117 := eq_true q117
              go_wp2
              go_ret
              exact ⟨by first | rfl | (simp; done) | (simp [*]; done), by repeat (first | exact Drawn0.refl _ | apply Drawn0.step)⟩
            · rw [if_neg c7] at H
              have c7b0 : decide ((rd l2 x11_1) < a0) = false := decide_eq_false c7
              clear c7
              by_cases c8 : (rd l2 x11_1) > a1
              · rw [if_pos c8] at H
                have c8b0 : decide (a1 < (rd l2 x11_1)) = true := decide_eq_true c8
                clear c8
                obtain rfl := Option.some.inj H
                have p117 : 0 ≤ (x11_1 : Int) := of_decide_eq_true (by first | (with_reducible assumption) | assumption)
                have q117 : x11_1 < (l2.length : Int) := of_decide_eq_true (by first | (with_reducible assumption) | assumption)
                obtain ⟨ad117, e117, hx117_0⟩ := Kd.at_int HR2.out x11_1 p117 q117
                cases e117
                replace p117 := eq_true p117
                replace q117 := eq_true q117
                go_wp2
                go_ret
                exact ⟨by first | rfl | (simp; done) | (simp [*]; done), by repeat (first | exact Drawn0.refl _ | apply Drawn0.step)⟩
              · rw [if_neg c8] at H
                have c8b0 : decide (a1 < (rd l2 x11_1)) = false := decide_eq_false c8
                clear c8
                have H' := Aside0.mk H
                clear H
                have p117 : 0 ≤ (x11_1 : Int) := of_decide_eq_true (by first | (with_reducible assumption) | assumption)
                have q117 : x11_1 < (l2.length : Int) := of_decide_eq_true (by first | (with_reducible assumption) | assumption)
                obtain ⟨ad117, e117, hx117_0⟩ := Kd.at_int HR2.out x11_1 p117 q117
                cases e117
                replace p117 := eq_true p117
                replace q117 := eq_true q117
                go_wp2
                go_roundg k1
                case measure => have := HK1.out; omega
                case rel => exact ⟨(wrap64 (x11_1 + 1)), (by first | rfl | (simp; done) | (simp [*]; done)), H', ⟨by have := HK1.out; omega⟩, by repeat (first | exact Drawn0.refl _ | apply Drawn0.step)⟩
          · rw [if_neg c6] at H
            exact absurd H (by simp)
        · rw [if_neg c5] at H
          exact absurd H (by simp)
      · rw [if_neg c4] at H
        have c4b0 : decide (x11_1 < (l2.length : Int)) = false := decide_eq_false c4
        clear c4
        obtain rfl := Option.some.inj H
        go_wp2
        go_ret
        exact ⟨by first | rfl | (simp; done) | (simp [*]; done), by repeat (first | exact Drawn0.refl _ | apply Drawn0.step)⟩
end Go.Proofs.YtkhgdglaophkbaaGreatDoor.PK
end
section
namespace Go.Proofs.YtkhgdglaophkbaaGreatDoor.PK
open Go.RowKit Go.Proofs.YtkhgdglaophkbaaGreatDoorW.PrintWords Go.Proofs.YtkhgdglaophkbaaGreatDoorW.PrintLast Go.Proofs.YtkhgdglaophkbaaGreatDoorW.PrintMore
attribute [local go_sem] max2_int min2_int max_two min_two max_three min_three max_four min_four   -- for this text's walks alone
set_option linter.unusedVariables false
set_option linter.unusedSimpArgs false
def label_ascending_int.l0 : Nat → List Int → Int → Option (Bool)
  | 0, _, _ => none
  | k + 1, x0, x3 => if x3 < (x0.length : Int) then (if 0 ≤ (wrap64 (x3 - 1)) then (if (wrap64 (x3 - 1)) < (x0.length : Int) then (if 0 ≤ x3 then (if (rd x0 (wrap64 (x3 - 1))) ≥ (rd x0 x3) then (some false) else (label_ascending_int.l0 k x0 (wrap64 (x3 + 1)))) else (none)) else (none)) else (none)) else (some true)
def label_ascending_int.f (k : Nat) (l0 : List Int) : Option (Bool) := label_ascending_int.l0 k l0 1
theorem label_ascending_int.mono_l : ∀ k, (∀ y0 y1, LeO (label_ascending_int.l0 k y0 y1) (label_ascending_int.l0 (k + 1) y0 y1))
  | 0 => fun _ _ r h => by simp [label_ascending_int.l0] at h
  | k + 1 => by
    have ih0 := label_ascending_int.mono_l k
    · intro y0 y1
      unfold label_ascending_int.l0
      repeat' first
      | (with_reducible exact ih0 _ _)
      | (with_reducible exact LeO.refl _)
      | (with_reducible exact LeO.none _)
      | (with_reducible refine LeO.ite ?_ ?_)
      | (with_reducible refine LeO.bind ?_ (fun _ => ?_))
      | exact ih0 _ _
      | exact LeO.none _
      | refine LeO.ite ?_ ?_
      | refine LeO.bind ?_ (fun _ => ?_)
theorem label_ascending_int.mono : ∀ a0 k, LeO (label_ascending_int.f k a0) (label_ascending_int.f (k + 1) a0) := by
  intro a0 k
  have ih0 := label_ascending_int.mono_l k
  unfold label_ascending_int.f
  repeat' first
      | (with_reducible exact ih0 _ _)
      | (with_reducible exact LeO.refl _)
      | (with_reducible exact LeO.none _)
      | (with_reducible refine LeO.ite ?_ ?_)
      | (with_reducible refine LeO.bind ?_ (fun _ => ?_))
      | exact ih0 _ _
      | exact LeO.none _
      | refine LeO.ite ?_ ?_
      | refine LeO.bind ?_ (fun _ => ?_)
set_option maxHeartbeats 8000000 in
set_option maxRecDepth 100000 in
theorem label_ascending_int.calls (k : Nat) (A0 : Option Addr) (c0 : Nat) (l0 : List Int) (r : Bool) (w : World) (hr0 : Kd.C (Kd.int .i64) w A0 l0.length l0) (hc0 : l0.length ≤ c0) (h : label_ascending_int.f k l0 = some r) :
    Calls Tryz.prog 69 #[.slice A0 l0.length c0] w fun e w' => e = .returned (.bool r) ∧ Drawn0 w w' := by
  have HR0 := Aside0.mk hr0
  have HC0 := Aside0.mk hc0
  clear hr0 hc0
  have H : (label_ascending_int.l0 k l0 1) = some r := h
  clear h
  have H' := Aside0.mk H
  clear H
  go_enter Tryz.func69, Tryz.ntmps69
  go_wp2
  repeat (go_quiet (fail); try go_wp2)
  go_loopg [3] k (fun kq v3 w' => ∃ (x3_1 : Int), v3 = .int .i64 x3_1 ∧ Aside0 (label_ascending_int.l0 kq l0 x3_1 = some r) ∧ Aside0 (kq ≤ k) ∧ Drawn0 w w')
  case atStart => exact ⟨(1), (by first | rfl | (simp; done) | (simp [*]; done)), H', ⟨Nat.le_refl _⟩, by repeat (first | exact Drawn0.refl _ | apply Drawn0.step)⟩
  case round =>
    clear H'
    obtain ⟨x3_1, rfl, HA, HK1, ⟨m1, rfl⟩⟩ := hrel
    cases gk with
    | zero => exact absurd HA.out (by simp [label_ascending_int.l0])
    | succ k1 =>
      have H := HA.out
      clear HA
      simp only [label_ascending_int.l0] at H
      by_cases c2 : x3_1 < (l0.length : Int)
      · rw [if_pos c2] at H
        have c2b0 : decide (x3_1 < (l0.length : Int)) = true := decide_eq_true c2
        clear c2
        obtain ⟨ji3, hji3⟩ : ∃ j_ : Int, (wrap64 (x3_1 - 1)) = j_ := ⟨_, rfl⟩
        replace H : (if 0 ≤ (ji3) then (if (ji3) < (l0.length : Int) then (if 0 ≤ x3_1 then (if (rd l0 (ji3)) ≥ (rd l0 x3_1) then (some false) else (label_ascending_int.l0 k1 l0 (wrap64 (x3_1 + 1)))) else (none)) else (none)) else (none)) = some r := by first | (rw [hji3] at H; exact H) | (simp only [hji3] at H ⊢; exact H)
        have hji3w : (IntKind.i64.wrap (x3_1 - 1)) = ji3 := (i64_w _).trans hji3
        by_cases c4 : 0 ≤ (ji3)
        · rw [if_pos c4] at H
          have c4b0 : decide (0 ≤ (ji3)) = true := decide_eq_true c4
          clear c4
          by_cases c5 : (ji3) < (l0.length : Int)
          · rw [if_pos c5] at H
            have c5b0 : decide ((ji3) < (l0.length : Int)) = true := decide_eq_true c5
            clear c5
            by_cases c6 : 0 ≤ x3_1
            · rw [if_pos c6] at H
              have c6b0 : decide (0 ≤ x3_1) = true := decide_eq_true c6
              clear c6
              by_cases c7 : (rd l0 (ji3)) ≥ (rd l0 x3_1)
              · rw [if_pos c7] at H
                have c7b0 : decide ((rd l0 x3_1) ≤ (rd l0 (ji3))) = true := decide_eq_true c7
                clear c7
                obtain rfl := Option.some.inj H
                have p118 : 0 ≤ ((ji3) : Int) := of_decide_eq_true (by first | (with_reducible assumption) | assumption)
                have q118 : (ji3) < (l0.length : Int) := of_decide_eq_true (by first | (with_reducible assumption) | assumption)
                obtain ⟨ad118, e118, hx118_0⟩ := Kd.at_int HR0.out (ji3) p118 q118
                cases e118
                replace p118 := eq_true p118
                replace q118 := eq_true q118
                have p119 : 0 ≤ (x3_1 : Int) := of_decide_eq_true (by first | (with_reducible assumption) | assumption)
                have q119 : x3_1 < (l0.length : Int) := of_decide_eq_true (by first | (with_reducible assumption) | assumption)
                obtain ⟨ad119, e119, hx119_0⟩ := Kd.at_int HR0.out x3_1 p119 q119
                obtain rfl : ad118 = ad119 := (by injection e119)
                replace p119 := eq_true p119
                replace q119 := eq_true q119
                go_wp2
                repeat (go_quiet (fail); try go_wp2)
                go_ret
                exact ⟨by first | rfl | (simp; done) | (simp only [← hji3] <;> (first | rfl | simp)) | (simp [*]; done), by repeat (first | exact Drawn0.refl _ | apply Drawn0.step)⟩
              · rw [if_neg c7] at H
                have c7b0 : decide ((rd l0 x3_1) ≤ (rd l0 (ji3))) = false := decide_eq_false c7
                clear c7
                have H' := Aside0.mk H
                clear H
                have p118 : 0 ≤ ((ji3) : Int) := of_decide_eq_true (by first | (with_reducible assumption) | assumption)
                have q118 : (ji3) < (l0.length : Int) := of_decide_eq_true (by first | (with_reducible assumption) | assumption)
                obtain ⟨ad118, e118, hx118_0⟩ := Kd.at_int HR0.out (ji3) p118 q118
                cases e118
                replace p118 := eq_true p118
                replace q118 := eq_true q118
                have p119 : 0 ≤ (x3_1 : Int) := of_decide_eq_true (by first | (with_reducible assumption) | assumption)
                have q119 : x3_1 < (l0.length : Int) := of_decide_eq_true (by first | (with_reducible assumption) | assumption)
                obtain ⟨ad119, e119, hx119_0⟩ := Kd.at_int HR0.out x3_1 p119 q119
                obtain rfl : ad118 = ad119 := (by injection e119)
                replace p119 := eq_true p119
                replace q119 := eq_true q119
                go_wp2
                repeat (go_quiet (fail); try go_wp2)
                go_roundg k1
                case measure => have := HK1.out; omega
                case rel => exact ⟨(wrap64 (x3_1 + 1)), (by first | rfl | (simp; done) | (simp [*]; done)), H', ⟨by have := HK1.out; omega⟩, by repeat (first | exact Drawn0.refl _ | apply Drawn0.step)⟩
            · rw [if_neg c6] at H
              exact absurd H (by simp)
          · rw [if_neg c5] at H
            exact absurd H (by simp)
        · rw [if_neg c4] at H
          exact absurd H (by simp)
      · rw [if_neg c2] at H
        have c2b0 : decide (x3_1 < (l0.length : Int)) = false := decide_eq_false c2
        clear c2
        obtain rfl := Option.some.inj H
        go_wp2
        repeat (go_quiet (fail); try go_wp2)
        go_ret
        exact ⟨by first | rfl | (simp; done) | (simp [*]; done), by repeat (first | exact Drawn0.refl _ | apply Drawn0.step)⟩
end Go.Proofs.YtkhgdglaophkbaaGreatDoor.PK
end
section
namespace Go.Proofs.YtkhgdglaophkbaaGreatDoor.PK
open Go.RowKit Go.Proofs.YtkhgdglaophkbaaGreatDoorW.PrintWords Go.Proofs.YtkhgdglaophkbaaGreatDoorW.PrintLast Go.Proofs.YtkhgdglaophkbaaGreatDoorW.PrintMore
attribute [local go_sem] max2_int min2_int max_two min_two max_three min_three max_four min_four   -- for this text's walks alone
set_option linter.unusedVariables false
set_option linter.unusedSimpArgs false
def label_Valid.f (k : Nat) (a0_0 : Int) (l0_1 : List Int) (a0_2 : Int) (a0_3 : Int) : Option (Bool) := (label_within.f k 0 1000000000 (([a0_0] : List Int))).bind fun t124 => (if t124 = true then ((label_within.f k 1 64 l0_1).bind fun t125 => (if t125 = true then ((label_ascending_int.f k l0_1).bind fun t126 => (if t126 = true then ((label_within.f k 0 5 (([a0_2] : List Int))).bind fun t130 => (if t130 = true then ((label_within.f k 0 15 (([a0_3] : List Int))).bind fun t134 => (some t134)) else (some false))) else (some false))) else (some false))) else (some false))
theorem label_Valid.mono : ∀ a0 a1 a2 a3 k, LeO (label_Valid.f k a0 a1 a2 a3) (label_Valid.f (k + 1) a0 a1 a2 a3) := by
  intro a0 a1 a2 a3 k
  unfold label_Valid.f
  repeat' first
      | (with_reducible exact label_ascending_int.mono _ _)
      | (with_reducible exact label_within.mono _ _ _ _)
      | (with_reducible exact LeO.refl _)
      | (with_reducible exact LeO.none _)
      | (with_reducible refine LeO.ite ?_ ?_)
      | (with_reducible refine LeO.bind ?_ (fun _ => ?_))
      | exact label_ascending_int.mono _ _
      | exact label_within.mono _ _ _ _
      | exact LeO.none _
      | refine LeO.ite ?_ ?_
      | refine LeO.bind ?_ (fun _ => ?_)
set_option maxHeartbeats 8000000 in
set_option maxRecDepth 100000 in
theorem label_Valid.calls (k : Nat) (a0_0 : Int) (A0_1 : Option Addr) (c0_1 : Nat) (l0_1 : List Int) (a0_2 : Int) (a0_3 : Int) (r : Bool) (w : World) (hr0_1 : Kd.C (Kd.int .i64) w A0_1 l0_1.length l0_1) (hc0_1 : l0_1.length ≤ c0_1) (h : label_Valid.f k a0_0 l0_1 a0_2 a0_3 = some r) :
    Calls Tryz.prog 49 #[.agg #[.int .i64 a0_0, .slice A0_1 l0_1.length c0_1, .int .i64 a0_2, .int .i64 a0_3]] w fun e w' => e = .returned (.bool r) ∧ Below w.heap.size w w' := by
  have hu26 := Tryz.underlying26
  have HR0_1 := Aside0.mk hr0_1
  have HC0_1 := Aside0.mk hc0_1
  clear hr0_1 hc0_1
  have HB := Aside0.mk (Below.refl w.heap.size w)
  have H : ((label_within.f k 0 1000000000 (([a0_0] : List Int))).bind fun t124 => (if t124 = true then ((label_within.f k 1 64 l0_1).bind fun t125 => (if t125 = true then ((label_ascending_int.f k l0_1).bind fun t126 => (if t126 = true then ((label_within.f k 0 5 (([a0_2] : List Int))).bind fun t130 => (if t130 = true then ((label_within.f k 0 15 (([a0_3] : List Int))).bind fun t134 => (some t134)) else (some false))) else (some false))) else (some false))) else (some false))) = some r := h
  clear h
  obtain ⟨y121, hy121⟩ : ∃ y_ : List Int, y_ = (([a0_0] : List Int)) := ⟨_, rfl⟩
  replace H : ((label_within.f k 0 1000000000 y121).bind fun t124 => (if t124 = true then ((label_within.f k 1 64 l0_1).bind fun t125 => (if t125 = true then ((label_ascending_int.f k l0_1).bind fun t126 => (if t126 = true then ((label_within.f k 0 5 (([a0_2] : List Int))).bind fun t130 => (if t130 = true then ((label_within.f k 0 15 (([a0_3] : List Int))).bind fun t134 => (some t134)) else (some false))) else (some false))) else (some false))) else (some false))) = some r := by first | (rw [hy121]; with_reducible exact H) | (have H2_ := (Option.bind_some _ _).symm.trans H; rw [hy121]; with_reducible exact H2_) | (have H2_ := (Option.bind_some _ _).symm.trans H; with_reducible exact H2_) | with_reducible exact H | (rw [hy121]; exact H) | exact H
  have Ny121 := Aside0.mk hy121
  clear hy121
  replace H := Option.bind_eq_some_iff.mp H
  obtain ⟨t124, A20, H⟩ := H
  replace H : (if t124 = true then ((label_within.f k 1 64 l0_1).bind fun t125 => (if t125 = true then ((label_ascending_int.f k l0_1).bind fun t126 => (if t126 = true then ((label_within.f k 0 5 (([a0_2] : List Int))).bind fun t130 => (if t130 = true then ((label_within.f k 0 15 (([a0_3] : List Int))).bind fun t134 => (some t134)) else (some false))) else (some false))) else (some false))) else (some false)) = some r := H
  have A2 := Aside0.mk A20
  clear A20
  by_cases c3 : t124 = true
  · subst c3
    have H1 : ((label_within.f k 1 64 l0_1).bind fun t125 => (if t125 = true then ((label_ascending_int.f k l0_1).bind fun t126 => (if t126 = true then ((label_within.f k 0 5 (([a0_2] : List Int))).bind fun t130 => (if t130 = true then ((label_within.f k 0 15 (([a0_3] : List Int))).bind fun t134 => (some t134)) else (some false))) else (some false))) else (some false))) = some r := by rw [if_pos rfl] at H; exact H
    clear H
    have H := H1
    clear H1
    replace H := Option.bind_eq_some_iff.mp H
    obtain ⟨t125, A40, H⟩ := H
    replace H : (if t125 = true then ((label_ascending_int.f k l0_1).bind fun t126 => (if t126 = true then ((label_within.f k 0 5 (([a0_2] : List Int))).bind fun t130 => (if t130 = true then ((label_within.f k 0 15 (([a0_3] : List Int))).bind fun t134 => (some t134)) else (some false))) else (some false))) else (some false)) = some r := H
    have A4 := Aside0.mk A40
    clear A40
    by_cases c5 : t125 = true
    · subst c5
      have H1 : ((label_ascending_int.f k l0_1).bind fun t126 => (if t126 = true then ((label_within.f k 0 5 (([a0_2] : List Int))).bind fun t130 => (if t130 = true then ((label_within.f k 0 15 (([a0_3] : List Int))).bind fun t134 => (some t134)) else (some false))) else (some false))) = some r := by rw [if_pos rfl] at H; exact H
      clear H
      have H := H1
      clear H1
      replace H := Option.bind_eq_some_iff.mp H
      obtain ⟨t126, A60, H⟩ := H
      replace H : (if t126 = true then ((label_within.f k 0 5 (([a0_2] : List Int))).bind fun t130 => (if t130 = true then ((label_within.f k 0 15 (([a0_3] : List Int))).bind fun t134 => (some t134)) else (some false))) else (some false)) = some r := H
      have A6 := Aside0.mk A60
      clear A60
      by_cases c7 : t126 = true
      · subst c7
        have H1 : ((label_within.f k 0 5 (([a0_2] : List Int))).bind fun t130 => (if t130 = true then ((label_within.f k 0 15 (([a0_3] : List Int))).bind fun t134 => (some t134)) else (some false))) = some r := by rw [if_pos rfl] at H; exact H
        clear H
        have H := H1
        clear H1
        obtain ⟨y127, hy127⟩ : ∃ y_ : List Int, y_ = (([a0_2] : List Int)) := ⟨_, rfl⟩
        replace H : ((label_within.f k 0 5 y127).bind fun t130 => (if t130 = true then ((label_within.f k 0 15 (([a0_3] : List Int))).bind fun t134 => (some t134)) else (some false))) = some r := by first | (rw [hy127]; with_reducible exact H) | (have H2_ := (Option.bind_some _ _).symm.trans H; rw [hy127]; with_reducible exact H2_) | (have H2_ := (Option.bind_some _ _).symm.trans H; with_reducible exact H2_) | with_reducible exact H | (rw [hy127]; exact H) | exact H
        have Ny127 := Aside0.mk hy127
        clear hy127
        replace H := Option.bind_eq_some_iff.mp H
        obtain ⟨t130, A80, H⟩ := H
        replace H : (if t130 = true then ((label_within.f k 0 15 (([a0_3] : List Int))).bind fun t134 => (some t134)) else (some false)) = some r := H
        have A8 := Aside0.mk A80
        clear A80
        by_cases c9 : t130 = true
        · subst c9
          have H1 : ((label_within.f k 0 15 (([a0_3] : List Int))).bind fun t134 => (some t134)) = some r := by rw [if_pos rfl] at H; exact H
          clear H
          have H := H1
          clear H1
          obtain ⟨y131, hy131⟩ : ∃ y_ : List Int, y_ = (([a0_3] : List Int)) := ⟨_, rfl⟩
          replace H : ((label_within.f k 0 15 y131).bind fun t134 => (some t134)) = some r := by first | (rw [hy131]; with_reducible exact H) | (have H2_ := (Option.bind_some _ _).symm.trans H; rw [hy131]; with_reducible exact H2_) | (have H2_ := (Option.bind_some _ _).symm.trans H; with_reducible exact H2_) | with_reducible exact H | (rw [hy131]; exact H) | exact H
          have Ny131 := Aside0.mk hy131
          clear hy131
          replace H := Option.bind_eq_some_iff.mp H
          obtain ⟨t134, A100, H⟩ := H
          replace H : (some t134) = some r := H
          have A10 := Aside0.mk A100
          clear A100
          obtain rfl := Option.some.inj H
          go_enter Tryz.func49, Tryz.ntmps49
          go_wp2_with (first | ((with_reducible refine gate_dst (N := 1) rfl ?_); (try (refine gate_guard (by rfl) ?_; dsimp only)); refine box_event ?hg (N := 1) ?hd (cs := #[.int .i64 a0_0, .slice A0_1 l0_1.length c0_1, .int .i64 a0_2, .int .i64 a0_3]) (t := 26) ?hr ?_; (case hd => rfl); (case hg => rfl); (case hr => first | (go_simp; done) | (go_simp; rfl)); intro gb120 hg w11 hbox hb; have n0_ := Aside0.mk (below_step (by repeat (first | (with_reducible first | exact HB.out | apply below_alloc | apply pw_below_drewN | apply below_drew1) | exact HB.out)) hb); have n1_ := Aside0.mk (hbox); have n2_ := Aside0.mk ((by rw [hg]; exact (below_size (by repeat (first | (with_reducible first | exact HB.out | apply below_alloc | apply pw_below_drewN | apply below_drew1) | exact HB.out))) : w.heap.size ≤ gb120)); have n3_ := Aside0.mk ((by rw [hg]; exact (below_size (by repeat (first | (with_reducible first | exact HB.out | apply below_alloc | apply pw_below_drewN | apply below_drew1) | exact HB.out))) : w.heap.size ≤ gb120)); clear HB; have HB := n0_; have BK120 := n1_; have GW120 := n2_; have GE120 := n3_; clear n0_ n1_ n2_ n3_; clear hb hbox hg; have hcz12_0 : w11.cell? ⟨gb120, 0, none⟩ = some (.int .i64 a0_0) := (blk_cell BK120.out 0).trans rfl; have hcz12_1 : w11.cell? ⟨gb120, 1, none⟩ = some (.slice A0_1 l0_1.length c0_1) := (blk_cell BK120.out 1).trans rfl; have hcz12_2 : w11.cell? ⟨gb120, 2, none⟩ = some (.int .i64 a0_2) := (blk_cell BK120.out 2).trans rfl; have hcz12_3 : w11.cell? ⟨gb120, 3, none⟩ = some (.int .i64 a0_3) := (blk_cell BK120.out 3).trans rfl; have hfz12_0 := blk_frozen BK120.out 0; have hfz12_1 := blk_frozen BK120.out 1; have hfz12_2 := blk_frozen BK120.out 2; have hfz12_3 := blk_frozen BK120.out 3) | ((with_reducible refine gate_dst (N := 5) rfl ?_); (try (refine gate_guard (by rfl) ?_; dsimp only)); refine Kd.R_lit (Kd.int .i64) _ 3 ?hg (N := 5) ?hd (xs := ([a0_0] : List Int)) (inner := [.int .i64 a0_0]) (ok := fun _ => True) (okp := fun _ => True) ?hr ?hp (fun _ hk => hk) trivial (Below.refl _ _) (Nat.le_refl _) (by simp) ?_; (case hd => rfl); (case hg => rfl); (case hr => first | (go_simp; done) | (go_simp; rfl)); (case hp => exact (Reps.one (show Kd.M (Kd.int .i64) _ _ _ a0_0 [.int .i64 a0_0] from rfl) (Reps.none _ _))); intro v122 w13 ho14 hb hg_ hnew_; clear hg_ hnew_; (first | rw [← Ny121.out] at ho14 | (simp only [Int.reduceToNat] at ho14; rw [← Ny121.out] at ho14)); have n0_ := Aside0.mk (Kd.R_lower ho14 (below_size (by repeat (first | (with_reducible first | exact HB.out | apply below_alloc | apply pw_below_drewN | apply below_drew1 | refine below_set ?_ GE120.out) | exact HB.out)))); have n1_ := Aside0.mk (blk_below (g := gb120) (o := .cells #[.int .i64 a0_0, .slice A0_1 l0_1.length c0_1, .int .i64 a0_2, .int .i64 a0_3] 26 (0, 0)) (by (with_reducible repeat (first | refine blk_drewN ?_ _ | refine blk_drew ?_ | refine blk_alloc ?_ _)); exact BK120.out) hb); have n2_ := Aside0.mk (below_step (by repeat (first | (with_reducible first | exact HB.out | apply below_alloc | apply pw_below_drewN | apply below_drew1 | refine below_set ?_ GE120.out) | exact HB.out)) hb); clear BK120; clear HB; have HO123 := n0_; have BK120 := n1_; have HB := n2_; clear n0_ n1_ n2_; clear hb ho14; obtain ⟨Ao15, co15, eo15⟩ := Kd.R_slice HO123.out; subst eo15) | ((with_reducible refine gate_callee (f := 68) rfl ?_); refine goesL_ (some 6) rfl rfl Tryz.func68 (by kernel_rfl) rfl #[.int .i64 0, .int .i64 1000000000, .slice Ao15 y121.length co15] rfl (by (try simp only [List.map_toArray, List.map_cons, List.map_nil]); first | done | rfl | (simp only [List.length_drop, List.length_take]; rfl)) ?_; (with_reducible refine (label_within.calls k 0 1000000000 _ _ y121 true _ ?side1 ?side2 A2.out).mono ?_); (case side1 => repeat (first | exact (Kd.R_reads' HO123.out).2.2 | (with_reducible refine Kd.C_alloc ?_ _) | (with_reducible refine Kd.C_drewN ?_ _) | (with_reducible refine Kd.C_drew ?_))); (case side2 => exact (Kd.R_reads' HO123.out).2.1); rintro e w' ⟨rfl, ⟨nd, rfl⟩⟩; refine ⟨_, rfl, ?_⟩; have hcz16_0 : w13.cell? ⟨gb120, 0, none⟩ = some (.int .i64 a0_0) := (blk_cell BK120.out 0).trans rfl; have hcz16_1 : w13.cell? ⟨gb120, 1, none⟩ = some (.slice A0_1 l0_1.length c0_1) := (blk_cell BK120.out 1).trans rfl; have hcz16_2 : w13.cell? ⟨gb120, 2, none⟩ = some (.int .i64 a0_2) := (blk_cell BK120.out 2).trans rfl; have hcz16_3 : w13.cell? ⟨gb120, 3, none⟩ = some (.int .i64 a0_3) := (blk_cell BK120.out 3).trans rfl; have hfz16_0 := blk_frozen BK120.out 0; have hfz16_1 := blk_frozen BK120.out 1; have hfz16_2 := blk_frozen BK120.out 2; have hfz16_3 := blk_frozen BK120.out 3) | (go_at_call 68; (with_reducible refine (label_within.calls k 1 64 _ _ l0_1 true _ ?side1 ?side2 A4.out).mono ?_); (case side1 => repeat (first | exact (Kd.C_below HR0_1.out (by repeat (first | (with_reducible first | exact HB.out | apply below_alloc | apply pw_below_drewN | apply below_drew1 | refine below_set ?_ GE120.out) | exact HB.out))) | (with_reducible refine Kd.C_alloc ?_ _) | (with_reducible refine Kd.C_drewN ?_ _) | (with_reducible refine Kd.C_drew ?_))); (case side2 => exact HC0_1.out); rintro e w' ⟨rfl, ⟨nd, rfl⟩⟩) | (go_at_call 69; (with_reducible refine (label_ascending_int.calls k _ _ l0_1 true _ ?side1 ?side2 A6.out).mono ?_); (case side1 => repeat (first | exact (Kd.C_below HR0_1.out (by repeat (first | (with_reducible first | exact HB.out | apply below_alloc | apply pw_below_drewN | apply below_drew1 | refine below_set ?_ GE120.out) | exact HB.out))) | (with_reducible refine Kd.C_alloc ?_ _) | (with_reducible refine Kd.C_drewN ?_ _) | (with_reducible refine Kd.C_drew ?_))); (case side2 => exact HC0_1.out); rintro e w' ⟨rfl, ⟨nd, rfl⟩⟩) | ((with_reducible refine gate_dst (N := 20) rfl ?_); (try (refine gate_guard (by rfl) ?_; dsimp only)); refine Kd.R_lit (Kd.int .i64) _ 3 ?hg (N := 20) ?hd (xs := ([a0_2] : List Int)) (inner := [.int .i64 a0_2]) (ok := fun _ => True) (okp := fun _ => True) ?hr ?hp (fun _ hk => hk) trivial (Below.refl _ _) (Nat.le_refl _) (by simp) ?_; (case hd => rfl); (case hg => rfl); (case hr => first | (go_simp; done) | (go_simp; rfl)); (case hp => exact (Reps.one (show Kd.M (Kd.int .i64) _ _ _ a0_2 [.int .i64 a0_2] from rfl) (Reps.none _ _))); intro v128 w17 ho18 hb hg_ hnew_; clear hg_ hnew_; (first | rw [← Ny127.out] at ho18 | (simp only [Int.reduceToNat] at ho18; rw [← Ny127.out] at ho18)); have n0_ := Aside0.mk (Kd.R_elder' (by (with_reducible repeat (first | apply Kd.R_alloc | apply Kd.R_drewN | apply Kd.R_drew)); exact HO123.out) (Kd.R_base ho18) hb); have n1_ := Aside0.mk (Kd.R_lower (Kd.R_new' ho18 (Kd.R_lt (by (with_reducible repeat (first | apply Kd.R_alloc | apply Kd.R_drewN | apply Kd.R_drew)); exact HO123.out))) (below_size (by repeat (first | (with_reducible first | exact HB.out | apply below_alloc | apply pw_below_drewN | apply below_drew1 | refine below_set ?_ GE120.out) | exact HB.out)))); have n2_ := Aside0.mk (blk_below (g := gb120) (o := .cells #[.int .i64 a0_0, .slice A0_1 l0_1.length c0_1, .int .i64 a0_2, .int .i64 a0_3] 26 (0, 0)) (by (with_reducible repeat (first | refine blk_drewN ?_ _ | refine blk_drew ?_ | refine blk_alloc ?_ _)); exact BK120.out) hb); have n3_ := Aside0.mk (below_step (by repeat (first | (with_reducible first | exact HB.out | apply below_alloc | apply pw_below_drewN | apply below_drew1 | refine below_set ?_ GE120.out) | exact HB.out)) hb); clear HO123; clear BK120; clear HB; have HO123 := n0_; have HO129 := n1_; have BK120 := n2_; have HB := n3_; clear n0_ n1_ n2_ n3_; clear hb ho18; obtain ⟨Ao19, co19, eo19⟩ := Kd.R_slice HO129.out; subst eo19) | (go_at_call 68; (with_reducible refine (label_within.calls k 0 5 _ _ y127 true _ ?side1 ?side2 A8.out).mono ?_); (case side1 => repeat (first | exact (Kd.R_reads' HO129.out).2.2 | (with_reducible refine Kd.C_alloc ?_ _) | (with_reducible refine Kd.C_drewN ?_ _) | (with_reducible refine Kd.C_drew ?_))); (case side2 => exact (Kd.R_reads' HO129.out).2.1); rintro e w' ⟨rfl, ⟨nd, rfl⟩⟩; have hcz20_0 : w17.cell? ⟨gb120, 0, none⟩ = some (.int .i64 a0_0) := (blk_cell BK120.out 0).trans rfl; have hcz20_1 : w17.cell? ⟨gb120, 1, none⟩ = some (.slice A0_1 l0_1.length c0_1) := (blk_cell BK120.out 1).trans rfl; have hcz20_2 : w17.cell? ⟨gb120, 2, none⟩ = some (.int .i64 a0_2) := (blk_cell BK120.out 2).trans rfl; have hcz20_3 : w17.cell? ⟨gb120, 3, none⟩ = some (.int .i64 a0_3) := (blk_cell BK120.out 3).trans rfl; have hfz20_0 := blk_frozen BK120.out 0; have hfz20_1 := blk_frozen BK120.out 1; have hfz20_2 := blk_frozen BK120.out 2; have hfz20_3 := blk_frozen BK120.out 3) | ((with_reducible refine gate_dst (N := 26) rfl ?_); (try (refine gate_guard (by rfl) ?_; dsimp only)); refine Kd.R_lit (Kd.int .i64) _ 3 ?hg (N := 26) ?hd (xs := ([a0_3] : List Int)) (inner := [.int .i64 a0_3]) (ok := fun _ => True) (okp := fun _ => True) ?hr ?hp (fun _ hk => hk) trivial (Below.refl _ _) (Nat.le_refl _) (by simp) ?_; (case hd => rfl); (case hg => rfl); (case hr => first | (go_simp; done) | (go_simp; rfl)); (case hp => exact (Reps.one (show Kd.M (Kd.int .i64) _ _ _ a0_3 [.int .i64 a0_3] from rfl) (Reps.none _ _))); intro v132 w21 ho22 hb hg_ hnew_; clear hg_ hnew_; (first | rw [← Ny131.out] at ho22 | (simp only [Int.reduceToNat] at ho22; rw [← Ny131.out] at ho22)); have n0_ := Aside0.mk (Kd.R_elder' (by (with_reducible repeat (first | apply Kd.R_alloc | apply Kd.R_drewN | apply Kd.R_drew)); exact HO123.out) (Kd.R_base ho22) hb); have n1_ := Aside0.mk (Kd.R_elder' (by (with_reducible repeat (first | apply Kd.R_alloc | apply Kd.R_drewN | apply Kd.R_drew)); exact HO129.out) (Kd.R_base ho22) hb); have n2_ := Aside0.mk (Kd.R_lower (Kd.R_new' (Kd.R_new' ho22 (Kd.R_lt (by (with_reducible repeat (first | apply Kd.R_alloc | apply Kd.R_drewN | apply Kd.R_drew)); exact HO123.out))) (Kd.R_lt (by (with_reducible repeat (first | apply Kd.R_alloc | apply Kd.R_drewN | apply Kd.R_drew)); exact HO129.out))) (below_size (by repeat (first | (with_reducible first | exact HB.out | apply below_alloc | apply pw_below_drewN | apply below_drew1 | refine below_set ?_ GE120.out) | exact HB.out)))); have n3_ := Aside0.mk (blk_below (g := gb120) (o := .cells #[.int .i64 a0_0, .slice A0_1 l0_1.length c0_1, .int .i64 a0_2, .int .i64 a0_3] 26 (0, 0)) (by (with_reducible repeat (first | refine blk_drewN ?_ _ | refine blk_drew ?_ | refine blk_alloc ?_ _)); exact BK120.out) hb); have n4_ := Aside0.mk (below_step (by repeat (first | (with_reducible first | exact HB.out | apply below_alloc | apply pw_below_drewN | apply below_drew1 | refine below_set ?_ GE120.out) | exact HB.out)) hb); clear HO123; clear HO129; clear BK120; clear HB; have HO123 := n0_; have HO129 := n1_; have HO133 := n2_; have BK120 := n3_; have HB := n4_; clear n0_ n1_ n2_ n3_ n4_; clear hb ho22; obtain ⟨Ao23, co23, eo23⟩ := Kd.R_slice HO133.out; subst eo23) | (go_at_call 68; (with_reducible refine (label_within.calls k 0 15 _ _ y131 t134 _ ?side1 ?side2 A10.out).mono ?_); (case side1 => repeat (first | exact (Kd.R_reads' HO133.out).2.2 | (with_reducible refine Kd.C_alloc ?_ _) | (with_reducible refine Kd.C_drewN ?_ _) | (with_reducible refine Kd.C_drew ?_))); (case side2 => exact (Kd.R_reads' HO133.out).2.1); rintro e w' ⟨rfl, ⟨nd, rfl⟩⟩))
          go_ret
          exact ⟨by first | rfl | (simp [errW_none, errW_some] <;> rfl) | (simp [*, errW_none, errW_some] <;> rfl), by repeat (first | (with_reducible first | exact HB.out | apply below_alloc | apply pw_below_drewN | apply below_drew1 | refine below_set ?_ GE120.out) | exact HB.out)⟩
        · replace c9 := Bool.eq_false_iff.mpr c9
          subst c9
          have H1 : (some false) = some r := by rw [if_neg (show ¬ (false = true) by decide)] at H; exact H
          clear H
          have H := H1
          clear H1
          obtain rfl := Option.some.inj H
          go_enter Tryz.func49, Tryz.ntmps49
          go_wp2_with (first | ((with_reducible refine gate_dst (N := 1) rfl ?_); (try (refine gate_guard (by rfl) ?_; dsimp only)); refine box_event ?hg (N := 1) ?hd (cs := #[.int .i64 a0_0, .slice A0_1 l0_1.length c0_1, .int .i64 a0_2, .int .i64 a0_3]) (t := 26) ?hr ?_; (case hd => rfl); (case hg => rfl); (case hr => first | (go_simp; done) | (go_simp; rfl)); intro gb120 hg w24 hbox hb; have n0_ := Aside0.mk (below_step (by repeat (first | (with_reducible first | exact HB.out | apply below_alloc | apply pw_below_drewN | apply below_drew1) | exact HB.out)) hb); have n1_ := Aside0.mk (hbox); have n2_ := Aside0.mk ((by rw [hg]; exact (below_size (by repeat (first | (with_reducible first | exact HB.out | apply below_alloc | apply pw_below_drewN | apply below_drew1) | exact HB.out))) : w.heap.size ≤ gb120)); have n3_ := Aside0.mk ((by rw [hg]; exact (below_size (by repeat (first | (with_reducible first | exact HB.out | apply below_alloc | apply pw_below_drewN | apply below_drew1) | exact HB.out))) : w.heap.size ≤ gb120)); clear HB; have HB := n0_; have BK120 := n1_; have GW120 := n2_; have GE120 := n3_; clear n0_ n1_ n2_ n3_; clear hb hbox hg; have hcz25_0 : w24.cell? ⟨gb120, 0, none⟩ = some (.int .i64 a0_0) := (blk_cell BK120.out 0).trans rfl; have hcz25_1 : w24.cell? ⟨gb120, 1, none⟩ = some (.slice A0_1 l0_1.length c0_1) := (blk_cell BK120.out 1).trans rfl; have hcz25_2 : w24.cell? ⟨gb120, 2, none⟩ = some (.int .i64 a0_2) := (blk_cell BK120.out 2).trans rfl; have hcz25_3 : w24.cell? ⟨gb120, 3, none⟩ = some (.int .i64 a0_3) := (blk_cell BK120.out 3).trans rfl; have hfz25_0 := blk_frozen BK120.out 0; have hfz25_1 := blk_frozen BK120.out 1; have hfz25_2 := blk_frozen BK120.out 2; have hfz25_3 := blk_frozen BK120.out 3) | ((with_reducible refine gate_dst (N := 5) rfl ?_); (try (refine gate_guard (by rfl) ?_; dsimp only)); refine Kd.R_lit (Kd.int .i64) _ 3 ?hg (N := 5) ?hd (xs := ([a0_0] : List Int)) (inner := [.int .i64 a0_0]) (ok := fun _ => True) (okp := fun _ => True) ?hr ?hp (fun _ hk => hk) trivial (Below.refl _ _) (Nat.le_refl _) (by simp) ?_; (case hd => rfl); (case hg => rfl); (case hr => first | (go_simp; done) | (go_simp; rfl)); (case hp => exact (Reps.one (show Kd.M (Kd.int .i64) _ _ _ a0_0 [.int .i64 a0_0] from rfl) (Reps.none _ _))); intro v122 w26 ho27 hb hg_ hnew_; clear hg_ hnew_; (first | rw [← Ny121.out] at ho27 | (simp only [Int.reduceToNat] at ho27; rw [← Ny121.out] at ho27)); have n0_ := Aside0.mk (Kd.R_lower ho27 (below_size (by repeat (first | (with_reducible first | exact HB.out | apply below_alloc | apply pw_below_drewN | apply below_drew1 | refine below_set ?_ GE120.out) | exact HB.out)))); have n1_ := Aside0.mk (blk_below (g := gb120) (o := .cells #[.int .i64 a0_0, .slice A0_1 l0_1.length c0_1, .int .i64 a0_2, .int .i64 a0_3] 26 (0, 0)) (by (with_reducible repeat (first | refine blk_drewN ?_ _ | refine blk_drew ?_ | refine blk_alloc ?_ _)); exact BK120.out) hb); have n2_ := Aside0.mk (below_step (by repeat (first | (with_reducible first | exact HB.out | apply below_alloc | apply pw_below_drewN | apply below_drew1 | refine below_set ?_ GE120.out) | exact HB.out)) hb); clear BK120; clear HB; have HO123 := n0_; have BK120 := n1_; have HB := n2_; clear n0_ n1_ n2_; clear hb ho27; obtain ⟨Ao28, co28, eo28⟩ := Kd.R_slice HO123.out; subst eo28) | ((with_reducible refine gate_callee (f := 68) rfl ?_); refine goesL_ (some 6) rfl rfl Tryz.func68 (by kernel_rfl) rfl #[.int .i64 0, .int .i64 1000000000, .slice Ao28 y121.length co28] rfl (by (try simp only [List.map_toArray, List.map_cons, List.map_nil]); first | done | rfl | (simp only [List.length_drop, List.length_take]; rfl)) ?_; (with_reducible refine (label_within.calls k 0 1000000000 _ _ y121 true _ ?side1 ?side2 A2.out).mono ?_); (case side1 => repeat (first | exact (Kd.R_reads' HO123.out).2.2 | (with_reducible refine Kd.C_alloc ?_ _) | (with_reducible refine Kd.C_drewN ?_ _) | (with_reducible refine Kd.C_drew ?_))); (case side2 => exact (Kd.R_reads' HO123.out).2.1); rintro e w' ⟨rfl, ⟨nd, rfl⟩⟩; refine ⟨_, rfl, ?_⟩; have hcz29_0 : w26.cell? ⟨gb120, 0, none⟩ = some (.int .i64 a0_0) := (blk_cell BK120.out 0).trans rfl; have hcz29_1 : w26.cell? ⟨gb120, 1, none⟩ = some (.slice A0_1 l0_1.length c0_1) := (blk_cell BK120.out 1).trans rfl; have hcz29_2 : w26.cell? ⟨gb120, 2, none⟩ = some (.int .i64 a0_2) := (blk_cell BK120.out 2).trans rfl; have hcz29_3 : w26.cell? ⟨gb120, 3, none⟩ = some (.int .i64 a0_3) := (blk_cell BK120.out 3).trans rfl; have hfz29_0 := blk_frozen BK120.out 0; have hfz29_1 := blk_frozen BK120.out 1; have hfz29_2 := blk_frozen BK120.out 2; have hfz29_3 := blk_frozen BK120.out 3) | (go_at_call 68; (with_reducible refine (label_within.calls k 1 64 _ _ l0_1 true _ ?side1 ?side2 A4.out).mono ?_); (case side1 => repeat (first | exact (Kd.C_below HR0_1.out (by repeat (first | (with_reducible first | exact HB.out | apply below_alloc | apply pw_below_drewN | apply below_drew1 | refine below_set ?_ GE120.out) | exact HB.out))) | (with_reducible refine Kd.C_alloc ?_ _) | (with_reducible refine Kd.C_drewN ?_ _) | (with_reducible refine Kd.C_drew ?_))); (case side2 => exact HC0_1.out); rintro e w' ⟨rfl, ⟨nd, rfl⟩⟩) | (go_at_call 69; (with_reducible refine (label_ascending_int.calls k _ _ l0_1 true _ ?side1 ?side2 A6.out).mono ?_); (case side1 => repeat (first | exact (Kd.C_below HR0_1.out (by repeat (first | (with_reducible first | exact HB.out | apply below_alloc | apply pw_below_drewN | apply below_drew1 | refine below_set ?_ GE120.out) | exact HB.out))) | (with_reducible refine Kd.C_alloc ?_ _) | (with_reducible refine Kd.C_drewN ?_ _) | (with_reducible refine Kd.C_drew ?_))); (case side2 => exact HC0_1.out); rintro e w' ⟨rfl, ⟨nd, rfl⟩⟩) | ((with_reducible refine gate_dst (N := 20) rfl ?_); (try (refine gate_guard (by rfl) ?_; dsimp only)); refine Kd.R_lit (Kd.int .i64) _ 3 ?hg (N := 20) ?hd (xs := ([a0_2] : List Int)) (inner := [.int .i64 a0_2]) (ok := fun _ => True) (okp := fun _ => True) ?hr ?hp (fun _ hk => hk) trivial (Below.refl _ _) (Nat.le_refl _) (by simp) ?_; (case hd => rfl); (case hg => rfl); (case hr => first | (go_simp; done) | (go_simp; rfl)); (case hp => exact (Reps.one (show Kd.M (Kd.int .i64) _ _ _ a0_2 [.int .i64 a0_2] from rfl) (Reps.none _ _))); intro v128 w30 ho31 hb hg_ hnew_; clear hg_ hnew_; (first | rw [← Ny127.out] at ho31 | (simp only [Int.reduceToNat] at ho31; rw [← Ny127.out] at ho31)); have n0_ := Aside0.mk (Kd.R_elder' (by (with_reducible repeat (first | apply Kd.R_alloc | apply Kd.R_drewN | apply Kd.R_drew)); exact HO123.out) (Kd.R_base ho31) hb); have n1_ := Aside0.mk (Kd.R_lower (Kd.R_new' ho31 (Kd.R_lt (by (with_reducible repeat (first | apply Kd.R_alloc | apply Kd.R_drewN | apply Kd.R_drew)); exact HO123.out))) (below_size (by repeat (first | (with_reducible first | exact HB.out | apply below_alloc | apply pw_below_drewN | apply below_drew1 | refine below_set ?_ GE120.out) | exact HB.out)))); have n2_ := Aside0.mk (blk_below (g := gb120) (o := .cells #[.int .i64 a0_0, .slice A0_1 l0_1.length c0_1, .int .i64 a0_2, .int .i64 a0_3] 26 (0, 0)) (by (with_reducible repeat (first | refine blk_drewN ?_ _ | refine blk_drew ?_ | refine blk_alloc ?_ _)); exact BK120.out) hb); have n3_ := Aside0.mk (below_step (by repeat (first | (with_reducible first | exact HB.out | apply below_alloc | apply pw_below_drewN | apply below_drew1 | refine below_set ?_ GE120.out) | exact HB.out)) hb); clear HO123; clear BK120; clear HB; have HO123 := n0_; have HO129 := n1_; have BK120 := n2_; have HB := n3_; clear n0_ n1_ n2_ n3_; clear hb ho31; obtain ⟨Ao32, co32, eo32⟩ := Kd.R_slice HO129.out; subst eo32) | (go_at_call 68; (with_reducible refine (label_within.calls k 0 5 _ _ y127 false _ ?side1 ?side2 A8.out).mono ?_); (case side1 => repeat (first | exact (Kd.R_reads' HO129.out).2.2 | (with_reducible refine Kd.C_alloc ?_ _) | (with_reducible refine Kd.C_drewN ?_ _) | (with_reducible refine Kd.C_drew ?_))); (case side2 => exact (Kd.R_reads' HO129.out).2.1); rintro e w' ⟨rfl, ⟨nd, rfl⟩⟩))
          go_ret
          exact ⟨by first | rfl | (simp [errW_none, errW_some] <;> rfl) | (simp [*, errW_none, errW_some] <;> rfl), by repeat (first | (with_reducible first | exact HB.out | apply below_alloc | apply pw_below_drewN | apply below_drew1 | refine below_set ?_ GE120.out) | exact HB.out)⟩
      · replace c7 := Bool.eq_false_iff.mpr c7
        subst c7
        have H1 : (some false) = some r := by rw [if_neg (show ¬ (false = true) by decide)] at H; exact H
        clear H
        have H := H1
        clear H1
        obtain rfl := Option.some.inj H
        go_enter Tryz.func49, Tryz.ntmps49
        go_wp2_with (first | ((with_reducible refine gate_dst (N := 1) rfl ?_); (try (refine gate_guard (by rfl) ?_; dsimp only)); refine box_event ?hg (N := 1) ?hd (cs := #[.int .i64 a0_0, .slice A0_1 l0_1.length c0_1, .int .i64 a0_2, .int .i64 a0_3]) (t := 26) ?hr ?_; (case hd => rfl); (case hg => rfl); (case hr => first | (go_simp; done) | (go_simp; rfl)); intro gb120 hg w33 hbox hb; have n0_ := Aside0.mk (below_step (by repeat (first | (with_reducible first | exact HB.out | apply below_alloc | apply pw_below_drewN | apply below_drew1) | exact HB.out)) hb); have n1_ := Aside0.mk (hbox); have n2_ := Aside0.mk ((by rw [hg]; exact (below_size (by repeat (first | (with_reducible first | exact HB.out | apply below_alloc | apply pw_below_drewN | apply below_drew1) | exact HB.out))) : w.heap.size ≤ gb120)); have n3_ := Aside0.mk ((by rw [hg]; exact (below_size (by repeat (first | (with_reducible first | exact HB.out | apply below_alloc | apply pw_below_drewN | apply below_drew1) | exact HB.out))) : w.heap.size ≤ gb120)); clear HB; have HB := n0_; have BK120 := n1_; have GW120 := n2_; have GE120 := n3_; clear n0_ n1_ n2_ n3_; clear hb hbox hg; have hcz34_0 : w33.cell? ⟨gb120, 0, none⟩ = some (.int .i64 a0_0) := (blk_cell BK120.out 0).trans rfl; have hcz34_1 : w33.cell? ⟨gb120, 1, none⟩ = some (.slice A0_1 l0_1.length c0_1) := (blk_cell BK120.out 1).trans rfl; have hcz34_2 : w33.cell? ⟨gb120, 2, none⟩ = some (.int .i64 a0_2) := (blk_cell BK120.out 2).trans rfl; have hcz34_3 : w33.cell? ⟨gb120, 3, none⟩ = some (.int .i64 a0_3) := (blk_cell BK120.out 3).trans rfl; have hfz34_0 := blk_frozen BK120.out 0; have hfz34_1 := blk_frozen BK120.out 1; have hfz34_2 := blk_frozen BK120.out 2; have hfz34_3 := blk_frozen BK120.out 3) | ((with_reducible refine gate_dst (N := 5) rfl ?_); (try (refine gate_guard (by rfl) ?_; dsimp only)); refine Kd.R_lit (Kd.int .i64) _ 3 ?hg (N := 5) ?hd (xs := ([a0_0] : List Int)) (inner := [.int .i64 a0_0]) (ok := fun _ => True) (okp := fun _ => True) ?hr ?hp (fun _ hk => hk) trivial (Below.refl _ _) (Nat.le_refl _) (by simp) ?_; (case hd => rfl); (case hg => rfl); (case hr => first | (go_simp; done) | (go_simp; rfl)); (case hp => exact (Reps.one (show Kd.M (Kd.int .i64) _ _ _ a0_0 [.int .i64 a0_0] from rfl) (Reps.none _ _))); intro v122 w35 ho36 hb hg_ hnew_; clear hg_ hnew_; (first | rw [← Ny121.out] at ho36 | (simp only [Int.reduceToNat] at ho36; rw [← Ny121.out] at ho36)); have n0_ := Aside0.mk (Kd.R_lower ho36 (below_size (by repeat (first | (with_reducible first | exact HB.out | apply below_alloc | apply pw_below_drewN | apply below_drew1 | refine below_set ?_ GE120.out) | exact HB.out)))); have n1_ := Aside0.mk (blk_below (g := gb120) (o := .cells #[.int .i64 a0_0, .slice A0_1 l0_1.length c0_1, .int .i64 a0_2, .int .i64 a0_3] 26 (0, 0)) (by (with_reducible repeat (first | refine blk_drewN ?_ _ | refine blk_drew ?_ | refine blk_alloc ?_ _)); exact BK120.out) hb); have n2_ := Aside0.mk (below_step (by repeat (first | (with_reducible first | exact HB.out | apply below_alloc | apply pw_below_drewN | apply below_drew1 | refine below_set ?_ GE120.out) | exact HB.out)) hb); clear BK120; clear HB; have HO123 := n0_; have BK120 := n1_; have HB := n2_; clear n0_ n1_ n2_; clear hb ho36; obtain ⟨Ao37, co37, eo37⟩ := Kd.R_slice HO123.out; subst eo37) | ((with_reducible refine gate_callee (f := 68) rfl ?_); refine goesL_ (some 6) rfl rfl Tryz.func68 (by kernel_rfl) rfl #[.int .i64 0, .int .i64 1000000000, .slice Ao37 y121.length co37] rfl (by (try simp only [List.map_toArray, List.map_cons, List.map_nil]); first | done | rfl | (simp only [List.length_drop, List.length_take]; rfl)) ?_; (with_reducible refine (label_within.calls k 0 1000000000 _ _ y121 true _ ?side1 ?side2 A2.out).mono ?_); (case side1 => repeat (first | exact (Kd.R_reads' HO123.out).2.2 | (with_reducible refine Kd.C_alloc ?_ _) | (with_reducible refine Kd.C_drewN ?_ _) | (with_reducible refine Kd.C_drew ?_))); (case side2 => exact (Kd.R_reads' HO123.out).2.1); rintro e w' ⟨rfl, ⟨nd, rfl⟩⟩; refine ⟨_, rfl, ?_⟩; have hcz38_0 : w35.cell? ⟨gb120, 0, none⟩ = some (.int .i64 a0_0) := (blk_cell BK120.out 0).trans rfl; have hcz38_1 : w35.cell? ⟨gb120, 1, none⟩ = some (.slice A0_1 l0_1.length c0_1) := (blk_cell BK120.out 1).trans rfl; have hcz38_2 : w35.cell? ⟨gb120, 2, none⟩ = some (.int .i64 a0_2) := (blk_cell BK120.out 2).trans rfl; have hcz38_3 : w35.cell? ⟨gb120, 3, none⟩ = some (.int .i64 a0_3) := (blk_cell BK120.out 3).trans rfl; have hfz38_0 := blk_frozen BK120.out 0; have hfz38_1 := blk_frozen BK120.out 1; have hfz38_2 := blk_frozen BK120.out 2; have hfz38_3 := blk_frozen BK120.out 3) | (go_at_call 68; (with_reducible refine (label_within.calls k 1 64 _ _ l0_1 true _ ?side1 ?side2 A4.out).mono ?_); (case side1 => repeat (first | exact (Kd.C_below HR0_1.out (by repeat (first | (with_reducible first | exact HB.out | apply below_alloc | apply pw_below_drewN | apply below_drew1 | refine below_set ?_ GE120.out) | exact HB.out))) | (with_reducible refine Kd.C_alloc ?_ _) | (with_reducible refine Kd.C_drewN ?_ _) | (with_reducible refine Kd.C_drew ?_))); (case side2 => exact HC0_1.out); rintro e w' ⟨rfl, ⟨nd, rfl⟩⟩) | (go_at_call 69; (with_reducible refine (label_ascending_int.calls k _ _ l0_1 false _ ?side1 ?side2 A6.out).mono ?_); (case side1 => repeat (first | exact (Kd.C_below HR0_1.out (by repeat (first | (with_reducible first | exact HB.out | apply below_alloc | apply pw_below_drewN | apply below_drew1 | refine below_set ?_ GE120.out) | exact HB.out))) | (with_reducible refine Kd.C_alloc ?_ _) | (with_reducible refine Kd.C_drewN ?_ _) | (with_reducible refine Kd.C_drew ?_))); (case side2 => exact HC0_1.out); rintro e w' ⟨rfl, ⟨nd, rfl⟩⟩))
        go_ret
        exact ⟨by first | rfl | (simp [errW_none, errW_some] <;> rfl) | (simp [*, errW_none, errW_some] <;> rfl), by repeat (first | (with_reducible first | exact HB.out | apply below_alloc | apply pw_below_drewN | apply below_drew1 | refine below_set ?_ GE120.out) | exact HB.out)⟩
    · replace c5 := Bool.eq_false_iff.mpr c5
      subst c5
      have H1 : (some false) = some r := by rw [if_neg (show ¬ (false = true) by decide)] at H; exact H
      clear H
      have H := H1
      clear H1
      obtain rfl := Option.some.inj H
      go_enter Tryz.func49, Tryz.ntmps49
      go_wp2_with (first | ((with_reducible refine gate_dst (N := 1) rfl ?_); (try (refine gate_guard (by rfl) ?_; dsimp only)); refine box_event ?hg (N := 1) ?hd (cs := #[.int .i64 a0_0, .slice A0_1 l0_1.length c0_1, .int .i64 a0_2, .int .i64 a0_3]) (t := 26) ?hr ?_; (case hd => rfl); (case hg => rfl); (case hr => first | (go_simp; done) | (go_simp; rfl)); intro gb120 hg w39 hbox hb; have n0_ := Aside0.mk (below_step (by repeat (first | (with_reducible first | exact HB.out | apply below_alloc | apply pw_below_drewN | apply below_drew1) | exact HB.out)) hb); have n1_ := Aside0.mk (hbox); have n2_ := Aside0.mk ((by rw [hg]; exact (below_size (by repeat (first | (with_reducible first | exact HB.out | apply below_alloc | apply pw_below_drewN | apply below_drew1) | exact HB.out))) : w.heap.size ≤ gb120)); have n3_ := Aside0.mk ((by rw [hg]; exact (below_size (by repeat (first | (with_reducible first | exact HB.out | apply below_alloc | apply pw_below_drewN | apply below_drew1) | exact HB.out))) : w.heap.size ≤ gb120)); clear HB; have HB := n0_; have BK120 := n1_; have GW120 := n2_; have GE120 := n3_; clear n0_ n1_ n2_ n3_; clear hb hbox hg; have hcz40_0 : w39.cell? ⟨gb120, 0, none⟩ = some (.int .i64 a0_0) := (blk_cell BK120.out 0).trans rfl; have hcz40_1 : w39.cell? ⟨gb120, 1, none⟩ = some (.slice A0_1 l0_1.length c0_1) := (blk_cell BK120.out 1).trans rfl; have hcz40_2 : w39.cell? ⟨gb120, 2, none⟩ = some (.int .i64 a0_2) := (blk_cell BK120.out 2).trans rfl; have hcz40_3 : w39.cell? ⟨gb120, 3, none⟩ = some (.int .i64 a0_3) := (blk_cell BK120.out 3).trans rfl; have hfz40_0 := blk_frozen BK120.out 0; have hfz40_1 := blk_frozen BK120.out 1; have hfz40_2 := blk_frozen BK120.out 2; have hfz40_3 := blk_frozen BK120.out 3) | ((with_reducible refine gate_dst (N := 5) rfl ?_); (try (refine gate_guard (by rfl) ?_; dsimp only)); refine Kd.R_lit (Kd.int .i64) _ 3 ?hg (N := 5) ?hd (xs := ([a0_0] : List Int)) (inner := [.int .i64 a0_0]) (ok := fun _ => True) (okp := fun _ => True) ?hr ?hp (fun _ hk => hk) trivial (Below.refl _ _) (Nat.le_refl _) (by simp) ?_; (case hd => rfl); (case hg => rfl); (case hr => first | (go_simp; done) | (go_simp; rfl)); (case hp => exact (Reps.one (show Kd.M (Kd.int .i64) _ _ _ a0_0 [.int .i64 a0_0] from rfl) (Reps.none _ _))); intro v122 w41 ho42 hb hg_ hnew_; clear hg_ hnew_; (first | rw [← Ny121.out] at ho42 | (simp only [Int.reduceToNat] at ho42; rw [← Ny121.out] at ho42)); have n0_ := Aside0.mk (Kd.R_lower ho42 (below_size (by repeat (first | (with_reducible first | exact HB.out | apply below_alloc | apply pw_below_drewN | apply below_drew1 | refine below_set ?_ GE120.out) | exact HB.out)))); have n1_ := Aside0.mk (blk_below (g := gb120) (o := .cells #[.int .i64 a0_0, .slice A0_1 l0_1.length c0_1, .int .i64 a0_2, .int .i64 a0_3] 26 (0, 0)) (by (with_reducible repeat (first | refine blk_drewN ?_ _ | refine blk_drew ?_ | refine blk_alloc ?_ _)); exact BK120.out) hb); have n2_ := Aside0.mk (below_step (by repeat (first | (with_reducible first | exact HB.out | apply below_alloc | apply pw_below_drewN | apply below_drew1 | refine below_set ?_ GE120.out) | exact HB.out)) hb); clear BK120; clear HB; have HO123 := n0_; have BK120 := n1_; have HB := n2_; clear n0_ n1_ n2_; clear hb ho42; obtain ⟨Ao43, co43, eo43⟩ := Kd.R_slice HO123.out; subst eo43) | ((with_reducible refine gate_callee (f := 68) rfl ?_); refine goesL_ (some 6) rfl rfl Tryz.func68 (by kernel_rfl) rfl #[.int .i64 0, .int .i64 1000000000, .slice Ao43 y121.length co43] rfl (by (try simp only [List.map_toArray, List.map_cons, List.map_nil]); first | done | rfl | (simp only [List.length_drop, List.length_take]; rfl)) ?_; (with_reducible refine (label_within.calls k 0 1000000000 _ _ y121 true _ ?side1 ?side2 A2.out).mono ?_); (case side1 => repeat (first | exact (Kd.R_reads' HO123.out).2.2 | (with_reducible refine Kd.C_alloc ?_ _) | (with_reducible refine Kd.C_drewN ?_ _) | (with_reducible refine Kd.C_drew ?_))); (case side2 => exact (Kd.R_reads' HO123.out).2.1); rintro e w' ⟨rfl, ⟨nd, rfl⟩⟩; refine ⟨_, rfl, ?_⟩; have hcz44_0 : w41.cell? ⟨gb120, 0, none⟩ = some (.int .i64 a0_0) := (blk_cell BK120.out 0).trans rfl; have hcz44_1 : w41.cell? ⟨gb120, 1, none⟩ = some (.slice A0_1 l0_1.length c0_1) := (blk_cell BK120.out 1).trans rfl; have hcz44_2 : w41.cell? ⟨gb120, 2, none⟩ = some (.int .i64 a0_2) := (blk_cell BK120.out 2).trans rfl; have hcz44_3 : w41.cell? ⟨gb120, 3, none⟩ = some (.int .i64 a0_3) := (blk_cell BK120.out 3).trans rfl; have hfz44_0 := blk_frozen BK120.out 0; have hfz44_1 := blk_frozen BK120.out 1; have hfz44_2 := blk_frozen BK120.out 2; have hfz44_3 := blk_frozen BK120.out 3) | (go_at_call 68; (with_reducible refine (label_within.calls k 1 64 _ _ l0_1 false _ ?side1 ?side2 A4.out).mono ?_); (case side1 => repeat (first | exact (Kd.C_below HR0_1.out (by repeat (first | (with_reducible first | exact HB.out | apply below_alloc | apply pw_below_drewN | apply below_drew1 | refine below_set ?_ GE120.out) | exact HB.out))) | (with_reducible refine Kd.C_alloc ?_ _) | (with_reducible refine Kd.C_drewN ?_ _) | (with_reducible refine Kd.C_drew ?_))); (case side2 => exact HC0_1.out); rintro e w' ⟨rfl, ⟨nd, rfl⟩⟩))
      go_ret
      exact ⟨by first | rfl | (simp [errW_none, errW_some] <;> rfl) | (simp [*, errW_none, errW_some] <;> rfl), by repeat (first | (with_reducible first | exact HB.out | apply below_alloc | apply pw_below_drewN | apply below_drew1 | refine below_set ?_ GE120.out) | exact HB.out)⟩
  · replace c3 := Bool.eq_false_iff.mpr c3
    subst c3
    have H1 : (some false) = some r := by rw [if_neg (show ¬ (false = true) by decide)] at H; exact H
    clear H
    have H := H1
    clear H1
    obtain rfl := Option.some.inj H
    go_enter Tryz.func49, Tryz.ntmps49
    go_wp2_with (first | ((with_reducible refine gate_dst (N := 1) rfl ?_); (try (refine gate_guard (by rfl) ?_; dsimp only)); refine box_event ?hg (N := 1) ?hd (cs := #[.int .i64 a0_0, .slice A0_1 l0_1.length c0_1, .int .i64 a0_2, .int .i64 a0_3]) (t := 26) ?hr ?_; (case hd => rfl); (case hg => rfl); (case hr => first | (go_simp; done) | (go_simp; rfl)); intro gb120 hg w45 hbox hb; have n0_ := Aside0.mk (below_step (by repeat (first | (with_reducible first | exact HB.out | apply below_alloc | apply pw_below_drewN | apply below_drew1) | exact HB.out)) hb); have n1_ := Aside0.mk (hbox); have n2_ := Aside0.mk ((by rw [hg]; exact (below_size (by repeat (first | (with_reducible first | exact HB.out | apply below_alloc | apply pw_below_drewN | apply below_drew1) | exact HB.out))) : w.heap.size ≤ gb120)); have n3_ := Aside0.mk ((by rw [hg]; exact (below_size (by repeat (first | (with_reducible first | exact HB.out | apply below_alloc | apply pw_below_drewN | apply below_drew1) | exact HB.out))) : w.heap.size ≤ gb120)); clear HB; have HB := n0_; have BK120 := n1_; have GW120 := n2_; have GE120 := n3_; clear n0_ n1_ n2_ n3_; clear hb hbox hg; have hcz46_0 : w45.cell? ⟨gb120, 0, none⟩ = some (.int .i64 a0_0) := (blk_cell BK120.out 0).trans rfl; have hcz46_1 : w45.cell? ⟨gb120, 1, none⟩ = some (.slice A0_1 l0_1.length c0_1) := (blk_cell BK120.out 1).trans rfl; have hcz46_2 : w45.cell? ⟨gb120, 2, none⟩ = some (.int .i64 a0_2) := (blk_cell BK120.out 2).trans rfl; have hcz46_3 : w45.cell? ⟨gb120, 3, none⟩ = some (.int .i64 a0_3) := (blk_cell BK120.out 3).trans rfl; have hfz46_0 := blk_frozen BK120.out 0; have hfz46_1 := blk_frozen BK120.out 1; have hfz46_2 := blk_frozen BK120.out 2; have hfz46_3 := blk_frozen BK120.out 3) | ((with_reducible refine gate_dst (N := 5) rfl ?_); (try (refine gate_guard (by rfl) ?_; dsimp only)); refine Kd.R_lit (Kd.int .i64) _ 3 ?hg (N := 5) ?hd (xs := ([a0_0] : List Int)) (inner := [.int .i64 a0_0]) (ok := fun _ => True) (okp := fun _ => True) ?hr ?hp (fun _ hk => hk) trivial (Below.refl _ _) (Nat.le_refl _) (by simp) ?_; (case hd => rfl); (case hg => rfl); (case hr => first | (go_simp; done) | (go_simp; rfl)); (case hp => exact (Reps.one (show Kd.M (Kd.int .i64) _ _ _ a0_0 [.int .i64 a0_0] from rfl) (Reps.none _ _))); intro v122 w47 ho48 hb hg_ hnew_; clear hg_ hnew_; (first | rw [← Ny121.out] at ho48 | (simp only [Int.reduceToNat] at ho48; rw [← Ny121.out] at ho48)); have n0_ := Aside0.mk (Kd.R_lower ho48 (below_size (by repeat (first | (with_reducible first | exact HB.out | apply below_alloc | apply pw_below_drewN | apply below_drew1 | refine below_set ?_ GE120.out) | exact HB.out)))); have n1_ := Aside0.mk (blk_below (g := gb120) (o := .cells #[.int .i64 a0_0, .slice A0_1 l0_1.length c0_1, .int .i64 a0_2, .int .i64 a0_3] 26 (0, 0)) (by (with_reducible repeat (first | refine blk_drewN ?_ _ | refine blk_drew ?_ | refine blk_alloc ?_ _)); exact BK120.out) hb); have n2_ := Aside0.mk (below_step (by repeat (first | (with_reducible first | exact HB.out | apply below_alloc | apply pw_below_drewN | apply below_drew1 | refine below_set ?_ GE120.out) | exact HB.out)) hb); clear BK120; clear HB; have HO123 := n0_; have BK120 := n1_; have HB := n2_; clear n0_ n1_ n2_; clear hb ho48; obtain ⟨Ao49, co49, eo49⟩ := Kd.R_slice HO123.out; subst eo49) | ((with_reducible refine gate_callee (f := 68) rfl ?_); refine goesL_ (some 6) rfl rfl Tryz.func68 (by kernel_rfl) rfl #[.int .i64 0, .int .i64 1000000000, .slice Ao49 y121.length co49] rfl (by (try simp only [List.map_toArray, List.map_cons, List.map_nil]); first | done | rfl | (simp only [List.length_drop, List.length_take]; rfl)) ?_; (with_reducible refine (label_within.calls k 0 1000000000 _ _ y121 false _ ?side1 ?side2 A2.out).mono ?_); (case side1 => repeat (first | exact (Kd.R_reads' HO123.out).2.2 | (with_reducible refine Kd.C_alloc ?_ _) | (with_reducible refine Kd.C_drewN ?_ _) | (with_reducible refine Kd.C_drew ?_))); (case side2 => exact (Kd.R_reads' HO123.out).2.1); rintro e w' ⟨rfl, ⟨nd, rfl⟩⟩; refine ⟨_, rfl, ?_⟩))
    go_ret
    exact ⟨by first | rfl | (simp [errW_none, errW_some] <;> rfl) | (simp [*, errW_none, errW_some] <;> rfl), by repeat (first | (with_reducible first | exact HB.out | apply below_alloc | apply pw_below_drewN | apply below_drew1 | refine below_set ?_ GE120.out) | exact HB.out)⟩
end Go.Proofs.YtkhgdglaophkbaaGreatDoor.PK
end
section
namespace Go.Proofs.YtkhgdglaophkbaaGreatDoor.PK
open Go.RowKit Go.Proofs.YtkhgdglaophkbaaGreatDoorW.PrintWords Go.Proofs.YtkhgdglaophkbaaGreatDoorW.PrintLast Go.Proofs.YtkhgdglaophkbaaGreatDoorW.PrintMore
attribute [local go_sem] max2_int min2_int max_two min_two max_three min_three max_four min_four   -- for this text's walks alone
set_option linter.unusedVariables false
set_option linter.unusedSimpArgs false
def block_within.f (a0 : Int) (a1 : Int) : Option (Bool) := if a0 ≥ 1 then (some (decide (a0 ≤ a1))) else (some false)
set_option maxHeartbeats 8000000 in
set_option maxRecDepth 100000 in
theorem block_within.calls (a0 : Int) (a1 : Int) (r : Bool) (w : World) (h : block_within.f a0 a1 = some r) :
    Calls Tryz.prog 74 #[.int .i64 a0, .int .i64 a1] w fun e w' => e = .returned (.bool r) ∧ Drawn0 w w' := by
  have H : (if a0 ≥ 1 then (some (decide (a0 ≤ a1))) else (some false)) = some r := h
  clear h
  by_cases c3 : a0 ≥ 1
  · rw [if_pos c3] at H
    have c3b0 : decide (1 ≤ a0) = true := decide_eq_true c3
    clear c3
    obtain rfl := Option.some.inj H
    go_enter Tryz.func74, Tryz.ntmps74
    go_wp2
    go_ret
    exact ⟨by first | rfl | (simp; done) | (simp [*]; done), by repeat (first | exact Drawn0.refl _ | apply Drawn0.step)⟩
  · rw [if_neg c3] at H
    have c3b0 : decide (1 ≤ a0) = false := decide_eq_false c3
    clear c3
    obtain rfl := Option.some.inj H
    go_enter Tryz.func74, Tryz.ntmps74
    go_wp2
    go_ret
    exact ⟨by first | rfl | (simp; done) | (simp [*]; done), by repeat (first | exact Drawn0.refl _ | apply Drawn0.step)⟩
end Go.Proofs.YtkhgdglaophkbaaGreatDoor.PK
end
section
namespace Go.Proofs.YtkhgdglaophkbaaGreatDoor.PK
open Go.RowKit Go.Proofs.YtkhgdglaophkbaaGreatDoorW.PrintWords Go.Proofs.YtkhgdglaophkbaaGreatDoorW.PrintLast Go.Proofs.YtkhgdglaophkbaaGreatDoorW.PrintMore
attribute [local go_sem] max2_int min2_int max_two min_two max_three min_three max_four min_four   -- for this text's walks alone
set_option linter.unusedVariables false
set_option linter.unusedSimpArgs false
def block_isName.f (a0 : ByteArray) : Option Bool := some (m_name a0)
def bk_nameOdd (r : Nat) : Bool := (decide (r < 97) || decide (122 < r)) && (decide (r < 48) || decide (57 < r)) && (r != 45)
theorem bk_oddName (w : World) : Go.Proofs.PredAt Tryz.prog 92 #[] encR bk_nameOdd w := fun W r _ => by
  unfold FnGives bk_nameOdd
  by_cases h1 : r < 97 <;> by_cases h2 : 122 < r <;> by_cases h3 : r < 48 <;> by_cases h4 : 57 < r <;> by_cases h5 : r = 45
  all_goals first
    | (exfalso; omega)
    | (have z1 : (r : Int) < 97 ↔ r < 97 := by omega
       have z2 : (122 : Int) < (r : Int) ↔ 122 < r := by omega
       have z3 : (r : Int) < 48 ↔ r < 48 := by omega
       have z4 : (57 : Int) < (r : Int) ↔ 57 < r := by omega
       have z5 : ((r : Int) == 45) = decide (r = 45) := by rw [Bool.eq_iff_iff]; simp; omega
       have z6 : ((r : Int) != 45) = !decide (r = 45) := by rw [bne, z5]
       go_enter Tryz.func92, Tryz.ntmps92
       go_wp2
       all_goals first | (exfalso; omega) | (go_ret; exact ⟨by simp [h1, h2, h3, h4, h5], 0, rfl⟩))
set_option maxHeartbeats 1000000 in
theorem bk_isName (s : ByteArray) (w : World) :
    Calls Tryz.prog 87 #[.string s] w fun e w' => e = .returned (.bool (m_name s)) ∧ Below w.heap.size w w' := by
  have hC := Tryz.strings_IndexFunc 92 #[] (enters_of Tryz.func92 (by kernel_rfl) rfl) _ s w (bk_oddName w)
  have hx := Bk.idx_all bk_nameOdd (fun r h => by simp [bk_nameOdd] <;> omega) s
  have hy : s.data.toList.all (fun c => !bk_nameOdd c.toNat) = s.data.toList.all (fun c => (decide (97 ≤ c.toNat) && decide (c.toNat ≤ 122)) || (decide (48 ≤ c.toNat) && decide (c.toNat ≤ 57)) || c.toNat == 45) := by
    congr 1; funext c; rw [Bool.eq_iff_iff]; simp [bk_nameOdd] <;> omega
  have hz : m_name s = ((decide (1 ≤ s.size) && decide (s.size ≤ 20)) && decide (Lib.idxFunc bk_nameOdd true s < 0)) := by rw [hx]; unfold m_name; rw [← hy]
  have HZ := Aside0.mk hz
  clear hx hy hz
  generalize Lib.idxFunc bk_nameOdd true s = I at hC HZ
  by_cases h1 : 1 ≤ s.size <;> by_cases h2 : s.size ≤ 20
  all_goals
    have z1 : (1 : Int) ≤ (s.size : Int) ↔ 1 ≤ s.size := by omega
    have z2 : (s.size : Int) ≤ 20 ↔ s.size ≤ 20 := by omega
    go_enter Tryz.func87, Tryz.ntmps87
    go_wp2_with (first | (go_at_call 89; refine hC.mono ?_; rintro e w' ⟨rfl, hb⟩) | go_in)
    all_goals first | (exfalso; omega) | (go_ret; exact ⟨by rw [HZ.out]; simp [h1, h2], by first | assumption | exact Below.refl _ _⟩)
theorem block_isName.calls (a0 : ByteArray) (r : Bool) (w : World) (h : block_isName.f a0 = some r) :
    Calls Tryz.prog 87 #[.string a0] w fun e w' => e = .returned (.bool r) ∧ Below w.heap.size w w' := by
  obtain rfl := Option.some.inj h
  exact bk_isName a0 w
end Go.Proofs.YtkhgdglaophkbaaGreatDoor.PK
end
section
namespace Go.Proofs.YtkhgdglaophkbaaGreatDoor.PK
open Go.RowKit Go.Proofs.YtkhgdglaophkbaaGreatDoorW.PrintWords Go.Proofs.YtkhgdglaophkbaaGreatDoorW.PrintLast Go.Proofs.YtkhgdglaophkbaaGreatDoorW.PrintMore
attribute [local go_sem] max2_int min2_int max_two min_two max_three min_three max_four min_four   -- for this text's walks alone
set_option linter.unusedVariables false
set_option linter.unusedSimpArgs false
def block_isText.f (a0 : ByteArray) : Option Bool := some (m_text a0)
theorem bk_oddText (w : World) : Go.Proofs.PredAt Tryz.prog 88 #[] encR (fun r => decide (r < 32) || decide (126 < r)) w := fun W r _ => by
  unfold FnGives
  by_cases h1 : r < 32 <;> by_cases h2 : 126 < r
  all_goals
    have z1 : (r : Int) < 32 ↔ r < 32 := by omega
    have z2 : (126 : Int) < (r : Int) ↔ 126 < r := by omega
    go_enter Tryz.func88, Tryz.ntmps88
    go_wp2
    all_goals first | (exfalso; omega) | (go_ret; exact ⟨by simp [h1, h2], 0, rfl⟩)
set_option maxHeartbeats 1000000 in
theorem bk_isText (s : ByteArray) (w : World) :
    Calls Tryz.prog 75 #[.string s] w fun e w' => e = .returned (.bool (m_text s)) ∧ Below w.heap.size w w' := by
  have hC := Tryz.strings_IndexFunc 88 #[] (enters_of Tryz.func88 (by kernel_rfl) rfl) _ s w (bk_oddText w)
  have hx := Bk.idx_all (fun r => decide (r < 32) || decide (126 < r)) (fun r h => by simp; omega) s
  have hy : s.data.toList.all (fun c => !(decide (c.toNat < 32) || decide (126 < c.toNat))) = s.data.toList.all (fun c => decide (32 ≤ c.toNat) && decide (c.toNat ≤ 126)) := by
    congr 1; funext c; rw [Bool.eq_iff_iff]; simp
  have hz : m_text s = (decide (s.size ≤ 300) && decide (Lib.idxFunc (fun r => decide (r < 32) || decide (126 < r)) true s < 0)) := by rw [hx]; unfold m_text; rw [← hy]
  have HZ := Aside0.mk hz
  clear hx hy hz
  generalize Lib.idxFunc (fun r => decide (r < 32) || decide (126 < r)) true s = I at hC HZ
  by_cases hs : s.size ≤ 300
  · have hd : decide ((s.size : Int) ≤ 300) = true := by simp; omega
    have hd2 : decide (s.size ≤ 300) = true := by simpa using hs
    go_enter Tryz.func75, Tryz.ntmps75
    go_wp2_with (go_at_call 89; refine hC.mono ?_; rintro e w' ⟨rfl, hb⟩)
    go_ret
    exact ⟨by rw [HZ.out]; simp [hs], hb⟩
  · have hd : decide ((s.size : Int) ≤ 300) = false := by simp; omega
    go_enter Tryz.func75, Tryz.ntmps75
    go_wp2_with (go_at_call 89; refine hC.mono ?_; rintro e w' ⟨rfl, hb⟩)
    go_ret
    exact ⟨by rw [HZ.out]; simp [hs], Below.refl _ _⟩
theorem block_isText.calls (a0 : ByteArray) (r : Bool) (w : World) (h : block_isText.f a0 = some r) :
    Calls Tryz.prog 75 #[.string a0] w fun e w' => e = .returned (.bool r) ∧ Below w.heap.size w w' := by
  obtain rfl := Option.some.inj h
  exact bk_isText a0 w
end Go.Proofs.YtkhgdglaophkbaaGreatDoor.PK
end
