/- Texts of this claim, one behind the other. -/
import Derived.Test.YtkhgdglaophkbaaGreatDoorMUx6
import Derived.Test.YtkhgdglaophkbaaGreatDoorMUx11
import Derived.Test.YtkhgdglaophkbaaGreatDoorMUx12
import Derived.Test.YtkhgdglaophkbaaGreatDoorMUx4
import Derived.Deep.RegionWith
import Derived.Defers
import Derived.Recover
import Derived.BigRegion
import Derived.RegionTactic
import Derived.ChangeAlike
section
set_option linter.unusedVariables false
set_option linter.unusedSimpArgs false
namespace Go.Proofs.YtkhgdglaophkbaaGreatDoor.PK
open Go.RowKit Go.Proofs.YtkhgdglaophkbaaGreatDoorW.PrintWords Go.Proofs.YtkhgdglaophkbaaGreatDoorW.PrintLast Go.Proofs.YtkhgdglaophkbaaGreatDoorW.PrintMore
theorem is_storeFa {P : Program} {W : World} {ops : Array Oper} {rest : List Oper} {o : Oper} {a : Act} {Q : Exit → Act → World → Prop} {p x : Operand} (_ : o.op = .store 28 p x) (h : wpList P ops Q (o :: rest) a W) : wpList P ops Q (o :: rest) a W := h
theorem stop_size : (Tryz.prog.info? 69).map (·.size) = some 1 := by kernel_rfl
theorem ed_idle (pf pe : Nat) (w : World) : CallsD Tryz.prog 32 #[.pointer (some ⟨pf, 0, none⟩), .pointer (some ⟨pe, 0, none⟩)] .returning w fun e u' w' => e = .returned (.tuple #[]) ∧ u' = .returning ∧ w' = w := by
  refine callsD_of_wpS Tryz.func32 rfl fun c₀ cs hu => ?_
  apply wpS_seq
  apply wpS_region
  have hr : recoverD (c₀ :: cs) = none := by simp [recoverD, hu]
  have hc : ({ c₀ with mode := .returning } : Frame) = c₀ := by rw [← hu]
  clear hu
  obtain ⟨fr, hfr⟩ : ∃ fr, c₀ :: cs = fr := ⟨_, rfl⟩
  rw [hfr] at hr ⊢
  show wpOpsS _ _ _ [0, 1] _ _ _
  simp [wpOpsS, go_sem, hr, Tryz.ntmps32]
  show Code.wpS _ _ _ { tmps := #[.pointer (some ⟨pf, 0, none⟩), .pointer (some ⟨pe, 0, none⟩), .nilIface, undef, undef, .nilIface, undef, undef, undef, undef, undef, undef, undef, undef, undef, undef, undef], defers := [] } fr w
  refine wpS_of_wp ?_
  have HFR := Aside0.mk hfr
  have HC := Aside0.mk hc
  clear hr hc hfr
  go_wp2
  exact ⟨rfl, .returning, by rw [← HFR.out, HC.out], _, results_none rfl _ _ _, rfl, rfl, rfl⟩
set_option maxHeartbeats 1000000 in
set_option maxRecDepth 100000 in
theorem ed_stop (pf pe : Nat) (er e0 : Int) (older : List PanicEntry) (w : World) (cs0 : Array Value) (hf : w.heap[pf]? = some (.cells cs0 28 (0, 0))) (hsz : cs0.size = 23) (he : w.heap[pe]? = some (.cells #[.int .i64 e0] 31 (0, 0))) (hne : pf ≠ pe) :
    CallsD Tryz.prog 32 #[.pointer (some ⟨pf, 0, none⟩), .pointer (some ⟨pe, 0, none⟩)] (.panicking ({ v := stopV er, recovered := false } :: older)) w fun e u' w' =>
      e = .returned (.tuple #[]) ∧ u' = .panicking ({ v := stopV er, recovered := true } :: older) ∧ w'.heap[pf]? = some (.cells #[.int .i64 0, .int .i64 0, .int .i64 0, .int .i64 0, .string (⟨#[]⟩ : ByteArray), .int .i64 0, .int .i64 0, .string (⟨#[]⟩ : ByteArray), .string (⟨#[]⟩ : ByteArray), .slice none 0 0, .slice none 0 0, .int .i64 0, .slice none 0 0, .int .i64 0, .int .i64 0, .int .i64 0, .int .i64 0, .int .i64 0, .string (⟨#[]⟩ : ByteArray), .string (⟨#[]⟩ : ByteArray), .int .i64 0, .int .i64 0, .int .i64 0] 28 (0, 0)) ∧ w'.heap[pe]? = some (.cells #[.int .i64 er] 31 (0, 0)) ∧ (∀ B, B ≤ pf → B ≤ pe → B ≤ w.heap.size → Below B w w') := by
  refine callsD_of_wpS Tryz.func32 rfl fun c₀ cs hu => ?_
  apply wpS_seq
  apply wpS_region
  have hr : recoverD (c₀ :: cs) = some (stopV er, { c₀ with mode := .panicking ({ v := stopV er, recovered := true } :: older) } :: cs) := by simp [recoverD, hu]
  clear hu
  have hta : ∀ w : World, (Instr.typeAssert (.iface 69 (.agg #[.int .i64 er])) 20 69 true).run Tryz.prog w = .ok (.tuple #[.agg #[.int .i64 er], .bool true]) w := fun w => by kernel_rfl
  obtain ⟨fr, hfr⟩ : ∃ fr, ({ c₀ with mode := .panicking ({ v := stopV er, recovered := true } :: older) } : Frame) :: cs = fr := ⟨_, rfl⟩
  rw [hfr] at hr
  show wpOpsS _ _ _ [0, 1] _ _ _
  simp [wpOpsS, go_sem, hr, Tryz.ntmps32]
  show Code.wpS _ _ _ { tmps := #[.pointer (some ⟨pf, 0, none⟩), .pointer (some ⟨pe, 0, none⟩), .iface 69 (.agg #[.int .i64 er]), undef, undef, .iface 69 (.agg #[.int .i64 er]), undef, undef, undef, undef, undef, undef, undef, undef, undef, undef, undef], defers := [] } fr w
  refine wpS_of_wp ?_
  have HFR := Aside0.mk hfr
  have HFF := Aside0.mk hf
  have HSZ := Aside0.mk hsz
  have HE := Aside0.mk he
  clear hr hfr hf hsz he
  go_wp2_with (with_reducible refine is_storeFa rfl ?_; refine Rg.stop_here ?_)
  refine ⟨?_⟩
  refine wpList_store_box rfl rfl _ _ _ rfl pf cs0 #[.int .i64 0, .int .i64 0, .int .i64 0, .int .i64 0, .string (⟨#[]⟩ : ByteArray), .int .i64 0, .int .i64 0, .string (⟨#[]⟩ : ByteArray), .string (⟨#[]⟩ : ByteArray), .slice none 0 0, .slice none 0 0, .int .i64 0, .slice none 0 0, .int .i64 0, .int .i64 0, .int .i64 0, .int .i64 0, .int .i64 0, .string (⟨#[]⟩ : ByteArray), .string (⟨#[]⟩ : ByteArray), .int .i64 0, .int .i64 0, .int .i64 0] _ rfl rfl HFF.out fa_size (by rw [HSZ.out]; rfl) (by repeat (first | exact List.forall_mem_nil _ | refine List.forall_mem_cons.2 ⟨rfl, ?_⟩)) ?_
  intro w1 hx1 hst hot
  have he1 := (hot pe (Ne.symm hne)).trans HE.out
  have c1 : w1.cell? ⟨pe, 0, none⟩ = some (.int .i64 e0) := bk_cell he1 0
  have z1 := bk_frozen he1 0
  have HX1 := Aside0.mk hx1
  have HE1 := Aside0.mk he1
  have HST := Aside0.mk (show ∀ B, B ≤ pf → Below B w w1 from hst)
  clear hx1 he1 hst hot HFF HE
  go_upto_region 3 with fail
  obtain ⟨w2, hw2⟩ : ∃ w2, w1.setCell ⟨pe, 0, none⟩ (.int .i64 10) = w2 := ⟨_, rfl⟩
  rw [hw2]
  have HX2 : Aside0 (w2.heap[pf]? = some (.cells #[.int .i64 0, .int .i64 0, .int .i64 0, .int .i64 0, .string (⟨#[]⟩ : ByteArray), .int .i64 0, .int .i64 0, .string (⟨#[]⟩ : ByteArray), .string (⟨#[]⟩ : ByteArray), .slice none 0 0, .slice none 0 0, .int .i64 0, .slice none 0 0, .int .i64 0, .int .i64 0, .int .i64 0, .int .i64 0, .int .i64 0, .string (⟨#[]⟩ : ByteArray), .string (⟨#[]⟩ : ByteArray), .int .i64 0, .int .i64 0, .int .i64 0] 28 (0, 0))) := ⟨by rw [← hw2]; exact blk_far HX1.out hne _⟩
  have HE2 : Aside0 (w2.heap[pe]? = some (.cells #[.int .i64 10] 31 (0, 0))) := ⟨by rw [← hw2]; exact blk_set HE1.out 0 _⟩
  have HB2 : Aside0 (∀ B, B ≤ pf → B ≤ pe → Below B w w2) := ⟨fun B h1 h2 => by rw [← hw2]; exact (HST.out B h1).setCell h2 _⟩
  clear hw2 c1 z1 HX1 HE1 HST
  go_wp2_with (with_reducible refine is_alloc rfl ?_; refine Rg.stop_here ?_)
  refine ⟨?_⟩
  refine box_event rfl (N := 3) rfl (cs := #[.int .i64 0]) (t := 69) (by first | (go_simp; done) | (go_simp; rfl)) ?_
  intro p3 hp3 w3 hbx hb3
  have g3 : w2.heap.size ≤ p3 := Nat.le_of_eq hp3.symm
  have HX3 := Aside0.mk (blk_below HX2.out hb3)
  have HE3 := Aside0.mk (blk_below HE2.out hb3)
  have HBX := Aside0.mk hbx
  have HB3 := Aside0.mk hb3
  have n1 : p3 ≠ pf := by have := blk_lt HX2.out; omega
  have n2 : p3 ≠ pe := by have := blk_lt HE2.out; omega
  clear hp3 hbx hb3 hta
  go_wp2_with (with_reducible refine is_store rfl ?_; refine Rg.stop_here ?_)
  refine ⟨?_⟩
  refine wpList_store_box rfl rfl _ _ _ rfl p3 #[.int .i64 0] #[.int .i64 er] _ rfl rfl HBX.out stop_size rfl (by repeat (first | exact List.forall_mem_nil _ | refine List.forall_mem_cons.2 ⟨rfl, ?_⟩)) ?_
  intro w4 hx4 hst hot
  have he4 := (hot pe (Ne.symm n2)).trans HE3.out
  have hf4 := (hot pf (Ne.symm n1)).trans HX3.out
  have c3 : w4.cell? ⟨p3, 0, none⟩ = some (.int .i64 er) := bk_cell hx4 0
  have c4 : w4.cell? ⟨pe, 0, none⟩ = some (.int .i64 10) := bk_cell he4 0
  have z4 := bk_frozen he4 0
  have HX4 := Aside0.mk hf4
  have HE4 := Aside0.mk he4
  have HB4 : Aside0 (∀ B, B ≤ pf → B ≤ pe → B ≤ w.heap.size → Below B w w4) := ⟨fun B h1 h2 h3 => by
    have hs := (HB2.out B h1 h2).size
    have hs2 := blk_lt HX2.out
    exact ((HB2.out B h1 h2).trans (bk_below_mono HB3.out (by omega))).trans (hst B (by omega))⟩
  clear hx4 he4 hf4 hst hot HB2 HB3 HBX HX3 HE3 HX2 HE2
  go_wp2
  refine ⟨rfl, _, by rw [← HFR.out], _, results_none rfl _ _ _, rfl, rfl, blk_far HX4.out hne _, blk_set HE4.out 0 _, fun B h1 h2 h3 => (HB4.out B h1 h2 h3).setCell h2 _⟩
end Go.Proofs.YtkhgdglaophkbaaGreatDoor.PK
end
section
set_option linter.unusedVariables false
set_option linter.unusedSimpArgs false
namespace Go.Proofs.YtkhgdglaophkbaaGreatDoor.PK
open Go.RowKit Go.Proofs.YtkhgdglaophkbaaGreatDoorW.PrintWords Go.Proofs.YtkhgdglaophkbaaGreatDoorW.PrintLast Go.Proofs.YtkhgdglaophkbaaGreatDoorW.PrintMore
theorem results_ce {P : Program} {fn : Func} {p q : Tmp} {ty te : TypeId} (h : fn.results = #[.cell p ty, .cell q te]) (tmps : Array Value) (w : World) (g g' : Nat) (t : TypeId) (cs : Array Value) (fr : Nat × Nat) (d : TypeDesc) (er : Int)
    (hp : tmps.getD p undef = .pointer (some ⟨g, 0, none⟩)) (hg : w.heap[g]? = some (.cells cs t fr))
    (hu : P.underlying ty = some d) (hd : (match d with | .struct _ | .array _ _ => true | _ => false) = true) (hi : (P.info? ty).map (·.size) = some cs.size)
    (hq : tmps.getD q undef = .pointer (some ⟨g', 0, none⟩)) (hl : (loadVar te ⟨g', 0, none⟩).run P w = .ok (.int .i64 er) w) :
    (results fn tmps).run P w = .ok (.tuple #[.agg cs, .int .i64 er]) w := by
  have h1 : tmps[p]?.getD undef = .pointer (some ⟨g, 0, none⟩) := by simpa using hp
  have h2 : tmps[q]?.getD undef = .pointer (some ⟨g', 0, none⟩) := by simpa using hq
  simp [results, h, h1, h2, asAddr, run_loadVar_row w g t ty cs fr d hg hu hd hi, hl]
theorem dec_load (w : World) (g : Nat) (er : Int) (h : w.heap[g]? = some (.cells #[.int .i64 er] 31 (0, 0))) : (loadVar 31 ⟨g, 0, none⟩).run Tryz.prog w = .ok (.int .i64 er) w := by
  have c : w.cell? ⟨g, 0, none⟩ = some (.int .i64 er) := bk_cell h 0
  go_simp
theorem FBk_faK {Pv : Nat → Prop} {w : World} {b : Nat} {f : Fa} (h : FBk Pv w b f) : ∃ cs, w.heap[b]? = some (.cells cs 28 (0, 0)) ∧ faK w f cs := by
  obtain ⟨v9, v10, v12, h0, ⟨A9, c9, rfl, l9, h9⟩, ⟨A10, c10, rfl, l10, h10⟩, ⟨A12, c12, rfl, l12, h12⟩⟩ := h
  exact ⟨_, h0, faK_mk w f l9 (Kd.F_now h9) l10 (Kd.F_now h10) l12 (Kd.F_now h12)⟩
theorem FBk_zero {Pv : Nat → Prop} {w : World} {b : Nat} (h : w.heap[b]? = some (.cells #[.int .i64 0, .int .i64 0, .int .i64 0, .int .i64 0, .string (⟨#[]⟩ : ByteArray), .int .i64 0, .int .i64 0, .string (⟨#[]⟩ : ByteArray), .string (⟨#[]⟩ : ByteArray), .slice none 0 0, .slice none 0 0, .int .i64 0, .slice none 0 0, .int .i64 0, .int .i64 0, .int .i64 0, .int .i64 0, .int .i64 0, .string (⟨#[]⟩ : ByteArray), .string (⟨#[]⟩ : ByteArray), .int .i64 0, .int .i64 0, .int .i64 0] 28 (0, 0))) : FBk Pv w b zFa := ⟨_, _, _, h, Kd.V_nil _ _ _ _ _, Kd.V_nil _ _ _ _ _, Kd.V_nil _ _ _ _ _⟩
theorem rest_nil_iff (s : ByteArray) (i : Nat) (h : i ≤ s.size) : bk_rest s i = [] ↔ i = s.size := by
  rw [← List.length_eq_zero_iff, bk_rest_len]; omega
theorem dec_out {pf pe : Nat} {er e0 : Int} {w W : World} {tmps : Array Value} {s : ByteArray} (hF : FaB pf W) (he : W.heap[pe]? = some (.cells #[.int .i64 e0] 31 (0, 0))) (hne : pf ≠ pe) (h1 : w.heap.size ≤ pf) (h2 : w.heap.size ≤ pe) (hb : Below w.heap.size w W)
    (hp : tmps.getD 2 undef = .pointer (some ⟨pf, 0, none⟩)) (hq : tmps.getD 3 undef = .pointer (some ⟨pe, 0, none⟩)) (hd : m_fdecode s = (zFa, er)) :
    Leaves Tryz.prog Tryz.f14 tmps (fun e w' => ∃ cs, e = .returned (.tuple #[.agg cs, .int .i64 (m_fdecode s).2]) ∧ faK w' (m_fdecode s).1 cs ∧ Below w.heap.size w w') [{ target := .fn (.func 32) #[.pointer (some ⟨pf, 0, none⟩), .pointer (some ⟨pe, 0, none⟩)], args := #[] }] (.panicking (stopC er)) W := by
  obtain ⟨cs, hF, hsz⟩ := hF
  refine leaves_cons (f := 32) (args := #[.pointer (some ⟨pf, 0, none⟩), .pointer (some ⟨pe, 0, none⟩)]) (by simp) (by simp [go_sem]) ?_
  refine (ed_stop pf pe er e0 [] W cs hF hsz he hne).mono ?_
  rintro e u' w7 ⟨rfl, rfl, a1, a2, a3⟩
  have hbF : Below w.heap.size w w7 := hb.trans (a3 _ h1 h2 hb.size)
  show Leaves _ _ _ _ [] .returning w7
  refine ⟨_, results_ce rfl _ _ pf pe _ _ _ _ er hp a1 Tryz.underlying28 rfl fa_size hq (dec_load w7 pe er a2), #[.int .i64 0, .int .i64 0, .int .i64 0, .int .i64 0, .string (⟨#[]⟩ : ByteArray), .int .i64 0, .int .i64 0, .string (⟨#[]⟩ : ByteArray), .string (⟨#[]⟩ : ByteArray), .slice none 0 0, .slice none 0 0, .int .i64 0, .slice none 0 0, .int .i64 0, .int .i64 0, .int .i64 0, .int .i64 0, .int .i64 0, .string (⟨#[]⟩ : ByteArray), .string (⟨#[]⟩ : ByteArray), .int .i64 0, .int .i64 0, .int .i64 0], ?_, ?_, hbF⟩
  · rw [hd]
  · rw [hd]; exact faK_zero w7
set_option maxHeartbeats 4000000 in
set_option maxRecDepth 100000 in
theorem fv_decode (s : ByteArray) (w : World) (hs : s.size ≤ 1000000000) : Calls Tryz.prog 14 #[.string s] w fun e w' => ∃ cs, e = .returned (.tuple #[.agg cs, .int .i64 (m_fdecode s).2]) ∧ faK w' (m_fdecode s).1 cs ∧ Below w.heap.size w w' := by
  have hmf : ∀ (fn : Fn) (first cap : Array Value) (w : World), (Instr.makeFunc fn first cap).run Tryz.prog w = .ok (.func fn first cap) w := fun _ _ _ _ => rfl
  go_enter_defers Tryz.func14, Tryz.ntmps14
  go_wp2_with (with_reducible refine is_alloc rfl ?_; refine Rg.stop_here ?_)
  refine ⟨?_⟩
  refine box_event rfl (N := 2) rfl (cs := #[.int .i64 0, .int .i64 0, .int .i64 0, .int .i64 0, .string (⟨#[]⟩ : ByteArray), .int .i64 0, .int .i64 0, .string (⟨#[]⟩ : ByteArray), .string (⟨#[]⟩ : ByteArray), .slice none 0 0, .slice none 0 0, .int .i64 0, .slice none 0 0, .int .i64 0, .int .i64 0, .int .i64 0, .int .i64 0, .int .i64 0, .string (⟨#[]⟩ : ByteArray), .string (⟨#[]⟩ : ByteArray), .int .i64 0, .int .i64 0, .int .i64 0]) (t := 28) (by first | (go_simp; done) | (go_simp; rfl)) ?_
  intro pf hpf w1 hbx hb1
  have gpf : w.heap.size ≤ pf := Nat.le_of_eq hpf.symm
  have HF1 := Aside0.mk hbx
  have HB := Aside0.mk hb1
  clear hpf hbx hb1
  go_wp2_with (with_reducible refine is_alloc rfl ?_; refine Rg.stop_here ?_)
  refine ⟨?_⟩
  refine box_event rfl (N := 3) rfl (cs := #[.int .i64 0]) (t := 31) (by first | (go_simp; done) | (go_simp; rfl)) ?_
  intro pe hpe w2 hbx hb2
  have gpe1 : w1.heap.size ≤ pe := Nat.le_of_eq hpe.symm
  have hne : pf ≠ pe := by have := blk_lt HF1.out; omega
  have gpe : w.heap.size ≤ pe := Nat.le_trans HB.out.size gpe1
  have HE2 := Aside0.mk hbx
  have HF2 := Aside0.mk (blk_below HF1.out hb2)
  have HB2 := Aside0.mk (below_step HB.out hb2)
  clear hpe hbx hb2 HF1 HB gpe1
  go_wp2_with (go_at_call 33; refine Rg.stop_here ?_)
  refine ⟨?_⟩
  refine (er_reader s w2).mono ?_
  rintro e w3 ⟨ps, pp, pa, pn, pt, rfl, hnd, hRP, hR3, hb3⟩
  have HR3 := Aside0.mk hR3
  have HE3 := Aside0.mk (blk_below HE2.out hb3)
  have HF3 := Aside0.mk (blk_below HF2.out hb3)
  have HB3 := Aside0.mk (below_step HB2.out hb3)
  have hfl : pf < w2.heap.size := blk_lt HF2.out
  have hel : pe < w2.heap.size := blk_lt HE2.out
  have hBP : ∀ k, RdP ps pp pa pn pt k → w.heap.size ≤ k := fun k hk => Nat.le_trans HB2.out.size (hRP k hk)
  have hpfP : ¬ RdP ps pp pa pn pt pf := fun h => by have := hRP _ h; omega
  have hpeS : ¬ (RdP ps pp pa pn pt pe ∨ pe = pf) := fun h => h.elim (fun h => by have := hRP _ h; omega) (fun h => hne h.symm)
  clear hR3 hb3 HE2 HF2
  go_wp2_with (with_reducible refine is_alloc rfl ?_; refine Rg.stop_here ?_)
  refine ⟨?_⟩
  refine box_event rfl (N := 4) rfl (cs := #[.nilFunc, .nilFunc, .nilFunc, .nilFunc]) (t := 62) (by first | (go_simp; done) | (go_simp; rfl)) ?_
  intro pc hpc w4 hbx hb4
  have gpc : w3.heap.size ≤ pc := Nat.le_of_eq hpc.symm
  have HC4 := Aside0.mk hbx
  have HB34 := Aside0.mk hb4
  clear hpc hbx hb4
  go_wp2_with (with_reducible refine is_store rfl ?_; refine Rg.stop_here ?_)
  refine ⟨?_⟩
  refine wpList_store_box rfl rfl _ _ _ rfl pc _ #[.func (.func 51) #[] #[.pointer (some ⟨ps, 0, none⟩), .pointer (some ⟨pp, 0, none⟩)], .func (.func 53) #[] #[.pointer (some ⟨ps, 0, none⟩), .pointer (some ⟨pp, 0, none⟩)], .func (.func 55) #[] #[.pointer (some ⟨pn, 0, none⟩)], .func (.func 56) #[] #[.pointer (some ⟨pt, 0, none⟩)]] _ rfl rfl HC4.out codec_sz rfl (by repeat (first | exact List.forall_mem_nil _ | refine List.forall_mem_cons.2 ⟨rfl, ?_⟩)) ?_
  intro w5 hx5 hst hot
  have hb35 : Below w3.heap.size w3 w5 := HB34.out.trans (hst _ gpc)
  have HC5 := Aside0.mk hx5
  have HR5 := Aside0.mk (HR3.out.below hb35)
  have HE5 := Aside0.mk (blk_below HE3.out hb35)
  have HF5 : Aside0 (FBk (RdP ps pp pa pn pt) w5 pf zFa) := ⟨FBk_zero (blk_below HF3.out hb35)⟩
  have HB5 := Aside0.mk (below_step HB3.out hb35)
  have hpcP : ¬ (RdP ps pp pa pn pt pc ∨ pc = pf) := fun h => h.elim (fun h => by have := ((rdD s hs ps pp pa pn pt w.heap.size hnd hBP)).pvlt HR3.out h; omega) (fun h => by have := HB3.out.size; have := blk_lt HF3.out; omega)
  have hB5 : w.heap.size ≤ w5.heap.size := HB5.out.size
  have hS : ∀ k, (RdP ps pp pa pn pt k ∨ k = pf) → w.heap.size ≤ k := fun k hk => hk.elim (hBP k) (fun h => h ▸ gpf)
  have HXX : Aside0 ((cB (rdI s.data.toList) fun x6 l => cB (rdI l) fun x7 l => cB (rdI l) fun x8 l => c_fields rdC { zFa with f0 := x6, f1 := x7, f2 := x8 } l) = c_fact rdC zFa s.data.toList) := ⟨rfl⟩
  have HDE : Aside0 (∀ er, c_fact rdC zFa s.data.toList = .error er → m_fdecode s = (zFa, er)) := ⟨fun er h => by unfold m_fdecode; rw [h]⟩
  have HDO : Aside0 (∀ f r, c_fact rdC zFa s.data.toList = .ok (f, r) → m_fdecode s = if m_kind f.f2 = false then (zFa, 50) else if r ≠ [] then (zFa, 10) else if m_fvalid f then (f, 0) else (zFa, 50)) := ⟨fun f r h => by unfold m_fdecode; rw [h]⟩
  have hdec : True := trivial
  clear hx5 hst hot hb35 HC4 HB34 HE3 HF3 HB3 HR3
  have z0 : w5.cell? ⟨pc, 0, none⟩ = some (.func (.func 51) #[] #[.pointer (some ⟨ps, 0, none⟩), .pointer (some ⟨pp, 0, none⟩)]) := bk_cell HC5.out 0
  go_wp2_with (go_at_call 51; refine Rg.stop_here ?_)
  refine ⟨?_⟩
  refine (calls_of_args (by rfl) (dr_f0 (D := (rdD s hs ps pp pa pn pt w.heap.size hnd hBP)) HR5.out HF5.out gpf hpfP (Nat.zero_le _))).mono ?_
  intro e w6 h
  have h : StepP (rdD s hs ps pp pa pn pt w.heap.size hnd hBP) pf w5 (.tuple #[]) (cB (rdI s.data.toList) fun v s => .ok ({ zFa with f0 := v }, s)) e w6 := h
  cases hx : rdI s.data.toList with
  | error er =>
    rw [hx] at h
    obtain ⟨rfl, hk, hfb⟩ := h
    have hk : Kp (fun k => RdP ps pp pa pn pt k ∨ k = pf) w5 w6 := hk
    have hkk := hk
    have hX := HXX.out
    rw [cB_err hx] at hX
    have HFX := Aside0.mk (hfb)
    have HEX := Aside0.mk (blk_kept HE5.out hkk.kept hpeS)
    have HBX := Aside0.mk (HB5.out.trans (hkk.below hB5 hS))
    have HDX := Aside0.mk (HDE.out er hX.symm)
    clear hx hk hkk hX hfb z0
    go_wp2
    exact dec_out HFX.out HEX.out hne gpf gpe HBX.out rfl rfl HDX.out
  | ok q =>
  obtain ⟨x6, l6⟩ := q
  rw [hx] at h
  obtain ⟨rfl, hR, hF, hk⟩ := h
  have hk : Kp (fun k => RdP ps pp pa pn pt k ∨ k = pf) w5 w6 := hk
  have HR6 : Aside0 (RdR s ps pp pa pn pt l6 w6) := ⟨hR⟩
  have HF6 : Aside0 (FBk (RdP ps pp pa pn pt) w6 pf { zFa with f0 := x6 }) := ⟨hF⟩
  have HK6 := Aside0.mk (hk)
  have HC6 := Aside0.mk (blk_kept HC5.out hk.kept hpcP)
  have hX := HXX.out
  rw [cB_ok hx] at hX
  have HXX := Aside0.mk hX
  clear hx hR hF hk hX z0 HR5 HF5 HC5 
  have z0 : w6.cell? ⟨pc, 0, none⟩ = some (.func (.func 51) #[] #[.pointer (some ⟨ps, 0, none⟩), .pointer (some ⟨pp, 0, none⟩)]) := bk_cell HC6.out 0
  go_wp2_with (go_at_call 51; refine Rg.stop_here ?_)
  refine ⟨?_⟩
  refine (calls_of_args (by rfl) (dr_f1 (D := (rdD s hs ps pp pa pn pt w.heap.size hnd hBP)) HR6.out HF6.out gpf hpfP (Nat.zero_le _))).mono ?_
  intro e w7 h
  have h : StepP (rdD s hs ps pp pa pn pt w.heap.size hnd hBP) pf w6 (.tuple #[]) (cB (rdI l6) fun v s => .ok ({ zFa with f0 := x6, f1 := v }, s)) e w7 := h
  cases hx : rdI l6 with
  | error er =>
    rw [hx] at h
    obtain ⟨rfl, hk, hfb⟩ := h
    have hk : Kp (fun k => RdP ps pp pa pn pt k ∨ k = pf) w6 w7 := hk
    have hkk := HK6.out.step hk
    have hX := HXX.out
    rw [cB_err hx] at hX
    have HFX := Aside0.mk (hfb)
    have HEX := Aside0.mk (blk_kept HE5.out hkk.kept hpeS)
    have HBX := Aside0.mk (HB5.out.trans (hkk.below hB5 hS))
    have HDX := Aside0.mk (HDE.out er hX.symm)
    clear hx hk hkk hX hfb z0
    go_wp2
    exact dec_out HFX.out HEX.out hne gpf gpe HBX.out rfl rfl HDX.out
  | ok q =>
  obtain ⟨x7, l7⟩ := q
  rw [hx] at h
  obtain ⟨rfl, hR, hF, hk⟩ := h
  have hk : Kp (fun k => RdP ps pp pa pn pt k ∨ k = pf) w6 w7 := hk
  have HR7 : Aside0 (RdR s ps pp pa pn pt l7 w7) := ⟨hR⟩
  have HF7 : Aside0 (FBk (RdP ps pp pa pn pt) w7 pf { zFa with f0 := x6, f1 := x7 }) := ⟨hF⟩
  have HK7 := Aside0.mk (HK6.out.step hk)
  have HC7 := Aside0.mk (blk_kept HC6.out hk.kept hpcP)
  have hX := HXX.out
  rw [cB_ok hx] at hX
  have HXX := Aside0.mk hX
  clear hx hR hF hk hX z0 HR6 HF6 HC6 HK6
  have z0 : w7.cell? ⟨pc, 0, none⟩ = some (.func (.func 51) #[] #[.pointer (some ⟨ps, 0, none⟩), .pointer (some ⟨pp, 0, none⟩)]) := bk_cell HC7.out 0
  go_wp2_with (go_at_call 51; refine Rg.stop_here ?_)
  refine ⟨?_⟩
  refine (calls_of_args (by rfl) (dr_f2 (D := (rdD s hs ps pp pa pn pt w.heap.size hnd hBP)) HR7.out HF7.out gpf hpfP (Nat.zero_le _))).mono ?_
  intro e w8 h
  have h : StepP (rdD s hs ps pp pa pn pt w.heap.size hnd hBP) pf w7 (.tuple #[]) (cB (rdI l7) fun v s => .ok ({ zFa with f0 := x6, f1 := x7, f2 := v }, s)) e w8 := h
  cases hx : rdI l7 with
  | error er =>
    rw [hx] at h
    obtain ⟨rfl, hk, hfb⟩ := h
    have hk : Kp (fun k => RdP ps pp pa pn pt k ∨ k = pf) w7 w8 := hk
    have hkk := HK7.out.step hk
    have hX := HXX.out
    rw [cB_err hx] at hX
    have HFX := Aside0.mk (hfb)
    have HEX := Aside0.mk (blk_kept HE5.out hkk.kept hpeS)
    have HBX := Aside0.mk (HB5.out.trans (hkk.below hB5 hS))
    have HDX := Aside0.mk (HDE.out er hX.symm)
    clear hx hk hkk hX hfb z0
    go_wp2
    exact dec_out HFX.out HEX.out hne gpf gpe HBX.out rfl rfl HDX.out
  | ok q =>
  obtain ⟨x8, l8⟩ := q
  rw [hx] at h
  obtain ⟨rfl, hR, hF, hk⟩ := h
  have hk : Kp (fun k => RdP ps pp pa pn pt k ∨ k = pf) w7 w8 := hk
  have HR8 : Aside0 (RdR s ps pp pa pn pt l8 w8) := ⟨hR⟩
  have HF8 : Aside0 (FBk (RdP ps pp pa pn pt) w8 pf { zFa with f0 := x6, f1 := x7, f2 := x8 }) := ⟨hF⟩
  have HK8 := Aside0.mk (HK7.out.step hk)
  have HC8 := Aside0.mk (blk_kept HC7.out hk.kept hpcP)
  have hX := HXX.out
  rw [cB_ok hx] at hX
  have HXX := Aside0.mk hX
  clear hx hR hF hk hX z0 HR7 HF7 HC7 HK7
  go_wp2_with (with_reducible refine is_loadC rfl ?_; refine Rg.stop_here ?_)
  refine ⟨?_⟩
  refine wpList_load_row rfl 62 _ rfl pc rfl _ _ _ _ HC8.out Tryz.underlying62 rfl codec_sz ?_
  go_wp2_with (go_at_call 29; refine Rg.stop_here ?_)
  refine ⟨?_⟩
  refine (calls_of_args (by rfl) (cw_fields (rdD s hs ps pp pa pn pt w.heap.size hnd hBP) l8 w8 pf { zFa with f0 := x6, f1 := x7, f2 := x8 } HR8.out HF8.out gpf hpfP (Nat.le_trans hB5 HK8.out.size) (Nat.zero_le _) (Nat.zero_le _) (Nat.zero_le _))).mono ?_
  intro e w9 h
  have h : StepP (rdD s hs ps pp pa pn pt w.heap.size hnd hBP) pf w8 (.bool (m_kind x8)) (c_fields rdC { zFa with f0 := x6, f1 := x7, f2 := x8 } l8) e w9 := h
  cases hx : c_fields rdC { zFa with f0 := x6, f1 := x7, f2 := x8 } l8 with
  | error er =>
    rw [hx] at h
    obtain ⟨rfl, hk, hfb⟩ := h
    have hk : Kp (fun k => RdP ps pp pa pn pt k ∨ k = pf) w8 w9 := hk
    have hkk := HK8.out.step hk
    have hX := HXX.out
    rw [hx] at hX
    have HFX := Aside0.mk (hfb)
    have HEX := Aside0.mk (blk_kept HE5.out hkk.kept hpeS)
    have HBX := Aside0.mk (HB5.out.trans (hkk.below hB5 hS))
    have HDX := Aside0.mk (HDE.out er hX.symm)
    clear hx hk hkk hX hfb
    go_wp2
    exact dec_out HFX.out HEX.out hne gpf gpe HBX.out rfl rfl HDX.out
  | ok q =>
  obtain ⟨f, r⟩ := q
  have hkf : f.f2 = x8 := cf_kind _ _ _ _ _ _ hx
  rw [hx] at h
  obtain ⟨rfl, hR, hF, hk⟩ := h
  have hk : Kp (fun k => RdP ps pp pa pn pt k ∨ k = pf) w8 w9 := hk
  have hkk := HK8.out.step hk
  have hF : FBk (RdP ps pp pa pn pt) w9 pf f := hF
  have hR : RdR s ps pp pa pn pt r w9 := hR
  have hX := HXX.out
  rw [hx] at hX
  have hd0 := HDO.out f r hX.symm
  rw [hkf] at hd0
  have HD0 := Aside0.mk hd0
  have HR9 := Aside0.mk hR
  have HF9 := Aside0.mk hF
  have HB9 := Aside0.mk (HB5.out.trans (hkk.below hB5 hS))
  have HE9 := Aside0.mk (blk_kept HE5.out hkk.kept hpeS)
  clear hx hkf hR hF hk hkk hX hd0 HXX HDE HDO HR8 HF8 HC8 HK8
  cases hkd : m_kind x8 with
  | false =>
    have hd1 := HD0.out
    rw [hkd, if_pos rfl] at hd1
    have HFX := Aside0.mk (FBk_FaB HF9.out (Shp.of_eq rfl))
    have HEX := Aside0.mk (HE9.out)
    have HBX := Aside0.mk (HB9.out)
    have HDX := Aside0.mk (hd1)
    clear hkd hd1
    go_wp2_with (go_at_call 34; (with_reducible refine (er_no _ _).mono ?_); rintro e wx ⟨rfl, rfl⟩)
    exact dec_out HFX.out HEX.out hne gpf gpe HBX.out rfl rfl HDX.out
  | true =>
  have hd1 := HD0.out
  rw [hkd, if_neg (by decide)] at hd1
  obtain ⟨i, hi, hri, hai⟩ := HR9.out.idx
  have ca : w9.cell? ⟨pa, 0, none⟩ = some (.int .i64 (i : Int)) := bk_cell hai 0
  have HD1 := Aside0.mk hd1
  have HRI := Aside0.mk hri
  clear hkd hd1 hri hai HD0
  by_cases hie : i = s.size
  · have hrn : r = [] := by rw [HRI.out]; exact (rest_nil_iff s i hi).2 hie
    have hd2 := HD1.out
    rw [if_neg (by rw [hrn]; simp)] at hd2
    have q1 : ((i : Int) == (s.size : Int)) = true := by rw [hie]; exact beq_self_eq_true _
    have q2 : decide ((i : Int) = (s.size : Int)) = true := decide_eq_true (by rw [hie])
    obtain ⟨cs, hcs, hK⟩ := FBk_faK HF9.out
    have HD2 := Aside0.mk hd2
    have HCS := Aside0.mk hcs
    have HKK := Aside0.mk hK
    clear hrn hd2 hcs hK hie hi HD1 HRI
    go_wp2_with (first | (go_at_call 34; (with_reducible refine (er_ok _ _).mono ?_); rintro e wx ⟨rfl, rfl⟩) | (with_reducible refine is_loadFa rfl ?_; refine Rg.stop_here ?_))
    refine ⟨?_⟩
    refine wpList_load_row rfl 28 _ rfl pf rfl _ _ _ _ HCS.out Tryz.underlying28 rfl (fa_size23 HKK.out) ?_
    go_wp2_with (go_at_call 13; refine Rg.stop_here ?_)
    refine ⟨?_⟩
    refine (fv_valid f cs w9 HKK.out).mono ?_
    rintro e w10 ⟨rfl, hb10⟩
    have HB10 := Aside0.mk (below_step HB9.out hb10)
    have HE10 := Aside0.mk (blk_below HE9.out hb10)
    have HC10 := Aside0.mk (blk_below HCS.out hb10)
    have HK10 := Aside0.mk (faK_below HKK.out hb10)
    clear hb10 q1 q2 ca HB9 HE9 HCS HKK HF9 HR9
    cases hv : m_fvalid f with
    | false =>
      have hd3 := HD2.out
      rw [hv, if_neg (by decide)] at hd3
      have HFX := Aside0.mk (show FaB pf w10 from ⟨_, HC10.out, faK_size HK10.out⟩)
      have HEX := Aside0.mk (HE10.out)
      have HBX := Aside0.mk (HB10.out)
      have HDX := Aside0.mk (hd3)
      clear hv hd3
      go_wp2_with (go_at_call 34; (with_reducible refine (er_no _ _).mono ?_); rintro e wx ⟨rfl, rfl⟩)
      exact dec_out HFX.out HEX.out hne gpf gpe HBX.out rfl rfl HDX.out
    | true =>
    have hd3 := HD2.out
    rw [hv, if_pos rfl] at hd3
    have HD3 := Aside0.mk hd3
    clear hv hd3 HD2
    go_wp2_with (first | (go_at_call 34; (with_reducible refine (er_ok _ _).mono ?_); rintro e wx ⟨rfl, rfl⟩) | (with_reducible refine is_loadFa rfl ?_; refine Rg.stop_here ?_))
    refine ⟨?_⟩
    refine wpList_load_row rfl 28 _ rfl pf rfl _ _ _ _ HC10.out Tryz.underlying28 rfl (fa_size23 HK10.out) ?_
    go_wp2_with (with_reducible refine is_storeFa rfl ?_; refine Rg.stop_here ?_)
    refine ⟨?_⟩
    refine wpList_store_box rfl rfl _ _ _ rfl pf cs cs _ rfl rfl HC10.out (by rw [Array.length_toList]; exact fa_size23 HK10.out) rfl (faK_one HK10.out) ?_
    intro w11 hx11 hst hot
    have he11 := (hot pe (Ne.symm hne)).trans HE10.out
    have c1 : w11.cell? ⟨pe, 0, none⟩ = some (.int .i64 0) := bk_cell he11 0
    have z1 := bk_frozen he11 0
    have HX11 := Aside0.mk hx11
    have HE11 := Aside0.mk he11
    have HB11 := Aside0.mk (HB10.out.trans (hst _ gpf))
    have HO11 := Aside0.mk hot
    clear hx11 he11 hst hot
    go_wp2
    refine leaves_cons (f := 32) (args := #[.pointer (some ⟨pf, 0, none⟩), .pointer (some ⟨pe, 0, none⟩)]) (by simp) (by simp [go_sem]) ?_
    refine (ed_idle pf pe _).mono ?_
    rintro e u' w12 ⟨rfl, rfl, rfl⟩
    refine ⟨_, results_ce rfl _ _ pf pe _ _ _ _ 0 rfl (blk_far HX11.out hne _) Tryz.underlying28 rfl (fa_size23 HK10.out) rfl (dec_load _ pe 0 (blk_set HE11.out 0 _)), cs, ?_, ?_, HB11.out.setCell gpe _⟩
    · rw [HD3.out]
    · rw [HD3.out]
      refine fa_heap.K (w := w10) (fun k hk => ?_) HK10.out
      by_cases h1 : k = pe
      · subst h1
        exact (blk_set HE11.out 0 _).trans HE10.out.symm
      · refine (Below.heap_setCell _ _ _ k h1).trans ?_
        by_cases h2 : k = pf
        · subst h2
          exact HX11.out.trans HC10.out.symm
        · exact HO11.out k h2
  · have hrn : r ≠ [] := by rw [HRI.out]; exact fun h => hie ((rest_nil_iff s i hi).1 h)
    have hd2 := HD1.out
    rw [if_pos hrn] at hd2
    have q1 : ((i : Int) == (s.size : Int)) = false := beq_eq_false_iff_ne.2 (by omega)
    have q2 : decide ((i : Int) = (s.size : Int)) = false := decide_eq_false (by omega)
    have HFX := Aside0.mk (FBk_FaB HF9.out (Shp.of_eq rfl))
    have HEX := Aside0.mk (HE9.out)
    have HBX := Aside0.mk (HB9.out)
    have HDX := Aside0.mk (hd2)
    clear hrn hd2 hie hi HD1 HRI
    go_wp2_with (first | (go_at_call 34; (with_reducible refine (er_ok _ _).mono ?_); rintro e wx ⟨rfl, rfl⟩) | (go_at_call 34; (with_reducible refine (er_no _ _).mono ?_); rintro e wx ⟨rfl, rfl⟩))
    exact dec_out HFX.out HEX.out hne gpf gpe HBX.out rfl rfl HDX.out
end Go.Proofs.YtkhgdglaophkbaaGreatDoor.PK
end
section
set_option linter.unusedVariables false
set_option linter.unusedSimpArgs false
namespace Go.Proofs.YtkhgdglaophkbaaGreatDoor.PK
open Go.RowKit Go.Proofs.YtkhgdglaophkbaaGreatDoorW.PrintWords Go.Proofs.YtkhgdglaophkbaaGreatDoorW.PrintLast Go.Proofs.YtkhgdglaophkbaaGreatDoorW.PrintMore
def m_redact (f : Fa) : Fa := if f.f2 = 1 ∨ f.f2 = 4 ∨ f.f2 = 5 then { zFa with f0 := f.f0, f1 := f.f1, f2 := 10, f3 := f.f3 } else f
theorem faK_red (w : World) (f : Fa) : faK w { zFa with f0 := f.f0, f1 := f.f1, f2 := 10, f3 := f.f3 } #[.int .i64 f.f0, .int .i64 f.f1, .int .i64 10, .int .i64 f.f3, .string (⟨#[]⟩ : ByteArray), .int .i64 0, .int .i64 0, .string (⟨#[]⟩ : ByteArray), .string (⟨#[]⟩ : ByteArray), .slice none 0 0, .slice none 0 0, .int .i64 0, .slice none 0 0, .int .i64 0, .int .i64 0, .int .i64 0, .int .i64 0, .int .i64 0, .string (⟨#[]⟩ : ByteArray), .string (⟨#[]⟩ : ByteArray), .int .i64 0, .int .i64 0, .int .i64 0] :=
  faK_mk w { zFa with f0 := f.f0, f1 := f.f1, f2 := 10, f3 := f.f3 } (A9 := none) (c9 := 0) (Nat.le_refl 0) (fr_nilC _ _) (A10 := none) (c10 := 0) (Nat.le_refl 0) (fr_nilC _ _) (A12 := none) (c12 := 0) (Nat.le_refl 0) (fr_nilC _ _)
set_option maxHeartbeats 4000000 in
set_option maxRecDepth 100000 in
theorem fv_redact (f : Fa) (cs : Array Value) (w : World) (h : faK w f cs) : Calls Tryz.prog 19 #[.agg cs] w fun e w' => ∃ cs', e = .returned (.agg cs') ∧ faK w' (m_redact f) cs' ∧ Below w.heap.size w w' := by
  have HF := Aside0.mk h
  obtain ⟨A9, c9, A10, c10, A12, c12, rfl, _⟩ := faK_open h
  clear h
  unfold fa_cells at HF ⊢
  go_enter Tryz.func19, Tryz.ntmps19
  go_wp2_with (with_reducible refine is_box rfl ?_; refine Rg.stop_here ?_)
  refine ⟨?_⟩
  refine box_event rfl (N := 1) rfl (cs := #[.int .i64 f.f0, .int .i64 f.f1, .int .i64 f.f2, .int .i64 f.f3, .string f.f4, .int .i64 f.f5, .int .i64 f.f6, .string f.f7, .string f.f8, .slice A9 f.f9.length c9, .slice A10 f.f10.length c10, .int .i64 f.f11.f0, .slice A12 f.f11.f1.length c12, .int .i64 f.f11.f2, .int .i64 f.f11.f3, .int .i64 f.f12, .int .i64 f.f13, .int .i64 f.f14, .string f.f15, .string f.f16, .int .i64 f.f17, .int .i64 f.f18, .int .i64 f.f19]) (t := 28) (by first | (go_simp; done) | (go_simp; rfl)) ?_
  intro p1 hp1 w1 hbx1 hb1
  have HX1 := Aside0.mk hbx1
  have HB1 := Aside0.mk hb1
  have HF1 := Aside0.mk (faK_below HF.out hb1)
  have hp1' : w.heap.size ≤ p1 := Nat.le_of_eq hp1.symm
  clear hp1 hb1 hbx1 HF
  go_wp2_with (with_reducible refine is_alloc rfl ?_; refine Rg.stop_here ?_)
  refine ⟨?_⟩
  refine box_event rfl (N := 2) rfl (cs := #[.int .i64 0, .int .i64 0, .int .i64 0, .int .i64 0, .string (⟨#[]⟩ : ByteArray), .int .i64 0, .int .i64 0, .string (⟨#[]⟩ : ByteArray), .string (⟨#[]⟩ : ByteArray), .slice none 0 0, .slice none 0 0, .int .i64 0, .slice none 0 0, .int .i64 0, .int .i64 0, .int .i64 0, .int .i64 0, .int .i64 0, .string (⟨#[]⟩ : ByteArray), .string (⟨#[]⟩ : ByteArray), .int .i64 0, .int .i64 0, .int .i64 0]) (t := 28) (by first | (go_simp; done) | (go_simp; rfl)) ?_
  intro p4 hp4 w3 hbx4 hb3
  have hg4 : w1.heap.size ≤ p4 := Nat.le_of_eq hp4.symm
  have hg4' : w.heap.size ≤ p4 := by have := HB1.out.size; omega
  have h14 : p1 ≠ p4 := by have := blk_lt HX1.out; omega
  have hx3 := bk_heap_below HX1.out hb3
  have HX3 := Aside0.mk hx3
  have HX4 := Aside0.mk hbx4
  have HB3 := Aside0.mk (below_step HB1.out hb3)
  have HF3 := Aside0.mk (faK_below HF1.out hb3)
  have HF1 := HF1
  have HB13 := Aside0.mk hb3
  have c0 : w3.cell? ⟨p1, 0, none⟩ = some (.int .i64 f.f0) := bk_cell hx3 0
  have c1 : w3.cell? ⟨p1, 1, none⟩ = some (.int .i64 f.f1) := bk_cell hx3 1
  have c2 : w3.cell? ⟨p1, 2, none⟩ = some (.int .i64 f.f2) := bk_cell hx3 2
  have c3 : w3.cell? ⟨p1, 3, none⟩ = some (.int .i64 f.f3) := bk_cell hx3 3
  clear hp4 hb3 hx3 HX1 HB1 hbx4
  by_cases hk : f.f2 = 1 ∨ f.f2 = 4 ∨ f.f2 = 5
  · have HM : Aside0 (m_redact f = _) := ⟨if_pos hk⟩
    obtain hk | hk | hk := hk
    · have hd1 : (f.f2 == 1) = true := by simp [hk]
      have hd4 : (f.f2 == 4) = false := by simp [hk]
      have hd5 : (f.f2 == 5) = false := by simp [hk]
      clear hk
      go_wp2_with (with_reducible refine is_storeFa rfl ?_; refine Rg.stop_here ?_)
      refine ⟨?_⟩
      refine wpList_store_box rfl rfl _ _ _ rfl p4 _ #[.int .i64 f.f0, .int .i64 f.f1, .int .i64 10, .int .i64 f.f3, .string (⟨#[]⟩ : ByteArray), .int .i64 0, .int .i64 0, .string (⟨#[]⟩ : ByteArray), .string (⟨#[]⟩ : ByteArray), .slice none 0 0, .slice none 0 0, .int .i64 0, .slice none 0 0, .int .i64 0, .int .i64 0, .int .i64 0, .int .i64 0, .int .i64 0, .string (⟨#[]⟩ : ByteArray), .string (⟨#[]⟩ : ByteArray), .int .i64 0, .int .i64 0, .int .i64 0] _ rfl rfl HX4.out fa_size (by kernel_rfl) (by repeat (first | exact List.forall_mem_nil _ | refine List.forall_mem_cons.2 ⟨rfl, ?_⟩)) ?_
      intro w4 hx4 hst hot
      have HX5 := Aside0.mk hx4
      have HB4 := Aside0.mk (HB3.out.trans (hst _ hg4'))
      clear hx4 hst hot c0 c1 c2 c3
      go_wp2
      refine bodyPost_ret (results_cell_row rfl _ _ p4 _ _ _ _ rfl HX5.out Tryz.underlying28 rfl fa_size) rfl ?_
      exact ⟨_, rfl, by rw [HM.out]; exact faK_red _ f, HB4.out⟩
    · have hd1 : (f.f2 == 1) = false := by simp [hk]
      have hd4 : (f.f2 == 4) = true := by simp [hk]
      have hd5 : (f.f2 == 5) = false := by simp [hk]
      clear hk
      go_wp2_with (with_reducible refine is_storeFa rfl ?_; refine Rg.stop_here ?_)
      refine ⟨?_⟩
      refine wpList_store_box rfl rfl _ _ _ rfl p4 _ #[.int .i64 f.f0, .int .i64 f.f1, .int .i64 10, .int .i64 f.f3, .string (⟨#[]⟩ : ByteArray), .int .i64 0, .int .i64 0, .string (⟨#[]⟩ : ByteArray), .string (⟨#[]⟩ : ByteArray), .slice none 0 0, .slice none 0 0, .int .i64 0, .slice none 0 0, .int .i64 0, .int .i64 0, .int .i64 0, .int .i64 0, .int .i64 0, .string (⟨#[]⟩ : ByteArray), .string (⟨#[]⟩ : ByteArray), .int .i64 0, .int .i64 0, .int .i64 0] _ rfl rfl HX4.out fa_size (by kernel_rfl) (by repeat (first | exact List.forall_mem_nil _ | refine List.forall_mem_cons.2 ⟨rfl, ?_⟩)) ?_
      intro w4 hx4 hst hot
      have HX5 := Aside0.mk hx4
      have HB4 := Aside0.mk (HB3.out.trans (hst _ hg4'))
      clear hx4 hst hot c0 c1 c2 c3
      go_wp2
      refine bodyPost_ret (results_cell_row rfl _ _ p4 _ _ _ _ rfl HX5.out Tryz.underlying28 rfl fa_size) rfl ?_
      exact ⟨_, rfl, by rw [HM.out]; exact faK_red _ f, HB4.out⟩
    · have hd1 : (f.f2 == 1) = false := by simp [hk]
      have hd4 : (f.f2 == 4) = false := by simp [hk]
      have hd5 : (f.f2 == 5) = true := by simp [hk]
      clear hk
      go_wp2_with (with_reducible refine is_storeFa rfl ?_; refine Rg.stop_here ?_)
      refine ⟨?_⟩
      refine wpList_store_box rfl rfl _ _ _ rfl p4 _ #[.int .i64 f.f0, .int .i64 f.f1, .int .i64 10, .int .i64 f.f3, .string (⟨#[]⟩ : ByteArray), .int .i64 0, .int .i64 0, .string (⟨#[]⟩ : ByteArray), .string (⟨#[]⟩ : ByteArray), .slice none 0 0, .slice none 0 0, .int .i64 0, .slice none 0 0, .int .i64 0, .int .i64 0, .int .i64 0, .int .i64 0, .int .i64 0, .string (⟨#[]⟩ : ByteArray), .string (⟨#[]⟩ : ByteArray), .int .i64 0, .int .i64 0, .int .i64 0] _ rfl rfl HX4.out fa_size (by kernel_rfl) (by repeat (first | exact List.forall_mem_nil _ | refine List.forall_mem_cons.2 ⟨rfl, ?_⟩)) ?_
      intro w4 hx4 hst hot
      have HX5 := Aside0.mk hx4
      have HB4 := Aside0.mk (HB3.out.trans (hst _ hg4'))
      clear hx4 hst hot c0 c1 c2 c3
      go_wp2
      refine bodyPost_ret (results_cell_row rfl _ _ p4 _ _ _ _ rfl HX5.out Tryz.underlying28 rfl fa_size) rfl ?_
      exact ⟨_, rfl, by rw [HM.out]; exact faK_red _ f, HB4.out⟩
  · have HM : Aside0 (m_redact f = f) := ⟨if_neg hk⟩
    have hd1 : (f.f2 == 1) = false := by simp; omega
    have hd4 : (f.f2 == 4) = false := by simp; omega
    have hd5 : (f.f2 == 5) = false := by simp; omega
    clear hk
    go_wp2_with (with_reducible refine is_loadFa rfl ?_; refine Rg.stop_here ?_)
    refine ⟨?_⟩
    refine wpList_load_row rfl 28 _ rfl p1 rfl _ _ _ _ HX3.out Tryz.underlying28 rfl fa_size ?_
    go_wp2_with (with_reducible refine is_storeFa rfl ?_; refine Rg.stop_here ?_)
    refine ⟨?_⟩
    refine wpList_store_box rfl rfl _ _ _ rfl p4 _ #[.int .i64 f.f0, .int .i64 f.f1, .int .i64 f.f2, .int .i64 f.f3, .string f.f4, .int .i64 f.f5, .int .i64 f.f6, .string f.f7, .string f.f8, .slice A9 f.f9.length c9, .slice A10 f.f10.length c10, .int .i64 f.f11.f0, .slice A12 f.f11.f1.length c12, .int .i64 f.f11.f2, .int .i64 f.f11.f3, .int .i64 f.f12, .int .i64 f.f13, .int .i64 f.f14, .string f.f15, .string f.f16, .int .i64 f.f17, .int .i64 f.f18, .int .i64 f.f19] _ rfl rfl HX4.out fa_size (by kernel_rfl) (faK_one HF3.out) ?_
    intro w4 hx4 hst hot
    have HX5 := Aside0.mk hx4
    have HF4 := Aside0.mk (faK_below HF1.out (HB13.out.trans (hst _ hg4)))
    have HB4 := Aside0.mk (HB3.out.trans (hst _ hg4'))
    clear hx4 hst hot c0 c1 c2 c3
    go_wp2
    refine bodyPost_ret (results_cell_row rfl _ _ p4 _ _ _ _ rfl HX5.out Tryz.underlying28 rfl fa_size) rfl ?_
    exact ⟨_, rfl, by rw [HM.out]; exact HF4.out, HB4.out⟩
end Go.Proofs.YtkhgdglaophkbaaGreatDoor.PK
end
section
set_option linter.unusedVariables false
set_option linter.unusedSimpArgs false
namespace Go.Proofs.YtkhgdglaophkbaaGreatDoor.PK
open Go.RowKit Go.Proofs.YtkhgdglaophkbaaGreatDoorW.PrintWords Go.Proofs.YtkhgdglaophkbaaGreatDoorW.PrintLast Go.Proofs.YtkhgdglaophkbaaGreatDoorW.PrintMore
def ex_s : ByteArray := ⟨#[4, 140, 1, 12, 10]⟩
def ex_a : Fa := { zFa with f0 := 2, f1 := 70, f2 := 6, f3 := 5 }
def ex_b : Fa := { zFa with f0 := 2, f1 := 70, f2 := 6, f3 := 65 }
def ex_c : Fa := { zFa with f0 := 1, f2 := 2, f3 := 3, f12 := 2 }
def ex_d : Fa := { zFa with f0 := 1, f2 := 2, f3 := 3, f12 := 2, f4 := ⟨#[101, 110]⟩ }
def ex_bl : Bl := ⟨1, 1, ⟨#[82, 97, 105, 110]⟩, 0, 0, ⟨0, [], 0, 0⟩⟩
def ex_e : Fa := { zFa with f2 := 1, f3 := 1, f4 := ⟨#[101, 110]⟩, f5 := 1, f7 := ⟨#[82, 97, 105, 110]⟩, f8 := ⟨#[97, 110, 110]⟩, f9 := [⟨#[97]⟩, ⟨#[98]⟩], f10 := [ex_bl] }
def ex_r : Fa := { zFa with f0 := 9, f1 := 5, f2 := 4, f3 := 2, f4 := ⟨#[101, 110]⟩, f13 := 1, f15 := ⟨#[78, 111, 46]⟩ }
def ex_g : Fa := { zFa with f0 := 9, f1 := 5, f2 := 10, f3 := 2 }
theorem ex_1 : m_fencode ex_a = (ex_s, 0) := by kernel_rfl
theorem ex_2 : m_fdecode ex_s = (ex_a, 0) := by kernel_rfl
theorem ex_3 : (m_fdecode ⟨#[4, 140, 1, 12, 10, 0]⟩).2 = 10 := by kernel_rfl
theorem ex_4 : (m_fdecode ⟨#[4, 140, 1, 22, 10]⟩).2 = 50 := by kernel_rfl
theorem ex_5 : m_fencode ex_b = (⟨#[]⟩, 50) := by kernel_rfl
theorem ex_6 : m_fvalid ex_c = true := by kernel_rfl
theorem ex_7 : m_fvalid ex_d = false := by kernel_rfl
theorem ex_8 : m_fvalid ex_e = true := by kernel_rfl
theorem ex_9 : m_redact ex_r = ex_g := by kernel_rfl
theorem ex_10 : m_fsame ex_g ex_g = true := (m_fsame_iff _ _).2 rfl
theorem ex_11 : m_fsame ex_a ex_g = false := by kernel_rfl
theorem lit_C {α : Type} {d : Kd α} {w : World} {z : Nat} {t : TypeId} {cs : Array Value} {xs : List α} (hb : w.heap[z]? = some (.cells cs t (0, 0))) (hn : xs.length ≤ 9223372036854775807)
    (h : ∀ j p, xs[j]? = some p → ∃ c, c.length = d.sz ∧ d.K w p c ∧ ∀ i u, c[i]? = some u → cs[j * d.sz + i]? = some u) : d.C w (some ⟨z, 0, none⟩) xs.length xs :=
  ⟨rfl, hn, fun _ => ⟨_, rfl, fun j p hj => let ⟨c, a, b, e⟩ := h j p hj; ⟨c, a, b, fun i u hu => by rw [add_plain, blk_cell hb]; exact e i u hu⟩⟩⟩
theorem lit_topics {w : World} {z : Nat} (hb : w.heap[z]? = some (.cells #[.string ⟨#[97]⟩, .string ⟨#[98]⟩] 9 (0, 0))) : Kd.string.C w (some ⟨z, 0, none⟩) 2 [⟨#[97]⟩, ⟨#[98]⟩] :=
  lit_C hb (by decide) (fun j p hj => by
    match j, hj with
    | 0, hj => cases hj; exact ⟨[.string ⟨#[97]⟩], rfl, rfl, fun i u hu => by match i, hu with | 0, hu => exact hu⟩
    | 1, hj => cases hj; exact ⟨[.string ⟨#[98]⟩], rfl, rfl, fun i u hu => by match i, hu with | 0, hu => exact hu⟩)
theorem lit_blocks {w : World} {z : Nat} (hb : w.heap[z]? = some (.cells #[.int .i64 1, .int .i64 1, .string ⟨#[82, 97, 105, 110]⟩, .int .i64 0, .int .i64 0, .int .i64 0, .slice none 0 0, .int .i64 0, .int .i64 0] 49 (0, 0))) : k49.C w (some ⟨z, 0, none⟩) 1 [ex_bl] :=
  lit_C hb (by decide) (fun j p hj => by
    match j, hj with
    | 0, hj => cases hj; exact ⟨[.int .i64 1, .int .i64 1, .string ⟨#[82, 97, 105, 110]⟩, .int .i64 0, .int .i64 0, .int .i64 0, .slice none 0 0, .int .i64 0, .int .i64 0], rfl, k49_mk w ex_bl (Nat.le_refl 0) (fr_nilC _ _), fun i u hu => by rw [Nat.zero_mul, Nat.zero_add, ← Array.getElem?_toList]; exact hu⟩)
end Go.Proofs.YtkhgdglaophkbaaGreatDoor.PK
end
section
set_option linter.unusedVariables false
set_option linter.unusedSimpArgs false
namespace Go.Proofs.YtkhgdglaophkbaaGreatDoor.PK
open Go.RowKit Go.Proofs.YtkhgdglaophkbaaGreatDoorW.PrintWords Go.Proofs.YtkhgdglaophkbaaGreatDoorW.PrintLast Go.Proofs.YtkhgdglaophkbaaGreatDoorW.PrintMore
set_option maxHeartbeats 8000000 in
set_option maxRecDepth 100000 in
theorem fv_sane (w : World) : Calls Tryz.prog 10 #[] w fun e w' => e = .returned (.bool true) ∧ Below w.heap.size w w' := by
  have HB0 := Aside0.mk (Below.refl w.heap.size w)
  go_enter Tryz.func10, Tryz.ntmps10
  go_wp2_with (go_at_call 12; refine Rg.stop_here ?_)
  refine ⟨?_⟩
  refine (fv_encode ex_a _ _ (faK_mk _ ex_a (A9 := none) (c9 := 0) (Nat.le_refl 0) (fr_nilC _ _) (A10 := none) (c10 := 0) (Nat.le_refl 0) (fr_nilC _ _) (A12 := none) (c12 := 0) (Nat.le_refl 0) (fr_nilC _ _))).mono ?_
  rw [ex_1]
  rintro e w1 ⟨rfl, hb⟩
  have HB1 := Aside0.mk (below_step HB0.out hb)
  clear hb HB0
  go_wp2_with (go_at_call 14; refine Rg.stop_here ?_)
  refine ⟨?_⟩
  refine (fv_decode ex_s _ (by decide)).mono ?_
  rw [ex_2]
  rintro e w2 ⟨cs2, rfl, hk, hb⟩
  have HB2 := Aside0.mk (below_step HB1.out hb)
  clear hb HB1
  have KF2_2 := Aside0.mk hk
  clear hk
  go_wp2_with (with_reducible refine is_alloc rfl ?_; refine Rg.stop_here ?_)
  refine ⟨?_⟩
  refine box_event rfl (N := 3) rfl (cs := #[.int .i64 0, .int .i64 0, .int .i64 0, .int .i64 0, .string (⟨#[]⟩ : ByteArray), .int .i64 0, .int .i64 0, .string (⟨#[]⟩ : ByteArray), .string (⟨#[]⟩ : ByteArray), .slice none 0 0, .slice none 0 0, .int .i64 0, .slice none 0 0, .int .i64 0, .int .i64 0, .int .i64 0, .int .i64 0, .int .i64 0, .string (⟨#[]⟩ : ByteArray), .string (⟨#[]⟩ : ByteArray), .int .i64 0, .int .i64 0, .int .i64 0]) (t := 28) (by first | (go_simp; done) | (go_simp; rfl)) ?_
  intro p3 hp w2a hbx hb
  have hp' : w2.heap.size ≤ p3 := Nat.le_of_eq hp.symm
  have HBX := Aside0.mk hbx
  have HBa := Aside0.mk hb
  clear hp hbx hb
  go_wp2_with (with_reducible refine is_storeFa rfl ?_; refine Rg.stop_here ?_)
  refine ⟨?_⟩
  refine wpList_store_box rfl rfl _ _ _ rfl p3 _ cs2 _ rfl rfl HBX.out (by rw [Array.length_toList]; exact fa_size23 KF2_2.out) (by rw [faK_size KF2_2.out]; rfl) (faK_one KF2_2.out) ?_
  intro w3 hx hst hot
  have hb := HBa.out.trans (hst _ hp')
  have HB3 := Aside0.mk (below_step HB2.out hb)
  have HX3_3 := Aside0.mk hx
  have KF2_3 := Aside0.mk (faK_below KF2_2.out hb)
  clear KF2_2
  clear hx hst hot hb hp' HBX HBa HB2
  go_wp2_with (go_at_call 14; refine Rg.stop_here ?_)
  refine ⟨?_⟩
  refine (fv_decode ⟨#[4, 140, 1, 12, 10, 0]⟩ _ (by decide)).mono ?_
  rw [ex_3]
  rintro e w4 ⟨cs4, rfl, hk, hb⟩
  have HB4 := Aside0.mk (below_step HB3.out hb)
  have HX3_4 := Aside0.mk (bk_heap_below HX3_3.out hb)
  clear HX3_3
  have KF2_4 := Aside0.mk (faK_below KF2_3.out hb)
  clear KF2_3
  clear hb HB3
  have KF4_4 := Aside0.mk hk
  clear hk
  go_wp2_with (with_reducible refine is_alloc rfl ?_; refine Rg.stop_here ?_)
  refine ⟨?_⟩
  refine box_event rfl (N := 5) rfl (cs := #[.int .i64 0, .int .i64 0, .int .i64 0, .int .i64 0, .string (⟨#[]⟩ : ByteArray), .int .i64 0, .int .i64 0, .string (⟨#[]⟩ : ByteArray), .string (⟨#[]⟩ : ByteArray), .slice none 0 0, .slice none 0 0, .int .i64 0, .slice none 0 0, .int .i64 0, .int .i64 0, .int .i64 0, .int .i64 0, .int .i64 0, .string (⟨#[]⟩ : ByteArray), .string (⟨#[]⟩ : ByteArray), .int .i64 0, .int .i64 0, .int .i64 0]) (t := 28) (by first | (go_simp; done) | (go_simp; rfl)) ?_
  intro p5 hp w4a hbx hb
  have hp' : w4.heap.size ≤ p5 := Nat.le_of_eq hp.symm
  have HBX := Aside0.mk hbx
  have HBa := Aside0.mk hb
  clear hp hbx hb
  go_wp2_with (with_reducible refine is_storeFa rfl ?_; refine Rg.stop_here ?_)
  refine ⟨?_⟩
  refine wpList_store_box rfl rfl _ _ _ rfl p5 _ cs4 _ rfl rfl HBX.out (by rw [Array.length_toList]; exact fa_size23 KF4_4.out) (by rw [faK_size KF4_4.out]; rfl) (faK_one KF4_4.out) ?_
  intro w5 hx hst hot
  have hb := HBa.out.trans (hst _ hp')
  have HB5 := Aside0.mk (below_step HB4.out hb)
  have HX5_5 := Aside0.mk hx
  have HX3_5 := Aside0.mk (bk_heap_below HX3_4.out hb)
  clear HX3_4
  have KF2_5 := Aside0.mk (faK_below KF2_4.out hb)
  clear KF2_4
  have KF4_5 := Aside0.mk (faK_below KF4_4.out hb)
  clear KF4_4
  clear hx hst hot hb hp' HBX HBa HB4
  clear HX5_5 KF4_5
  go_wp2_with (go_at_call 14; refine Rg.stop_here ?_)
  refine ⟨?_⟩
  refine (fv_decode ⟨#[4, 140, 1, 22, 10]⟩ _ (by decide)).mono ?_
  rw [ex_4]
  rintro e w6 ⟨cs6, rfl, hk, hb⟩
  have HB6 := Aside0.mk (below_step HB5.out hb)
  have HX3_6 := Aside0.mk (bk_heap_below HX3_5.out hb)
  clear HX3_5
  have KF2_6 := Aside0.mk (faK_below KF2_5.out hb)
  clear KF2_5
  clear hb HB5
  have KF6_6 := Aside0.mk hk
  clear hk
  go_wp2_with (with_reducible refine is_alloc rfl ?_; refine Rg.stop_here ?_)
  refine ⟨?_⟩
  refine box_event rfl (N := 7) rfl (cs := #[.int .i64 0, .int .i64 0, .int .i64 0, .int .i64 0, .string (⟨#[]⟩ : ByteArray), .int .i64 0, .int .i64 0, .string (⟨#[]⟩ : ByteArray), .string (⟨#[]⟩ : ByteArray), .slice none 0 0, .slice none 0 0, .int .i64 0, .slice none 0 0, .int .i64 0, .int .i64 0, .int .i64 0, .int .i64 0, .int .i64 0, .string (⟨#[]⟩ : ByteArray), .string (⟨#[]⟩ : ByteArray), .int .i64 0, .int .i64 0, .int .i64 0]) (t := 28) (by first | (go_simp; done) | (go_simp; rfl)) ?_
  intro p7 hp w6a hbx hb
  have hp' : w6.heap.size ≤ p7 := Nat.le_of_eq hp.symm
  have HBX := Aside0.mk hbx
  have HBa := Aside0.mk hb
  clear hp hbx hb
  go_wp2_with (with_reducible refine is_storeFa rfl ?_; refine Rg.stop_here ?_)
  refine ⟨?_⟩
  refine wpList_store_box rfl rfl _ _ _ rfl p7 _ cs6 _ rfl rfl HBX.out (by rw [Array.length_toList]; exact fa_size23 KF6_6.out) (by rw [faK_size KF6_6.out]; rfl) (faK_one KF6_6.out) ?_
  intro w7 hx hst hot
  have hb := HBa.out.trans (hst _ hp')
  have HB7 := Aside0.mk (below_step HB6.out hb)
  have HX7_7 := Aside0.mk hx
  have HX3_7 := Aside0.mk (bk_heap_below HX3_6.out hb)
  clear HX3_6
  have KF2_7 := Aside0.mk (faK_below KF2_6.out hb)
  clear KF2_6
  have KF6_7 := Aside0.mk (faK_below KF6_6.out hb)
  clear KF6_6
  clear hx hst hot hb hp' HBX HBa HB6
  clear HX7_7 KF6_7
  go_wp2_with (go_at_call 12; refine Rg.stop_here ?_)
  refine ⟨?_⟩
  refine (fv_encode ex_b _ _ (faK_mk _ ex_b (A9 := none) (c9 := 0) (Nat.le_refl 0) (fr_nilC _ _) (A10 := none) (c10 := 0) (Nat.le_refl 0) (fr_nilC _ _) (A12 := none) (c12 := 0) (Nat.le_refl 0) (fr_nilC _ _))).mono ?_
  rw [ex_5]
  rintro e w8 ⟨rfl, hb⟩
  have HB8 := Aside0.mk (below_step HB7.out hb)
  have HX3_8 := Aside0.mk (bk_heap_below HX3_7.out hb)
  clear HX3_7
  have KF2_8 := Aside0.mk (faK_below KF2_7.out hb)
  clear KF2_7
  clear hb HB7
  go_wp2_with (go_at_call 13; refine Rg.stop_here ?_)
  refine ⟨?_⟩
  refine (fv_valid ex_c _ _ (faK_mk _ ex_c (A9 := none) (c9 := 0) (Nat.le_refl 0) (fr_nilC _ _) (A10 := none) (c10 := 0) (Nat.le_refl 0) (fr_nilC _ _) (A12 := none) (c12 := 0) (Nat.le_refl 0) (fr_nilC _ _))).mono ?_
  rw [ex_6]
  rintro e w9 ⟨rfl, hb⟩
  have HB9 := Aside0.mk (below_step HB8.out hb)
  have HX3_9 := Aside0.mk (bk_heap_below HX3_8.out hb)
  clear HX3_8
  have KF2_9 := Aside0.mk (faK_below KF2_8.out hb)
  clear KF2_8
  clear hb HB8
  go_wp2_with (go_at_call 13; refine Rg.stop_here ?_)
  refine ⟨?_⟩
  refine (fv_valid ex_d _ _ (faK_mk _ ex_d (A9 := none) (c9 := 0) (Nat.le_refl 0) (fr_nilC _ _) (A10 := none) (c10 := 0) (Nat.le_refl 0) (fr_nilC _ _) (A12 := none) (c12 := 0) (Nat.le_refl 0) (fr_nilC _ _))).mono ?_
  rw [ex_7]
  rintro e w10 ⟨rfl, hb⟩
  have HB10 := Aside0.mk (below_step HB9.out hb)
  have HX3_10 := Aside0.mk (bk_heap_below HX3_9.out hb)
  clear HX3_9
  have KF2_10 := Aside0.mk (faK_below KF2_9.out hb)
  clear KF2_9
  clear hb HB9
  go_wp2_with (with_reducible refine is_build rfl ?_; refine Rg.stop_here ?_)
  refine ⟨?_⟩
  refine lit_event rfl (N := 42) rfl (cs := #[.string ⟨#[97]⟩, .string ⟨#[98]⟩]) (t := 9) (n := 2) (by first | (go_simp; done) | (go_simp; rfl)) ?_
  intro zt hz w10a hl hb
  have HT := Aside0.mk (lit_topics hl)
  have HBa := Aside0.mk hb
  clear hz hl hb
  go_wp2_with (with_reducible refine is_build rfl ?_; refine Rg.stop_here ?_)
  refine ⟨?_⟩
  refine lit_event rfl (N := 44) rfl (cs := #[.int .i64 1, .int .i64 1, .string ⟨#[82, 97, 105, 110]⟩, .int .i64 0, .int .i64 0, .int .i64 0, .slice none 0 0, .int .i64 0, .int .i64 0]) (t := 49) (n := 1) (by first | (go_simp; done) | (go_simp; rfl)) ?_
  intro zb hz w11 hl hb
  have HBL := Aside0.mk (lit_blocks hl)
  have HT1 := Aside0.mk (Kd.C_below HT.out hb)
  have hb := below_step HBa.out hb
  have HB11 := Aside0.mk (below_step HB10.out hb)
  have HX3_11 := Aside0.mk (bk_heap_below HX3_10.out hb)
  clear HX3_10
  have KF2_11 := Aside0.mk (faK_below KF2_10.out hb)
  clear KF2_10
  clear hz hl hb HBa HT HB10
  go_wp2_with (go_at_call 13; refine Rg.stop_here ?_)
  refine ⟨?_⟩
  refine (fv_valid ex_e _ _ (faK_mk _ ex_e (A9 := some ⟨zt, 0, none⟩) (c9 := 2) (Nat.le_refl 2) HT1.out (A10 := some ⟨zb, 0, none⟩) (c10 := 1) (Nat.le_refl 1) HBL.out (A12 := none) (c12 := 0) (Nat.le_refl 0) (fr_nilC _ _))).mono ?_
  rw [ex_8]
  rintro e w12 ⟨rfl, hb⟩
  have HB12 := Aside0.mk (below_step HB11.out hb)
  have HX3_12 := Aside0.mk (bk_heap_below HX3_11.out hb)
  clear HX3_11
  have KF2_12 := Aside0.mk (faK_below KF2_11.out hb)
  clear KF2_11
  clear hb HB11
  clear HT1 HBL
  go_wp2_with (go_at_call 19; refine Rg.stop_here ?_)
  refine ⟨?_⟩
  refine (fv_redact ex_r _ _ (faK_mk _ ex_r (A9 := none) (c9 := 0) (Nat.le_refl 0) (fr_nilC _ _) (A10 := none) (c10 := 0) (Nat.le_refl 0) (fr_nilC _ _) (A12 := none) (c12 := 0) (Nat.le_refl 0) (fr_nilC _ _))).mono ?_
  rw [ex_9]
  rintro e w13 ⟨cs13, rfl, hk, hb⟩
  have HB13 := Aside0.mk (below_step HB12.out hb)
  have HX3_13 := Aside0.mk (bk_heap_below HX3_12.out hb)
  clear HX3_12
  have KF2_13 := Aside0.mk (faK_below KF2_12.out hb)
  clear KF2_12
  clear hb HB12
  have KF13_13 := Aside0.mk hk
  clear hk
  go_wp2_with (with_reducible refine is_alloc rfl ?_; refine Rg.stop_here ?_)
  refine ⟨?_⟩
  refine box_event rfl (N := 14) rfl (cs := #[.int .i64 0, .int .i64 0, .int .i64 0, .int .i64 0, .string (⟨#[]⟩ : ByteArray), .int .i64 0, .int .i64 0, .string (⟨#[]⟩ : ByteArray), .string (⟨#[]⟩ : ByteArray), .slice none 0 0, .slice none 0 0, .int .i64 0, .slice none 0 0, .int .i64 0, .int .i64 0, .int .i64 0, .int .i64 0, .int .i64 0, .string (⟨#[]⟩ : ByteArray), .string (⟨#[]⟩ : ByteArray), .int .i64 0, .int .i64 0, .int .i64 0]) (t := 28) (by first | (go_simp; done) | (go_simp; rfl)) ?_
  intro p14 hp w13a hbx hb
  have hp' : w13.heap.size ≤ p14 := Nat.le_of_eq hp.symm
  have HBX := Aside0.mk hbx
  have HBa := Aside0.mk hb
  clear hp hbx hb
  go_wp2_with (with_reducible refine is_storeFa rfl ?_; refine Rg.stop_here ?_)
  refine ⟨?_⟩
  refine wpList_store_box rfl rfl _ _ _ rfl p14 _ cs13 _ rfl rfl HBX.out (by rw [Array.length_toList]; exact fa_size23 KF13_13.out) (by rw [faK_size KF13_13.out]; rfl) (faK_one KF13_13.out) ?_
  intro w14 hx hst hot
  have hb := HBa.out.trans (hst _ hp')
  have HB14 := Aside0.mk (below_step HB13.out hb)
  have HX14_14 := Aside0.mk hx
  have HX3_14 := Aside0.mk (bk_heap_below HX3_13.out hb)
  clear HX3_13
  have KF2_14 := Aside0.mk (faK_below KF2_13.out hb)
  clear KF2_13
  have KF13_14 := Aside0.mk (faK_below KF13_13.out hb)
  clear KF13_13
  clear hx hst hot hb hp' HBX HBa HB13
  go_wp2_with (with_reducible refine is_loadFa rfl ?_; refine Rg.stop_here ?_)
  refine ⟨?_⟩
  refine wpList_load_row rfl 28 _ rfl p14 rfl _ _ _ _ HX14_14.out Tryz.underlying28 rfl (fa_size23 KF13_14.out) ?_
  go_wp2_with (go_at_call 15; refine Rg.stop_here ?_)
  refine ⟨?_⟩
  refine (fv_same ex_g ex_g cs13 _ _ KF13_14.out (faK_mk _ ex_g (A9 := none) (c9 := 0) (Nat.le_refl 0) (fr_nilC _ _) (A10 := none) (c10 := 0) (Nat.le_refl 0) (fr_nilC _ _) (A12 := none) (c12 := 0) (Nat.le_refl 0) (fr_nilC _ _))).mono ?_
  rw [ex_10]
  rintro e w15 ⟨rfl, hb⟩
  have HB15 := Aside0.mk (below_step HB14.out hb)
  have HX3_15 := Aside0.mk (bk_heap_below HX3_14.out hb)
  clear HX3_14
  have HX14_15 := Aside0.mk (bk_heap_below HX14_14.out hb)
  clear HX14_14
  have KF2_15 := Aside0.mk (faK_below KF2_14.out hb)
  clear KF2_14
  have KF13_15 := Aside0.mk (faK_below KF13_14.out hb)
  clear KF13_14
  clear hb HB14
  have hrun1 := Aside0.mk (KF2_15.out)
  obtain ⟨A9, c9, A10, c10, A12, c12, hcs, _⟩ := faK_open KF2_15.out
  have e0 : w15.cell? ⟨p3, 0, none⟩ = some (.int .i64 2) := by have h := bk_cell HX3_15.out 0; rw [hcs] at h; exact h
  have e3 : w15.cell? ⟨p3, 3, none⟩ = some (.int .i64 5) := by have h := bk_cell HX3_15.out 3; rw [hcs] at h; exact h
  clear hcs
  have es : ex_s.toList = [4, 140, 1, 12, 10] := by kernel_rfl
  go_wp2_with (with_reducible refine is_loadFa rfl ?_; refine Rg.stop_here ?_)
  refine ⟨?_⟩
  refine ev_wanted (by kernel_rfl) (rg_runRow _ _ rfl p3 rfl 28 cs2 (0, 0) _ HX3_15.out Tryz.underlying28 rfl (fa_size23 KF2_15.out)) ?_
  go_wp2_with (with_reducible refine is_loadFa rfl ?_; refine Rg.stop_here ?_)
  refine ⟨?_⟩
  refine ev_wanted (by kernel_rfl) (rg_runRow _ _ rfl p14 rfl 28 cs13 (0, 0) _ HX14_15.out Tryz.underlying28 rfl (fa_size23 KF13_15.out)) ?_
  go_wp2_with (go_at_call 15; refine Rg.stop_here ?_)
  refine ⟨?_⟩
  refine (fv_same ex_a ex_g cs2 cs13 _ KF2_15.out KF13_15.out).mono ?_
  rw [ex_11]
  rintro e w16 ⟨rfl, hb⟩
  have HB16 := Aside0.mk (below_step HB15.out hb)
  clear hb HB15
  go_wp2
  go_ret
  exact ⟨rfl, HB16.out⟩
end Go.Proofs.YtkhgdglaophkbaaGreatDoor.PK
end
