/- Texts of this claim, one behind the other. -/
import Derived.Test.YtkhgdglaophkbaaGreatDoorMUx2
import Derived.Test.YtkhgdglaophkbaaGreatDoorMUx13
section
set_option linter.unusedVariables false
set_option linter.unusedSimpArgs false
namespace Go.Proofs.YtkhgdglaophkbaaGreatDoor.PK
open Go.RowKit Go.Proofs.YtkhgdglaophkbaaGreatDoorW.PrintWords Go.Proofs.YtkhgdglaophkbaaGreatDoorW.PrintLast Go.Proofs.YtkhgdglaophkbaaGreatDoorW.PrintMore
def AllSp (s : List UInt8) : Prop := ∀ c ∈ s, c = 32
theorem AllSp.at {s : List UInt8} (h : AllSp s) (i : Nat) (hi : i < s.length) : m_at s i = 32 := by
  have := h s[i] (List.getElem_mem hi)
  simp [m_at, List.getD_eq_getElem?_getD, hi, this]
def SpHead (s : List UInt8) : Prop := s = [] ∨ ∃ t, s = 32 :: t
theorem SpHead.at {s : List UInt8} (h : SpHead s) (hs : s ≠ []) : m_at s 0 = 32 := by
  rcases h with h | ⟨t, rfl⟩
  · exact absurd h hs
  · rfl
def Neat (x : List UInt8) : Prop := x.head? ≠ some 32 ∧ x.getLast? ≠ some 32 ∧ x ≠ []
def Ended (x : List UInt8) : Prop := Neat x ∧ m_ends x (x.length - 1) = true ∧ ∀ j, j + 1 < x.length → m_ends x j = false
def Open (x : List UInt8) : Prop := Neat x ∧ ∀ j, j < x.length → m_ends x j = false
inductive Parts : List UInt8 → List (List UInt8) → Prop where
  | none (s : List UInt8) (h : AllSp s) : Parts s []
  | last (sp x sq : List UInt8) (h1 : AllSp sp) (h2 : AllSp sq) (hx : Open x) : Parts (sp ++ x ++ sq) [x]
  | more (sp x rest : List UInt8) (xs : List (List UInt8)) (h1 : AllSp sp) (hr : SpHead rest) (hx : Ended x) (h : Parts rest xs) : Parts (sp ++ x ++ rest) (x :: xs)
end Go.Proofs.YtkhgdglaophkbaaGreatDoor.PK
end
section
set_option linter.unusedVariables false
set_option linter.unusedSimpArgs false
namespace Go.Proofs.YtkhgdglaophkbaaGreatDoor.PK
open Go.RowKit Go.Proofs.YtkhgdglaophkbaaGreatDoorW.PrintWords Go.Proofs.YtkhgdglaophkbaaGreatDoorW.PrintLast Go.Proofs.YtkhgdglaophkbaaGreatDoorW.PrintMore
end Go.Proofs.YtkhgdglaophkbaaGreatDoor.PK
end
section
set_option linter.unusedVariables false
set_option linter.unusedSimpArgs false
namespace Go.Proofs.YtkhgdglaophkbaaGreatDoor.PK
open Go.RowKit Go.Proofs.YtkhgdglaophkbaaGreatDoorW.PrintWords Go.Proofs.YtkhgdglaophkbaaGreatDoorW.PrintLast Go.Proofs.YtkhgdglaophkbaaGreatDoorW.PrintMore
theorem fl_cutS (s : ByteArray) (j : Int) (m : Nat) (h : j ≤ (m : Int)) : (s.extract 0 j.toNat).size ≤ m := by rw [ByteArray.size_extract]; omega
set_option maxHeartbeats 8000000 in
set_option maxRecDepth 100000 in
theorem fl_unique (s : ByteArray) (w : World) : Calls Tryz.prog 4 #[.string s] w fun e w' => e = .returned (.bool true) ∧ Below w.heap.size w w' := by
  have HU := Aside0.mk (fl_cutS s (min (s.size : Int) 4000) 4000 (by omega))
  go_enter Tryz.func4, Tryz.ntmps4
  go_wp2_with (go_at_call 10; refine Rg.stop_here ?_)
  refine ⟨?_⟩
  refine (fv_sane _).mono ?_
  rintro e w1 ⟨rfl, hb⟩
  have HB1 := Aside0.mk hb
  clear hb
  go_wp2_with (go_at_call 14; refine Rg.stop_here ?_)
  refine ⟨?_⟩
  refine (fv_decode (s.extract 0 (min (s.size : Int) 4000).toNat) _ (Nat.le_trans HU.out (by decide))).mono ?_
  obtain ⟨u, hu⟩ : ∃ u, s.extract 0 (min (s.size : Int) 4000).toNat = u := ⟨_, rfl⟩
  rw [hu]
  obtain ⟨fd, er, hD⟩ : ∃ fd er, m_fdecode u = (fd, er) := ⟨_, _, rfl⟩
  rw [hD]
  rintro e w2 ⟨cs2, rfl, hk, hb⟩
  have HB2 := Aside0.mk (below_step HB1.out hb)
  have HK2 := Aside0.mk hk
  have HDD := Aside0.mk (fd_decoded u fd er hD)
  clear hb hk HB1 hu hD HU
  go_wp2_with (with_reducible refine is_alloc rfl ?_; refine Rg.stop_here ?_)
  refine ⟨?_⟩
  refine box_event rfl (N := 5) rfl (cs := #[.int .i64 0, .int .i64 0, .int .i64 0, .int .i64 0, .string (⟨#[]⟩ : ByteArray), .int .i64 0, .int .i64 0, .string (⟨#[]⟩ : ByteArray), .string (⟨#[]⟩ : ByteArray), .slice none 0 0, .slice none 0 0, .int .i64 0, .slice none 0 0, .int .i64 0, .int .i64 0, .int .i64 0, .int .i64 0, .int .i64 0, .string (⟨#[]⟩ : ByteArray), .string (⟨#[]⟩ : ByteArray), .int .i64 0, .int .i64 0, .int .i64 0]) (t := 28) (by first | (go_simp; done) | (go_simp; rfl)) ?_
  intro p5 hp w2a hbx hb
  have hp' : w2.heap.size ≤ p5 := Nat.le_of_eq hp.symm
  have HBX := Aside0.mk hbx
  have HBa := Aside0.mk hb
  clear hp hbx hb
  go_wp2_with (with_reducible refine is_storeFa rfl ?_; refine Rg.stop_here ?_)
  refine ⟨?_⟩
  refine wpList_store_box rfl rfl _ _ _ rfl p5 _ cs2 _ rfl rfl HBX.out (by rw [Array.length_toList]; exact fa_size23 HK2.out) (by rw [faK_size HK2.out]; rfl) (faK_one HK2.out) ?_
  intro w3 hx hst hot
  have hb := HBa.out.trans (hst _ hp')
  have HB3 := Aside0.mk (below_step HB2.out hb)
  have HK3 := Aside0.mk (faK_below HK2.out hb)
  have HX3 := Aside0.mk hx
  clear hx hst hot hb hp' HBX HBa HB2 HK2
  rcases HDD.out with ⟨rfl, hv, hs⟩ | ⟨rfl, he⟩
  · have HV := Aside0.mk (show m_fencode fd = (u, 0) by rw [fd_encode_ok fd hv, ← hs])
    have HVV := Aside0.mk hv
    clear hv hs HDD
    have eu : (u.toList == u.toList) = true := by simp
    go_wp2_with (with_reducible refine is_loadFa rfl ?_; refine Rg.stop_here ?_)
    refine ⟨?_⟩
    refine wpList_load_row rfl 28 _ rfl p5 rfl _ _ _ _ HX3.out Tryz.underlying28 rfl (fa_size23 HK3.out) ?_
    go_wp2_with (go_at_call 12; refine Rg.stop_here ?_)
    refine ⟨?_⟩
    refine (fv_encode fd cs2 _ HK3.out).mono ?_
    rw [HV.out]
    rintro e w4 ⟨rfl, hb⟩
    have HB4 := Aside0.mk (below_step HB3.out hb)
    have HK4 := Aside0.mk (faK_below HK3.out hb)
    have HX4 := Aside0.mk (bk_heap_below HX3.out hb)
    clear hb HB3 HK3 HX3
    go_wp2_with (with_reducible refine is_loadFa rfl ?_; refine Rg.stop_here ?_)
    refine ⟨?_⟩
    refine ev_wanted (by kernel_rfl) (rg_runRow _ _ rfl p5 rfl 28 cs2 (0, 0) _ HX4.out Tryz.underlying28 rfl (fa_size23 HK4.out)) ?_
    go_wp2_with (go_at_call 13; refine Rg.stop_here ?_)
    refine ⟨?_⟩
    refine (fv_valid fd cs2 _ HK4.out).mono ?_
    rw [HVV.out]
    rintro e w5 ⟨rfl, hb⟩
    have HB5 := Aside0.mk (below_step HB4.out hb)
    clear hb HB4
    go_wp2
    go_ret
    exact ⟨rfl, HB5.out⟩
  · clear HDD
    rcases he with rfl | rfl
    · go_wp2_with (with_reducible refine is_loadFa rfl ?_; refine Rg.stop_here ?_)
      refine ⟨?_⟩
      refine ev_wanted (by kernel_rfl) (rg_runRow _ _ rfl p5 rfl 28 cs2 (0, 0) _ HX3.out Tryz.underlying28 rfl (fa_size23 HK3.out)) ?_
      go_wp2_with (go_at_call 15; refine Rg.stop_here ?_)
      refine ⟨?_⟩
      refine (fv_same zFa zFa cs2 _ _ HK3.out (faK_zero _)).mono ?_
      rw [(m_fsame_iff zFa zFa).2 rfl]
      rintro e w4 ⟨rfl, hb⟩
      have HB4 := Aside0.mk (below_step HB3.out hb)
      clear hb HB3
      go_wp2
      go_ret
      exact ⟨rfl, HB4.out⟩
    · go_wp2_with (with_reducible refine is_loadFa rfl ?_; refine Rg.stop_here ?_)
      refine ⟨?_⟩
      refine ev_wanted (by kernel_rfl) (rg_runRow _ _ rfl p5 rfl 28 cs2 (0, 0) _ HX3.out Tryz.underlying28 rfl (fa_size23 HK3.out)) ?_
      go_wp2_with (go_at_call 15; refine Rg.stop_here ?_)
      refine ⟨?_⟩
      refine (fv_same zFa zFa cs2 _ _ HK3.out (faK_zero _)).mono ?_
      rw [(m_fsame_iff zFa zFa).2 rfl]
      rintro e w4 ⟨rfl, hb⟩
      have HB4 := Aside0.mk (below_step HB3.out hb)
      clear hb HB3
      go_wp2
      go_ret
      exact ⟨rfl, HB4.out⟩
end Go.Proofs.YtkhgdglaophkbaaGreatDoor.PK
end
