/- Texts of this claim, one behind the other. -/
import Derived.Test.YtpgjhjlhipikgaaDoorMCx5
import Derived.Test.YtpgjhjlhipikgaaDoorMCx6
import Derived.Deep.QuietTactic
import Derived.BigQuiet
import Derived.Test.YtpgjhjlhipikgaaDoorMCx7
import Derived.Test.YtpgjhjlhipikgaaDoorMCx11
section
namespace Go.Proofs.YtpgjhjlhipikgaaDoor.PK
open Go.RowKit Go.Proofs.YtpgjhjlhipikgaaDoorW.PrintWords Go.Proofs.YtpgjhjlhipikgaaDoorW.PrintLast Go.Proofs.YtpgjhjlhipikgaaDoorW.PrintMore
attribute [local go_sem] max2_int min2_int max_two min_two max_three min_three max_four min_four   -- for this text's walks alone
set_option linter.unusedVariables false
set_option linter.unusedSimpArgs false

/-! ### copydeskref03_SameStrings: function 31 -/
def copydeskref03_SameStrings.l0 : Nat → List ByteArray → List ByteArray → Int → Option (Bool)
  | 0, _, _, _ => none
  | k + 1, x0, x1, x5 => if x5 < (x0.length : Int) then (if 0 ≤ x5 then (if x5 < (x1.length : Int) then (if (rdOf ByteArray.empty x0 x5).toList = (rdOf ByteArray.empty x1 x5).toList then (copydeskref03_SameStrings.l0 k x0 x1 (wrap64 (x5 + 1))) else (some false)) else (none)) else (none)) else (some true)
def copydeskref03_SameStrings.f (k : Nat) (l0 : List ByteArray) (l1 : List ByteArray) : Option (Bool) := if (l0.length : Int) = (l1.length : Int) then (copydeskref03_SameStrings.l0 k l0 l1 0) else (some false)
theorem copydeskref03_SameStrings.mono_l : ∀ k, (∀ y0 y1 y2, LeO (copydeskref03_SameStrings.l0 k y0 y1 y2) (copydeskref03_SameStrings.l0 (k + 1) y0 y1 y2))
  | 0 => fun _ _ _ r h => by simp [copydeskref03_SameStrings.l0] at h
  | k + 1 => by
    have ih0 := copydeskref03_SameStrings.mono_l k
    · intro y0 y1 y2
      unfold copydeskref03_SameStrings.l0
      repeat' first
      | (with_reducible exact ih0 _ _ _)
      | (with_reducible exact LeO.refl _)
      | (with_reducible exact LeO.none _)
      | (with_reducible refine LeO.ite ?_ ?_)
      | (with_reducible refine LeO.bind ?_ (fun _ => ?_))
      | exact ih0 _ _ _
      | exact LeO.none _
      | refine LeO.ite ?_ ?_
      | refine LeO.bind ?_ (fun _ => ?_)
theorem copydeskref03_SameStrings.mono : ∀ a0 a1 k, LeO (copydeskref03_SameStrings.f k a0 a1) (copydeskref03_SameStrings.f (k + 1) a0 a1) := by
  intro a0 a1 k
  have ih0 := copydeskref03_SameStrings.mono_l k
  unfold copydeskref03_SameStrings.f
  repeat' first
      | (with_reducible exact ih0 _ _ _)
      | (with_reducible exact LeO.refl _)
      | (with_reducible exact LeO.none _)
      | (with_reducible refine LeO.ite ?_ ?_)
      | (with_reducible refine LeO.bind ?_ (fun _ => ?_))
      | exact ih0 _ _ _
      | exact LeO.none _
      | refine LeO.ite ?_ ?_
      | refine LeO.bind ?_ (fun _ => ?_)
set_option maxHeartbeats 8000000 in
set_option maxRecDepth 100000 in
theorem copydeskref03_SameStrings.calls (k : Nat) (A0 : Option Addr) (c0 : Nat) (l0 : List ByteArray) (A1 : Option Addr) (c1 : Nat) (l1 : List ByteArray) (r : Bool) (w : World) (hr0 : Kd.C Kd.string w A0 l0.length l0) (hc0 : l0.length ≤ c0) (hr1 : Kd.C Kd.string w A1 l1.length l1) (hc1 : l1.length ≤ c1) (h : copydeskref03_SameStrings.f k l0 l1 = some r) :
    Calls Tryd.prog 31 #[.slice A0 l0.length c0, .slice A1 l1.length c1] w fun e w' => e = .returned (.bool r) ∧ Drawn0 w w' := by
  have HR0 := Aside0.mk hr0
  have HC0 := Aside0.mk hc0
  clear hr0 hc0
  have HR1 := Aside0.mk hr1
  have HC1 := Aside0.mk hc1
  clear hr1 hc1
  have H : (if (l0.length : Int) = (l1.length : Int) then (copydeskref03_SameStrings.l0 k l0 l1 0) else (some false)) = some r := h
  clear h
  by_cases c3 : (l0.length : Int) = (l1.length : Int)
  · rw [if_pos c3] at H
    have c3b0 : ((l0.length : Int) == (l1.length : Int)) = true := beq_iff_eq.mpr c3
    have c3b1 : ((l0.length : Int) != (l1.length : Int)) = false := bne_eq_false_iff_eq.mpr c3
    have c3b2 : (l0.length == l1.length) = true := by first | simpa using c3 | (simp at c3 ⊢; omega)
    clear c3
    have H' := Aside0.mk H
    clear H
    go_enter Tryd.func31, Tryd.ntmps31
    go_wp2
    repeat (go_quiet (fail); try go_wp2)
    go_loopg [5] k (fun kq v5 w' => ∃ (x5_1 : Int), v5 = .int .i64 x5_1 ∧ Aside0 (copydeskref03_SameStrings.l0 kq l0 l1 x5_1 = some r) ∧ Aside0 (kq ≤ k) ∧ Drawn0 w w')
    case atStart => exact ⟨(0), (by first | rfl | (simp; done) | (simp [*]; done)), H', ⟨Nat.le_refl _⟩, by repeat (first | exact Drawn0.refl _ | apply Drawn0.step)⟩
    case round =>
      clear H'
      try clear c1
      try clear p2
      try clear c3
      try clear c3b0
      try clear c3b1
      try clear c3b2
      obtain ⟨x5_1, rfl, HA, HK1, ⟨m1, rfl⟩⟩ := hrel
      cases gk with
      | zero => exact absurd HA.out (by simp [copydeskref03_SameStrings.l0])
      | succ k1 =>
        have H := HA.out
        clear HA
        simp only [copydeskref03_SameStrings.l0] at H
        by_cases c4 : x5_1 < (l0.length : Int)
        · rw [if_pos c4] at H
          have c4b0 : decide (x5_1 < (l0.length : Int)) = true := decide_eq_true c4
          clear c4
          by_cases c5 : 0 ≤ x5_1
          · rw [if_pos c5] at H
            have c5b0 : decide (0 ≤ x5_1) = true := decide_eq_true c5
            clear c5
            by_cases c6 : x5_1 < (l1.length : Int)
            · rw [if_pos c6] at H
              have c6b0 : decide (x5_1 < (l1.length : Int)) = true := decide_eq_true c6
              clear c6
              by_cases c7 : (rdOf ByteArray.empty l0 x5_1).toList = (rdOf ByteArray.empty l1 x5_1).toList
              · rw [if_pos c7] at H
                have c7b0 : ((rdOf ByteArray.empty l0 x5_1).toList == (rdOf ByteArray.empty l1 x5_1).toList) = true := beq_iff_eq.mpr c7
                have c7b1 : ((rdOf ByteArray.empty l0 x5_1).toList != (rdOf ByteArray.empty l1 x5_1).toList) = false := bne_eq_false_iff_eq.mpr c7
                clear c7
                have H' := Aside0.mk H
                clear H
                have p254 : 0 ≤ (x5_1 : Int) := of_decide_eq_true (by first | (with_reducible assumption) | assumption)
                have q254 : x5_1 < (l0.length : Int) := of_decide_eq_true (by first | (with_reducible assumption) | assumption)
                obtain ⟨ad254, e254, hx254_0⟩ := Kd.at_string HR0.out x5_1 p254 q254
                cases e254
                replace p254 := eq_true p254
                replace q254 := eq_true q254
                have p255 : 0 ≤ (x5_1 : Int) := of_decide_eq_true (by first | (with_reducible assumption) | assumption)
                have q255 : x5_1 < (l1.length : Int) := of_decide_eq_true (by first | (with_reducible assumption) | assumption)
                obtain ⟨ad255, e255, hx255_0⟩ := Kd.at_string HR1.out x5_1 p255 q255
                cases e255
                replace p255 := eq_true p255
                replace q255 := eq_true q255
                go_wp2
                repeat (go_quiet (fail); try go_wp2)
                go_roundg k1
                case measure => have := HK1.out; omega
                case rel => exact ⟨(wrap64 (x5_1 + 1)), (by first | rfl | (simp; done) | (simp [*]; done)), H', ⟨by have := HK1.out; omega⟩, by repeat (first | exact Drawn0.refl _ | apply Drawn0.step)⟩
              · rw [if_neg c7] at H
                have c7b0 : ((rdOf ByteArray.empty l0 x5_1).toList == (rdOf ByteArray.empty l1 x5_1).toList) = false := beq_eq_false_iff_ne.mpr c7
                have c7b1 : ((rdOf ByteArray.empty l0 x5_1).toList != (rdOf ByteArray.empty l1 x5_1).toList) = true := bne_iff_ne.mpr c7
                obtain rfl := Option.some.inj H
                have p254 : 0 ≤ (x5_1 : Int) := of_decide_eq_true (by first | (with_reducible assumption) | assumption)
                have q254 : x5_1 < (l0.length : Int) := of_decide_eq_true (by first | (with_reducible assumption) | assumption)
                obtain ⟨ad254, e254, hx254_0⟩ := Kd.at_string HR0.out x5_1 p254 q254
                cases e254
                replace p254 := eq_true p254
                replace q254 := eq_true q254
                have p255 : 0 ≤ (x5_1 : Int) := of_decide_eq_true (by first | (with_reducible assumption) | assumption)
                have q255 : x5_1 < (l1.length : Int) := of_decide_eq_true (by first | (with_reducible assumption) | assumption)
                obtain ⟨ad255, e255, hx255_0⟩ := Kd.at_string HR1.out x5_1 p255 q255
                cases e255
                replace p255 := eq_true p255
                replace q255 := eq_true q255
                go_wp2
                repeat (go_quiet (fail); try go_wp2)
                go_ret
                exact ⟨by first | rfl | (simp; done) | (simp [*]; done), by repeat (first | exact Drawn0.refl _ | apply Drawn0.step)⟩
            · rw [if_neg c6] at H
              exact absurd H (by simp)
          · rw [if_neg c5] at H
            exact absurd H (by simp)
        · rw [if_neg c4] at H
          have c4b0 : decide (x5_1 < (l0.length : Int)) = false := decide_eq_false c4
          clear c4
          obtain rfl := Option.some.inj H
          go_wp2
          repeat (go_quiet (fail); try go_wp2)
          go_ret
          exact ⟨by first | rfl | (simp; done) | (simp [*]; done), by repeat (first | exact Drawn0.refl _ | apply Drawn0.step)⟩
  · rw [if_neg c3] at H
    have c3b0 : ((l0.length : Int) == (l1.length : Int)) = false := beq_eq_false_iff_ne.mpr c3
    have c3b1 : ((l0.length : Int) != (l1.length : Int)) = true := bne_iff_ne.mpr c3
    have c3b2 : (l0.length == l1.length) = false := by first | simpa using c3 | (simp at c3 ⊢; omega)
    obtain rfl := Option.some.inj H
    go_enter Tryd.func31, Tryd.ntmps31
    go_wp2
    repeat (go_quiet (fail); try go_wp2)
    go_ret
    exact ⟨by first | rfl | (simp; done) | (simp [*]; done), by repeat (first | exact Drawn0.refl _ | apply Drawn0.step)⟩

end Go.Proofs.YtpgjhjlhipikgaaDoor.PK
end
section
namespace Go.Proofs.YtpgjhjlhipikgaaDoor.PK
open Go.RowKit Go.Proofs.YtpgjhjlhipikgaaDoorW.PrintWords Go.Proofs.YtpgjhjlhipikgaaDoorW.PrintLast Go.Proofs.YtpgjhjlhipikgaaDoorW.PrintMore
attribute [local go_sem] max2_int min2_int max_two min_two max_three min_three max_four min_four   -- for this text's walks alone
set_option linter.unusedVariables false
set_option linter.unusedSimpArgs false

/-! ### copydesklaw03_pick: function 36 -/
def copydesklaw03_pick.f (a0 : Int) (a1 : Int) : Option (Int) := if a0 < 0 then (if a1 = 0 then (none) else (some (Int.tmod (wrap64 (-(wrap64 (a0 + 1)))) a1))) else (if a1 = 0 then (none) else (some (Int.tmod a0 a1)))
set_option maxHeartbeats 8000000 in
set_option maxRecDepth 100000 in
theorem copydesklaw03_pick.calls (a0 : Int) (a1 : Int) (r : Int) (w : World) (h : copydesklaw03_pick.f a0 a1 = some r) :
    Calls Tryd.prog 36 #[.int .i64 a0, .int .i64 a1] w fun e w' => e = .returned (.int .i64 r) ∧ Drawn0 w w' := by
  have H : (if a0 < 0 then (if a1 = 0 then (none) else (some (Int.tmod (wrap64 (-(wrap64 (a0 + 1)))) a1))) else (if a1 = 0 then (none) else (some (Int.tmod a0 a1)))) = some r := h
  clear h
  by_cases c3 : a0 < 0
  · rw [if_pos c3] at H
    have c3b0 : decide (a0 < 0) = true := decide_eq_true c3
    clear c3
    by_cases c4 : a1 = 0
    · rw [if_pos c4] at H
      exact absurd H (by simp)
    · rw [if_neg c4] at H
      have c4b0 : (a1 == 0) = false := beq_eq_false_iff_ne.mpr c4
      have c4b1 : (a1 != 0) = true := bne_iff_ne.mpr c4
      obtain rfl := Option.some.inj H
      go_enter Tryd.func36, Tryd.ntmps36
      go_wp2
      go_ret
      exact ⟨by first | rfl | (simp; done) | (simp [*]; done), by repeat (first | exact Drawn0.refl _ | apply Drawn0.step)⟩
  · rw [if_neg c3] at H
    have c3b0 : decide (a0 < 0) = false := decide_eq_false c3
    clear c3
    by_cases c5 : a1 = 0
    · rw [if_pos c5] at H
      exact absurd H (by simp)
    · rw [if_neg c5] at H
      have c5b0 : (a1 == 0) = false := beq_eq_false_iff_ne.mpr c5
      have c5b1 : (a1 != 0) = true := bne_iff_ne.mpr c5
      obtain rfl := Option.some.inj H
      go_enter Tryd.func36, Tryd.ntmps36
      go_wp2
      go_ret
      exact ⟨by first | rfl | (simp; done) | (simp [*]; done), by repeat (first | exact Drawn0.refl _ | apply Drawn0.step)⟩

end Go.Proofs.YtpgjhjlhipikgaaDoor.PK
end
section
namespace Go.Proofs.YtpgjhjlhipikgaaDoor.PK
open Go.RowKit Go.Proofs.YtpgjhjlhipikgaaDoorW.PrintWords Go.Proofs.YtpgjhjlhipikgaaDoorW.PrintLast Go.Proofs.YtpgjhjlhipikgaaDoorW.PrintMore
attribute [local go_sem] max2_int min2_int max_two min_two max_three min_three max_four min_four   -- for this text's walks alone
set_option linter.unusedVariables false
set_option linter.unusedSimpArgs false

/-! ### copydesklaw03_sentence: function 39 -/
-- NEEDS Derived.Test.YtpgjhjlhipikgaaDoorKWalks
-- NEEDS Derived.Deep.QuietTactic
-- NEEDS Derived.BigQuiet
def sn_words : List ByteArray := [(⟨#[114, 97, 105, 110]⟩ : ByteArray), (⟨#[119, 101, 32, 74, 46, 32, 119, 111, 110]⟩ : ByteArray), (⟨#[97, 116, 32, 51, 46, 53]⟩ : ByteArray), (⟨#[97, 46, 98, 32, 105, 115]⟩ : ByteArray), (⟨#[115, 111, 32, 88, 46, 32, 89, 46, 32, 90, 46, 32, 114, 97, 110]⟩ : ByteArray), (⟨#[119, 104, 121, 63, 110, 111]⟩ : ByteArray), (⟨#[111, 107]⟩ : ByteArray)]
def sn_ends : List ByteArray := [(⟨#[46]⟩ : ByteArray), (⟨#[33]⟩ : ByteArray), (⟨#[63]⟩ : ByteArray), (⟨#[63, 33]⟩ : ByteArray), (⟨#[46, 46, 46]⟩ : ByteArray), (⟨#[33, 46]⟩ : ByteArray)]
def sn_at (p q : Int) : ByteArray := ((rdOf ByteArray.empty sn_words p) ++ (⟨#[32, 120]⟩ : ByteArray)) ++ (rdOf ByteArray.empty sn_ends q)
theorem bk_C_strs (xs : List ByteArray) (W : World) (g : Nat) (h : W.heap[g]? = some (.cells (xs.map Value.string).toArray 9 (0, 0))) (hm : xs.length ≤ 9223372036854775807) : Kd.C Kd.string W (some ⟨g, 0, none⟩) xs.length xs :=
  ⟨rfl, hm, fun _ => ⟨_, rfl, fun j p hp => ⟨[.string p], rfl, rfl, fun i u hu => by
    have hi : i = 0 := by
      have := (List.getElem?_eq_some_iff.1 hu).1
      simp at this; exact this
    subst hi
    have hu' : u = .string p := (Option.some.inj hu).symm
    subst hu'
    have hc : W.cell? ⟨g, j, none⟩ = some (.string p) := by
      rw [bk_cell h j]; simp [hp]
    show W.cell? ((⟨g, 0, none⟩ : Addr).add (j * 1 + 0)) = _
    by_cases hj : j = 0
    · subst hj; simpa [Addr.add] using hc
    · simpa [Addr.add, hj] using hc⟩⟩⟩
section
variable {P : Program} {ops : Array Oper} {rest : List Oper} {o : Oper} {a : Act} {Q : Exit → Act → World → Prop}
theorem litS_event {W : World} (hgd : o.guard = none) {N : Tmp} (hd : o.dst = some N) (xs : List ByteArray) {n : Nat} (hn : xs.length = n) (hm : xs.length ≤ 9223372036854775807)
    (hrun : (execOp a.eval o).run P W = .ok (.value (.slice (some ⟨W.heap.size, 0, none⟩) n n)) (W.alloc (.cells (xs.map Value.string).toArray 9 (0, 0))))
    (h : ∀ ad w1, Kd.C Kd.string w1 (some ad) xs.length xs → Below W.heap.size W w1 → wpList P ops Q rest (a.put o.dst (.slice (some ad) n n)) w1) : wpList P ops Q (o :: rest) a W :=
  lit_event hgd hd hrun (fun g _ w1 hl hb => h ⟨g, 0, none⟩ w1 (bk_C_strs xs w1 g hl hm) hb)
end
def copydesklaw03_sentence.f (a0 : Int) : Option ByteArray := (copydesklaw03_pick.f a0 7).bind fun p => (copydesklaw03_pick.f a0 42).bind fun r =>
  if (0 ≤ p ∧ p < 7) ∧ (0 ≤ wrap64 (Int.tdiv r 7) ∧ wrap64 (Int.tdiv r 7) < 6) ∧ ((rdOf ByteArray.empty sn_words p).size ≤ 100 ∧ (rdOf ByteArray.empty sn_ends (wrap64 (Int.tdiv r 7))).size ≤ 100) then some (sn_at p (wrap64 (Int.tdiv r 7))) else none
set_option maxHeartbeats 2000000 in
set_option maxRecDepth 100000 in
theorem copydesklaw03_sentence.calls (a0 : Int) (r : ByteArray) (w : World) (h : copydesklaw03_sentence.f a0 = some r) :
    Calls Tryd.prog 39 #[.int .i64 a0] w fun e w' => e = .returned (.string r) ∧ Below w.heap.size w w' := by
  unfold copydesklaw03_sentence.f at h
  obtain ⟨p, hp, h⟩ := Option.bind_eq_some_iff.1 h
  obtain ⟨x, hx, h⟩ := Option.bind_eq_some_iff.1 h
  obtain ⟨hc, hr⟩ : ((0 ≤ p ∧ p < 7) ∧ (0 ≤ wrap64 (Int.tdiv x 7) ∧ wrap64 (Int.tdiv x 7) < 6) ∧ ((rdOf ByteArray.empty sn_words p).size ≤ 100 ∧ (rdOf ByteArray.empty sn_ends (wrap64 (Int.tdiv x 7))).size ≤ 100)) ∧ sn_at p (wrap64 (Int.tdiv x 7)) = r := by
    by_cases hc : ((0 ≤ p ∧ p < 7) ∧ (0 ≤ wrap64 (Int.tdiv x 7) ∧ wrap64 (Int.tdiv x 7) < 6) ∧ ((rdOf ByteArray.empty sn_words p).size ≤ 100 ∧ (rdOf ByteArray.empty sn_ends (wrap64 (Int.tdiv x 7))).size ≤ 100))
    · rw [if_pos hc] at h; exact ⟨hc, Option.some.inj h⟩
    · rw [if_neg hc] at h; cases h
  obtain ⟨⟨p0, p1⟩, ⟨q0, q1⟩, s1, s2⟩ := hc
  have h7 : ∀ W, Calls Tryd.prog 36 #[.int .i64 a0, .int .i64 7] W fun e w' => e = .returned (.int .i64 p) ∧ ∃ m, w' = W.drewN m := fun W => (copydesklaw03_pick.calls a0 7 p W hp).mono (fun e w' h => ⟨h.1, by obtain ⟨m, hm⟩ := h.2; exact ⟨m, by subst hm; rfl⟩⟩)
  have h42 : ∀ W, Calls Tryd.prog 36 #[.int .i64 a0, .int .i64 42] W fun e w' => e = .returned (.int .i64 x) ∧ ∃ m, w' = W.drewN m := fun W => (copydesklaw03_pick.calls a0 42 x W hx).mono (fun e w' h => ⟨h.1, by obtain ⟨m, hm⟩ := h.2; exact ⟨m, by subst hm; rfl⟩⟩)
  have HR := Aside0.mk hr
  clear h hp hx hr
  go_enter Tryd.func39, Tryd.ntmps39
  go_wp2_with (with_reducible refine is_build rfl ?_; refine Rg.stop_here ?_)
  refine ⟨?_⟩
  refine litS_event rfl (N := 5) rfl sn_words (n := 7) rfl (by decide) (by first | (go_simp; done) | (go_simp; rfl)) ?_
  intro ad1 w1 hC1 hb1
  go_wp2_with (with_reducible refine is_build rfl ?_; refine Rg.stop_here ?_)
  refine ⟨?_⟩
  refine litS_event rfl (N := 6) rfl sn_ends (n := 6) rfl (by decide) (by first | (go_simp; done) | (go_simp; rfl)) ?_
  intro ad2 w2 hC2 hb2
  have HB := Aside0.mk (below_step hb1 hb2)
  obtain ⟨ad, e0, hx1⟩ := Kd.at_string (Kd.C_below hC1 hb2) p p0 p1
  cases e0
  obtain ⟨q, hq⟩ : ∃ q, wrap64 (Int.tdiv x 7) = q := ⟨_, rfl⟩
  rw [hq] at q0 q1 s2
  obtain ⟨ad, e0, hx2⟩ := Kd.at_string hC2 q q0 q1
  cases e0
  have hr : sn_at p q = r := by rw [← hq]; exact HR.out
  unfold sn_at at hr
  have HR2 := Aside0.mk hr
  obtain ⟨X, hX⟩ : ∃ X, rdOf ByteArray.empty sn_words p = X := ⟨_, rfl⟩
  obtain ⟨Y, hY⟩ : ∃ Y, rdOf ByteArray.empty sn_ends q = Y := ⟨_, rfl⟩
  rw [hX] at hx1 s1
  rw [hY] at hx2 s2
  have HX := Aside0.mk hX
  have HY := Aside0.mk hY
  have t1 : X.size + 2 ≤ 9223372036854775807 := by omega
  have t2 : (X ++ (⟨#[32, 120]⟩ : ByteArray)).size + Y.size ≤ 9223372036854775807 := by rw [ByteArray.size_append]; show X.size + 2 + Y.size ≤ _; omega
  replace p0 := eq_true p0
  replace p1 := eq_true p1
  replace q0 := eq_true q0
  replace q1 := eq_true q1
  clear hC1 hC2 hb1 hb2 hX hY hr HR
  go_wp2
  go_quiet (first | (go_at_call 36; with_reducible refine Calls.quiet_of (h7 _)) | (go_at_call 36; with_reducible refine Calls.quiet_of (h42 _)))
  go_wp2
  go_ret
  exact ⟨by rw [← HR2.out, HX.out, HY.out]; rfl, pw_below_drewN HB.out _⟩

end Go.Proofs.YtpgjhjlhipikgaaDoor.PK
end
section
namespace Go.Proofs.YtpgjhjlhipikgaaDoor.PK
open Go.RowKit Go.Proofs.YtpgjhjlhipikgaaDoorW.PrintWords Go.Proofs.YtpgjhjlhipikgaaDoorW.PrintLast Go.Proofs.YtpgjhjlhipikgaaDoorW.PrintMore
attribute [local go_sem] max2_int min2_int max_two min_two max_three min_three max_four min_four   -- for this text's walks alone
set_option linter.unusedVariables false
set_option linter.unusedSimpArgs false

/-! ### copydesklaw03_BlockSentencesBuilt: function 14 -/
mutual
def copydesklaw03_BlockSentencesBuilt.j1 : Nat → Bool → Bool → ByteArray → ByteArray → List ByteArray → Option (Bool)
  | 0, _, _, _, _, _ => none
  | k + 1, x2, x7, x8, x9, x10 => if x2 = true then (if x10.length < 8796093022208 then (if x9.size + 24 ≤ 9223372036854775807 then (if (x9 ++ (⟨#[116, 111, 32, 98, 101, 32, 32, 99, 111, 110, 116, 105, 110, 117, 101, 100, 32, 98, 121, 32, 74, 46, 32, 68]⟩ : ByteArray)).size + x8.size ≤ 9223372036854775807 then (if x7 = true then ((block_Sentences.f ((x9 ++ (⟨#[116, 111, 32, 98, 101, 32, 32, 99, 111, 110, 116, 105, 110, 117, 101, 100, 32, 98, 121, 32, 74, 46, 32, 68]⟩ : ByteArray)) ++ x8)).bind fun t366 => ((copydeskref03_SameStrings.f k t366 (x10 ++ [(⟨#[116, 111, 32, 98, 101, 32, 32, 99, 111, 110, 116, 105, 110, 117, 101, 100, 32, 98, 121, 32, 74, 46, 32, 68]⟩ : ByteArray)])).bind fun t369 => (some t369))) else (some false)) else (none)) else (none)) else (none)) else (if x7 = true then ((block_Sentences.f x9).bind fun t370 => ((copydeskref03_SameStrings.f k t370 x10).bind fun t373 => (some t373))) else (some false))
def copydesklaw03_BlockSentencesBuilt.l0 : Nat → List Int → Bool → Bool → ByteArray → ByteArray → List ByteArray → Int → Option (Bool)
  | 0, _, _, _, _, _, _, _ => none
  | k + 1, x0, x2, x7, x8, x9, x10, x11 => if x11 < (x0.length : Int) then (if x11 < 30 then (if 0 ≤ x11 then ((copydesklaw03_sentence.f (rd x0 x11)).bind fun t359 => (if x10.length < 8796093022208 then (if x9.size + t359.size ≤ 9223372036854775807 then (if (x9 ++ t359).size + x8.size ≤ 9223372036854775807 then (copydesklaw03_BlockSentencesBuilt.l0 k x0 x2 x7 x8 ((x9 ++ t359) ++ x8) (x10 ++ [t359]) (wrap64 (x11 + 1))) else (none)) else (none)) else (none))) else (none)) else (copydesklaw03_BlockSentencesBuilt.j1 k x2 x7 x8 x9 x10)) else (copydesklaw03_BlockSentencesBuilt.j1 k x2 x7 x8 x9 x10)
end
def copydesklaw03_BlockSentencesBuilt.f (k : Nat) (l0 : List Int) (a1 : Int) (a2 : Bool) : Option (Bool) := (copydesklaw03_sane.f).bind fun t356 => ((copydesklaw03_pick.f a1 4).bind fun t357 => (if 0 ≤ (wrap64 (1 + t357)) then (if (wrap64 (1 + t357)) ≤ 4 then (copydesklaw03_BlockSentencesBuilt.l0 k l0 a2 t356 ((⟨#[32, 32, 32, 32]⟩ : ByteArray).extract 0 ((wrap64 (1 + t357)) : Int).toNat) ((⟨#[32, 32, 32, 32]⟩ : ByteArray).extract 0 ((wrap64 (1 + t357)) : Int).toNat) ([] : List ByteArray) 0) else (none)) else (none)))
theorem copydesklaw03_BlockSentencesBuilt.mono_l : ∀ k, (∀ y0 y1 y2 y3 y4, LeO (copydesklaw03_BlockSentencesBuilt.j1 k y0 y1 y2 y3 y4) (copydesklaw03_BlockSentencesBuilt.j1 (k + 1) y0 y1 y2 y3 y4)) ∧ (∀ y0 y1 y2 y3 y4 y5 y6, LeO (copydesklaw03_BlockSentencesBuilt.l0 k y0 y1 y2 y3 y4 y5 y6) (copydesklaw03_BlockSentencesBuilt.l0 (k + 1) y0 y1 y2 y3 y4 y5 y6))
  | 0 => ⟨fun _ _ _ _ _ r h => by simp [copydesklaw03_BlockSentencesBuilt.j1] at h, fun _ _ _ _ _ _ _ r h => by simp [copydesklaw03_BlockSentencesBuilt.l0] at h⟩
  | k + 1 => by
    obtain ⟨ih0, ih1⟩ := copydesklaw03_BlockSentencesBuilt.mono_l k
    refine ⟨?_, ?_⟩
    · intro y0 y1 y2 y3 y4
      unfold copydesklaw03_BlockSentencesBuilt.j1
      repeat' first
      | (with_reducible exact ih0 _ _ _ _ _)
      | (with_reducible exact ih1 _ _ _ _ _ _ _)
      | (with_reducible exact copydeskref03_SameStrings.mono _ _ _)
      | (with_reducible exact LeO.refl _)
      | (with_reducible exact LeO.none _)
      | (with_reducible refine LeO.ite ?_ ?_)
      | (with_reducible refine LeO.bind ?_ (fun _ => ?_))
      | exact ih0 _ _ _ _ _
      | exact ih1 _ _ _ _ _ _ _
      | exact copydeskref03_SameStrings.mono _ _ _
      | exact LeO.none _
      | refine LeO.ite ?_ ?_
      | refine LeO.bind ?_ (fun _ => ?_)
    · intro y0 y1 y2 y3 y4 y5 y6
      unfold copydesklaw03_BlockSentencesBuilt.l0
      repeat' first
      | (with_reducible exact ih0 _ _ _ _ _)
      | (with_reducible exact ih1 _ _ _ _ _ _ _)
      | (with_reducible exact copydeskref03_SameStrings.mono _ _ _)
      | (with_reducible exact LeO.refl _)
      | (with_reducible exact LeO.none _)
      | (with_reducible refine LeO.ite ?_ ?_)
      | (with_reducible refine LeO.bind ?_ (fun _ => ?_))
      | exact ih0 _ _ _ _ _
      | exact ih1 _ _ _ _ _ _ _
      | exact copydeskref03_SameStrings.mono _ _ _
      | exact LeO.none _
      | refine LeO.ite ?_ ?_
      | refine LeO.bind ?_ (fun _ => ?_)
theorem copydesklaw03_BlockSentencesBuilt.mono : ∀ a0 a1 a2 k, LeO (copydesklaw03_BlockSentencesBuilt.f k a0 a1 a2) (copydesklaw03_BlockSentencesBuilt.f (k + 1) a0 a1 a2) := by
  intro a0 a1 a2 k
  obtain ⟨ih0, ih1⟩ := copydesklaw03_BlockSentencesBuilt.mono_l k
  unfold copydesklaw03_BlockSentencesBuilt.f
  repeat' first
      | (with_reducible exact ih0 _ _ _ _ _)
      | (with_reducible exact ih1 _ _ _ _ _ _ _)
      | (with_reducible exact copydeskref03_SameStrings.mono _ _ _)
      | (with_reducible exact LeO.refl _)
      | (with_reducible exact LeO.none _)
      | (with_reducible refine LeO.ite ?_ ?_)
      | (with_reducible refine LeO.bind ?_ (fun _ => ?_))
      | exact ih0 _ _ _ _ _
      | exact ih1 _ _ _ _ _ _ _
      | exact copydeskref03_SameStrings.mono _ _ _
      | exact LeO.none _
      | refine LeO.ite ?_ ?_
      | refine LeO.bind ?_ (fun _ => ?_)
set_option maxHeartbeats 8000000 in
set_option maxRecDepth 100000 in
theorem copydesklaw03_BlockSentencesBuilt.calls (k : Nat) (A0 : Option Addr) (c0 : Nat) (l0 : List Int) (a1 : Int) (a2 : Bool) (r : Bool) (w : World) (hr0 : Kd.C (Kd.int .i64) w A0 l0.length l0) (hc0 : l0.length ≤ c0) (h : copydesklaw03_BlockSentencesBuilt.f k l0 a1 a2 = some r) :
    Calls Tryd.prog 14 #[.slice A0 l0.length c0, .int .i64 a1, .bool a2] w fun e w' => e = .returned (.bool r) ∧ Below w.heap.size w w' := by
  have HR0 := Aside0.mk hr0
  have HC0 := Aside0.mk hc0
  clear hr0 hc0
  have HB := Aside0.mk (Below.refl w.heap.size w)
  have H : ((copydesklaw03_sane.f).bind fun t356 => ((copydesklaw03_pick.f a1 4).bind fun t357 => (if 0 ≤ (wrap64 (1 + t357)) then (if (wrap64 (1 + t357)) ≤ 4 then (copydesklaw03_BlockSentencesBuilt.l0 k l0 a2 t356 ((⟨#[32, 32, 32, 32]⟩ : ByteArray).extract 0 ((wrap64 (1 + t357)) : Int).toNat) ((⟨#[32, 32, 32, 32]⟩ : ByteArray).extract 0 ((wrap64 (1 + t357)) : Int).toNat) ([] : List ByteArray) 0) else (none)) else (none)))) = some r := h
  clear h
  replace H := Option.bind_eq_some_iff.mp H
  obtain ⟨t356, A40, H⟩ := H
  replace H : ((copydesklaw03_pick.f a1 4).bind fun t357 => (if 0 ≤ (wrap64 (1 + t357)) then (if (wrap64 (1 + t357)) ≤ 4 then (copydesklaw03_BlockSentencesBuilt.l0 k l0 a2 t356 ((⟨#[32, 32, 32, 32]⟩ : ByteArray).extract 0 ((wrap64 (1 + t357)) : Int).toNat) ((⟨#[32, 32, 32, 32]⟩ : ByteArray).extract 0 ((wrap64 (1 + t357)) : Int).toNat) ([] : List ByteArray) 0) else (none)) else (none))) = some r := H
  have A4 := Aside0.mk A40
  clear A40
  replace H := Option.bind_eq_some_iff.mp H
  obtain ⟨t357, A50, H⟩ := H
  replace H : (if 0 ≤ (wrap64 (1 + t357)) then (if (wrap64 (1 + t357)) ≤ 4 then (copydesklaw03_BlockSentencesBuilt.l0 k l0 a2 t356 ((⟨#[32, 32, 32, 32]⟩ : ByteArray).extract 0 ((wrap64 (1 + t357)) : Int).toNat) ((⟨#[32, 32, 32, 32]⟩ : ByteArray).extract 0 ((wrap64 (1 + t357)) : Int).toNat) ([] : List ByteArray) 0) else (none)) else (none)) = some r := H
  have A5 := Aside0.mk A50
  clear A50
  obtain ⟨ji6, hji6⟩ : ∃ j_ : Int, (wrap64 (1 + t357)) = j_ := ⟨_, rfl⟩
  replace H : (if 0 ≤ (ji6) then (if (ji6) ≤ 4 then (copydesklaw03_BlockSentencesBuilt.l0 k l0 a2 t356 ((⟨#[32, 32, 32, 32]⟩ : ByteArray).extract 0 ((ji6) : Int).toNat) ((⟨#[32, 32, 32, 32]⟩ : ByteArray).extract 0 ((ji6) : Int).toNat) ([] : List ByteArray) 0) else (none)) else (none)) = some r := by first | (rw [hji6] at H; exact H) | (simp only [hji6] at H ⊢; exact H)
  (try rw [hji6] at A4)
  (try rw [hji6] at A5)
  have hji6w : (IntKind.i64.wrap (1 + t357)) = ji6 := (i64_w _).trans hji6
  by_cases c7 : 0 ≤ (ji6)
  · rw [if_pos c7] at H
    have c7b0 := eq_true c7
    have c7b1 : decide (0 ≤ (ji6)) = true := decide_eq_true c7
    clear c7
    by_cases c8 : (ji6) ≤ 4
    · rw [if_pos c8] at H
      have c8b0 := eq_true c8
      have c8b1 : decide ((ji6) ≤ 4) = true := decide_eq_true c8
      clear c8
      have HC9 := Aside0.mk H
      clear H
      go_enter Tryd.func14, Tryd.ntmps14
      go_upto_block 0 with (first | ((with_reducible refine gate_callee (f := 17) rfl ?_); refine goesL_ (some 13) rfl rfl Tryd.func17 (by kernel_rfl) rfl #[] rfl (by (try simp only [List.map_toArray, List.map_cons, List.map_nil]); first | done | rfl | (simp only [List.length_drop, List.length_take]; rfl)) ?_; (with_reducible refine (copydesklaw03_sane.calls  t356 _ A4.out).mono ?_); rintro e w10 ⟨rfl, hb⟩; refine ⟨_, rfl, ?_⟩; have n0_ := Aside0.mk (below_step (by repeat (first | (with_reducible first | exact HB.out | apply below_alloc | apply pw_below_drewN | apply below_drew1) | exact HB.out)) hb); clear HB; have HB := n0_; clear n0_; (try clear hb); (try clear hb2); (try clear hk); (try clear hi)) | ((with_reducible refine gate_callee (f := 36) rfl ?_); refine goesL_ (some 15) rfl rfl Tryd.func36 (by kernel_rfl) rfl #[.int .i64 a1, .int .i64 4] rfl (by (try simp only [List.map_toArray, List.map_cons, List.map_nil]); first | done | rfl | (simp only [List.length_drop, List.length_take]; rfl)) ?_; (with_reducible refine (copydesklaw03_pick.calls a1 4 t357 _ A5.out).mono ?_); rintro e w' ⟨rfl, ⟨nd, rfl⟩⟩; refine ⟨_, rfl, ?_⟩))
      (try simp only [Act.put, List.setIfInBounds_toArray, List.set_cons_zero, List.set_cons_succ])
      go_cut [9, 10] (fun v9 v10 wc => ∃ (kq : Nat) (x9_8 : ByteArray) (x10_8 : List ByteArray), v9 = .string x9_8 ∧ Aside0 (copydesklaw03_BlockSentencesBuilt.j1 kq a2 t356 ((⟨#[32, 32, 32, 32]⟩ : ByteArray).extract 0 ((ji6) : Int).toNat) x9_8 x10_8 = some r) ∧ Aside0 (kq ≤ k) ∧ Aside0 (Kd.R Kd.string 9 wc w.heap.size (fun _ => True) v10 x10_8) ∧ Aside0 (Below w.heap.size w wc))
      case first =>
        have H := HC9.out
        clear HC9
        have H' := Aside0.mk H
        clear H
        go_wp2
        go_loopg [9, 10, 11] k (fun kq v9 v10 v11 w' => ∃ (x9_1 : ByteArray) (x10_1 : List ByteArray) (x11_1 : Int), v9 = .string x9_1 ∧ v11 = .int .i64 x11_1 ∧ Aside0 (copydesklaw03_BlockSentencesBuilt.l0 kq l0 a2 t356 ((⟨#[32, 32, 32, 32]⟩ : ByteArray).extract 0 ((ji6) : Int).toNat) x9_1 x10_1 x11_1 = some r) ∧ Aside0 (kq ≤ k) ∧ Aside0 (Kd.R Kd.string 9 w' w.heap.size (fun _ => True) v10 x10_1) ∧ Aside0 (Below w.heap.size w w'))
        case atStart => exact ⟨((⟨#[32, 32, 32, 32]⟩ : ByteArray).extract 0 ((ji6) : Int).toNat), (([] : List ByteArray)), (0), (by first | rfl | (simp; done) | (simp only [← hji6] <;> (first | rfl | simp)) | (simp [*]; done)), (by first | rfl | (simp; done) | (simp [*]; done)), H', ⟨Nat.le_refl _⟩, ⟨by first | exact Kd.R_nil _ _ _ _ _ | exact Kd.N_nil _ _ _ _ _ | exact Kd.V_nil _ _ _ _ _ | exact Kd.Q_nil _ _ _ _ _ | exact Kd.S_nil _ _ _ _ _⟩, ⟨by repeat (first | (with_reducible first | exact HB.out | apply below_alloc | apply pw_below_drewN | apply below_drew1) | exact HB.out)⟩⟩
        case round =>
          clear H'
          try clear c1
          try clear p2
          try clear c3
          try clear p6
          try clear c7
          try clear c7b0
          try clear c7b1
          try clear c8
          try clear c8b0
          try clear c8b1
          obtain ⟨x9_1, x10_1, x11_1, rfl, rfl, HA, HK1, HO_10, HB⟩ := hrel
          cases gk with
          | zero => exact absurd HA.out (by simp [copydesklaw03_BlockSentencesBuilt.l0])
          | succ k1 =>
            have H := HA.out
            clear HA
            simp only [copydesklaw03_BlockSentencesBuilt.l0] at H
            by_cases c11 : x11_1 < (l0.length : Int)
            · rw [if_pos c11] at H
              have c11b0 : decide (x11_1 < (l0.length : Int)) = true := decide_eq_true c11
              clear c11
              (first | rw [c11b0] | (simp only [i64_w, i32_w]; rw [c11b0]) | skip)
              by_cases c12 : x11_1 < 30
              · rw [if_pos c12] at H
                have c12b0 : decide (x11_1 < 30) = true := decide_eq_true c12
                clear c12
                by_cases c13 : 0 ≤ x11_1
                · rw [if_pos c13] at H
                  have c13b0 : decide (0 ≤ x11_1) = true := decide_eq_true c13
                  clear c13
                  replace H := Option.bind_eq_some_iff.mp H
                  obtain ⟨t359, A140, H⟩ := H
                  replace H : (if x10_1.length < 8796093022208 then (if x9_1.size + t359.size ≤ 9223372036854775807 then (if (x9_1 ++ t359).size + ((⟨#[32, 32, 32, 32]⟩ : ByteArray).extract 0 ((ji6) : Int).toNat).size ≤ 9223372036854775807 then (copydesklaw03_BlockSentencesBuilt.l0 k1 l0 a2 t356 ((⟨#[32, 32, 32, 32]⟩ : ByteArray).extract 0 ((ji6) : Int).toNat) ((x9_1 ++ t359) ++ ((⟨#[32, 32, 32, 32]⟩ : ByteArray).extract 0 ((ji6) : Int).toNat)) (x10_1 ++ [t359]) (wrap64 (x11_1 + 1))) else (none)) else (none)) else (none)) = some r := H
                  have A14 := Aside0.mk A140
                  clear A140
                  by_cases c15 : x10_1.length < 8796093022208
                  · rw [if_pos c15] at H
                    have LMc15 := Aside0.mk c15
                    clear c15
                    obtain ⟨y360, hy360⟩ : ∃ y_ : List ByteArray, y_ = (x10_1 ++ [t359]) := ⟨_, rfl⟩
                    replace H : (if x9_1.size + t359.size ≤ 9223372036854775807 then (if (x9_1 ++ t359).size + ((⟨#[32, 32, 32, 32]⟩ : ByteArray).extract 0 ((ji6) : Int).toNat).size ≤ 9223372036854775807 then (copydesklaw03_BlockSentencesBuilt.l0 k1 l0 a2 t356 ((⟨#[32, 32, 32, 32]⟩ : ByteArray).extract 0 ((ji6) : Int).toNat) ((x9_1 ++ t359) ++ ((⟨#[32, 32, 32, 32]⟩ : ByteArray).extract 0 ((ji6) : Int).toNat)) y360 (wrap64 (x11_1 + 1))) else (none)) else (none)) = some r := by first | (rw [hy360]; with_reducible exact H) | (have H2_ := (Option.bind_some _ _).symm.trans H; rw [hy360]; with_reducible exact H2_) | (have H2_ := (Option.bind_some _ _).symm.trans H; with_reducible exact H2_) | with_reducible exact H | (rw [hy360]; exact H) | exact H
                    have Ny360 := Aside0.mk hy360
                    clear hy360
                    by_cases c16 : x9_1.size + t359.size ≤ 9223372036854775807
                    · rw [if_pos c16] at H
                      have c16b0 := eq_true c16
                      have c16b1 : decide (x9_1.size + t359.size ≤ 9223372036854775807) = true := decide_eq_true c16
                      try have c16b2 : (9223372036854775807 < x9_1.size + t359.size) = False := eq_false (Nat.not_lt.2 c16)
                      by_cases c17 : (x9_1 ++ t359).size + ((⟨#[32, 32, 32, 32]⟩ : ByteArray).extract 0 ((ji6) : Int).toNat).size ≤ 9223372036854775807
                      · rw [if_pos c17] at H
                        have c17b0 := eq_true c17
                        have c17b1 : decide ((x9_1 ++ t359).size + ((⟨#[32, 32, 32, 32]⟩ : ByteArray).extract 0 ((ji6) : Int).toNat).size ≤ 9223372036854775807) = true := decide_eq_true c17
                        try have c17b2 : (9223372036854775807 < (x9_1 ++ t359).size + ((⟨#[32, 32, 32, 32]⟩ : ByteArray).extract 0 ((ji6) : Int).toNat).size) = False := eq_false (Nat.not_lt.2 c17)
                        have H' := Aside0.mk H
                        clear H
                        have p358 : 0 ≤ (x11_1 : Int) := of_decide_eq_true (by first | (with_reducible assumption) | assumption)
                        have q358 : x11_1 < (l0.length : Int) := of_decide_eq_true (by first | (with_reducible assumption) | assumption)
                        obtain ⟨ad358, e358, hx358_0⟩ := Kd.at_int HR0.out x11_1 p358 q358
                        cases e358
                        replace hx358_0 := (HB.out.cell (World.block_lt_of_cell? w _ hx358_0)).trans hx358_0
                        replace p358 := eq_true p358
                        replace q358 := eq_true q358
                        go_wp2_with (first | ((with_reducible refine gate_callee (f := 39) rfl ?_); refine goesL_ (some 33) rfl rfl Tryd.func39 (by kernel_rfl) rfl #[.int .i64 (rd l0 x11_1)] rfl (by (try simp only [List.map_toArray, List.map_cons, List.map_nil]); first | done | rfl | (simp only [List.length_drop, List.length_take]; rfl)) ?_; (with_reducible refine (copydesklaw03_sentence.calls (rd l0 x11_1) t359 _ A14.out).mono ?_); rintro e w18 ⟨rfl, hb⟩; refine ⟨_, rfl, ?_⟩; have n0_ := Aside0.mk (Kd.R_below (by (with_reducible repeat (first | apply Kd.R_alloc | apply Kd.R_drewN | apply Kd.R_drew)); exact HO_10.out) hb); have n1_ := Aside0.mk (below_step (by repeat (first | (with_reducible first | exact HB.out | apply below_alloc | apply pw_below_drewN | apply below_drew1) | exact HB.out)) hb); clear HO_10; clear HB; have HO_10 := n0_; have HB := n1_; clear n0_ n1_; (try clear hb); (try clear hb2); (try clear hk); (try clear hi)) | ((with_reducible refine gate_builtin (b := .append) (xs := #[.tmp 34, .tmp 36]) rfl ?_); at_builtin; refine Kd.R_append Kd.string (w0 := w) w.heap.size rfl (.tmp 34) (.tmp 36) 42 9 (.string ⟨#[]⟩) 16 rfl Tryd.underlying42 info9 rfl (by decide) (by omega) u10 x10_1 t359 [.string t359] (fun _ => True) (fun _ => False) rfl rfl ?aP (fun _ hk => hk.elim) ?aF ?aO ?aB ?aS ?aL ?_; (case aP => exact rfl); (case aB => exact (by repeat (first | (with_reducible first | exact HB.out | apply below_alloc | apply pw_below_drewN | apply below_drew1) | exact HB.out))); (case aF => exact (fun _ _ => trivial)); (case aO => exact (by (with_reducible repeat (first | apply Kd.R_alloc | apply Kd.R_drewN | apply Kd.R_drew)); exact HO_10.out)); (case aS => exact (below_size (by repeat (first | (with_reducible first | exact HB.out | apply below_alloc | apply pw_below_drewN | apply below_drew1) | exact HB.out)))); (case aL => have := LMc15.out; omega); intro v361 w19 ho hb hg hat; rw [← Ny360.out] at ho; have n0_ := Aside0.mk (hb); have n1_ := Aside0.mk (ho); clear HB; clear HO_10; have HB := n0_; have HO362 := n1_; clear n0_ n1_; clear ho hb hg hat))
                        go_roundg k1
                        case measure => have := HK1.out; omega
                        case rel => exact ⟨((x9_1 ++ t359) ++ ((⟨#[32, 32, 32, 32]⟩ : ByteArray).extract 0 ((ji6) : Int).toNat)), (y360), (wrap64 (x11_1 + 1)), (by first | rfl | (simp; done) | (simp only [← hji6] <;> (first | rfl | simp)) | (simp [*]; done)), (by first | rfl | (simp; done) | (simp [*]; done)), H', ⟨by have := HK1.out; omega⟩, ⟨by (with_reducible repeat (first | apply Kd.R_alloc | apply Kd.R_drewN | apply Kd.R_drew)); exact HO362.out⟩, ⟨by repeat (first | (with_reducible first | exact HB.out | apply below_alloc | apply pw_below_drewN | apply below_drew1) | exact HB.out)⟩⟩
                      · rw [if_neg c17] at H
                        exact absurd H (by simp)
                    · rw [if_neg c16] at H
                      exact absurd H (by simp)
                  · rw [if_neg c15] at H
                    exact absurd H (by simp)
                · rw [if_neg c13] at H
                  exact absurd H (by simp)
              · rw [if_neg c12] at H
                have c12b0 : decide (x11_1 < 30) = false := decide_eq_false c12
                clear c12
                have H' := Aside0.mk H
                clear H
                go_wp2
                go_meet
                case rel => exact ⟨_, (x9_1), (x10_1), (by first | rfl | (simp; done) | (simp [*]; done)), H', ⟨by have := HK1.out; first | omega | exact Nat.le_refl _⟩, ⟨by (with_reducible repeat (first | apply Kd.R_alloc | apply Kd.R_drewN | apply Kd.R_drew)); exact HO_10.out⟩, ⟨by repeat (first | (with_reducible first | exact HB.out | apply below_alloc | apply pw_below_drewN | apply below_drew1) | exact HB.out)⟩⟩
            · rw [if_neg c11] at H
              have c11b0 : decide (x11_1 < (l0.length : Int)) = false := decide_eq_false c11
              clear c11
              (first | rw [c11b0] | (simp only [i64_w, i32_w]; rw [c11b0]) | skip)
              have H' := Aside0.mk H
              clear H
              go_wp2
              go_meet
              case rel => exact ⟨_, (x9_1), (x10_1), (by first | rfl | (simp; done) | (simp [*]; done)), H', ⟨by have := HK1.out; first | omega | exact Nat.le_refl _⟩, ⟨by (with_reducible repeat (first | apply Kd.R_alloc | apply Kd.R_drewN | apply Kd.R_drew)); exact HO_10.out⟩, ⟨by repeat (first | (with_reducible first | exact HB.out | apply below_alloc | apply pw_below_drewN | apply below_drew1) | exact HB.out)⟩⟩
      case rest =>
        clear HC9
        try clear c1
        try clear p2
        try clear c3
        try clear p3
        try clear q3
        try clear hx3
        try clear p6
        try clear c7
        try clear c7b0
        try clear c7b1
        try clear c8
        try clear c8b0
        try clear c8b1
        try clear c11
        try clear c11b0
        try clear c12
        try clear c12b0
        try clear c13
        try clear c13b0
        try clear c14
        try clear c15
        try clear c16
        try clear c16b0
        try clear c16b1
        try clear c16b2
        try clear c17
        try clear c17b0
        try clear c17b1
        try clear c17b2
        try clear hx358_0
        try clear p2
        try clear p358
        try clear p6
        try clear q358
        obtain ⟨kq, x9_8, x10_8, rfl, HA, HJ8, HO_10, HB⟩ := hcut
        cases kq with
        | zero => exact absurd HA.out (by simp [copydesklaw03_BlockSentencesBuilt.j1])
        | succ kj8 =>
          have H := HA.out
          clear HA
          simp only [copydesklaw03_BlockSentencesBuilt.j1] at H
          by_cases c20 : a2 = true
          · subst c20
            have H1 : (if x10_8.length < 8796093022208 then (if x9_8.size + 24 ≤ 9223372036854775807 then (if (x9_8 ++ (⟨#[116, 111, 32, 98, 101, 32, 32, 99, 111, 110, 116, 105, 110, 117, 101, 100, 32, 98, 121, 32, 74, 46, 32, 68]⟩ : ByteArray)).size + ((⟨#[32, 32, 32, 32]⟩ : ByteArray).extract 0 ((ji6) : Int).toNat).size ≤ 9223372036854775807 then (if t356 = true then ((block_Sentences.f ((x9_8 ++ (⟨#[116, 111, 32, 98, 101, 32, 32, 99, 111, 110, 116, 105, 110, 117, 101, 100, 32, 98, 121, 32, 74, 46, 32, 68]⟩ : ByteArray)) ++ ((⟨#[32, 32, 32, 32]⟩ : ByteArray).extract 0 ((ji6) : Int).toNat))).bind fun t366 => ((copydeskref03_SameStrings.f kj8 t366 (x10_8 ++ [(⟨#[116, 111, 32, 98, 101, 32, 32, 99, 111, 110, 116, 105, 110, 117, 101, 100, 32, 98, 121, 32, 74, 46, 32, 68]⟩ : ByteArray)])).bind fun t369 => (some t369))) else (some false)) else (none)) else (none)) else (none)) = some r := by rw [if_pos rfl] at H; exact H
            clear H
            have H := H1
            clear H1
            by_cases c21 : x10_8.length < 8796093022208
            · rw [if_pos c21] at H
              have LMc21 := Aside0.mk c21
              clear c21
              obtain ⟨y363, hy363⟩ : ∃ y_ : List ByteArray, y_ = (x10_8 ++ [(⟨#[116, 111, 32, 98, 101, 32, 32, 99, 111, 110, 116, 105, 110, 117, 101, 100, 32, 98, 121, 32, 74, 46, 32, 68]⟩ : ByteArray)]) := ⟨_, rfl⟩
              replace H : (if x9_8.size + 24 ≤ 9223372036854775807 then (if (x9_8 ++ (⟨#[116, 111, 32, 98, 101, 32, 32, 99, 111, 110, 116, 105, 110, 117, 101, 100, 32, 98, 121, 32, 74, 46, 32, 68]⟩ : ByteArray)).size + ((⟨#[32, 32, 32, 32]⟩ : ByteArray).extract 0 ((ji6) : Int).toNat).size ≤ 9223372036854775807 then (if t356 = true then ((block_Sentences.f ((x9_8 ++ (⟨#[116, 111, 32, 98, 101, 32, 32, 99, 111, 110, 116, 105, 110, 117, 101, 100, 32, 98, 121, 32, 74, 46, 32, 68]⟩ : ByteArray)) ++ ((⟨#[32, 32, 32, 32]⟩ : ByteArray).extract 0 ((ji6) : Int).toNat))).bind fun t366 => ((copydeskref03_SameStrings.f kj8 t366 y363).bind fun t369 => (some t369))) else (some false)) else (none)) else (none)) = some r := by first | (rw [hy363]; with_reducible exact H) | (have H2_ := (Option.bind_some _ _).symm.trans H; rw [hy363]; with_reducible exact H2_) | (have H2_ := (Option.bind_some _ _).symm.trans H; with_reducible exact H2_) | with_reducible exact H | (rw [hy363]; exact H) | exact H
              have Ny363 := Aside0.mk hy363
              clear hy363
              by_cases c22 : x9_8.size + 24 ≤ 9223372036854775807
              · rw [if_pos c22] at H
                have c22b0 := eq_true c22
                have c22b1 : decide (x9_8.size + 24 ≤ 9223372036854775807) = true := decide_eq_true c22
                try have c22b2 : (9223372036854775807 < x9_8.size + 24) = False := eq_false (Nat.not_lt.2 c22)
                by_cases c23 : (x9_8 ++ (⟨#[116, 111, 32, 98, 101, 32, 32, 99, 111, 110, 116, 105, 110, 117, 101, 100, 32, 98, 121, 32, 74, 46, 32, 68]⟩ : ByteArray)).size + ((⟨#[32, 32, 32, 32]⟩ : ByteArray).extract 0 ((ji6) : Int).toNat).size ≤ 9223372036854775807
                · rw [if_pos c23] at H
                  have c23b0 := eq_true c23
                  have c23b1 : decide ((x9_8 ++ (⟨#[116, 111, 32, 98, 101, 32, 32, 99, 111, 110, 116, 105, 110, 117, 101, 100, 32, 98, 121, 32, 74, 46, 32, 68]⟩ : ByteArray)).size + ((⟨#[32, 32, 32, 32]⟩ : ByteArray).extract 0 ((ji6) : Int).toNat).size ≤ 9223372036854775807) = true := decide_eq_true c23
                  try have c23b2 : (9223372036854775807 < (x9_8 ++ (⟨#[116, 111, 32, 98, 101, 32, 32, 99, 111, 110, 116, 105, 110, 117, 101, 100, 32, 98, 121, 32, 74, 46, 32, 68]⟩ : ByteArray)).size + ((⟨#[32, 32, 32, 32]⟩ : ByteArray).extract 0 ((ji6) : Int).toNat).size) = False := eq_false (Nat.not_lt.2 c23)
                  by_cases c24 : t356 = true
                  · subst c24
                    have H1 : ((block_Sentences.f ((x9_8 ++ (⟨#[116, 111, 32, 98, 101, 32, 32, 99, 111, 110, 116, 105, 110, 117, 101, 100, 32, 98, 121, 32, 74, 46, 32, 68]⟩ : ByteArray)) ++ ((⟨#[32, 32, 32, 32]⟩ : ByteArray).extract 0 ((ji6) : Int).toNat))).bind fun t366 => ((copydeskref03_SameStrings.f kj8 t366 y363).bind fun t369 => (some t369))) = some r := by rw [if_pos rfl] at H; exact H
                    clear H
                    have H := H1
                    clear H1
                    replace H := Option.bind_eq_some_iff.mp H
                    obtain ⟨t366, A250, H⟩ := H
                    replace H : ((copydeskref03_SameStrings.f kj8 t366 y363).bind fun t369 => (some t369)) = some r := H
                    have A25 := Aside0.mk A250
                    clear A250
                    replace H := Option.bind_eq_some_iff.mp H
                    obtain ⟨t369, A260, H⟩ := H
                    replace H : (some t369) = some r := H
                    have A26 := Aside0.mk A260
                    clear A260
                    obtain rfl := Option.some.inj H
                    go_wp2_with (first | ((with_reducible refine gate_builtin (b := .append) (xs := #[.tmp 44, .tmp 45]) rfl ?_); at_builtin; refine Kd.R_append Kd.string (w0 := w) w.heap.size rfl (.tmp 44) (.tmp 45) 42 9 (.string ⟨#[]⟩) 16 rfl Tryd.underlying42 info9 rfl (by decide) (by omega) u10 x10_8 (⟨#[116, 111, 32, 98, 101, 32, 32, 99, 111, 110, 116, 105, 110, 117, 101, 100, 32, 98, 121, 32, 74, 46, 32, 68]⟩ : ByteArray) [.string (⟨#[116, 111, 32, 98, 101, 32, 32, 99, 111, 110, 116, 105, 110, 117, 101, 100, 32, 98, 121, 32, 74, 46, 32, 68]⟩ : ByteArray)] (fun _ => True) (fun _ => False) rfl rfl ?aP (fun _ hk => hk.elim) ?aF ?aO ?aB ?aS ?aL ?_; (case aP => exact rfl); (case aB => exact (by repeat (first | (with_reducible first | exact HB.out | apply below_alloc | apply pw_below_drewN | apply below_drew1) | exact HB.out))); (case aF => exact (fun _ _ => trivial)); (case aO => exact (by (with_reducible repeat (first | apply Kd.R_alloc | apply Kd.R_drewN | apply Kd.R_drew)); exact HO_10.out)); (case aS => exact (below_size (by repeat (first | (with_reducible first | exact HB.out | apply below_alloc | apply pw_below_drewN | apply below_drew1) | exact HB.out)))); (case aL => have := LMc21.out; omega); intro v364 w27 ho hb hg hat; rw [← Ny363.out] at ho; have n0_ := Aside0.mk (hb); have n1_ := Aside0.mk (ho); clear HB; clear HO_10; have HB := n0_; have HO365 := n1_; clear n0_ n1_; clear ho hb hg hat) | (go_at_call 32; (with_reducible refine (block_Sentences.calls ((x9_8 ++ (⟨#[116, 111, 32, 98, 101, 32, 32, 99, 111, 110, 116, 105, 110, 117, 101, 100, 32, 98, 121, 32, 74, 46, 32, 68]⟩ : ByteArray)) ++ ((⟨#[32, 32, 32, 32]⟩ : ByteArray).extract 0 ((ji6) : Int).toNat)) t366 _ A25.out).mono ?_); rintro e w28 ⟨v367, rfl, ho0, hb⟩; have n0_ := Aside0.mk (Kd.R_elder' (by (with_reducible repeat (first | apply Kd.R_alloc | apply Kd.R_drewN | apply Kd.R_drew)); exact HO365.out) (Kd.R_base ho0) hb); have n1_ := Aside0.mk (Kd.R_lower (Kd.R_new' ho0 (Kd.R_lt (by (with_reducible repeat (first | apply Kd.R_alloc | apply Kd.R_drewN | apply Kd.R_drew)); exact HO365.out))) (below_size (by repeat (first | (with_reducible first | exact HB.out | apply below_alloc | apply pw_below_drewN | apply below_drew1) | exact HB.out)))); have n2_ := Aside0.mk (below_step (by repeat (first | (with_reducible first | exact HB.out | apply below_alloc | apply pw_below_drewN | apply below_drew1) | exact HB.out)) hb); clear HO365; clear HB; have HO365 := n0_; have HO368 := n1_; have HB := n2_; clear n0_ n1_ n2_; (try clear hb); (try clear hb2); (try clear hk); (try clear hi); (try clear ho0); obtain ⟨Ao29, co29, eo29⟩ := Kd.R_slice HO368.out; subst eo29; obtain ⟨Ao30, co30, eo30⟩ := Kd.R_slice HO365.out; subst eo30) | (go_at_call 31; (with_reducible refine (copydeskref03_SameStrings.calls kj8 _ _ t366 _ _ y363 t369 _ ?side1 ?side2 ?side3 ?side4 A26.out).mono ?_); (case side1 => repeat (first | exact (Kd.R_reads' HO368.out).2.2 | (with_reducible refine Kd.C_alloc ?_ _) | (with_reducible refine Kd.C_drewN ?_ _) | (with_reducible refine Kd.C_drew ?_))); (case side2 => exact (Kd.R_reads' HO368.out).2.1); (case side3 => repeat (first | exact (Kd.R_reads' HO365.out).2.2 | (with_reducible refine Kd.C_alloc ?_ _) | (with_reducible refine Kd.C_drewN ?_ _) | (with_reducible refine Kd.C_drew ?_))); (case side4 => exact (Kd.R_reads' HO365.out).2.1); rintro e w' ⟨rfl, ⟨nd, rfl⟩⟩))
                    go_ret
                    exact ⟨by first | rfl | (simp [errW_none, errW_some] <;> rfl) | (simp only [← hji6]; first | rfl | (simp [errW_none, errW_some] <;> rfl)) | (simp [*, errW_none, errW_some] <;> rfl), by repeat (first | (with_reducible first | exact HB.out | apply below_alloc | apply pw_below_drewN | apply below_drew1) | exact HB.out)⟩
                  · replace c24 := Bool.eq_false_iff.mpr c24
                    subst c24
                    have H1 : (some false) = some r := by rw [if_neg (show ¬ (false = true) by decide)] at H; exact H
                    clear H
                    have H := H1
                    clear H1
                    obtain rfl := Option.some.inj H
                    go_wp2_with (first | ((with_reducible refine gate_builtin (b := .append) (xs := #[.tmp 44, .tmp 45]) rfl ?_); at_builtin; refine Kd.R_append Kd.string (w0 := w) w.heap.size rfl (.tmp 44) (.tmp 45) 42 9 (.string ⟨#[]⟩) 16 rfl Tryd.underlying42 info9 rfl (by decide) (by omega) u10 x10_8 (⟨#[116, 111, 32, 98, 101, 32, 32, 99, 111, 110, 116, 105, 110, 117, 101, 100, 32, 98, 121, 32, 74, 46, 32, 68]⟩ : ByteArray) [.string (⟨#[116, 111, 32, 98, 101, 32, 32, 99, 111, 110, 116, 105, 110, 117, 101, 100, 32, 98, 121, 32, 74, 46, 32, 68]⟩ : ByteArray)] (fun _ => True) (fun _ => False) rfl rfl ?aP (fun _ hk => hk.elim) ?aF ?aO ?aB ?aS ?aL ?_; (case aP => exact rfl); (case aB => exact (by repeat (first | (with_reducible first | exact HB.out | apply below_alloc | apply pw_below_drewN | apply below_drew1) | exact HB.out))); (case aF => exact (fun _ _ => trivial)); (case aO => exact (by (with_reducible repeat (first | apply Kd.R_alloc | apply Kd.R_drewN | apply Kd.R_drew)); exact HO_10.out)); (case aS => exact (below_size (by repeat (first | (with_reducible first | exact HB.out | apply below_alloc | apply pw_below_drewN | apply below_drew1) | exact HB.out)))); (case aL => have := LMc21.out; omega); intro v364 w31 ho hb hg hat; rw [← Ny363.out] at ho; have n0_ := Aside0.mk (hb); have n1_ := Aside0.mk (ho); clear HB; clear HO_10; have HB := n0_; have HO365 := n1_; clear n0_ n1_; clear ho hb hg hat))
                    go_ret
                    exact ⟨by first | rfl | (simp [errW_none, errW_some] <;> rfl) | (simp only [← hji6]; first | rfl | (simp [errW_none, errW_some] <;> rfl)) | (simp [*, errW_none, errW_some] <;> rfl), by repeat (first | (with_reducible first | exact HB.out | apply below_alloc | apply pw_below_drewN | apply below_drew1) | exact HB.out)⟩
                · rw [if_neg c23] at H
                  exact absurd H (by simp)
              · rw [if_neg c22] at H
                exact absurd H (by simp)
            · rw [if_neg c21] at H
              exact absurd H (by simp)
          · replace c20 := Bool.eq_false_iff.mpr c20
            subst c20
            have H1 : (if t356 = true then ((block_Sentences.f x9_8).bind fun t370 => ((copydeskref03_SameStrings.f kj8 t370 x10_8).bind fun t373 => (some t373))) else (some false)) = some r := by rw [if_neg (show ¬ (false = true) by decide)] at H; exact H
            clear H
            have H := H1
            clear H1
            by_cases c32 : t356 = true
            · subst c32
              have H1 : ((block_Sentences.f x9_8).bind fun t370 => ((copydeskref03_SameStrings.f kj8 t370 x10_8).bind fun t373 => (some t373))) = some r := by rw [if_pos rfl] at H; exact H
              clear H
              have H := H1
              clear H1
              replace H := Option.bind_eq_some_iff.mp H
              obtain ⟨t370, A330, H⟩ := H
              replace H : ((copydeskref03_SameStrings.f kj8 t370 x10_8).bind fun t373 => (some t373)) = some r := H
              have A33 := Aside0.mk A330
              clear A330
              replace H := Option.bind_eq_some_iff.mp H
              obtain ⟨t373, A340, H⟩ := H
              replace H : (some t373) = some r := H
              have A34 := Aside0.mk A340
              clear A340
              obtain rfl := Option.some.inj H
              go_wp2_with (first | (go_at_call 32; (with_reducible refine (block_Sentences.calls x9_8 t370 _ A33.out).mono ?_); rintro e w35 ⟨v371, rfl, ho0, hb⟩; have n0_ := Aside0.mk (Kd.R_elder' (by (with_reducible repeat (first | apply Kd.R_alloc | apply Kd.R_drewN | apply Kd.R_drew)); exact HO_10.out) (Kd.R_base ho0) hb); have n1_ := Aside0.mk (Kd.R_lower (Kd.R_new' ho0 (Kd.R_lt (by (with_reducible repeat (first | apply Kd.R_alloc | apply Kd.R_drewN | apply Kd.R_drew)); exact HO_10.out))) (below_size (by repeat (first | (with_reducible first | exact HB.out | apply below_alloc | apply pw_below_drewN | apply below_drew1) | exact HB.out)))); have n2_ := Aside0.mk (below_step (by repeat (first | (with_reducible first | exact HB.out | apply below_alloc | apply pw_below_drewN | apply below_drew1) | exact HB.out)) hb); clear HO_10; clear HB; have HO_10 := n0_; have HO372 := n1_; have HB := n2_; clear n0_ n1_ n2_; (try clear hb); (try clear hb2); (try clear hk); (try clear hi); (try clear ho0); obtain ⟨Ao36, co36, eo36⟩ := Kd.R_slice HO372.out; subst eo36; obtain ⟨Ao37, co37, eo37⟩ := Kd.R_slice HO_10.out; subst eo37) | (go_at_call 31; (with_reducible refine (copydeskref03_SameStrings.calls kj8 _ _ t370 _ _ x10_8 t373 _ ?side1 ?side2 ?side3 ?side4 A34.out).mono ?_); (case side1 => repeat (first | exact (Kd.R_reads' HO372.out).2.2 | (with_reducible refine Kd.C_alloc ?_ _) | (with_reducible refine Kd.C_drewN ?_ _) | (with_reducible refine Kd.C_drew ?_))); (case side2 => exact (Kd.R_reads' HO372.out).2.1); (case side3 => repeat (first | exact (Kd.R_reads' HO_10.out).2.2 | (with_reducible refine Kd.C_alloc ?_ _) | (with_reducible refine Kd.C_drewN ?_ _) | (with_reducible refine Kd.C_drew ?_))); (case side4 => exact (Kd.R_reads' HO_10.out).2.1); rintro e w' ⟨rfl, ⟨nd, rfl⟩⟩))
              go_ret
              exact ⟨by first | rfl | (simp [errW_none, errW_some] <;> rfl) | (simp only [← hji6]; first | rfl | (simp [errW_none, errW_some] <;> rfl)) | (simp [*, errW_none, errW_some] <;> rfl), by repeat (first | (with_reducible first | exact HB.out | apply below_alloc | apply pw_below_drewN | apply below_drew1) | exact HB.out)⟩
            · replace c32 := Bool.eq_false_iff.mpr c32
              subst c32
              have H1 : (some false) = some r := by rw [if_neg (show ¬ (false = true) by decide)] at H; exact H
              clear H
              have H := H1
              clear H1
              obtain rfl := Option.some.inj H
              go_wp2
              go_ret
              exact ⟨by first | rfl | (simp [errW_none, errW_some] <;> rfl) | (simp only [← hji6]; first | rfl | (simp [errW_none, errW_some] <;> rfl)) | (simp [*, errW_none, errW_some] <;> rfl), by repeat (first | (with_reducible first | exact HB.out | apply below_alloc | apply pw_below_drewN | apply below_drew1) | exact HB.out)⟩
    · rw [if_neg c8] at H
      exact absurd H (by simp)
  · rw [if_neg c7] at H
    exact absurd H (by simp)

/-- THE ONE PURE STATEMENT of copydesklaw03_BlockSentencesBuilt: yours. -/
def copydesklaw03_BlockSentencesBuilt.Pure : Prop := ∀ (l0 : List Int) (a1 : Int) (a2 : Bool), l0.length ≤ maxLen → l0.length * 8 ≤ 140737488351232 → (∀ x ∈ l0, (Lit.int .i64 x).wf = true) → (Lit.int .i64 a1).wf = true → ∃ k, copydesklaw03_BlockSentencesBuilt.f k l0 a1 a2 = some true
theorem copydesklaw03_BlockSentencesBuilt.walk (P : copydesklaw03_BlockSentencesBuilt.Pure) (a0 : Option Addr) (len0 cap0 : Nat) (z0 : List Int) (a1 : Int) (a2 : Bool) (w : World) (w0 : (a0 = none ∧ len0 = 0 ∧ cap0 = 0 ∧ z0 = []) ∨ ∃ x, a0 = some x ∧ len0 ≤ cap0 ∧ cap0 ≤ maxLen ∧ z0.length = cap0 ∧ (∀ i, i < z0.length → w.cell? (x.add i) = some (.int .i64 (z0.getD i 0))) ∧ ∀ n ∈ z0, (Lit.int .i64 n).wf = true) (y0 : len0 * 8 ≤ 140737488351232) (w1 : (Lit.int .i64 a1).wf = true) :
    Calls Tryd.prog 14 #[.slice a0 len0 cap0, .int .i64 a1, .bool a2] w fun e w' => e = .returned (.bool true) ∧ Below w.heap.size w w' := by
  obtain ⟨l0, rfl, hr0, hm0, hw0, hc0⟩ := ReadsInt.ofRowC w0
  obtain ⟨k, h⟩ := P l0 a1 a2 hm0 y0 hw0 w1
  refine (copydesklaw03_BlockSentencesBuilt.calls k _ _ l0 a1 a2 true w (Kd.C_of_reads (d := (0 : Int)) (h1 := fun _ => rfl) hr0) hc0 h).mono ?_
  rintro e w' ⟨rfl, hd⟩
  exact ⟨rfl, hd⟩

end Go.Proofs.YtpgjhjlhipikgaaDoor.PK
end
section
set_option linter.unusedVariables false
set_option linter.unusedSimpArgs false
namespace Go.Proofs.YtpgjhjlhipikgaaDoor.PK
open Go.RowKit Go.Proofs.YtpgjhjlhipikgaaDoorW.PrintWords Go.Proofs.YtpgjhjlhipikgaaDoorW.PrintLast Go.Proofs.YtpgjhjlhipikgaaDoorW.PrintMore
theorem sl_at_left (a b : List UInt8) (i : Nat) (h : i < a.length) : m_at (a ++ b) i = m_at a i := by
  simp [m_at, List.getD_eq_getElem?_getD, List.getElem?_append_left h]
theorem sl_at_right (a b : List UInt8) (i : Nat) : m_at (a ++ b) (a.length + i) = m_at b i := by
  simp [m_at, List.getD_eq_getElem?_getD, List.getElem?_append_right]
theorem sl_space_not (l : List UInt8) (i : Nat) (h : m_at l i = 32) : m_ends l i = false := by
  unfold m_ends; rw [h]; rfl
theorem sl_space_initial (l : List UInt8) (i : Nat) (h : m_at l i = 32) : m_initial l i = false := by
  unfold m_initial; rw [h]; rfl
/-- Spaces alone. -/
def AllSp (s : List UInt8) : Prop := ∀ c ∈ s, c = 32
theorem AllSp.at {s : List UInt8} (h : AllSp s) (i : Nat) (hi : i < s.length) : m_at s i = 32 := by
  have := h s[i] (List.getElem_mem hi)
  simp [m_at, List.getD_eq_getElem?_getD, hi, this]
/-- Nothing, or a space at the head. -/
def SpHead (s : List UInt8) : Prop := s = [] ∨ ∃ t, s = 32 :: t
theorem SpHead.at {s : List UInt8} (h : SpHead s) (hs : s ≠ []) : m_at s 0 = 32 := by
  rcases h with h | ⟨t, rfl⟩
  · exact absurd h hs
  · rfl
/-- In a text after spaces, and ahead of nothing or of a space, the ends are those of the text alone. -/
theorem sl_ends_mid (sp x rest : List UInt8) (hsp : AllSp sp) (hr : SpHead rest) (j : Nat) (hj : j < x.length) : m_ends (sp ++ x ++ rest) (sp.length + j) = m_ends x j := by
  have e0 : ∀ k, k < x.length → m_at (sp ++ x ++ rest) (sp.length + k) = m_at x k := fun k hk => by
    rw [sl_at_left _ _ _ (by simp; omega), sl_at_right]
  have e1 : (decide ((sp ++ x ++ rest).length ≤ sp.length + j + 1) || m_at (sp ++ x ++ rest) (sp.length + j + 1) == 32) = (decide (x.length ≤ j + 1) || m_at x (j + 1) == 32) := by
    by_cases h : j + 1 < x.length
    · rw [show sp.length + j + 1 = sp.length + (j + 1) by omega, e0 _ h]
      congr 1
      rw [decide_eq_false (by simp; omega), decide_eq_false (by omega)]
    · have hx : x.length = j + 1 := by omega
      rw [decide_eq_true (show x.length ≤ j + 1 by omega), Bool.true_or]
      by_cases hn : rest = []
      · subst hn
        rw [decide_eq_true (by simp; omega), Bool.true_or]
      · have : m_at (sp ++ x ++ rest) (sp.length + j + 1) = 32 := by
          rw [show sp.length + j + 1 = (sp ++ x).length + 0 by simp; omega, sl_at_right]
          exact hr.at hn
        rw [this]; simp
  have e2 : (decide (1 ≤ sp.length + j) && m_initial (sp ++ x ++ rest) (sp.length + j - 1)) = (decide (1 ≤ j) && m_initial x (j - 1)) := by
    rcases Nat.eq_zero_or_pos j with h | h
    · subst h
      rw [decide_eq_false (show ¬ 1 ≤ 0 by omega), Bool.false_and]
      rcases Nat.eq_zero_or_pos sp.length with hs | hs
      · rw [hs]; rfl
      · rw [sl_space_initial _ _ (by rw [List.append_assoc, sl_at_left _ _ _ (by omega)]; exact hsp.at _ (by omega)), Bool.and_false]
    · rw [decide_eq_true (show 1 ≤ sp.length + j by omega), decide_eq_true (show 1 ≤ j by omega), Bool.true_and, Bool.true_and]
      unfold m_initial
      rw [show sp.length + j - 1 = sp.length + (j - 1) by omega, e0 _ (by omega)]
      congr 1
      by_cases h1 : j - 1 = 0
      · rw [decide_eq_true h1, Bool.true_or, h1]
        rcases Nat.eq_zero_or_pos sp.length with hs | hs
        · rw [decide_eq_true (by omega), Bool.true_or]
        · rw [show m_at (sp ++ x ++ rest) (sp.length + 0 - 1) = 32 by rw [List.append_assoc, sl_at_left _ _ _ (by omega)]; exact hsp.at _ (by omega)]
          simp
      · rw [decide_eq_false h1, decide_eq_false (by omega), show sp.length + (j - 1) - 1 = sp.length + (j - 1 - 1) by omega, e0 _ (by omega)]
  unfold m_ends
  rw [e0 _ hj, e1]
  congr 1
  congr 1
  rw [Bool.and_assoc, Bool.and_assoc, e2]
theorem sl_ends_sp (sp y : List UInt8) (hsp : AllSp sp) (j : Nat) (hj : j < sp.length) : m_ends (sp ++ y) j = false :=
  sl_space_not _ _ (by rw [sl_at_left _ _ _ hj]; exact hsp.at _ hj)
/-- Behind a sentence the rest is read as if it stood alone. -/
theorem sl_ends_rest (pre rest : List UInt8) (hr : SpHead rest) (j : Nat) (hj : j < rest.length) : m_ends (pre ++ rest) (pre.length + j) = m_ends rest j := by
  rcases hr with h | ⟨t, rfl⟩
  · subst h; simp at hj
  · cases j with
    | zero => rw [sl_space_not (32 :: t) 0 rfl, sl_space_not]; rw [sl_at_right]; rfl
    | succ j =>
      have h := sl_ends_mid (pre ++ [32]) t [] 
      have e0 : ∀ k, m_at (pre ++ 32 :: t) (pre.length + k) = m_at (32 :: t) k := fun k => sl_at_right _ _ _
      unfold m_ends
      rw [e0, show pre.length + (j + 1) + 1 = pre.length + (j + 1 + 1) by omega, e0]
      have e1 : decide ((pre ++ 32 :: t).length ≤ pre.length + (j + 1 + 1)) = decide ((32 :: t).length ≤ j + 1 + 1) := by
        rw [decide_eq_decide]; simp <;> omega
      rw [e1]
      congr 1
      rw [decide_eq_true (show 1 ≤ pre.length + (j + 1) by omega), decide_eq_true (show 1 ≤ j + 1 by omega)]
      congr 2
      cases j with
      | zero =>
        rw [sl_space_initial (32 :: t) _ rfl, sl_space_initial]
        rw [show pre.length + (0 + 1) - 1 = pre.length + 0 by omega, e0]; rfl
      | succ j =>
        unfold m_initial
        rw [show pre.length + (j + 1 + 1) - 1 = pre.length + (j + 1) by omega, e0, show pre.length + (j + 1) - 1 = pre.length + j by omega, e0, decide_eq_false (show ¬ pre.length + (j + 1) = 0 by omega), decide_eq_false (show ¬ j + 1 + 1 - 1 = 0 by omega)]
        rfl
theorem sl_go_skip (l : List UInt8) : ∀ (k d i a : Nat), (∀ j, i ≤ j → j < i + k → m_ends l j = false) → m_sentGo l (k + d) i a = m_sentGo l d (i + k) a
  | 0, d, i, a, _ => by rw [Nat.zero_add, Nat.add_zero]
  | k + 1, d, i, a, h => by
    rw [show k + 1 + d = (k + d) + 1 by omega, m_sentGo, h i (Nat.le_refl _) (by omega), if_neg (by simp), sl_go_skip l k d (i + 1) a (fun j h1 h2 => h j (by omega) (by omega)), show i + 1 + k = i + (k + 1) by omega]
theorem sl_go_shift (pre rest : List UInt8) (hr : SpHead rest) : ∀ (d i a : Nat), i + d = rest.length → a ≤ i → m_sentGo (pre ++ rest) d (pre.length + i) (pre.length + a) = m_sentGo rest d i a
  | 0, i, a, _, _ => by rw [m_sentGo, m_sentGo, List.drop_append, List.drop_eq_nil_of_le (show pre.length ≤ pre.length + a by omega), Nat.add_sub_cancel_left]; rfl
  | d + 1, i, a, h, ha => by
    rw [m_sentGo, m_sentGo, sl_ends_rest pre rest hr i (by omega), List.drop_append, List.drop_eq_nil_of_le (show pre.length ≤ pre.length + a by omega), Nat.add_sub_cancel_left, List.nil_append,
      show pre.length + i + 1 - (pre.length + a) = i + 1 - a by omega, show pre.length + i + 1 = pre.length + (i + 1) by omega, sl_go_shift pre rest hr d (i + 1) (i + 1) (by omega) (Nat.le_refl _), sl_go_shift pre rest hr d (i + 1) a (by omega) (by omega)]
/-! trimming -/
theorem sl_dropWhile_sp (sp x : List UInt8) (hsp : AllSp sp) : (sp ++ x).dropWhile (· == 32) = x.dropWhile (· == 32) := by
  induction sp with
  | nil => rfl
  | cons c sp ih =>
    have hc : c = 32 := hsp c (by simp)
    subst hc
    rw [List.cons_append, List.dropWhile_cons_of_pos (by rfl), ih (fun c hc => hsp c (by simp [hc]))]
theorem AllSp.reverse {s : List UInt8} (h : AllSp s) : AllSp s.reverse := fun c hc => h c (List.mem_reverse.1 hc)
/-- No space at either end, and something there. -/
def Neat (x : List UInt8) : Prop := x.head? ≠ some 32 ∧ x.getLast? ≠ some 32 ∧ x ≠ []
theorem sl_dropWhile_neat (x : List UInt8) (h : x.head? ≠ some 32) : x.dropWhile (· == 32) = x := by
  cases x with
  | nil => rfl
  | cons c x => rw [List.dropWhile_cons_of_neg]; simpa using h
theorem sl_trim (sp x sq : List UInt8) (h1 : AllSp sp) (h2 : AllSp sq) (hx : Neat x) : m_trim (sp ++ x ++ sq) = x := by
  obtain ⟨n1, n2, n3⟩ := hx
  unfold m_trim
  rw [List.reverse_append, sl_dropWhile_sp _ _ h2.reverse, List.reverse_append]
  obtain ⟨y, c, rfl⟩ : ∃ y c, x = y ++ [c] := ⟨x.dropLast, x.getLast n3, (List.dropLast_concat_getLast n3).symm⟩
  have hc : (c == 32) = false := by simpa using n2
  rw [List.reverse_append, List.reverse_singleton, List.singleton_append, List.cons_append, List.dropWhile_cons_of_neg (by simp [hc]), List.reverse_cons, List.reverse_append, List.reverse_reverse, List.reverse_reverse, List.append_assoc, sl_dropWhile_sp _ _ h1, sl_dropWhile_neat _ n1]
theorem sl_trim_sp (s : List UInt8) (h : AllSp s) : m_trim s = [] := by
  have h1 : s.reverse.dropWhile (· == 32) = [] := by
    have := sl_dropWhile_sp s.reverse [] h.reverse
    rw [List.append_nil] at this
    exact this
  unfold m_trim
  rw [h1]; rfl
/-- What a text is about its trimmed text. -/
theorem sl_head_split (l : List UInt8) : ∃ sp y, l = sp ++ y ∧ AllSp sp ∧ y.head? ≠ some 32 := by
  induction l with
  | nil => exact ⟨[], [], rfl, (fun _ h => by cases h), by simp⟩
  | cons c l ih =>
    by_cases hc : c = 32
    · obtain ⟨sp, y, h1, h2, h3⟩ := ih
      refine ⟨c :: sp, y, by rw [h1]; rfl, fun d hd => ?_, h3⟩
      rcases List.mem_cons.1 hd with rfl | hd
      · exact hc
      · exact h2 d hd
    · exact ⟨[], c :: l, rfl, (fun _ h => by cases h), by simpa using hc⟩
theorem sl_split (l : List UInt8) : AllSp l ∨ ∃ sp x sq, l = sp ++ x ++ sq ∧ AllSp sp ∧ AllSp sq ∧ Neat x := by
  obtain ⟨sp, y, h1, h2, h3⟩ := sl_head_split l
  by_cases hy : y = []
  · left; rw [h1, hy, List.append_nil]; exact h2
  · right
    obtain ⟨sq, z, g1, g2, g3⟩ := sl_head_split y.reverse
    have hyz : y = z.reverse ++ sq.reverse := by rw [← List.reverse_append, ← g1, List.reverse_reverse]
    refine ⟨sp, z.reverse, sq.reverse, by rw [h1, hyz, List.append_assoc], h2, g2.reverse, ?_, by rw [List.getLast?_reverse]; exact g3, ?_⟩
    · cases hz : z.reverse with
      | nil => simp
      | cons c z' =>
        rw [hyz, hz] at h3
        simpa using h3
    · intro hz
      rw [hz, List.nil_append] at hyz
      cases hs : sq.reverse with
      | nil => exact hy (by rw [hyz, hs])
      | cons c s' =>
        rw [hyz, hs] at h3
        have := g2.reverse c (by rw [hs]; simp)
        subst this
        simp at h3
/-! sentences -/
/-- A sentence that ends: its only end is its last byte. -/
def Ended (x : List UInt8) : Prop := Neat x ∧ m_ends x (x.length - 1) = true ∧ ∀ j, j + 1 < x.length → m_ends x j = false
/-- What follows the last end. -/
def Open (x : List UInt8) : Prop := Neat x ∧ ∀ j, j < x.length → m_ends x j = false
theorem sl_sent_sp (s : List UInt8) (h : AllSp s) : m_sent s = [] := by
  unfold m_sent
  have := sl_go_skip s s.length 0 0 0 (fun j _ hj => sl_space_not _ _ (h.at j (by omega)))
  rw [Nat.add_zero] at this
  rw [this, m_sentGo, List.drop_zero, sl_trim_sp s h, if_pos rfl]
theorem sl_sent_open (sp x sq : List UInt8) (h1 : AllSp sp) (h2 : AllSp sq) (hx : Open x) : m_sent (sp ++ x ++ sq) = [x] := by
  have hq : SpHead sq := by
    cases sq with
    | nil => exact .inl rfl
    | cons c s => exact .inr ⟨s, by rw [h2 c (by simp)]⟩
  unfold m_sent
  have := sl_go_skip (sp ++ x ++ sq) (sp ++ x ++ sq).length 0 0 0 (fun j _ hj => by
    by_cases a : j < sp.length
    · rw [List.append_assoc]; exact sl_ends_sp _ _ h1 j a
    · by_cases b : j < sp.length + x.length
      · obtain ⟨k, rfl⟩ : ∃ k, j = sp.length + k := ⟨j - sp.length, by omega⟩
        rw [sl_ends_mid sp x sq h1 hq k (by omega)]
        exact hx.2 k (by omega)
      · refine sl_space_not _ _ ?_
        obtain ⟨k, rfl⟩ : ∃ k, j = (sp ++ x).length + k := ⟨j - (sp ++ x).length, by simp; omega⟩
        rw [sl_at_right]
        exact h2.at k (by simp at hj; omega))
  rw [Nat.add_zero] at this
  rw [this, m_sentGo, List.drop_zero, sl_trim _ _ _ h1 h2 hx.1, if_neg hx.1.2.2]
theorem sl_sent_ended (sp x rest : List UInt8) (h1 : AllSp sp) (hr : SpHead rest) (hx : Ended x) : m_sent (sp ++ x ++ rest) = x :: m_sent rest := by
  have hn : 0 < x.length := List.length_pos_iff.2 hx.1.2.2
  unfold m_sent
  have hlen : (sp ++ x ++ rest).length = (sp.length + (x.length - 1)) + (1 + rest.length) := by simp; omega
  rw [hlen, sl_go_skip (sp ++ x ++ rest) (sp.length + (x.length - 1)) (1 + rest.length) 0 0 (fun j _ hj => by
    by_cases a : j < sp.length
    · rw [List.append_assoc]; exact sl_ends_sp _ _ h1 j a
    · obtain ⟨k, rfl⟩ : ∃ k, j = sp.length + k := ⟨j - sp.length, by omega⟩
      rw [sl_ends_mid sp x rest h1 hr k (by omega)]
      exact hx.2.2 k (by omega)),
    Nat.add_comm 1, m_sentGo, Nat.zero_add, sl_ends_mid sp x rest h1 hr _ (by omega), hx.2.1, if_pos rfl, List.drop_zero, Nat.sub_zero]
  have e : sp.length + (x.length - 1) + 1 = (sp ++ x).length := by simp; omega
  rw [e, List.take_left]
  have ht := sl_trim sp x [] h1 (fun _ h => by cases h) hx.1
  rw [List.append_nil] at ht
  rw [ht]
  congr 1
  have := sl_go_shift (sp ++ x) rest hr rest.length 0 0 (Nat.zero_add _) (Nat.le_refl _)
  rw [Nat.add_zero] at this
  exact this
/-- Every text is spaces alone, or what is left open among spaces, or a sentence that ends and a rest. -/
theorem sl_cases (l : List UInt8) : AllSp l ∨ (∃ sp x sq, l = sp ++ x ++ sq ∧ AllSp sp ∧ AllSp sq ∧ Open x) ∨ (∃ sp x rest, l = sp ++ x ++ rest ∧ AllSp sp ∧ SpHead rest ∧ Ended x) := by
  by_cases hex : ∃ i, i < l.length ∧ m_ends l i = true
  · have hfind : ∃ i, (i < l.length ∧ m_ends l i = true) ∧ ∀ j, j < i → m_ends l j = false := by
      obtain ⟨i, hi⟩ := hex
      induction i using Nat.strongRecOn with
      | _ i ih =>
        by_cases h : ∃ j, j < i ∧ m_ends l j = true
        · obtain ⟨j, hj, hj2⟩ := h
          exact ih j hj ⟨by omega, hj2⟩
        · exact ⟨i, hi, fun j hj => by
            cases hb : m_ends l j with
            | false => rfl
            | true => exact absurd ⟨j, hj, hb⟩ h⟩
    obtain ⟨i, ⟨hi, he⟩, hmin⟩ := hfind
    refine .inr (.inr ?_)
    have hsplit : l = l.take (i + 1) ++ l.drop (i + 1) := (List.take_append_drop _ _).symm
    have hlen : (l.take (i + 1)).length = i + 1 := by rw [List.length_take]; omega
    have hchar : m_at l i ≠ 32 := fun h => by rw [sl_space_not _ _ h] at he; cases he
    have hlast : m_at (l.take (i + 1)) i ≠ 32 := by
      rw [← sl_at_left _ (l.drop (i + 1)) i (by omega), ← hsplit]; exact hchar
    have hrest : SpHead (l.drop (i + 1)) := by
      cases hd : l.drop (i + 1) with
      | nil => exact .inl rfl
      | cons c t =>
        refine .inr ⟨t, ?_⟩
        have hl2 : i + 1 < l.length := by
          have := congrArg List.length hd
          simp at this; omega
        unfold m_ends at he
        simp only [Bool.and_eq_true, Bool.or_eq_true, decide_eq_true_eq, beq_iff_eq] at he
        rcases he.1.2 with h | h
        · omega
        · have h' : m_at (l.take (i + 1) ++ l.drop (i + 1)) ((l.take (i + 1)).length + 0) = 32 := by rw [← hsplit, hlen]; exact h
          rw [sl_at_right, hd] at h'
          rw [show c = 32 from h']
    rcases sl_split (l.take (i + 1)) with h | ⟨sp, x, sq, h1, h2, h3, h4⟩
    · exact absurd (h.at i (by omega)) hlast
    · have hsq : sq = [] := by
        cases hq : sq with
        | nil => rfl
        | cons c s =>
          exfalso
          apply hlast
          have hll := congrArg List.length h1
          rw [hlen] at hll
          simp only [List.length_append] at hll
          have hpos : 0 < sq.length := by rw [hq]; simp
          rw [h1, show i = (sp ++ x).length + (sq.length - 1) by simp; omega, sl_at_right]
          exact h3.at _ (by omega)
      subst hsq
      rw [List.append_nil] at h1
      have hll := congrArg List.length h1
      rw [hlen] at hll
      simp only [List.length_append] at hll
      have hn : 0 < x.length := List.length_pos_iff.2 h4.2.2
      have hl : l = sp ++ x ++ l.drop (i + 1) := by rw [← h1]; exact hsplit
      refine ⟨sp, x, l.drop (i + 1), hl, h2, hrest, h4, ?_, fun j hj => ?_⟩
      · rw [← sl_ends_mid sp x _ h2 hrest _ (by omega), ← hl, show sp.length + (x.length - 1) = i by omega]; exact he
      · rw [← sl_ends_mid sp x _ h2 hrest _ (by omega), ← hl]; exact hmin _ (by omega)
  · have hno : ∀ j, j < l.length → m_ends l j = false := fun j hj => by
      cases hb : m_ends l j with
      | false => rfl
      | true => exact absurd ⟨j, hj, hb⟩ hex
    rcases sl_split l with h | ⟨sp, x, sq, h1, h2, h3, h4⟩
    · exact .inl h
    · refine .inr (.inl ⟨sp, x, sq, h1, h2, h3, h4, fun j hj => ?_⟩)
      have hq : SpHead sq := by
        cases sq with
        | nil => exact .inl rfl
        | cons c s => exact .inr ⟨s, by rw [h3 c (by simp)]⟩
      rw [← sl_ends_mid sp x sq h2 hq j hj, ← h1]
      exact hno _ (by rw [h1]; simp; omega)
/-- The sentences of a text, by its parts. -/
inductive Parts : List UInt8 → List (List UInt8) → Prop where
  | none (s : List UInt8) (h : AllSp s) : Parts s []
  | last (sp x sq : List UInt8) (h1 : AllSp sp) (h2 : AllSp sq) (hx : Open x) : Parts (sp ++ x ++ sq) [x]
  | more (sp x rest : List UInt8) (xs : List (List UInt8)) (h1 : AllSp sp) (hr : SpHead rest) (hx : Ended x) (h : Parts rest xs) : Parts (sp ++ x ++ rest) (x :: xs)
theorem Parts.sent {l : List UInt8} {xs : List (List UInt8)} (h : Parts l xs) : m_sent l = xs := by
  induction h with
  | none s h => exact sl_sent_sp s h
  | last sp x sq h1 h2 hx => exact sl_sent_open sp x sq h1 h2 hx
  | more sp x rest xs h1 hr hx h ih => rw [sl_sent_ended sp x rest h1 hr hx, ih]
theorem sl_parts (l : List UInt8) : Parts l (m_sent l) := by
  have key : ∀ n (l : List UInt8), l.length = n → Parts l (m_sent l) := by
    intro n
    induction n using Nat.strongRecOn with
    | _ n ih =>
      intro l hl
      rcases sl_cases l with h | ⟨sp, x, sq, rfl, h2, h3, h4⟩ | ⟨sp, x, rest, rfl, h2, h3, h4⟩
      · rw [sl_sent_sp l h]; exact .none l h
      · rw [sl_sent_open sp x sq h2 h3 h4]; exact .last sp x sq h2 h3 h4
      · rw [sl_sent_ended sp x rest h2 h3 h4]
        have hn : 0 < x.length := List.length_pos_iff.2 h4.1.2.2
        exact .more sp x rest _ h2 h3 h4 (ih rest.length (by simp at hl; omega) rest rfl)
  exact key _ l rfl
theorem Parts.space {l : List UInt8} {xs : List (List UInt8)} (h : Parts l xs) : Parts (32 :: l) xs := by
  have hc : ∀ sp, AllSp sp → AllSp (32 :: sp) := fun sp h c hc => by
    rcases List.mem_cons.1 hc with rfl | hc
    · rfl
    · exact h c hc
  cases h with
  | none s h => exact .none _ (hc _ h)
  | last sp x sq h1 h2 hx => exact .last (32 :: sp) x sq (hc _ h1) h2 hx
  | more sp x rest xs h1 hr hx h => exact .more (32 :: sp) x rest xs (hc _ h1) hr hx h
/-- Joined by single spaces, they are the same sentences. -/
theorem Parts.join {l : List UInt8} {xs : List (List UInt8)} (h : Parts l xs) : Parts (m_join xs) xs := by
  have hnil : AllSp [] := fun _ h => by cases h
  induction h with
  | none s h => exact .none [] hnil
  | last sp x sq h1 h2 hx =>
    have := Parts.last [] x [] hnil hnil hx
    rw [List.nil_append, List.append_nil] at this
    exact this
  | more sp x rest xs h1 hr hx h ih =>
    cases xs with
    | nil =>
      have := Parts.more [] x [] [] hnil (.inl rfl) hx (.none [] hnil)
      rw [List.nil_append, List.append_nil] at this
      exact this
    | cons y ys =>
      have := Parts.more [] x (32 :: m_join (y :: ys)) (y :: ys) hnil (.inr ⟨_, rfl⟩) hx ih.space
      rw [List.nil_append] at this
      exact this
theorem sl_joined (l : List UInt8) : m_sent (m_join (m_sent l)) = m_sent l := (sl_parts l).join.sent
/-- Each is neat; without spaces they are the text. -/
theorem Parts.neat {l : List UInt8} {xs : List (List UInt8)} (h : Parts l xs) : (∀ x ∈ xs, Neat x) ∧ xs.flatMap (·.filter (· != 32)) = l.filter (· != 32) := by
  have hsp : ∀ s : List UInt8, AllSp s → s.filter (· != 32) = [] := fun s h => by
    rw [List.filter_eq_nil_iff]
    intro c hc
    simp [h c hc]
  induction h with
  | none s h => exact ⟨by simp, by rw [hsp s h]; rfl⟩
  | last sp x sq h1 h2 hx =>
    refine ⟨by simpa using hx.1, ?_⟩
    rw [List.filter_append, List.filter_append, hsp sp h1, hsp sq h2]
    simp
  | more sp x rest xs h1 hr hx h ih =>
    refine ⟨?_, ?_⟩
    · intro y hy
      rcases List.mem_cons.1 hy with rfl | hy
      · exact hx.1
      · exact ih.1 y hy
    · rw [List.flatMap_cons, ih.2, List.filter_append, List.filter_append, hsp sp h1, List.nil_append]
/-- What stands in the joined sentences stands in the text, or is a space. -/
theorem Parts.mem {l : List UInt8} {xs : List (List UInt8)} (h : Parts l xs) : ∀ x ∈ xs, ∀ c ∈ x, c ∈ l := by
  induction h with
  | none s h => simp
  | last sp x sq h1 h2 hx => intro y hy c hc; simp at hy; subst hy; simp [hc]
  | more sp x rest xs h1 hr hx h ih =>
    intro y hy c hc
    rcases List.mem_cons.1 hy with rfl | hy
    · simp [hc]
    · simp [ih y hy c hc]
theorem sl_join_mem : ∀ (xs : List (List UInt8)) (c : UInt8), c ∈ m_join xs → c = 32 ∨ ∃ x ∈ xs, c ∈ x
  | [], c, h => by cases h
  | [x], c, h => .inr ⟨x, by simp, h⟩
  | x :: y :: l, c, h => by
    rw [m_join, List.mem_append, List.mem_cons] at h
    rcases h with h | h | h
    · exact .inr ⟨x, by simp, h⟩
    · exact .inl h
    · rcases sl_join_mem (y :: l) c h with h | ⟨z, hz, hc⟩
      · exact .inl h
      · exact .inr ⟨z, by simp only [List.mem_cons] at hz ⊢; exact .inr hz, hc⟩
theorem Parts.join_len {l : List UInt8} {xs : List (List UInt8)} (h : Parts l xs) : (m_join xs).length ≤ 2 * l.length := by
  induction h with
  | none s h => simp [m_join]
  | last sp x sq h1 h2 hx => simp [m_join]; omega
  | more sp x rest xs h1 hr hx h ih =>
    have hn : 0 < x.length := List.length_pos_iff.2 hx.1.2.2
    cases xs with
    | nil => simp [m_join]; omega
    | cons y ys =>
      simp only [m_join, List.length_append, List.length_cons] at ih ⊢
      omega
end Go.Proofs.YtpgjhjlhipikgaaDoor.PK
end
section
set_option linter.unusedVariables false
set_option linter.unusedSimpArgs false
namespace Go.Proofs.YtpgjhjlhipikgaaDoor.PK
open Go.RowKit Go.Proofs.YtpgjhjlhipikgaaDoorW.PrintWords Go.Proofs.YtpgjhjlhipikgaaDoorW.PrintLast Go.Proofs.YtpgjhjlhipikgaaDoorW.PrintMore
theorem pu_mn (a b : Int) : mn a b = if b < a then b else a := rfl
theorem pu_cut (a0 : ByteArray) (m : Int) (hm : 0 ≤ m) : 0 ≤ mn (a0.size : Int) m ∧ mn (a0.size : Int) m ≤ (a0.size : Int) ∧ (a0.extract 0 (mn (a0.size : Int) m).toNat).size ≤ m.toNat := by
  rw [pu_mn]
  refine ⟨by split <;> omega, by split <;> omega, ?_⟩
  rw [ByteArray.size_extract]
  split <;> omega
theorem pu_w1 (n : Nat) (h : n ≤ 9000000000000000000) : wrap64 ((n : Int) + 1) = ((n + 1 : Nat) : Int) := by unfold wrap64; omega
theorem pu_wm1 (n : Nat) (h : n ≤ 9000000000000000000) (h0 : 1 ≤ n) : wrap64 ((n : Int) - 1) = ((n - 1 : Nat) : Int) := by unfold wrap64; omega
theorem pu_rd (xs : List ByteArray) (j : Nat) (h : j < xs.length) : rdOf ByteArray.empty xs (j : Int) = xs[j] := by
  simp [rdOf, List.getD_eq_getElem?_getD, h]
theorem pu_bt (s : ByteArray) (n : Nat) (h : n < s.size) : bt s (n : Int) = ((m_at s.data.toList n).toNat : Int) := by
  unfold bt
  rw [dif_pos (by rw [Int.toNat_natCast]; exact h)]
  have h2 : n < s.data.toList.length := by rw [Array.length_toList]; exact h
  simp only [Int.toNat_natCast, m_at, List.getD_eq_getElem?_getD, List.getElem?_eq_getElem h2, Option.getD_some]
  rfl
theorem pu_size (l : List UInt8) : (⟨l.toArray⟩ : ByteArray).size = l.length := by simp [ByteArray.size]
theorem pu_len (s : ByteArray) : s.data.toList.length = s.size := Array.length_toList
theorem pu_app (a b : List UInt8) : (⟨a.toArray⟩ : ByteArray) ++ ⟨b.toArray⟩ = ⟨(a ++ b).toArray⟩ := cd_ba_inj _ _ (by rw [ByteArray.data_append, Array.toList_append])
theorem pu_toList (s : ByteArray) : s.toList = s.data.toList := ByteArray.toList_eq ..
theorem pu_nat32 (c : UInt8) : ((c.toNat : Int) = 32) ↔ c = 32 := by
  constructor
  · intro h; apply UInt8.toNat_inj.1; show c.toNat = 32; omega
  · rintro rfl; rfl
/-! more about sentences -/
theorem Parts.len {l : List UInt8} {xs : List (List UInt8)} (h : Parts l xs) : (∀ x ∈ xs, x.length ≤ l.length) ∧ xs.length ≤ l.length := by
  induction h with
  | none s h => simp
  | last sp x sq h1 h2 hx =>
    have hn : 0 < x.length := List.length_pos_iff.2 hx.1.2.2
    exact ⟨by simp; omega, by simp; omega⟩
  | more sp x rest xs h1 hr hx h ih =>
    have hn : 0 < x.length := List.length_pos_iff.2 hx.1.2.2
    refine ⟨?_, by simp; omega⟩
    intro y hy
    rcases List.mem_cons.1 hy with rfl | hy
    · simp; omega
    · have := ih.1 y hy; simp; omega
def m_bas (ys : List (List UInt8)) : List ByteArray := ys.map (fun x => ⟨x.toArray⟩)
theorem m_bas_get (ys : List (List UInt8)) (j : Nat) (h : j < ys.length) (h' : j < (m_bas ys).length) : (m_bas ys)[j] = ⟨(ys[j]).toArray⟩ := by simp [m_bas]
theorem m_bas_len (ys : List (List UInt8)) : (m_bas ys).length = ys.length := by simp [m_bas]
end Go.Proofs.YtpgjhjlhipikgaaDoor.PK
end
section
set_option linter.unusedVariables false
set_option linter.unusedSimpArgs false
namespace Go.Proofs.YtpgjhjlhipikgaaDoor.Pure
open Go.RowKit Go.Proofs.YtpgjhjlhipikgaaDoor.PK Go.Proofs.YtpgjhjlhipikgaaDoorW.PrintWords Go.Proofs.YtpgjhjlhipikgaaDoorW.PrintLast
def neatB (x : List UInt8) : Bool := decide (x.head? ≠ some 32) && decide (x.getLast? ≠ some 32) && decide (x ≠ [])
def endedB (x : List UInt8) : Bool := neatB x && m_ends x (x.length - 1) && (List.range (x.length - 1)).all (fun j => !m_ends x j) && decide (x.length ≤ 40)
def openB (x : List UInt8) : Bool := neatB x && (List.range x.length).all (fun j => !m_ends x j)
theorem neatB_ok (x : List UInt8) (h : neatB x = true) : Neat x := by
  simp only [neatB, Bool.and_eq_true, decide_eq_true_eq] at h
  exact ⟨h.1.1, h.1.2, h.2⟩
theorem endedB_ok (x : List UInt8) (h : endedB x = true) : Ended x ∧ x.length ≤ 40 := by
  simp only [endedB, Bool.and_eq_true, decide_eq_true_eq, List.all_eq_true, List.mem_range] at h
  obtain ⟨⟨⟨h1, h2⟩, h3⟩, h4⟩ := h
  exact ⟨⟨neatB_ok x h1, h2, fun j hj => by simpa using h3 j (by omega)⟩, h4⟩
theorem openB_ok (x : List UInt8) (h : openB x = true) : Go.Proofs.YtpgjhjlhipikgaaDoor.PK.Open x := by
  simp only [openB, Bool.and_eq_true, List.all_eq_true, List.mem_range] at h
  exact ⟨neatB_ok x h.1, fun j hj => by simpa using h.2 j hj⟩
theorem pl_wf (a : Int) (h : (Lit.int .i64 a).wf = true) : -9223372036854775808 ≤ a ∧ a ≤ 9223372036854775807 := by
  simp [Lit.wf, IntKind.min, IntKind.max, IntKind.signed, IntKind.bits] at h
  omega
theorem pl_pick (a : Int) (n : Int) (hn : 0 < n) (h : (Lit.int .i64 a).wf = true) : ∃ p : Int, copydesklaw03_pick.f a n = some p ∧ 0 ≤ p ∧ p < n := by
  obtain ⟨h1, h2⟩ := pl_wf a h
  unfold copydesklaw03_pick.f
  by_cases h0 : a < 0
  · have hw : wrap64 (-(wrap64 (a + 1))) = -(a + 1) := by unfold wrap64; omega
    rw [if_pos h0, if_neg (by omega), hw]
    exact ⟨_, rfl, Int.tmod_nonneg _ (by omega), Int.tmod_lt_of_pos _ hn⟩
  · rw [if_neg h0, if_neg (by omega)]
    exact ⟨_, rfl, Int.tmod_nonneg _ (by omega), Int.tmod_lt_of_pos _ hn⟩
theorem sn_all : (List.range 7).all (fun p => (List.range 6).all (fun q => endedB (sn_at (p : Int) (q : Int)).data.toList && decide ((rdOf ByteArray.empty sn_words (p : Int)).size ≤ 30) && decide ((rdOf ByteArray.empty sn_ends (q : Int)).size ≤ 30))) = true := by decide +kernel
theorem pl_sentence (n : Int) (h : (Lit.int .i64 n).wf = true) : ∃ w : List UInt8, copydesklaw03_sentence.f n = some ⟨w.toArray⟩ ∧ Ended w ∧ w.length ≤ 40 := by
  obtain ⟨p, hp, p0, p1⟩ := pl_pick n 7 (by omega) h
  obtain ⟨r, hr, r0, r1⟩ := pl_pick n 42 (by omega) h
  have hq : wrap64 (Int.tdiv r 7) = r / 7 := by
    rw [Int.tdiv_eq_ediv_of_nonneg r0]; unfold wrap64; omega
  obtain ⟨P, rfl⟩ : ∃ P : Nat, p = (P : Int) := ⟨p.toNat, by omega⟩
  obtain ⟨Q, hQ⟩ : ∃ Q : Nat, r / 7 = (Q : Int) := ⟨(r / 7).toNat, by omega⟩
  have hQ6 : Q < 6 := by omega
  have ha := List.all_eq_true.1 (List.all_eq_true.1 sn_all P (List.mem_range.2 (by omega))) Q (List.mem_range.2 hQ6)
  simp only [Bool.and_eq_true, decide_eq_true_eq] at ha
  obtain ⟨⟨ha, hs1⟩, hs2⟩ := ha
  obtain ⟨he, hl⟩ := endedB_ok _ ha
  refine ⟨(sn_at (P : Int) (Q : Int)).data.toList, ?_, he, hl⟩
  rw [cd_ba]
  unfold copydesklaw03_sentence.f
  rw [hp, Option.bind_some, hr, Option.bind_some, hq, hQ, if_pos ⟨⟨p0, p1⟩, ⟨by omega, by omega⟩, by omega, by omega⟩]
def sn_R : List UInt8 := [116, 111, 32, 98, 101, 32, 32, 99, 111, 110, 116, 105, 110, 117, 101, 100, 32, 98, 121, 32, 74, 46, 32, 68]
theorem sn_R_open : Go.Proofs.YtpgjhjlhipikgaaDoor.PK.Open sn_R := openB_ok _ (by decide +kernel)
theorem pl_parts (sp : List UInt8) (hsp : AllSp sp) (hne : sp ≠ []) (tail : List UInt8) (tl : List (List UInt8)) (ht : Parts (sp ++ tail) tl) : ∀ ws : List (List UInt8), (∀ w ∈ ws, Ended w) → Parts (sp ++ ws.flatMap (fun w => w ++ sp) ++ tail) (ws ++ tl)
  | [], _ => by simpa using ht
  | w :: ws, h => by
    have ih := pl_parts sp hsp hne tail tl ht ws (fun x hx => h x (by simp [hx]))
    have hh : SpHead (sp ++ ws.flatMap (fun w => w ++ sp) ++ tail) := by
      cases sp with
      | nil => exact absurd rfl hne
      | cons c sp => exact .inr ⟨sp ++ ws.flatMap (fun w => w ++ c :: sp) ++ tail, by rw [hsp c (by simp)]; rfl⟩
    have := Parts.more sp w _ _ hsp hh (h w (by simp)) ih
    rw [List.flatMap_cons]
    simp only [List.append_assoc, List.cons_append] at this ⊢
    exact this
theorem pl_sameStrGo' (a : List ByteArray) : ∀ (d k j : Nat), j + d = a.length → d < k → a.length ≤ 1000000 → copydeskref03_SameStrings.l0 k a a (j : Int) = some true
  | 0, k, j, hj, hk, hc => by
    obtain ⟨k, rfl⟩ : ∃ i, k = i + 1 := ⟨k - 1, by omega⟩
    rw [copydeskref03_SameStrings.l0, if_neg (by omega)]
  | d + 1, k, j, hj, hk, hc => by
    obtain ⟨k, rfl⟩ : ∃ i, k = i + 1 := ⟨k - 1, by omega⟩
    rw [copydeskref03_SameStrings.l0, if_pos (by omega), if_pos (by omega), if_pos (by omega), if_pos rfl, pu_w1 j (by omega), pl_sameStrGo' a d k (j + 1) (by omega) (by omega) hc]
theorem pl_sameStr' (a : List ByteArray) (k : Nat) (hk : a.length < k) (hc : a.length ≤ 1000000) : copydeskref03_SameStrings.f k a a = some true := by
  unfold copydeskref03_SameStrings.f
  rw [if_pos rfl]
  exact pl_sameStrGo' a a.length k 0 (Nat.zero_add _) hk hc
theorem pl_flatlen (sp : List UInt8) (hsl : sp.length ≤ 4) : ∀ ws : List (List UInt8), (∀ w ∈ ws, w.length ≤ 40) → (ws.flatMap (fun w => w ++ sp)).length ≤ 44 * ws.length
  | [], _ => by simp
  | w :: ws, h => by
    have h1 := h w (by simp)
    have h2 := pl_flatlen sp hsl ws (fun x hx => h x (by simp [hx]))
    rw [List.flatMap_cons, List.length_append, List.length_append, List.length_cons]; omega
theorem pl_builtEnd (sp : List UInt8) (hsp : AllSp sp) (hne : sp ≠ []) (hsl : sp.length ≤ 4) (a2 : Bool) (ws : List (List UInt8)) (hw : ∀ w ∈ ws, Ended w ∧ w.length ≤ 40) (hc : ws.length ≤ 30) (k : Nat) (hk : 100 < k) :
    copydesklaw03_BlockSentencesBuilt.j1 k a2 true ⟨sp.toArray⟩ ⟨(sp ++ ws.flatMap (fun w => w ++ sp)).toArray⟩ (m_bas ws) = some true := by
  obtain ⟨k, rfl⟩ : ∃ i, k = i + 1 := ⟨k - 1, by omega⟩
  have hfl := pl_flatlen sp hsl ws (fun w h => (hw w h).2)
  have hnil : AllSp [] := fun _ h => by cases h
  rw [copydesklaw03_BlockSentencesBuilt.j1]
  cases a2 with
  | false =>
    rw [if_neg (by decide), if_pos rfl]
    have hp := pl_parts sp hsp hne [] [] (by rw [List.append_nil]; exact .none sp hsp) ws (fun w h => (hw w h).1)
    rw [List.append_nil, List.append_nil] at hp
    have hS : block_Sentences.f (⟨(sp ++ ws.flatMap (fun w => w ++ sp)).toArray⟩ : ByteArray) = some (m_bas ws) := by
      unfold block_Sentences.f
      rw [if_pos (by rw [pu_size, List.length_append]; omega)]
      show some (m_bas (m_sent (sp ++ ws.flatMap (fun w => w ++ sp)))) = _
      rw [hp.sent]
    rw [hS, Option.bind_some, pl_sameStr' _ k (by rw [m_bas_len]; omega) (by rw [m_bas_len]; omega)]; rfl
  | true =>
    have hp := pl_parts sp hsp hne (sn_R ++ sp) [sn_R] (by rw [← List.append_assoc]; exact .last sp sn_R sp hsp hsp sn_R_open) ws (fun w h => (hw w h).1)
    have hRl : sn_R.length = 24 := rfl
    have eR : (⟨#[116, 111, 32, 98, 101, 32, 32, 99, 111, 110, 116, 105, 110, 117, 101, 100, 32, 98, 121, 32, 74, 46, 32, 68]⟩ : ByteArray) = ⟨sn_R.toArray⟩ := rfl
    rw [eR]
    have g1 : (m_bas ws).length < 8796093022208 := by rw [m_bas_len]; omega
    have g2 : (⟨(sp ++ ws.flatMap (fun w => w ++ sp)).toArray⟩ : ByteArray).size + 24 ≤ 9223372036854775807 := by rw [pu_size, List.length_append]; omega
    have e1 : (⟨(sp ++ ws.flatMap (fun w => w ++ sp)).toArray⟩ : ByteArray) ++ ⟨sn_R.toArray⟩ = ⟨(sp ++ ws.flatMap (fun w => w ++ sp) ++ sn_R).toArray⟩ := pu_app _ _
    have g3 : (⟨(sp ++ ws.flatMap (fun w => w ++ sp) ++ sn_R).toArray⟩ : ByteArray).size + (⟨sp.toArray⟩ : ByteArray).size ≤ 9223372036854775807 := by rw [pu_size, pu_size, List.length_append, List.length_append]; omega
    have e2 : (⟨(sp ++ ws.flatMap (fun w => w ++ sp) ++ sn_R).toArray⟩ : ByteArray) ++ ⟨sp.toArray⟩ = ⟨(sp ++ ws.flatMap (fun w => w ++ sp) ++ (sn_R ++ sp)).toArray⟩ := by rw [pu_app, List.append_assoc]
    have hS : block_Sentences.f (⟨(sp ++ ws.flatMap (fun w => w ++ sp) ++ (sn_R ++ sp)).toArray⟩ : ByteArray) = some (m_bas (ws ++ [sn_R])) := by
      unfold block_Sentences.f
      rw [if_pos (by rw [pu_size]; simp only [List.length_append]; omega)]
      show some (m_bas (m_sent (sp ++ ws.flatMap (fun w => w ++ sp) ++ (sn_R ++ sp)))) = _
      rw [hp.sent]
    have e3 : m_bas ws ++ [(⟨sn_R.toArray⟩ : ByteArray)] = m_bas (ws ++ [sn_R]) := by simp [m_bas]
    rw [if_pos rfl, if_pos g1, if_pos g2, e1, if_pos g3, if_pos rfl, e2, hS, Option.bind_some, e3, pl_sameStr' _ k (by rw [m_bas_len]; simp; omega) (by rw [m_bas_len]; simp; omega)]; rfl
theorem pl_rdI (l : List Int) (x : Nat) (h : x < l.length) : rd l (x : Int) = l[x] := by
  simp [rd, List.getD_eq_getElem?_getD, h]
theorem pl_builtGo (sp : List UInt8) (hsp : AllSp sp) (hne : sp ≠ []) (hsl : sp.length ≤ 4) (a2 : Bool) (l : List Int) (hl : ∀ x ∈ l, (Lit.int .i64 x).wf = true) : ∀ (d k : Nat) (ws : List (List UInt8)), (∀ w ∈ ws, Ended w ∧ w.length ≤ 40) → ws.length ≤ 30 → ws.length + d = 30 → d + 110 < k →
    copydesklaw03_BlockSentencesBuilt.l0 k l a2 true ⟨sp.toArray⟩ ⟨(sp ++ ws.flatMap (fun w => w ++ sp)).toArray⟩ (m_bas ws) (ws.length : Int) = some true
  | 0, k, ws, hw, hc, hd, hk => by
    obtain ⟨k, rfl⟩ : ∃ i, k = i + 1 := ⟨k - 1, by omega⟩
    rw [copydesklaw03_BlockSentencesBuilt.l0, if_neg (show ¬ (ws.length : Int) < 30 by omega), pl_builtEnd sp hsp hne hsl a2 ws hw hc k (by omega)]
    split <;> rfl
  | d + 1, k, ws, hw, hc, hd, hk => by
    obtain ⟨k, rfl⟩ : ∃ i, k = i + 1 := ⟨k - 1, by omega⟩
    rw [copydesklaw03_BlockSentencesBuilt.l0]
    by_cases hlt : ws.length < l.length
    · obtain ⟨w, hs, he, hwl⟩ := pl_sentence l[ws.length] (hl _ (List.getElem_mem hlt))
      have hfl := pl_flatlen sp hsl ws (fun w h => (hw w h).2)
      have g1 : (m_bas ws).length < 8796093022208 := by rw [m_bas_len]; omega
      have g2 : (⟨(sp ++ ws.flatMap (fun w => w ++ sp)).toArray⟩ : ByteArray).size + (⟨w.toArray⟩ : ByteArray).size ≤ 9223372036854775807 := by rw [pu_size, pu_size, List.length_append]; omega
      have e1 : (⟨(sp ++ ws.flatMap (fun w => w ++ sp)).toArray⟩ : ByteArray) ++ ⟨w.toArray⟩ = ⟨(sp ++ ws.flatMap (fun w => w ++ sp) ++ w).toArray⟩ := pu_app _ _
      have g3 : (⟨(sp ++ ws.flatMap (fun w => w ++ sp) ++ w).toArray⟩ : ByteArray).size + (⟨sp.toArray⟩ : ByteArray).size ≤ 9223372036854775807 := by rw [pu_size, pu_size, List.length_append, List.length_append]; omega
      have e2 : (⟨(sp ++ ws.flatMap (fun w => w ++ sp) ++ w).toArray⟩ : ByteArray) ++ ⟨sp.toArray⟩ = ⟨(sp ++ (ws ++ [w]).flatMap (fun w => w ++ sp)).toArray⟩ := by
        rw [pu_app, List.flatMap_append]; simp
      have e3 : m_bas ws ++ [(⟨w.toArray⟩ : ByteArray)] = m_bas (ws ++ [w]) := by simp [m_bas]
      have e4 : ((ws.length + 1 : Nat) : Int) = ((ws ++ [w]).length : Int) := by simp
      rw [if_pos (by omega), if_pos (by omega), if_pos (by omega), pl_rdI l _ hlt, hs, Option.bind_some, if_pos g1, if_pos g2, e1, if_pos g3, e2, e3, pu_w1 ws.length (by omega), e4]
      refine pl_builtGo sp hsp hne hsl a2 l hl d k (ws ++ [w]) ?_ (by simp; omega) (by simp; omega) (by omega)
      intro x hx
      rcases List.mem_append.1 hx with hx | hx
      · exact hw x hx
      · rw [List.mem_singleton.1 hx]; exact ⟨he, hwl⟩
    · rw [if_neg (by omega), pl_builtEnd sp hsp hne hsl a2 ws hw hc k (by omega)]
theorem pl_sp (n : Nat) (h1 : 1 ≤ n) (h4 : n ≤ 4) : ∃ sp : List UInt8, (⟨#[32, 32, 32, 32]⟩ : ByteArray).extract 0 n = ⟨sp.toArray⟩ ∧ AllSp sp ∧ sp ≠ [] ∧ sp.length ≤ 4 := by
  refine ⟨([32, 32, 32, 32] : List UInt8).take n, ?_, ?_, ?_, ?_⟩
  · refine cd_ba_inj _ _ ?_
    rw [ByteArray.data_extract, Array.toList_extract, List.extract_eq_take_drop]; rfl
  · intro c hc
    have := List.mem_of_mem_take hc
    simpa using this
  · intro h
    have := congrArg List.length h
    simp at this; omega
  · simp; omega
theorem BlockSentencesBuilt : copydesklaw03_BlockSentencesBuilt.Pure := by
  intro l0 a1 a2 _ _ hl ha
  obtain ⟨p, hp, p0, p1⟩ := pl_pick a1 4 (by omega) ha
  have hw : wrap64 (1 + p) = 1 + p := by unfold wrap64; omega
  obtain ⟨sp, hs, h1, h2, h3⟩ := pl_sp (1 + p).toNat (by omega) (by omega)
  refine ⟨200, ?_⟩
  unfold copydesklaw03_BlockSentencesBuilt.f copydesklaw03_sane.f
  rw [Option.bind_some, hp, Option.bind_some, hw, if_pos (by omega), if_pos (by omega), hs]
  have := pl_builtGo sp h1 h2 h3 a2 l0 hl 30 200 [] (by simp) (by simp) (by simp) (by omega)
  simpa [m_bas] using this
end Go.Proofs.YtpgjhjlhipikgaaDoor.Pure
end
