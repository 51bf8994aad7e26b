/- Texts of this claim, one behind the other. -/
import Derived.Test.YtpgjhjlhipikgaaDoorMDx3
import Derived.WalkKit
import Derived.Deep.QuietTactic
import Derived.BigQuiet
import Derived.Deep.Cut
import Derived.WalkSpells
import Derived.Maps.OwnIn
section
set_option linter.unusedVariables false
set_option linter.unusedSimpArgs false
namespace Go.Proofs.YtpgjhjlhipikgaaDoor.PK
open Go.RowKit Go.Proofs.YtpgjhjlhipikgaaDoorW.PrintWords Go.Proofs.YtpgjhjlhipikgaaDoorW.PrintLast Go.Proofs.YtpgjhjlhipikgaaDoorW.PrintMore
theorem cd_zig (n : Int) : m_unzig (m_zig n) = n := by
  unfold m_unzig m_zig
  split <;> split <;> omega
theorem cd_unzig (z : Nat) : m_zig (m_unzig z) = z := by
  unfold m_zig m_unzig
  split <;> split <;> omega
theorem cd_toNat (n : Nat) (h : n < 256) : (UInt8.ofNat n).toNat = n := by simp [UInt8.toNat_ofNat']; omega
theorem cd_ofNat (c : UInt8) : UInt8.ofNat c.toNat = c := by simp
theorem cd_vint_small (k z : Nat) (h : z < 128) : m_vint (k + 1) z = [UInt8.ofNat z] := by rw [m_vint, if_pos h]
theorem cd_vint_big (k z : Nat) (h : ¬ z < 128) : m_vint (k + 1) z = UInt8.ofNat (z % 128 + 128) :: m_vint k (z / 128) := by rw [m_vint, if_neg h]
theorem cd_rdz_vint : ∀ (k k' i z : Nat) (r : List UInt8), z < 128 ^ (k + 1) → k ≤ k' → (i = 0 ∨ z ≠ 0) → m_rdz (k + 1) i (m_vint (k' + 1) z ++ r) = some (z, r) := by
  intro k
  induction k with
  | zero =>
    intro k' i z r hz hk hi
    have hz' : z < 128 := by simpa using hz
    rw [cd_vint_small _ _ hz', List.singleton_append, m_rdz, cd_toNat z (by omega), if_neg (by omega), if_neg (by omega)]
  | succ k ih =>
    intro k' i z r hz hk hi
    by_cases h : z < 128
    · rw [cd_vint_small _ _ h, List.singleton_append, m_rdz, cd_toNat z (by omega), if_neg (by omega), if_neg (by omega)]
    · obtain ⟨k', rfl⟩ : ∃ j, k' = j + 1 := ⟨k' - 1, by omega⟩
      rw [cd_vint_big _ _ h, List.cons_append, m_rdz, cd_toNat _ (by omega), if_pos (by omega), ih k' (i + 1) (z / 128) r ?_ (by omega) (.inr (by omega))]
      · simp only [Option.map_some, Option.some.injEq, Prod.mk.injEq, and_true]; omega
      · rw [Nat.pow_succ] at hz; exact Nat.div_lt_of_lt_mul (by omega)
theorem cd_rdz_inv : ∀ (k i : Nat) (l r : List UInt8) (z : Nat), m_rdz k i l = some (z, r) → z < 128 ^ k ∧ (0 < i → z ≠ 0) ∧ ∀ k', k ≤ k' → l = m_vint k' z ++ r := by
  intro k
  induction k with
  | zero => intro i l r z h; cases h
  | succ k ih =>
    intro i l r z h
    cases l with
    | nil => cases h
    | cons c l =>
      rw [m_rdz] at h
      have hc : c.toNat < 256 := c.toNat_lt
      by_cases h1 : 128 ≤ c.toNat
      · rw [if_pos h1] at h
        obtain ⟨⟨z', r'⟩, h2, h3⟩ := Option.map_eq_some_iff.1 h
        obtain ⟨e1, e2⟩ := Prod.mk.inj h3
        dsimp only at e1 e2
        obtain ⟨a1, a2, a3⟩ := ih _ _ _ _ h2
        have a2' := a2 (by omega)
        subst e2
        refine ⟨by rw [Nat.pow_succ]; omega, fun _ => by omega, fun k' hk' => ?_⟩
        obtain ⟨k', rfl⟩ : ∃ j, k' = j + 1 := ⟨k' - 1, by omega⟩
        rw [cd_vint_big _ _ (by omega), show z % 128 + 128 = c.toNat by omega, show z / 128 = z' by omega, cd_ofNat, List.cons_append, ← a3 k' (by omega)]
      · rw [if_neg h1] at h
        by_cases h2 : c.toNat = 0 ∧ 0 < i
        · rw [if_pos h2] at h; cases h
        · rw [if_neg h2] at h
          obtain ⟨e1, e2⟩ := Prod.mk.inj (Option.some.inj h)
          subst e2
          refine ⟨by rw [Nat.pow_succ]; have := Nat.pow_pos (n := k) (show 0 < 128 by decide); omega, fun _ => by omega, fun k' hk' => ?_⟩
          obtain ⟨k', rfl⟩ : ∃ j, k' = j + 1 := ⟨k' - 1, by omega⟩
          rw [cd_vint_small _ _ (by omega), ← e1, cd_ofNat, List.singleton_append]
theorem cd_rdz_pre : ∀ (k i : Nat) (l r p q : List UInt8) (z : Nat), m_rdz k i l = some (z, r) → l = p ++ q → m_rdz k i p = none ∨ ∃ p', r = p' ++ q ∧ m_rdz k i p = some (z, p') := by
  intro k
  induction k with
  | zero => intro i l r p q z h; cases h
  | succ k ih =>
    intro i l r p q z h hl
    cases p with
    | nil => exact .inl rfl
    | cons c p =>
      subst hl
      rw [List.cons_append, m_rdz] at h
      rw [m_rdz]
      by_cases h1 : 128 ≤ c.toNat
      · rw [if_pos h1] at h ⊢
        obtain ⟨⟨z', r'⟩, h2, h3⟩ := Option.map_eq_some_iff.1 h
        obtain ⟨e1, e2⟩ := Prod.mk.inj h3
        dsimp only at e1 e2
        subst e2
        rcases ih _ _ _ _ _ _ h2 rfl with h4 | ⟨p', h4, h5⟩
        · exact .inl (by rw [h4]; rfl)
        · exact .inr ⟨p', h4, by rw [h5]; simp [e1]⟩
      · rw [if_neg h1] at h ⊢
        by_cases h2 : c.toNat = 0 ∧ 0 < i
        · rw [if_pos h2] at h; cases h
        · rw [if_neg h2] at h ⊢
          obtain ⟨e1, e2⟩ := Prod.mk.inj (Option.some.inj h)
          exact .inr ⟨p, e2.symm, by rw [e1]⟩
theorem cd_fits (n : Int) : m_fits n = true ↔ -4611686018427387903 ≤ n ∧ n ≤ 4611686018427387903 := by simp [m_fits]
structure Codec {α : Type} (one : Rd α) (enc : α → List UInt8) (ok : α → Prop) : Prop where mk ::
  back : ∀ x r, ok x → one (enc x ++ r) = .ok (x, r)
  only : ∀ l x r, one l = .ok (x, r) → ok x ∧ l = enc x ++ r
  pre : ∀ l x r p q, one l = .ok (x, r) → l = p ++ q → one p = .error 10 ∨ ∃ p', r = p' ++ q ∧ one p = .ok (x, p')
theorem cd_int : Codec rdI m_int (fun n => m_fits n = true) where
  back n r h := by
    rw [cd_fits] at h
    have hz : m_zig n < 128 ^ (8 + 1) := by unfold m_zig; split <;> omega
    unfold rdI m_rdInt m_int
    rw [cd_rdz_vint 8 9 0 _ r hz (by omega) (.inl rfl)]
    simp only [cd_zig]
    rw [if_neg (by omega)]
  only l n r h := by
    unfold rdI m_rdInt at h
    cases h1 : m_rdz 9 0 l with
    | none => rw [h1] at h; cases h
    | some p =>
      obtain ⟨z, r'⟩ := p
      rw [h1] at h
      dsimp only at h
      by_cases h2 : m_unzig z < -4611686018427387903
      · rw [if_pos h2] at h; cases h
      · rw [if_neg h2] at h
        dsimp only at h
        injection h with h
        obtain ⟨e1, e2⟩ := Prod.mk.inj h
        obtain ⟨a1, _, a3⟩ := cd_rdz_inv _ _ _ _ _ h1
        refine ⟨?_, ?_⟩
        · rw [cd_fits, ← e1]
          have : m_unzig z ≤ 4611686018427387903 := by unfold m_unzig; split <;> omega
          omega
        · rw [a3 10 (by omega), ← e1, ← e2]
          unfold m_int
          rw [cd_unzig]
  pre l n r p q h hl := by
    unfold rdI m_rdInt at h ⊢
    cases h1 : m_rdz 9 0 l with
    | none => rw [h1] at h; cases h
    | some x =>
      obtain ⟨z, r'⟩ := x
      rw [h1] at h
      dsimp only at h
      by_cases h2 : m_unzig z < -4611686018427387903
      · rw [if_pos h2] at h; cases h
      · rw [if_neg h2] at h
        dsimp only at h
        injection h with h
        obtain ⟨e1, e2⟩ := Prod.mk.inj h
        subst e2
        rcases cd_rdz_pre _ _ _ _ _ _ _ h1 hl with h3 | ⟨p', h3, h4⟩
        · exact .inl (by rw [h3])
        · refine .inr ⟨p', h3, ?_⟩
          rw [h4]
          dsimp only
          rw [if_neg h2]
          dsimp only
          rw [e1]
theorem cd_rdStr (l : List UInt8) : rdS l = match rdI l with
    | .error e => .error 10
    | .ok (n, r) => if n < 0 ∨ 65536 < n ∨ (r.length : Int) < n then .error 10 else .ok (r.take n.toNat, r.drop n.toNat) := by
  unfold rdS m_rdStr rdI
  cases h : m_rdInt l with
  | none => rfl
  | some p =>
    obtain ⟨n, r⟩ := p
    dsimp only
    by_cases h2 : n < 0 ∨ 65536 < n ∨ (r.length : Int) < n
    · rw [if_pos h2, if_pos h2]
    · rw [if_neg h2, if_neg h2]
theorem cd_rdI_err (l : List UInt8) (e : Int) (h : rdI l = .error e) : e = 10 := by
  unfold rdI at h
  cases h1 : m_rdInt l with
  | none => rw [h1] at h; injection h with h; exact h.symm
  | some p => rw [h1] at h; cases h
theorem cd_str : Codec rdS m_str (fun t => t.length ≤ 65536) where
  back t r h := by
    rw [cd_rdStr]
    unfold m_str
    rw [List.append_assoc, cd_int.back _ _ ((cd_fits _).2 (by omega))]
    dsimp only
    rw [if_neg (by rw [List.length_append]; omega)]
    (simp)
  only l t r h := by
    rw [cd_rdStr] at h
    cases h1 : rdI l with
    | error e => rw [h1] at h; cases h
    | ok p =>
      obtain ⟨n, r'⟩ := p
      rw [h1] at h
      dsimp only at h
      by_cases h2 : n < 0 ∨ 65536 < n ∨ (r'.length : Int) < n
      · rw [if_pos h2] at h; cases h
      · rw [if_neg h2] at h
        injection h with h
        obtain ⟨e1, e2⟩ := Prod.mk.inj h
        obtain ⟨a1, a2⟩ := cd_int.only _ _ _ h1
        have hl : t.length = n.toNat := by rw [← e1, List.length_take]; omega
        refine ⟨by omega, ?_⟩
        unfold m_str
        rw [a2, hl, show ((n.toNat : Nat) : Int) = n by omega, ← e1, ← e2, List.append_assoc, List.take_append_drop]
  pre l t r p q h hl := by
    rw [cd_rdStr] at h ⊢
    cases h1 : rdI l with
    | error e => rw [h1] at h; cases h
    | ok x =>
      obtain ⟨n, r'⟩ := x
      rw [h1] at h
      dsimp only at h
      by_cases h2 : n < 0 ∨ 65536 < n ∨ (r'.length : Int) < n
      · rw [if_pos h2] at h; cases h
      · rw [if_neg h2] at h
        injection h with h
        obtain ⟨e1, e2⟩ := Prod.mk.inj h
        rcases cd_int.pre _ _ _ _ _ h1 hl with h3 | ⟨p', h3, h4⟩
        · exact .inl (by rw [h3])
        · rw [h4]
          dsimp only
          subst h3
          rw [List.length_append] at h2
          by_cases h5 : (p'.length : Int) < n
          · exact .inl (by rw [if_pos (by omega)])
          · refine .inr ⟨p'.drop n.toNat, ?_, ?_⟩
            · rw [← e2, List.drop_append_of_le_length (by omega)]
            · rw [if_neg (by omega), ← e1, List.take_append_of_le_length (by omega)]
theorem cd_rdN_zero {α : Type} (one : Rd α) (l : List UInt8) : rdN one 0 l = .ok ([], l) := rfl
theorem cd_rdB_eq (l : List UInt8) : rdB l = rdBind rdI (fun id l => rdBind rdI (fun kind l => rdBind rdS (fun text l => rdBind rdI (fun story l => rdBind rdI (fun ref l => rdBind rdI (fun u l => rdBind (rdL 64 rdI) (fun after l => rdBind rdI (fun a l => rdBind rdI (fun d l => .ok (⟨id, kind, ⟨text.toArray⟩, story, ref, ⟨u, after, a, d⟩⟩, l)) l) l) l) l) l) l) l) l) l := rfl
theorem cd_rdN_bind {α : Type} (one : Rd α) (n : Nat) (l : List UInt8) : rdN one (n + 1) l = rdBind one (fun x l => rdBind (rdN one n) (fun xs l => .ok (x :: xs, l)) l) l := rfl
theorem cd_rdL_bind {α : Type} (most : Int) (one : Rd α) (l : List UInt8) : rdL most one l = rdBind rdI (fun n l => if n < 0 ∨ most < n then .error 30 else rdN one n.toNat l) l := rfl
theorem cd_bind_ok {α β : Type} {one : Rd α} {next : α → List UInt8 → Except Int β} {l l' : List UInt8} {x : α} (h : one l = .ok (x, l')) : rdBind one next l = next x l' := by unfold rdBind; rw [h]
theorem cd_bind_err {α β : Type} {one : Rd α} {next : α → List UInt8 → Except Int β} {l : List UInt8} {e : Int} (h : one l = .error e) : rdBind one next l = .error e := by unfold rdBind; rw [h]
theorem cd_step {α β : Type} {one : Rd α} {enc : α → List UInt8} {ok : α → Prop} (hc : Codec one enc ok) {next : α → List UInt8 → Except Int β} :
    (∀ l y, rdBind one next l = Except.ok y → ∃ x l', one l = .ok (x, l') ∧ ok x ∧ l = enc x ++ l' ∧ next x l' = .ok y) := by
  intro l y h
  cases h1 : one l with
  | error e => rw [cd_bind_err h1] at h; cases h
  | ok p =>
    obtain ⟨x, l'⟩ := p
    rw [cd_bind_ok h1] at h
    exact ⟨x, l', rfl, (hc.only _ _ _ h1).1, (hc.only _ _ _ h1).2, h⟩
theorem cd_rdN {α : Type} {one : Rd α} {enc : α → List UInt8} {ok : α → Prop} (hc : Codec one enc ok) (n : Nat) : Codec (rdN one n) (fun xs => xs.flatMap enc) (fun xs => xs.length = n ∧ ∀ x ∈ xs, ok x) := by
  induction n with
  | zero =>
    refine ⟨fun xs r h => ?_, fun l xs r h => ?_, fun l xs r p q h hl => ?_⟩
    · rw [List.eq_nil_of_length_eq_zero h.1]; rfl
    · rw [cd_rdN_zero] at h
      injection h with h
      obtain ⟨e1, e2⟩ := Prod.mk.inj h
      subst e1; subst e2
      exact ⟨⟨rfl, by simp⟩, rfl⟩
    · rw [cd_rdN_zero] at h ⊢
      injection h with h
      obtain ⟨e1, e2⟩ := Prod.mk.inj h
      exact .inr ⟨p, by rw [← e2, hl], by rw [e1]⟩
  | succ n ih =>
    refine ⟨fun xs r h => ?_, fun l xs r h => ?_, fun l xs r p q h hl => ?_⟩
    · cases xs with
      | nil => exact absurd h.1 (by simp)
      | cons x xs =>
        obtain ⟨h1, h2⟩ := h
        show rdN one (n + 1) ((x :: xs).flatMap enc ++ r) = _
        rw [cd_rdN_bind, List.flatMap_cons, List.append_assoc, cd_bind_ok (hc.back x _ (h2 x (by simp))), cd_bind_ok (ih.back xs r ⟨by simpa using h1, fun y hy => h2 y (by simp [hy])⟩)]
    · rw [cd_rdN_bind] at h
      obtain ⟨x, l1, _, o1, q_x, h⟩ := cd_step hc _ _ h
      obtain ⟨ys, l2, _, o2, q_ys, h⟩ := cd_step ih _ _ h
      injection h with h
      obtain ⟨e1, e2⟩ := Prod.mk.inj h
      subst e1; subst e2
      refine ⟨⟨by simp [o2.1], ?_⟩, by rw [q_x, q_ys, List.flatMap_cons, List.append_assoc]⟩
      intro y hy
      rcases List.mem_cons.1 hy with rfl | hy
      · exact o1
      · exact o2.2 y hy
    · rw [cd_rdN_bind] at h ⊢
      obtain ⟨x, l1, g1, _, _, h⟩ := cd_step hc _ _ h
      rcases hc.pre _ _ _ _ _ g1 hl with h3 | ⟨p', h3, h4⟩
      · exact .inl (cd_bind_err h3)
      rw [cd_bind_ok h4]
      obtain ⟨ys, l2, g2, _, _, h⟩ := cd_step ih _ _ h
      rcases ih.pre _ _ _ _ _ g2 h3 with h5 | ⟨p2, h5, h6⟩
      · exact .inl (cd_bind_err h5)
      rw [cd_bind_ok h6]
      injection h with h
      obtain ⟨e1, e2⟩ := Prod.mk.inj h
      exact .inr ⟨p2, by rw [← e2, h5], by rw [← e1]⟩
theorem cd_rdL {α : Type} {one : Rd α} {enc : α → List UInt8} {ok : α → Prop} (hc : Codec one enc ok) (most : Nat) (hm : (most : Int) ≤ 1000000) : Codec (rdL most one) (fun xs => m_int xs.length ++ xs.flatMap enc) (fun xs => xs.length ≤ most ∧ ∀ x ∈ xs, ok x) where
  back xs r h := by
    rw [cd_rdL_bind, List.append_assoc, cd_bind_ok (cd_int.back _ _ ((cd_fits _).2 (by omega))), if_neg (by omega), Int.toNat_natCast, (cd_rdN hc xs.length).back xs r ⟨rfl, h.2⟩]
  only l xs r h := by
    rw [cd_rdL_bind] at h
    obtain ⟨n, l1, _, _, q_n, h⟩ := cd_step cd_int _ _ h
    by_cases h2 : n < 0 ∨ (most : Int) < n
    · rw [if_pos h2] at h; cases h
    · rw [if_neg h2] at h
      obtain ⟨⟨b1, b2⟩, b3⟩ := (cd_rdN hc _).only _ _ _ h
      refine ⟨⟨by omega, b2⟩, ?_⟩
      show _ = (m_int xs.length ++ _) ++ r
      rw [q_n, b3, b1, show ((n.toNat : Nat) : Int) = n by omega, List.append_assoc]
  pre l xs r p q h hl := by
    rw [cd_rdL_bind] at h ⊢
    obtain ⟨n, l1, g1, _, _, h⟩ := cd_step cd_int _ _ h
    rcases cd_int.pre _ _ _ _ _ g1 hl with h3 | ⟨p', h3, h4⟩
    · exact .inl (cd_bind_err h3)
    rw [cd_bind_ok h4]
    by_cases h2 : n < 0 ∨ (most : Int) < n
    · rw [if_pos h2] at h; cases h
    · rw [if_neg h2] at h ⊢
      exact (cd_rdN hc _).pre _ _ _ _ _ h h3
def m_okB (b : Bl) : Prop := m_fits b.f0 = true ∧ m_fits b.f1 = true ∧ b.f2.data.toList.length ≤ 65536 ∧ m_fits b.f3 = true ∧ m_fits b.f4 = true ∧ m_fits b.f5.f0 = true ∧ (b.f5.f1.length ≤ 64 ∧ ∀ x ∈ b.f5.f1, m_fits x = true) ∧ m_fits b.f5.f2 = true ∧ m_fits b.f5.f3 = true
theorem cd_ints : Codec (rdL 64 rdI) (fun xs => m_int xs.length ++ xs.flatMap m_int) (fun xs => xs.length ≤ 64 ∧ ∀ x ∈ xs, m_fits x = true) := cd_rdL cd_int 64 (by omega)
theorem cd_block : Codec rdB m_encB m_okB where
  back b r h := by
    obtain ⟨h0, h1, h2, h3, h4, h5, h6, h7, h8⟩ := h
    rw [cd_rdB_eq]
    unfold m_encB
    simp only [List.append_assoc]
    rw [cd_bind_ok (cd_int.back _ _ h0)]
    rw [cd_bind_ok (cd_int.back _ _ h1)]
    rw [cd_bind_ok (cd_str.back _ _ h2)]
    rw [cd_bind_ok (cd_int.back _ _ h3)]
    rw [cd_bind_ok (cd_int.back _ _ h4)]
    rw [cd_bind_ok (cd_int.back _ _ h5)]
    rw [← List.append_assoc (m_int (b.f5.f1.length : Int)), cd_bind_ok (cd_ints.back _ _ h6)]
    rw [cd_bind_ok (cd_int.back _ _ h7)]
    rw [cd_bind_ok (cd_int.back _ _ h8)]
  only l b r h := by
    rw [cd_rdB_eq] at h
    obtain ⟨x0, l0, _, o0, q_x0, h⟩ := cd_step cd_int _ _ h
    obtain ⟨x1, l1, _, o1, q_x1, h⟩ := cd_step cd_int _ _ h
    obtain ⟨x2, l2, _, o2, q_x2, h⟩ := cd_step cd_str _ _ h
    obtain ⟨x3, l3, _, o3, q_x3, h⟩ := cd_step cd_int _ _ h
    obtain ⟨x4, l4, _, o4, q_x4, h⟩ := cd_step cd_int _ _ h
    obtain ⟨x5, l5, _, o5, q_x5, h⟩ := cd_step cd_int _ _ h
    obtain ⟨x6, l6, _, o6, q_x6, h⟩ := cd_step cd_ints _ _ h
    obtain ⟨x7, l7, _, o7, q_x7, h⟩ := cd_step cd_int _ _ h
    obtain ⟨x8, l8, _, o8, q_x8, h⟩ := cd_step cd_int _ _ h
    injection h with h
    obtain ⟨e1, e2⟩ := Prod.mk.inj h
    subst e1; subst e2
    refine ⟨⟨o0, o1, o2, o3, o4, o5, o6, o7, o8⟩, ?_⟩
    rw [q_x0, q_x1, q_x2, q_x3, q_x4, q_x5, q_x6, q_x7, q_x8]
    simp only [m_encB, List.append_assoc]
  pre l b r p q h hl := by
    rw [cd_rdB_eq] at h ⊢
    obtain ⟨x0, l0, g0, _, _, h⟩ := cd_step cd_int _ _ h
    rcases cd_int.pre _ _ _ _ _ g0 hl with e0 | ⟨p0, hl, e0⟩
    · exact .inl (cd_bind_err e0)
    rw [cd_bind_ok e0]
    obtain ⟨x1, l1, g1, _, _, h⟩ := cd_step cd_int _ _ h
    rcases cd_int.pre _ _ _ _ _ g1 hl with e0 | ⟨p1, hl, e0⟩
    · exact .inl (cd_bind_err e0)
    rw [cd_bind_ok e0]
    obtain ⟨x2, l2, g2, _, _, h⟩ := cd_step cd_str _ _ h
    rcases cd_str.pre _ _ _ _ _ g2 hl with e0 | ⟨p2, hl, e0⟩
    · exact .inl (cd_bind_err e0)
    rw [cd_bind_ok e0]
    obtain ⟨x3, l3, g3, _, _, h⟩ := cd_step cd_int _ _ h
    rcases cd_int.pre _ _ _ _ _ g3 hl with e0 | ⟨p3, hl, e0⟩
    · exact .inl (cd_bind_err e0)
    rw [cd_bind_ok e0]
    obtain ⟨x4, l4, g4, _, _, h⟩ := cd_step cd_int _ _ h
    rcases cd_int.pre _ _ _ _ _ g4 hl with e0 | ⟨p4, hl, e0⟩
    · exact .inl (cd_bind_err e0)
    rw [cd_bind_ok e0]
    obtain ⟨x5, l5, g5, _, _, h⟩ := cd_step cd_int _ _ h
    rcases cd_int.pre _ _ _ _ _ g5 hl with e0 | ⟨p5, hl, e0⟩
    · exact .inl (cd_bind_err e0)
    rw [cd_bind_ok e0]
    obtain ⟨x6, l6, g6, _, _, h⟩ := cd_step cd_ints _ _ h
    rcases cd_ints.pre _ _ _ _ _ g6 hl with e0 | ⟨p6, hl, e0⟩
    · exact .inl (cd_bind_err e0)
    rw [cd_bind_ok e0]
    obtain ⟨x7, l7, g7, _, _, h⟩ := cd_step cd_int _ _ h
    rcases cd_int.pre _ _ _ _ _ g7 hl with e0 | ⟨p7, hl, e0⟩
    · exact .inl (cd_bind_err e0)
    rw [cd_bind_ok e0]
    obtain ⟨x8, l8, g8, _, _, h⟩ := cd_step cd_int _ _ h
    rcases cd_int.pre _ _ _ _ _ g8 hl with e0 | ⟨p8, hl, e0⟩
    · exact .inl (cd_bind_err e0)
    rw [cd_bind_ok e0]
    injection h with h
    obtain ⟨e1, e2⟩ := Prod.mk.inj h
    subst e1; subst e2
    exact .inr ⟨p8, hl, rfl⟩
theorem cd_list : Codec (rdL 24 rdB) m_enc (fun l => l.length ≤ 24 ∧ ∀ b ∈ l, m_okB b) := cd_rdL cd_block 24 (by omega)
theorem cd_asc_lb : ∀ (l : List Int) (lo : Int), (∀ x ∈ l, lo ≤ x) → m_asc l = true → (∀ x ∈ l, x ≤ 64) → (l.length : Int) ≤ 65 - lo ∨ l = []
  | [], _, _, _, _ => .inr rfl
  | [x], lo, h1, _, h3 => by
    have := h1 x (by simp); have := h3 x (by simp)
    left; simp; omega
  | x :: y :: l, lo, h1, h2, h3 => by
    simp only [m_asc, Bool.and_eq_true, decide_eq_true_eq] at h2
    have hx := h1 x (by simp)
    have hall : ∀ z ∈ y :: l, x + 1 ≤ z := by
      have key : ∀ (m : List Int) (y : Int), m_asc (y :: m) = true → ∀ z ∈ y :: m, y ≤ z := by
        intro m
        induction m with
        | nil => intro y _ z hz; simp at hz; omega
        | cons a m ih =>
          intro y hm z hz
          simp only [m_asc, Bool.and_eq_true, decide_eq_true_eq] at hm
          rcases List.mem_cons.1 hz with rfl | hz
          · omega
          · have := ih a hm.2 z hz; omega
      intro z hz
      have := key l y h2.2 z hz
      omega
    rcases cd_asc_lb (y :: l) (x + 1) hall h2.2 (fun z hz => h3 z (by simp [hz])) with h | h
    · left; simp only [List.length_cons] at h ⊢; omega
    · cases h
theorem cd_label_ok (u : Int) (l : List Int) (a d : Int) (h : m_label u l a d = true) : m_fits u = true ∧ (l.length ≤ 64 ∧ ∀ x ∈ l, m_fits x = true) ∧ m_fits a = true ∧ m_fits d = true := by
  simp only [m_label, Bool.and_eq_true, decide_eq_true_eq, List.all_eq_true] at h
  obtain ⟨⟨⟨⟨⟨⟨⟨h1, h2⟩, h3⟩, h4⟩, h5⟩, h6⟩, h7⟩, h8⟩ := h
  simp only [cd_fits]
  refine ⟨by omega, ⟨?_, fun x hx => by have := h3 x hx; omega⟩, by omega, by omega⟩
  rcases cd_asc_lb l 1 (fun x hx => (h3 x hx).1) h4 (fun x hx => (h3 x hx).2) with h | h
  · omega
  · subst h; simp
theorem cd_valid_ok (b : Bl) (h : m_validB b = true) : m_okB b := by
  unfold m_validB m_valid at h
  simp only [Bool.and_eq_true, decide_eq_true_eq] at h
  obtain ⟨⟨⟨⟨h1, h2⟩, h3⟩, h4⟩, h5⟩ := h
  obtain ⟨l1, l2, l3, l4⟩ := cd_label_ok _ _ _ _ h3
  have ht : b.f2.data.toList.length ≤ 300 := by
    simp only [m_text, Bool.and_eq_true, decide_eq_true_eq] at h4
    simpa using h4.1
  unfold m_okB
  refine ⟨(cd_fits _).2 (by omega), ?_, by omega, ?_, ?_, l1, l2, l3, l4⟩
  · rw [cd_fits]
    by_cases k1 : b.f1 = 1 ∨ b.f1 = 2 ∨ b.f1 = 4
    · omega
    · rw [if_neg k1] at h5
      by_cases k2 : b.f1 = 5
      · omega
      · rw [if_neg k2] at h5
        by_cases k3 : b.f1 = 3
        · omega
        · rw [if_neg k3] at h5; cases h5
  · rw [cd_fits]
    split at h5
    · simp only [Bool.and_eq_true, decide_eq_true_eq] at h5; omega
    · split at h5
      · simp only [Bool.and_eq_true, decide_eq_true_eq] at h5; omega
      · split at h5
        · simp only [Bool.and_eq_true, decide_eq_true_eq] at h5; omega
        · cases h5
  · rw [cd_fits]
    split at h5
    · simp only [Bool.and_eq_true, decide_eq_true_eq] at h5; omega
    · split at h5
      · simp only [Bool.and_eq_true, decide_eq_true_eq] at h5; omega
      · split at h5
        · simp only [Bool.and_eq_true, decide_eq_true_eq] at h5; omega
        · cases h5
theorem cd_fresh_ok : ∀ (l : List Bl) (ids : List Int), m_fresh ids l = true → ∀ b ∈ l, m_validB b = true
  | [], _, _ => by simp
  | x :: l, ids, h => by
    simp only [m_fresh, Bool.and_eq_true] at h
    intro b hb
    rcases List.mem_cons.1 hb with rfl | hb
    · exact h.1.2
    · exact cd_fresh_ok l _ h.2 b hb
theorem cd_validL_ok (l : List Bl) (h : m_validL l = true) : l.length ≤ 24 ∧ ∀ b ∈ l, m_okB b := by
  simp only [m_validL, Bool.and_eq_true, decide_eq_true_eq] at h
  exact ⟨h.1, fun b hb => cd_valid_ok b (cd_fresh_ok l [] h.2 b hb)⟩
theorem cd_ba (a : ByteArray) : (⟨a.data.toList.toArray⟩ : ByteArray) = a := by cases a; simp
theorem cd_ba_inj (a b : ByteArray) (h : a.data.toList = b.data.toList) : a = b := by rw [← cd_ba a, h, cd_ba]
theorem cd_encode_ok (l : List Bl) (h : m_validL l = true) : m_encode l = (⟨(m_enc l).toArray⟩, 0) := by unfold m_encode; rw [if_pos h]
theorem cd_encode_err (l : List Bl) (h : m_validL l = false) : m_encode l = (⟨#[]⟩, 30) := by unfold m_encode; rw [if_neg (by simp [h])]
theorem cd_decode_enc (l : List Bl) (h : m_validL l = true) (s : ByteArray) (hs : s.data.toList = m_enc l) : m_decode s = (l, 0) := by
  unfold m_decode
  have := cd_list.back l [] (cd_validL_ok l h)
  rw [List.append_nil] at this
  rw [hs, this]
  dsimp only
  rw [if_neg (by simp), if_pos h]
def Errs {α : Type} (one : Rd α) : Prop := ∀ l e, one l = .error e → e = 10 ∨ e = 30
theorem cd_errs_step {α β : Type} {one : Rd α} (h1 : Errs one) {next : α → List UInt8 → Except Int β} (h2 : ∀ x l e, next x l = .error e → e = 10 ∨ e = 30) :
    ∀ l e, rdBind one next l = Except.error e → e = 10 ∨ e = 30 := by
  intro l e h
  cases h3 : one l with
  | error e' =>
    rw [cd_bind_err h3] at h
    injection h with h
    subst h
    exact h1 _ _ h3
  | ok p =>
    obtain ⟨x, l'⟩ := p
    rw [cd_bind_ok h3] at h
    exact h2 _ _ _ h
theorem cd_errsI : Errs rdI := fun l e h => .inl (cd_rdI_err l e h)
theorem cd_errsS : Errs rdS := fun l e h => by
  unfold rdS at h
  cases h1 : m_rdStr l with
  | none => rw [h1] at h; injection h with h; exact .inl h.symm
  | some p => rw [h1] at h; cases h
theorem cd_errsN {α : Type} {one : Rd α} (h : Errs one) : ∀ n, Errs (rdN one n)
  | 0 => fun l e h => by rw [cd_rdN_zero] at h; cases h
  | n + 1 => fun l e h' => by
    rw [cd_rdN_bind] at h'
    refine cd_errs_step h (fun x l e h2 => ?_) l e h'
    refine cd_errs_step (cd_errsN h n) (next := fun xs l2 => .ok (x :: xs, l2)) (fun x l e h3 => ?_) l e h2
    cases h3
theorem cd_errsL {α : Type} {one : Rd α} (h : Errs one) (most : Int) : Errs (rdL most one) := fun l e h' => by
  rw [cd_rdL_bind] at h'
  refine cd_errs_step cd_errsI (fun n l e h2 => ?_) l e h'
  by_cases h3 : n < 0 ∨ most < n
  · rw [if_pos h3] at h2; injection h2 with h2; exact .inr h2.symm
  · rw [if_neg h3] at h2; exact cd_errsN h _ _ _ h2
theorem cd_errsB : Errs rdB := by
  intro l e h
  rw [cd_rdB_eq] at h
  refine cd_errs_step cd_errsI (fun x0 l e h => ?_) l e h
  refine cd_errs_step cd_errsI (fun x1 l e h => ?_) l e h
  refine cd_errs_step cd_errsS (fun x2 l e h => ?_) l e h
  refine cd_errs_step cd_errsI (fun x3 l e h => ?_) l e h
  refine cd_errs_step cd_errsI (fun x4 l e h => ?_) l e h
  refine cd_errs_step cd_errsI (fun x5 l e h => ?_) l e h
  refine cd_errs_step (cd_errsL cd_errsI 64) (fun x6 l e h => ?_) l e h
  refine cd_errs_step cd_errsI (fun x7 l e h => ?_) l e h
  refine cd_errs_step cd_errsI (fun x8 l e h => ?_) l e h
  cases h
theorem cd_errs_list : Errs (rdL 24 rdB) := cd_errsL cd_errsB 24
theorem cd_decoded (s : ByteArray) (l : List Bl) (e : Int) (h : m_decode s = (l, e)) : (e = 0 ∧ m_validL l = true ∧ m_encode l = (s, 0)) ∨ (l = [] ∧ (e = 10 ∨ e = 30)) := by
  unfold m_decode at h
  cases h1 : rdL 24 rdB s.data.toList with
  | error e' =>
    rw [h1] at h
    dsimp only at h
    obtain ⟨e1, e2⟩ := Prod.mk.inj h
    subst e2
    exact .inr ⟨e1.symm, cd_errs_list _ _ h1⟩
  | ok p =>
    obtain ⟨l', r⟩ := p
    rw [h1] at h
    dsimp only at h
    by_cases hr : r ≠ []
    · rw [if_pos hr] at h
      obtain ⟨e1, e2⟩ := Prod.mk.inj h
      exact .inr ⟨e1.symm, .inl e2.symm⟩
    · rw [if_neg hr] at h
      have hr' : r = [] := by simpa using hr
      subst hr'
      by_cases hv : m_validL l' = true
      · rw [if_pos hv] at h
        obtain ⟨e1, e2⟩ := Prod.mk.inj h
        subst e1
        refine .inl ⟨e2.symm, hv, ?_⟩
        rw [cd_encode_ok _ hv]
        have := (cd_list.only _ _ _ h1).2
        rw [List.append_nil] at this
        rw [← this, cd_ba]
      · rw [if_neg hv] at h
        obtain ⟨e1, e2⟩ := Prod.mk.inj h
        exact .inr ⟨e1.symm, .inr e2.symm⟩
theorem cd_decode_pre (l : List Bl) (h : m_validL l = true) (s : ByteArray) (q : List UInt8) (hs : m_enc l = s.data.toList ++ q) (hq : q ≠ []) : m_decode s = ([], 10) := by
  have h1 := cd_list.back l [] (cd_validL_ok l h)
  rw [List.append_nil] at h1
  unfold m_decode
  rcases cd_list.pre _ _ _ _ _ h1 hs with h2 | ⟨p', h2, _⟩
  · rw [h2]
  · have := congrArg List.length h2
    simp only [List.length_nil, List.length_append] at this
    exact absurd (List.eq_nil_of_length_eq_zero (by omega)) hq
theorem cd_decode_more (l : List Bl) (h : m_validL l = true) (s : ByteArray) (q : List UInt8) (hs : s.data.toList = m_enc l ++ q) (hq : q ≠ []) : m_decode s = ([], 10) := by
  have h1 := cd_list.back l q (cd_validL_ok l h)
  unfold m_decode
  rw [hs, h1]
  dsimp only
  rw [if_pos hq]
end Go.Proofs.YtpgjhjlhipikgaaDoor.PK
end
section
set_option linter.unusedVariables false
set_option linter.unusedSimpArgs false
namespace Go.Proofs.YtpgjhjlhipikgaaDoor.PK
open Go.RowKit Go.Proofs.YtpgjhjlhipikgaaDoorW.PrintWords Go.Proofs.YtpgjhjlhipikgaaDoorW.PrintLast Go.Proofs.YtpgjhjlhipikgaaDoorW.PrintMore
abbrev bk_rest (s : ByteArray) (i : Nat) : List UInt8 := s.data.toList.drop i
def bk_Reads {α : Type} (fn : Nat) (enc : α → Value) (one : Rd α) : Prop := ∀ (s : ByteArray) (i : Nat), i ≤ s.size → s.size ≤ 1000000000 →
  (∃ (x : α) (j : Nat), j ≤ s.size ∧ one (bk_rest s i) = .ok (x, bk_rest s j) ∧ ∀ W, Calls Tryd.prog fn #[.string s, .int .i64 (i : Int)] W fun e w' => e = .returned (.tuple #[enc x, .int .i64 (j : Int), .int .i64 0]) ∧ ∃ m, w' = W.drewN m) ∨
  (one (bk_rest s i) = .error 10 ∧ ∃ (x : α) (j er : Int), er ≠ 0 ∧ ∀ W, Calls Tryd.prog fn #[.string s, .int .i64 (i : Int)] W fun e w' => e = .returned (.tuple #[enc x, .int .i64 j, .int .i64 er]) ∧ ∃ m, w' = W.drewN m)
def bk_Post {α : Type} (one : Rd α) (s : ByteArray) (i : Nat) (e : Int) (x : α) (j : Nat) (e' : Int) : Prop :=
  j ≤ s.size ∧ (e ≠ 0 → e' = e) ∧ (e = 0 → match one (bk_rest s i) with | .error er => e' = er ∧ er ≠ 0 | .ok (y, l) => x = y ∧ e' = 0 ∧ l = bk_rest s j)
theorem bk_Post.pure {α : Type} (y : α) (s : ByteArray) (i : Nat) (e : Int) (hi : i ≤ s.size) : bk_Post (fun l => .ok (y, l)) s i e y i e := ⟨hi, fun _ => rfl, fun h => ⟨rfl, h, rfl⟩⟩
theorem bk_Post.bind {α β : Type} {one : Rd α} {next : α → Rd β} {s : ByteArray} {i j k : Nat} {e e1 e2 : Int} {x : α} {y : β} (h1 : bk_Post one s i e x j e1) (h2 : bk_Post (next x) s j e1 y k e2) :
    bk_Post (rdBind one next) s i e y k e2 := by
  obtain ⟨a1, a2, a3⟩ := h1
  obtain ⟨b1, b2, b3⟩ := h2
  refine ⟨b1, fun h => ?_, fun h => ?_⟩
  · have he1 := a2 h
    exact (b2 (by rw [he1]; exact h)).trans he1
  · have h3 := a3 h
    cases h4 : one (bk_rest s i) with
    | error er =>
      rw [h4] at h3
      obtain ⟨c1, c2⟩ := h3
      rw [cd_bind_err h4]
      exact ⟨(b2 (by rw [c1]; exact c2)).trans c1, c2⟩
    | ok p =>
      obtain ⟨y', l⟩ := p
      rw [h4] at h3
      obtain ⟨rfl, c1, c2⟩ := h3
      rw [cd_bind_ok h4, c2]
      exact b3 c1
theorem bk_Post.le {α : Type} {one : Rd α} {s : ByteArray} {i j : Nat} {e e1 : Int} {x : α} (h : bk_Post one s i e x j e1) : j ≤ s.size := h.1
def bk_rdr (s : ByteArray) (i : Nat) (e : Int) : Obj := .cells #[.string s, .int .i64 (i : Int), .int .i64 e] 75 (0, 0)
theorem bk_grown_drewN (w : World) (n : Nat) (row : Option Nat) : w.grownBy (w.drewN n) row := ⟨rfl, rfl, rfl, Nat.le_refl _, fun _ _ _ => rfl⟩
theorem bk_grown_set {w w1 : World} {r : Nat} (h : w.grownBy w1 (some r)) (j : Nat) (v : Value) : w.grownBy (w1.setCell ⟨r, j, none⟩ v) (some r) :=
  ⟨h.os, h.tape, h.output, by simpa [World.setCell] using h.size, fun i hi hne => (Below.heap_setCell w1 ⟨r, j, none⟩ v i (fun he => hne (by rw [he]))).trans (h.block i hi hne)⟩
theorem bk_grown_trans {w w1 w2 : World} {row : Option Nat} (h : w.grownBy w1 row) (h2 : w1.grownBy w2 row) : w.grownBy w2 row :=
  ⟨h2.os.trans h.os, h2.tape.trans h.tape, h2.output.trans h.output, Nat.le_trans h.size h2.size, fun i hi hne => (h2.block i (Nat.lt_of_lt_of_le hi h.size) hne).trans (h.block i hi hne)⟩
set_option maxHeartbeats 2000000 in
set_option maxRecDepth 100000 in
theorem bk_next_int (hI : bk_Reads 79 (Value.int .i64) rdI) (s : ByteArray) (i : Nat) (e : Int) (r : Nat) (w : World) (hi : i ≤ s.size) (hs : s.size ≤ 1000000000) (hr : w.heap[r]? = some (bk_rdr s i e)) :
    Calls Tryd.prog 78 #[.pointer (some ⟨r, 0, none⟩), .func (.func 79) #[] #[]] w fun en w' => ∃ (x : Int) (j : Nat) (e' : Int), en = .returned (.int .i64 x) ∧
      w'.heap[r]? = some (bk_rdr s j e') ∧ bk_Post rdI s i e x j e' ∧ w.grownBy w' (some r) := by
  unfold bk_rdr at hr
  have c0 : w.cell? ⟨r, 0, none⟩ = some (.string s) := bk_cell hr 0
  have c1 : w.cell? ⟨r, 1, none⟩ = some (.int .i64 (i : Int)) := bk_cell hr 1
  have c2 : w.cell? ⟨r, 2, none⟩ = some (.int .i64 e) := bk_cell hr 2
  have f1 := bk_frozen hr 1
  have f2 := bk_frozen hr 2
  have HR := Aside0.mk hr
  by_cases he : e = 0
  · subst he
    rcases hI s i hi hs with ⟨x, j, hj, hone, hc⟩ | ⟨hone, x, j, er, her, hc⟩
    · clear hI hr
      go_enter Tryd.func78, Tryd.ntmps78
      go_wp2
      go_quiet (first | (go_at_call 79; refine Calls.quiet_of (hc _)))
      go_wp2
      go_ret
      refine ⟨x, j, 0, rfl, ?_, ⟨hj, fun h => absurd rfl h, fun _ => by rw [hone]; exact ⟨rfl, rfl, rfl⟩⟩, ?_⟩
      · exact (by simpa [bk_rdr] using blk_set (w := w.drewN nq) HR.out 1 (.int .i64 (j : Int)))
      · exact bk_grown_set (bk_grown_drewN _ _ _) _ _
    · clear hI hr
      have hne : (er == 0) = false := by simpa using her
      go_enter Tryd.func78, Tryd.ntmps78
      go_wp2
      go_quiet (first | (go_at_call 79; refine Calls.quiet_of (hc _)))
      go_wp2
      go_ret
      refine ⟨0, i, 10, rfl, ?_, ⟨hi, fun h => absurd rfl h, fun _ => by rw [hone]; exact ⟨rfl, by decide⟩⟩, ?_⟩
      · exact (by simpa [bk_rdr] using blk_set (w := w.drewN nq) HR.out 2 (.int .i64 10))
      · exact bk_grown_set (bk_grown_drewN _ _ _) _ _
  · have hne : (e == 0) = false := by simpa using he
    go_enter Tryd.func78, Tryd.ntmps78
    go_wp2
    go_ret
    exact ⟨0, i, e, rfl, HR.out, ⟨hi, fun _ => rfl, fun h => absurd h he⟩, bk_grown_drewN _ 0 _⟩
def rdB_ : Rd ByteArray := fun l => match rdS l with | .error e => .error e | .ok (x, r) => .ok (⟨x.toArray⟩, r)
set_option maxHeartbeats 2000000 in
set_option maxRecDepth 100000 in
theorem bk_next_str (hI : bk_Reads 82 Value.string rdB_) (s : ByteArray) (i : Nat) (e : Int) (r : Nat) (w : World) (hi : i ≤ s.size) (hs : s.size ≤ 1000000000) (hr : w.heap[r]? = some (bk_rdr s i e)) :
    Calls Tryd.prog 81 #[.pointer (some ⟨r, 0, none⟩), .func (.func 82) #[] #[]] w fun en w' => ∃ (x : ByteArray) (j : Nat) (e' : Int), en = .returned (.string x) ∧
      w'.heap[r]? = some (bk_rdr s j e') ∧ bk_Post rdB_ s i e x j e' ∧ w.grownBy w' (some r) := by
  unfold bk_rdr at hr
  have c0 : w.cell? ⟨r, 0, none⟩ = some (.string s) := bk_cell hr 0
  have c1 : w.cell? ⟨r, 1, none⟩ = some (.int .i64 (i : Int)) := bk_cell hr 1
  have c2 : w.cell? ⟨r, 2, none⟩ = some (.int .i64 e) := bk_cell hr 2
  have f1 := bk_frozen hr 1
  have f2 := bk_frozen hr 2
  have HR := Aside0.mk hr
  by_cases he : e = 0
  · subst he
    rcases hI s i hi hs with ⟨x, j, hj, hone, hc⟩ | ⟨hone, x, j, er, her, hc⟩
    · clear hI hr
      go_enter Tryd.func81, Tryd.ntmps81
      go_wp2
      go_quiet (first | (go_at_call 82; refine Calls.quiet_of (hc _)))
      go_wp2
      go_ret
      refine ⟨x, j, 0, rfl, ?_, ⟨hj, fun h => absurd rfl h, fun _ => by rw [hone]; exact ⟨rfl, rfl, rfl⟩⟩, ?_⟩
      · exact (by simpa [bk_rdr] using blk_set (w := w.drewN nq) HR.out 1 (.int .i64 (j : Int)))
      · exact bk_grown_set (bk_grown_drewN _ _ _) _ _
    · clear hI hr
      have hne : (er == 0) = false := by simpa using her
      go_enter Tryd.func81, Tryd.ntmps81
      go_wp2
      go_quiet (first | (go_at_call 82; refine Calls.quiet_of (hc _)))
      go_wp2
      go_ret
      refine ⟨⟨#[]⟩, i, 10, rfl, ?_, ⟨hi, fun h => absurd rfl h, fun _ => by rw [hone]; exact ⟨rfl, by decide⟩⟩, ?_⟩
      · exact (by simpa [bk_rdr] using blk_set (w := w.drewN nq) HR.out 2 (.int .i64 10))
      · exact bk_grown_set (bk_grown_drewN _ _ _) _ _
  · have hne : (e == 0) = false := by simpa using he
    go_enter Tryd.func81, Tryd.ntmps81
    go_wp2
    go_ret
    exact ⟨⟨#[]⟩, i, e, rfl, HR.out, ⟨hi, fun _ => rfl, fun h => absurd h he⟩, bk_grown_drewN _ 0 _⟩
structure bk_Fr (r g : Nat) (w w' : World) : Prop where mk ::
  os : w'.os = w.os
  tape : w'.tape = w.tape
  output : w'.output = w.output
  size : w.heap.size ≤ w'.heap.size
  block : ∀ i, i < w.heap.size → i ≠ r → i ≠ g → w'.heap[i]? = w.heap[i]?
theorem bk_Fr.refl (r g : Nat) (w : World) : bk_Fr r g w w := ⟨rfl, rfl, rfl, Nat.le_refl _, fun _ _ _ _ => rfl⟩
theorem bk_Fr.trans {r g : Nat} {w w1 w2 : World} (h : bk_Fr r g w w1) (h2 : bk_Fr r g w1 w2) : bk_Fr r g w w2 :=
  ⟨h2.os.trans h.os, h2.tape.trans h.tape, h2.output.trans h.output, Nat.le_trans h.size h2.size, fun i hi hr hg => (h2.block i (Nat.lt_of_lt_of_le hi h.size) hr hg).trans (h.block i hi hr hg)⟩
theorem bk_Fr.of_grown {r : Nat} {w w' : World} (h : w.grownBy w' (some r)) (g : Nat) : bk_Fr r g w w' := ⟨h.os, h.tape, h.output, h.size, fun i hi hr _ => h.block i hi (fun e => hr (Option.some.inj e))⟩
theorem bk_Fr.of_below {w w' : World} (h : Below w.heap.size w w') (r g : Nat) : bk_Fr r g w w' := ⟨h.os, h.tape, h.output, h.size, fun i hi _ _ => h.block i hi⟩
theorem bk_Fr.set {r g : Nat} {w w1 : World} (h : bk_Fr r g w w1) (j : Nat) (v : Value) : bk_Fr r g w (w1.setCell ⟨g, j, none⟩ v) :=
  ⟨h.os, h.tape, h.output, by simpa [World.setCell] using h.size, fun i hi hr hg => (Below.heap_setCell w1 ⟨g, j, none⟩ v i hg).trans (h.block i hi hr hg)⟩
theorem bk_Fr.at {r g : Nat} {w w' : World} (h : bk_Fr r g w w') {k : Nat} {o : Obj} (hk : w.heap[k]? = some o) (hr : k ≠ r) (hg : k ≠ g) : w'.heap[k]? = some o := (h.block k (Array.getElem?_eq_some_iff.1 hk).1 hr hg).trans hk
inductive bk_Chain (s : ByteArray) (i : Nat) (e : Int) : List Int → Nat → Int → Prop where
  | none (h : i ≤ s.size) : bk_Chain s i e [] i e
  | snoc {xs : List Int} {x : Int} {j k : Nat} {e1 e2 : Int} (h : bk_Chain s i e xs j e1) (hp : bk_Post rdI s j e1 x k e2) : bk_Chain s i e (xs ++ [x]) k e2
theorem bk_Chain.le {s : ByteArray} {i j : Nat} {e e1 : Int} {xs : List Int} (h : bk_Chain s i e xs j e1) : j ≤ s.size := by
  cases h with
  | none h => exact h
  | snoc h hp => exact hp.1
theorem bk_Chain.zero {s : ByteArray} {i j : Nat} {e e1 : Int} {xs : List Int} (h : bk_Chain s i e xs j e1) (hl : xs.length = 0) : xs = [] ∧ j = i ∧ e1 = e := by
  cases h with
  | none h => exact ⟨rfl, rfl, rfl⟩
  | snoc h hp => simp at hl
theorem bk_Chain.succ {s : ByteArray} {i j : Nat} {e e2 : Int} {ys : List Int} {n : Nat} (h : bk_Chain s i e ys j e2) (hl : ys.length = n + 1) : ∃ xs x k e1, ys = xs ++ [x] ∧ xs.length = n ∧ bk_Chain s i e xs k e1 ∧ bk_Post rdI s k e1 x j e2 := by
  cases h with
  | none h => simp at hl
  | snoc h hp => exact ⟨_, _, _, _, rfl, by simpa using hl, h, hp⟩
theorem bk_Chain.two {s : ByteArray} {i j : Nat} {e e2 : Int} {ys : List Int} (h : bk_Chain s i e ys j e2) (hl : ys.length = 2) : ∃ a b k e1, ys = [a, b] ∧ bk_Post rdI s i e a k e1 ∧ bk_Post rdI s k e1 b j e2 := by
  obtain ⟨xs, b, k, e1, rfl, hl1, h1, p1⟩ := h.succ hl
  obtain ⟨zs, a, k0, e0, rfl, hl0, h0, p0⟩ := h1.succ hl1
  obtain ⟨rfl, rfl, rfl⟩ := h0.zero hl0
  exact ⟨a, b, k, e1, rfl, p0, p1⟩
theorem bk_Chain.three {s : ByteArray} {i j : Nat} {e e3 : Int} {ys : List Int} (h : bk_Chain s i e ys j e3) (hl : ys.length = 3) : ∃ a b c k e1 l e2, ys = [a, b, c] ∧ bk_Post rdI s i e a k e1 ∧ bk_Post rdI s k e1 b l e2 ∧ bk_Post rdI s l e2 c j e3 := by
  obtain ⟨xs, c, l, e2, rfl, hl1, h1, p2⟩ := h.succ hl
  obtain ⟨a, b, k, e1, rfl, p0, p1⟩ := h1.two hl1
  exact ⟨a, b, c, k, e1, l, e2, rfl, p0, p1, p2⟩
def bk_sets (cs : Array Value) : List Nat → List Int → Array Value
  | j :: js, x :: xs => bk_sets (cs.setIfInBounds j (.int .i64 x)) js xs
  | _, _ => cs
theorem bk_sets_snoc : ∀ (js : List Nat) (xs : List Int) (cs : Array Value) (j : Nat) (x : Int), js[xs.length]? = some j → bk_sets cs js (xs ++ [x]) = (bk_sets cs js xs).setIfInBounds j (.int .i64 x)
  | [], xs, cs, j, x, h => by simp at h
  | j' :: js, [], cs, j, x, h => by
    have : j' = j := by simpa using h
    subst this
    cases js <;> rfl
  | j' :: js, y :: xs, cs, j, x, h => by
    rw [List.cons_append, bk_sets, bk_sets, bk_sets_snoc js xs _ j x (by simpa using h)]
theorem bk_sets_size : ∀ (js : List Nat) (xs : List Int) (cs : Array Value), (bk_sets cs js xs).size = cs.size
  | [], _, _ => rfl
  | _ :: _, [], _ => rfl
  | j :: js, x :: xs, cs => by rw [bk_sets, bk_sets_size js xs]; simp
set_option maxHeartbeats 2000000 in
set_option maxRecDepth 100000 in
theorem bk_rints (hI : bk_Reads 79 (Value.int .i64) rdI) (s : ByteArray) (i : Nat) (e : Int) (r g q n : Nat) (js : List Nat) (cs : Array Value) (w : World) (hi : i ≤ s.size) (hs : s.size ≤ 1000000000) (hr : w.heap[r]? = some (bk_rdr s i e))
    (hg : w.heap[g]? = some (.cells cs 26 (0, 0))) (hq : w.heap[q]? = some (.cells (js.map (fun j => Value.pointer (some ⟨g, j, none⟩))).toArray 101 (0, 0))) (hjs : ∀ j ∈ js, j < cs.size) (hn : js.length = n) (hn2 : n ≤ 1000) :
    Calls Tryd.prog 80 #[.pointer (some ⟨r, 0, none⟩), .slice (some ⟨q, 0, none⟩) n n] w fun en w' => ∃ (xs : List Int) (j : Nat) (e' : Int), en = .returned (.tuple #[]) ∧ xs.length = js.length ∧
      w'.heap[r]? = some (bk_rdr s j e') ∧ w'.heap[g]? = some (.cells (bk_sets cs js xs) 26 (0, 0)) ∧ bk_Chain s i e xs j e' ∧ bk_Fr r g w w' := by
  subst hn
  have HQ := Aside0.mk hq
  have HJ := Aside0.mk hjs
  have hqr : q ≠ r := blk_ne hq (show w.heap[r]? = some (.cells _ 75 (0, 0)) from hr) (by decide)
  have hqg : q ≠ g := blk_ne hq hg (by decide)
  have hgr : g ≠ r := blk_ne hg (show w.heap[r]? = some (.cells _ 75 (0, 0)) from hr) (by decide)
  clear hq hjs
  go_enter Tryd.func80, Tryd.ntmps80
  go_wp2
  go_loopw [8] (fun p wr => ∃ (k : Nat) (xs : List Int) (j : Nat) (e' : Int), p = .int .i64 (k : Int) ∧ k ≤ js.length ∧ xs.length = k ∧ wr.heap[r]? = some (bk_rdr s j e') ∧ wr.heap[g]? = some (.cells (bk_sets cs js xs) 26 (0, 0)) ∧ bk_Chain s i e xs j e' ∧ bk_Fr r g w wr)
    (fun p _ => js.length - (intOf p).toNat)
  case atStart => exact ⟨0, [], i, e, rfl, Nat.zero_le _, rfl, hr, by cases js <;> exact hg, .none hi, bk_Fr.refl _ _ _⟩
  case round =>
    clear hr hg
    obtain ⟨k, xs, j, e', rfl, hk, hxl, hr, hg, hch, hfr⟩ := hrel
    by_cases hlt : k < js.length
    · have hd : decide ((k : Int) < (js.length : Int)) = true := by simp; omega
      obtain ⟨jk, hjk⟩ : ∃ jk, js[k]? = some jk := ⟨_, List.getElem?_eq_getElem hlt⟩
      have hjl := HJ.out jk (List.mem_of_getElem? hjk)
      have hcq : wr.cell? ⟨q, k, none⟩ = some (.pointer (some ⟨g, jk, none⟩)) := by
        rw [bk_cell (hfr.at HQ.out hqr hqg) k]; simp [hjk]
      have HR := Aside0.mk hr
      have HG := Aside0.mk hg
      have HF := Aside0.mk hfr
      have HC := Aside0.mk hch
      have HJK := Aside0.mk hjk
      clear hr hg hfr hch hjk
      have p1 : (0 : Int) ≤ (k : Int) := by omega
      go_wp2_with (go_at_call 78; refine Rg.stop_here ?_)
      refine ⟨?_⟩
      refine (bk_next_int hI s j e' r _ HC.out.le hs HR.out).mono ?_
      rintro en w5 ⟨x, j5, e5, rfl, hr5, hp5, hg5⟩
      have hbx := blk_grown HG.out hg5 (by simpa using hgr)
      obtain ⟨u, hu⟩ : ∃ u, w5.cell? ⟨g, jk, none⟩ = some u := by
        rw [bk_cell hbx jk]
        exact ⟨_, Array.getElem?_eq_getElem (by rw [bk_sets_size]; exact hjl)⟩
      have hfz := bk_frozen hbx jk
      have HR5 := Aside0.mk hr5
      have HP5 := Aside0.mk hp5
      have HG5 := Aside0.mk hg5
      have HBX := Aside0.mk hbx
      clear hr5 hp5 hg5 hbx
      go_wp2_with fail
      go_roundw
      case rel => exact ⟨k + 1, xs ++ [x], j5, e5, by go_num, by omega, by simp [hxl], (Below.heap_setCell w5 ⟨g, jk, none⟩ _ r (by exact fun h => hgr h.symm)).trans HR5.out, by rw [bk_sets_snoc js xs cs jk x (by rw [hxl]; exact HJK.out)]; exact blk_set HBX.out jk _, .snoc HC.out HP5.out, (HF.out.trans (bk_Fr.of_grown HG5.out g)).set _ _⟩
      case measure => simp [intOf]; omega
    · have hkl : k = js.length := by omega
      subst hkl
      have hd : decide (((js.length : Nat) : Int) < (js.length : Int)) = false := by simp
      go_wp2
      go_end0
      exact ⟨xs, j, e', rfl, hxl, hr, hg, hch, hfr⟩
theorem bk_info3 : (Tryd.prog.info? 3).map (fun i => (i.zero, i.size, i.bytes)) = some (some (.int .i64 0), 1, 8) := by kernel_rfl
theorem bk_grown_base {w W w1 : World} {r : Nat} (h : w.grownBy W (some r)) (hb : Below w.heap.size W w1) : w.grownBy w1 (some r) :=
  ⟨hb.os.trans h.os, hb.tape.trans h.tape, hb.output.trans h.output, Nat.le_trans h.size hb.size, fun i hi hr => (hb.block i hi).trans (h.block i hi hr)⟩
set_option maxHeartbeats 2000000 in
set_option maxRecDepth 100000 in
theorem bk_one84 (hI : bk_Reads 79 (Value.int .i64) rdI) (s : ByteArray) (i : Nat) (e : Int) (r g1 : Nat) (w : World) (hi : i ≤ s.size) (hs : s.size ≤ 1000000000) (hr : w.heap[r]? = some (bk_rdr s i e))
    (hg1 : w.heap[g1]? = some (.cells #[.pointer (some ⟨r, 0, none⟩)] 73 (0, 0))) :
    Calls Tryd.prog 84 #[.pointer (some ⟨g1, 0, none⟩)] w fun en w' => ∃ (x : Int) (j : Nat) (e' : Int), en = .returned (.int .i64 x) ∧
      w'.heap[r]? = some (bk_rdr s j e') ∧ bk_Post rdI s i e x j e' ∧ w.grownBy w' (some r) := by
  have c0 : w.cell? ⟨g1, 0, none⟩ = some (.pointer (some ⟨r, 0, none⟩)) := bk_cell hg1 0
  have HR := Aside0.mk hr
  clear hr hg1
  go_enter Tryd.func84, Tryd.ntmps84
  go_wp2_with (go_at_call 78; refine Rg.stop_here ?_)
  refine ⟨?_⟩
  refine (bk_next_int hI s i e r _ hi hs HR.out).mono ?_
  rintro en w5 ⟨x, j5, e5, rfl, hr5, hp5, hg5⟩
  go_wp2
  go_ret
  exact ⟨x, j5, e5, rfl, hr5, hp5, hg5⟩
theorem bk_Post.err {α : Type} {one : Rd α} {s : ByteArray} {i : Nat} {e : Int} {x : α} (hi : i ≤ s.size) (he : e ≠ 0) : bk_Post one s i e x i e := ⟨hi, fun _ => rfl, fun h => absurd h he⟩
theorem bk_Post.list {α : Type} {one : Rd α} {s : ByteArray} {i j k : Nat} {e e1 e1' e2 n most : Int} {xs : List α} (h1 : bk_Post rdI s i e n j e1) (he : (e1 ≠ 0 ∧ e1' = e1) ∨ (e1 = 0 ∧ (n < 0 ∨ most < n) ∧ e1' = 30) ∨ (e1 = 0 ∧ ¬ (n < 0 ∨ most < n) ∧ e1' = 0))
    (h2 : bk_Post (rdN one n.toNat) s j e1' xs k e2) : bk_Post (rdL most one) s i e xs k e2 := by
  refine h1.bind (next := fun n l => if n < 0 ∨ most < n then .error 30 else rdN one n.toNat l) ?_
  obtain ⟨b1, b2, b3⟩ := h2
  rcases he with ⟨he, rfl⟩ | ⟨rfl, hn, rfl⟩ | ⟨rfl, hn, rfl⟩
  · exact ⟨b1, b2, fun h => absurd h he⟩
  · refine ⟨b1, fun h => absurd rfl h, fun _ => ?_⟩
    dsimp only
    rw [if_pos hn]
    exact ⟨b2 (by decide), by decide⟩
  · refine ⟨b1, b2, fun _ => ?_⟩
    dsimp only
    rw [if_neg hn]
    exact b3 rfl
set_option maxHeartbeats 2000000 in
set_option maxRecDepth 100000 in
theorem bk_list_int (hI : bk_Reads 79 (Value.int .i64) rdI) (s : ByteArray) (i : Nat) (e : Int) (r g1 : Nat) (most : Int) (w : World) (hi : i ≤ s.size) (hs : s.size ≤ 1000000000) (hr : w.heap[r]? = some (bk_rdr s i e))
    (hg1 : w.heap[g1]? = some (.cells #[.pointer (some ⟨r, 0, none⟩)] 73 (0, 0))) (hm0 : 0 ≤ most) (hm : most ≤ 1000) :
    Calls Tryd.prog 83 #[.pointer (some ⟨r, 0, none⟩), .int .i64 most, .func (.func 84) #[] #[.pointer (some ⟨g1, 0, none⟩)]] w fun en w' => ∃ (xs : List Int) (v : Value) (j : Nat) (e' : Int), en = .returned v ∧
      (Kd.int .i64).R 3 w' w.heap.size (fun k => k ≠ r) v xs ∧ w'.heap[r]? = some (bk_rdr s j e') ∧ bk_Post (rdL most rdI) s i e xs j e' ∧ w.grownBy w' (some r) := by
  have HR := Aside0.mk hr
  have HG1 := Aside0.mk hg1
  have hg1r : g1 ≠ r := blk_ne hg1 (show w.heap[r]? = some (.cells _ 75 (0, 0)) from hr) (by decide)
  clear hr hg1
  go_enter Tryd.func83, Tryd.ntmps83
  go_wp2_with (go_at_call 78; refine Rg.stop_here ?_)
  refine ⟨?_⟩
  refine (bk_next_int hI s i e r _ hi hs HR.out).mono ?_
  rintro en w1 ⟨n, j1, e1, rfl, hr1, hp1, hgw1⟩
  have HP1 := Aside0.mk hp1
  have HR1 := Aside0.mk hr1
  have HW1 := Aside0.mk hgw1
  unfold bk_rdr at hr1
  have c2 : w1.cell? ⟨r, 2, none⟩ = some (.int .i64 e1) := bk_cell hr1 2
  have f2 := bk_frozen hr1 2
  clear hr1 hp1 hgw1
  go_upto_region 2 with fail
  go_cut [24] from 9 to 23 (fun v24 wx => v24 = .bool (decide (e1 = 0 ∧ (n < 0 ∨ most < n))) ∧ wx = w1)
  case first =>
    by_cases he1 : e1 = 0
    · subst he1
      by_cases hn0 : n < 0
      · have d1 : decide (n < 0) = true := decide_eq_true hn0
        go_wp2_with fail
        go_meet
        exact ⟨by simp [hn0], rfl⟩
      · have d1 : decide (n < 0) = false := decide_eq_false hn0
        by_cases hn1 : most < n
        · have d2 : decide (most < n) = true := decide_eq_true hn1
          go_wp2_with fail
          go_meet
          exact ⟨by simp [hn1], rfl⟩
        · have d2 : decide (most < n) = false := decide_eq_false hn1
          go_wp2_with fail
          go_meet
          exact ⟨by simp [hn0, hn1], rfl⟩
    · have hne : (e1 == 0) = false := by simpa using he1
      go_wp2_with fail
      go_meet
      exact ⟨by simp [he1], rfl⟩
  case rest =>
  obtain ⟨rfl, rfl⟩ := hcut
  go_upto_if 24 with fail
  go_cut [] from 9 to 27 (fun wx => ∃ e1', ((e1 ≠ 0 ∧ e1' = e1) ∨ (e1 = 0 ∧ (n < 0 ∨ most < n) ∧ e1' = 30) ∨ (e1 = 0 ∧ ¬ (n < 0 ∨ most < n) ∧ e1' = 0)) ∧ wx.heap[r]? = some (bk_rdr s j1 e1') ∧ w.grownBy wx (some r))
  case first =>
    by_cases hc : e1 = 0 ∧ (n < 0 ∨ most < n)
    · have d1 : decide (e1 = 0 ∧ (n < 0 ∨ most < n)) = true := decide_eq_true hc
      go_wp2_with fail
      go_meet
      exact ⟨30, .inr (.inl ⟨hc.1, hc.2, rfl⟩), by simpa [bk_rdr] using blk_set HR1.out 2 (.int .i64 30), bk_grown_set HW1.out _ _⟩
    · have d1 : decide (e1 = 0 ∧ (n < 0 ∨ most < n)) = false := decide_eq_false hc
      go_wp2_with fail
      go_meet
      by_cases he1 : e1 = 0
      · exact ⟨0, .inr (.inr ⟨he1, fun h => hc ⟨he1, h⟩, rfl⟩), by rw [← he1]; exact HR1.out, HW1.out⟩
      · exact ⟨e1, .inl ⟨he1, rfl⟩, HR1.out, HW1.out⟩
  case rest =>
    obtain ⟨e1', hcase, hrc, hgc⟩ := hcut
    have HCASE := Aside0.mk hcase
    have HRC := Aside0.mk hrc
    have HGC := Aside0.mk hgc
    have hnm : e1' = 0 → n ≤ most := by
      intro h
      rcases hcase with ⟨h1, h2⟩ | ⟨_, _, h2⟩ | ⟨_, h1, _⟩
      · exact absurd (h2 ▸ h) h1
      · rw [h2] at h; cases h
      · omega
    clear hcase hrc hgc c2 f2
    go_wp2_with fail
    go_loopw [6, 8] (fun p6 p8 wr => ∃ (k : Nat) (xs : List Int) (j : Nat) (e' : Int), p8 = .int .i64 (k : Int) ∧ xs.length = k ∧ k ≤ n.toNat ∧ (e' = 0 → n ≤ most) ∧ (Kd.int .i64).R 3 wr w.heap.size (fun k => k ≠ r) p6 xs ∧ wr.heap[r]? = some (bk_rdr s j e') ∧ w.grownBy wr (some r) ∧ j ≤ s.size ∧
        (∀ ys j2 e2, bk_Post (rdN rdI (n.toNat - k)) s j e' ys j2 e2 → bk_Post (rdN rdI n.toNat) s j1 e1' (xs ++ ys) j2 e2))
      (fun _ p _ => n.toNat - (intOf p).toNat)
    case atStart => exact ⟨0, [], j1, e1', rfl, rfl, Nat.zero_le _, hnm, Kd.R_nil _ _ _ _ _, HRC.out, HGC.out, HP1.out.1, fun ys j2 e2 h => h⟩
    case round =>
      clear hnm
      obtain ⟨k, xs, j, e', rfl, rfl, hkn, hnm, hR, hr, hgw, hj, hP⟩ := hrel
      have HRR := Aside0.mk hR
      have HR2 := Aside0.mk hr
      have HG2 := Aside0.mk hgw
      have HPP := Aside0.mk hP
      unfold bk_rdr at hr
      have c2 : wr.cell? ⟨r, 2, none⟩ = some (.int .i64 e') := bk_cell hr 2
      obtain ⟨A6, c6, hv6⟩ := Kd.R_slice hR
      subst hv6
      clear hr hR hgw hP
      by_cases hlt : (xs.length : Int) < n
      · have hd : decide ((xs.length : Int) < n) = true := decide_eq_true hlt
        by_cases he : e' = 0
        · subst he
          have hnm' := hnm rfl
          go_wp2_with fail
          refine (bk_one84 hI s j 0 r g1 _ hj hs HR2.out (blk_grown HG1.out HG2.out (by simpa using hg1r))).mono ?_
          rintro en w5 ⟨x, j5, e5, rfl, hr5, hp5, hg5⟩
          have HR5 := Aside0.mk hr5
          have HP5 := Aside0.mk hp5
          have HG5 := Aside0.mk hg5
          have hRR := Kd.R_grown HRR.out hg5 (fun k hk he => hk (Option.some.inj he))
          have hgw5 := bk_grown_trans HG2.out hg5
          have hown := Kd.R_base hRR
          have hrw : r < w5.heap.size := blk_lt hr5
          have hrne := Kd.R_ne hRR (show w5.heap[r]? = some (.cells _ 75 (0, 0)) from hr5) (by decide)
          have HRR5 := Aside0.mk hRR
          have HGW5 := Aside0.mk hgw5
          have hbs := hgw5.size
          clear hr5 hp5 hg5 hRR hgw5
          go_wp2_with (at_builtin; refine Rg.stop_here ?_)
          refine ⟨?_⟩
          refine Kd.R_append (Kd.int .i64) (w0 := w5) w.heap.size rfl (.tmp 40) (.tmp 43) 22 3 (.int .i64 0) 8 rfl Tryd.underlying22 bk_info3 rfl (by decide) (by omega) _ xs x [.int .i64 x] (fun k => k ≠ r) (fun _ => False) rfl rfl rfl (fun _ hk => hk.elim) (fun k hk => by omega) HRR5.out (Below.refl _ _) hbs (by omega) ?_
          intro v1 w6 hR6 hb6 hg6 _
          have hr6 := blk_grown HR5.out hg6 hrne
          obtain ⟨A7, c7, hv7⟩ := Kd.R_slice hR6
          subst hv7
          rw [List.length_append, List.length_singleton] at hR6
          go_wp2_with fail
          go_roundw
          case rel => exact ⟨xs.length + 1, xs ++ [x], j5, e5, by go_num, by simp, by omega, fun _ => hnm', hR6, hr6, bk_grown_base HGW5.out hb6, HP5.out.1, fun ys j2 e2 h => by
            rw [List.append_assoc]
            refine HPP.out _ _ _ ?_
            rw [show n.toNat - xs.length = (n.toNat - (xs.length + 1)) + 1 by omega]
            exact bk_Post.bind (next := fun x l => rdBind (rdN rdI (n.toNat - (xs.length + 1))) (fun xs l => .ok (x :: xs, l)) l) HP5.out (bk_Post.bind (next := fun xs l => .ok (x :: xs, l)) h (bk_Post.pure _ _ _ _ h.1))⟩
          case measure => simp [intOf]; omega
        · have hne : (e' == 0) = false := by simpa using he
          go_wp2_with fail
          go_ret
          have := HPP.out [] j e' (bk_Post.err hj he)
          rw [List.append_nil] at this
          exact ⟨xs, _, j, e', rfl, HRR.out, HR2.out, HP1.out.list HCASE.out this, HG2.out⟩
      · have hd : decide ((xs.length : Int) < n) = false := decide_eq_false hlt
        go_wp2_with fail
        go_ret
        have := HPP.out [] j e' (by rw [show n.toNat - xs.length = 0 by omega]; exact bk_Post.pure _ _ _ _ hj)
        rw [List.append_nil] at this
        exact ⟨xs, _, rfl, HRR.out, j, e', HR2.out, HP1.out.list HCASE.out this, HG2.out⟩
end Go.Proofs.YtpgjhjlhipikgaaDoor.PK
end
section
set_option linter.unusedVariables false
namespace Go.Proofs.YtpgjhjlhipikgaaDoor.PK
open Go.RowKit Go.Proofs.YtpgjhjlhipikgaaDoorW.PrintWords Go.Proofs.YtpgjhjlhipikgaaDoorW.PrintLast Go.Proofs.YtpgjhjlhipikgaaDoorW.PrintMore
section
variable {P : Program} {ops : Array Oper} {rest : List Oper} {o : Oper} {a : Act} {Q : Exit → Act → World → Prop}
theorem is_build {W : World} {t : TypeId} {n : Nat} {ps : Array (Nat × Operand)} (_ : o.op = .buildSlice t n ps) (h : wpList P ops Q (o :: rest) a W) : wpList P ops Q (o :: rest) a W := h
theorem lit_event {W : World} (hgd : o.guard = none) {N : Tmp} (_hd : o.dst = some N) {cs : Array Value} {t : TypeId} {n : Nat}
    (hrun : (execOp a.eval o).run P W = .ok (.value (.slice (some ⟨W.heap.size, 0, none⟩) n n)) (W.alloc (.cells cs t (0, 0))))
    (h : ∀ g, g = W.heap.size → ∀ w1, w1.heap[g]? = some (.cells cs t (0, 0)) → Below W.heap.size W w1 → wpList P ops Q rest (a.put o.dst (.slice (some ⟨g, 0, none⟩) n n)) w1) : wpList P ops Q (o :: rest) a W :=
  Kd.event_run hgd hrun (h _ rfl _ (blk_new W _) (below_alloc (Below.refl _ _) _))
end
theorem bk_heap_below {W W' : World} {k : Nat} {o : Obj} (h : W.heap[k]? = some o) (hb : Below W.heap.size W W') : W'.heap[k]? = some o := (hb.block k (Array.getElem?_eq_some_iff.1 h).1).trans h
theorem bk_below_mono {B C : Nat} {w w' : World} (h : Below C w w') (hB : B ≤ C) : Below B w w' := ⟨h.os, h.tape, h.output, h.size, fun i hi => h.block i (by omega)⟩
end Go.Proofs.YtpgjhjlhipikgaaDoor.PK
end
section
set_option linter.unusedVariables false
set_option linter.unusedSimpArgs false
namespace Go.Proofs.YtpgjhjlhipikgaaDoor.PK
open Go.RowKit Go.Proofs.YtpgjhjlhipikgaaDoorW.PrintWords Go.Proofs.YtpgjhjlhipikgaaDoorW.PrintLast Go.Proofs.YtpgjhjlhipikgaaDoorW.PrintMore
section
variable {P : Program} {ops : Array Oper} {rest : List Oper} {o : Oper} {a : Act} {Q : Exit → Act → World → Prop}
theorem is_box {W : World} {t : TypeId} {x : Operand} (_ : o.op = .box t x) (h : wpList P ops Q (o :: rest) a W) : wpList P ops Q (o :: rest) a W := h
end
theorem cd_rdB_post {s : ByteArray} {i i1 i2 i3 i4 i5 i6 i7 i8 i9 : Nat} {e e1 e2 e3 e4 e5 e6 e7 e8 e9 : Int} {x0 x1 x3 x4 x5 x7 x8 : Int} {x2 : ByteArray} {x6 : List Int}
    (h0 : bk_Post rdI s i e x0 i1 e1) (h1 : bk_Post rdI s i1 e1 x1 i2 e2) (h2 : bk_Post rdB_ s i2 e2 x2 i3 e3) (h3 : bk_Post rdI s i3 e3 x3 i4 e4) (h4 : bk_Post rdI s i4 e4 x4 i5 e5) (h5 : bk_Post rdI s i5 e5 x5 i6 e6)
    (h6 : bk_Post (rdL 64 rdI) s i6 e6 x6 i7 e7) (h7 : bk_Post rdI s i7 e7 x7 i8 e8) (h8 : bk_Post rdI s i8 e8 x8 i9 e9) : bk_Post rdB s i e (⟨x0, x1, x2, x3, x4, ⟨x5, x6, x7, x8⟩⟩ : Bl) i9 e9 := by
  have hstr : ∀ {β : Type} (next : ByteArray → Rd β) (l : List UInt8), rdBind rdS (fun x => next ⟨x.toArray⟩) l = rdBind rdB_ next l := by
    intro β next l
    unfold rdBind rdB_
    cases rdS l with
    | error e => rfl
    | ok p => rfl
  refine bk_Post.bind h0 (next := fun id l => _) ?_
  refine bk_Post.bind h1 (next := fun id l => _) ?_
  have := bk_Post.bind h2 (next := fun text l => rdBind rdI (fun story l => rdBind rdI (fun ref l => rdBind rdI (fun u l => rdBind (rdL 64 rdI) (fun after l => rdBind rdI (fun a l => rdBind rdI (fun d l => .ok ((⟨x0, x1, text, story, ref, ⟨u, after, a, d⟩⟩ : Bl), l)) l) l) l) l) l) l)
    (bk_Post.bind h3 (next := fun id l => _) (bk_Post.bind h4 (next := fun id l => _) (bk_Post.bind h5 (next := fun id l => _) (bk_Post.bind h6 (next := fun id l => _) (bk_Post.bind h7 (next := fun id l => _) (bk_Post.bind h8 (next := fun d l => .ok ((⟨x0, x1, x2, x3, x4, ⟨x5, x6, x7, d⟩⟩ : Bl), l)) (bk_Post.pure _ _ _ _ h8.1)))))))
  obtain ⟨a1, a2, a3⟩ := this
  refine ⟨a1, a2, fun h => ?_⟩
  have := a3 h
  rw [← hstr] at this
  exact this
def bk_cells (x0 x1 : Int) (x2 : ByteArray) (x3 x4 x5 : Int) (v6 : Value) (x7 x8 : Int) : Array Value := #[.int .i64 x0, .int .i64 x1, .string x2, .int .i64 x3, .int .i64 x4, .int .i64 x5, v6, .int .i64 x7, .int .i64 x8]
set_option maxHeartbeats 4000000 in
set_option maxRecDepth 100000 in
theorem bk_block (hI : bk_Reads 79 (Value.int .i64) rdI) (hS : bk_Reads 82 Value.string rdB_) (s : ByteArray) (i : Nat) (e : Int) (r : Nat) (w : World) (hi : i ≤ s.size) (hs : s.size ≤ 1000000000) (hr : w.heap[r]? = some (bk_rdr s i e)) :
    Calls Tryd.prog 58 #[.pointer (some ⟨r, 0, none⟩)] w fun en w' => ∃ (b : Bl) (v : Value) (j : Nat) (e' : Int), en = .returned (.agg (bk_cells b.f0 b.f1 b.f2 b.f3 b.f4 b.f5.f0 v b.f5.f2 b.f5.f3)) ∧
      (Kd.int .i64).R 3 w' w.heap.size (fun k => k ≠ r) v b.f5.f1 ∧ w'.heap[r]? = some (bk_rdr s j e') ∧ bk_Post rdB s i e b j e' ∧ w.grownBy w' (some r) := by
  have hrw : r < w.heap.size := blk_lt hr
  have HR := Aside0.mk hr
  clear hr
  go_enter Tryd.func58, Tryd.ntmps58
  go_wp2_with (with_reducible refine is_box rfl ?_; refine Rg.stop_here ?_)
  refine ⟨?_⟩
  refine box_event rfl (N := 1) rfl (cs := #[.pointer (some ⟨r, 0, none⟩)]) (t := 73) (by first | (go_simp; done) | (go_simp; rfl)) ?_
  intro g1 hg1 w1 hbx1 hb1
  have hr1 := bk_heap_below HR.out hb1
  have HP := Aside0.mk hbx1
  have hw1s := hb1.size
  have hge1 : w.heap.size ≤ g1 := Nat.le_of_eq hg1.symm
  have HG1 := Aside0.mk hge1
  clear hg1 hge1
  go_wp2_with (with_reducible refine is_alloc rfl ?_; refine Rg.stop_here ?_)
  refine ⟨?_⟩
  refine box_event rfl (N := 2) rfl (cs := #[.int .i64 0, .int .i64 0, .string (⟨#[]⟩ : ByteArray), .int .i64 0, .int .i64 0, .int .i64 0, .slice none 0 0, .int .i64 0, .int .i64 0]) (t := 26) (by first | (go_simp; done) | (go_simp; rfl)) ?_
  intro g hg w2 hbx2 hb2
  have hr2 := bk_heap_below hr1 hb2
  have hp2 := bk_heap_below HP.out hb2
  have hge : w.heap.size ≤ g := by rw [hg]; exact hw1s
  have HGE := Aside0.mk hge
  have hfr2 : bk_Fr r g w w2 := (bk_Fr.of_below hb1 r g).trans (bk_Fr.of_below hb2 r g)
  have hgr : g ≠ r := blk_ne hbx2 (show w2.heap[r]? = some (.cells _ 75 (0, 0)) from hr2) (by decide)
  have h1r : g1 ≠ r := blk_ne hp2 (show w2.heap[r]? = some (.cells _ 75 (0, 0)) from hr2) (by decide)
  have h1g : g1 ≠ g := blk_ne hp2 hbx2 (by decide)
  have cp2 : w2.cell? ⟨g1, 0, none⟩ = some (.pointer (some ⟨r, 0, none⟩)) := bk_cell hp2 0
  clear hr1 hb1 hb2 hg hge hbx1 hw1s HP
  go_wp2_with (with_reducible refine is_build rfl ?_; refine Rg.stop_here ?_)
  refine ⟨?_⟩
  refine lit_event rfl (N := 6) rfl (cs := #[.pointer (some ⟨g, 0, none⟩), .pointer (some ⟨g, 1, none⟩)]) (t := 101) (n := 2) (by first | (go_simp; done) | (go_simp; rfl)) ?_
  intro q3 hq3 w3 hl3 hb3
  have hr3 := bk_heap_below hr2 hb3
  have hbx3 := bk_heap_below hbx2 hb3
  have hp3 := bk_heap_below hp2 hb3
  have hfr3 := hfr2.trans (bk_Fr.of_below hb3 r g)
  clear hq3 hb3 hr2 hbx2 hp2 hfr2 cp2
  go_wp2_with (go_at_call 80; refine Rg.stop_here ?_)
  refine ⟨?_⟩
  refine (bk_rints hI s i e r g q3 2 [0, 1] _ w3 hi hs hr3 hbx3 hl3 (by decide) rfl (by omega)).mono ?_
  rintro en w4 ⟨xs, i2, e2, rfl, hxl, hr4, hbx4, hch, hfr4⟩
  obtain ⟨x0, x1, i1, e1, rfl, hp0, hp1⟩ := hch.two hxl
  have hp4 := hfr4.at hp3 h1r h1g
  replace hfr4 := hfr3.trans hfr4
  have hbx4' : w4.heap[g]? = some (.cells #[.int .i64 x0, .int .i64 x1, .string (⟨#[]⟩ : ByteArray), .int .i64 0, .int .i64 0, .int .i64 0, .slice none 0 0, .int .i64 0, .int .i64 0] 26 (0, 0)) := hbx4
  have HP0 := Aside0.mk hp0
  have HP1 := Aside0.mk hp1
  have cp4 : w4.cell? ⟨g1, 0, none⟩ = some (.pointer (some ⟨r, 0, none⟩)) := bk_cell hp4 0
  clear hr3 hbx3 hp3 hfr3 hch hxl hl3 hbx4 hp0 hp1
  go_wp2_with (go_at_call 81; refine Rg.stop_here ?_)
  refine ⟨?_⟩
  refine (bk_next_str hS s i2 e2 r _ HP1.out.1 hs hr4).mono ?_
  rintro en w5 ⟨x2, i3, e3, rfl, hr5, hp2, hg5⟩
  have hbx5 := blk_grown hbx4' hg5 (by simpa using hgr)
  have hp5 := blk_grown hp4 hg5 (by simpa using h1r)
  have hfr5 := hfr4.trans (bk_Fr.of_grown hg5 g)
  have HP2 := Aside0.mk hp2
  have cp5 : w5.cell? ⟨g1, 0, none⟩ = some (.pointer (some ⟨r, 0, none⟩)) := bk_cell hp5 0
  have cb5 := bk_cell hbx5 2
  have fb5 := bk_frozen hbx5 2
  have hbx5' := blk_set hbx5 2 (.string x2)
  have hr5' : (w5.setCell ⟨g, 2, none⟩ (.string x2)).heap[r]? = some (bk_rdr s i3 e3) := (Below.heap_setCell w5 ⟨g, 2, none⟩ _ r (fun h => hgr h.symm)).trans hr5
  have hp5' : (w5.setCell ⟨g, 2, none⟩ (.string x2)).heap[g1]? = some (.cells #[.pointer (some ⟨r, 0, none⟩)] 73 (0, 0)) := (Below.heap_setCell w5 ⟨g, 2, none⟩ _ g1 h1g).trans hp5
  have hfr5' := hfr5.set 2 (.string x2)
  have cp5' : (w5.setCell ⟨g, 2, none⟩ (.string x2)).cell? ⟨g1, 0, none⟩ = some (.pointer (some ⟨r, 0, none⟩)) := bk_cell hp5' 0
  clear hr4 hbx4' hp4 hfr4 hg5 hp2 cp4
  go_wp2_with (with_reducible refine is_build rfl ?_; refine Rg.stop_here ?_)
  refine ⟨?_⟩
  refine lit_event rfl (N := 16) rfl (cs := #[.pointer (some ⟨g, 3, none⟩), .pointer (some ⟨g, 4, none⟩), .pointer (some ⟨g, 5, none⟩)]) (t := 101) (n := 3) (by first | (go_simp; done) | (go_simp; rfl)) ?_
  intro q6 hq6 w6 hl6 hb6
  have hr6 := bk_heap_below hr5' hb6
  have hbx6 := bk_heap_below hbx5' hb6
  have hp6 := bk_heap_below hp5' hb6
  have hfr6 := hfr5'.trans (bk_Fr.of_below hb6 r g)
  clear hq6 hb6 hr5' hbx5' hp5' hfr5' cp5' hr5 hbx5 hp5 hfr5 cp5 cb5 fb5
  go_wp2_with (go_at_call 80; refine Rg.stop_here ?_)
  refine ⟨?_⟩
  refine (bk_rints hI s i3 e3 r g q6 3 [3, 4, 5] _ w6 HP2.out.1 hs hr6 hbx6 hl6 (by intro j hj; simp at hj ⊢; omega) rfl (by omega)).mono ?_
  rintro en w7 ⟨ys, i6, e6, rfl, hyl, hr7, hbx7, hch7, hfr7⟩
  obtain ⟨x3, x4, x5, i4, e4, i5, e5, rfl, hp3, hp4, hp5⟩ := hch7.three hyl
  have hp7 := hfr7.at hp6 h1r h1g
  replace hfr7 := hfr6.trans hfr7
  have hbx7' : w7.heap[g]? = some (.cells #[.int .i64 x0, .int .i64 x1, .string x2, .int .i64 x3, .int .i64 x4, .int .i64 x5, .slice none 0 0, .int .i64 0, .int .i64 0] 26 (0, 0)) := hbx7
  have HP3 := Aside0.mk hp3
  have HP4 := Aside0.mk hp4
  have HP5 := Aside0.mk hp5
  have cp7 : w7.cell? ⟨g1, 0, none⟩ = some (.pointer (some ⟨r, 0, none⟩)) := bk_cell hp7 0
  clear hr6 hbx6 hp6 hfr6 hch7 hyl hl6 hbx7 hp3 hp4 hp5
  go_wp2_with (go_at_call 83; refine Rg.stop_here ?_)
  refine ⟨?_⟩
  refine (bk_list_int hI s i6 e6 r g1 64 w7 HP5.out.1 hs hr7 hp7 (by omega) (by omega)).mono ?_
  rintro en w8 ⟨x6, v6, i7, e7, rfl, hR8, hr8, hp6, hg8⟩
  have hbx8 := blk_grown hbx7' hg8 (by simpa using hgr)
  have hp8 := blk_grown hp7 hg8 (by simpa using h1r)
  have hfr8 := hfr7.trans (bk_Fr.of_grown hg8 g)
  have HP6 := Aside0.mk hp6
  have hR8' := Kd.R_types hR8 hbx8 (by decide)
  have hR9 := Kd.R_far (p := ⟨g, 6, none⟩) hR8' (fun k hk => hk.2) v6
  obtain ⟨A6, c6, hv6⟩ := Kd.R_slice hR8
  subst hv6
  have cb8 := bk_cell hbx8 6
  have fb8 := bk_frozen hbx8 6
  have hbx8' := blk_set hbx8 6 (.slice A6 x6.length c6)
  have hr8' : (w8.setCell ⟨g, 6, none⟩ (.slice A6 x6.length c6)).heap[r]? = some (bk_rdr s i7 e7) := (Below.heap_setCell w8 ⟨g, 6, none⟩ _ r (fun h => hgr h.symm)).trans hr8
  have hp8' : (w8.setCell ⟨g, 6, none⟩ (.slice A6 x6.length c6)).heap[g1]? = some (.cells #[.pointer (some ⟨r, 0, none⟩)] 73 (0, 0)) := (Below.heap_setCell w8 ⟨g, 6, none⟩ _ g1 h1g).trans hp8
  have hfr8' := hfr8.set 6 (.slice A6 x6.length c6)
  have cp8' : (w8.setCell ⟨g, 6, none⟩ (.slice A6 x6.length c6)).cell? ⟨g1, 0, none⟩ = some (.pointer (some ⟨r, 0, none⟩)) := bk_cell hp8' 0
  have HR9 := Aside0.mk hR9
  have hws : w.heap.size ≤ w7.heap.size := hfr7.size
  clear hr7 hbx7' hp7 hfr7 hg8 hp6 cp7 hR8 hR8' hR9
  go_wp2_with (with_reducible refine is_build rfl ?_; refine Rg.stop_here ?_)
  refine ⟨?_⟩
  refine lit_event rfl (N := 28) rfl (cs := #[.pointer (some ⟨g, 7, none⟩), .pointer (some ⟨g, 8, none⟩)]) (t := 101) (n := 2) (by first | (go_simp; done) | (go_simp; rfl)) ?_
  intro q9 hq9 w9 hl9 hb9
  have hr9 := bk_heap_below hr8' hb9
  have hbx9 := bk_heap_below hbx8' hb9
  have hp9 := bk_heap_below hp8' hb9
  have hfr9 := hfr8'.trans (bk_Fr.of_below hb9 r g)
  have hRx := Aside0.mk (Kd.R_below HR9.out hb9)
  clear hq9 hb9 hr8' hbx8' hp8' hfr8' cp8' hr8 hbx8 hp8 hfr8 cb8 fb8 HR9
  go_wp2_with (go_at_call 80; refine Rg.stop_here ?_)
  refine ⟨?_⟩
  refine (bk_rints hI s i7 e7 r g q9 2 [7, 8] _ w9 HP6.out.1 hs hr9 hbx9 hl9 (by intro j hj; simp at hj ⊢; omega) rfl (by omega)).mono ?_
  rintro en w10 ⟨zs, i9, e9, rfl, hzl, hr10, hbx10, hch10, hfr10⟩
  obtain ⟨x7, x8, i8, e8, rfl, hp7, hp8⟩ := hch10.two hzl
  have hRy := Aside0.mk (Kd.R_step hRx.out (fun k hk hlt => hfr10.block k hlt hk.1 hk.2))
  replace hfr10 := hfr9.trans hfr10
  have hbx10' : w10.heap[g]? = some (.cells #[.int .i64 x0, .int .i64 x1, .string x2, .int .i64 x3, .int .i64 x4, .int .i64 x5, .slice A6 x6.length c6, .int .i64 x7, .int .i64 x8] 26 (0, 0)) := hbx10
  have HP7 := Aside0.mk hp7
  have HP8 := Aside0.mk hp8
  have HR10 := Aside0.mk hr10
  have HF10 := Aside0.mk hfr10
  obtain ⟨d0, d1, d2, d3, d4, d5, d6, d7, d8⟩ := bk_Box.of hbx10'
  clear hr9 hbx9 hp9 hfr9 hch10 hzl hl9 hbx10 hp7 hp8 hr10 hfr10 hRx
  go_wp2_with (with_reducible refine is_store rfl ?_; refine Rg.stop_here ?_)
  refine ⟨?_⟩
  refine wpList_store_box rfl rfl _ _ _ rfl g _ _ _ rfl rfl hbx10' bk_size26 rfl (by repeat (first | exact List.forall_mem_nil _ | refine List.forall_mem_cons.2 ⟨rfl, ?_⟩)) ?_
  intro w11 hbx11 hst hot
  clear d0 d1 d2 d3 d4 d5 d6 d7 d8
  obtain ⟨d0, d1, d2, d3, d4, d5, d6, d7, d8⟩ := bk_Box.of hbx11
  go_wp2
  have hq11 : bk_Fr r g w10 w11 := by
    have h0 := hst g (Nat.le_refl _)
    exact ⟨h0.os, h0.tape, h0.output, h0.size, fun k _ _ hk => hot k hk⟩
  have hr11 := (hot r (fun h => hgr h.symm)).trans HR10.out
  have hf11 := HF10.out.trans hq11
  have hRz := Kd.R_step hRy.out (fun k hk hlt => hq11.block k hlt hk.1 hk.2)
  refine bodyPost_ret (results_cell_row rfl _ _ g _ _ _ _ rfl hbx11 Tryd.underlying26 rfl bk_size26) rfl ?_
  refine ⟨⟨x0, x1, x2, x3, x4, ⟨x5, x6, x7, x8⟩⟩, _, i9, e9, rfl, Kd.R_mono (Kd.R_lower hRz hws) (fun k hk => hk.1), hr11, cd_rdB_post HP0.out HP1.out HP2.out HP3.out HP4.out HP5.out HP6.out HP7.out HP8.out, ?_⟩
  exact ⟨hf11.os, hf11.tape, hf11.output, hf11.size, fun k hk hkr => hf11.block k hk (fun h => hkr (by rw [h])) (fun h => by have := HGE.out; omega)⟩
theorem bk_info26 : (Tryd.prog.info? 26).map (fun i => (i.zero, i.size, i.bytes)) = some (some (.agg #[.int .i64 0, .int .i64 0, .string ⟨#[]⟩, .int .i64 0, .int .i64 0, .int .i64 0, .slice none 0 0, .int .i64 0, .int .i64 0]), 9, 96) := by kernel_rfl
set_option maxHeartbeats 2000000 in
set_option maxRecDepth 100000 in
theorem bk_list_block (hI : bk_Reads 79 (Value.int .i64) rdI) (hS : bk_Reads 82 Value.string rdB_) (s : ByteArray) (i : Nat) (e : Int) (r : Nat) (most : Int) (w : World) (hi : i ≤ s.size) (hs : s.size ≤ 1000000000) (hr : w.heap[r]? = some (bk_rdr s i e))
    (hm0 : 0 ≤ most) (hm : most ≤ 1000) :
    Calls Tryd.prog 57 #[.pointer (some ⟨r, 0, none⟩), .int .i64 most, .func (.func 58) #[.pointer (some ⟨r, 0, none⟩)] #[]] w fun en w' => ∃ (xs : List Bl) (v : Value) (j : Nat) (e' : Int), en = .returned v ∧
      Kd.S k26 26 w' w.heap.size (fun k => k ≠ r) v xs ∧ w'.heap[r]? = some (bk_rdr s j e') ∧ bk_Post (rdL most rdB) s i e xs j e' ∧ w.grownBy w' (some r) := by
  have HR := Aside0.mk hr
  clear hr
  go_enter Tryd.func57, Tryd.ntmps57
  go_wp2_with (go_at_call 78; refine Rg.stop_here ?_)
  refine ⟨?_⟩
  refine (bk_next_int hI s i e r _ hi hs HR.out).mono ?_
  rintro en w1 ⟨n, j1, e1, rfl, hr1, hp1, hgw1⟩
  have HP1 := Aside0.mk hp1
  have HR1 := Aside0.mk hr1
  have HW1 := Aside0.mk hgw1
  unfold bk_rdr at hr1
  have c2 : w1.cell? ⟨r, 2, none⟩ = some (.int .i64 e1) := bk_cell hr1 2
  have f2 := bk_frozen hr1 2
  clear hr1 hp1 hgw1
  go_upto_region 2 with fail
  go_cut [24] from 9 to 23 (fun v24 wx => v24 = .bool (decide (e1 = 0 ∧ (n < 0 ∨ most < n))) ∧ wx = w1)
  case first =>
    by_cases he1 : e1 = 0
    · subst he1
      by_cases hn0 : n < 0
      · have d1 : decide (n < 0) = true := decide_eq_true hn0
        go_wp2_with fail
        go_meet
        exact ⟨by simp [hn0], rfl⟩
      · have d1 : decide (n < 0) = false := decide_eq_false hn0
        by_cases hn1 : most < n
        · have d2 : decide (most < n) = true := decide_eq_true hn1
          go_wp2_with fail
          go_meet
          exact ⟨by simp [hn1], rfl⟩
        · have d2 : decide (most < n) = false := decide_eq_false hn1
          go_wp2_with fail
          go_meet
          exact ⟨by simp [hn0, hn1], rfl⟩
    · have hne : (e1 == 0) = false := by simpa using he1
      go_wp2_with fail
      go_meet
      exact ⟨by simp [he1], rfl⟩
  case rest =>
  obtain ⟨rfl, rfl⟩ := hcut
  go_upto_if 24 with fail
  go_cut [] from 9 to 27 (fun wx => ∃ e1', ((e1 ≠ 0 ∧ e1' = e1) ∨ (e1 = 0 ∧ (n < 0 ∨ most < n) ∧ e1' = 30) ∨ (e1 = 0 ∧ ¬ (n < 0 ∨ most < n) ∧ e1' = 0)) ∧ wx.heap[r]? = some (bk_rdr s j1 e1') ∧ w.grownBy wx (some r))
  case first =>
    by_cases hc : e1 = 0 ∧ (n < 0 ∨ most < n)
    · have d1 : decide (e1 = 0 ∧ (n < 0 ∨ most < n)) = true := decide_eq_true hc
      go_wp2_with fail
      go_meet
      exact ⟨30, .inr (.inl ⟨hc.1, hc.2, rfl⟩), by simpa [bk_rdr] using blk_set HR1.out 2 (.int .i64 30), bk_grown_set HW1.out _ _⟩
    · have d1 : decide (e1 = 0 ∧ (n < 0 ∨ most < n)) = false := decide_eq_false hc
      go_wp2_with fail
      go_meet
      by_cases he1 : e1 = 0
      · exact ⟨0, .inr (.inr ⟨he1, fun h => hc ⟨he1, h⟩, rfl⟩), by rw [← he1]; exact HR1.out, HW1.out⟩
      · exact ⟨e1, .inl ⟨he1, rfl⟩, HR1.out, HW1.out⟩
  case rest =>
    obtain ⟨e1', hcase, hrc, hgc⟩ := hcut
    have HCASE := Aside0.mk hcase
    have HRC := Aside0.mk hrc
    have HGC := Aside0.mk hgc
    have hnm : e1' = 0 → n ≤ most := by
      intro h
      rcases hcase with ⟨h1, h2⟩ | ⟨_, _, h2⟩ | ⟨_, h1, _⟩
      · exact absurd (h2 ▸ h) h1
      · rw [h2] at h; cases h
      · omega
    clear hcase hrc hgc c2 f2
    go_wp2_with fail
    go_loopw [6, 8] (fun p6 p8 wr => ∃ (k : Nat) (xs : List Bl) (j : Nat) (e' : Int), p8 = .int .i64 (k : Int) ∧ xs.length = k ∧ k ≤ n.toNat ∧ (e' = 0 → n ≤ most) ∧ Kd.S k26 26 wr w.heap.size (fun k => k ≠ r) p6 xs ∧ wr.heap[r]? = some (bk_rdr s j e') ∧ w.grownBy wr (some r) ∧ j ≤ s.size ∧
        (∀ ys j2 e2, bk_Post (rdN rdB (n.toNat - k)) s j e' ys j2 e2 → bk_Post (rdN rdB n.toNat) s j1 e1' (xs ++ ys) j2 e2))
      (fun _ p _ => n.toNat - (intOf p).toNat)
    case atStart => exact ⟨0, [], j1, e1', rfl, rfl, Nat.zero_le _, hnm, Kd.S_nil _ _ _ _ _, HRC.out, HGC.out, HP1.out.1, fun ys j2 e2 h => h⟩
    case round =>
      clear hnm
      obtain ⟨k, xs, j, e', rfl, rfl, hkn, hnm, hR, hr, hgw, hj, hP⟩ := hrel
      have HRR := Aside0.mk hR
      have HR2 := Aside0.mk hr
      have HG2 := Aside0.mk hgw
      have HPP := Aside0.mk hP
      unfold bk_rdr at hr
      have c2 : wr.cell? ⟨r, 2, none⟩ = some (.int .i64 e') := bk_cell hr 2
      obtain ⟨A6, c6, hv6⟩ := Kd.S_slice hR
      subst hv6
      clear hr hR hgw hP
      by_cases hlt : (xs.length : Int) < n
      · have hd : decide ((xs.length : Int) < n) = true := decide_eq_true hlt
        by_cases he : e' = 0
        · subst he
          have hnm' := hnm rfl
          go_wp2_with fail
          refine (bk_block hI hS s j 0 r _ hj hs HR2.out).mono ?_
          rintro en w5 ⟨x, vx, j5, e5, rfl, hvx, hr5, hp5, hg5⟩
          obtain ⟨Ax, cx, hve⟩ := Kd.R_slice hvx
          subst hve
          have HR5 := Aside0.mk hr5
          have HP5 := Aside0.mk hp5
          have hlt0 := Kd.S_lt HRR.out
          have hSS : Kd.S k26 26 w5 w.heap.size (fun k => k ≠ r ∧ ¬ (wr.heap.size ≤ k ∧ k ≠ r ∧ k < w5.heap.size)) (.slice A6 xs.length c6) xs :=
            Kd.S_mono (Kd.S_grown (Kd.S_bound HRR.out) hg5 (fun k hk he => hk.1 (Option.some.inj he))) (fun k hk => ⟨hk.1, fun h => by have := hk.2.2.1; omega⟩)
          have hgw5 := bk_grown_trans HG2.out hg5
          have hrw : r < w5.heap.size := blk_lt hr5
          have hrne : some r ≠ (Value.slice A6 xs.length c6).ownBlock := Kd.S_ne hSS (show w5.heap[r]? = some (.cells _ 75 (0, 0)) from hr5) (by decide)
          have hM := k26_mkM w5 w.heap.size (fun k => wr.heap.size ≤ k ∧ k ≠ r ∧ k < w5.heap.size) x (Kd.R_lower (Kd.R_mono (ok' := fun k => wr.heap.size ≤ k ∧ k ≠ r ∧ k < w5.heap.size) (Kd.R_bound hvx) (fun k hk => ⟨hk.2.1, hk.1, hk.2.2.1⟩)) HG2.out.size)
          have HM := Aside0.mk hM
          have HSS := Aside0.mk hSS
          have HGW5 := Aside0.mk hgw5
          have hbs := hgw5.size
          have hon : ∀ k, (wr.heap.size ≤ k ∧ k ≠ r ∧ k < w5.heap.size) → k ≠ r ∧ some k ≠ (Value.slice A6 xs.length c6).ownBlock := fun k hk => ⟨hk.2.1, fun h => by have := hlt0 k h.symm; omega⟩
          have HON := Aside0.mk hon
          clear hr5 hp5 hg5 hM hSS hgw5 hvx hlt0 hon
          unfold bk_cells
          go_wp2_with (at_builtin; refine Rg.stop_here ?_)
          refine ⟨?_⟩
          refine Kd.S_append k26 (w0 := w5) w.heap.size rfl (.tmp 40) (.tmp 43) 27 26 _ 96 rfl Tryd.underlying27 bk_info26 rfl (by decide) (by omega) (.slice A6 xs.length c6) xs x _ (fun k => k ≠ r) (fun k => wr.heap.size ≤ k ∧ k ≠ r ∧ k < w5.heap.size) rfl rfl HM.out HON.out (fun k hk => by omega) HSS.out (Below.refl _ _) hbs (by omega) ?_
          intro v1 w6 hR6 hb6 hg6 _
          have hr6 := blk_grown HR5.out hg6 hrne
          obtain ⟨A7, c7, hv7⟩ := Kd.S_slice hR6
          subst hv7
          rw [List.length_append, List.length_singleton] at hR6
          go_wp2_with fail
          go_roundw
          case rel => exact ⟨xs.length + 1, xs ++ [x], j5, e5, by go_num, by simp, by omega, fun _ => hnm', hR6, hr6, bk_grown_base HGW5.out hb6, HP5.out.1, fun ys j2 e2 h => by
            rw [List.append_assoc]
            refine HPP.out _ _ _ ?_
            rw [show n.toNat - xs.length = (n.toNat - (xs.length + 1)) + 1 by omega]
            exact bk_Post.bind (next := fun x l => rdBind (rdN rdB (n.toNat - (xs.length + 1))) (fun xs l => .ok (x :: xs, l)) l) HP5.out (bk_Post.bind (next := fun xs l => .ok (x :: xs, l)) h (bk_Post.pure _ _ _ _ h.1))⟩
          case measure => simp [intOf]; omega
        · have hne : (e' == 0) = false := by simpa using he
          go_wp2_with fail
          go_ret
          have := HPP.out [] j e' (bk_Post.err hj he)
          rw [List.append_nil] at this
          exact ⟨xs, _, j, e', rfl, HRR.out, HR2.out, HP1.out.list HCASE.out this, HG2.out⟩
      · have hd : decide ((xs.length : Int) < n) = false := decide_eq_false hlt
        go_wp2_with fail
        go_ret
        have := HPP.out [] j e' (by rw [show n.toNat - xs.length = 0 by omega]; exact bk_Post.pure _ _ _ _ hj)
        rw [List.append_nil] at this
        exact ⟨xs, _, rfl, HRR.out, j, e', HR2.out, HP1.out.list HCASE.out this, HG2.out⟩
end Go.Proofs.YtpgjhjlhipikgaaDoor.PK
end
section
set_option linter.unusedVariables false
set_option linter.unusedSimpArgs false
namespace Go.Proofs.YtpgjhjlhipikgaaDoor.PK
open Go.RowKit Go.Proofs.YtpgjhjlhipikgaaDoorW.PrintWords Go.Proofs.YtpgjhjlhipikgaaDoorW.PrintLast Go.Proofs.YtpgjhjlhipikgaaDoorW.PrintMore
theorem cd_rdB__eq (l : List UInt8) : rdB_ l = match rdI l with
    | .error e => .error 10
    | .ok (n, r) => if n < 0 ∨ 65536 < n ∨ (r.length : Int) < n then .error 10 else .ok (⟨(r.take n.toNat).toArray⟩, r.drop n.toNat) := by
  unfold rdB_
  rw [cd_rdStr]
  cases rdI l with
  | error e => rfl
  | ok p =>
    obtain ⟨n, r⟩ := p
    dsimp only
    by_cases h : n < 0 ∨ 65536 < n ∨ (r.length : Int) < n
    · rw [if_pos h, if_pos h]
    · rw [if_neg h, if_neg h]
theorem bk_rest_len (s : ByteArray) (i : Nat) : (bk_rest s i).length = s.size - i := by
  show (s.data.toList.drop i).length = _
  rw [List.length_drop, Array.length_toList]; rfl
theorem bk_rest_drop (s : ByteArray) (i n : Nat) : (bk_rest s i).drop n = bk_rest s (i + n) := by
  show (s.data.toList.drop i).drop n = _
  rw [List.drop_drop]
theorem bk_extract (s : ByteArray) (i n : Nat) : s.extract i (i + n) = ⟨((bk_rest s i).take n).toArray⟩ := by
  refine cd_ba_inj _ _ ?_
  rw [ByteArray.data_extract, Array.toList_extract, List.extract_eq_take_drop, Nat.add_sub_cancel_left]
set_option maxHeartbeats 2000000 in
set_option maxRecDepth 100000 in
theorem bk_rstring (hI : bk_Reads 79 (Value.int .i64) rdI) : bk_Reads 82 Value.string rdB_ := by
  intro s i hi hs
  rcases hI s i hi hs with ⟨n, j, hj, hone, hc⟩ | ⟨hone, x, j, er, her, hc⟩
  · have hlen := bk_rest_len s j
    by_cases h0 : n < 0
    · refine .inr ⟨by rw [cd_rdB__eq, hone]; dsimp only; rw [if_pos (.inl h0)], ⟨#[]⟩, 0, 10, by decide, fun W => ?_⟩
      have d0 : decide (n < 0) = true := decide_eq_true h0
      clear hI hone
      go_enter Tryd.func82, Tryd.ntmps82
      go_wp2_with (go_at_call 79; refine (hc _).mono ?_; rintro e w1 ⟨rfl, m, rfl⟩)
      go_ret3
      exact ⟨rfl, m, rfl⟩
    · have d0 : decide (n < 0) = false := decide_eq_false h0
      by_cases h1 : 65536 < n
      · refine .inr ⟨by rw [cd_rdB__eq, hone]; dsimp only; rw [if_pos (.inr (.inl h1))], ⟨#[]⟩, 0, 10, by decide, fun W => ?_⟩
        have d1 : decide (65536 < n) = true := decide_eq_true h1
        clear hI hone
        go_enter Tryd.func82, Tryd.ntmps82
        go_wp2_with (go_at_call 79; refine (hc _).mono ?_; rintro e w1 ⟨rfl, m, rfl⟩)
        go_ret3
        exact ⟨rfl, m, rfl⟩
      · have d1 : decide (65536 < n) = false := decide_eq_false h1
        have hw : wrap64 ((s.size : Int) - (j : Int)) = (s.size : Int) - (j : Int) := by unfold wrap64; omega
        by_cases h2 : (s.size : Int) - (j : Int) < n
        · refine .inr ⟨by rw [cd_rdB__eq, hone]; dsimp only; rw [if_pos (.inr (.inr (by omega)))], ⟨#[]⟩, 0, 10, by decide, fun W => ?_⟩
          have d2 : decide ((s.size : Int) - (j : Int) < n) = true := decide_eq_true h2
          clear hI hone
          go_enter Tryd.func82, Tryd.ntmps82
          go_wp2_with (go_at_call 79; refine (hc _).mono ?_; rintro e w1 ⟨rfl, m, rfl⟩)
          go_ret3
          exact ⟨rfl, m, rfl⟩
        · have d2 : decide ((s.size : Int) - (j : Int) < n) = false := decide_eq_false h2
          obtain ⟨k, rfl⟩ : ∃ k : Nat, n = (k : Int) := ⟨n.toNat, by omega⟩
          have hw2 : wrap64 ((j : Int) + (k : Int)) = (j : Int) + (k : Int) := by unfold wrap64; omega
          have hle : j + k ≤ s.size := by omega
          refine .inl ⟨s.extract j (j + k), j + k, hle, by rw [cd_rdB__eq, hone]; dsimp only; rw [if_neg (by omega), Int.toNat_natCast, bk_extract, bk_rest_drop], fun W => ?_⟩
          have q0 := eq_true (show (0 : Int) ≤ (j : Int) by omega)
          have q1 := eq_true (show (j : Int) ≤ (j : Int) + (k : Int) by omega)
          have q2 := eq_true (show (j : Int) + (k : Int) ≤ (s.size : Int) by omega)
          have q3 : ((j : Int) + (k : Int)).toNat = j + k := by omega
          clear hI hone hlen
          go_enter Tryd.func82, Tryd.ntmps82
          go_wp2_with (go_at_call 79; refine (hc _).mono ?_; rintro e w1 ⟨rfl, m, rfl⟩)
          go_ret3
          exact ⟨by simp, m, rfl⟩
  · have hne : (er == 0) = false := by simpa using her
    refine .inr ⟨by rw [cd_rdB__eq, hone], ⟨#[]⟩, 0, er, her, fun W => ?_⟩
    clear hI hone
    go_enter Tryd.func82, Tryd.ntmps82
    go_wp2_with (go_at_call 79; refine (hc _).mono ?_; rintro e w1 ⟨rfl, m, rfl⟩)
    go_ret3
    exact ⟨rfl, m, rfl⟩
end Go.Proofs.YtpgjhjlhipikgaaDoor.PK
end
section
set_option linter.unusedVariables false
set_option linter.unusedSimpArgs false
namespace Go.Proofs.YtpgjhjlhipikgaaDoor.PK
open Go.RowKit Go.Proofs.YtpgjhjlhipikgaaDoorW.PrintWords Go.Proofs.YtpgjhjlhipikgaaDoorW.PrintLast Go.Proofs.YtpgjhjlhipikgaaDoorW.PrintMore
theorem bk_at (s : ByteArray) (i : Nat) (h : i < s.size) : m_at s.data.toList i = s[i] := by
  unfold m_at
  rw [List.getD_eq_getElem?_getD, List.getElem?_eq_getElem (by simpa using h)]
  simp
  rfl
theorem bk_eq (c : UInt8) (n : Nat) (hn : n < 256) : ((c.toNat : Int) == (n : Int)) = (c == UInt8.ofNat n) := by
  rw [Bool.eq_iff_iff]
  simp only [beq_iff_eq]
  constructor
  · intro h
    have : c.toNat = n := by omega
    rw [← this]; simp
  · intro h
    rw [h]; simp; omega
set_option maxHeartbeats 1000000 in
theorem bk_initial (s : ByteArray) (hs : s.size ≤ 1000000000) (i : Nat) (h : i < s.size) (w : World) :
    Calls Tryd.prog 89 #[.string s, .int .i64 (i : Int)] w fun e w' => e = .returned (.bool (m_initial s.data.toList i)) ∧ w = w' := by
  have hA := bk_at s i h
  have e32 : ∀ c : UInt8, ((c.toNat : Int) == 32) = (c == 32) := fun c => bk_eq c 32 (by decide)
  have z1 : (65 : Int) ≤ (s[i].toNat : Int) ↔ 65 ≤ s[i].toNat := by omega
  have z2 : (s[i].toNat : Int) ≤ 90 ↔ s[i].toNat ≤ 90 := by omega
  have HA := Aside0.mk hA
  clear hA
  by_cases h1 : 65 ≤ s[i].toNat <;> by_cases h2 : s[i].toNat ≤ 90 <;> by_cases h3 : i = 0
  all_goals first
    | (subst h3
       go_enter Tryd.func89, Tryd.ntmps89
       go_wp2
       go_ret
       refine ⟨?_, rfl⟩
       unfold m_initial
       rw [HA.out]
       simp [h1, h2])
    | (have hlt : i - 1 < s.size := by omega
       have hi1 : ((i : Int) - 1) = ((i - 1 : Nat) : Int) := by omega
       have hz : ((i : Int) == 0) = false := by simp; omega
       have HB := Aside0.mk (bk_at s (i - 1) hlt)
       go_enter Tryd.func89, Tryd.ntmps89
       go_wp2
       go_ret
       refine ⟨?_, rfl⟩
       unfold m_initial
       rw [HA.out, HB.out]
       simp [h1, h2, h3, e32])
theorem bk_initialNo (s : ByteArray) (w : World) :
    Calls Tryd.prog 89 #[.string s, .int .i64 (-1)] w fun e w' => e = .returned (.bool false) ∧ w = w' := by
  go_enter Tryd.func89, Tryd.ntmps89
  go_wp2
  go_ret
  exact ⟨rfl, rfl⟩
theorem bk_contains (s : ByteArray) (i : Nat) (h : i < s.size) (w : World) :
    Calls Tryd.prog 88 #[.string ⟨#[46, 33, 63]⟩, .string (s.extract i (i + 1))] w fun e w' => e = .returned (.bool (m_at s.data.toList i == 46 || m_at s.data.toList i == 33 || m_at s.data.toList i == 63)) ∧ w = w' := by
  have e : s.extract i (i + 1) = ⟨#[m_at s.data.toList i]⟩ := by
    have h1 : (s.extract i (i + 1)).data.toList = [m_at s.data.toList i] := by
      rw [Lib.extract_data, bk_at s i h]
      have hl : i < s.data.toList.length := by simpa using h
      rw [List.drop_eq_getElem_cons hl, show i + 1 - i = 1 from by omega]
      simp
      rfl
    have h2 : (s.extract i (i + 1)).data = #[m_at s.data.toList i] := by
      apply Array.ext'
      rw [h1]
    exact ByteArray.ext h2
  rw [e]
  refine (Tryd.strings_Contains_one _ _ w).mono ?_
  rintro e' w' ⟨rfl, rfl⟩
  refine ⟨?_, rfl⟩
  congr 2
  generalize m_at s.data.toList i = c
  simp only [Lib.indexByte]
  by_cases h1 : (46 : UInt8) = c
  · subst h1; simp
  · by_cases h2 : (33 : UInt8) = c
    · subst h2; simp
    · by_cases h3 : (63 : UInt8) = c
      · subst h3; simp
      · have g1 : (c == 46) = false := by simpa using fun h => h1 h.symm
        have g2 : (c == 33) = false := by simpa using fun h => h2 h.symm
        have g3 : (c == 63) = false := by simpa using fun h => h3 h.symm
        simp [h1, h2, h3, g1, g2, g3]
theorem bk_trim (s : ByteArray) (hs : s.size ≤ 1000000000) (a b : Nat) (w : World) :
    Calls Tryd.prog 90 #[.string (s.extract a b), .string ⟨#[32]⟩] w fun e w' => e = .returned (.string ⟨(m_trim ((s.data.toList.drop a).take (b - a))).toArray⟩) ∧ ∃ k, w' = w.drewN k := by
  have hsz : (s.extract a b).size ≤ 9223372036854775807 := by simp; omega
  refine (Tryd.strings_Trim_one (s.extract a b) 32 (by decide) w hsz).mono ?_
  rintro e w' ⟨rfl, hw⟩
  refine ⟨?_, ?_⟩
  · rw [Lib.extract_data]; rfl
  · rcases hw with rfl | rfl
    · exact ⟨0, rfl⟩
    · exact ⟨1, rfl⟩
def bk_sEnc (x : List UInt8) : Array Value := #[.string ⟨x.toArray⟩]
def bk_sAb (A B : World) : Prop := ∃ k, B = A.drewN k
def bk_sKp (tb : Nat) (A B : World) : Prop := B.heap[tb]? = A.heap[tb]?
def bk_sNx (l : List UInt8) (pre : List (List UInt8)) (x : List UInt8) : Prop := ∃ rest, pre ++ x :: rest = m_sent l
theorem m_sentGo_yes (l : List UInt8) (d i a : Nat) (h : m_ends l i = true) : m_sentGo l (d + 1) i a = m_trim ((l.drop a).take (i + 1 - a)) :: m_sentGo l d (i + 1) (i + 1) := by
  simp [m_sentGo, h]
theorem m_sentGo_no (l : List UInt8) (d i a : Nat) (h : m_ends l i = false) : m_sentGo l (d + 1) i a = m_sentGo l d (i + 1) a := by
  simp [m_sentGo, h]
set_option maxHeartbeats 16000000 in
set_option maxRecDepth 100000 in
theorem bk_sentIter (tb : Nat) (s : ByteArray) (hs : s.size ≤ 1000000000) (W : World) (htb : W.heap[tb]? = some (.cells #[.string s] 9 (0, 0))) :
    Rg.Iter Tryd.prog 87 #[.pointer (some ⟨tb, 0, none⟩)] bk_sEnc bk_sAb (bk_sKp tb) (bk_sNx s.data.toList) (fun xs => xs = m_sent s.data.toList) (fun _ => True) W := by
  intro l J Jx hJ hJx hY h0
  obtain ⟨L, hL⟩ : ∃ L, s.data.toList = L := ⟨_, rfl⟩
  have hlen : L.length = s.size := by rw [← hL]; simp
  have hc0 : W.cell? ⟨tb, 0, none⟩ = some (.string s) := by simp [World.cell?, htb]
  refine callsIn_of_wp Tryd.func87 rfl trivial ?_ rfl
  simp only [Tryd.ntmps87, List.size_toArray, List.length_cons, List.length_nil, Nat.reduceAdd, Nat.reduceSub, Array.replicate_succ, Array.replicate_zero, List.push_toArray, List.append_toArray, List.nil_append, List.cons_append]
  have HTB := Aside0.mk htb
  clear htb
  have HL := Aside0.mk hL
  have HLEN := Aside0.mk hlen
  clear hL hlen
  refine wpIn_wide.2 (wp_scope_straight ((wpIn_wide (n := 0)).1 ?_))
  gi_wp2
  apply wpIn_label
  gi_wp2
  gi_loopw [3, 8] (fun fr ix wr => ∃ (pre : List (List UInt8)) (d i a : Nat), fr = .int .i64 (a : Int) ∧ ix = .int .i64 (i : Int) ∧ d + i = s.size ∧ a ≤ i ∧ Aside0 (pre ++ m_sentGo L d i a = m_sent L) ∧ Aside0 (wr.heap[tb]? = some (.cells #[.string s] 9 (0, 0))) ∧ J pre wr)
    (fun _ ix _ => s.size - (intOf ix).toNat)
  case atStart =>
    exact ⟨[], s.size, 0, 0, rfl, rfl, by omega, Nat.le_refl _, ⟨by unfold m_sent; rw [HLEN.out]; rfl⟩, HTB, h0⟩
  case round =>
    obtain ⟨pre, d, i, a, rfl, rfl, hd, hai, HP, HB, hJs⟩ := hrel
    have hc : wr.cell? ⟨tb, 0, none⟩ = some (.string s) := by simp [World.cell?, HB.out]
    by_cases hi : i < s.size
    · obtain ⟨d, rfl⟩ : ∃ d', d = d' + 1 := ⟨d - 1, by omega⟩
      have hA := bk_at s i hi
      rw [HL.out] at hA
      have hCon : ∀ (w : World) (b : Bool), (m_at L i == 46 || m_at L i == 33 || m_at L i == 63) = b → Calls Tryd.prog 88 #[.string ⟨#[46, 33, 63]⟩, .string (s.extract i (i + 1))] w fun e w' => e = .returned (.bool b) ∧ w = w' := fun w b hb => by
        have := bk_contains s i hi w
        rw [HL.out, hb] at this
        exact this
      have hEE : m_ends L i = ((m_at L i == 46 || m_at L i == 33 || m_at L i == 63) && (decide (L.length ≤ i + 1) || m_at L (i + 1) == 32) && !(m_at L i == 46 && decide (1 ≤ i) && m_initial L (i - 1))) := rfl
      rw [HLEN.out] at hEE
      have h46 : ((s[i].toNat : Int) == 46) = (m_at L i == 46) := by rw [hA]; exact bk_eq _ 46 (by decide)
      have HA := Aside0.mk hA
      have HEE := Aside0.mk hEE
      clear hA hEE
      cases hq1 : (m_at L i == 46 || m_at L i == 33 || m_at L i == 63) with
      | false =>
        have HE : Aside0 (m_ends L i = false) := ⟨by rw [HEE.out, hq1]; rfl⟩
        have HQ1 := Aside0.mk hq1
        clear hq1 h46
        gi_wp2_with fail
        refine ⟨trivial, rfl, (callsIn_wide.2 (hCon _ false HQ1.out)).mono ?_⟩
        rintro e w' ⟨rfl, rfl⟩
        gi_wp2
        go_roundw
        case rel => exact ⟨pre, d, i + 1, a, rfl, by go_num, by omega, by omega, ⟨by rw [← HP.out, m_sentGo_no _ _ _ _ HE.out]⟩, HB, hJs⟩
        case measure => simp [intOf]; omega
      | true =>
        have HQ1 := Aside0.mk hq1
        clear hq1
        by_cases hn1 : i + 1 < s.size
        · have hA1 := bk_at s (i + 1) hn1
          rw [HL.out] at hA1
          have h32 : ((s[i + 1].toNat : Int) == 32) = (m_at L (i + 1) == 32) := by rw [hA1]; exact bk_eq _ 32 (by decide)
          have h32n : ((s[i + 1].toNat : Int) != 32) = !(m_at L (i + 1) == 32) := by rw [bne, h32]
          have HA1 := Aside0.mk hA1
          clear hA1
          cases hq2 : (m_at L (i + 1) == 32) with
          | false =>
            have HE : Aside0 (m_ends L i = false) := ⟨by rw [HEE.out, HQ1.out, hq2, decide_eq_false (by omega)]; rfl⟩
            rw [hq2] at h32 h32n
            have HQ2 := Aside0.mk hq2
            clear hq2 h46
            gi_wp2_with fail
            refine ⟨trivial, rfl, (callsIn_wide.2 (hCon _ true HQ1.out)).mono ?_⟩
            rintro e w' ⟨rfl, rfl⟩
            gi_wp2
            go_roundw
            case rel => exact ⟨pre, d, i + 1, a, rfl, by go_num, by omega, by omega, ⟨by rw [← HP.out, m_sentGo_no _ _ _ _ HE.out]⟩, HB, hJs⟩
            case measure => simp [intOf]; omega
          | true =>
            rw [hq2] at h32 h32n
            have HQ := Aside0.mk hq2
            clear hq2
            have HQ2 : Aside0 ((decide (s.size ≤ i + 1) || m_at L (i + 1) == 32) = true) := ⟨by rw [HQ.out]; simp⟩
            cases hd : (m_at L i == 46) with
            | false =>
              have HE : Aside0 (m_ends L i = true) := ⟨by rw [HEE.out, HQ1.out, HQ2.out, hd]; rfl⟩
              rw [hd] at h46
              have HD := Aside0.mk hd
              clear hd
              gi_wp2_with fail
              refine ⟨trivial, rfl, (callsIn_wide.2 (hCon _ true HQ1.out)).mono ?_⟩
              rintro e w' ⟨rfl, rfl⟩
              gi_wp2_with fail
              refine ⟨trivial, ?_⟩
              gi_wp2_with fail
              refine ⟨trivial, rfl, (callsIn_wide.2 (bk_trim s hs a (i + 1) _)).mono ?_⟩
              rintro e w' ⟨rfl, kd, rfl⟩
              rw [HL.out]
              obtain ⟨fn, tmps, assign, body, hy, hR⟩ := hY pre (m_trim ((L.drop a).take (i + 1 - a))) (wr.drewN kd) (hJ _ _ _ hJs ⟨kd, rfl⟩) ⟨m_sentGo L d (i + 1) (i + 1), by rw [HL.out, ← HP.out, m_sentGo_yes _ _ _ _ HE.out]⟩
              dsimp only [bk_sEnc] at hy
              have HY := Aside0.mk hY
              clear hY
              gi_wp2
              refine ⟨rfl, hR.mono ?_⟩
              rintro e W3 (⟨rfl, hJ3, hk3⟩ | ⟨rfl, hJx3⟩)
              · have HK3 := Aside0.mk hk3
                clear hk3
                gi_wp2
                go_roundw
                case rel => exact ⟨pre ++ [m_trim ((L.drop a).take (i + 1 - a))], d, i + 1, i + 1, by go_num, by go_num, by omega, by omega, ⟨by rw [← HP.out, m_sentGo_yes _ _ _ _ HE.out]; simp⟩, ⟨HK3.out.trans HB.out⟩, hJ3⟩
                case measure => simp [intOf]; omega
              · gi_wp2
                rw [Exit.noGoto_ret]
                refine bodyPost_ret (results_none rfl _ _ _) rfl ?_
                exact ⟨⟨_, rfl⟩, .inr ⟨_, trivial, hJx3⟩⟩
            | true =>
              rw [hd] at h46
              by_cases hi0 : i = 0
              · have hm1 : ((i : Int) - 1) = -1 := by omega
                have hdi : decide (1 ≤ i) = false := decide_eq_false (by omega)
                clear hi0
                have HE : Aside0 (m_ends L i = true) := ⟨by rw [HEE.out, HQ1.out, HQ2.out, hd, hdi]; rfl⟩
                have HD := Aside0.mk hd
                clear hd hdi
                gi_wp2_with fail
                refine ⟨trivial, rfl, (callsIn_wide.2 (hCon _ true HQ1.out)).mono ?_⟩
                rintro e w' ⟨rfl, rfl⟩
                gi_wp2_with fail
                refine ⟨trivial, rfl, (callsIn_wide.2 (bk_initialNo s _)).mono ?_⟩
                rintro e w' ⟨rfl, rfl⟩
                gi_wp2_with fail
                refine ⟨trivial, rfl, (callsIn_wide.2 (bk_trim s hs a (i + 1) _)).mono ?_⟩
                rintro e w' ⟨rfl, kd, rfl⟩
                rw [HL.out]
                obtain ⟨fn, tmps, assign, body, hy, hR⟩ := hY pre (m_trim ((L.drop a).take (i + 1 - a))) (wr.drewN kd) (hJ _ _ _ hJs ⟨kd, rfl⟩) ⟨m_sentGo L d (i + 1) (i + 1), by rw [HL.out, ← HP.out, m_sentGo_yes _ _ _ _ HE.out]⟩
                dsimp only [bk_sEnc] at hy
                have HY := Aside0.mk hY
                clear hY
                gi_wp2
                refine ⟨rfl, hR.mono ?_⟩
                rintro e W3 (⟨rfl, hJ3, hk3⟩ | ⟨rfl, hJx3⟩)
                · have HK3 := Aside0.mk hk3
                  clear hk3
                  gi_wp2
                  go_roundw
                  case rel => exact ⟨pre ++ [m_trim ((L.drop a).take (i + 1 - a))], d, i + 1, i + 1, by go_num, by go_num, by omega, by omega, ⟨by rw [← HP.out, m_sentGo_yes _ _ _ _ HE.out]; simp⟩, ⟨HK3.out.trans HB.out⟩, hJ3⟩
                  case measure => simp [intOf]; omega
                · gi_wp2
                  rw [Exit.noGoto_ret]
                  refine bodyPost_ret (results_none rfl _ _ _) rfl ?_
                  exact ⟨⟨_, rfl⟩, .inr ⟨_, trivial, hJx3⟩⟩
              · have hi1 : ((i : Int) - 1) = ((i - 1 : Nat) : Int) := by omega
                have hini : ∀ (w : World) (b : Bool), m_initial L (i - 1) = b → Calls Tryd.prog 89 #[.string s, .int .i64 ((i : Int) - 1)] w fun e w' => e = .returned (.bool b) ∧ w = w' := fun w b hb => by
                  have := bk_initial s hs (i - 1) (by omega) w
                  rw [HL.out, hb, ← hi1] at this
                  exact this
                have h1i : decide (1 ≤ i) = true := by simp; omega
                clear hi1
                cases hn : m_initial L (i - 1) with
                | true =>
                  have HE : Aside0 (m_ends L i = false) := ⟨by rw [HEE.out, HQ1.out, HQ2.out, hd, h1i, hn]; rfl⟩
                  have HD := Aside0.mk hd
                  have HN := Aside0.mk hn
                  clear hd hn h1i
                  gi_wp2_with fail
                  refine ⟨trivial, rfl, (callsIn_wide.2 (hCon _ true HQ1.out)).mono ?_⟩
                  rintro e w' ⟨rfl, rfl⟩
                  gi_wp2_with fail
                  refine ⟨trivial, rfl, (callsIn_wide.2 (hini _ true HN.out)).mono ?_⟩
                  rintro e w' ⟨rfl, rfl⟩
                  gi_wp2
                  go_roundw
                  case rel => exact ⟨pre, d, i + 1, a, rfl, by go_num, by omega, by omega, ⟨by rw [← HP.out, m_sentGo_no _ _ _ _ HE.out]⟩, HB, hJs⟩
                  case measure => simp [intOf]; omega
                | false =>
                  have HE : Aside0 (m_ends L i = true) := ⟨by rw [HEE.out, HQ1.out, HQ2.out, hd, h1i, hn]; rfl⟩
                  have HD := Aside0.mk hd
                  have HN := Aside0.mk hn
                  clear hd hn h1i
                  gi_wp2_with fail
                  refine ⟨trivial, rfl, (callsIn_wide.2 (hCon _ true HQ1.out)).mono ?_⟩
                  rintro e w' ⟨rfl, rfl⟩
                  gi_wp2_with fail
                  refine ⟨trivial, rfl, (callsIn_wide.2 (hini _ false HN.out)).mono ?_⟩
                  rintro e w' ⟨rfl, rfl⟩
                  gi_wp2_with fail
                  refine ⟨trivial, rfl, (callsIn_wide.2 (bk_trim s hs a (i + 1) _)).mono ?_⟩
                  rintro e w' ⟨rfl, kd, rfl⟩
                  rw [HL.out]
                  obtain ⟨fn, tmps, assign, body, hy, hR⟩ := hY pre (m_trim ((L.drop a).take (i + 1 - a))) (wr.drewN kd) (hJ _ _ _ hJs ⟨kd, rfl⟩) ⟨m_sentGo L d (i + 1) (i + 1), by rw [HL.out, ← HP.out, m_sentGo_yes _ _ _ _ HE.out]⟩
                  dsimp only [bk_sEnc] at hy
                  have HY := Aside0.mk hY
                  clear hY
                  gi_wp2
                  refine ⟨rfl, hR.mono ?_⟩
                  rintro e W3 (⟨rfl, hJ3, hk3⟩ | ⟨rfl, hJx3⟩)
                  · have HK3 := Aside0.mk hk3
                    clear hk3
                    gi_wp2
                    go_roundw
                    case rel => exact ⟨pre ++ [m_trim ((L.drop a).take (i + 1 - a))], d, i + 1, i + 1, by go_num, by go_num, by omega, by omega, ⟨by rw [← HP.out, m_sentGo_yes _ _ _ _ HE.out]; simp⟩, ⟨HK3.out.trans HB.out⟩, hJ3⟩
                    case measure => simp [intOf]; omega
                  · gi_wp2
                    rw [Exit.noGoto_ret]
                    refine bodyPost_ret (results_none rfl _ _ _) rfl ?_
                    exact ⟨⟨_, rfl⟩, .inr ⟨_, trivial, hJx3⟩⟩
        · have hdn : decide ((i : Int) + 1 < (s.size : Int)) = false := by simp; omega
          have HQ2 : Aside0 ((decide (s.size ≤ i + 1) || m_at L (i + 1) == 32) = true) := ⟨by rw [decide_eq_true (by omega)]; rfl⟩
          cases hd : (m_at L i == 46) with
          | false =>
            have HE : Aside0 (m_ends L i = true) := ⟨by rw [HEE.out, HQ1.out, HQ2.out, hd]; rfl⟩
            rw [hd] at h46
            have HD := Aside0.mk hd
            clear hd
            gi_wp2_with fail
            refine ⟨trivial, rfl, (callsIn_wide.2 (hCon _ true HQ1.out)).mono ?_⟩
            rintro e w' ⟨rfl, rfl⟩
            gi_wp2_with fail
            refine ⟨trivial, ?_⟩
            gi_wp2_with fail
            refine ⟨trivial, rfl, (callsIn_wide.2 (bk_trim s hs a (i + 1) _)).mono ?_⟩
            rintro e w' ⟨rfl, kd, rfl⟩
            rw [HL.out]
            obtain ⟨fn, tmps, assign, body, hy, hR⟩ := hY pre (m_trim ((L.drop a).take (i + 1 - a))) (wr.drewN kd) (hJ _ _ _ hJs ⟨kd, rfl⟩) ⟨m_sentGo L d (i + 1) (i + 1), by rw [HL.out, ← HP.out, m_sentGo_yes _ _ _ _ HE.out]⟩
            dsimp only [bk_sEnc] at hy
            have HY := Aside0.mk hY
            clear hY
            gi_wp2
            refine ⟨rfl, hR.mono ?_⟩
            rintro e W3 (⟨rfl, hJ3, hk3⟩ | ⟨rfl, hJx3⟩)
            · have HK3 := Aside0.mk hk3
              clear hk3
              gi_wp2
              go_roundw
              case rel => exact ⟨pre ++ [m_trim ((L.drop a).take (i + 1 - a))], d, i + 1, i + 1, by go_num, by go_num, by omega, by omega, ⟨by rw [← HP.out, m_sentGo_yes _ _ _ _ HE.out]; simp⟩, ⟨HK3.out.trans HB.out⟩, hJ3⟩
              case measure => simp [intOf]; omega
            · gi_wp2
              rw [Exit.noGoto_ret]
              refine bodyPost_ret (results_none rfl _ _ _) rfl ?_
              exact ⟨⟨_, rfl⟩, .inr ⟨_, trivial, hJx3⟩⟩
          | true =>
            rw [hd] at h46
            by_cases hi0 : i = 0
            · have hm1 : ((i : Int) - 1) = -1 := by omega
              have hdi : decide (1 ≤ i) = false := decide_eq_false (by omega)
              clear hi0
              have HE : Aside0 (m_ends L i = true) := ⟨by rw [HEE.out, HQ1.out, HQ2.out, hd, hdi]; rfl⟩
              have HD := Aside0.mk hd
              clear hd hdi
              gi_wp2_with fail
              refine ⟨trivial, rfl, (callsIn_wide.2 (hCon _ true HQ1.out)).mono ?_⟩
              rintro e w' ⟨rfl, rfl⟩
              gi_wp2_with fail
              refine ⟨trivial, rfl, (callsIn_wide.2 (bk_initialNo s _)).mono ?_⟩
              rintro e w' ⟨rfl, rfl⟩
              gi_wp2_with fail
              refine ⟨trivial, rfl, (callsIn_wide.2 (bk_trim s hs a (i + 1) _)).mono ?_⟩
              rintro e w' ⟨rfl, kd, rfl⟩
              rw [HL.out]
              obtain ⟨fn, tmps, assign, body, hy, hR⟩ := hY pre (m_trim ((L.drop a).take (i + 1 - a))) (wr.drewN kd) (hJ _ _ _ hJs ⟨kd, rfl⟩) ⟨m_sentGo L d (i + 1) (i + 1), by rw [HL.out, ← HP.out, m_sentGo_yes _ _ _ _ HE.out]⟩
              dsimp only [bk_sEnc] at hy
              have HY := Aside0.mk hY
              clear hY
              gi_wp2
              refine ⟨rfl, hR.mono ?_⟩
              rintro e W3 (⟨rfl, hJ3, hk3⟩ | ⟨rfl, hJx3⟩)
              · have HK3 := Aside0.mk hk3
                clear hk3
                gi_wp2
                go_roundw
                case rel => exact ⟨pre ++ [m_trim ((L.drop a).take (i + 1 - a))], d, i + 1, i + 1, by go_num, by go_num, by omega, by omega, ⟨by rw [← HP.out, m_sentGo_yes _ _ _ _ HE.out]; simp⟩, ⟨HK3.out.trans HB.out⟩, hJ3⟩
                case measure => simp [intOf]; omega
              · gi_wp2
                rw [Exit.noGoto_ret]
                refine bodyPost_ret (results_none rfl _ _ _) rfl ?_
                exact ⟨⟨_, rfl⟩, .inr ⟨_, trivial, hJx3⟩⟩
            · have hi1 : ((i : Int) - 1) = ((i - 1 : Nat) : Int) := by omega
              have hini : ∀ (w : World) (b : Bool), m_initial L (i - 1) = b → Calls Tryd.prog 89 #[.string s, .int .i64 ((i : Int) - 1)] w fun e w' => e = .returned (.bool b) ∧ w = w' := fun w b hb => by
                have := bk_initial s hs (i - 1) (by omega) w
                rw [HL.out, hb, ← hi1] at this
                exact this
              have h1i : decide (1 ≤ i) = true := by simp; omega
              clear hi1
              cases hn : m_initial L (i - 1) with
              | true =>
                have HE : Aside0 (m_ends L i = false) := ⟨by rw [HEE.out, HQ1.out, HQ2.out, hd, h1i, hn]; rfl⟩
                have HD := Aside0.mk hd
                have HN := Aside0.mk hn
                clear hd hn h1i
                gi_wp2_with fail
                refine ⟨trivial, rfl, (callsIn_wide.2 (hCon _ true HQ1.out)).mono ?_⟩
                rintro e w' ⟨rfl, rfl⟩
                gi_wp2_with fail
                refine ⟨trivial, rfl, (callsIn_wide.2 (hini _ true HN.out)).mono ?_⟩
                rintro e w' ⟨rfl, rfl⟩
                gi_wp2
                go_roundw
                case rel => exact ⟨pre, d, i + 1, a, rfl, by go_num, by omega, by omega, ⟨by rw [← HP.out, m_sentGo_no _ _ _ _ HE.out]⟩, HB, hJs⟩
                case measure => simp [intOf]; omega
              | false =>
                have HE : Aside0 (m_ends L i = true) := ⟨by rw [HEE.out, HQ1.out, HQ2.out, hd, h1i, hn]; rfl⟩
                have HD := Aside0.mk hd
                have HN := Aside0.mk hn
                clear hd hn h1i
                gi_wp2_with fail
                refine ⟨trivial, rfl, (callsIn_wide.2 (hCon _ true HQ1.out)).mono ?_⟩
                rintro e w' ⟨rfl, rfl⟩
                gi_wp2_with fail
                refine ⟨trivial, rfl, (callsIn_wide.2 (hini _ false HN.out)).mono ?_⟩
                rintro e w' ⟨rfl, rfl⟩
                gi_wp2_with fail
                refine ⟨trivial, rfl, (callsIn_wide.2 (bk_trim s hs a (i + 1) _)).mono ?_⟩
                rintro e w' ⟨rfl, kd, rfl⟩
                rw [HL.out]
                obtain ⟨fn, tmps, assign, body, hy, hR⟩ := hY pre (m_trim ((L.drop a).take (i + 1 - a))) (wr.drewN kd) (hJ _ _ _ hJs ⟨kd, rfl⟩) ⟨m_sentGo L d (i + 1) (i + 1), by rw [HL.out, ← HP.out, m_sentGo_yes _ _ _ _ HE.out]⟩
                dsimp only [bk_sEnc] at hy
                have HY := Aside0.mk hY
                clear hY
                gi_wp2
                refine ⟨rfl, hR.mono ?_⟩
                rintro e W3 (⟨rfl, hJ3, hk3⟩ | ⟨rfl, hJx3⟩)
                · have HK3 := Aside0.mk hk3
                  clear hk3
                  gi_wp2
                  go_roundw
                  case rel => exact ⟨pre ++ [m_trim ((L.drop a).take (i + 1 - a))], d, i + 1, i + 1, by go_num, by go_num, by omega, by omega, ⟨by rw [← HP.out, m_sentGo_yes _ _ _ _ HE.out]; simp⟩, ⟨HK3.out.trans HB.out⟩, hJ3⟩
                  case measure => simp [intOf]; omega
                · gi_wp2
                  rw [Exit.noGoto_ret]
                  refine bodyPost_ret (results_none rfl _ _ _) rfl ?_
                  exact ⟨⟨_, rfl⟩, .inr ⟨_, trivial, hJx3⟩⟩
    · obtain rfl : d = 0 := by omega
      have hin : i = s.size := by omega
      have hal : a ≤ s.size := by omega
      have hdd : decide ((i : Int) < (s.size : Int)) = false := by simp; omega
      have hsz : (s.extract a s.size).data.toList = L.drop a := by
        rw [Lib.extract_data, HL.out, List.take_of_length_le (by rw [List.length_drop, HLEN.out]; omega)]
      have hT : ∀ w : World, Calls Tryd.prog 90 #[.string (s.extract a s.size), .string ⟨#[32]⟩] w fun e w' => e = .returned (.string ⟨(m_trim (L.drop a)).toArray⟩) ∧ ∃ k, w' = w.drewN k := fun w => by
        refine (Tryd.strings_Trim_one (s.extract a s.size) 32 (by decide) w (by simp; omega)).mono ?_
        rintro e w' ⟨rfl, hw⟩
        refine ⟨?_, ?_⟩
        · rw [hsz]; rfl
        · rcases hw with rfl | rfl
          · exact ⟨0, rfl⟩
          · exact ⟨1, rfl⟩
      have hnot : ¬ i < s.size := hi
      have HIN := Aside0.mk hin
      have HT := Aside0.mk hT
      clear hin hsz hT hd
      gi_wp2_with fail
      refine ⟨trivial, rfl, (callsIn_wide.2 (HT.out _)).mono ?_⟩
      rintro e w' ⟨rfl, kd, rfl⟩
      have hgo : m_sentGo L 0 i a = if m_trim (L.drop a) = [] then [] else [m_trim (L.drop a)] := rfl
      have HGO := Aside0.mk hgo
      clear hgo
      by_cases hr : m_trim (L.drop a) = []
      · have hr2 : (⟨(m_trim (L.drop a)).toArray⟩ : ByteArray) = ⟨#[]⟩ := by rw [hr]
        rw [hr2]
        have HR := Aside0.mk hr
        clear hr hr2
        gi_wp2
        rw [Exit.noGoto_normal]
        refine bodyPost_end (results_none rfl _ _ _) rfl ?_
        exact ⟨⟨_, rfl⟩, .inl ⟨_, by rw [HL.out, ← HP.out, HGO.out, if_pos HR.out, List.append_nil], hJ _ _ _ hJs ⟨kd, rfl⟩⟩⟩
      · obtain ⟨x, hx⟩ : ∃ x, m_trim (L.drop a) = x := ⟨_, rfl⟩
        rw [hx] at hr
        have HX := Aside0.mk hx
        rw [hx]
        clear hx
        obtain ⟨fn, tmps, assign, body, hy, hR⟩ := hY pre x (wr.drewN kd) (hJ _ _ _ hJs ⟨kd, rfl⟩) ⟨[], by rw [HL.out, ← HP.out, HGO.out, HX.out, if_neg hr]⟩
        dsimp only [bk_sEnc] at hy
        have HY := Aside0.mk hY
        clear hY
        have hne : (x == []) = false := by simpa using hr
        have hne2 : x.isEmpty = false := by simpa using hr
        gi_wp2
        refine ⟨rfl, hR.mono ?_⟩
        rintro e W3 (⟨rfl, hJ3, hk3⟩ | ⟨rfl, hJx3⟩)
        · gi_wp2
          rw [Exit.noGoto_normal]
          refine bodyPost_end (results_none rfl _ _ _) rfl ?_
          exact ⟨⟨_, rfl⟩, .inl ⟨_, by rw [HL.out, ← HP.out, HGO.out, HX.out, if_neg hr], hJ3⟩⟩
        · gi_wp2
          rw [Exit.noGoto_normal]
          refine bodyPost_end (results_none rfl _ _ _) rfl ?_
          exact ⟨⟨_, rfl⟩, .inr ⟨_, trivial, hJx3⟩⟩
end Go.Proofs.YtpgjhjlhipikgaaDoor.PK
end
section
namespace Go.Proofs.YtpgjhjlhipikgaaDoor.PK
open Go.RowKit Go.Proofs.YtpgjhjlhipikgaaDoorW.PrintWords Go.Proofs.YtpgjhjlhipikgaaDoorW.PrintLast Go.Proofs.YtpgjhjlhipikgaaDoorW.PrintMore
attribute [local go_sem] max2_int min2_int max_two min_two max_three min_three max_four min_four   -- for this text's walks alone
set_option linter.unusedVariables false
set_option linter.unusedSimpArgs false
def block_within.f (a0 : Int) (a1 : Int) : Option (Bool) := if a0 ≥ 1 then (some (decide (a0 ≤ a1))) else (some false)
set_option maxHeartbeats 8000000 in
set_option maxRecDepth 100000 in
theorem block_within.calls (a0 : Int) (a1 : Int) (r : Bool) (w : World) (h : block_within.f a0 a1 = some r) :
    Calls Tryd.prog 41 #[.int .i64 a0, .int .i64 a1] w fun e w' => e = .returned (.bool r) ∧ Drawn0 w w' := by
  have H : (if a0 ≥ 1 then (some (decide (a0 ≤ a1))) else (some false)) = some r := h
  clear h
  by_cases c3 : a0 ≥ 1
  · rw [if_pos c3] at H
    have c3b0 : decide (1 ≤ a0) = true := decide_eq_true c3
    clear c3
    obtain rfl := Option.some.inj H
    go_enter Tryd.func41, Tryd.ntmps41
    go_wp2
    go_ret
    exact ⟨by first | rfl | (simp; done) | (simp [*]; done), by repeat (first | exact Drawn0.refl _ | apply Drawn0.step)⟩
  · rw [if_neg c3] at H
    have c3b0 : decide (1 ≤ a0) = false := decide_eq_false c3
    clear c3
    obtain rfl := Option.some.inj H
    go_enter Tryd.func41, Tryd.ntmps41
    go_wp2
    go_ret
    exact ⟨by first | rfl | (simp; done) | (simp [*]; done), by repeat (first | exact Drawn0.refl _ | apply Drawn0.step)⟩
end Go.Proofs.YtpgjhjlhipikgaaDoor.PK
end
section
namespace Go.Proofs.YtpgjhjlhipikgaaDoor.PK
open Go.RowKit Go.Proofs.YtpgjhjlhipikgaaDoorW.PrintWords Go.Proofs.YtpgjhjlhipikgaaDoorW.PrintLast Go.Proofs.YtpgjhjlhipikgaaDoorW.PrintMore
attribute [local go_sem] max2_int min2_int max_two min_two max_three min_three max_four min_four   -- for this text's walks alone
set_option linter.unusedVariables false
set_option linter.unusedSimpArgs false
def block_isName.f (a0 : ByteArray) : Option Bool := some (m_name a0)
def bk_nameOdd (r : Nat) : Bool := (decide (r < 97) || decide (122 < r)) && (decide (r < 48) || decide (57 < r)) && (r != 45)
theorem bk_oddName (w : World) : Go.Proofs.PredAt Tryd.prog 92 #[] encR bk_nameOdd w := fun W r _ => by
  unfold FnGives bk_nameOdd
  by_cases h1 : r < 97 <;> by_cases h2 : 122 < r <;> by_cases h3 : r < 48 <;> by_cases h4 : 57 < r <;> by_cases h5 : r = 45
  all_goals first
    | (exfalso; omega)
    | (have z1 : (r : Int) < 97 ↔ r < 97 := by omega
       have z2 : (122 : Int) < (r : Int) ↔ 122 < r := by omega
       have z3 : (r : Int) < 48 ↔ r < 48 := by omega
       have z4 : (57 : Int) < (r : Int) ↔ 57 < r := by omega
       have z5 : ((r : Int) == 45) = decide (r = 45) := by rw [Bool.eq_iff_iff]; simp; omega
       have z6 : ((r : Int) != 45) = !decide (r = 45) := by rw [bne, z5]
       go_enter Tryd.func92, Tryd.ntmps92
       go_wp2
       all_goals first | (exfalso; omega) | (go_ret; exact ⟨by simp [h1, h2, h3, h4, h5], 0, rfl⟩))
set_option maxHeartbeats 1000000 in
theorem bk_isName (s : ByteArray) (w : World) :
    Calls Tryd.prog 69 #[.string s] w fun e w' => e = .returned (.bool (m_name s)) ∧ Below w.heap.size w w' := by
  have hC := Tryd.strings_IndexFunc 92 #[] (enters_of Tryd.func92 (by kernel_rfl) rfl) _ s w (bk_oddName w)
  have hx := Bk.idx_all bk_nameOdd (fun r h => by simp [bk_nameOdd] <;> omega) s
  have hy : s.data.toList.all (fun c => !bk_nameOdd c.toNat) = s.data.toList.all (fun c => (decide (97 ≤ c.toNat) && decide (c.toNat ≤ 122)) || (decide (48 ≤ c.toNat) && decide (c.toNat ≤ 57)) || c.toNat == 45) := by
    congr 1; funext c; rw [Bool.eq_iff_iff]; simp [bk_nameOdd] <;> omega
  have hz : m_name s = ((decide (1 ≤ s.size) && decide (s.size ≤ 20)) && decide (Lib.idxFunc bk_nameOdd true s < 0)) := by rw [hx]; unfold m_name; rw [← hy]
  have HZ := Aside0.mk hz
  clear hx hy hz
  generalize Lib.idxFunc bk_nameOdd true s = I at hC HZ
  by_cases h1 : 1 ≤ s.size <;> by_cases h2 : s.size ≤ 20
  all_goals
    have z1 : (1 : Int) ≤ (s.size : Int) ↔ 1 ≤ s.size := by omega
    have z2 : (s.size : Int) ≤ 20 ↔ s.size ≤ 20 := by omega
    go_enter Tryd.func69, Tryd.ntmps69
    go_wp2_with (first | (go_at_call 73; refine hC.mono ?_; rintro e w' ⟨rfl, hb⟩) | go_in)
    all_goals first | (exfalso; omega) | (go_ret; exact ⟨by rw [HZ.out]; simp [h1, h2], by first | assumption | exact Below.refl _ _⟩)
theorem block_isName.calls (a0 : ByteArray) (r : Bool) (w : World) (h : block_isName.f a0 = some r) :
    Calls Tryd.prog 69 #[.string a0] w fun e w' => e = .returned (.bool r) ∧ Below w.heap.size w w' := by
  obtain rfl := Option.some.inj h
  exact bk_isName a0 w
end Go.Proofs.YtpgjhjlhipikgaaDoor.PK
end
section
namespace Go.Proofs.YtpgjhjlhipikgaaDoor.PK
open Go.RowKit Go.Proofs.YtpgjhjlhipikgaaDoorW.PrintWords Go.Proofs.YtpgjhjlhipikgaaDoorW.PrintLast Go.Proofs.YtpgjhjlhipikgaaDoorW.PrintMore
attribute [local go_sem] max2_int min2_int max_two min_two max_three min_three max_four min_four   -- for this text's walks alone
set_option linter.unusedVariables false
set_option linter.unusedSimpArgs false
def label_within.l0 : Nat → Int → Int → List Int → Int → Int → Option (Bool)
  | 0, _, _, _, _, _ => none
  | k + 1, x0, x1, x9, x10, x11 => if x11 < x10 then (if 0 ≤ x11 then (if x11 < (x9.length : Int) then (if (rd x9 x11) < x0 then (some false) else (if (rd x9 x11) > x1 then (some false) else (label_within.l0 k x0 x1 x9 x10 (wrap64 (x11 + 1))))) else (none)) else (none)) else (some true)
def label_within.f (k : Nat) (a0 : Int) (a1 : Int) (l2 : List Int) : Option (Bool) := label_within.l0 k a0 a1 l2 (l2.length : Int) 0
theorem label_within.mono_l : ∀ k, (∀ y0 y1 y2 y3 y4, LeO (label_within.l0 k y0 y1 y2 y3 y4) (label_within.l0 (k + 1) y0 y1 y2 y3 y4))
  | 0 => fun _ _ _ _ _ r h => by simp [label_within.l0] at h
  | k + 1 => by
    have ih0 := label_within.mono_l k
    · intro y0 y1 y2 y3 y4
      unfold label_within.l0
      repeat' first
      | (with_reducible exact ih0 _ _ _ _ _)
      | (with_reducible exact LeO.refl _)
      | (with_reducible exact LeO.none _)
      | (with_reducible refine LeO.ite ?_ ?_)
      | (with_reducible refine LeO.bind ?_ (fun _ => ?_))
      | exact ih0 _ _ _ _ _
      | exact LeO.none _
      | refine LeO.ite ?_ ?_
      | refine LeO.bind ?_ (fun _ => ?_)
theorem label_within.mono : ∀ a0 a1 a2 k, LeO (label_within.f k a0 a1 a2) (label_within.f (k + 1) a0 a1 a2) := by
  intro a0 a1 a2 k
  have ih0 := label_within.mono_l k
  unfold label_within.f
  repeat' first
      | (with_reducible exact ih0 _ _ _ _ _)
      | (with_reducible exact LeO.refl _)
      | (with_reducible exact LeO.none _)
      | (with_reducible refine LeO.ite ?_ ?_)
      | (with_reducible refine LeO.bind ?_ (fun _ => ?_))
      | exact ih0 _ _ _ _ _
      | exact LeO.none _
      | refine LeO.ite ?_ ?_
      | refine LeO.bind ?_ (fun _ => ?_)
set_option maxHeartbeats 8000000 in
set_option maxRecDepth 100000 in
theorem label_within.calls (k : Nat) (a0 : Int) (a1 : Int) (A2 : Option Addr) (c2 : Nat) (l2 : List Int) (r : Bool) (w : World) (hr2 : Kd.C (Kd.int .i64) w A2 l2.length l2) (hc2 : l2.length ≤ c2) (h : label_within.f k a0 a1 l2 = some r) :
    Calls Tryd.prog 70 #[.int .i64 a0, .int .i64 a1, .slice A2 l2.length c2] w fun e w' => e = .returned (.bool r) ∧ Drawn0 w w' := by
  have HR2 := Aside0.mk hr2
  have HC2 := Aside0.mk hc2
  clear hr2 hc2
  have H : (label_within.l0 k a0 a1 l2 (l2.length : Int) 0) = some r := h
  clear h
  have H' := Aside0.mk H
  clear H
  go_enter Tryd.func70, Tryd.ntmps70
  go_wp2
  go_loopg [11] k (fun kq v11 w' => ∃ (x11_1 : Int), v11 = .int .i64 x11_1 ∧ Aside0 (label_within.l0 kq a0 a1 l2 (l2.length : Int) x11_1 = some r) ∧ Aside0 (kq ≤ k) ∧ Drawn0 w w')
  case atStart => exact ⟨(0), (by first | rfl | (simp; done) | (simp [*]; done)), H', ⟨Nat.le_refl _⟩, by repeat (first | exact Drawn0.refl _ | apply Drawn0.step)⟩
  case round =>
    clear H'
    try clear c2
    try clear p2
    obtain ⟨x11_1, rfl, HA, HK1, ⟨m1, rfl⟩⟩ := hrel
    cases gk with
    | zero => exact absurd HA.out (by simp [label_within.l0])
    | succ k1 =>
      have H := HA.out
      clear HA
      simp only [label_within.l0] at H
      by_cases c4 : x11_1 < (l2.length : Int)
      · rw [if_pos c4] at H
        have c4b0 : decide (x11_1 < (l2.length : Int)) = true := decide_eq_true c4
        clear c4
        by_cases c5 : 0 ≤ x11_1
        · rw [if_pos c5] at H
          have c5b0 : decide (0 ≤ x11_1) = true := decide_eq_true c5
          clear c5
          by_cases c6 : x11_1 < (l2.length : Int)
          · rw [if_pos c6] at H
            have c6b0 : decide (x11_1 < (l2.length : Int)) = true := decide_eq_true c6
            clear c6
            by_cases c7 : (rd l2 x11_1) < a0
            · rw [if_pos c7] at H
              have c7b0 : decide ((rd l2 x11_1) < a0) = true := decide_eq_true c7
              clear c7
              obtain rfl := Option.some.inj H
              have p105 : 0 ≤ (x11_1 : Int) := of_decide_eq_true (by first | (with_reducible assumption) | assumption)
              have q105 : x11_1 < (l2.length : Int) := of_decide_eq_true (by first | (with_reducible assumption) | assumption)
              obtain ⟨ad105, e105, hx105_0⟩ := Kd.at_int HR2.out x11_1 p105 q105
              cases e105
              replace p105 := eq_true p105
              replace q105 := eq_true q105
              go_wp2
              go_ret
              exact ⟨by first | rfl | (simp; done) | (simp [*]; done), by repeat (first | exact Drawn0.refl _ | apply Drawn0.step)⟩
            · rw [if_neg c7] at H
              have c7b0 : decide ((rd l2 x11_1) < a0) = false := decide_eq_false c7
              clear c7
              by_cases c8 : (rd l2 x11_1) > a1
              · rw [if_pos c8] at H
                have c8b0 : decide (a1 < (rd l2 x11_1)) = true := decide_eq_true c8
                clear c8
                obtain rfl := Option.some.inj H
                have p105 : 0 ≤ (x11_1 : Int) := of_decide_eq_true (by first | (with_reducible assumption) | assumption)
                have q105 : x11_1 < (l2.length : Int) := of_decide_eq_true (by first | (with_reducible assumption) | assumption)
                obtain ⟨ad105, e105, hx105_0⟩ := Kd.at_int HR2.out x11_1 p105 q105
                cases e105
                replace p105 := eq_true p105
                replace q105 := eq_true q105
                go_wp2
                go_ret
                exact ⟨by first | rfl | (simp; done) | (simp [*]; done), by repeat (first | exact Drawn0.refl _ | apply Drawn0.step)⟩
              · rw [if_neg c8] at H
                have c8b0 : decide (a1 < (rd l2 x11_1)) = false := decide_eq_false c8
                clear c8
                have H' := Aside0.mk H
                clear H
                have p105 : 0 ≤ (x11_1 : Int) := of_decide_eq_true (by first | (with_reducible assumption) | assumption)
                have q105 : x11_1 < (l2.length : Int) := of_decide_eq_true (by first | (with_reducible assumption) | assumption)
                obtain ⟨ad105, e105, hx105_0⟩ := Kd.at_int HR2.out x11_1 p105 q105
                cases e105
                replace p105 := eq_true p105
                replace q105 := eq_true q105
                go_wp2
                go_roundg k1
                case measure => have := HK1.out; omega
                case rel => exact ⟨(wrap64 (x11_1 + 1)), (by first | rfl | (simp; done) | (simp [*]; done)), H', ⟨by have := HK1.out; omega⟩, by repeat (first | exact Drawn0.refl _ | apply Drawn0.step)⟩
          · rw [if_neg c6] at H
            exact absurd H (by simp)
        · rw [if_neg c5] at H
          exact absurd H (by simp)
      · rw [if_neg c4] at H
        have c4b0 : decide (x11_1 < (l2.length : Int)) = false := decide_eq_false c4
        clear c4
        obtain rfl := Option.some.inj H
        go_wp2
        go_ret
        exact ⟨by first | rfl | (simp; done) | (simp [*]; done), by repeat (first | exact Drawn0.refl _ | apply Drawn0.step)⟩
end Go.Proofs.YtpgjhjlhipikgaaDoor.PK
end
section
namespace Go.Proofs.YtpgjhjlhipikgaaDoor.PK
open Go.RowKit Go.Proofs.YtpgjhjlhipikgaaDoorW.PrintWords Go.Proofs.YtpgjhjlhipikgaaDoorW.PrintLast Go.Proofs.YtpgjhjlhipikgaaDoorW.PrintMore
attribute [local go_sem] max2_int min2_int max_two min_two max_three min_three max_four min_four   -- for this text's walks alone
set_option linter.unusedVariables false
set_option linter.unusedSimpArgs false
def label_ascending_int.l0 : Nat → List Int → Int → Option (Bool)
  | 0, _, _ => none
  | k + 1, x0, x3 => if x3 < (x0.length : Int) then (if 0 ≤ (wrap64 (x3 - 1)) then (if (wrap64 (x3 - 1)) < (x0.length : Int) then (if 0 ≤ x3 then (if (rd x0 (wrap64 (x3 - 1))) ≥ (rd x0 x3) then (some false) else (label_ascending_int.l0 k x0 (wrap64 (x3 + 1)))) else (none)) else (none)) else (none)) else (some true)
def label_ascending_int.f (k : Nat) (l0 : List Int) : Option (Bool) := label_ascending_int.l0 k l0 1
theorem label_ascending_int.mono_l : ∀ k, (∀ y0 y1, LeO (label_ascending_int.l0 k y0 y1) (label_ascending_int.l0 (k + 1) y0 y1))
  | 0 => fun _ _ r h => by simp [label_ascending_int.l0] at h
  | k + 1 => by
    have ih0 := label_ascending_int.mono_l k
    · intro y0 y1
      unfold label_ascending_int.l0
      repeat' first
      | (with_reducible exact ih0 _ _)
      | (with_reducible exact LeO.refl _)
      | (with_reducible exact LeO.none _)
      | (with_reducible refine LeO.ite ?_ ?_)
      | (with_reducible refine LeO.bind ?_ (fun _ => ?_))
      | exact ih0 _ _
      | exact LeO.none _
      | refine LeO.ite ?_ ?_
      | refine LeO.bind ?_ (fun _ => ?_)
theorem label_ascending_int.mono : ∀ a0 k, LeO (label_ascending_int.f k a0) (label_ascending_int.f (k + 1) a0) := by
  intro a0 k
  have ih0 := label_ascending_int.mono_l k
  unfold label_ascending_int.f
  repeat' first
      | (with_reducible exact ih0 _ _)
      | (with_reducible exact LeO.refl _)
      | (with_reducible exact LeO.none _)
      | (with_reducible refine LeO.ite ?_ ?_)
      | (with_reducible refine LeO.bind ?_ (fun _ => ?_))
      | exact ih0 _ _
      | exact LeO.none _
      | refine LeO.ite ?_ ?_
      | refine LeO.bind ?_ (fun _ => ?_)
set_option maxHeartbeats 8000000 in
set_option maxRecDepth 100000 in
theorem label_ascending_int.calls (k : Nat) (A0 : Option Addr) (c0 : Nat) (l0 : List Int) (r : Bool) (w : World) (hr0 : Kd.C (Kd.int .i64) w A0 l0.length l0) (hc0 : l0.length ≤ c0) (h : label_ascending_int.f k l0 = some r) :
    Calls Tryd.prog 71 #[.slice A0 l0.length c0] w fun e w' => e = .returned (.bool r) ∧ Drawn0 w w' := by
  have HR0 := Aside0.mk hr0
  have HC0 := Aside0.mk hc0
  clear hr0 hc0
  have H : (label_ascending_int.l0 k l0 1) = some r := h
  clear h
  have H' := Aside0.mk H
  clear H
  go_enter Tryd.func71, Tryd.ntmps71
  go_wp2
  repeat (go_quiet (fail); try go_wp2)
  go_loopg [3] k (fun kq v3 w' => ∃ (x3_1 : Int), v3 = .int .i64 x3_1 ∧ Aside0 (label_ascending_int.l0 kq l0 x3_1 = some r) ∧ Aside0 (kq ≤ k) ∧ Drawn0 w w')
  case atStart => exact ⟨(1), (by first | rfl | (simp; done) | (simp [*]; done)), H', ⟨Nat.le_refl _⟩, by repeat (first | exact Drawn0.refl _ | apply Drawn0.step)⟩
  case round =>
    clear H'
    obtain ⟨x3_1, rfl, HA, HK1, ⟨m1, rfl⟩⟩ := hrel
    cases gk with
    | zero => exact absurd HA.out (by simp [label_ascending_int.l0])
    | succ k1 =>
      have H := HA.out
      clear HA
      simp only [label_ascending_int.l0] at H
      by_cases c2 : x3_1 < (l0.length : Int)
      · rw [if_pos c2] at H
        have c2b0 : decide (x3_1 < (l0.length : Int)) = true := decide_eq_true c2
        clear c2
        obtain ⟨ji3, hji3⟩ : ∃ j_ : Int, (wrap64 (x3_1 - 1)) = j_ := ⟨_, rfl⟩
        replace H : (if 0 ≤ (ji3) then (if (ji3) < (l0.length : Int) then (if 0 ≤ x3_1 then (if (rd l0 (ji3)) ≥ (rd l0 x3_1) then (some false) else (label_ascending_int.l0 k1 l0 (wrap64 (x3_1 + 1)))) else (none)) else (none)) else (none)) = some r := by first | (rw [hji3] at H; exact H) | (simp only [hji3] at H ⊢; exact H)
        have hji3w : (IntKind.i64.wrap (x3_1 - 1)) = ji3 := (i64_w _).trans hji3
        by_cases c4 : 0 ≤ (ji3)
        · rw [if_pos c4] at H
          have c4b0 : decide (0 ≤ (ji3)) = true := decide_eq_true c4
          clear c4
          by_cases c5 : (ji3) < (l0.length : Int)
          · rw [if_pos c5] at H
            have c5b0 : decide ((ji3) < (l0.length : Int)) = true := decide_eq_true c5
            clear c5
            by_cases c6 : 0 ≤ x3_1
            · rw [if_pos c6] at H
              have c6b0 : decide (0 ≤ x3_1) = true := decide_eq_true c6
              clear c6
              by_cases c7 : (rd l0 (ji3)) ≥ (rd l0 x3_1)
              · rw [if_pos c7] at H
                have c7b0 : decide ((rd l0 x3_1) ≤ (rd l0 (ji3))) = true := decide_eq_true c7
                clear c7
                obtain rfl := Option.some.inj H
                have p106 : 0 ≤ ((ji3) : Int) := of_decide_eq_true (by first | (with_reducible assumption) | assumption)
                have q106 : (ji3) < (l0.length : Int) := of_decide_eq_true (by first | (with_reducible assumption) | assumption)
                obtain ⟨ad106, e106, hx106_0⟩ := Kd.at_int HR0.out (ji3) p106 q106
                cases e106
                replace p106 := eq_true p106
                replace q106 := eq_true q106
                have p107 : 0 ≤ (x3_1 : Int) := of_decide_eq_true (by first | (with_reducible assumption) | assumption)
                have q107 : x3_1 < (l0.length : Int) := of_decide_eq_true (by first | (with_reducible assumption) | assumption)
                obtain ⟨ad107, e107, hx107_0⟩ := Kd.at_int HR0.out x3_1 p107 q107
                obtain rfl : ad106 = ad107 := (by injection e107)
                replace p107 := eq_true p107
                replace q107 := eq_true q107
                go_wp2
                repeat (go_quiet (fail); try go_wp2)
                go_ret
                exact ⟨by first | rfl | (simp; done) | (simp only [← hji3] <;> (first | rfl | simp)) | (simp [*]; done), by repeat (first | exact Drawn0.refl _ | apply Drawn0.step)⟩
              · rw [if_neg c7] at H
                have c7b0 : decide ((rd l0 x3_1) ≤ (rd l0 (ji3))) = false := decide_eq_false c7
                clear c7
                have H' := Aside0.mk H
                clear H
                have p106 : 0 ≤ ((ji3) : Int) := of_decide_eq_true (by first | (with_reducible assumption) | assumption)
                have q106 : (ji3) < (l0.length : Int) := of_decide_eq_true (by first | (with_reducible assumption) | assumption)
                obtain ⟨ad106, e106, hx106_0⟩ := Kd.at_int HR0.out (ji3) p106 q106
                cases e106
                replace p106 := eq_true p106
                replace q106 := eq_true q106
                have p107 : 0 ≤ (x3_1 : Int) := of_decide_eq_true (by first | (with_reducible assumption) | assumption)
                have q107 : x3_1 < (l0.length : Int) := of_decide_eq_true (by first | (with_reducible assumption) | assumption)
                obtain ⟨ad107, e107, hx107_0⟩ := Kd.at_int HR0.out x3_1 p107 q107
                obtain rfl : ad106 = ad107 := (by injection e107)
                replace p107 := eq_true p107
                replace q107 := eq_true q107
                go_wp2
                repeat (go_quiet (fail); try go_wp2)
                go_roundg k1
                case measure => have := HK1.out; omega
                case rel => exact ⟨(wrap64 (x3_1 + 1)), (by first | rfl | (simp; done) | (simp [*]; done)), H', ⟨by have := HK1.out; omega⟩, by repeat (first | exact Drawn0.refl _ | apply Drawn0.step)⟩
            · rw [if_neg c6] at H
              exact absurd H (by simp)
          · rw [if_neg c5] at H
            exact absurd H (by simp)
        · rw [if_neg c4] at H
          exact absurd H (by simp)
      · rw [if_neg c2] at H
        have c2b0 : decide (x3_1 < (l0.length : Int)) = false := decide_eq_false c2
        clear c2
        obtain rfl := Option.some.inj H
        go_wp2
        repeat (go_quiet (fail); try go_wp2)
        go_ret
        exact ⟨by first | rfl | (simp; done) | (simp [*]; done), by repeat (first | exact Drawn0.refl _ | apply Drawn0.step)⟩
end Go.Proofs.YtpgjhjlhipikgaaDoor.PK
end
