/- Texts of this claim, one behind the other. -/
import Derived.Test.YtkhgdglaophkbaaGreatDoorMUx2
import Derived.Maps.OwnIn
import Derived.WalkKit
import Derived.RangeFuncNested
import Derived.RangeFuncLeaves
import Derived.OwnWalkIn
import Derived.TacticsInMore
import Derived.LoopNIn
import Derived.LoopIn
import Derived.Laws.EntriesVeiled
section
set_option linter.unusedVariables false
set_option linter.unusedSimpArgs false
namespace Go.Proofs.YtkhgdglaophkbaaGreatDoor.PK
open Go.RowKit Go.Proofs.YtkhgdglaophkbaaGreatDoorW.PrintWords Go.Proofs.YtkhgdglaophkbaaGreatDoorW.PrintLast Go.Proofs.YtkhgdglaophkbaaGreatDoorW.PrintMore
def cB {σ α β : Type} (x : Except Int (α × σ)) (k : α → σ → Except Int β) : Except Int β := match x with
  | .error e => .error e
  | .ok (a, s) => k a s
theorem cB_ok {σ α β : Type} {x : Except Int (α × σ)} {k : α → σ → Except Int β} {a : α} {s : σ} (h : x = .ok (a, s)) : cB x k = k a s := by rw [h]; rfl
theorem cB_err {σ α β : Type} {x : Except Int (α × σ)} {k : α → σ → Except Int β} {e : Int} (h : x = .error e) : cB x k = .error e := by rw [h]; rfl
theorem cB_rd {α β : Type} (one : Rd α) (k : α → List UInt8 → Except Int β) (l : List UInt8) : cB (one l) k = rdBind one k l := by
  unfold rdBind cB; cases one l with
  | error e => rfl
  | ok p => rfl
theorem cB_assoc {σ α β γ : Type} (x : Except Int (α × σ)) (k : α → σ → Except Int (β × σ)) (j : β → σ → Except Int γ) : cB (cB x k) j = cB x (fun a s => cB (k a s) j) := by
  cases x with
  | error e => rfl
  | ok p => rfl
structure Cd (σ : Type) where mk ::
  num : Int → σ → Except Int (Int × σ)
  txt : ByteArray → σ → Except Int (ByteArray × σ)
  cnt : Int → Int → σ → Except Int (Int × σ)
  blk : List Bl → σ → Except Int (List Bl × σ)
section
variable {σ : Type}
def c_nums (c : Cd σ) : Nat → List Int → σ → Except Int (List Int × σ)
  | 0, xs, s => .ok (xs, s)
  | n + 1, xs, s => cB (c.num (xs.headD 0) s) fun y s => cB (c_nums c n xs.tail s) fun ys s => .ok (y :: ys, s)
def c_txts (c : Cd σ) : Nat → List ByteArray → σ → Except Int (List ByteArray × σ)
  | 0, xs, s => .ok (xs, s)
  | n + 1, xs, s => cB (c.txt (xs.headD ⟨#[]⟩) s) fun y s => cB (c_txts c n xs.tail s) fun ys s => .ok (y :: ys, s)
def c_label (c : Cd σ) (l : Lb) (s : σ) : Except Int (Lb × σ) :=
  cB (c.num l.f0 s) fun u s => cB (c.cnt 64 l.f1.length s) fun n s => cB (c_nums c n.toNat l.f1 s) fun xs s => cB (c.num l.f2 s) fun a s => cB (c.num l.f3 s) fun d s => .ok (⟨u, xs, a, d⟩, s)
def c_topics (c : Cd σ) (l : List ByteArray) (s : σ) : Except Int (List ByteArray × σ) := cB (c.cnt 4 l.length s) fun n s => c_txts c n.toNat l s
def c_k1 (c : Cd σ) (f : Fa) (s : σ) : Except Int (Fa × σ) := cB (c.num f.f3 s) fun x3 s => cB (c.txt f.f4 s) fun x4 s => cB (c.num f.f5 s) fun x5 s => cB (c.num f.f6 s) fun x6 s => cB (c.txt f.f7 s) fun x7 s => cB (c.txt f.f8 s) fun x8 s => cB (c_topics c f.f9 s) fun x9 s => cB (c.blk f.f10 s) fun x10 s => cB (c_label c f.f11 s) fun x11 s => .ok ({ f with f3 := x3, f4 := x4, f5 := x5, f6 := x6, f7 := x7, f8 := x8, f9 := x9, f10 := x10, f11 := x11 }, s)
def c_k2 (c : Cd σ) (f : Fa) (s : σ) : Except Int (Fa × σ) := cB (c.num f.f3 s) fun x3 s => cB (c.num f.f12 s) fun x12 s => .ok ({ f with f3 := x3, f12 := x12 }, s)
def c_k3 (c : Cd σ) (f : Fa) (s : σ) : Except Int (Fa × σ) := cB (c.num f.f3 s) fun x3 s => cB (c_label c f.f11 s) fun x11 s => .ok ({ f with f3 := x3, f11 := x11 }, s)
def c_k4 (c : Cd σ) (f : Fa) (s : σ) : Except Int (Fa × σ) := cB (c.num f.f3 s) fun x3 s => cB (c.txt f.f4 s) fun x4 s => cB (c.num f.f13 s) fun x13 s => cB (c.num f.f14 s) fun x14 s => cB (c.txt f.f15 s) fun x15 s => .ok ({ f with f3 := x3, f4 := x4, f13 := x13, f14 := x14, f15 := x15 }, s)
def c_k5 (c : Cd σ) (f : Fa) (s : σ) : Except Int (Fa × σ) := cB (c.num f.f3 s) fun x3 s => cB (c.txt f.f15 s) fun x15 s => .ok ({ f with f3 := x3, f15 := x15 }, s)
def c_k6 (c : Cd σ) (f : Fa) (s : σ) : Except Int (Fa × σ) := cB (c.num f.f3 s) fun x3 s => .ok ({ f with f3 := x3 }, s)
def c_k7 (c : Cd σ) (f : Fa) (s : σ) : Except Int (Fa × σ) := cB (c.txt f.f16 s) fun x16 s => cB (c.txt f.f15 s) fun x15 s => .ok ({ f with f16 := x16, f15 := x15 }, s)
def c_k8 (c : Cd σ) (f : Fa) (s : σ) : Except Int (Fa × σ) := cB (c.num f.f17 s) fun x17 s => cB (c.num f.f18 s) fun x18 s => cB (c.num f.f19 s) fun x19 s => .ok ({ f with f17 := x17, f18 := x18, f19 := x19 }, s)
def c_k9 (c : Cd σ) (f : Fa) (s : σ) : Except Int (Fa × σ) := cB (c.num f.f17 s) fun x17 s => cB (c.num f.f19 s) fun x19 s => .ok ({ f with f17 := x17, f19 := x19 }, s)
def m_kind (k : Int) : Bool := decide (1 ≤ k) && decide (k ≤ 10)
def c_fields (c : Cd σ) (f : Fa) (s : σ) : Except Int (Fa × σ) :=
  if f.f2 = 1 then c_k1 c f s else if f.f2 = 2 then c_k2 c f s else if f.f2 = 3 then c_k3 c f s else if f.f2 = 4 then c_k4 c f s else if f.f2 = 5 then c_k5 c f s else if f.f2 = 6 ∨ f.f2 = 10 then c_k6 c f s else if f.f2 = 7 then c_k7 c f s else if f.f2 = 8 then c_k8 c f s else if f.f2 = 9 then c_k9 c f s else .ok (f, s)
def c_fact (c : Cd σ) (f : Fa) (s : σ) : Except Int (Fa × σ) :=
  cB (c.num f.f0 s) fun x0 s => cB (c.num f.f1 s) fun x1 s => cB (c.num f.f2 s) fun x2 s => c_fields c { f with f0 := x0, f1 := x1, f2 := x2 } s
end
def putS (t : ByteArray) : List UInt8 := if t.size ≤ 65536 then m_str t.data.toList else []
def wrC : Cd (List UInt8) where
  num n s := .ok (n, s ++ (m_putInt n).1.data.toList)
  txt t s := .ok (t, s ++ putS t)
  cnt _ n s := .ok (n, s ++ (m_putInt n).1.data.toList)
  blk l s := .ok (l, s ++ putS (m_encode l).1)
def rdT : Rd ByteArray := fun l => rdBind rdS (fun t l => .ok (⟨t.toArray⟩, l)) l
def rdCnt (most : Int) : Rd Int := fun l => rdBind rdI (fun n l => if n < 0 ∨ most < n then .error 50 else .ok (n, l)) l
def rdBk : Rd (List Bl) := fun l => rdBind rdT (fun t l => if (m_decode t).2 = 0 then .ok ((m_decode t).1, l) else .error 50) l
def rdC : Cd (List UInt8) where
  num _ s := rdI s
  txt _ s := rdT s
  cnt most _ s := rdCnt most s
  blk _ s := rdBk s
def m_fdecode (s : ByteArray) : Fa × Int := match c_fact rdC zFa s.data.toList with
  | .error e => (zFa, e)
  | .ok (f, r) => if m_kind f.f2 = false then (zFa, 50) else if r ≠ [] then (zFa, 10) else if m_fvalid f then (f, 0) else (zFa, 50)
def encT (t : ByteArray) : List UInt8 := m_str t.data.toList
def encTs (l : List ByteArray) : List UInt8 := m_int l.length ++ l.flatMap encT
def encBk (l : List Bl) : List UInt8 := m_str (m_enc l)
def encLb (l : Lb) : List UInt8 := m_int l.f0 ++ (m_int l.f1.length ++ l.f1.flatMap m_int) ++ m_int l.f2 ++ m_int l.f3
def okTs (l : List ByteArray) : Prop := l.length ≤ 4 ∧ ∀ t ∈ l, t.size ≤ 65536
def okLb (l : Lb) : Prop := m_fits l.f0 = true ∧ (l.f1.length ≤ 64 ∧ ∀ x ∈ l.f1, m_fits x = true) ∧ m_fits l.f2 = true ∧ m_fits l.f3 = true
def enc_k1 (f : Fa) : List UInt8 := m_int f.f3 ++ encT f.f4 ++ m_int f.f5 ++ m_int f.f6 ++ encT f.f7 ++ encT f.f8 ++ encTs f.f9 ++ encBk f.f10 ++ encLb f.f11
def set_k1 (f g : Fa) : Fa := { f with f3 := g.f3, f4 := g.f4, f5 := g.f5, f6 := g.f6, f7 := g.f7, f8 := g.f8, f9 := g.f9, f10 := g.f10, f11 := g.f11 }
def ok_k1 (f : Fa) : Prop := m_fits f.f3 = true ∧ f.f4.size ≤ 65536 ∧ m_fits f.f5 = true ∧ m_fits f.f6 = true ∧ f.f7.size ≤ 65536 ∧ f.f8.size ≤ 65536 ∧ okTs f.f9 ∧ m_validL f.f10 = true ∧ okLb f.f11
def enc_k2 (f : Fa) : List UInt8 := m_int f.f3 ++ m_int f.f12
def set_k2 (f g : Fa) : Fa := { f with f3 := g.f3, f12 := g.f12 }
def ok_k2 (f : Fa) : Prop := m_fits f.f3 = true ∧ m_fits f.f12 = true
def enc_k3 (f : Fa) : List UInt8 := m_int f.f3 ++ encLb f.f11
def set_k3 (f g : Fa) : Fa := { f with f3 := g.f3, f11 := g.f11 }
def ok_k3 (f : Fa) : Prop := m_fits f.f3 = true ∧ okLb f.f11
def enc_k4 (f : Fa) : List UInt8 := m_int f.f3 ++ encT f.f4 ++ m_int f.f13 ++ m_int f.f14 ++ encT f.f15
def set_k4 (f g : Fa) : Fa := { f with f3 := g.f3, f4 := g.f4, f13 := g.f13, f14 := g.f14, f15 := g.f15 }
def ok_k4 (f : Fa) : Prop := m_fits f.f3 = true ∧ f.f4.size ≤ 65536 ∧ m_fits f.f13 = true ∧ m_fits f.f14 = true ∧ f.f15.size ≤ 65536
def enc_k5 (f : Fa) : List UInt8 := m_int f.f3 ++ encT f.f15
def set_k5 (f g : Fa) : Fa := { f with f3 := g.f3, f15 := g.f15 }
def ok_k5 (f : Fa) : Prop := m_fits f.f3 = true ∧ f.f15.size ≤ 65536
def enc_k6 (f : Fa) : List UInt8 := m_int f.f3
def set_k6 (f g : Fa) : Fa := { f with f3 := g.f3 }
def ok_k6 (f : Fa) : Prop := m_fits f.f3 = true
def enc_k7 (f : Fa) : List UInt8 := encT f.f16 ++ encT f.f15
def set_k7 (f g : Fa) : Fa := { f with f16 := g.f16, f15 := g.f15 }
def ok_k7 (f : Fa) : Prop := f.f16.size ≤ 65536 ∧ f.f15.size ≤ 65536
def enc_k8 (f : Fa) : List UInt8 := m_int f.f17 ++ m_int f.f18 ++ m_int f.f19
def set_k8 (f g : Fa) : Fa := { f with f17 := g.f17, f18 := g.f18, f19 := g.f19 }
def ok_k8 (f : Fa) : Prop := m_fits f.f17 = true ∧ m_fits f.f18 = true ∧ m_fits f.f19 = true
def enc_k9 (f : Fa) : List UInt8 := m_int f.f17 ++ m_int f.f19
def set_k9 (f g : Fa) : Fa := { f with f17 := g.f17, f19 := g.f19 }
def ok_k9 (f : Fa) : Prop := m_fits f.f17 = true ∧ m_fits f.f19 = true
def encF (f : Fa) : List UInt8 := if f.f2 = 1 then enc_k1 f else if f.f2 = 2 then enc_k2 f else if f.f2 = 3 then enc_k3 f else if f.f2 = 4 then enc_k4 f else if f.f2 = 5 then enc_k5 f else if f.f2 = 6 ∨ f.f2 = 10 then enc_k6 f else if f.f2 = 7 then enc_k7 f else if f.f2 = 8 then enc_k8 f else if f.f2 = 9 then enc_k9 f else []
def m_fenc (f : Fa) : List UInt8 := m_int f.f0 ++ (m_int f.f1 ++ (m_int f.f2 ++ encF f))
def m_fencode (f : Fa) : ByteArray × Int := if m_fvalid f then (⟨(m_fenc f).toArray⟩, 0) else (⟨#[]⟩, 50)
theorem cf_txt : Codec rdT encT (fun t => t.size ≤ 65536) where
  back t r h := by
    unfold rdT encT
    rw [cd_bind_ok (cd_str.back _ _ (by rw [Array.length_toList]; exact h)), cd_ba]
  only l t r h := by
    unfold rdT at h
    obtain ⟨x, l1, _, o1, q1, h⟩ := cd_step cd_str _ _ h
    injection h with h
    obtain ⟨e1, e2⟩ := Prod.mk.inj h
    subst e1; subst e2
    exact ⟨by simpa [ByteArray.size] using o1, by unfold encT; rw [q1]⟩
  pre l t r p q h hl := by
    unfold rdT at h ⊢
    obtain ⟨x, l1, g1, _, _, h⟩ := cd_step cd_str _ _ h
    rcases cd_str.pre _ _ _ _ _ g1 hl with e0 | ⟨p', hl, e0⟩
    · exact .inl (cd_bind_err e0)
    rw [cd_bind_ok e0]
    injection h with h
    obtain ⟨e1, e2⟩ := Prod.mk.inj h
    subst e1; subst e2
    exact .inr ⟨p', hl, rfl⟩
theorem cf_vint_len : ∀ (k z : Nat), (m_vint k z).length ≤ k
  | 0, z => by simp [m_vint]
  | k + 1, z => by
    rw [m_vint]
    split
    · simp
    · simp only [List.length_cons]; have := cf_vint_len k (z / 128); omega
theorem cf_int_len (n : Int) : (m_int n).length ≤ 10 := cf_vint_len 10 _
theorem cf_flat_len {α : Type} (f : α → List UInt8) (c : Nat) : ∀ (l : List α), (∀ x ∈ l, (f x).length ≤ c) → (l.flatMap f).length ≤ c * l.length
  | [], _ => by simp
  | x :: l, h => by
    have h1 := h x (by simp)
    have h2 := cf_flat_len f c l (fun y hy => h y (by simp [hy]))
    rw [List.flatMap_cons, List.length_append, List.length_cons, Nat.mul_succ]; omega
theorem cf_blk_len (l : List Bl) (h : m_validL l = true) : (m_enc l).length ≤ 65536 := by
  obtain ⟨h1, h2⟩ := cd_validL_ok l h
  have hx : ∀ b ∈ l, (m_encB b).length ≤ 1100 := by
    intro b hb
    have hv : m_validB b = true := cd_fresh_ok l [] (by unfold m_validL at h; rw [Bool.and_eq_true] at h; exact h.2) b hb
    have ho := h2 b hb
    have ht : b.f2.size ≤ 300 := by
      unfold m_validB m_valid at hv
      simp only [Bool.and_eq_true] at hv
      have := hv.1.2
      unfold m_text at this
      rw [Bool.and_eq_true] at this
      exact of_decide_eq_true this.1
    have ht2 : b.f2.data.toList.length = b.f2.size := Array.length_toList
    have := cf_flat_len m_int 10 b.f5.f1 (fun x _ => cf_int_len x)
    have h64 := ho.2.2.2.2.2.2.1.1
    simp only [m_encB, m_str, List.length_append]
    have e0 := cf_int_len b.f0
    have e1 := cf_int_len b.f1
    have e2 := cf_int_len (b.f2.data.toList.length : Int)
    have e3 := cf_int_len b.f3
    have e4 := cf_int_len b.f4
    have e5 := cf_int_len b.f5.f0
    have e6 := cf_int_len (b.f5.f1.length : Int)
    have e7 := cf_int_len b.f5.f2
    have e8 := cf_int_len b.f5.f3
    omega
  have := cf_flat_len m_encB 1100 l hx
  have e := cf_int_len (l.length : Int)
  rw [m_enc, List.length_append]; omega
theorem cf_blk : Codec rdBk encBk (fun l => m_validL l = true) where
  back l r h := by
    have h1 := cf_txt.back ⟨(m_enc l).toArray⟩ r (by simpa [ByteArray.size] using cf_blk_len l h)
    have h2 := cd_decode_enc l h ⟨(m_enc l).toArray⟩ rfl
    have h3 : encBk l = encT ⟨(m_enc l).toArray⟩ := rfl
    unfold rdBk
    rw [h3, cd_bind_ok h1, h2]
    rfl
  only l xs r h := by
    unfold rdBk at h
    obtain ⟨t, l1, _, o1, q1, h⟩ := cd_step cf_txt _ _ h
    obtain ⟨ys, e, hd⟩ : ∃ ys e, m_decode t = (ys, e) := ⟨_, _, rfl⟩
    rw [hd] at h
    dsimp only at h
    by_cases he : e = 0
    · rw [if_pos he] at h
      injection h with h
      obtain ⟨e1, e2⟩ := Prod.mk.inj h
      subst e1; subst e2; subst he
      rcases cd_decoded t ys 0 hd with ⟨_, hv, hx⟩ | ⟨_, hx | hx⟩
      · refine ⟨hv, ?_⟩
        rw [cd_encode_ok _ hv] at hx
        have hx2 := (Prod.mk.inj hx).1
        rw [q1]
        unfold encBk encT
        rw [← hx2]
      · cases hx
      · cases hx
    · rw [if_neg he] at h; cases h
  pre l xs r p q h hl := by
    unfold rdBk at h ⊢
    obtain ⟨t, l1, g1, _, _, h⟩ := cd_step cf_txt _ _ h
    rcases cf_txt.pre _ _ _ _ _ g1 hl with e0 | ⟨p', hl, e0⟩
    · exact .inl (cd_bind_err e0)
    rw [cd_bind_ok e0]
    by_cases he : (m_decode t).2 = 0
    · rw [if_pos he] at h ⊢
      injection h with h
      obtain ⟨e1, e2⟩ := Prod.mk.inj h
      subst e1; subst e2
      exact .inr ⟨p', hl, rfl⟩
    · rw [if_neg he] at h; cases h
def rdLst {α : Type} (most : Int) (one : Rd α) : Rd (List α) := fun l => rdBind (rdCnt most) (fun n l => rdN one n.toNat l) l
theorem cf_lst {α : Type} {one : Rd α} {enc : α → List UInt8} {ok : α → Prop} (hc : Codec one enc ok) (most : Nat) (hm : (most : Int) ≤ 1000000) : Codec (rdLst most one) (fun xs => m_int xs.length ++ xs.flatMap enc) (fun xs => xs.length ≤ most ∧ ∀ x ∈ xs, ok x) where
  back xs r h := by
    have h1 : rdCnt most (m_int xs.length ++ (xs.flatMap enc ++ r)) = .ok ((xs.length : Int), xs.flatMap enc ++ r) := by
      unfold rdCnt
      rw [cd_bind_ok (cd_int.back _ _ ((cd_fits _).2 (by omega))), if_neg (by omega)]
    unfold rdLst
    rw [List.append_assoc, cd_bind_ok h1, Int.toNat_natCast, (cd_rdN hc xs.length).back xs r ⟨rfl, h.2⟩]
  only l xs r h := by
    unfold rdLst rdCnt at h
    rw [← cB_rd, ← cB_rd, cB_assoc, cB_rd] at h
    obtain ⟨n, l1, _, _, q_n, h⟩ := cd_step cd_int _ _ h
    by_cases h2 : n < 0 ∨ (most : Int) < n
    · rw [if_pos h2] at h; cases h
    · rw [if_neg h2] at h
      rw [cB_ok rfl] at h
      obtain ⟨⟨b1, b2⟩, b3⟩ := (cd_rdN hc _).only _ _ _ h
      refine ⟨⟨by omega, b2⟩, ?_⟩
      show _ = (m_int xs.length ++ _) ++ r
      rw [q_n, b3, b1, show ((n.toNat : Nat) : Int) = n by omega, List.append_assoc]
  pre l xs r p q h hl := by
    unfold rdLst rdCnt at h ⊢
    rw [← cB_rd, ← cB_rd, cB_assoc, cB_rd] at h ⊢
    obtain ⟨n, l1, g1, _, _, h⟩ := cd_step cd_int _ _ h
    rcases cd_int.pre _ _ _ _ _ g1 hl with h3 | ⟨p', h3, h4⟩
    · exact .inl (cd_bind_err h3)
    rw [cd_bind_ok h4]
    by_cases h2 : n < 0 ∨ (most : Int) < n
    · rw [if_pos h2] at h; cases h
    · rw [if_neg h2, cB_ok rfl] at h ⊢
      rcases (cd_rdN hc _).pre _ _ _ _ _ h h3 with h5 | ⟨p2, h5, h6⟩
      · exact .inl h5
      · exact .inr ⟨p2, h5, h6⟩
def rdTs : Rd (List ByteArray) := rdLst 4 rdT
theorem cf_topics : Codec rdTs encTs okTs := cf_lst cf_txt 4 (by omega)
theorem cf_after : Codec (rdLst 64 rdI) (fun xs => m_int xs.length ++ xs.flatMap m_int) (fun xs => xs.length ≤ 64 ∧ ∀ x ∈ xs, m_fits x = true) := cf_lst cd_int 64 (by omega)
def rdLb : Rd Lb := fun l => rdBind rdI (fun u l => rdBind (rdLst 64 rdI) (fun xs l => rdBind rdI (fun a l => rdBind rdI (fun d l => .ok (⟨u, xs, a, d⟩, l)) l) l) l) l
theorem cf_label : Codec rdLb encLb okLb where
  back x r h := by
    obtain ⟨h0, h1, h2, h3⟩ := h
    unfold rdLb
    unfold encLb
    simp only [List.append_assoc]
    rw [cd_bind_ok (cd_int.back _ _ h0)]
    rw [← List.append_assoc (m_int (x.f1.length : Int))]
    rw [cd_bind_ok (cf_after.back _ _ h1)]
    rw [cd_bind_ok (cd_int.back _ _ h2)]
    rw [cd_bind_ok (cd_int.back _ _ h3)]
  only l x r h := by
    unfold rdLb at h
    obtain ⟨x0, l0, _, o0, q_x0, h⟩ := cd_step cd_int _ _ h
    obtain ⟨x1, l1, _, o1, q_x1, h⟩ := cd_step cf_after _ _ h
    obtain ⟨x2, l2, _, o2, q_x2, h⟩ := cd_step cd_int _ _ h
    obtain ⟨x3, l3, _, o3, q_x3, h⟩ := cd_step cd_int _ _ h
    injection h with h
    obtain ⟨e1, e2⟩ := Prod.mk.inj h
    subst e1; subst e2
    refine ⟨⟨o0, o1, o2, o3⟩, ?_⟩
    rw [q_x0, q_x1, q_x2, q_x3]
    simp only [encLb, List.append_assoc]
  pre l x r p q h hl := by
    unfold rdLb at h ⊢
    obtain ⟨x0, l0, g0, _, _, h⟩ := cd_step cd_int _ _ h
    rcases cd_int.pre _ _ _ _ _ g0 hl with e0 | ⟨p0, hl, e0⟩
    · exact .inl (cd_bind_err e0)
    rw [cd_bind_ok e0]
    obtain ⟨x1, l1, g1, _, _, h⟩ := cd_step cf_after _ _ h
    rcases cf_after.pre _ _ _ _ _ g1 hl with e0 | ⟨p1, hl, e0⟩
    · exact .inl (cd_bind_err e0)
    rw [cd_bind_ok e0]
    obtain ⟨x2, l2, g2, _, _, h⟩ := cd_step cd_int _ _ h
    rcases cd_int.pre _ _ _ _ _ g2 hl with e0 | ⟨p2, hl, e0⟩
    · exact .inl (cd_bind_err e0)
    rw [cd_bind_ok e0]
    obtain ⟨x3, l3, g3, _, _, h⟩ := cd_step cd_int _ _ h
    rcases cd_int.pre _ _ _ _ _ g3 hl with e0 | ⟨p3, hl, e0⟩
    · exact .inl (cd_bind_err e0)
    rw [cd_bind_ok e0]
    injection h with h
    obtain ⟨e1, e2⟩ := Prod.mk.inj h
    subst e1; subst e2
    exact .inr ⟨p3, hl, rfl⟩
def rd_k1 (g : Fa) : Rd Fa := fun l => rdBind rdI (fun x3 l => rdBind rdT (fun x4 l => rdBind rdI (fun x5 l => rdBind rdI (fun x6 l => rdBind rdT (fun x7 l => rdBind rdT (fun x8 l => rdBind rdTs (fun x9 l => rdBind rdBk (fun x10 l => rdBind rdLb (fun x11 l => .ok ({ g with f3 := x3, f4 := x4, f5 := x5, f6 := x6, f7 := x7, f8 := x8, f9 := x9, f10 := x10, f11 := x11 }, l)) l) l) l) l) l) l) l) l) l
theorem cf_k1 (g : Fa) : Codec (rd_k1 g) enc_k1 (fun f => ok_k1 f ∧ f = set_k1 g f) where
  back x r h := by
    obtain ⟨⟨h0, h1, h2, h3, h4, h5, h6, h7, h8⟩, hs⟩ := h
    unfold rd_k1
    unfold enc_k1
    simp only [List.append_assoc]
    rw [cd_bind_ok (cd_int.back _ _ h0)]
    rw [cd_bind_ok (cf_txt.back _ _ h1)]
    rw [cd_bind_ok (cd_int.back _ _ h2)]
    rw [cd_bind_ok (cd_int.back _ _ h3)]
    rw [cd_bind_ok (cf_txt.back _ _ h4)]
    rw [cd_bind_ok (cf_txt.back _ _ h5)]
    rw [cd_bind_ok (cf_topics.back _ _ h6)]
    rw [cd_bind_ok (cf_blk.back _ _ h7)]
    rw [cd_bind_ok (cf_label.back _ _ h8)]
    exact congrArg (fun z => Except.ok (z, r)) hs.symm
  only l x r h := by
    unfold rd_k1 at h
    obtain ⟨x0, l0, _, o0, q_x0, h⟩ := cd_step cd_int _ _ h
    obtain ⟨x1, l1, _, o1, q_x1, h⟩ := cd_step cf_txt _ _ h
    obtain ⟨x2, l2, _, o2, q_x2, h⟩ := cd_step cd_int _ _ h
    obtain ⟨x3, l3, _, o3, q_x3, h⟩ := cd_step cd_int _ _ h
    obtain ⟨x4, l4, _, o4, q_x4, h⟩ := cd_step cf_txt _ _ h
    obtain ⟨x5, l5, _, o5, q_x5, h⟩ := cd_step cf_txt _ _ h
    obtain ⟨x6, l6, _, o6, q_x6, h⟩ := cd_step cf_topics _ _ h
    obtain ⟨x7, l7, _, o7, q_x7, h⟩ := cd_step cf_blk _ _ h
    obtain ⟨x8, l8, _, o8, q_x8, h⟩ := cd_step cf_label _ _ h
    injection h with h
    obtain ⟨e1, e2⟩ := Prod.mk.inj h
    subst e1; subst e2
    refine ⟨⟨⟨o0, o1, o2, o3, o4, o5, o6, o7, o8⟩, rfl⟩, ?_⟩
    rw [q_x0, q_x1, q_x2, q_x3, q_x4, q_x5, q_x6, q_x7, q_x8]
    simp only [enc_k1, List.append_assoc]
  pre l x r p q h hl := by
    unfold rd_k1 at h ⊢
    obtain ⟨x0, l0, g0, _, _, h⟩ := cd_step cd_int _ _ h
    rcases cd_int.pre _ _ _ _ _ g0 hl with e0 | ⟨p0, hl, e0⟩
    · exact .inl (cd_bind_err e0)
    rw [cd_bind_ok e0]
    obtain ⟨x1, l1, g1, _, _, h⟩ := cd_step cf_txt _ _ h
    rcases cf_txt.pre _ _ _ _ _ g1 hl with e0 | ⟨p1, hl, e0⟩
    · exact .inl (cd_bind_err e0)
    rw [cd_bind_ok e0]
    obtain ⟨x2, l2, g2, _, _, h⟩ := cd_step cd_int _ _ h
    rcases cd_int.pre _ _ _ _ _ g2 hl with e0 | ⟨p2, hl, e0⟩
    · exact .inl (cd_bind_err e0)
    rw [cd_bind_ok e0]
    obtain ⟨x3, l3, g3, _, _, h⟩ := cd_step cd_int _ _ h
    rcases cd_int.pre _ _ _ _ _ g3 hl with e0 | ⟨p3, hl, e0⟩
    · exact .inl (cd_bind_err e0)
    rw [cd_bind_ok e0]
    obtain ⟨x4, l4, g4, _, _, h⟩ := cd_step cf_txt _ _ h
    rcases cf_txt.pre _ _ _ _ _ g4 hl with e0 | ⟨p4, hl, e0⟩
    · exact .inl (cd_bind_err e0)
    rw [cd_bind_ok e0]
    obtain ⟨x5, l5, g5, _, _, h⟩ := cd_step cf_txt _ _ h
    rcases cf_txt.pre _ _ _ _ _ g5 hl with e0 | ⟨p5, hl, e0⟩
    · exact .inl (cd_bind_err e0)
    rw [cd_bind_ok e0]
    obtain ⟨x6, l6, g6, _, _, h⟩ := cd_step cf_topics _ _ h
    rcases cf_topics.pre _ _ _ _ _ g6 hl with e0 | ⟨p6, hl, e0⟩
    · exact .inl (cd_bind_err e0)
    rw [cd_bind_ok e0]
    obtain ⟨x7, l7, g7, _, _, h⟩ := cd_step cf_blk _ _ h
    rcases cf_blk.pre _ _ _ _ _ g7 hl with e0 | ⟨p7, hl, e0⟩
    · exact .inl (cd_bind_err e0)
    rw [cd_bind_ok e0]
    obtain ⟨x8, l8, g8, _, _, h⟩ := cd_step cf_label _ _ h
    rcases cf_label.pre _ _ _ _ _ g8 hl with e0 | ⟨p8, hl, e0⟩
    · exact .inl (cd_bind_err e0)
    rw [cd_bind_ok e0]
    injection h with h
    obtain ⟨e1, e2⟩ := Prod.mk.inj h
    subst e1; subst e2
    exact .inr ⟨p8, hl, rfl⟩
def rd_k2 (g : Fa) : Rd Fa := fun l => rdBind rdI (fun x3 l => rdBind rdI (fun x12 l => .ok ({ g with f3 := x3, f12 := x12 }, l)) l) l
theorem cf_k2 (g : Fa) : Codec (rd_k2 g) enc_k2 (fun f => ok_k2 f ∧ f = set_k2 g f) where
  back x r h := by
    obtain ⟨⟨h0, h1⟩, hs⟩ := h
    unfold rd_k2
    unfold enc_k2
    simp only [List.append_assoc]
    rw [cd_bind_ok (cd_int.back _ _ h0)]
    rw [cd_bind_ok (cd_int.back _ _ h1)]
    exact congrArg (fun z => Except.ok (z, r)) hs.symm
  only l x r h := by
    unfold rd_k2 at h
    obtain ⟨x0, l0, _, o0, q_x0, h⟩ := cd_step cd_int _ _ h
    obtain ⟨x1, l1, _, o1, q_x1, h⟩ := cd_step cd_int _ _ h
    injection h with h
    obtain ⟨e1, e2⟩ := Prod.mk.inj h
    subst e1; subst e2
    refine ⟨⟨⟨o0, o1⟩, rfl⟩, ?_⟩
    rw [q_x0, q_x1]
    simp only [enc_k2, List.append_assoc]
  pre l x r p q h hl := by
    unfold rd_k2 at h ⊢
    obtain ⟨x0, l0, g0, _, _, h⟩ := cd_step cd_int _ _ h
    rcases cd_int.pre _ _ _ _ _ g0 hl with e0 | ⟨p0, hl, e0⟩
    · exact .inl (cd_bind_err e0)
    rw [cd_bind_ok e0]
    obtain ⟨x1, l1, g1, _, _, h⟩ := cd_step cd_int _ _ h
    rcases cd_int.pre _ _ _ _ _ g1 hl with e0 | ⟨p1, hl, e0⟩
    · exact .inl (cd_bind_err e0)
    rw [cd_bind_ok e0]
    injection h with h
    obtain ⟨e1, e2⟩ := Prod.mk.inj h
    subst e1; subst e2
    exact .inr ⟨p1, hl, rfl⟩
def rd_k3 (g : Fa) : Rd Fa := fun l => rdBind rdI (fun x3 l => rdBind rdLb (fun x11 l => .ok ({ g with f3 := x3, f11 := x11 }, l)) l) l
theorem cf_k3 (g : Fa) : Codec (rd_k3 g) enc_k3 (fun f => ok_k3 f ∧ f = set_k3 g f) where
  back x r h := by
    obtain ⟨⟨h0, h1⟩, hs⟩ := h
    unfold rd_k3
    unfold enc_k3
    simp only [List.append_assoc]
    rw [cd_bind_ok (cd_int.back _ _ h0)]
    rw [cd_bind_ok (cf_label.back _ _ h1)]
    exact congrArg (fun z => Except.ok (z, r)) hs.symm
  only l x r h := by
    unfold rd_k3 at h
    obtain ⟨x0, l0, _, o0, q_x0, h⟩ := cd_step cd_int _ _ h
    obtain ⟨x1, l1, _, o1, q_x1, h⟩ := cd_step cf_label _ _ h
    injection h with h
    obtain ⟨e1, e2⟩ := Prod.mk.inj h
    subst e1; subst e2
    refine ⟨⟨⟨o0, o1⟩, rfl⟩, ?_⟩
    rw [q_x0, q_x1]
    simp only [enc_k3, List.append_assoc]
  pre l x r p q h hl := by
    unfold rd_k3 at h ⊢
    obtain ⟨x0, l0, g0, _, _, h⟩ := cd_step cd_int _ _ h
    rcases cd_int.pre _ _ _ _ _ g0 hl with e0 | ⟨p0, hl, e0⟩
    · exact .inl (cd_bind_err e0)
    rw [cd_bind_ok e0]
    obtain ⟨x1, l1, g1, _, _, h⟩ := cd_step cf_label _ _ h
    rcases cf_label.pre _ _ _ _ _ g1 hl with e0 | ⟨p1, hl, e0⟩
    · exact .inl (cd_bind_err e0)
    rw [cd_bind_ok e0]
    injection h with h
    obtain ⟨e1, e2⟩ := Prod.mk.inj h
    subst e1; subst e2
    exact .inr ⟨p1, hl, rfl⟩
def rd_k4 (g : Fa) : Rd Fa := fun l => rdBind rdI (fun x3 l => rdBind rdT (fun x4 l => rdBind rdI (fun x13 l => rdBind rdI (fun x14 l => rdBind rdT (fun x15 l => .ok ({ g with f3 := x3, f4 := x4, f13 := x13, f14 := x14, f15 := x15 }, l)) l) l) l) l) l
theorem cf_k4 (g : Fa) : Codec (rd_k4 g) enc_k4 (fun f => ok_k4 f ∧ f = set_k4 g f) where
  back x r h := by
    obtain ⟨⟨h0, h1, h2, h3, h4⟩, hs⟩ := h
    unfold rd_k4
    unfold enc_k4
    simp only [List.append_assoc]
    rw [cd_bind_ok (cd_int.back _ _ h0)]
    rw [cd_bind_ok (cf_txt.back _ _ h1)]
    rw [cd_bind_ok (cd_int.back _ _ h2)]
    rw [cd_bind_ok (cd_int.back _ _ h3)]
    rw [cd_bind_ok (cf_txt.back _ _ h4)]
    exact congrArg (fun z => Except.ok (z, r)) hs.symm
  only l x r h := by
    unfold rd_k4 at h
    obtain ⟨x0, l0, _, o0, q_x0, h⟩ := cd_step cd_int _ _ h
    obtain ⟨x1, l1, _, o1, q_x1, h⟩ := cd_step cf_txt _ _ h
    obtain ⟨x2, l2, _, o2, q_x2, h⟩ := cd_step cd_int _ _ h
    obtain ⟨x3, l3, _, o3, q_x3, h⟩ := cd_step cd_int _ _ h
    obtain ⟨x4, l4, _, o4, q_x4, h⟩ := cd_step cf_txt _ _ h
    injection h with h
    obtain ⟨e1, e2⟩ := Prod.mk.inj h
    subst e1; subst e2
    refine ⟨⟨⟨o0, o1, o2, o3, o4⟩, rfl⟩, ?_⟩
    rw [q_x0, q_x1, q_x2, q_x3, q_x4]
    simp only [enc_k4, List.append_assoc]
  pre l x r p q h hl := by
    unfold rd_k4 at h ⊢
    obtain ⟨x0, l0, g0, _, _, h⟩ := cd_step cd_int _ _ h
    rcases cd_int.pre _ _ _ _ _ g0 hl with e0 | ⟨p0, hl, e0⟩
    · exact .inl (cd_bind_err e0)
    rw [cd_bind_ok e0]
    obtain ⟨x1, l1, g1, _, _, h⟩ := cd_step cf_txt _ _ h
    rcases cf_txt.pre _ _ _ _ _ g1 hl with e0 | ⟨p1, hl, e0⟩
    · exact .inl (cd_bind_err e0)
    rw [cd_bind_ok e0]
    obtain ⟨x2, l2, g2, _, _, h⟩ := cd_step cd_int _ _ h
    rcases cd_int.pre _ _ _ _ _ g2 hl with e0 | ⟨p2, hl, e0⟩
    · exact .inl (cd_bind_err e0)
    rw [cd_bind_ok e0]
    obtain ⟨x3, l3, g3, _, _, h⟩ := cd_step cd_int _ _ h
    rcases cd_int.pre _ _ _ _ _ g3 hl with e0 | ⟨p3, hl, e0⟩
    · exact .inl (cd_bind_err e0)
    rw [cd_bind_ok e0]
    obtain ⟨x4, l4, g4, _, _, h⟩ := cd_step cf_txt _ _ h
    rcases cf_txt.pre _ _ _ _ _ g4 hl with e0 | ⟨p4, hl, e0⟩
    · exact .inl (cd_bind_err e0)
    rw [cd_bind_ok e0]
    injection h with h
    obtain ⟨e1, e2⟩ := Prod.mk.inj h
    subst e1; subst e2
    exact .inr ⟨p4, hl, rfl⟩
def rd_k5 (g : Fa) : Rd Fa := fun l => rdBind rdI (fun x3 l => rdBind rdT (fun x15 l => .ok ({ g with f3 := x3, f15 := x15 }, l)) l) l
theorem cf_k5 (g : Fa) : Codec (rd_k5 g) enc_k5 (fun f => ok_k5 f ∧ f = set_k5 g f) where
  back x r h := by
    obtain ⟨⟨h0, h1⟩, hs⟩ := h
    unfold rd_k5
    unfold enc_k5
    simp only [List.append_assoc]
    rw [cd_bind_ok (cd_int.back _ _ h0)]
    rw [cd_bind_ok (cf_txt.back _ _ h1)]
    exact congrArg (fun z => Except.ok (z, r)) hs.symm
  only l x r h := by
    unfold rd_k5 at h
    obtain ⟨x0, l0, _, o0, q_x0, h⟩ := cd_step cd_int _ _ h
    obtain ⟨x1, l1, _, o1, q_x1, h⟩ := cd_step cf_txt _ _ h
    injection h with h
    obtain ⟨e1, e2⟩ := Prod.mk.inj h
    subst e1; subst e2
    refine ⟨⟨⟨o0, o1⟩, rfl⟩, ?_⟩
    rw [q_x0, q_x1]
    simp only [enc_k5, List.append_assoc]
  pre l x r p q h hl := by
    unfold rd_k5 at h ⊢
    obtain ⟨x0, l0, g0, _, _, h⟩ := cd_step cd_int _ _ h
    rcases cd_int.pre _ _ _ _ _ g0 hl with e0 | ⟨p0, hl, e0⟩
    · exact .inl (cd_bind_err e0)
    rw [cd_bind_ok e0]
    obtain ⟨x1, l1, g1, _, _, h⟩ := cd_step cf_txt _ _ h
    rcases cf_txt.pre _ _ _ _ _ g1 hl with e0 | ⟨p1, hl, e0⟩
    · exact .inl (cd_bind_err e0)
    rw [cd_bind_ok e0]
    injection h with h
    obtain ⟨e1, e2⟩ := Prod.mk.inj h
    subst e1; subst e2
    exact .inr ⟨p1, hl, rfl⟩
def rd_k6 (g : Fa) : Rd Fa := fun l => rdBind rdI (fun x3 l => .ok ({ g with f3 := x3 }, l)) l
theorem cf_k6 (g : Fa) : Codec (rd_k6 g) enc_k6 (fun f => ok_k6 f ∧ f = set_k6 g f) where
  back x r h := by
    obtain ⟨h0, hs⟩ := h
    unfold rd_k6
    unfold enc_k6
    rw [cd_bind_ok (cd_int.back _ _ h0)]
    exact congrArg (fun z => Except.ok (z, r)) hs.symm
  only l x r h := by
    unfold rd_k6 at h
    obtain ⟨x0, l0, _, o0, q_x0, h⟩ := cd_step cd_int _ _ h
    injection h with h
    obtain ⟨e1, e2⟩ := Prod.mk.inj h
    subst e1; subst e2
    refine ⟨⟨o0, rfl⟩, ?_⟩
    rw [q_x0]
    simp only [enc_k6, List.append_assoc]
  pre l x r p q h hl := by
    unfold rd_k6 at h ⊢
    obtain ⟨x0, l0, g0, _, _, h⟩ := cd_step cd_int _ _ h
    rcases cd_int.pre _ _ _ _ _ g0 hl with e0 | ⟨p0, hl, e0⟩
    · exact .inl (cd_bind_err e0)
    rw [cd_bind_ok e0]
    injection h with h
    obtain ⟨e1, e2⟩ := Prod.mk.inj h
    subst e1; subst e2
    exact .inr ⟨p0, hl, rfl⟩
def rd_k7 (g : Fa) : Rd Fa := fun l => rdBind rdT (fun x16 l => rdBind rdT (fun x15 l => .ok ({ g with f16 := x16, f15 := x15 }, l)) l) l
theorem cf_k7 (g : Fa) : Codec (rd_k7 g) enc_k7 (fun f => ok_k7 f ∧ f = set_k7 g f) where
  back x r h := by
    obtain ⟨⟨h0, h1⟩, hs⟩ := h
    unfold rd_k7
    unfold enc_k7
    simp only [List.append_assoc]
    rw [cd_bind_ok (cf_txt.back _ _ h0)]
    rw [cd_bind_ok (cf_txt.back _ _ h1)]
    exact congrArg (fun z => Except.ok (z, r)) hs.symm
  only l x r h := by
    unfold rd_k7 at h
    obtain ⟨x0, l0, _, o0, q_x0, h⟩ := cd_step cf_txt _ _ h
    obtain ⟨x1, l1, _, o1, q_x1, h⟩ := cd_step cf_txt _ _ h
    injection h with h
    obtain ⟨e1, e2⟩ := Prod.mk.inj h
    subst e1; subst e2
    refine ⟨⟨⟨o0, o1⟩, rfl⟩, ?_⟩
    rw [q_x0, q_x1]
    simp only [enc_k7, List.append_assoc]
  pre l x r p q h hl := by
    unfold rd_k7 at h ⊢
    obtain ⟨x0, l0, g0, _, _, h⟩ := cd_step cf_txt _ _ h
    rcases cf_txt.pre _ _ _ _ _ g0 hl with e0 | ⟨p0, hl, e0⟩
    · exact .inl (cd_bind_err e0)
    rw [cd_bind_ok e0]
    obtain ⟨x1, l1, g1, _, _, h⟩ := cd_step cf_txt _ _ h
    rcases cf_txt.pre _ _ _ _ _ g1 hl with e0 | ⟨p1, hl, e0⟩
    · exact .inl (cd_bind_err e0)
    rw [cd_bind_ok e0]
    injection h with h
    obtain ⟨e1, e2⟩ := Prod.mk.inj h
    subst e1; subst e2
    exact .inr ⟨p1, hl, rfl⟩
def rd_k8 (g : Fa) : Rd Fa := fun l => rdBind rdI (fun x17 l => rdBind rdI (fun x18 l => rdBind rdI (fun x19 l => .ok ({ g with f17 := x17, f18 := x18, f19 := x19 }, l)) l) l) l
theorem cf_k8 (g : Fa) : Codec (rd_k8 g) enc_k8 (fun f => ok_k8 f ∧ f = set_k8 g f) where
  back x r h := by
    obtain ⟨⟨h0, h1, h2⟩, hs⟩ := h
    unfold rd_k8
    unfold enc_k8
    simp only [List.append_assoc]
    rw [cd_bind_ok (cd_int.back _ _ h0)]
    rw [cd_bind_ok (cd_int.back _ _ h1)]
    rw [cd_bind_ok (cd_int.back _ _ h2)]
    exact congrArg (fun z => Except.ok (z, r)) hs.symm
  only l x r h := by
    unfold rd_k8 at h
    obtain ⟨x0, l0, _, o0, q_x0, h⟩ := cd_step cd_int _ _ h
    obtain ⟨x1, l1, _, o1, q_x1, h⟩ := cd_step cd_int _ _ h
    obtain ⟨x2, l2, _, o2, q_x2, h⟩ := cd_step cd_int _ _ h
    injection h with h
    obtain ⟨e1, e2⟩ := Prod.mk.inj h
    subst e1; subst e2
    refine ⟨⟨⟨o0, o1, o2⟩, rfl⟩, ?_⟩
    rw [q_x0, q_x1, q_x2]
    simp only [enc_k8, List.append_assoc]
  pre l x r p q h hl := by
    unfold rd_k8 at h ⊢
    obtain ⟨x0, l0, g0, _, _, h⟩ := cd_step cd_int _ _ h
    rcases cd_int.pre _ _ _ _ _ g0 hl with e0 | ⟨p0, hl, e0⟩
    · exact .inl (cd_bind_err e0)
    rw [cd_bind_ok e0]
    obtain ⟨x1, l1, g1, _, _, h⟩ := cd_step cd_int _ _ h
    rcases cd_int.pre _ _ _ _ _ g1 hl with e0 | ⟨p1, hl, e0⟩
    · exact .inl (cd_bind_err e0)
    rw [cd_bind_ok e0]
    obtain ⟨x2, l2, g2, _, _, h⟩ := cd_step cd_int _ _ h
    rcases cd_int.pre _ _ _ _ _ g2 hl with e0 | ⟨p2, hl, e0⟩
    · exact .inl (cd_bind_err e0)
    rw [cd_bind_ok e0]
    injection h with h
    obtain ⟨e1, e2⟩ := Prod.mk.inj h
    subst e1; subst e2
    exact .inr ⟨p2, hl, rfl⟩
def rd_k9 (g : Fa) : Rd Fa := fun l => rdBind rdI (fun x17 l => rdBind rdI (fun x19 l => .ok ({ g with f17 := x17, f19 := x19 }, l)) l) l
theorem cf_k9 (g : Fa) : Codec (rd_k9 g) enc_k9 (fun f => ok_k9 f ∧ f = set_k9 g f) where
  back x r h := by
    obtain ⟨⟨h0, h1⟩, hs⟩ := h
    unfold rd_k9
    unfold enc_k9
    simp only [List.append_assoc]
    rw [cd_bind_ok (cd_int.back _ _ h0)]
    rw [cd_bind_ok (cd_int.back _ _ h1)]
    exact congrArg (fun z => Except.ok (z, r)) hs.symm
  only l x r h := by
    unfold rd_k9 at h
    obtain ⟨x0, l0, _, o0, q_x0, h⟩ := cd_step cd_int _ _ h
    obtain ⟨x1, l1, _, o1, q_x1, h⟩ := cd_step cd_int _ _ h
    injection h with h
    obtain ⟨e1, e2⟩ := Prod.mk.inj h
    subst e1; subst e2
    refine ⟨⟨⟨o0, o1⟩, rfl⟩, ?_⟩
    rw [q_x0, q_x1]
    simp only [enc_k9, List.append_assoc]
  pre l x r p q h hl := by
    unfold rd_k9 at h ⊢
    obtain ⟨x0, l0, g0, _, _, h⟩ := cd_step cd_int _ _ h
    rcases cd_int.pre _ _ _ _ _ g0 hl with e0 | ⟨p0, hl, e0⟩
    · exact .inl (cd_bind_err e0)
    rw [cd_bind_ok e0]
    obtain ⟨x1, l1, g1, _, _, h⟩ := cd_step cd_int _ _ h
    rcases cd_int.pre _ _ _ _ _ g1 hl with e0 | ⟨p1, hl, e0⟩
    · exact .inl (cd_bind_err e0)
    rw [cd_bind_ok e0]
    injection h with h
    obtain ⟨e1, e2⟩ := Prod.mk.inj h
    subst e1; subst e2
    exact .inr ⟨p1, hl, rfl⟩
theorem cf_nums : ∀ (n : Nat) (l : List UInt8), c_nums rdC n [] l = rdN rdI n l
  | 0, l => rfl
  | n + 1, l => by
    rw [cd_rdN_bind, ← cB_rd]
    show cB (rdI l) _ = _
    refine congrArg _ (funext fun y => funext fun s => ?_)
    rw [← cB_rd]
    show cB (c_nums rdC n [] s) _ = _
    rw [cf_nums n s]
theorem cf_txts : ∀ (n : Nat) (l : List UInt8), c_txts rdC n [] l = rdN rdT n l
  | 0, l => rfl
  | n + 1, l => by
    rw [cd_rdN_bind, ← cB_rd]
    show cB (rdT l) _ = _
    refine congrArg _ (funext fun y => funext fun s => ?_)
    rw [← cB_rd]
    show cB (c_txts rdC n [] s) _ = _
    rw [cf_txts n s]
theorem cf_topicsE (l : List UInt8) : c_topics rdC [] l = rdTs l := by
  unfold rdTs rdLst
  rw [← cB_rd]
  show cB (rdCnt 4 l) _ = _
  exact congrArg _ (funext fun n => funext fun s => cf_txts n.toNat s)
theorem cf_labelE (g : Lb) (hg : g.f1 = []) (l : List UInt8) : c_label rdC g l = rdLb l := by
  obtain ⟨g0, g1, g2, g3⟩ := g
  cases hg
  unfold rdLb
  rw [← cB_rd]
  show cB (rdI l) _ = _
  refine congrArg _ (funext fun y => funext fun s => ?_)
  unfold rdLst
  rw [← cB_rd, ← cB_rd, cB_assoc]
  show cB (rdCnt 64 s) _ = _
  refine congrArg _ (funext fun n => funext fun s => ?_)
  rw [← cf_nums]
  refine congrArg _ (funext fun y => funext fun s => ?_)
  rw [← cB_rd]
  show cB (rdI s) _ = _
  refine congrArg _ (funext fun y => funext fun s => ?_)
  rw [← cB_rd]
  rfl
theorem cf_kE1 (g : Fa) (h9 : g.f9 = []) (h11 : g.f11.f1 = []) (l : List UInt8) : c_k1 rdC g l = rd_k1 g l := by
  unfold c_k1 rd_k1
  rw [← cB_rd]
  show cB (rdI l) _ = _
  refine congrArg _ (funext fun y => funext fun s => ?_)
  rw [← cB_rd]
  show cB (rdT s) _ = _
  refine congrArg _ (funext fun y => funext fun s => ?_)
  rw [← cB_rd]
  show cB (rdI s) _ = _
  refine congrArg _ (funext fun y => funext fun s => ?_)
  rw [← cB_rd]
  show cB (rdI s) _ = _
  refine congrArg _ (funext fun y => funext fun s => ?_)
  rw [← cB_rd]
  show cB (rdT s) _ = _
  refine congrArg _ (funext fun y => funext fun s => ?_)
  rw [← cB_rd]
  show cB (rdT s) _ = _
  refine congrArg _ (funext fun y => funext fun s => ?_)
  rw [← cB_rd]
  rw [h9, cf_topicsE]
  refine congrArg _ (funext fun y => funext fun s => ?_)
  rw [← cB_rd]
  show cB (rdBk s) _ = _
  refine congrArg _ (funext fun y => funext fun s => ?_)
  rw [← cB_rd]
  rw [cf_labelE _ h11]
theorem cf_kE2 (g : Fa) (l : List UInt8) : c_k2 rdC g l = rd_k2 g l := by
  unfold c_k2 rd_k2
  rw [← cB_rd]
  show cB (rdI l) _ = _
  refine congrArg _ (funext fun y => funext fun s => ?_)
  rw [← cB_rd]
  show cB (rdI s) _ = _
  rfl
theorem cf_kE3 (g : Fa) (h11 : g.f11.f1 = []) (l : List UInt8) : c_k3 rdC g l = rd_k3 g l := by
  unfold c_k3 rd_k3
  rw [← cB_rd]
  show cB (rdI l) _ = _
  refine congrArg _ (funext fun y => funext fun s => ?_)
  rw [← cB_rd]
  rw [cf_labelE _ h11]
theorem cf_kE4 (g : Fa) (l : List UInt8) : c_k4 rdC g l = rd_k4 g l := by
  unfold c_k4 rd_k4
  rw [← cB_rd]
  show cB (rdI l) _ = _
  refine congrArg _ (funext fun y => funext fun s => ?_)
  rw [← cB_rd]
  show cB (rdT s) _ = _
  refine congrArg _ (funext fun y => funext fun s => ?_)
  rw [← cB_rd]
  show cB (rdI s) _ = _
  refine congrArg _ (funext fun y => funext fun s => ?_)
  rw [← cB_rd]
  show cB (rdI s) _ = _
  refine congrArg _ (funext fun y => funext fun s => ?_)
  rw [← cB_rd]
  show cB (rdT s) _ = _
  rfl
theorem cf_kE5 (g : Fa) (l : List UInt8) : c_k5 rdC g l = rd_k5 g l := by
  unfold c_k5 rd_k5
  rw [← cB_rd]
  show cB (rdI l) _ = _
  refine congrArg _ (funext fun y => funext fun s => ?_)
  rw [← cB_rd]
  show cB (rdT s) _ = _
  rfl
theorem cf_kE6 (g : Fa) (l : List UInt8) : c_k6 rdC g l = rd_k6 g l := by
  unfold c_k6 rd_k6
  rw [← cB_rd]
  show cB (rdI l) _ = _
  rfl
theorem cf_kE7 (g : Fa) (l : List UInt8) : c_k7 rdC g l = rd_k7 g l := by
  unfold c_k7 rd_k7
  rw [← cB_rd]
  show cB (rdT l) _ = _
  refine congrArg _ (funext fun y => funext fun s => ?_)
  rw [← cB_rd]
  show cB (rdT s) _ = _
  rfl
theorem cf_kE8 (g : Fa) (l : List UInt8) : c_k8 rdC g l = rd_k8 g l := by
  unfold c_k8 rd_k8
  rw [← cB_rd]
  show cB (rdI l) _ = _
  refine congrArg _ (funext fun y => funext fun s => ?_)
  rw [← cB_rd]
  show cB (rdI s) _ = _
  refine congrArg _ (funext fun y => funext fun s => ?_)
  rw [← cB_rd]
  show cB (rdI s) _ = _
  rfl
theorem cf_kE9 (g : Fa) (l : List UInt8) : c_k9 rdC g l = rd_k9 g l := by
  unfold c_k9 rd_k9
  rw [← cB_rd]
  show cB (rdI l) _ = _
  refine congrArg _ (funext fun y => funext fun s => ?_)
  rw [← cB_rd]
  show cB (rdI s) _ = _
  rfl
theorem Codec.of {α : Type} {one one' : Rd α} {enc enc' : α → List UInt8} {ok ok' : α → Prop} (h : Codec one enc ok) (ho : ∀ l, one' l = one l) (h1 : ∀ x, ok' x → ok x ∧ enc x = enc' x) (h2 : ∀ x, ok x → ok' x ∧ enc x = enc' x) : Codec one' enc' ok' where
  back x r hx := by rw [ho, ← (h1 x hx).2]; exact h.back x r (h1 x hx).1
  only l x r hx := by
    rw [ho] at hx
    obtain ⟨a, b⟩ := h.only l x r hx
    exact ⟨(h2 x a).1, by rw [← (h2 x a).2]; exact b⟩
  pre l x r p q hx hl := by
    rw [ho] at hx ⊢
    exact h.pre l x r p q hx hl
def okF (g f : Fa) : Prop := f.f0 = g.f0 ∧ f.f1 = g.f1 ∧ f.f2 = g.f2 ∧ (if f.f2 = 1 then ok_k1 f ∧ f = set_k1 g f else if f.f2 = 2 then ok_k2 f ∧ f = set_k2 g f else if f.f2 = 3 then ok_k3 f ∧ f = set_k3 g f else if f.f2 = 4 then ok_k4 f ∧ f = set_k4 g f else if f.f2 = 5 then ok_k5 f ∧ f = set_k5 g f else if f.f2 = 6 ∨ f.f2 = 10 then ok_k6 f ∧ f = set_k6 g f else if f.f2 = 7 then ok_k7 f ∧ f = set_k7 g f else if f.f2 = 8 then ok_k8 f ∧ f = set_k8 g f else if f.f2 = 9 then ok_k9 f ∧ f = set_k9 g f else False)
theorem cf_F1 (g : Fa) (hk : g.f2 = 1) (h9 : g.f9 = []) (h11 : g.f11.f1 = []) : Codec (c_fields rdC g) encF (okF g) := by
  refine (cf_k1 g).of (fun l => ?_) (fun f hf => ?_) (fun f hf => ?_)
  · unfold c_fields
    rw [if_pos (by omega)]
    exact cf_kE1 g h9 h11 l
  · obtain ⟨_, _, h2, h⟩ := hf
    rw [if_pos (by omega)] at h
    exact ⟨h, by unfold encF; rw [if_pos (by omega)]⟩
  · have h2 : f.f2 = g.f2 := by rw [hf.2]; rfl
    refine ⟨⟨by rw [hf.2]; rfl, by rw [hf.2]; rfl, h2, ?_⟩, by unfold encF; rw [if_pos (by omega)]⟩
    rw [if_pos (by omega)]
    exact hf
theorem cf_F2 (g : Fa) (hk : g.f2 = 2) (h9 : g.f9 = []) (h11 : g.f11.f1 = []) : Codec (c_fields rdC g) encF (okF g) := by
  refine (cf_k2 g).of (fun l => ?_) (fun f hf => ?_) (fun f hf => ?_)
  · unfold c_fields
    rw [if_neg (by omega), if_pos (by omega)]
    exact cf_kE2 g l
  · obtain ⟨_, _, h2, h⟩ := hf
    rw [if_neg (by omega), if_pos (by omega)] at h
    exact ⟨h, by unfold encF; rw [if_neg (by omega), if_pos (by omega)]⟩
  · have h2 : f.f2 = g.f2 := by rw [hf.2]; rfl
    refine ⟨⟨by rw [hf.2]; rfl, by rw [hf.2]; rfl, h2, ?_⟩, by unfold encF; rw [if_neg (by omega), if_pos (by omega)]⟩
    rw [if_neg (by omega), if_pos (by omega)]
    exact hf
theorem cf_F3 (g : Fa) (hk : g.f2 = 3) (h9 : g.f9 = []) (h11 : g.f11.f1 = []) : Codec (c_fields rdC g) encF (okF g) := by
  refine (cf_k3 g).of (fun l => ?_) (fun f hf => ?_) (fun f hf => ?_)
  · unfold c_fields
    rw [if_neg (by omega), if_neg (by omega), if_pos (by omega)]
    exact cf_kE3 g h11 l
  · obtain ⟨_, _, h2, h⟩ := hf
    rw [if_neg (by omega), if_neg (by omega), if_pos (by omega)] at h
    exact ⟨h, by unfold encF; rw [if_neg (by omega), if_neg (by omega), if_pos (by omega)]⟩
  · have h2 : f.f2 = g.f2 := by rw [hf.2]; rfl
    refine ⟨⟨by rw [hf.2]; rfl, by rw [hf.2]; rfl, h2, ?_⟩, by unfold encF; rw [if_neg (by omega), if_neg (by omega), if_pos (by omega)]⟩
    rw [if_neg (by omega), if_neg (by omega), if_pos (by omega)]
    exact hf
theorem cf_F4 (g : Fa) (hk : g.f2 = 4) (h9 : g.f9 = []) (h11 : g.f11.f1 = []) : Codec (c_fields rdC g) encF (okF g) := by
  refine (cf_k4 g).of (fun l => ?_) (fun f hf => ?_) (fun f hf => ?_)
  · unfold c_fields
    rw [if_neg (by omega), if_neg (by omega), if_neg (by omega), if_pos (by omega)]
    exact cf_kE4 g l
  · obtain ⟨_, _, h2, h⟩ := hf
    rw [if_neg (by omega), if_neg (by omega), if_neg (by omega), if_pos (by omega)] at h
    exact ⟨h, by unfold encF; rw [if_neg (by omega), if_neg (by omega), if_neg (by omega), if_pos (by omega)]⟩
  · have h2 : f.f2 = g.f2 := by rw [hf.2]; rfl
    refine ⟨⟨by rw [hf.2]; rfl, by rw [hf.2]; rfl, h2, ?_⟩, by unfold encF; rw [if_neg (by omega), if_neg (by omega), if_neg (by omega), if_pos (by omega)]⟩
    rw [if_neg (by omega), if_neg (by omega), if_neg (by omega), if_pos (by omega)]
    exact hf
theorem cf_F5 (g : Fa) (hk : g.f2 = 5) (h9 : g.f9 = []) (h11 : g.f11.f1 = []) : Codec (c_fields rdC g) encF (okF g) := by
  refine (cf_k5 g).of (fun l => ?_) (fun f hf => ?_) (fun f hf => ?_)
  · unfold c_fields
    rw [if_neg (by omega), if_neg (by omega), if_neg (by omega), if_neg (by omega), if_pos (by omega)]
    exact cf_kE5 g l
  · obtain ⟨_, _, h2, h⟩ := hf
    rw [if_neg (by omega), if_neg (by omega), if_neg (by omega), if_neg (by omega), if_pos (by omega)] at h
    exact ⟨h, by unfold encF; rw [if_neg (by omega), if_neg (by omega), if_neg (by omega), if_neg (by omega), if_pos (by omega)]⟩
  · have h2 : f.f2 = g.f2 := by rw [hf.2]; rfl
    refine ⟨⟨by rw [hf.2]; rfl, by rw [hf.2]; rfl, h2, ?_⟩, by unfold encF; rw [if_neg (by omega), if_neg (by omega), if_neg (by omega), if_neg (by omega), if_pos (by omega)]⟩
    rw [if_neg (by omega), if_neg (by omega), if_neg (by omega), if_neg (by omega), if_pos (by omega)]
    exact hf
theorem cf_F6 (g : Fa) (hk : g.f2 = 6) (h9 : g.f9 = []) (h11 : g.f11.f1 = []) : Codec (c_fields rdC g) encF (okF g) := by
  refine (cf_k6 g).of (fun l => ?_) (fun f hf => ?_) (fun f hf => ?_)
  · unfold c_fields
    rw [if_neg (by omega), if_neg (by omega), if_neg (by omega), if_neg (by omega), if_neg (by omega), if_pos (by omega)]
    exact cf_kE6 g l
  · obtain ⟨_, _, h2, h⟩ := hf
    rw [if_neg (by omega), if_neg (by omega), if_neg (by omega), if_neg (by omega), if_neg (by omega), if_pos (by omega)] at h
    exact ⟨h, by unfold encF; rw [if_neg (by omega), if_neg (by omega), if_neg (by omega), if_neg (by omega), if_neg (by omega), if_pos (by omega)]⟩
  · have h2 : f.f2 = g.f2 := by rw [hf.2]; rfl
    refine ⟨⟨by rw [hf.2]; rfl, by rw [hf.2]; rfl, h2, ?_⟩, by unfold encF; rw [if_neg (by omega), if_neg (by omega), if_neg (by omega), if_neg (by omega), if_neg (by omega), if_pos (by omega)]⟩
    rw [if_neg (by omega), if_neg (by omega), if_neg (by omega), if_neg (by omega), if_neg (by omega), if_pos (by omega)]
    exact hf
theorem cf_F7 (g : Fa) (hk : g.f2 = 7) (h9 : g.f9 = []) (h11 : g.f11.f1 = []) : Codec (c_fields rdC g) encF (okF g) := by
  refine (cf_k7 g).of (fun l => ?_) (fun f hf => ?_) (fun f hf => ?_)
  · unfold c_fields
    rw [if_neg (by omega), if_neg (by omega), if_neg (by omega), if_neg (by omega), if_neg (by omega), if_neg (by omega), if_pos (by omega)]
    exact cf_kE7 g l
  · obtain ⟨_, _, h2, h⟩ := hf
    rw [if_neg (by omega), if_neg (by omega), if_neg (by omega), if_neg (by omega), if_neg (by omega), if_neg (by omega), if_pos (by omega)] at h
    exact ⟨h, by unfold encF; rw [if_neg (by omega), if_neg (by omega), if_neg (by omega), if_neg (by omega), if_neg (by omega), if_neg (by omega), if_pos (by omega)]⟩
  · have h2 : f.f2 = g.f2 := by rw [hf.2]; rfl
    refine ⟨⟨by rw [hf.2]; rfl, by rw [hf.2]; rfl, h2, ?_⟩, by unfold encF; rw [if_neg (by omega), if_neg (by omega), if_neg (by omega), if_neg (by omega), if_neg (by omega), if_neg (by omega), if_pos (by omega)]⟩
    rw [if_neg (by omega), if_neg (by omega), if_neg (by omega), if_neg (by omega), if_neg (by omega), if_neg (by omega), if_pos (by omega)]
    exact hf
theorem cf_F8 (g : Fa) (hk : g.f2 = 8) (h9 : g.f9 = []) (h11 : g.f11.f1 = []) : Codec (c_fields rdC g) encF (okF g) := by
  refine (cf_k8 g).of (fun l => ?_) (fun f hf => ?_) (fun f hf => ?_)
  · unfold c_fields
    rw [if_neg (by omega), if_neg (by omega), if_neg (by omega), if_neg (by omega), if_neg (by omega), if_neg (by omega), if_neg (by omega), if_pos (by omega)]
    exact cf_kE8 g l
  · obtain ⟨_, _, h2, h⟩ := hf
    rw [if_neg (by omega), if_neg (by omega), if_neg (by omega), if_neg (by omega), if_neg (by omega), if_neg (by omega), if_neg (by omega), if_pos (by omega)] at h
    exact ⟨h, by unfold encF; rw [if_neg (by omega), if_neg (by omega), if_neg (by omega), if_neg (by omega), if_neg (by omega), if_neg (by omega), if_neg (by omega), if_pos (by omega)]⟩
  · have h2 : f.f2 = g.f2 := by rw [hf.2]; rfl
    refine ⟨⟨by rw [hf.2]; rfl, by rw [hf.2]; rfl, h2, ?_⟩, by unfold encF; rw [if_neg (by omega), if_neg (by omega), if_neg (by omega), if_neg (by omega), if_neg (by omega), if_neg (by omega), if_neg (by omega), if_pos (by omega)]⟩
    rw [if_neg (by omega), if_neg (by omega), if_neg (by omega), if_neg (by omega), if_neg (by omega), if_neg (by omega), if_neg (by omega), if_pos (by omega)]
    exact hf
theorem cf_F9 (g : Fa) (hk : g.f2 = 9) (h9 : g.f9 = []) (h11 : g.f11.f1 = []) : Codec (c_fields rdC g) encF (okF g) := by
  refine (cf_k9 g).of (fun l => ?_) (fun f hf => ?_) (fun f hf => ?_)
  · unfold c_fields
    rw [if_neg (by omega), if_neg (by omega), if_neg (by omega), if_neg (by omega), if_neg (by omega), if_neg (by omega), if_neg (by omega), if_neg (by omega), if_pos (by omega)]
    exact cf_kE9 g l
  · obtain ⟨_, _, h2, h⟩ := hf
    rw [if_neg (by omega), if_neg (by omega), if_neg (by omega), if_neg (by omega), if_neg (by omega), if_neg (by omega), if_neg (by omega), if_neg (by omega), if_pos (by omega)] at h
    exact ⟨h, by unfold encF; rw [if_neg (by omega), if_neg (by omega), if_neg (by omega), if_neg (by omega), if_neg (by omega), if_neg (by omega), if_neg (by omega), if_neg (by omega), if_pos (by omega)]⟩
  · have h2 : f.f2 = g.f2 := by rw [hf.2]; rfl
    refine ⟨⟨by rw [hf.2]; rfl, by rw [hf.2]; rfl, h2, ?_⟩, by unfold encF; rw [if_neg (by omega), if_neg (by omega), if_neg (by omega), if_neg (by omega), if_neg (by omega), if_neg (by omega), if_neg (by omega), if_neg (by omega), if_pos (by omega)]⟩
    rw [if_neg (by omega), if_neg (by omega), if_neg (by omega), if_neg (by omega), if_neg (by omega), if_neg (by omega), if_neg (by omega), if_neg (by omega), if_pos (by omega)]
    exact hf
theorem cf_F10 (g : Fa) (hk : g.f2 = 10) (h9 : g.f9 = []) (h11 : g.f11.f1 = []) : Codec (c_fields rdC g) encF (okF g) := by
  refine (cf_k6 g).of (fun l => ?_) (fun f hf => ?_) (fun f hf => ?_)
  · unfold c_fields
    rw [if_neg (by omega), if_neg (by omega), if_neg (by omega), if_neg (by omega), if_neg (by omega), if_pos (by omega)]
    exact cf_kE6 g l
  · obtain ⟨_, _, h2, h⟩ := hf
    rw [if_neg (by omega), if_neg (by omega), if_neg (by omega), if_neg (by omega), if_neg (by omega), if_pos (by omega)] at h
    exact ⟨h, by unfold encF; rw [if_neg (by omega), if_neg (by omega), if_neg (by omega), if_neg (by omega), if_neg (by omega), if_pos (by omega)]⟩
  · have h2 : f.f2 = g.f2 := by rw [hf.2]; rfl
    refine ⟨⟨by rw [hf.2]; rfl, by rw [hf.2]; rfl, h2, ?_⟩, by unfold encF; rw [if_neg (by omega), if_neg (by omega), if_neg (by omega), if_neg (by omega), if_neg (by omega), if_pos (by omega)]⟩
    rw [if_neg (by omega), if_neg (by omega), if_neg (by omega), if_neg (by omega), if_neg (by omega), if_pos (by omega)]
    exact hf
theorem m_kind_iff (k : Int) : m_kind k = true ↔ 1 ≤ k ∧ k ≤ 10 := by simp [m_kind]
theorem cf_F (g : Fa) (hk : m_kind g.f2 = true) (h9_ : g.f9 = []) (h11 : g.f11.f1 = []) : Codec (c_fields rdC g) encF (okF g) := by
  rw [m_kind_iff] at hk
  by_cases h1 : g.f2 = 1
  · exact cf_F1 g h1 h9_ h11
  by_cases h2 : g.f2 = 2
  · exact cf_F2 g h2 h9_ h11
  by_cases h3 : g.f2 = 3
  · exact cf_F3 g h3 h9_ h11
  by_cases h4 : g.f2 = 4
  · exact cf_F4 g h4 h9_ h11
  by_cases h5 : g.f2 = 5
  · exact cf_F5 g h5 h9_ h11
  by_cases h6 : g.f2 = 6
  · exact cf_F6 g h6 h9_ h11
  by_cases h7 : g.f2 = 7
  · exact cf_F7 g h7 h9_ h11
  by_cases h8 : g.f2 = 8
  · exact cf_F8 g h8 h9_ h11
  by_cases h9 : g.f2 = 9
  · exact cf_F9 g h9 h9_ h11
  exact cf_F10 g (by omega) h9_ h11
def fBase (a b k : Int) : Fa := { zFa with f0 := a, f1 := b, f2 := k }
def rdFact : Rd Fa := fun l => rdBind rdI (fun a l => rdBind rdI (fun b l => rdBind rdI (fun k l => if m_kind k = true then c_fields rdC (fBase a b k) l else .error 50) l) l) l
def okFact (f : Fa) : Prop := m_fits f.f0 = true ∧ m_fits f.f1 = true ∧ m_fits f.f2 = true ∧ m_kind f.f2 = true ∧ okF (fBase f.f0 f.f1 f.f2) f
theorem cf_fact : Codec rdFact m_fenc okFact where
  back f r h := by
    obtain ⟨h0, h1, h2, h3, h4⟩ := h
    unfold rdFact m_fenc
    simp only [List.append_assoc]
    rw [cd_bind_ok (cd_int.back _ _ h0), cd_bind_ok (cd_int.back _ _ h1), cd_bind_ok (cd_int.back _ _ h2), if_pos h3]
    exact (cf_F (fBase f.f0 f.f1 f.f2) h3 rfl rfl).back f r h4
  only l f r h := by
    unfold rdFact at h
    obtain ⟨a, l0, _, o0, q0, h⟩ := cd_step cd_int _ _ h
    obtain ⟨b, l1, _, o1, q1, h⟩ := cd_step cd_int _ _ h
    obtain ⟨k, l2, _, o2, q2, h⟩ := cd_step cd_int _ _ h
    by_cases hk : m_kind k = true
    · rw [if_pos hk] at h
      obtain ⟨o3, q3⟩ := (cf_F (fBase a b k) hk rfl rfl).only _ _ _ h
      obtain ⟨e0, e1, e2, e3⟩ := o3
      have e0 : f.f0 = a := e0
      have e1 : f.f1 = b := e1
      have e2 : f.f2 = k := e2
      subst e0; subst e1; subst e2
      exact ⟨⟨o0, o1, o2, hk, rfl, rfl, rfl, e3⟩, by unfold m_fenc; rw [q0, q1, q2, q3]; simp only [List.append_assoc]⟩
    · rw [if_neg hk] at h; cases h
  pre l f r p q h hl := by
    unfold rdFact at h ⊢
    obtain ⟨a, l0, g0, _, _, h⟩ := cd_step cd_int _ _ h
    rcases cd_int.pre _ _ _ _ _ g0 hl with e0 | ⟨p0, hl, e0⟩
    · exact .inl (cd_bind_err e0)
    rw [cd_bind_ok e0]
    obtain ⟨b, l1, g1, _, _, h⟩ := cd_step cd_int _ _ h
    rcases cd_int.pre _ _ _ _ _ g1 hl with e0 | ⟨p1, hl, e0⟩
    · exact .inl (cd_bind_err e0)
    rw [cd_bind_ok e0]
    obtain ⟨k, l2, g2, _, _, h⟩ := cd_step cd_int _ _ h
    rcases cd_int.pre _ _ _ _ _ g2 hl with e0 | ⟨p2, hl, e0⟩
    · exact .inl (cd_bind_err e0)
    rw [cd_bind_ok e0]
    by_cases hk : m_kind k = true
    · rw [if_pos hk] at h ⊢
      exact (cf_F (fBase a b k) hk rfl rfl).pre _ _ _ _ _ h hl
    · rw [if_neg hk] at h; cases h
theorem cf_kind (a b k : Int) (l r : List UInt8) (f : Fa) (h : c_fields rdC (fBase a b k) l = .ok (f, r)) : f.f2 = k := by
  by_cases hk : m_kind k = true
  · exact ((cf_F (fBase a b k) hk rfl rfl).only _ _ _ h).1.2.2.1
  · have hn : ¬ (1 ≤ k ∧ k ≤ 10) := fun h => hk ((m_kind_iff k).2 h)
    unfold c_fields at h
    rw [if_neg (show ¬ (fBase a b k).f2 = 1 by show ¬ k = 1; omega), if_neg (show ¬ (fBase a b k).f2 = 2 by show ¬ k = 2; omega), if_neg (show ¬ (fBase a b k).f2 = 3 by show ¬ k = 3; omega), if_neg (show ¬ (fBase a b k).f2 = 4 by show ¬ k = 4; omega), if_neg (show ¬ (fBase a b k).f2 = 5 by show ¬ k = 5; omega), if_neg (show ¬ ((fBase a b k).f2 = 6 ∨ (fBase a b k).f2 = 10) by show ¬ (k = 6 ∨ k = 10); omega), if_neg (show ¬ (fBase a b k).f2 = 7 by show ¬ k = 7; omega), if_neg (show ¬ (fBase a b k).f2 = 8 by show ¬ k = 8; omega), if_neg (show ¬ (fBase a b k).f2 = 9 by show ¬ k = 9; omega)] at h
    injection h with h
    rw [← (Prod.mk.inj h).1]; rfl
theorem cf_fdecode (s : ByteArray) : m_fdecode s = match rdFact s.data.toList with
    | .error e => (zFa, e)
    | .ok (f, r) => if r ≠ [] then (zFa, 10) else if m_fvalid f then (f, 0) else (zFa, 50) := by
  have e1 : ∀ l, c_fact rdC zFa l = rdBind rdI (fun a l => rdBind rdI (fun b l => rdBind rdI (fun k l => c_fields rdC (fBase a b k) l) l) l) l := by
    intro l
    unfold c_fact
    rw [← cB_rd]
    show cB (rdI l) _ = _
    refine congrArg _ (funext fun y => funext fun s => ?_)
    rw [← cB_rd]
    show cB (rdI s) _ = _
    refine congrArg _ (funext fun y => funext fun s => ?_)
    rw [← cB_rd]
    rfl
  unfold m_fdecode
  rw [e1]
  unfold rdFact
  cases h0 : rdI s.data.toList with
  | error e => rw [cd_bind_err h0, cd_bind_err h0]
  | ok p =>
  obtain ⟨a, l0⟩ := p
  rw [cd_bind_ok h0, cd_bind_ok h0]
  cases h1 : rdI l0 with
  | error e => rw [cd_bind_err h1, cd_bind_err h1]
  | ok p =>
  obtain ⟨b, l1⟩ := p
  rw [cd_bind_ok h1, cd_bind_ok h1]
  cases h2 : rdI l1 with
  | error e => rw [cd_bind_err h2, cd_bind_err h2]
  | ok p =>
  obtain ⟨k, l2⟩ := p
  rw [cd_bind_ok h2, cd_bind_ok h2]
  cases h3 : c_fields rdC (fBase a b k) l2 with
  | error e =>
    by_cases hk : m_kind k = true
    · rw [if_pos hk]
    · exfalso
      have hn : ¬ (1 ≤ k ∧ k ≤ 10) := fun h => hk ((m_kind_iff k).2 h)
      unfold c_fields at h3
      rw [if_neg (show ¬ (fBase a b k).f2 = 1 by show ¬ k = 1; omega), if_neg (show ¬ (fBase a b k).f2 = 2 by show ¬ k = 2; omega), if_neg (show ¬ (fBase a b k).f2 = 3 by show ¬ k = 3; omega), if_neg (show ¬ (fBase a b k).f2 = 4 by show ¬ k = 4; omega), if_neg (show ¬ (fBase a b k).f2 = 5 by show ¬ k = 5; omega), if_neg (show ¬ ((fBase a b k).f2 = 6 ∨ (fBase a b k).f2 = 10) by show ¬ (k = 6 ∨ k = 10); omega), if_neg (show ¬ (fBase a b k).f2 = 7 by show ¬ k = 7; omega), if_neg (show ¬ (fBase a b k).f2 = 8 by show ¬ k = 8; omega), if_neg (show ¬ (fBase a b k).f2 = 9 by show ¬ k = 9; omega)] at h3
      cases h3
  | ok p =>
    obtain ⟨f, r⟩ := p
    have hf := cf_kind _ _ _ _ _ _ h3
    subst hf
    dsimp only
    by_cases hk : m_kind f.f2 = true
    · rw [if_pos hk, if_neg (by rw [hk]; decide)]
    · rw [if_neg hk, if_pos (by simpa using hk)]
theorem cf_in {n lo hi : Int} (h : m_in n lo hi = true) : lo ≤ n ∧ n ≤ hi := by simpa [m_in] using h
theorem cf_inF {n lo hi : Int} (h : m_in n lo hi = true) (h1 : -4611686018427387903 ≤ lo) (h2 : hi ≤ 4611686018427387903) : m_fits n = true := by
  have := cf_in h
  exact (cd_fits _).2 (by omega)
theorem cf_name {s : ByteArray} (h : m_name s = true) : s.size ≤ 65536 := by
  unfold m_name at h
  simp only [Bool.and_eq_true, decide_eq_true_eq] at h
  omega
theorem cf_ftext {s : ByteArray} (h : m_ftext s = true) : s.size ≤ 65536 := by
  unfold m_ftext m_text at h
  simp only [Bool.and_eq_true, decide_eq_true_eq] at h
  omega
theorem cf_fsource {s : ByteArray} (h : m_fsource s = true) : s.size ≤ 65536 := by
  unfold m_fsource at h
  simp only [Bool.and_eq_true, decide_eq_true_eq] at h
  omega
theorem cf_lab {l : Lb} (h : m_lab l = true) : okLb l := cd_label_ok l.f0 l.f1 l.f2 l.f3 h
theorem cf_tops {l : List ByteArray} (h : m_topics l = true) : okTs l := by
  unfold m_topics at h
  simp only [Bool.and_eq_true, decide_eq_true_eq, List.all_eq_true] at h
  exact ⟨h.1.1, fun t ht => cf_name (h.1.2 t ht)⟩
theorem cf_valid1 (f : Fa) (hk : f.f2 = 1) (hu : m_used f = true) (hs : m_rest f = fBase f.f0 f.f1 f.f2) : okF (fBase f.f0 f.f1 f.f2) f := by
  refine ⟨rfl, rfl, rfl, ?_⟩
  unfold m_used at hu
  unfold m_rest at hs
  rw [if_pos (by omega)] at hu hs ⊢
  simp only [Bool.and_eq_true] at hu
  obtain ⟨⟨⟨⟨⟨⟨⟨⟨h0, h1⟩, h2⟩, h3⟩, h4⟩, h5⟩, h6⟩, h7⟩, h8⟩ := hu
  refine ⟨⟨cf_inF h0 (by omega) (by omega), cf_name h3, cf_inF h1 (by omega) (by omega), (by have a_ := cf_in h2; have b_ := cf_in h1; exact (cd_fits _).2 (by omega)), cf_ftext h4, cf_name h5, cf_tops h6, h7, cf_lab h8⟩, ?_⟩
  rw [← hs]; rfl
theorem cf_valid2 (f : Fa) (hk : f.f2 = 2) (hu : m_used f = true) (hs : m_rest f = fBase f.f0 f.f1 f.f2) : okF (fBase f.f0 f.f1 f.f2) f := by
  refine ⟨rfl, rfl, rfl, ?_⟩
  unfold m_used at hu
  unfold m_rest at hs
  rw [if_neg (by omega), if_pos (by omega)] at hu hs ⊢
  simp only [Bool.and_eq_true] at hu
  obtain ⟨h0, h1⟩ := hu
  refine ⟨⟨cf_inF h0 (by omega) (by omega), cf_inF h1 (by omega) (by omega)⟩, ?_⟩
  rw [← hs]; rfl
theorem cf_valid3 (f : Fa) (hk : f.f2 = 3) (hu : m_used f = true) (hs : m_rest f = fBase f.f0 f.f1 f.f2) : okF (fBase f.f0 f.f1 f.f2) f := by
  refine ⟨rfl, rfl, rfl, ?_⟩
  unfold m_used at hu
  unfold m_rest at hs
  rw [if_neg (by omega), if_neg (by omega), if_pos (by omega)] at hu hs ⊢
  simp only [Bool.and_eq_true] at hu
  obtain ⟨h0, h1⟩ := hu
  refine ⟨⟨cf_inF h0 (by omega) (by omega), cf_lab h1⟩, ?_⟩
  rw [← hs]; rfl
theorem cf_valid4 (f : Fa) (hk : f.f2 = 4) (hu : m_used f = true) (hs : m_rest f = fBase f.f0 f.f1 f.f2) : okF (fBase f.f0 f.f1 f.f2) f := by
  refine ⟨rfl, rfl, rfl, ?_⟩
  unfold m_used at hu
  unfold m_rest at hs
  rw [if_neg (by omega), if_neg (by omega), if_neg (by omega), if_pos (by omega)] at hu hs ⊢
  simp only [Bool.and_eq_true] at hu
  obtain ⟨⟨⟨⟨h0, h1⟩, h2⟩, h3⟩, h4⟩ := hu
  refine ⟨⟨cf_inF h0 (by omega) (by omega), cf_name h1, cf_inF h2 (by omega) (by omega), cf_inF h3 (by omega) (by omega), cf_ftext h4⟩, ?_⟩
  rw [← hs]; rfl
theorem cf_valid5 (f : Fa) (hk : f.f2 = 5) (hu : m_used f = true) (hs : m_rest f = fBase f.f0 f.f1 f.f2) : okF (fBase f.f0 f.f1 f.f2) f := by
  refine ⟨rfl, rfl, rfl, ?_⟩
  unfold m_used at hu
  unfold m_rest at hs
  rw [if_neg (by omega), if_neg (by omega), if_neg (by omega), if_neg (by omega), if_pos (by omega)] at hu hs ⊢
  simp only [Bool.and_eq_true] at hu
  obtain ⟨h0, h1⟩ := hu
  refine ⟨⟨cf_inF h0 (by omega) (by omega), cf_ftext h1⟩, ?_⟩
  rw [← hs]; rfl
theorem cf_valid6 (f : Fa) (hk : f.f2 = 6) (hu : m_used f = true) (hs : m_rest f = fBase f.f0 f.f1 f.f2) : okF (fBase f.f0 f.f1 f.f2) f := by
  refine ⟨rfl, rfl, rfl, ?_⟩
  unfold m_used at hu
  unfold m_rest at hs
  rw [if_neg (by omega), if_neg (by omega), if_neg (by omega), if_neg (by omega), if_neg (by omega), if_pos (by omega)] at hu hs ⊢
  skip
  have h0 := hu
  refine ⟨cf_inF h0 (by omega) (by omega), ?_⟩
  rw [← hs]; rfl
theorem cf_valid7 (f : Fa) (hk : f.f2 = 7) (hu : m_used f = true) (hs : m_rest f = fBase f.f0 f.f1 f.f2) : okF (fBase f.f0 f.f1 f.f2) f := by
  refine ⟨rfl, rfl, rfl, ?_⟩
  unfold m_used at hu
  unfold m_rest at hs
  rw [if_neg (by omega), if_neg (by omega), if_neg (by omega), if_neg (by omega), if_neg (by omega), if_neg (by omega), if_pos (by omega)] at hu hs ⊢
  simp only [Bool.and_eq_true] at hu
  obtain ⟨h0, h1⟩ := hu
  refine ⟨⟨cf_name h0, cf_fsource h1⟩, ?_⟩
  rw [← hs]; rfl
theorem cf_valid8 (f : Fa) (hk : f.f2 = 8) (hu : m_used f = true) (hs : m_rest f = fBase f.f0 f.f1 f.f2) : okF (fBase f.f0 f.f1 f.f2) f := by
  refine ⟨rfl, rfl, rfl, ?_⟩
  unfold m_used at hu
  unfold m_rest at hs
  rw [if_neg (by omega), if_neg (by omega), if_neg (by omega), if_neg (by omega), if_neg (by omega), if_neg (by omega), if_neg (by omega), if_pos (by omega)] at hu hs ⊢
  simp only [Bool.and_eq_true] at hu
  obtain ⟨⟨h0, h1⟩, h2⟩ := hu
  refine ⟨⟨cf_inF h0 (by omega) (by omega), cf_inF h2 (by omega) (by omega), cf_inF h1 (by omega) (by omega)⟩, ?_⟩
  rw [← hs]; rfl
theorem cf_valid9 (f : Fa) (hk : f.f2 = 9) (hu : m_used f = true) (hs : m_rest f = fBase f.f0 f.f1 f.f2) : okF (fBase f.f0 f.f1 f.f2) f := by
  refine ⟨rfl, rfl, rfl, ?_⟩
  unfold m_used at hu
  unfold m_rest at hs
  rw [if_neg (by omega), if_neg (by omega), if_neg (by omega), if_neg (by omega), if_neg (by omega), if_neg (by omega), if_neg (by omega), if_neg (by omega), if_pos (by omega)] at hu hs ⊢
  simp only [Bool.and_eq_true] at hu
  obtain ⟨h0, h1⟩ := hu
  refine ⟨⟨cf_inF h0 (by omega) (by omega), cf_inF h1 (by omega) (by omega)⟩, ?_⟩
  rw [← hs]; rfl
theorem cf_valid10 (f : Fa) (hk : f.f2 = 10) (hu : m_used f = true) (hs : m_rest f = fBase f.f0 f.f1 f.f2) : okF (fBase f.f0 f.f1 f.f2) f := by
  refine ⟨rfl, rfl, rfl, ?_⟩
  unfold m_used at hu
  unfold m_rest at hs
  rw [if_neg (by omega), if_neg (by omega), if_neg (by omega), if_neg (by omega), if_neg (by omega), if_pos (by omega)] at hu hs ⊢
  skip
  have h0 := hu
  refine ⟨cf_inF h0 (by omega) (by omega), ?_⟩
  rw [← hs]; rfl
theorem cf_valid (f : Fa) (h : m_fvalid f = true) : okFact f ∧ m_rest f = fBase f.f0 f.f1 f.f2 ∧ m_used f = true := by
  unfold m_fvalid at h
  simp only [Bool.and_eq_true, m_fsame_iff] at h
  obtain ⟨⟨⟨hu, h0⟩, h1⟩, hs⟩ := h
  have hs : m_rest f = fBase f.f0 f.f1 f.f2 := hs
  have hk : m_kind f.f2 = true := by
    rw [m_kind_iff]
    unfold m_used at hu
    by_cases h : 1 ≤ f.f2 ∧ f.f2 ≤ 10
    · exact h
    · rw [if_neg (by omega), if_neg (by omega), if_neg (by omega), if_neg (by omega), if_neg (by omega), if_neg (by omega), if_neg (by omega), if_neg (by omega), if_neg (by omega)] at hu
      cases hu
  refine ⟨⟨cf_inF h0 (by omega) (by omega), cf_inF h1 (by omega) (by omega), (cd_fits _).2 (by have := (m_kind_iff _).1 hk; omega), hk, ?_⟩, hs, hu⟩
  rw [m_kind_iff] at hk
  by_cases k1 : f.f2 = 1
  · exact cf_valid1 f k1 hu hs
  by_cases k2 : f.f2 = 2
  · exact cf_valid2 f k2 hu hs
  by_cases k3 : f.f2 = 3
  · exact cf_valid3 f k3 hu hs
  by_cases k4 : f.f2 = 4
  · exact cf_valid4 f k4 hu hs
  by_cases k5 : f.f2 = 5
  · exact cf_valid5 f k5 hu hs
  by_cases k6 : f.f2 = 6
  · exact cf_valid6 f k6 hu hs
  by_cases k7 : f.f2 = 7
  · exact cf_valid7 f k7 hu hs
  by_cases k8 : f.f2 = 8
  · exact cf_valid8 f k8 hu hs
  by_cases k9 : f.f2 = 9
  · exact cf_valid9 f k9 hu hs
  exact cf_valid10 f (by omega) hu hs
def Errs5 {α : Type} (one : Rd α) : Prop := ∀ l e, one l = .error e → e = 10 ∨ e = 50
theorem e5_step {α β : Type} {one : Rd α} (h1 : Errs5 one) {next : α → List UInt8 → Except Int β} (h2 : ∀ x l e, next x l = .error e → e = 10 ∨ e = 50) : ∀ l e, rdBind one next l = .error e → e = 10 ∨ e = 50 := by
  intro l e h
  cases h3 : one l with
  | error e' => rw [cd_bind_err h3] at h; injection h with h; subst h; exact h1 _ _ h3
  | ok p => rw [cd_bind_ok h3] at h; exact h2 _ _ _ h
theorem e5_I : Errs5 rdI := fun l e h => .inl (cd_rdI_err l e h)
theorem e5_T : Errs5 rdT := e5_step (fun l e h => by rcases cd_errsS l e h with h' | h'; exact .inl h'; exfalso; subst h'; unfold rdS at h; cases h2 : m_rdStr l <;> rw [h2] at h <;> cases h) (fun x l e h => by cases h)
theorem e5_N {α : Type} {one : Rd α} (h : Errs5 one) : ∀ n, Errs5 (rdN one n)
  | 0 => fun l e h => by cases h
  | n + 1 => e5_step h (fun x l e h' => e5_step (e5_N h n) (fun xs l e h => by cases h) l e h')
theorem e5_Cnt (most : Int) : Errs5 (rdCnt most) := e5_step e5_I (fun n l e h => by
  by_cases h2 : n < 0 ∨ most < n
  · rw [if_pos h2] at h; injection h with h; exact .inr h.symm
  · rw [if_neg h2] at h; cases h)
theorem e5_Lst {α : Type} {one : Rd α} (h : Errs5 one) (most : Int) : Errs5 (rdLst most one) := e5_step (e5_Cnt most) (fun n l e h' => e5_N h _ l e h')
theorem e5_Bk : Errs5 rdBk := e5_step e5_T (fun t l e h => by
  by_cases h2 : (m_decode t).2 = 0
  · rw [if_pos h2] at h; cases h
  · rw [if_neg h2] at h; injection h with h; exact .inr h.symm)
theorem e5_Lb : Errs5 rdLb := e5_step e5_I (fun _ l e h => e5_step (e5_Lst e5_I 64) (fun _ l e h => e5_step e5_I (fun _ l e h => e5_step e5_I (fun _ l e h => by cases h) l e h) l e h) l e h)
theorem e5_Ts : Errs5 rdTs := e5_Lst e5_T 4
theorem e5_k1 (g : Fa) : Errs5 (rd_k1 g) := e5_step e5_I (fun _ l e h => e5_step e5_T (fun _ l e h => e5_step e5_I (fun _ l e h => e5_step e5_I (fun _ l e h => e5_step e5_T (fun _ l e h => e5_step e5_T (fun _ l e h => e5_step e5_Ts (fun _ l e h => e5_step e5_Bk (fun _ l e h => e5_step e5_Lb (fun _ l e h => by cases h) l e h) l e h) l e h) l e h) l e h) l e h) l e h) l e h)
theorem e5_k2 (g : Fa) : Errs5 (rd_k2 g) := e5_step e5_I (fun _ l e h => e5_step e5_I (fun _ l e h => by cases h) l e h)
theorem e5_k3 (g : Fa) : Errs5 (rd_k3 g) := e5_step e5_I (fun _ l e h => e5_step e5_Lb (fun _ l e h => by cases h) l e h)
theorem e5_k4 (g : Fa) : Errs5 (rd_k4 g) := e5_step e5_I (fun _ l e h => e5_step e5_T (fun _ l e h => e5_step e5_I (fun _ l e h => e5_step e5_I (fun _ l e h => e5_step e5_T (fun _ l e h => by cases h) l e h) l e h) l e h) l e h)
theorem e5_k5 (g : Fa) : Errs5 (rd_k5 g) := e5_step e5_I (fun _ l e h => e5_step e5_T (fun _ l e h => by cases h) l e h)
theorem e5_k6 (g : Fa) : Errs5 (rd_k6 g) := e5_step e5_I (fun _ l e h => by cases h)
theorem e5_k7 (g : Fa) : Errs5 (rd_k7 g) := e5_step e5_T (fun _ l e h => e5_step e5_T (fun _ l e h => by cases h) l e h)
theorem e5_k8 (g : Fa) : Errs5 (rd_k8 g) := e5_step e5_I (fun _ l e h => e5_step e5_I (fun _ l e h => e5_step e5_I (fun _ l e h => by cases h) l e h) l e h)
theorem e5_k9 (g : Fa) : Errs5 (rd_k9 g) := e5_step e5_I (fun _ l e h => e5_step e5_I (fun _ l e h => by cases h) l e h)
theorem e5_F (g : Fa) (h9 : g.f9 = []) (h11 : g.f11.f1 = []) (l : List UInt8) (e : Int) (h : c_fields rdC g l = .error e) : e = 10 ∨ e = 50 := by
  unfold c_fields at h
  by_cases k1 : g.f2 = 1
  · rw [if_pos k1, cf_kE1 g h9 h11] at h
    exact e5_k1 g l e h
  rw [if_neg k1] at h
  by_cases k2 : g.f2 = 2
  · rw [if_pos k2, cf_kE2 g] at h
    exact e5_k2 g l e h
  rw [if_neg k2] at h
  by_cases k3 : g.f2 = 3
  · rw [if_pos k3, cf_kE3 g h11] at h
    exact e5_k3 g l e h
  rw [if_neg k3] at h
  by_cases k4 : g.f2 = 4
  · rw [if_pos k4, cf_kE4 g] at h
    exact e5_k4 g l e h
  rw [if_neg k4] at h
  by_cases k5 : g.f2 = 5
  · rw [if_pos k5, cf_kE5 g] at h
    exact e5_k5 g l e h
  rw [if_neg k5] at h
  by_cases k6 : g.f2 = 6 ∨ g.f2 = 10
  · rw [if_pos k6, cf_kE6 g] at h
    exact e5_k6 g l e h
  rw [if_neg k6] at h
  by_cases k7 : g.f2 = 7
  · rw [if_pos k7, cf_kE7 g] at h
    exact e5_k7 g l e h
  rw [if_neg k7] at h
  by_cases k8 : g.f2 = 8
  · rw [if_pos k8, cf_kE8 g] at h
    exact e5_k8 g l e h
  rw [if_neg k8] at h
  by_cases k9 : g.f2 = 9
  · rw [if_pos k9, cf_kE9 g] at h
    exact e5_k9 g l e h
  rw [if_neg k9] at h
  cases h
theorem e5_fact : Errs5 rdFact := e5_step e5_I (fun a l e h => e5_step e5_I (fun b l e h => e5_step e5_I (fun k l e h => by
  by_cases hk : m_kind k = true
  · rw [if_pos hk] at h; exact e5_F _ rfl rfl _ _ h
  · rw [if_neg hk] at h; injection h with h; exact .inr h.symm) l e h) l e h)
theorem fd_decoded (s : ByteArray) (f : Fa) (e : Int) (h : m_fdecode s = (f, e)) : (e = 0 ∧ m_fvalid f = true ∧ s.data.toList = m_fenc f) ∨ (f = zFa ∧ (e = 10 ∨ e = 50)) := by
  rw [cf_fdecode] at h
  cases h1 : rdFact s.data.toList with
  | error e' =>
    rw [h1] at h
    obtain ⟨e1, e2⟩ := Prod.mk.inj h
    subst e2
    exact .inr ⟨e1.symm, e5_fact _ _ h1⟩
  | ok p =>
    obtain ⟨f', r⟩ := p
    rw [h1] at h
    dsimp only at h
    by_cases hr : r ≠ []
    · rw [if_pos hr] at h
      obtain ⟨e1, e2⟩ := Prod.mk.inj h
      exact .inr ⟨e1.symm, .inl e2.symm⟩
    · rw [if_neg hr] at h
      have hr' : r = [] := by simpa using hr
      subst hr'
      by_cases hv : m_fvalid f' = true
      · rw [if_pos hv] at h
        obtain ⟨e1, e2⟩ := Prod.mk.inj h
        subst e1
        have := (cf_fact.only _ _ _ h1).2
        rw [List.append_nil] at this
        exact .inl ⟨e2.symm, hv, this⟩
      · rw [if_neg hv] at h
        obtain ⟨e1, e2⟩ := Prod.mk.inj h
        exact .inr ⟨e1.symm, .inr e2.symm⟩
theorem fd_encode_ok (f : Fa) (h : m_fvalid f = true) : m_fencode f = (⟨(m_fenc f).toArray⟩, 0) := by unfold m_fencode; rw [if_pos h]
theorem fd_encode_err (f : Fa) (h : m_fvalid f = false) : m_fencode f = (⟨#[]⟩, 50) := by unfold m_fencode; rw [if_neg (by simp [h])]
theorem wr_num (n : Int) (h : m_fits n = true) (s : List UInt8) : wrC.num n s = .ok (n, s ++ m_int n) := by
  show Except.ok (n, s ++ (m_putInt n).1.data.toList) = _
  unfold m_putInt
  rw [if_pos h]
theorem wr_cnt (m n : Int) (h : m_fits n = true) (s : List UInt8) : wrC.cnt m n s = .ok (n, s ++ m_int n) := wr_num n h s
theorem wr_txt (t : ByteArray) (h : t.size ≤ 65536) (s : List UInt8) : wrC.txt t s = .ok (t, s ++ encT t) := by
  show Except.ok (t, s ++ putS t) = _
  unfold putS
  rw [if_pos h]; rfl
theorem wr_blk (l : List Bl) (h : m_validL l = true) (s : List UInt8) : wrC.blk l s = .ok (l, s ++ encBk l) := by
  show Except.ok (l, s ++ putS (m_encode l).1) = _
  rw [cd_encode_ok l h]
  unfold putS
  rw [if_pos (by simpa [ByteArray.size] using cf_blk_len l h)]; rfl
theorem wr_nums : ∀ (xs : List Int) (s : List UInt8), (∀ x ∈ xs, m_fits x = true) → c_nums wrC xs.length xs s = .ok (xs, s ++ xs.flatMap m_int)
  | [], s, _ => by simp [c_nums]
  | x :: xs, s, h => by
    show cB (wrC.num x s) _ = _
    rw [cB_ok (wr_num x (h x (by simp)) s)]
    show cB (c_nums wrC xs.length xs _) _ = _
    rw [cB_ok (wr_nums xs _ (fun y hy => h y (by simp [hy])))]
    simp
theorem wr_txts : ∀ (xs : List ByteArray) (s : List UInt8), (∀ x ∈ xs, x.size ≤ 65536) → c_txts wrC xs.length xs s = .ok (xs, s ++ xs.flatMap encT)
  | [], s, _ => by simp [c_txts]
  | x :: xs, s, h => by
    show cB (wrC.txt x s) _ = _
    rw [cB_ok (wr_txt x (h x (by simp)) s)]
    show cB (c_txts wrC xs.length xs _) _ = _
    rw [cB_ok (wr_txts xs _ (fun y hy => h y (by simp [hy])))]
    simp
theorem wr_label (l : Lb) (h : okLb l) (s : List UInt8) : c_label wrC l s = .ok (l, s ++ encLb l) := by
  obtain ⟨h0, h1, h2, h3⟩ := h
  unfold c_label
  rw [cB_ok (wr_num _ h0 _), cB_ok (wr_cnt _ _ ((cd_fits _).2 (by omega)) _), Int.toNat_natCast, cB_ok (wr_nums _ _ h1.2), cB_ok (wr_num _ h2 _), cB_ok (wr_num _ h3 _)]
  simp [encLb]
theorem wr_topics (l : List ByteArray) (h : okTs l) (s : List UInt8) : c_topics wrC l s = .ok (l, s ++ encTs l) := by
  obtain ⟨h0, h1⟩ := h
  unfold c_topics
  rw [cB_ok (wr_cnt _ _ ((cd_fits _).2 (by omega)) _), Int.toNat_natCast, wr_txts _ _ h1]
  simp [encTs]
theorem wr_k1 (f : Fa) (h : ok_k1 f) (s : List UInt8) : c_k1 wrC f s = .ok (f, s ++ enc_k1 f) := by
  obtain ⟨h0, h1, h2, h3, h4, h5, h6, h7, h8⟩ := h
  unfold c_k1 enc_k1
  rw [cB_ok (wr_num _ h0 _), cB_ok (wr_txt _ h1 _), cB_ok (wr_num _ h2 _), cB_ok (wr_num _ h3 _), cB_ok (wr_txt _ h4 _), cB_ok (wr_txt _ h5 _), cB_ok (wr_topics _ h6 _), cB_ok (wr_blk _ h7 _), cB_ok (wr_label _ h8 _)]
  simp only [List.append_assoc]
theorem wr_k2 (f : Fa) (h : ok_k2 f) (s : List UInt8) : c_k2 wrC f s = .ok (f, s ++ enc_k2 f) := by
  obtain ⟨h0, h1⟩ := h
  unfold c_k2 enc_k2
  rw [cB_ok (wr_num _ h0 _), cB_ok (wr_num _ h1 _)]
  simp only [List.append_assoc]
theorem wr_k3 (f : Fa) (h : ok_k3 f) (s : List UInt8) : c_k3 wrC f s = .ok (f, s ++ enc_k3 f) := by
  obtain ⟨h0, h1⟩ := h
  unfold c_k3 enc_k3
  rw [cB_ok (wr_num _ h0 _), cB_ok (wr_label _ h1 _)]
  simp only [List.append_assoc]
theorem wr_k4 (f : Fa) (h : ok_k4 f) (s : List UInt8) : c_k4 wrC f s = .ok (f, s ++ enc_k4 f) := by
  obtain ⟨h0, h1, h2, h3, h4⟩ := h
  unfold c_k4 enc_k4
  rw [cB_ok (wr_num _ h0 _), cB_ok (wr_txt _ h1 _), cB_ok (wr_num _ h2 _), cB_ok (wr_num _ h3 _), cB_ok (wr_txt _ h4 _)]
  simp only [List.append_assoc]
theorem wr_k5 (f : Fa) (h : ok_k5 f) (s : List UInt8) : c_k5 wrC f s = .ok (f, s ++ enc_k5 f) := by
  obtain ⟨h0, h1⟩ := h
  unfold c_k5 enc_k5
  rw [cB_ok (wr_num _ h0 _), cB_ok (wr_txt _ h1 _)]
  simp only [List.append_assoc]
theorem wr_k6 (f : Fa) (h : ok_k6 f) (s : List UInt8) : c_k6 wrC f s = .ok (f, s ++ enc_k6 f) := by
  have h0 := h
  unfold c_k6 enc_k6
  rw [cB_ok (wr_num _ h0 _)]
theorem wr_k7 (f : Fa) (h : ok_k7 f) (s : List UInt8) : c_k7 wrC f s = .ok (f, s ++ enc_k7 f) := by
  obtain ⟨h0, h1⟩ := h
  unfold c_k7 enc_k7
  rw [cB_ok (wr_txt _ h0 _), cB_ok (wr_txt _ h1 _)]
  simp only [List.append_assoc]
theorem wr_k8 (f : Fa) (h : ok_k8 f) (s : List UInt8) : c_k8 wrC f s = .ok (f, s ++ enc_k8 f) := by
  obtain ⟨h0, h1, h2⟩ := h
  unfold c_k8 enc_k8
  rw [cB_ok (wr_num _ h0 _), cB_ok (wr_num _ h1 _), cB_ok (wr_num _ h2 _)]
  simp only [List.append_assoc]
theorem wr_k9 (f : Fa) (h : ok_k9 f) (s : List UInt8) : c_k9 wrC f s = .ok (f, s ++ enc_k9 f) := by
  obtain ⟨h0, h1⟩ := h
  unfold c_k9 enc_k9
  rw [cB_ok (wr_num _ h0 _), cB_ok (wr_num _ h1 _)]
  simp only [List.append_assoc]
theorem wr_fields (g f : Fa) (h : okF g f) (hk : m_kind f.f2 = true) (s : List UInt8) : c_fields wrC f s = .ok (f, s ++ encF f) := by
  obtain ⟨_, _, _, h⟩ := h
  unfold c_fields encF
  by_cases k1 : f.f2 = 1
  · rw [if_pos k1] at h ⊢
    rw [if_pos k1]
    exact wr_k1 f h.1 s
  rw [if_neg k1] at h ⊢
  rw [if_neg k1]
  by_cases k2 : f.f2 = 2
  · rw [if_pos k2] at h ⊢
    rw [if_pos k2]
    exact wr_k2 f h.1 s
  rw [if_neg k2] at h ⊢
  rw [if_neg k2]
  by_cases k3 : f.f2 = 3
  · rw [if_pos k3] at h ⊢
    rw [if_pos k3]
    exact wr_k3 f h.1 s
  rw [if_neg k3] at h ⊢
  rw [if_neg k3]
  by_cases k4 : f.f2 = 4
  · rw [if_pos k4] at h ⊢
    rw [if_pos k4]
    exact wr_k4 f h.1 s
  rw [if_neg k4] at h ⊢
  rw [if_neg k4]
  by_cases k5 : f.f2 = 5
  · rw [if_pos k5] at h ⊢
    rw [if_pos k5]
    exact wr_k5 f h.1 s
  rw [if_neg k5] at h ⊢
  rw [if_neg k5]
  by_cases k6 : f.f2 = 6 ∨ f.f2 = 10
  · rw [if_pos k6] at h ⊢
    rw [if_pos k6]
    exact wr_k6 f h.1 s
  rw [if_neg k6] at h ⊢
  rw [if_neg k6]
  by_cases k7 : f.f2 = 7
  · rw [if_pos k7] at h ⊢
    rw [if_pos k7]
    exact wr_k7 f h.1 s
  rw [if_neg k7] at h ⊢
  rw [if_neg k7]
  by_cases k8 : f.f2 = 8
  · rw [if_pos k8] at h ⊢
    rw [if_pos k8]
    exact wr_k8 f h.1 s
  rw [if_neg k8] at h ⊢
  rw [if_neg k8]
  by_cases k9 : f.f2 = 9
  · rw [if_pos k9] at h ⊢
    rw [if_pos k9]
    exact wr_k9 f h.1 s
  rw [if_neg k9] at h ⊢
  rw [if_neg k9]
  exact h.elim
theorem wr_fact (f : Fa) (h : m_fvalid f = true) : c_fact wrC f [] = .ok (f, m_fenc f) := by
  obtain ⟨⟨h0, h1, h2, h3, h4⟩, _⟩ := cf_valid f h
  unfold c_fact
  rw [cB_ok (wr_num _ h0 _), cB_ok (wr_num _ h1 _), cB_ok (wr_num _ h2 _)]
  show c_fields wrC f _ = _
  rw [wr_fields _ f h4 h3]
  simp [m_fenc]
end Go.Proofs.YtkhgdglaophkbaaGreatDoor.PK
end
section
set_option linter.unusedVariables false
namespace Go.Proofs.YtkhgdglaophkbaaGreatDoor.Mp
open Go.MapKept Go.ChangeMaps Go.RowKit Go.Proofs.YtkhgdglaophkbaaGreatDoorW.PrintWords Go.Proofs.YtkhgdglaophkbaaGreatDoorW.PrintLast Go.Proofs.YtkhgdglaophkbaaGreatDoorW.PrintMore
def IMap (w : World) (b n : Nat) (g : Int → Option Value) : Prop := ∃ es clock, w.heap[b]? = some (.map es clock) ∧ es.size ≤ n ∧
  (∀ x ∈ es.toList, ∃ i, x.key = .int .i64 i ∧ g i = some x.val) ∧ (∀ i v, g i = some v → ∃ x ∈ es.toList, x.key = .int .i64 i)
variable {w w' : World} {b n : Nat} {g : Int → Option Value} {P : Program} {t k e : TypeId}
theorem IMap.made (w : World) : IMap (w.alloc (.map #[] 0)) w.heap.size 0 (fun _ => none) := ⟨#[], 0, (MapKept.heap_alloc w _).1, Nat.le_refl _, by simp, by simp⟩
theorem IMap.lt (h : IMap w b n g) : b < w.heap.size := by
  obtain ⟨es, clock, hb, _⟩ := h
  exact (Array.getElem?_eq_some_iff.1 hb).1
theorem IMap.step (h : IMap w b n g) (hk : ∀ es c, w.heap[b]? = some (.map es c) → w'.heap[b]? = some (.map es c)) : IMap w' b n g := by
  obtain ⟨es, clock, hb, h⟩ := h
  exact ⟨es, clock, hk _ _ hb, h⟩
theorem IMap.below {B : Nat} (h : IMap w b n g) (hb : Below B w w') (hB : b < B) : IMap w' b n g := h.step fun es c he => by rw [hb.block b hB]; exact he
theorem IMap.alloc (h : IMap w b n g) (o : Obj) : IMap (w.alloc o) b n g := h.below (below_alloc (Below.refl w.heap.size w) o) h.lt
theorem IMap.find (hk : P.underlying k = some (.int .i64)) {es : Array MapEntry} {clock : Nat} (hes : ∀ x ∈ es.toList, ∃ i, x.key = .int .i64 i ∧ g i = some x.val) (hg : ∀ i v, g i = some v → ∃ x ∈ es.toList, x.key = .int .i64 i) (i : Int) :
    ((Instr.findKey k (.int .i64 i) es.toList).run P w = .ok none w ∧ g i = none) ∨ ∃ j v, (Instr.findKey k (.int .i64 i) es.toList).run P w = .ok (some (j, v)) w ∧ g i = some v := by
  rcases findNow_spec (d := .int .i64) (k := .int .i64 i) rfl es.toList 0 (fun x hx => by obtain ⟨j, hj, _⟩ := hes x hx; rw [hj]; exact rfl) with ⟨h1, h2⟩ | ⟨j, e, h1, h2, h3⟩
  · refine .inl ⟨run_findKey hk h1, ?_⟩
    cases hgi : g i with
    | none => rfl
    | some v =>
      obtain ⟨x, hx, hxk⟩ := hg i v hgi
      exact absurd hxk (h2 x hx)
  · obtain ⟨i', hi', hv⟩ := hes e (List.mem_of_getElem? h2)
    rw [h3] at hi'
    injection hi' with _ hi'
    subst hi'
    exact .inr ⟨_, _, run_findKey hk h1, hv⟩
theorem IMap.look (h : IMap w b n g) (ht : P.underlying t = some (.map k e)) (hk : P.underlying k = some (.int .i64)) {z : Value} (hz : (zeroValue e).run P w = .ok z w) (i : Int) (c : Bool) :
    (Instr.lookup t (.map (some b)) (.int .i64 i) c).run P w = .ok (match g i with | some v => if c then .tuple #[v, .bool true] else v | none => if c then .tuple #[z, .bool false] else z) w := by
  obtain ⟨es, clock, hb, hs, h1, h2⟩ := h
  have hck := run_checkKey (w := w) hk (k := .int .i64 i) rfl
  rcases IMap.find (w := w) (clock := clock) hk h1 h2 i with ⟨hf, hg⟩ | ⟨j, v, hf, hg⟩
  · rw [hg]; simp [Instr.lookup, run_underlying ht, MapKept.run_getObj_map hb, hck, hf, hz, Result.andThen]
  · rw [hg]; simp [Instr.lookup, run_underlying ht, MapKept.run_getObj_map hb, hck, hf, Result.andThen]
theorem IMap.put (h : IMap w b n g) (ht : P.underlying t = some (.map k e)) (hk : P.underlying k = some (.int .i64)) (hn : n < maxLen) (i : Int) (hi : g i = none) (val : Value) :
    ∃ w', (Instr.mapUpdate t (.map (some b)) (.int .i64 i) val).run P w = .ok () w' ∧ IMap w' b (n + 1) (fun j => if j = i then some val else g j) ∧ w.grownBy w' (some b) := by
  obtain ⟨es, clock, hb, hs, h1, h2⟩ := h
  have hck := run_checkKey (w := w) hk (k := .int .i64 i) rfl
  rcases IMap.find (w := w) (clock := clock) hk h1 h2 i with ⟨hf, hg⟩ | ⟨j, v, hf, hg⟩
  · refine ⟨setBlock w b (.map (es.push ⟨.int .i64 i, val, clock⟩) (clock + 1)), ?_, ⟨_, _, heap_setBlock_same hb _, by simp; omega, ?_, ?_⟩, ⟨rfl, rfl, rfl, by simp [setBlock], fun j _ hj => heap_setBlock_other hb _ (fun e => hj (by rw [e]))⟩⟩
    · have hsz : es.size < maxLen := by omega
      simp [Instr.mapUpdate, run_underlying ht, MapKept.run_getObj_map hb, hck, hf, MapKept.run_setObj_map _ hb, Result.andThen, setBlock]
    · intro x hx
      simp only [Array.toList_push, List.mem_append, List.mem_singleton] at hx
      rcases hx with hx | rfl
      · obtain ⟨j, hj, hv⟩ := h1 x hx
        refine ⟨j, hj, ?_⟩
        have : j ≠ i := by rintro rfl; rw [hi] at hv; cases hv
        simp [this, hv]
      · exact ⟨i, rfl, by simp⟩
    · intro j v hj
      by_cases hji : j = i
      · subst hji; exact ⟨⟨.int .i64 j, val, clock⟩, by simp, rfl⟩
      · simp only [hji, if_false] at hj
        obtain ⟨x, hx, hxk⟩ := h2 j v hj
        exact ⟨x, by simp [hx], hxk⟩
  · rw [hi] at hg; cases hg
theorem wpList_put {w : World} {ops : Array Oper} {rest : List Oper} {o : Oper} {a : Act} {Q : Exit → Act → World → Prop}
    (hg : o.guard = none) (m x v : Operand) (t : TypeId) (hop : o.op = Op.insert t m x v ∨ o.op = Op.mapUpdate t m x v)
    (k e : TypeId) (ht : P.underlying t = some (.map k e)) (hk : P.underlying k = some (.int .i64)) (b n : Nat) (g : Int → Option Value)
    (hm : a.eval m = .map (some b)) (hown : IMap w b n g) (hn : n < maxLen) (i : Int) (val : Value) (hx : a.eval x = .int .i64 i) (hv : a.eval v = val) (hi : g i = none)
    (hK : ∀ w', IMap w' b (n + 1) (fun j => if j = i then some val else g j) → w.grownBy w' (some b) → wpList P ops Q rest (a.put o.dst undef) w') :
    wpList P ops Q (o :: rest) a w := by
  refine wpList_plain hg fun K' hK' => ?_
  obtain ⟨w', hrun, r1, r2⟩ := hown.put ht hk hn i hi val
  unfold Oper.wp
  rcases hop with hop | hop
  · simp [execOp, hop, hm, hx, hv, hrun, Result.andThen]
    exact hK' _ _ (hK w' r1 r2)
  · simp [execOp, hop, hm, hx, hv, hrun, Result.andThen]
    exact hK' _ _ (hK w' r1 r2)
theorem is_insert {P : Program} {W : World} {ops : Array Oper} {rest : List Oper} {o : Oper} {a : Act} {Q : Exit → Act → World → Prop} {t : TypeId} {m x v : Operand} (_ : o.op = .insert t m x v ∨ o.op = .mapUpdate t m x v) (h : wpList P ops Q (o :: rest) a W) : wpList P ops Q (o :: rest) a W := h
theorem IMap.kept (h : IMap w b n g) (hg : w.grownBy w' (some b)) {x : Nat} {cs : Array Value} {T : TypeId} {fr : Nat × Nat} (hc : w.heap[x]? = some (.cells cs T fr)) : w'.heap[x]? = some (.cells cs T fr) := by
  obtain ⟨es, clock, hb, _⟩ := h
  have hlt := (Array.getElem?_eq_some_iff.1 hc).1
  have hne : x ≠ b := by
    rintro rfl
    rw [hb] at hc
    cases hc
  rw [hg.block x hlt (fun he => hne (by simpa using he))]
  exact hc
end Go.Proofs.YtkhgdglaophkbaaGreatDoor.Mp
end
section
set_option linter.unusedVariables false
namespace Go.Proofs.YtkhgdglaophkbaaGreatDoor.Rg
open Go Go.RowKit
variable {P : Program}
structure Stop (p : Prop) : Prop where mk ::
  out : p
theorem stop_here {p : Prop} (h : Stop p) : p := h.out
structure Turn (B : Nat) (A C : World) : Prop where mk ::
  os : C.os = A.os
  tape : C.tape = A.tape
  output : C.output = A.output
  base : B ≤ A.heap.size
  size : A.heap.size ≤ C.heap.size
  low : ∀ k, k < B → C.heap[k]? = A.heap[k]?
  cells : ∀ (k : Nat) (o : Obj), A.heap[k]? = some o → o.isCells = true → C.heap[k]? = some o
theorem Turn.trans {B : Nat} {X Y Z : World} (h : Turn B X Y) (k : Turn B Y Z) : Turn B X Z :=
  ⟨k.os.trans h.os, k.tape.trans h.tape, k.output.trans h.output, h.base, Nat.le_trans h.size k.size,
   fun i hi => (k.low i hi).trans (h.low i hi), fun i o ho hc => k.cells i o (h.cells i o ho hc) hc⟩
theorem Turn.alloc {B : Nat} (A : World) (o : Obj) (hB : B ≤ A.heap.size) : Turn B A (A.alloc o) :=
  ⟨rfl, rfl, rfl, hB, by simp, fun k hk => Below.heap_alloc _ _ _ (Nat.lt_of_lt_of_le hk hB), fun k o' ho _ => (Below.heap_alloc _ _ _ (Array.getElem?_eq_some_iff.1 ho).1).trans ho⟩
theorem Turn.put {B : Nat} {A : World} {l : Nat} {o : Obj} (hl : A.heap[l]? = some o) (hc : o.isCells = false) (hB : B ≤ l) (o' : Obj) : Turn B A (A.putObj l o') :=
  ⟨rfl, rfl, rfl, by have := (Array.getElem?_eq_some_iff.1 hl).1; omega, by simp, fun k hk => World.putObj_heap_other (by omega), fun k o2 ho h2 => by
    rw [World.putObj_heap_other]
    · exact ho
    · rintro rfl
      rw [hl] at ho
      injection ho with ho
      subst ho
      rw [hc] at h2
      cases h2⟩
theorem Turn.below {B : Nat} {A C : World} (h : Turn B A C) : Below B A C :=
  ⟨h.os, h.tape, h.output, h.size, fun i hi => h.low i hi⟩
theorem Turn.owns {B base n size : Nat} {e : TypeId} {v : Value} {xs : List Value} {A C : World} (h : Turn B A C) (ho : A.ownsRow base e size v n xs) : C.ownsRow base e size v n xs := by
  refine ⟨ho.1, ?_⟩
  rcases ho.2 with ⟨h1, h2⟩ | ⟨g, cap, cur, h1, h2, h3, h4⟩
  · exact .inl ⟨h1, h2⟩
  · exact .inr ⟨g, cap, cur, h1, h2, h.cells g _ h3 rfl, h4⟩
theorem owns_shape {base n size : Nat} {e : TypeId} {v : Value} {xs : List Value} {A : World} (h : A.ownsRow base e size v (n + 1) xs) : ∃ g cap, v = .slice (some ⟨g, 0, none⟩) (n + 1) cap := by
  rcases h.2 with ⟨_, h0⟩ | ⟨g, cap, cur, hv, _⟩
  · exact absurd h0 (Nat.succ_ne_zero n)
  · exact ⟨_, _, hv⟩
theorem row_ne {base n size : Nat} {e t : TypeId} {v : Value} {xs : List Value} {A : World} {b : Nat} {cs : Array Value} {fr : Nat × Nat} (ho : A.ownsRow base e size v n xs) (hb : A.heap[b]? = some (.cells cs t fr)) (ht : t ≠ e) : some b ≠ v.ownBlock := by
  rcases ho.2 with ⟨rfl, _⟩ | ⟨g, cap, cur, rfl, _, h3, _⟩
  · simp [Value.ownBlock]
  · simp only [Value.ownBlock]
    rintro h
    injection h with h
    subst h
    rw [hb] at h3
    injection h3 with h3
    injection h3 with _ h3 _
    exact ht h3
theorem block_append {base n size : Nat} {e t : TypeId} {v : Value} {xs : List Value} {A C : World} {b : Nat} {cs : Array Value} {fr : Nat × Nat} {o : Obj} (ho : A.ownsRow base e size v n xs) (hb : A.heap[b]? = some (.cells cs t fr)) (ht : t ≠ e) (hg : (A.alloc o).grownBy C v.ownBlock) :
    C.heap[b]? = some (.cells cs t fr) := by
  have hlt := (Array.getElem?_eq_some_iff.1 hb).1
  rw [hg.block b (by simp; omega) (row_ne ho hb ht)]
  exact (Below.heap_alloc _ _ _ hlt).trans hb
theorem keeps_append {base n size B : Nat} {e : TypeId} {v : Value} {xs : List Value} {A C : World} {o : Obj} (ho : A.ownsRow base e size v n xs) (hg : (A.alloc o).grownBy C v.ownBlock) : KeepsFrom B A C := by
  refine ⟨Nat.le_trans (by simp) hg.size, fun k o' _ hk hn => ?_⟩
  have hlt := (Array.getElem?_eq_some_iff.1 hk).1
  rw [hg.block k (by simp; omega) ?_]
  · exact (Below.heap_alloc _ _ _ hlt).trans hk
  · intro he
    rcases ho.2 with ⟨rfl, _⟩ | ⟨g, cap, cur, rfl, _, h3, _⟩
    · simp [Value.ownBlock] at he
    · have : k = g := by simpa [Value.ownBlock] using he
      subst this
      rw [hk] at h3
      injection h3 with h3
      subst h3
      cases hn
theorem below_append {B base n size : Nat} {e : TypeId} {v : Value} {xs : List Value} {w0 A C : World} {o : Obj} (hB : Below B w0 A) (hs : B ≤ A.heap.size) (hb : B ≤ base) (ho : A.ownsRow base e size v n xs) (hg : (A.alloc o).grownBy C v.ownBlock) : Below B w0 C :=
  (hB.alloc hs o).grown hg (by simp; omega) (fun k hk => Nat.le_trans hb (ho.lt k hk).1)
theorem keeps_set {B : Nat} {A : World} (p : Addr) (u : Value) : KeepsFrom B A (A.setCell p u) := (KeepsOthers.setCell A p u).from B
theorem owns_set {base n size : Nat} {e t : TypeId} {v : Value} {xs : List Value} {A : World} {b : Nat} {cs : Array Value} {fr : Nat × Nat} (hb : A.heap[b]? = some (.cells cs t fr)) (ht : t ≠ e) (ho : A.ownsRow base e size v n xs) (j : Nat) (u : Value) :
    (A.setCell ⟨b, j, none⟩ u).ownsRow base e size v n xs := by
  refine ⟨ho.1, ?_⟩
  rcases ho.2 with ⟨h1, h2⟩ | ⟨g, cap, cur, h1, h2, h3, h4⟩
  · exact .inl ⟨h1, h2⟩
  · refine .inr ⟨g, cap, cur, h1, h2, ?_, h4⟩
    rw [Below.heap_setCell _ _ _ _ (fun he => ?_)]
    · exact h3
    · have : g = b := by simpa using he
      subst this
      rw [hb] at h3
      injection h3 with h3
      injection h3 with _ h3 _
      exact ht h3
def Iter {α : Type} (P : Program) (gf : Nat) (lb : Array Value) (encs : α → Array Value) (Ab Kp : World → World → Prop) (Nx : List α → α → Prop) (S Sp : List α → Prop) (W : World) : Prop :=
  ∀ (l : Nat) (J Jx : List α → World → Prop), (∀ s A B, J s A → Ab A B → J s B) → (∀ s A B, Jx s A → Ab A B → Jx s B) →
    (∀ pre x W1, J pre W1 → Nx pre x → YieldAt Fence.wide 0 P l (encs x) W1 fun e W' =>
      (e = .returned (.bool true) ∧ J (pre ++ [x]) W' ∧ Kp W1 W') ∨ (e = .returned (.bool false) ∧ Jx (pre ++ [x]) W')) →
    J [] W →
    CallsIn Fence.wide 0 P gf (#[.func (.yield l) #[] #[]] ++ lb) W fun e W' => (∃ v, e = .returned v) ∧ ((∃ xs, S xs ∧ J xs W') ∨ (∃ pre, Sp pre ∧ Jx pre W'))
def RoundEnds {α : Type} (B : Nat) (Kp : World → World → Prop) (I : List α → World → Prop) (Ix : Code → List α → World → Prop) (xs : List α) (W : World) : Exit → Act → World → Prop
  | .normal, _, W' => KeepsFrom B W W' ∧ Kp W W' ∧ I xs W'
  | .ret, _, W' => KeepsFrom B W W' ∧ Ix .ret xs W'
  | .exit id, _, W' => KeepsFrom B W W' ∧ Ix (.exit id) xs W'
  | .goto t, _, W' => KeepsFrom B W W' ∧ Ix (.goto t) xs W'
  | .panic _, _, _ => False
  | .outgrown, _, _ => False
theorem round_over {α : Type} {B l D : Nat} {rec : LoopState → Option Code → Loop} (hrec : ∀ st pe, rec st pe = { rec .ready none with state := st, pending := pe })
    {Kp : World → World → Prop} {I : List α → World → Prop} {Ix : Code → List α → World → Prop} (hB : B ≤ D) (hD : D < l)
    (hKt : ∀ {A C E : World}, Kp A C → Kp C E → Kp A E) (hKu : ∀ A C, Turn B A C → Kp A C)
    (hI : ∀ s A C, I s A → Turn B A C → I s C) (hIx : ∀ c s A C, Ix c s A → Turn B A C → Ix c s C)
    {W0 W W' : World} {xs : List α} {e : Exit} {a : Act} (h0 : Kp W0 W) (hl : W.heap[l]? = some (.loop (rec .busy none))) (hd : W.heap[D]? = some (.deferred (some [])))
    (h : RoundEnds B Kp I Ix xs W e a W') :
    roundPost P l (fun e W' => (e = .returned (.bool true) ∧ (I xs W' ∧ W'.heap[l]? = some (.loop (rec .ready none)) ∧ W'.heap[D]? = some (.deferred (some []))) ∧ Kp W0 W') ∨
      (e = .returned (.bool false) ∧ ∃ c, Ix c xs W' ∧ W'.heap[l]? = some (.loop (rec .done (some c))) ∧ W'.heap[D]? = some (.deferred (some [])))) e a W' := by
  have keep : ∀ (hk : KeepsFrom B W W') (jump : Option Code), (Instr.endRound l jump).run P W' = .ok (.bool jump.isNone) (W'.putObj l (.loop (rec (if jump.isNone then .ready else .done) jump))) ∧
      Turn B W' (W'.putObj l (.loop (rec (if jump.isNone then .ready else .done) jump))) ∧
      (W'.putObj l (.loop (rec (if jump.isNone then .ready else .done) jump))).heap[l]? = some (.loop (rec (if jump.isNone then .ready else .done) jump)) ∧
      (W'.putObj l (.loop (rec (if jump.isNone then .ready else .done) jump))).heap[D]? = some (.deferred (some [])) := by
    intro hk jump
    have hl' := hk.same l _ (by omega) hl rfl
    have hd' := hk.same D _ hB hd rfl
    have hr := run_endRound (P := P) jump hl'
    rw [hrec .busy none] at hr
    rw [hrec (if jump.isNone then .ready else .done) jump]
    exact ⟨hr, Turn.put hl' rfl (by omega) _, World.putObj_heap_same (Array.getElem?_eq_some_iff.1 hl').1, (World.putObj_heap_other (by omega)).trans hd'⟩
  cases e with
  | normal =>
    obtain ⟨hk, hkp, hi⟩ := h
    obtain ⟨h1, h2, h3, h4⟩ := keep hk none
    exact ⟨_, _, h1, .inl ⟨rfl, ⟨hI _ _ _ hi h2, h3, h4⟩, hKt (hKt h0 hkp) (hKu _ _ h2)⟩⟩
  | ret =>
    obtain ⟨hk, hi⟩ := h
    obtain ⟨h1, h2, h3, h4⟩ := keep hk (some .ret)
    exact ⟨_, _, h1, .inr ⟨rfl, _, hIx _ _ _ _ hi h2, h3, h4⟩⟩
  | exit id =>
    obtain ⟨hk, hi⟩ := h
    obtain ⟨h1, h2, h3, h4⟩ := keep hk (some (.exit id))
    exact ⟨_, _, h1, .inr ⟨rfl, _, hIx _ _ _ _ hi h2, h3, h4⟩⟩
  | goto t =>
    obtain ⟨hk, hi⟩ := h
    obtain ⟨h1, h2, h3, h4⟩ := keep hk (some (.goto t))
    exact ⟨_, _, h1, .inr ⟨rfl, _, hIx _ _ _ _ hi h2, h3, h4⟩⟩
  | panic ch => exact h.elim
  | outgrown => exact h.elim
theorem wp_range {α : Type} {g : Operand} {ps : Array Tmp} {assign body : Code} {Q : Exit → Act → World → Prop} {a : Act} {w : World} {gf : Nat} {lb : Array Value}
    (hg : a.eval g = .func (.func gf) #[] lb) (eg : ∀ args w, (callFunc gf args).run P w = .ok (.enter gf args) w)
    {encs : α → Array Value} {Ab Kp : World → World → Prop} {Nx : List α → α → Prop} {S Sp : List α → Prop}
    (hAb : ∀ A C (k : Nat) (o : Obj), Ab A C → A.heap[k]? = some o → o.isCells = false → C.heap[k]? = some o)
    (hKt : ∀ {A C E : World}, Kp A C → Kp C E → Kp A E) (hKu : ∀ A C, Turn w.heap.size A C → Kp A C)
    (it : ∀ W, Turn w.heap.size w W → Iter P gf lb encs Ab Kp Nx S Sp W)
    (hps : ∀ x, (encs x).size = ps.size)
    (I : List α → World → Prop) (Ix : Code → List α → World → Prop)
    (hI : ∀ s A C, I s A → Turn w.heap.size A C → I s C) (hIx : ∀ c s A C, Ix c s A → Turn w.heap.size A C → Ix c s C)
    (hIA : ∀ s A C, I s A → Ab A C → I s C) (hIxA : ∀ c s A C, Ix c s A → Ab A C → Ix c s C) (h0 : I [] w)
    (a₁ : α → Act)
    (hassign : ∀ (l : Nat) (x : α) (W : World) (K : Act → World → Prop), K (a₁ x) W →
      assign.wpIn (Fence.wide.inRound l) 0 P (Exit.then K (fun _ _ _ => False)) { tmps := (ps.zip (encs x)).foldl (fun t (p, v) => t.setIfInBounds p v) a.tmps, defers := [] } W)
    (hbody : ∀ (l : Nat) (pre : List α) (x : α) (W : World), I pre W → Nx pre x → body.wpIn (Fence.wide.inRound l) 0 P (RoundEnds w.heap.size Kp I Ix (pre ++ [x]) W) (a₁ x) W)
    (hdone : ∀ (D : Nat) (xs : List α) (W : World), w.heap.size ≤ D → S xs → I xs W → W.heap[D]? = some (.deferred (some [])) → Q .normal { a with defers := { target := .collected D, args := #[] } :: a.defers } W)
    (hstop : ∀ (D : Nat) (c : Code) (pre : List α) (W : World), w.heap.size ≤ D → Sp pre → Ix c pre W → W.heap[D]? = some (.deferred (some [])) → c.wpIn Fence.wide 0 P Q { a with defers := { target := .collected D, args := #[] } :: a.defers } W) :
    (Code.rangeFunc g ps assign body).wpIn Fence.wide 0 P Q a w := by
  refine wpIn_rangeFunc ?_
  intro fn hfn
  obtain ⟨rec, hR⟩ : ∃ rec : LoopState → Option Code → Loop, rec = fun st pe => { state := st, pending := pe, fn := fn, tmps := a.tmps, params := ps, assign := assign, body := body, defers := w.heap.size } := ⟨_, rfl⟩
  have hrec : ∀ st pe, rec st pe = { rec .ready none with state := st, pending := pe } := fun st pe => by rw [hR]
  obtain ⟨W1, hW1⟩ : ∃ W1, (w.alloc (.deferred (some []))).alloc (.loop (rec .ready none)) = W1 := ⟨_, rfl⟩
  have hT : Turn w.heap.size w W1 := by rw [← hW1]; exact (Turn.alloc _ _ (Nat.le_refl _)).trans (Turn.alloc _ _ (by simp))
  have hl1 : W1.heap[w.heap.size + 1]? = some (.loop (rec .ready none)) := by
    rw [← hW1]; have := World.alloc_heap_new (w.alloc (.deferred (some []))) (.loop (rec .ready none)); rwa [World.size_alloc] at this
  have hd1 : W1.heap[w.heap.size]? = some (.deferred (some [])) := by
    rw [← hW1]; exact (Below.heap_alloc _ _ _ (by simp)).trans (World.alloc_heap_new w _)
  refine ⟨w.heap.size + 1, [{ target := .collected w.heap.size, args := #[] }], W1, { target := .fn (.func gf) lb, args := #[.func (.yield (w.heap.size + 1)) #[] #[]] }, W1, gf,
    #[.func (.yield (w.heap.size + 1)) #[] #[]] ++ lb, W1, ?_, ?_, fun _ _ => trivial, ?_, fun h => by simp [Fence.wide] at h, ?_⟩
  · rw [← hW1, hR]; exact run_enterLoop_outer _ _ _ _ _
  · simp only [resolve, hg]
    simp [go_sem]
  · simp [invoke, go_sem, eg]
  · refine (it W1 hT (w.heap.size + 1)
      (fun pre W => I pre W ∧ W.heap[w.heap.size + 1]? = some (.loop (rec .ready none)) ∧ W.heap[w.heap.size]? = some (.deferred (some [])))
      (fun pre W => ∃ c, Ix c pre W ∧ W.heap[w.heap.size + 1]? = some (.loop (rec .done (some c))) ∧ W.heap[w.heap.size]? = some (.deferred (some [])))
      (fun s A C h hab => ⟨hIA s A C h.1 hab, hAb A C _ _ hab h.2.1 rfl, hAb A C _ _ hab h.2.2 rfl⟩)
      (fun s A C h hab => by
        obtain ⟨c, h1, h2, h3⟩ := h
        exact ⟨c, hIxA c s A C h1 hab, hAb A C _ _ hab h2 rfl, hAb A C _ _ hab h3 rfl⟩)
      ?_ ⟨hI _ _ _ h0 hT, hl1, hd1⟩).mono ?_
    · rintro pre x W ⟨hi, hl, hd⟩ hlen
      have hy := run_yield (P := P) (args := encs x) hl (by rw [hR]; exact hps x)
      have hll : w.heap.size + 1 < W.heap.size := (Array.getElem?_eq_some_iff.1 hl).1
      have hu : Turn w.heap.size W (W.putObj (w.heap.size + 1) (.loop (rec .busy none))) := Turn.put hl rfl (by omega) _
      have hb : (Instr.beginRound (w.heap.size + 1)).run P W = .ok () (W.putObj (w.heap.size + 1) (.loop (rec .busy none))) := by
        rw [run_beginRound (P := P) hl (by rw [hR])]; rw [hR]
      rw [hR] at hy
      refine ⟨fn, _, assign, body, hy, roundIn_of_wpIn trivial (hassign _ x W _ ⟨_, hb, ?_⟩)⟩
      refine wpIn_mono (hbody _ pre x _ (hI _ _ _ hi hu) hlen) ?_
      intro e a3 W3 hp
      refine round_over (P := P) (Kp := Kp) (B := w.heap.size) (D := w.heap.size) hrec (Nat.le_refl _) (Nat.lt_succ_self _) hKt hKu hI hIx (hKu _ _ hu) ?_ ?_ hp
      · exact World.putObj_heap_same hll
      · exact (World.putObj_heap_other (by omega)).trans hd
    · rintro e W2 ⟨⟨v, rfl⟩, (⟨xs, hS, hi, hl, hd⟩ | ⟨pre, hSp, c, hi, hl, hd⟩)⟩
      · have he := run_endLoop (P := P) hl (by rw [hR]; simp)
        have hu := Turn.put (B := w.heap.size) hl rfl (by omega) (.loop { rec .ready none with state := .exhausted })
        refine ⟨none, _, ?_, hdone _ xs _ (Nat.le_refl _) hS (hI _ _ _ hi hu) ((World.putObj_heap_other (by omega)).trans hd)⟩
        rw [he, hR]
      · have he := run_endLoop (P := P) hl (by rw [hR]; simp)
        have hu := Turn.put (B := w.heap.size) hl rfl (by omega) (.loop { rec .done (some c) with state := .exhausted })
        refine ⟨some c, _, ?_, hstop _ c pre _ (Nat.le_refl _) hSp (hIx _ _ _ _ hi hu) ((World.putObj_heap_other (by omega)).trans hd)⟩
        rw [he, hR]
end Go.Proofs.YtkhgdglaophkbaaGreatDoor.Rg
end
section
set_option linter.unusedVariables false
set_option linter.unusedSimpArgs false
namespace Go.Proofs.YtkhgdglaophkbaaGreatDoor.PK
open Go.RowKit Go.Proofs.YtkhgdglaophkbaaGreatDoorW.PrintWords Go.Proofs.YtkhgdglaophkbaaGreatDoorW.PrintLast Go.Proofs.YtkhgdglaophkbaaGreatDoorW.PrintMore
theorem bk_empty (s : ByteArray) : decide (s.size ≠ 0) = !s.toList.isEmpty := by
  rw [ByteArray.toList_eq, Bool.eq_iff_iff]
  show decide (s.data.size ≠ 0) = true ↔ _
  rw [← Array.length_toList]
  cases s.data.toList <;> simp
theorem bk_text1 (s : ByteArray) (w : World) : Calls Tryz.prog 82 #[.string s] w fun e w' => e = .returned (.bool (decide (s.size ≠ 0))) ∧ w' = w := by
  go_enter Tryz.func82, Tryz.ntmps82
  go_wp2
  go_ret
  exact ⟨by show _ = Ending.returned (Value.bool _); rw [bk_empty]; rfl, rfl⟩
theorem bk_text3 (s : ByteArray) (w : World) : Calls Tryz.prog 86 #[.string s] w fun e w' => e = .returned (.bool true) ∧ w' = w := by
  go_enter Tryz.func86, Tryz.ntmps86
  go_wp2
  go_ret
  exact ⟨rfl, rfl⟩
theorem bk_between (a b : ByteArray) (w : World) : Calls Tryz.prog 83 #[.string a, .string b] w fun e w' =>
    e = .returned (.func (.func 84) #[] #[.pointer (some ⟨w.heap.size, 0, none⟩), .pointer (some ⟨w.heap.size + 1, 0, none⟩)]) ∧ w' = (w.alloc (.cells #[.string a] 9)).alloc (.cells #[.string b] 9) := by
  go_enter Tryz.func83, Tryz.ntmps83
  go_wp2
  go_ret
  exact ⟨rfl, rfl⟩
def bk_Line (W : World) (B : Nat) (L : Value) (a b : ByteArray) : Prop := ∃ x y, B ≤ x ∧ B ≤ y ∧ L = .func (.func 84) #[] #[.pointer (some ⟨x, 0, none⟩), .pointer (some ⟨y, 0, none⟩)] ∧
  W.heap[x]? = some (Obj.cells #[.string a] 9 (0, 0)) ∧ W.heap[y]? = some (Obj.cells #[.string b] 9 (0, 0))
theorem bk_Line.step {W W' : World} {B : Nat} {L : Value} {a b : ByteArray} (h : bk_Line W B L a b) (hk : ∀ (x : Nat) (v : Array Value), W.heap[x]? = some (Obj.cells v 9 (0, 0)) → W'.heap[x]? = some (Obj.cells v 9 (0, 0))) : bk_Line W' B L a b := by
  obtain ⟨x, y, h1, h2, h3, h4, h5⟩ := h
  exact ⟨x, y, h1, h2, h3, hk _ _ h4, hk _ _ h5⟩
def bk_kind (t : Value) (q : Bool) (l : Value) : Value := .agg #[t, .bool q, l]
def bk_f (n : Nat) : Value := .func (.func n) #[] #[]
def bk_kinds (L1 L3 L4 L5 : Value) (j : Int) : Option Value := if j = 5 then some (bk_kind (bk_f 87) false L5) else if j = 4 then some (bk_kind (bk_f 82) false L4) else if j = 3 then some (bk_kind (bk_f 86) true L3) else
  if j = 2 then some (bk_kind (bk_f 82) false (bk_f 85)) else if j = 1 then some (bk_kind (bk_f 82) false L1) else none
theorem bk_size (w : World) (o : Obj) : (w.alloc o).heap.size = w.heap.size + 1 := by show (_ : Array Obj).size = _; exact Array.size_push _
theorem bk_line_new (W : World) (B : Nat) (a b : ByteArray) (h : B ≤ W.heap.size) :
    bk_Line ((W.alloc (.cells #[.string a] 9)).alloc (.cells #[.string b] 9)) B (.func (.func 84) #[] #[.pointer (some ⟨W.heap.size, 0, none⟩), .pointer (some ⟨W.heap.size + 1, 0, none⟩)]) a b := by
  have h1 := MapKept.heap_alloc W (.cells #[.string a] 9)
  have h2 := MapKept.heap_alloc (W.alloc (.cells #[.string a] 9)) (.cells #[.string b] 9)
  have hs : (W.alloc (.cells #[.string a] 9)).heap.size = W.heap.size + 1 := bk_size _ _
  rw [hs] at h2
  refine ⟨_, _, h, Nat.le_succ_of_le h, rfl, ?_, h2.1⟩
  rw [Below.heap_alloc _ _ _ (by rw [hs]; omega)]
  exact h1.1
theorem bk_two (W : World) (o o' : Obj) : ∀ (x : Nat) (v : Array Value), W.heap[x]? = some (Obj.cells v 9 (0, 0)) → ((W.alloc o).alloc o').heap[x]? = some (Obj.cells v 9 (0, 0)) := fun x v h => by
  have hlt := (Array.getElem?_eq_some_iff.1 h).1
  have hs : (W.alloc o).heap.size = W.heap.size + 1 := bk_size _ _
  rw [Below.heap_alloc _ _ _ (by rw [hs]; omega), Below.heap_alloc _ _ _ hlt]
  exact h
set_option maxHeartbeats 4000000 in
set_option maxRecDepth 100000 in
theorem bk_kinds_calls (w : World) : Calls Tryz.prog 73 #[] w fun e w' => ∃ b L1 L3 L4 L5, e = .returned (.map (some b)) ∧ w.heap.size ≤ b ∧
    Mp.IMap w' b 5 (bk_kinds L1 L3 L4 L5) ∧ bk_Line w' w.heap.size L1 ⟨#[]⟩ ⟨#[]⟩ ∧ bk_Line w' w.heap.size L3 ⟨#[34]⟩ ⟨#[34]⟩ ∧ bk_Line w' w.heap.size L4 ⟨#[91]⟩ ⟨#[93]⟩ ∧ bk_Line w' w.heap.size L5 ⟨#[35]⟩ ⟨#[]⟩ ∧ Below w.heap.size w w' := by
  have hI := Mp.IMap.made w
  have hB := below_alloc (Below.refl w.heap.size w) (.map #[] 0)
  have hmk := @run_makeMap Tryz.prog
  go_enter Tryz.func73, Tryz.ntmps73
  go_wp2_with ((first | (with_reducible refine Mp.is_insert (.inl rfl) ?_) | (with_reducible refine Mp.is_insert (.inr rfl) ?_)); refine Rg.stop_here ?_)
  refine (bk_between _ _ _).mono ?_
  rintro e w1 ⟨rfl, rfl⟩
  have hB0 := hB
  replace hB := below_alloc (below_alloc hB (.cells #[.string (⟨#[]⟩ : ByteArray)] 9)) (.cells #[.string (⟨#[]⟩ : ByteArray)] 9)
  replace hI := (hI.alloc (.cells #[.string (⟨#[]⟩ : ByteArray)] 9)).alloc (.cells #[.string (⟨#[]⟩ : ByteArray)] 9)
  have hL1 := bk_line_new _ w.heap.size ((⟨#[]⟩ : ByteArray)) ((⟨#[]⟩ : ByteArray)) (below_size hB0)
  go_wp2_with ((first | (with_reducible refine Mp.is_insert (.inl rfl) ?_) | (with_reducible refine Mp.is_insert (.inr rfl) ?_)); refine Rg.stop_here ?_)
  refine ⟨?_⟩
  refine Mp.wpList_put rfl _ _ _ 128 (.inl rfl) 3 126 Tryz.underlying128 Tryz.underlying3 _ 0 _ rfl hI (by unfold maxLen; omega) 1 _ rfl rfl (by first | rfl | simp) ?_
  intro w1' hI' hgr
  replace hL1 := hL1.step (fun _ _ hx => hI.kept hgr hx)
  replace hB := hB.grown hgr (below_size hB) (fun j hj => by cases hj; exact Nat.le_refl _)
  replace hI := hI'
  clear hgr hI'
  go_wp2_with ((first | (with_reducible refine Mp.is_insert (.inl rfl) ?_) | (with_reducible refine Mp.is_insert (.inr rfl) ?_)); refine Rg.stop_here ?_)
  refine ⟨?_⟩
  refine Mp.wpList_put rfl _ _ _ 128 (.inl rfl) 3 126 Tryz.underlying128 Tryz.underlying3 _ 1 _ rfl hI (by unfold maxLen; omega) 2 _ rfl rfl (by first | rfl | simp) ?_
  intro w2' hI' hgr
  replace hL1 := hL1.step (fun _ _ hx => hI.kept hgr hx)
  replace hB := hB.grown hgr (below_size hB) (fun j hj => by cases hj; exact Nat.le_refl _)
  replace hI := hI'
  clear hgr hI'
  go_wp2_with ((first | (with_reducible refine Mp.is_insert (.inl rfl) ?_) | (with_reducible refine Mp.is_insert (.inr rfl) ?_)); refine Rg.stop_here ?_)
  refine (bk_between _ _ _).mono ?_
  rintro e w3 ⟨rfl, rfl⟩
  have hB0 := hB
  replace hB := below_alloc (below_alloc hB (.cells #[.string (⟨#[34]⟩ : ByteArray)] 9)) (.cells #[.string (⟨#[34]⟩ : ByteArray)] 9)
  replace hI := (hI.alloc (.cells #[.string (⟨#[34]⟩ : ByteArray)] 9)).alloc (.cells #[.string (⟨#[34]⟩ : ByteArray)] 9)
  replace hL1 := hL1.step (bk_two _ (.cells #[.string (⟨#[34]⟩ : ByteArray)] 9) (.cells #[.string (⟨#[34]⟩ : ByteArray)] 9))
  have hL3 := bk_line_new _ w.heap.size ((⟨#[34]⟩ : ByteArray)) ((⟨#[34]⟩ : ByteArray)) (below_size hB0)
  go_wp2_with ((first | (with_reducible refine Mp.is_insert (.inl rfl) ?_) | (with_reducible refine Mp.is_insert (.inr rfl) ?_)); refine Rg.stop_here ?_)
  refine ⟨?_⟩
  refine Mp.wpList_put rfl _ _ _ 128 (.inl rfl) 3 126 Tryz.underlying128 Tryz.underlying3 _ 2 _ rfl hI (by unfold maxLen; omega) 3 _ rfl rfl (by first | rfl | simp) ?_
  intro w3' hI' hgr
  replace hL1 := hL1.step (fun _ _ hx => hI.kept hgr hx)
  replace hL3 := hL3.step (fun _ _ hx => hI.kept hgr hx)
  replace hB := hB.grown hgr (below_size hB) (fun j hj => by cases hj; exact Nat.le_refl _)
  replace hI := hI'
  clear hgr hI'
  go_wp2_with ((first | (with_reducible refine Mp.is_insert (.inl rfl) ?_) | (with_reducible refine Mp.is_insert (.inr rfl) ?_)); refine Rg.stop_here ?_)
  refine (bk_between _ _ _).mono ?_
  rintro e w4 ⟨rfl, rfl⟩
  have hB0 := hB
  replace hB := below_alloc (below_alloc hB (.cells #[.string (⟨#[91]⟩ : ByteArray)] 9)) (.cells #[.string (⟨#[93]⟩ : ByteArray)] 9)
  replace hI := (hI.alloc (.cells #[.string (⟨#[91]⟩ : ByteArray)] 9)).alloc (.cells #[.string (⟨#[93]⟩ : ByteArray)] 9)
  replace hL1 := hL1.step (bk_two _ (.cells #[.string (⟨#[91]⟩ : ByteArray)] 9) (.cells #[.string (⟨#[93]⟩ : ByteArray)] 9))
  replace hL3 := hL3.step (bk_two _ (.cells #[.string (⟨#[91]⟩ : ByteArray)] 9) (.cells #[.string (⟨#[93]⟩ : ByteArray)] 9))
  have hL4 := bk_line_new _ w.heap.size ((⟨#[91]⟩ : ByteArray)) ((⟨#[93]⟩ : ByteArray)) (below_size hB0)
  go_wp2_with ((first | (with_reducible refine Mp.is_insert (.inl rfl) ?_) | (with_reducible refine Mp.is_insert (.inr rfl) ?_)); refine Rg.stop_here ?_)
  refine ⟨?_⟩
  refine Mp.wpList_put rfl _ _ _ 128 (.inl rfl) 3 126 Tryz.underlying128 Tryz.underlying3 _ 3 _ rfl hI (by unfold maxLen; omega) 4 _ rfl rfl (by first | rfl | simp) ?_
  intro w4' hI' hgr
  replace hL1 := hL1.step (fun _ _ hx => hI.kept hgr hx)
  replace hL3 := hL3.step (fun _ _ hx => hI.kept hgr hx)
  replace hL4 := hL4.step (fun _ _ hx => hI.kept hgr hx)
  replace hB := hB.grown hgr (below_size hB) (fun j hj => by cases hj; exact Nat.le_refl _)
  replace hI := hI'
  clear hgr hI'
  go_wp2_with ((first | (with_reducible refine Mp.is_insert (.inl rfl) ?_) | (with_reducible refine Mp.is_insert (.inr rfl) ?_)); refine Rg.stop_here ?_)
  refine (bk_between _ _ _).mono ?_
  rintro e w5 ⟨rfl, rfl⟩
  have hB0 := hB
  replace hB := below_alloc (below_alloc hB (.cells #[.string (⟨#[35]⟩ : ByteArray)] 9)) (.cells #[.string (⟨#[]⟩ : ByteArray)] 9)
  replace hI := (hI.alloc (.cells #[.string (⟨#[35]⟩ : ByteArray)] 9)).alloc (.cells #[.string (⟨#[]⟩ : ByteArray)] 9)
  replace hL1 := hL1.step (bk_two _ (.cells #[.string (⟨#[35]⟩ : ByteArray)] 9) (.cells #[.string (⟨#[]⟩ : ByteArray)] 9))
  replace hL3 := hL3.step (bk_two _ (.cells #[.string (⟨#[35]⟩ : ByteArray)] 9) (.cells #[.string (⟨#[]⟩ : ByteArray)] 9))
  replace hL4 := hL4.step (bk_two _ (.cells #[.string (⟨#[35]⟩ : ByteArray)] 9) (.cells #[.string (⟨#[]⟩ : ByteArray)] 9))
  have hL5 := bk_line_new _ w.heap.size ((⟨#[35]⟩ : ByteArray)) ((⟨#[]⟩ : ByteArray)) (below_size hB0)
  go_wp2_with ((first | (with_reducible refine Mp.is_insert (.inl rfl) ?_) | (with_reducible refine Mp.is_insert (.inr rfl) ?_)); refine Rg.stop_here ?_)
  refine ⟨?_⟩
  refine Mp.wpList_put rfl _ _ _ 128 (.inl rfl) 3 126 Tryz.underlying128 Tryz.underlying3 _ 4 _ rfl hI (by unfold maxLen; omega) 5 _ rfl rfl (by first | rfl | simp) ?_
  intro w5' hI' hgr
  replace hL1 := hL1.step (fun _ _ hx => hI.kept hgr hx)
  replace hL3 := hL3.step (fun _ _ hx => hI.kept hgr hx)
  replace hL4 := hL4.step (fun _ _ hx => hI.kept hgr hx)
  replace hL5 := hL5.step (fun _ _ hx => hI.kept hgr hx)
  replace hB := hB.grown hgr (below_size hB) (fun j hj => by cases hj; exact Nat.le_refl _)
  replace hI := hI'
  clear hgr hI'
  have hs1 : (w.alloc (.map #[] 0)).heap.size = w.heap.size + 1 := bk_size _ _
  rw [hs1] at hL1
  go_wp2
  go_ret
  exact ⟨_, _, _, _, _, rfl, Nat.le_refl _, hI, hL1, hL3, hL4, hL5, hB⟩
theorem bk_cell {w : World} {b : Nat} {cs : Array Value} {t : TypeId} {fr : Nat × Nat} (h : w.heap[b]? = some (.cells cs t fr)) (j : Nat) : w.cell? ⟨b, j, none⟩ = cs[j]? := by
  simp [World.cell?, h]
theorem bk_frozen {w : World} {b : Nat} {cs : Array Value} {t : TypeId} (h : w.heap[b]? = some (.cells cs t (0, 0))) (j : Nat) : w.frozen? ⟨b, j, none⟩ = false := by
  simp [World.frozen?, h]
def bk_noKind : Obj := .cells #[.nilFunc, .bool false, .nilFunc] 126
theorem bk_noKind_cells (w : World) : (w.alloc bk_noKind).cell? ⟨w.heap.size, 0, none⟩ = some .nilFunc ∧ (w.alloc bk_noKind).cell? ⟨w.heap.size, 1, none⟩ = some (.bool false) ∧ (w.alloc bk_noKind).cell? ⟨w.heap.size, 2, none⟩ = some .nilFunc ∧
    (w.alloc bk_noKind).frozen? ⟨w.heap.size, 0, none⟩ = false ∧ (w.alloc bk_noKind).frozen? ⟨w.heap.size, 1, none⟩ = false ∧ (w.alloc bk_noKind).frozen? ⟨w.heap.size, 2, none⟩ = false := by
  have h : (w.alloc bk_noKind).heap[w.heap.size]? = some bk_noKind := (MapKept.heap_alloc w bk_noKind).1
  exact ⟨bk_cell h 0, bk_cell h 1, bk_cell h 2, bk_frozen h 0, bk_frozen h 1, bk_frozen h 2⟩
theorem bk_zeroKind (w : World) : (zeroValue 126).run Tryz.prog w = .ok (.agg #[.nilFunc, .bool false, .nilFunc]) w := by kernel_rfl
def bk_Want (kind : Int) (T : Nat) (q : Bool) : Prop :=
  ((kind = 1 ∨ kind = 2 ∨ kind = 4) ∧ T = 82 ∧ q = false) ∨ (kind = 3 ∧ T = 86 ∧ q = true) ∨ (kind = 5 ∧ T = 87 ∧ q = false)
def bk_Fn (v : Value) : Prop := ∃ fn c, v = .func fn #[] c
theorem bk_Line.fn {W : World} {B : Nat} {L : Value} {a b : ByteArray} (h : bk_Line W B L a b) : bk_Fn L := by
  obtain ⟨x, y, _, _, rfl, _⟩ := h
  exact ⟨_, _, rfl⟩
theorem bk_kinds_cases (kind : Int) : ((∀ L1 L3 L4 L5, bk_kinds L1 L3 L4 L5 kind = none) ∧ kind ≠ 1 ∧ kind ≠ 2 ∧ kind ≠ 3 ∧ kind ≠ 4 ∧ kind ≠ 5) ∨
    ∃ (T : Nat) (q : Bool), bk_Want kind T q ∧ ∀ L1 L3 L4 L5, bk_Fn L1 → bk_Fn L3 → bk_Fn L4 → bk_Fn L5 → ∃ fn c, bk_kinds L1 L3 L4 L5 kind = some (.agg #[.func (.func T) #[] #[], .bool q, .func fn #[] c]) := by
  by_cases h5 : kind = 5
  · subst h5; exact .inr ⟨_, _, .inr (.inr ⟨rfl, rfl, rfl⟩), fun _ _ _ _ _ _ _ ⟨fn, c, h⟩ => ⟨fn, c, by subst h; rfl⟩⟩
  by_cases h4 : kind = 4
  · subst h4; exact .inr ⟨_, _, .inl ⟨.inr (.inr rfl), rfl, rfl⟩, fun _ _ _ _ _ _ ⟨fn, c, h⟩ _ => ⟨fn, c, by subst h; rfl⟩⟩
  by_cases h3 : kind = 3
  · subst h3; exact .inr ⟨_, _, .inr (.inl ⟨rfl, rfl, rfl⟩), fun _ _ _ _ _ ⟨fn, c, h⟩ _ _ => ⟨fn, c, by subst h; rfl⟩⟩
  by_cases h2 : kind = 2
  · subst h2; exact .inr ⟨_, _, .inl ⟨.inr (.inl rfl), rfl, rfl⟩, fun _ _ _ _ _ _ _ _ => ⟨_, _, rfl⟩⟩
  by_cases h1 : kind = 1
  · subst h1; exact .inr ⟨_, _, .inl ⟨.inl rfl, rfl, rfl⟩, fun _ _ _ _ ⟨fn, c, h⟩ _ _ _ => ⟨fn, c, by subst h; rfl⟩⟩
  exact .inl ⟨fun _ _ _ _ => by simp [bk_kinds, h1, h2, h3, h4, h5], h1, h2, h3, h4, h5⟩
theorem bk_belA {w w1 : World} {o : Obj} (h : Below (w.alloc o).drew.heap.size (w.alloc o).drew w1) : Below (w.heap.size + 1) (w.alloc o) w1 ∧ w.heap.size + 1 ≤ w1.heap.size := by
  have e : (w.alloc o).drew.heap.size = w.heap.size + 1 := bk_size w o
  exact ⟨⟨h.os, h.tape, h.output, h.size, fun i hi => h.block i (by rw [e]; exact hi)⟩, e ▸ h.size⟩
theorem bk_belB {w w1 : World} {o o' : Obj} (h : Below ((w.alloc o).alloc o').drew.heap.size ((w.alloc o).alloc o').drew w1) : Below (w.heap.size + 1) (w.alloc o) w1 ∧ w.heap.size + 1 ≤ w1.heap.size := by
  have e : ((w.alloc o).alloc o').drew.heap.size = w.heap.size + 1 + 1 := (bk_size _ o').trans (by rw [bk_size])
  have e2 : (w.alloc o).heap.size = w.heap.size + 1 := bk_size w o
  have hs := h.size
  rw [e] at hs
  exact ⟨⟨h.os, h.tape, h.output, by omega, fun i hi => (h.block i (by rw [e]; omega)).trans (Below.heap_alloc _ _ i (by rw [e2]; exact hi))⟩, by omega⟩
theorem bk_belw {w w1 : World} {o : Obj} (h : Below (w.heap.size + 1) (w.alloc o) w1) : Below w.heap.size w w1 :=
  ⟨h.os, h.tape, h.output, by have := h.size; rw [bk_size] at this; omega, fun i hi => (h.block i (by omega)).trans (Below.heap_alloc _ _ i hi)⟩
theorem bk_belbox {w w1 : World} {cs : Array Value} {t : TypeId} (h : Below (w.heap.size + 1) (w.alloc (.cells cs t)) w1) : w1.heap[w.heap.size]? = some (.cells cs t (0, 0)) :=
  (h.block _ (by omega)).trans (MapKept.heap_alloc w _).1
structure bk_Box (W : World) (b : Nat) (x0 x1 : Int) (x2 : ByteArray) (x3 x4 x5 : Int) (v6 : Value) (x7 x8 : Int) : Prop where mk ::
  c0 : W.cell? ⟨b, 0, none⟩ = some (.int .i64 x0)
  c1 : W.cell? ⟨b, 1, none⟩ = some (.int .i64 x1)
  c2 : W.cell? ⟨b, 2, none⟩ = some (.string x2)
  c3 : W.cell? ⟨b, 3, none⟩ = some (.int .i64 x3)
  c4 : W.cell? ⟨b, 4, none⟩ = some (.int .i64 x4)
  c5 : W.cell? ⟨b, 5, none⟩ = some (.int .i64 x5)
  c6 : W.cell? ⟨b, 6, none⟩ = some v6
  c7 : W.cell? ⟨b, 7, none⟩ = some (.int .i64 x7)
  c8 : W.cell? ⟨b, 8, none⟩ = some (.int .i64 x8)
theorem bk_Box.of {W : World} {b : Nat} {x0 x1 : Int} {x2 : ByteArray} {x3 x4 x5 : Int} {v6 : Value} {x7 x8 : Int} (h : W.heap[b]? = some (.cells #[.int .i64 x0, .int .i64 x1, .string x2, .int .i64 x3, .int .i64 x4, .int .i64 x5, v6, .int .i64 x7, .int .i64 x8] 49 (0, 0))) :
    bk_Box W b x0 x1 x2 x3 x4 x5 v6 x7 x8 := ⟨bk_cell h 0, bk_cell h 1, bk_cell h 2, bk_cell h 3, bk_cell h 4, bk_cell h 5, bk_cell h 6, bk_cell h 7, bk_cell h 8⟩
theorem bk_Box.step {W W' : World} {b : Nat} {x0 x1 : Int} {x2 : ByteArray} {x3 x4 x5 : Int} {v6 : Value} {x7 x8 : Int} (h : bk_Box W b x0 x1 x2 x3 x4 x5 v6 x7 x8) (hb : Below W.heap.size W W') : bk_Box W' b x0 x1 x2 x3 x4 x5 v6 x7 x8 :=
  ⟨(hb.cell (World.block_lt_of_cell? _ _ h.c0)).trans h.c0, (hb.cell (World.block_lt_of_cell? _ _ h.c1)).trans h.c1, (hb.cell (World.block_lt_of_cell? _ _ h.c2)).trans h.c2, (hb.cell (World.block_lt_of_cell? _ _ h.c3)).trans h.c3, (hb.cell (World.block_lt_of_cell? _ _ h.c4)).trans h.c4, (hb.cell (World.block_lt_of_cell? _ _ h.c5)).trans h.c5, (hb.cell (World.block_lt_of_cell? _ _ h.c6)).trans h.c6, (hb.cell (World.block_lt_of_cell? _ _ h.c7)).trans h.c7, (hb.cell (World.block_lt_of_cell? _ _ h.c8)).trans h.c8⟩
theorem bk_stepc {W W' : World} {p : Addr} {v : Value} (h : W.cell? p = some v) (hb : Below W.heap.size W W') : W'.cell? p = some v := (hb.cell (World.block_lt_of_cell? _ _ h)).trans h
end Go.Proofs.YtkhgdglaophkbaaGreatDoor.PK
end
section
set_option linter.unusedVariables false
namespace Go.Proofs.YtkhgdglaophkbaaGreatDoor.PK
open Go.RowKit Go.Proofs.YtkhgdglaophkbaaGreatDoorW.PrintWords Go.Proofs.YtkhgdglaophkbaaGreatDoorW.PrintLast Go.Proofs.YtkhgdglaophkbaaGreatDoorW.PrintMore
theorem is_alloc {P : Program} {W : World} {ops : Array Oper} {rest : List Oper} {o : Oper} {a : Act} {Q : Exit → Act → World → Prop} {t : TypeId} (_ : o.op = .alloc t) (h : wpList P ops Q (o :: rest) a W) : wpList P ops Q (o :: rest) a W := h
theorem is_store {P : Program} {W : World} {ops : Array Oper} {rest : List Oper} {o : Oper} {a : Act} {Q : Exit → Act → World → Prop} {t : TypeId} {p x : Operand} (_ : o.op = .store t p x) (h : wpList P ops Q (o :: rest) a W) : wpList P ops Q (o :: rest) a W := h
theorem wpList_store_box {P : Program} {W : World} {ops : Array Oper} {rest : List Oper} {o : Oper} {a : Act} {Q : Exit → Act → World → Prop} (hgd : o.guard = none) (hN : o.dst = none) (t : TypeId) (p x : Operand) (hop : o.op = .store t p x)
    (g : Nat) (cur cs : Array Value) (e : TypeId) (ha : a.eval p = .pointer (some ⟨g, 0, none⟩)) (hx : a.eval x = .agg cs) (hh : W.heap[g]? = some (.cells cur e (0, 0))) (hsz : (P.info? t).map (·.size) = some cs.toList.length) (hcur : cur.size = cs.size)
    (h1 : ∀ q ∈ cs.toList, q.oneCell' = true)
    (h : ∀ w2, w2.heap[g]? = some (.cells cs e (0, 0)) → (∀ B, B ≤ g → Below B W w2) → (∀ k, k ≠ g → w2.heap[k]? = W.heap[k]?) → wpList P ops Q rest a w2) : wpList P ops Q (o :: rest) a W := by
  refine wpList_plain hgd fun K hK => ?_
  have hrun : (Instr.storeAt t (.pointer (some ⟨g, 0, none⟩)) (.agg cs)).run P W = .ok () (W.setCells g 0 cs.toList) :=
    run_store_run t (.agg cs) cs.toList hh rfl hsz (by rw [Array.length_toList]; omega) h1
  obtain ⟨cur', hr1, hr2, hr3⟩ := setCells_row cs.toList 0 W cur hh (by rw [Array.length_toList]; omega)
  have hcs : cur' = cs := by
    apply Array.ext'
    rw [hr3, List.take_zero, List.nil_append, List.drop_eq_nil_of_le (by rw [Array.length_toList, Array.length_toList]; omega), List.append_nil]
  subst hcs
  obtain ⟨s1, s2, s3, s4⟩ := setCells_same g cur'.toList 0 W
  have hlt := (Array.getElem?_eq_some_iff.1 hh).1
  unfold Oper.wp execOp
  simp only [hop, ha, hx, Sem.run_bind, Sem.run_pure, Result.andThen_ok, hrun]
  show K (a.put o.dst undef) _
  rw [hN]
  exact hK _ _ (h _ hr1 (fun B hB => ⟨s1, s2, s3, by omega, fun k hk => setCells_far _ _ k (by omega)⟩) (fun k hk => setCells_far _ _ k hk))
theorem bk_size26 : (Tryz.prog.info? 49).map (·.size) = some 9 := by kernel_rfl
theorem bk_rd (l : List (S49)) (j : Nat) (h : j < l.length) : rd_T49 l (j : Int) = l[j] := by
  simp [rd_T49, List.getD_eq_getElem?_getD, h]
end Go.Proofs.YtkhgdglaophkbaaGreatDoor.PK
end
