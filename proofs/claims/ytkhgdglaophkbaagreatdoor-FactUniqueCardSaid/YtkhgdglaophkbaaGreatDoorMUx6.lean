/- Texts of this claim, one behind the other. -/
import Derived.Test.YtkhgdglaophkbaaGreatDoorMUx2
import Derived.Test.YtkhgdglaophkbaaGreatDoorMUx5
import Derived.Test.YtkhgdglaophkbaaGreatDoorMUx3
import Derived.Deep.Cut
import Derived.Deep.RegionWith
import Derived.Laws.EntriesVeiled
import Derived.Test.YtkhgdglaophkbaaGreatDoorMUx4
import Derived.Lib.VarintBits
import Derived.Lib.Zigzag
import Derived.Deep.QuietTactic
import Derived.BigQuiet
import Derived.BigRegion
import Derived.RegionTactic
import Derived.ChangeAlike
section
namespace Go.Proofs.YtkhgdglaophkbaaGreatDoor.PK
open Go.RowKit Go.Proofs.YtkhgdglaophkbaaGreatDoorW.PrintWords Go.Proofs.YtkhgdglaophkbaaGreatDoorW.PrintLast Go.Proofs.YtkhgdglaophkbaaGreatDoorW.PrintMore
attribute [local go_sem] max2_int min2_int max_two min_two max_three min_three max_four min_four   -- for this text's walks alone
set_option linter.unusedVariables false
set_option linter.unusedSimpArgs false
theorem rd_nat (l : List Int) (x : Nat) (h : x < l.length) : rd l (x : Int) = l[x] := by
  simp [rd, List.getD_eq_getElem?_getD, h]
theorem pl_within (lo hi : Int) (l : List Int) (hl : l.length ≤ 9223372036854775807) : ∀ (d k x : Nat), x + d = l.length → d < k →
    label_within.l0 k lo hi l (l.length : Int) (x : Int) = some ((l.drop x).all fun y => decide (lo ≤ y) && decide (y ≤ hi))
  | 0, k, x, hx, hk => by
    obtain ⟨k, rfl⟩ : ∃ j, k = j + 1 := ⟨k - 1, by omega⟩
    rw [label_within.l0, if_neg (by omega), List.drop_eq_nil_of_le (by omega)]; rfl
  | d + 1, k, x, hx, hk => by
    obtain ⟨k, rfl⟩ : ∃ j, k = j + 1 := ⟨k - 1, by omega⟩
    have hlt : x < l.length := by omega
    have hw : wrap64 ((x : Int) + 1) = ((x + 1 : Nat) : Int) := by unfold wrap64; omega
    rw [label_within.l0, if_pos (by omega), if_pos (by omega), if_pos (by omega), rd_nat l x hlt, hw, pl_within lo hi l hl d k (x + 1) (by omega) (by omega), List.drop_eq_getElem_cons hlt, List.all_cons]
    by_cases h1 : l[x] < lo
    · rw [if_pos h1]; simp; intro h; omega
    · rw [if_neg h1]
      by_cases h2 : l[x] > hi
      · rw [if_pos h2]; simp; intro _ h; omega
      · rw [if_neg h2, show decide (lo ≤ l[x]) = true by simpa using h1, show decide (l[x] ≤ hi) = true by simpa using h2]; simp
theorem pl_asc (l : List Int) (hl : l.length ≤ 9223372036854775807) : ∀ (d k x : Nat), x + 1 + d = l.length → d < k →
    label_ascending_int.l0 k l ((x + 1 : Nat) : Int) = some (m_asc (l.drop x))
  | 0, k, x, hx, hk => by
    obtain ⟨k, rfl⟩ : ∃ j, k = j + 1 := ⟨k - 1, by omega⟩
    rw [label_ascending_int.l0, if_neg (by omega), List.drop_eq_getElem_cons (by omega : x < l.length), List.drop_eq_nil_of_le (by omega)]; rfl
  | d + 1, k, x, hx, hk => by
    obtain ⟨k, rfl⟩ : ∃ j, k = j + 1 := ⟨k - 1, by omega⟩
    have hlt : x < l.length := by omega
    have hlt2 : x + 1 < l.length := by omega
    have hw : wrap64 (((x + 1 : Nat) : Int) + 1) = ((x + 1 + 1 : Nat) : Int) := by unfold wrap64; omega
    have hv : wrap64 (((x + 1 : Nat) : Int) - 1) = (x : Int) := by unfold wrap64; omega
    rw [label_ascending_int.l0, if_pos (by omega), hv, if_pos (by omega), if_pos (by omega), if_pos (by omega), rd_nat l x hlt, rd_nat l (x + 1) hlt2, hw, pl_asc l hl d k (x + 1) (by omega) (by omega),
      List.drop_eq_getElem_cons hlt, List.drop_eq_getElem_cons hlt2, m_asc]
    by_cases h1 : l[x] ≥ l[x + 1]
    · rw [if_pos h1]; simp; intro h; omega
    · rw [if_neg h1, show decide (l[x] < l[x + 1]) = true by simp; omega]; rfl
theorem pl_asc0 (l : List Int) (hl : l.length ≤ 9223372036854775807) (k : Nat) (hk : l.length < k) : label_ascending_int.f k l = some (m_asc l) := by
  unfold label_ascending_int.f
  rcases Nat.eq_zero_or_pos l.length with h | h
  · obtain ⟨k, rfl⟩ : ∃ j, k = j + 1 := ⟨k - 1, by omega⟩
    rw [label_ascending_int.l0, if_neg (by omega), List.eq_nil_of_length_eq_zero h]; rfl
  · exact pl_asc l hl (l.length - 1) k 0 (by omega) (by omega)
theorem pl_label (u : Int) (l : List Int) (a d : Int) (hl : l.length ≤ 9223372036854775807) : label_Valid.f (l.length + 2) u l a d = some (m_label u l a d) := by
  have h1 : ∀ lo hi (m : List Int), m.length ≤ l.length + 1 → m.length ≤ 9223372036854775807 → label_within.f (l.length + 2) lo hi m = some (m.all fun y => decide (lo ≤ y) && decide (y ≤ hi)) := fun lo hi m hm hm2 => by
    unfold label_within.f; exact pl_within lo hi m hm2 m.length (l.length + 2) 0 (by omega) (by omega)
  unfold label_Valid.f m_label
  rw [h1 _ _ [u] (by simp) (by simp), h1 _ _ l (by omega) hl, h1 _ _ [a] (by simp) (by simp), h1 _ _ [d] (by simp) (by simp), pl_asc0 l hl _ (by omega)]
  simp only [Option.bind_some, List.all_cons, List.all_nil, Bool.and_true]
  by_cases c1 : (decide (0 ≤ u) && decide (u ≤ 1000000000)) = true
  · rw [if_pos c1, c1]
    by_cases c2 : (l.all fun y => decide (1 ≤ y) && decide (y ≤ 64)) = true
    · rw [if_pos c2, c2]
      by_cases c3 : m_asc l = true
      · rw [if_pos c3, c3]
        by_cases c4 : (decide (0 ≤ a) && decide (a ≤ 5)) = true
        · rw [if_pos c4]; simp only [Bool.true_and, Bool.and_assoc] at c4 ⊢; rw [← Bool.and_assoc, c4]; rfl
        · rw [if_neg c4]; simp only [Bool.not_eq_true] at c4; simp only [Bool.true_and]; rw [c4]; rfl
      · rw [if_neg c3]; simp only [Bool.not_eq_true] at c3; rw [c3]; simp
    · rw [if_neg c2]; simp only [Bool.not_eq_true] at c2; rw [c2]; simp
  · rw [if_neg c1]; simp only [Bool.not_eq_true] at c1; rw [c1]; simp
theorem bk_label (u : Int) (A : Option Addr) (c : Nat) (l : List Int) (a d : Int) (w : World) (hr : Kd.C (Kd.int .i64) w A l.length l) (hc : l.length ≤ c) :
    Calls Tryz.prog 49 #[.agg #[.int .i64 u, .slice A l.length c, .int .i64 a, .int .i64 d]] w fun e w' => e = .returned (.bool (m_label u l a d)) ∧ Below w.heap.size w w' :=
  label_Valid.calls _ u A c l a d _ w hr hc (pl_label u l a d (Kd.C_max hr))
theorem bk_within (n m : Int) (w : World) : Calls Tryz.prog 74 #[.int .i64 n, .int .i64 m] w fun e w' => e = .returned (.bool (decide (1 ≤ n) && decide (n ≤ m))) ∧ Drawn0 w w' :=
  block_within.calls n m _ w (by unfold block_within.f; by_cases h : 1 ≤ n <;> simp [h])
theorem bk_validNo (id kind : Int) (text : ByteArray) (story ref u : Int) (l : List Int) (a d : Int) (h : kind ≠ 1 ∧ kind ≠ 2 ∧ kind ≠ 3 ∧ kind ≠ 4 ∧ kind ≠ 5) : m_valid id kind text story ref u l a d = false := by
  simp [m_valid, h.1, h.2.1, h.2.2.1, h.2.2.2.1, h.2.2.2.2]
theorem bk_validF (id kind : Int) (text : ByteArray) (story ref u : Int) (l : List Int) (a d : Int) (h : (decide (1 ≤ id) && decide (id ≤ 1000)) = false ∨ m_label u l a d = false ∨ m_text text = false) : m_valid id kind text story ref u l a d = false := by
  unfold m_valid
  rcases h with h | h | h <;> simp only [h, Bool.false_and, Bool.and_false]
theorem bk_validFilled (id kind : Int) (text : ByteArray) (story ref u : Int) (l : List Int) (a d : Int) (hk : kind = 1 ∨ kind = 2 ∨ kind = 4) (h1 : (decide (1 ≤ id) && decide (id ≤ 1000)) = true) (h2 : m_label u l a d = true) (h3 : m_text text = true) :
    m_valid id kind text story ref u l a d = (decide (text.size ≠ 0) && decide (story = 0) && decide (ref = 0)) := by
  unfold m_valid
  simp only [h1, h2, h3, if_pos hk, Bool.true_and]
theorem bk_validQuote (id kind : Int) (text : ByteArray) (story ref u : Int) (l : List Int) (a d : Int) (hk : kind = 3) (h1 : (decide (1 ≤ id) && decide (id ≤ 1000)) = true) (h2 : m_label u l a d = true) (h3 : m_text text = true) :
    m_valid id kind text story ref u l a d = ((decide (1 ≤ story) && decide (story ≤ 64)) && (decide (1 ≤ ref) && decide (ref ≤ 1000))) := by
  subst hk
  unfold m_valid
  simp only [h1, h2, h3, Bool.true_and]
  rw [if_neg (by omega), if_neg (by omega)]
  simp only [if_true, Bool.and_assoc]
theorem bk_validCount (id kind : Int) (text : ByteArray) (story ref u : Int) (l : List Int) (a d : Int) (hk : kind = 5) (h1 : (decide (1 ≤ id) && decide (id ≤ 1000)) = true) (h2 : m_label u l a d = true) (h3 : m_text text = true) :
    m_valid id kind text story ref u l a d = (m_name text && decide (story = 0) && decide (ref = 0)) := by
  subst hk
  unfold m_valid
  simp only [h1, h2, h3, Bool.true_and]
  rw [if_neg (by omega)]
  simp only [if_true]
theorem bk_within_eq (n m : Int) (w : World) (r : Bool) (h : (decide (1 ≤ n) && decide (n ≤ m)) = r) : Calls Tryz.prog 74 #[.int .i64 n, .int .i64 m] w fun e w' => e = .returned (.bool r) ∧ Drawn0 w w' := h ▸ bk_within n m w
theorem bk_label_eq (u : Int) (A : Option Addr) (c : Nat) (l : List Int) (a d : Int) (w : World) (hr : Kd.C (Kd.int .i64) w A l.length l) (hc : l.length ≤ c) (r : Bool) (h : m_label u l a d = r) :
    Calls Tryz.prog 49 #[.agg #[.int .i64 u, .slice A l.length c, .int .i64 a, .int .i64 d]] w fun e w' => e = .returned (.bool r) ∧ Below w.heap.size w w' := h ▸ bk_label u A c l a d w hr hc
theorem bk_isText_eq (s : ByteArray) (w : World) (r : Bool) (h : m_text s = r) : Calls Tryz.prog 75 #[.string s] w fun e w' => e = .returned (.bool r) ∧ Below w.heap.size w w' := block_isText.calls s r w (congrArg some h)
theorem bk_isName_eq (s : ByteArray) (w : World) (r : Bool) (h : m_name s = r) : Calls Tryz.prog 87 #[.string s] w fun e w' => e = .returned (.bool r) ∧ Below w.heap.size w w' := block_isName.calls s r w (congrArg some h)
theorem bk_text1_eq (s : ByteArray) (w : World) (r : Bool) (h : decide (s.size ≠ 0) = r) : Calls Tryz.prog 82 #[.string s] w fun e w' => e = .returned (.bool r) ∧ Below w.heap.size w w' :=
  (bk_text1 s w).mono (by rintro e w' ⟨rfl, rfl⟩; exact ⟨by rw [h], Below.refl _ _⟩)
theorem bk_text3_eq (s : ByteArray) (w : World) : Calls Tryz.prog 86 #[.string s] w fun e w' => e = .returned (.bool true) ∧ Below w.heap.size w w' :=
  (bk_text3 s w).mono (by rintro e w' ⟨rfl, rfl⟩; exact ⟨rfl, Below.refl _ _⟩)
theorem bk_want (id kind : Int) (text : ByteArray) (story ref u : Int) (l : List Int) (a d : Int) (T : Nat) (q : Bool) (h : bk_Want kind T q) (h1 : (decide (1 ≤ id) && decide (id ≤ 1000)) = true) (h2 : m_label u l a d = true) (h3 : m_text text = true) :
    ∃ X : Bool, (∀ W, Sem.run Tryz.prog (callFunc T #[.string text]) W = .ok (.enter T #[.string text]) W) ∧ (∀ W, Calls Tryz.prog T #[.string text] W fun e w' => e = .returned (.bool X) ∧ Below W.heap.size W w') ∧
      m_valid id kind text story ref u l a d = (X && if q = true then ((decide (1 ≤ story) && decide (story ≤ 64)) && (decide (1 ≤ ref) && decide (ref ≤ 1000))) else (decide (story = 0) && decide (ref = 0))) := by
  rcases h with ⟨hk, rfl, rfl⟩ | ⟨hk, rfl, rfl⟩ | ⟨hk, rfl, rfl⟩
  · exact ⟨_, fun W => by go_simp, fun W => bk_text1_eq text W _ rfl, by rw [bk_validFilled _ _ _ _ _ _ _ _ _ hk h1 h2 h3, Bool.and_assoc]; rfl⟩
  · exact ⟨_, fun W => by go_simp, fun W => bk_text3_eq text W, by rw [bk_validQuote _ _ _ _ _ _ _ _ _ hk h1 h2 h3]; rfl⟩
  · exact ⟨_, fun W => by go_simp, fun W => bk_isName_eq text W _ rfl, by rw [bk_validCount _ _ _ _ _ _ _ _ _ hk h1 h2 h3, Bool.and_assoc]; rfl⟩
def block_Valid.f (a0_0 : Int) (a0_1 : Int) (a0_2 : ByteArray) (a0_3 : Int) (a0_4 : Int) (a0_5 : Int) (l0_6 : List Int) (a0_7 : Int) (a0_8 : Int) : Option Bool := some (m_valid a0_0 a0_1 a0_2 a0_3 a0_4 a0_5 l0_6 a0_7 a0_8)
set_option maxHeartbeats 20000000 in
set_option maxRecDepth 100000 in
theorem block_Valid.calls (a0_0 : Int) (a0_1 : Int) (a0_2 : ByteArray) (a0_3 : Int) (a0_4 : Int) (a0_5 : Int) (A0_6 : Option Addr) (c0_6 : Nat) (l0_6 : List Int) (a0_7 : Int) (a0_8 : Int) (r : Bool) (w : World) (hr0_6 : Kd.C (Kd.int .i64) w A0_6 l0_6.length l0_6) (hc0_6 : l0_6.length ≤ c0_6) (h : block_Valid.f a0_0 a0_1 a0_2 a0_3 a0_4 a0_5 l0_6 a0_7 a0_8 = some r) :
    Calls Tryz.prog 62 #[.agg #[.int .i64 a0_0, .int .i64 a0_1, .string a0_2, .int .i64 a0_3, .int .i64 a0_4, .int .i64 a0_5, .slice A0_6 l0_6.length c0_6, .int .i64 a0_7, .int .i64 a0_8]] w fun e w' => e = .returned (.bool r) ∧ Below w.heap.size w w' := by
  obtain rfl := Option.some.inj h
  clear h
  have HR := Aside0.mk hr0_6
  have HC := Aside0.mk hc0_6
  clear hr0_6 hc0_6
  go_enter Tryz.func62, Tryz.ntmps62
  have hbx := (MapKept.heap_alloc w (.cells #[.int .i64 a0_0, .int .i64 a0_1, .string a0_2, .int .i64 a0_3, .int .i64 a0_4, .int .i64 a0_5, .slice A0_6 l0_6.length c0_6, .int .i64 a0_7, .int .i64 a0_8] 49)).1
  have hb1 : (w.alloc (.cells #[.int .i64 a0_0, .int .i64 a0_1, .string a0_2, .int .i64 a0_3, .int .i64 a0_4, .int .i64 a0_5, .slice A0_6 l0_6.length c0_6, .int .i64 a0_7, .int .i64 a0_8] 49)).drew.cell? ⟨w.heap.size, 1, none⟩ = some (.int .i64 a0_1) := by show (w.alloc _).cell? _ = _; rw [bk_cell hbx]; rfl
  have hs1 : (w.alloc (.cells #[.int .i64 a0_0, .int .i64 a0_1, .string a0_2, .int .i64 a0_3, .int .i64 a0_4, .int .i64 a0_5, .slice A0_6 l0_6.length c0_6, .int .i64 a0_7, .int .i64 a0_8] 49)).heap.size = w.heap.size + 1 := bk_size _ _
  have hb2 : ((w.alloc (.cells #[.int .i64 a0_0, .int .i64 a0_1, .string a0_2, .int .i64 a0_3, .int .i64 a0_4, .int .i64 a0_5, .slice A0_6 l0_6.length c0_6, .int .i64 a0_7, .int .i64 a0_8] 49)).alloc bk_noKind).drew.cell? ⟨w.heap.size, 1, none⟩ = some (.int .i64 a0_1) := by
    show ((w.alloc _).alloc _).cell? _ = _
    exact ((below_alloc (Below.refl _ (w.alloc _)) bk_noKind).cell (World.block_lt_of_cell? _ _ (show (w.alloc (.cells #[.int .i64 a0_0, .int .i64 a0_1, .string a0_2, .int .i64 a0_3, .int .i64 a0_4, .int .i64 a0_5, .slice A0_6 l0_6.length c0_6, .int .i64 a0_7, .int .i64 a0_8] 49)).cell? ⟨w.heap.size, 1, none⟩ = some (.int .i64 a0_1) from hb1))).trans hb1
  obtain ⟨hy0, hy1, hy2, hyf0, hyf1, hyf2⟩ := bk_noKind_cells (w.alloc (.cells #[.int .i64 a0_0, .int .i64 a0_1, .string a0_2, .int .i64 a0_3, .int .i64 a0_4, .int .i64 a0_5, .slice A0_6 l0_6.length c0_6, .int .i64 a0_7, .int .i64 a0_8] 49))
  rw [hs1] at hy0 hy1 hy2 hyf0 hyf1 hyf2
  have hby : w.heap.size + 1 < ((w.alloc (.cells #[.int .i64 a0_0, .int .i64 a0_1, .string a0_2, .int .i64 a0_3, .int .i64 a0_4, .int .i64 a0_5, .slice A0_6 l0_6.length c0_6, .int .i64 a0_7, .int .i64 a0_8] 49)).alloc bk_noKind).heap.size := by rw [bk_size, bk_size]; omega
  clear hs1
  go_upto_region 1 with fail
  go_cut [3, 4] from 5 to 11 (fun v3 v4 wx => ∃ (g : Nat) (known : Bool) (T : Nat) (q : Bool), v3 = .pointer (some ⟨g, 0, none⟩) ∧ v4 = .bool known ∧
    ((known = false ∧ (a0_1 ≠ 1 ∧ a0_1 ≠ 2 ∧ a0_1 ≠ 3 ∧ a0_1 ≠ 4 ∧ a0_1 ≠ 5)) ∨ (known = true ∧ bk_Want a0_1 T q ∧ wx.cell? ⟨g, 0, none⟩ = some (.func (.func T) #[] #[]) ∧ wx.cell? ⟨g, 1, none⟩ = some (.bool q))) ∧
    Below (w.heap.size + 1) (w.alloc (.cells #[.int .i64 a0_0, .int .i64 a0_1, .string a0_2, .int .i64 a0_3, .int .i64 a0_4, .int .i64 a0_5, .slice A0_6 l0_6.length c0_6, .int .i64 a0_7, .int .i64 a0_8] 49)) wx)
  case first =>
    rcases bk_kinds_cases a0_1 with ⟨hnone, hne⟩ | ⟨T, q, hwant, hsome⟩
    · go_region_with (first | (go_at_call 73; refine (bk_kinds_calls _).mono ?_; rintro e w1 ⟨b, L1, L3, L4, L5, rfl, _, hI, hL1, hL3, hL4, hL5, hB⟩; have hlk := hI.look Tryz.underlying128 Tryz.underlying3 (bk_zeroKind _) a0_1 true; have hlk2 := (hI.alloc bk_noKind).look Tryz.underlying128 Tryz.underlying3 (bk_zeroKind _) a0_1 true; rw [hnone] at hlk hlk2; dsimp only [bk_noKind] at hlk hlk2; have hc1 := (hB.cell (World.block_lt_of_cell? _ _ hb1)).trans hb1; have hc2 := ((below_alloc (Below.refl w1.heap.size w1) bk_noKind).cell (World.block_lt_of_cell? _ _ hc1)).trans hc1; dsimp only [bk_noKind] at hc2; obtain ⟨hz0, hz1, hz2, hf0, hf1, hf2⟩ := bk_noKind_cells w1; dsimp only [bk_noKind] at hz0 hz1 hz2 hf0 hf1 hf2; obtain ⟨hBel, hge⟩ := bk_belA hB) | (go_at_call 73; refine (bk_kinds_calls _).mono ?_; rintro e w1 ⟨b, L1, L3, L4, L5, rfl, _, hI, hL1, hL3, hL4, hL5, hB⟩; have hlk := hI.look Tryz.underlying128 Tryz.underlying3 (bk_zeroKind _) a0_1 true; have hlk2 := (hI.alloc bk_noKind).look Tryz.underlying128 Tryz.underlying3 (bk_zeroKind _) a0_1 true; rw [hnone] at hlk hlk2; dsimp only [bk_noKind] at hlk hlk2; have hc1 := (hB.cell (World.block_lt_of_cell? _ _ hb2)).trans hb2; have hz0 := (hB.cell hby).trans hy0; have hz1 := (hB.cell hby).trans hy1; have hz2 := (hB.cell hby).trans hy2; have hf0 := (hB.frozen hby).trans hyf0; have hf1 := (hB.frozen hby).trans hyf1; have hf2 := (hB.frozen hby).trans hyf2; obtain ⟨hBel, hge⟩ := bk_belB hB))
      all_goals (go_wp2_with fail; go_meet; exact ⟨_, false, 0, false, rfl, rfl, .inl ⟨rfl, hne⟩, (by repeat (first | exact hBel | refine Below.setCell ?_ (by first | exact hge | exact Nat.le_refl _) _ | refine Below.alloc ?_ hge _))⟩)
    · go_region_with (first | (go_at_call 73; refine (bk_kinds_calls _).mono ?_; rintro e w1 ⟨b, L1, L3, L4, L5, rfl, _, hI, hL1, hL3, hL4, hL5, hB⟩; have hlk := hI.look Tryz.underlying128 Tryz.underlying3 (bk_zeroKind _) a0_1 true; have hlk2 := (hI.alloc bk_noKind).look Tryz.underlying128 Tryz.underlying3 (bk_zeroKind _) a0_1 true; obtain ⟨fn, cp, hV⟩ := hsome L1 L3 L4 L5 hL1.fn hL3.fn hL4.fn hL5.fn; rw [hV] at hlk hlk2; dsimp only [bk_noKind] at hlk hlk2; have hc1 := (hB.cell (World.block_lt_of_cell? _ _ hb1)).trans hb1; have hc2 := ((below_alloc (Below.refl w1.heap.size w1) bk_noKind).cell (World.block_lt_of_cell? _ _ hc1)).trans hc1; dsimp only [bk_noKind] at hc2; obtain ⟨hz0, hz1, hz2, hf0, hf1, hf2⟩ := bk_noKind_cells w1; dsimp only [bk_noKind] at hz0 hz1 hz2 hf0 hf1 hf2; obtain ⟨hBel, hge⟩ := bk_belA hB) | (go_at_call 73; refine (bk_kinds_calls _).mono ?_; rintro e w1 ⟨b, L1, L3, L4, L5, rfl, _, hI, hL1, hL3, hL4, hL5, hB⟩; have hlk := hI.look Tryz.underlying128 Tryz.underlying3 (bk_zeroKind _) a0_1 true; have hlk2 := (hI.alloc bk_noKind).look Tryz.underlying128 Tryz.underlying3 (bk_zeroKind _) a0_1 true; obtain ⟨fn, cp, hV⟩ := hsome L1 L3 L4 L5 hL1.fn hL3.fn hL4.fn hL5.fn; rw [hV] at hlk hlk2; dsimp only [bk_noKind] at hlk hlk2; have hc1 := (hB.cell (World.block_lt_of_cell? _ _ hb2)).trans hb2; have hz0 := (hB.cell hby).trans hy0; have hz1 := (hB.cell hby).trans hy1; have hz2 := (hB.cell hby).trans hy2; have hf0 := (hB.frozen hby).trans hyf0; have hf1 := (hB.frozen hby).trans hyf1; have hf2 := (hB.frozen hby).trans hyf2; obtain ⟨hBel, hge⟩ := bk_belB hB))
      all_goals (go_wp2_with fail; go_meet; exact ⟨_, true, T, q, rfl, rfl, .inr ⟨rfl, hwant, by go_simp, by go_simp⟩, (by repeat (first | exact hBel | refine Below.setCell ?_ (by first | exact hge | exact Nat.le_refl _) _ | refine Below.alloc ?_ hge _))⟩)
  case rest =>
    obtain ⟨g, known, T, q, rfl, rfl, hk, hBel⟩ := hcut
    have HB := bk_belw hBel
    obtain ⟨c0, c1, c2, c3, c4, c5, c6, c7, c8⟩ := bk_Box.of (bk_belbox hBel)
    clear hbx hb1 hb2 hy0 hy1 hy2 hyf0 hyf1 hyf2 hby hBel
    rcases hk with ⟨rfl, hne⟩ | ⟨rfl, hwant, hg0, hg1⟩
    · go_wp2_with fail
      go_ret
      exact ⟨by rw [bk_validNo _ _ _ _ _ _ _ _ _ hne]; rfl, HB⟩
    · cases hB1 : (decide (1 ≤ a0_0) && decide (a0_0 ≤ 1000)) with
      | false =>
        go_wp2_with (go_at_call 74; refine (bk_within_eq a0_0 1000 _ _ hB1).mono ?_; rintro e w2 ⟨rfl, ⟨nd, rfl⟩⟩)
        go_ret
        exact ⟨by rw [bk_validF _ _ _ _ _ _ _ _ _ (.inl hB1)]; rfl, pw_below_drewN HB nd⟩
      | true =>
      cases hB2 : m_label a0_5 l0_6 a0_7 a0_8 with
      | false =>
        go_wp2_with (first | (go_at_call 74; refine (bk_within_eq a0_0 1000 _ _ hB1).mono ?_; rintro e w2 ⟨rfl, ⟨nd, rfl⟩⟩) | (go_at_call 49; refine (bk_label_eq a0_5 _ _ l0_6 a0_7 a0_8 _ (Kd.C_below HR.out (pw_below_drewN HB nd)) HC.out _ hB2).mono ?_; rintro e w3 ⟨rfl, hb3⟩; have d2 := bk_stepc (W := wc.drewN nd) c2 hb3; have dg0 := bk_stepc (W := wc.drewN nd) hg0 hb3))
        go_ret
        exact ⟨by rw [bk_validF _ _ _ _ _ _ _ _ _ (.inr (.inl hB2))]; rfl, (below_step (pw_below_drewN HB nd) hb3)⟩
      | true =>
      cases hB3 : m_text a0_2 with
      | false =>
        go_wp2_with (first | (go_at_call 74; refine (bk_within_eq a0_0 1000 _ _ hB1).mono ?_; rintro e w2 ⟨rfl, ⟨nd, rfl⟩⟩) | (go_at_call 49; refine (bk_label_eq a0_5 _ _ l0_6 a0_7 a0_8 _ (Kd.C_below HR.out (pw_below_drewN HB nd)) HC.out _ hB2).mono ?_; rintro e w3 ⟨rfl, hb3⟩; have d2 := bk_stepc (W := wc.drewN nd) c2 hb3; have dg0 := bk_stepc (W := wc.drewN nd) hg0 hb3) | (go_at_call 75; refine (bk_isText_eq a0_2 _ _ hB3).mono ?_; rintro e w4 ⟨rfl, hb4⟩; have e2 := bk_stepc d2 hb4; have eg0 := bk_stepc dg0 hb4))
        go_ret
        exact ⟨by rw [bk_validF _ _ _ _ _ _ _ _ _ (.inr (.inr hB3))]; rfl, (below_step (below_step (pw_below_drewN HB nd) hb3) hb4)⟩
      | true =>
      obtain ⟨X, hrun, hT, hV⟩ := bk_want a0_0 a0_1 a0_2 a0_3 a0_4 a0_5 l0_6 a0_7 a0_8 T q hwant hB1 hB2 hB3
      go_wp2_with (first | (go_at_call 74; refine (bk_within_eq a0_0 1000 _ _ hB1).mono ?_; rintro e w2 ⟨rfl, ⟨nd, rfl⟩⟩) | (go_at_call 49; refine (bk_label_eq a0_5 _ _ l0_6 a0_7 a0_8 _ (Kd.C_below HR.out (pw_below_drewN HB nd)) HC.out _ hB2).mono ?_; rintro e w3 ⟨rfl, hb3⟩; have d2 := bk_stepc (W := wc.drewN nd) c2 hb3; have dg0 := bk_stepc (W := wc.drewN nd) hg0 hb3) | (go_at_call 75; refine (bk_isText_eq a0_2 _ _ hB3).mono ?_; rintro e w4 ⟨rfl, hb4⟩; have e2 := bk_stepc d2 hb4; have eg0 := bk_stepc dg0 hb4))
      try rw [hrun]
      refine (hT _).mono ?_
      rintro e w5 ⟨rfl, hb5⟩
      have HB5 := below_step (below_step (below_step (pw_below_drewN HB nd) hb3) hb4) hb5
      have hall : Below wc.heap.size wc w5 := below_step (below_step (below_step (pw_below_drewN (Below.refl _ _) nd) hb3) hb4) hb5
      have f3 := bk_stepc c3 hall
      have f4 := bk_stepc c4 hall
      have fg1 := bk_stepc hg1 hall
      cases X with
      | false =>
        go_wp2_with fail
        go_ret
        exact ⟨by rw [hV]; rfl, HB5⟩
      | true =>
      cases q with
      | false =>
        by_cases hs : a0_3 = 0
        · have hs1 : (a0_3 == 0) = true := by simpa using hs
          by_cases hf : a0_4 = 0
          · have hf1 : (a0_4 == 0) = true := by simpa using hf
            go_wp2_with fail
            go_ret
            exact ⟨by rw [hV]; simp [hs, hf], HB5⟩
          · have hf1 : (a0_4 == 0) = false := by simpa using hf
            go_wp2_with fail
            go_ret
            exact ⟨by rw [hV]; simp [hs, hf], HB5⟩
        · have hs1 : (a0_3 == 0) = false := by simpa using hs
          go_wp2_with fail
          go_ret
          exact ⟨by rw [hV]; simp [hs], HB5⟩
      | true =>
      cases hS : (decide (1 ≤ a0_3) && decide (a0_3 ≤ 64)) with
      | false =>
        go_wp2_with (go_at_call 74; with_reducible refine (bk_within_eq a0_3 64 _ _ hS).mono ?_; rintro e w6 ⟨rfl, ⟨n6, rfl⟩⟩)
        go_ret
        exact ⟨by rw [hV]; simp only [hS]; rfl, pw_below_drewN HB5 n6⟩
      | true =>
      cases hF : (decide (1 ≤ a0_4) && decide (a0_4 ≤ 1000)) with
      | false =>
        go_wp2_with (first | (go_at_call 74; with_reducible refine (bk_within_eq a0_3 64 _ _ hS).mono ?_; rintro e w6 ⟨rfl, ⟨n6, rfl⟩⟩) | (go_at_call 74; with_reducible refine (bk_within_eq a0_4 1000 _ _ hF).mono ?_; rintro e w7 ⟨rfl, ⟨n7, rfl⟩⟩))
        go_ret
        exact ⟨by rw [hV]; simp only [hS, hF]; rfl, pw_below_drewN HB5 (n6 + n7)⟩
      | true =>
        go_wp2_with (first | (go_at_call 74; with_reducible refine (bk_within_eq a0_3 64 _ _ hS).mono ?_; rintro e w6 ⟨rfl, ⟨n6, rfl⟩⟩) | (go_at_call 74; with_reducible refine (bk_within_eq a0_4 1000 _ _ hF).mono ?_; rintro e w7 ⟨rfl, ⟨n7, rfl⟩⟩))
        go_ret
        exact ⟨by rw [hV]; simp only [hS, hF]; rfl, pw_below_drewN HB5 (n6 + n7)⟩
end Go.Proofs.YtkhgdglaophkbaaGreatDoor.PK
end
section
namespace Go.Proofs.YtkhgdglaophkbaaGreatDoor.PK
open Go.RowKit Go.Proofs.YtkhgdglaophkbaaGreatDoorW.PrintWords Go.Proofs.YtkhgdglaophkbaaGreatDoorW.PrintLast Go.Proofs.YtkhgdglaophkbaaGreatDoorW.PrintMore
attribute [local go_sem] max2_int min2_int max_two min_two max_three min_three max_four min_four   -- for this text's walks alone
set_option linter.unusedVariables false
set_option linter.unusedSimpArgs false
def block_ValidList.f (l0 : List (S49)) : Option Bool := some (m_validL l0)
def bk_seen (ids : List Int) (i : Int) : Option Value := if ids.contains i then some (.bool true) else none
theorem bk_seen_put (ids : List Int) (x : Int) : (fun j => if j = x then some (.bool true) else bk_seen ids j) = bk_seen (x :: ids) := by
  funext j
  unfold bk_seen
  by_cases h : j = x
  · subst h; simp
  · simp [h]
theorem bk_zeroBool (w : World) : (zeroValue 4).run Tryz.prog w = .ok (.bool false) w := by kernel_rfl
set_option maxHeartbeats 4000000 in
set_option maxRecDepth 100000 in
theorem block_ValidList.calls (A0 : Option Addr) (c0 : Nat) (l0 : List (S49)) (r : Bool) (w : World) (hr0 : Kd.C k49 w A0 l0.length l0) (hc0 : l0.length ≤ c0) (h : block_ValidList.f l0 = some r) :
    Calls Tryz.prog 40 #[.slice A0 l0.length c0] w fun e w' => e = .returned (.bool r) ∧ Below w.heap.size w w' := by
  obtain rfl := Option.some.inj h
  clear h
  have HR := Aside0.mk hr0
  clear hr0 hc0
  have hmk := @run_makeMap Tryz.prog
  by_cases hlen : (l0.length : Int) > 24
  · go_enter Tryz.func40, Tryz.ntmps40
    go_wp2
    go_ret
    refine ⟨?_, Below.refl _ _⟩
    have hl : ¬ l0.length ≤ 24 := by omega
    simp [m_validL, hl]
  · go_enter Tryz.func40, Tryz.ntmps40
    go_wp2
    go_loopw [12] (fun p wr => ∃ (j : Nat) (ids : List Int), p = .int .i64 (j : Int) ∧ j ≤ l0.length ∧ ids.length = j ∧ Mp.IMap wr w.heap.size j (bk_seen ids) ∧ Aside0 (m_fresh ids (l0.drop j) = m_fresh [] l0) ∧ Below w.heap.size w wr)
      (fun p _ => l0.length - (intOf p).toNat)
    case atStart => exact ⟨0, [], rfl, Nat.zero_le _, rfl, Mp.IMap.made w, ⟨rfl⟩, below_alloc (Below.refl _ _) _⟩
    case round =>
      obtain ⟨j, ids, rfl, hj, hids, hI, hF, hB⟩ := hrel
      by_cases hlt : j < l0.length
      · have hd : decide ((j : Int) < (l0.length : Int)) = true := by simp; omega
        obtain ⟨ad, A6, c6, e0, hx0, hx1, hx2, hx3, hx4, hx5, hx6, hx7, hx8, hl6, hi6⟩ := at_T49 HR.out (j : Int) (by omega) (by omega)
        rw [bk_rd l0 j hlt] at hx0 hx1 hx2 hx3 hx4 hx5 hx6 hx7 hx8 hl6 hi6
        obtain ⟨x, hx⟩ : ∃ x, l0[j] = x := ⟨_, rfl⟩
        rw [hx] at hx0 hx1 hx2 hx3 hx4 hx5 hx6 hx7 hx8 hl6 hi6
        have hdrop : l0.drop j = x :: l0.drop (j + 1) := by rw [List.drop_eq_getElem_cons hlt, hx]
        have HD := Aside0.mk hdrop
        clear hx hdrop
        simp only [Int.toNat_natCast] at hx0 hx1 hx2 hx3 hx4 hx5 hx6 hx7 hx8
        cases e0
        replace hx0 := bk_stepc hx0 hB
        replace hx1 := bk_stepc hx1 hB
        replace hx2 := bk_stepc hx2 hB
        replace hx3 := bk_stepc hx3 hB
        replace hx4 := bk_stepc hx4 hB
        replace hx5 := bk_stepc hx5 hB
        replace hx6 := bk_stepc hx6 hB
        replace hx7 := bk_stepc hx7 hB
        replace hx8 := bk_stepc hx8 hB
        have HI6 := Aside0.mk hi6
        have HL6 := Aside0.mk hl6
        clear hi6 hl6
        have p1 : (0 : Int) ≤ (j : Int) := by omega
        go_wp2_with (with_reducible refine is_alloc rfl ?_; refine Rg.stop_here ?_)
        refine ⟨?_⟩
        refine box_event rfl (N := 5) rfl (cs := #[.int .i64 0, .int .i64 0, .string (⟨#[]⟩ : ByteArray), .int .i64 0, .int .i64 0, .int .i64 0, .slice none 0 0, .int .i64 0, .int .i64 0]) (t := 49) (by first | (go_simp; done) | (go_simp; rfl)) ?_
        intro g hg w1 hbx hb1
        have HG := Aside0.mk hg
        clear hg
        go_wp2_with (with_reducible refine is_store rfl ?_; refine Rg.stop_here ?_)
        refine ⟨?_⟩
        refine wpList_store_box rfl rfl _ _ _ rfl g _ _ _ rfl rfl hbx bk_size26 rfl (by repeat (first | exact List.forall_mem_nil _ | refine List.forall_mem_cons.2 ⟨rfl, ?_⟩)) ?_
        intro w2 hbx2 hst hot
        have hgw : w.heap.size < g := by rw [HG.out]; exact hI.lt
        have hB2 : Below w.heap.size w w2 := (below_step hB hb1).trans (hst _ (by omega))
        have hI2 : Mp.IMap w2 w.heap.size j (bk_seen ids) := hI.step (fun es c he => by rw [hot _ (by omega), hb1.block _ hI.lt]; exact he)
        obtain ⟨d0, d1, d2, d3, d4, d5, d6, d7, d8⟩ := bk_Box.of hbx2
        have hlk := hI2.look Tryz.underlying112 Tryz.underlying3 (bk_zeroBool _) x.f0 false
        have hF' := hF.out
        rw [HD.out] at hF'
        simp only [m_fresh] at hF'
        have HF := Aside0.mk hF'
        clear hF' hb1 hbx hx0 hx1 hx2 hx3 hx4 hx5 hx6 hx7 hx8 hI hF hB hst hot
        cases hc : ids.contains x.f0 with
        | true =>
          rw [show bk_seen ids x.f0 = some (.bool true) by unfold bk_seen; rw [hc]; rfl] at hlk
          dsimp only at hlk
          go_wp2_with fail
          go_ret
          refine ⟨?_, hB2⟩
          have h24 : l0.length ≤ 24 := by omega
          have hf := HF.out
          rw [hc] at hf
          simp [m_validL, h24, ← hf]
        | false =>
          have hnone : bk_seen ids x.f0 = none := by unfold bk_seen; rw [hc]; rfl
          rw [hnone] at hlk
          dsimp only at hlk
          cases hv : m_validB x with
          | false =>
            go_wp2_with (go_at_call 62; refine (block_Valid.calls x.f0 x.f1 x.f2 x.f3 x.f4 x.f5.f0 A6 c6 x.f5.f1 x.f5.f2 x.f5.f3 false _ (Kd.C_below HI6.out hB2) HL6.out (congrArg some hv)).mono ?_; rintro e w3 ⟨rfl, hb3⟩; have d0w := bk_stepc d0 hb3)
            go_ret
            refine ⟨?_, below_step hB2 hb3⟩
            have h24 : l0.length ≤ 24 := by omega
            have hf := HF.out
            rw [hc, hv] at hf
            simp [m_validL, h24, ← hf]
          | true =>
            go_wp2_with (first | (go_at_call 62; refine (block_Valid.calls x.f0 x.f1 x.f2 x.f3 x.f4 x.f5.f0 A6 c6 x.f5.f1 x.f5.f2 x.f5.f3 true _ (Kd.C_below HI6.out hB2) HL6.out (congrArg some hv)).mono ?_; rintro e w3 ⟨rfl, hb3⟩; have d0w := bk_stepc d0 hb3) | ((first | (with_reducible refine Mp.is_insert (.inl rfl) ?_) | (with_reducible refine Mp.is_insert (.inr rfl) ?_)); refine Rg.stop_here ?_))
            refine ⟨?_⟩
            have hI3 := hI2.below hb3 hI2.lt
            refine Mp.wpList_put rfl _ _ _ 112 (.inr rfl) 3 4 Tryz.underlying112 Tryz.underlying3 _ j _ rfl hI3 (by unfold maxLen; omega) x.f0 (.bool true) rfl rfl hnone ?_
            intro w4 hI4 hg4
            rw [bk_seen_put] at hI4
            go_wp2
            go_roundw
            case rel => exact ⟨j + 1, x.f0 :: ids, by go_num, by omega, by simp [hids], hI4, ⟨by have hf := HF.out; rw [hc, hv] at hf; simpa using hf⟩, (below_step hB2 hb3).grown hg4 (below_size (below_step hB2 hb3)) (fun k hk => by cases hk; exact Nat.le_refl _)⟩
            case measure => simp [intOf]; omega
      · have hjl : j = l0.length := by omega
        subst hjl
        have hd : decide (((l0.length : Nat) : Int) < (l0.length : Int)) = false := by simp
        go_wp2
        go_ret
        refine ⟨?_, hB⟩
        have h24 : l0.length ≤ 24 := by omega
        have hf := hF.out
        rw [List.drop_length] at hf
        simp [m_validL, h24, ← hf, m_fresh]
end Go.Proofs.YtkhgdglaophkbaaGreatDoor.PK
end
section
namespace Go.Proofs.YtkhgdglaophkbaaGreatDoor.PK
open Go.RowKit Go.Proofs.YtkhgdglaophkbaaGreatDoorW.PrintWords Go.Proofs.YtkhgdglaophkbaaGreatDoorW.PrintLast Go.Proofs.YtkhgdglaophkbaaGreatDoorW.PrintMore
attribute [local go_sem] max2_int min2_int max_two min_two max_three min_three max_four min_four   -- for this text's walks alone
set_option linter.unusedVariables false
set_option linter.unusedSimpArgs false
mutual
def wire_Int.j0 : Nat → ByteArray → Int → Bool → Option (Int × Int × Int)
  | 0, _, _, _ => none
  | k + 1, x0, x1, x18 => if x18 = true then (some (0, 0, 2)) else (wire_Int.l0 k x0 x1 0 0)
def wire_Int.l0 : Nat → ByteArray → Int → Int → Int → Option (Int × Int × Int)
  | 0, _, _, _, _ => none
  | k + 1, x0, x1, x7, x19 => if x19 < 9 then (if (wrap64 (x1 + x19)) ≥ (x0.size : Int) then (some (0, 0, 10)) else (if 0 ≤ (wrap64 (x1 + x19)) then (if (wrap64 (x1 + x19)) < (x0.size : Int) then (if 0 ≤ (wrap64 (7 * x19)) then (if (bt x0 (wrap64 (x1 + x19))) ≥ 128 then (wire_Int.l0 k x0 x1 (Go.bits .or .u64 x7 (shl .u64 (IntKind.u64.wrap (Go.bits .and .u8 (bt x0 (wrap64 (x1 + x19))) 127)) (wrap64 (7 * x19)))) (wrap64 (x19 + 1))) else (if (bt x0 (wrap64 (x1 + x19))) = 0 then (if x19 > 0 then (some (0, 0, 10)) else (if (Go.bits .xor .i64 (wrap64 ((Go.bits .or .u64 x7 (shl .u64 (IntKind.u64.wrap (Go.bits .and .u8 (bt x0 (wrap64 (x1 + x19))) 127)) (wrap64 (7 * x19)))) / 2)) (wrap64 (-(wrap64 (Go.bits .and .u64 (Go.bits .or .u64 x7 (shl .u64 (IntKind.u64.wrap (Go.bits .and .u8 (bt x0 (wrap64 (x1 + x19))) 127)) (wrap64 (7 * x19)))) 1))))) < (-4611686018427387903) then (some (0, 0, 10)) else (some (Go.bits .xor .i64 (wrap64 ((Go.bits .or .u64 x7 (shl .u64 (IntKind.u64.wrap (Go.bits .and .u8 (bt x0 (wrap64 (x1 + x19))) 127)) (wrap64 (7 * x19)))) / 2)) (wrap64 (-(wrap64 (Go.bits .and .u64 (Go.bits .or .u64 x7 (shl .u64 (IntKind.u64.wrap (Go.bits .and .u8 (bt x0 (wrap64 (x1 + x19))) 127)) (wrap64 (7 * x19)))) 1)))), wrap64 ((wrap64 (x1 + x19)) + 1), 0)))) else (if (Go.bits .xor .i64 (wrap64 ((Go.bits .or .u64 x7 (shl .u64 (IntKind.u64.wrap (Go.bits .and .u8 (bt x0 (wrap64 (x1 + x19))) 127)) (wrap64 (7 * x19)))) / 2)) (wrap64 (-(wrap64 (Go.bits .and .u64 (Go.bits .or .u64 x7 (shl .u64 (IntKind.u64.wrap (Go.bits .and .u8 (bt x0 (wrap64 (x1 + x19))) 127)) (wrap64 (7 * x19)))) 1))))) < (-4611686018427387903) then (some (0, 0, 10)) else (some (Go.bits .xor .i64 (wrap64 ((Go.bits .or .u64 x7 (shl .u64 (IntKind.u64.wrap (Go.bits .and .u8 (bt x0 (wrap64 (x1 + x19))) 127)) (wrap64 (7 * x19)))) / 2)) (wrap64 (-(wrap64 (Go.bits .and .u64 (Go.bits .or .u64 x7 (shl .u64 (IntKind.u64.wrap (Go.bits .and .u8 (bt x0 (wrap64 (x1 + x19))) 127)) (wrap64 (7 * x19)))) 1)))), wrap64 ((wrap64 (x1 + x19)) + 1), 0))))) else (none)) else (none)) else (none))) else (some (0, 0, 10))
end
def wire_Int.f (k : Nat) (a0 : ByteArray) (a1 : Int) : Option (Int × Int × Int) := if a1 < 0 then (wire_Int.j0 k a0 a1 true) else (wire_Int.j0 k a0 a1 (decide (a1 > (a0.size : Int))))
theorem wire_Int.mono_l : ∀ k, (∀ y0 y1 y2, LeO (wire_Int.j0 k y0 y1 y2) (wire_Int.j0 (k + 1) y0 y1 y2)) ∧ (∀ y0 y1 y2 y3, LeO (wire_Int.l0 k y0 y1 y2 y3) (wire_Int.l0 (k + 1) y0 y1 y2 y3))
  | 0 => ⟨fun _ _ _ r h => by simp [wire_Int.j0] at h, fun _ _ _ _ r h => by simp [wire_Int.l0] at h⟩
  | k + 1 => by
    obtain ⟨ih0, ih1⟩ := wire_Int.mono_l k
    refine ⟨?_, ?_⟩
    · intro y0 y1 y2
      unfold wire_Int.j0
      repeat' first
      | (with_reducible exact ih0 _ _ _)
      | (with_reducible exact ih1 _ _ _ _)
      | (with_reducible exact LeO.refl _)
      | (with_reducible exact LeO.none _)
      | (with_reducible refine LeO.ite ?_ ?_)
      | (with_reducible refine LeO.bind ?_ (fun _ => ?_))
      | exact ih0 _ _ _
      | exact ih1 _ _ _ _
      | exact LeO.none _
      | refine LeO.ite ?_ ?_
      | refine LeO.bind ?_ (fun _ => ?_)
    · intro y0 y1 y2 y3
      unfold wire_Int.l0
      repeat' first
      | (with_reducible exact ih0 _ _ _)
      | (with_reducible exact ih1 _ _ _ _)
      | (with_reducible exact LeO.refl _)
      | (with_reducible exact LeO.none _)
      | (with_reducible refine LeO.ite ?_ ?_)
      | (with_reducible refine LeO.bind ?_ (fun _ => ?_))
      | exact ih0 _ _ _
      | exact ih1 _ _ _ _
      | exact LeO.none _
      | refine LeO.ite ?_ ?_
      | refine LeO.bind ?_ (fun _ => ?_)
theorem wire_Int.mono : ∀ a0 a1 k, LeO (wire_Int.f k a0 a1) (wire_Int.f (k + 1) a0 a1) := by
  intro a0 a1 k
  obtain ⟨ih0, ih1⟩ := wire_Int.mono_l k
  unfold wire_Int.f
  repeat' first
      | (with_reducible exact ih0 _ _ _)
      | (with_reducible exact ih1 _ _ _ _)
      | (with_reducible exact LeO.refl _)
      | (with_reducible exact LeO.none _)
      | (with_reducible refine LeO.ite ?_ ?_)
      | (with_reducible refine LeO.bind ?_ (fun _ => ?_))
      | exact ih0 _ _ _
      | exact ih1 _ _ _ _
      | exact LeO.none _
      | refine LeO.ite ?_ ?_
      | refine LeO.bind ?_ (fun _ => ?_)
set_option maxHeartbeats 8000000 in
set_option maxRecDepth 100000 in
theorem wire_Int.calls (k : Nat) (a0 : ByteArray) (a1 : Int) (r1 : Int) (r2 : Int) (r3 : Int) (w : World) (h : wire_Int.f k a0 a1 = some (r1, r2, r3)) :
    Calls Tryz.prog 52 #[.string a0, .int .i64 a1] w fun e w' => e = .returned (.tuple #[.int .i64 r1, .int .i64 r2, .int .i64 r3]) ∧ Drawn0 w w' := by
  have H : (if a1 < 0 then (wire_Int.j0 k a0 a1 true) else (wire_Int.j0 k a0 a1 (decide (a1 > (a0.size : Int))))) = some (r1, r2, r3) := h
  clear h
  have HC3 := Aside0.mk H
  clear H
  go_enter Tryz.func52, Tryz.ntmps52
  go_upto_region 1 with (fail)
  go_cut [18] (fun v18 wc => ∃ (kq : Nat) (x18_2 : Bool), v18 = .bool x18_2 ∧ Aside0 (wire_Int.j0 kq a0 a1 x18_2 = some (r1, r2, r3)) ∧ Aside0 (kq ≤ k) ∧ Drawn0 w wc)
  case first =>
    have H := HC3.out
    clear HC3
    by_cases c4 : a1 < 0
    · rw [if_pos c4] at H
      have c4b0 : decide (a1 < 0) = true := decide_eq_true c4
      clear c4
      (first | rw [c4b0] | (simp only [i64_w, i32_w]; rw [c4b0]) | skip)
      have H' := Aside0.mk H
      clear H
      go_wp2
      go_meet
      case rel => exact ⟨_, (true), (by first | rfl | (simp; done) | (simp [*]; done)), H', ⟨by first | omega | exact Nat.le_refl _⟩, by repeat (first | exact Drawn0.refl _ | apply Drawn0.step)⟩
    · rw [if_neg c4] at H
      have c4b0 : decide (a1 < 0) = false := decide_eq_false c4
      clear c4
      (first | rw [c4b0] | (simp only [i64_w, i32_w]; rw [c4b0]) | skip)
      have H' := Aside0.mk H
      clear H
      go_wp2
      go_meet
      case rel => exact ⟨_, (decide (a1 > (a0.size : Int))), (by first | rfl | (simp; done) | (simp [*]; done)), H', ⟨by first | omega | exact Nat.le_refl _⟩, by repeat (first | exact Drawn0.refl _ | apply Drawn0.step)⟩
  case rest =>
    clear HC3
    try clear p2
    try clear c4
    try clear c4b0
    obtain ⟨kq, x18_2, rfl, HA, HJ2, ⟨mc2, rfl⟩⟩ := hcut
    cases kq with
    | zero => exact absurd HA.out (by simp [wire_Int.j0])
    | succ kj2 =>
      have H := HA.out
      clear HA
      simp only [wire_Int.j0] at H
      by_cases c5 : x18_2 = true
      · subst c5
        have H1 : (some (0, 0, 2)) = some (r1, r2, r3) := by rw [if_pos rfl] at H; exact H
        clear H
        have H := H1
        clear H1
        simp only [Option.some.injEq, Prod.mk.injEq] at H
        obtain ⟨rfl, rfl, rfl⟩ := H
        go_wp2
        go_ret3
        exact ⟨by first | rfl | (simp; done) | (simp [*]; done), by repeat (first | exact Drawn0.refl _ | apply Drawn0.step)⟩
      · replace c5 := Bool.eq_false_iff.mpr c5
        subst c5
        have H1 : (wire_Int.l0 kj2 a0 a1 0 0) = some (r1, r2, r3) := by rw [if_neg (show ¬ (false = true) by decide)] at H; exact H
        clear H
        have H := H1
        clear H1
        have H' := Aside0.mk H
        clear H
        go_wp2
        go_loopg [7, 19] kj2 (fun kq v7 v19 w' => ∃ (x7_2 : Int) (x19_2 : Int), v7 = .int .u64 x7_2 ∧ v19 = .int .i64 x19_2 ∧ Aside0 (wire_Int.l0 kq a0 a1 x7_2 x19_2 = some (r1, r2, r3)) ∧ Aside0 (kq ≤ kj2) ∧ Drawn0 w w')
        case atStart => exact ⟨(0), (0), (by first | rfl | (simp; done) | (simp [*]; done)), (by first | rfl | (simp; done) | (simp [*]; done)), H', ⟨Nat.le_refl _⟩, by repeat (first | exact Drawn0.refl _ | apply Drawn0.step)⟩
        case round =>
          clear H'
          try clear c2
          try clear p2
          try clear c4
          try clear c4b0
          try clear c5
          try clear p2
          obtain ⟨x7_2, x19_2, rfl, rfl, HA, HK2, ⟨m2, rfl⟩⟩ := hrel
          cases gk with
          | zero => exact absurd HA.out (by simp [wire_Int.l0])
          | succ k2 =>
            have H := HA.out
            clear HA
            simp only [wire_Int.l0] at H
            by_cases c6 : x19_2 < 9
            · rw [if_pos c6] at H
              have c6b0 : decide (x19_2 < 9) = true := decide_eq_true c6
              clear c6
              by_cases c7 : (wrap64 (a1 + x19_2)) ≥ (a0.size : Int)
              · rw [if_pos c7] at H
                have c7b0 : decide ((a0.size : Int) ≤ (wrap64 (a1 + x19_2))) = true := decide_eq_true c7
                clear c7
                simp only [Option.some.injEq, Prod.mk.injEq] at H
                obtain ⟨rfl, rfl, rfl⟩ := H
                go_wp2
                go_ret3
                exact ⟨by first | rfl | (simp; done) | (simp [*]; done), by repeat (first | exact Drawn0.refl _ | apply Drawn0.step)⟩
              · rw [if_neg c7] at H
                have c7b0 : decide ((a0.size : Int) ≤ (wrap64 (a1 + x19_2))) = false := decide_eq_false c7
                clear c7
                obtain ⟨ji8, hji8⟩ : ∃ j_ : Int, (wrap64 (a1 + x19_2)) = j_ := ⟨_, rfl⟩
                replace H : (if 0 ≤ (ji8) then (if (ji8) < (a0.size : Int) then (if 0 ≤ (wrap64 (7 * x19_2)) then (if (bt a0 (ji8)) ≥ 128 then (wire_Int.l0 k2 a0 a1 (Go.bits .or .u64 x7_2 (shl .u64 (IntKind.u64.wrap (Go.bits .and .u8 (bt a0 (ji8)) 127)) (wrap64 (7 * x19_2)))) (wrap64 (x19_2 + 1))) else (if (bt a0 (ji8)) = 0 then (if x19_2 > 0 then (some (0, 0, 10)) else (if (Go.bits .xor .i64 (wrap64 ((Go.bits .or .u64 x7_2 (shl .u64 (IntKind.u64.wrap (Go.bits .and .u8 (bt a0 (ji8)) 127)) (wrap64 (7 * x19_2)))) / 2)) (wrap64 (-(wrap64 (Go.bits .and .u64 (Go.bits .or .u64 x7_2 (shl .u64 (IntKind.u64.wrap (Go.bits .and .u8 (bt a0 (ji8)) 127)) (wrap64 (7 * x19_2)))) 1))))) < (-4611686018427387903) then (some (0, 0, 10)) else (some (Go.bits .xor .i64 (wrap64 ((Go.bits .or .u64 x7_2 (shl .u64 (IntKind.u64.wrap (Go.bits .and .u8 (bt a0 (ji8)) 127)) (wrap64 (7 * x19_2)))) / 2)) (wrap64 (-(wrap64 (Go.bits .and .u64 (Go.bits .or .u64 x7_2 (shl .u64 (IntKind.u64.wrap (Go.bits .and .u8 (bt a0 (ji8)) 127)) (wrap64 (7 * x19_2)))) 1)))), wrap64 ((ji8) + 1), 0)))) else (if (Go.bits .xor .i64 (wrap64 ((Go.bits .or .u64 x7_2 (shl .u64 (IntKind.u64.wrap (Go.bits .and .u8 (bt a0 (ji8)) 127)) (wrap64 (7 * x19_2)))) / 2)) (wrap64 (-(wrap64 (Go.bits .and .u64 (Go.bits .or .u64 x7_2 (shl .u64 (IntKind.u64.wrap (Go.bits .and .u8 (bt a0 (ji8)) 127)) (wrap64 (7 * x19_2)))) 1))))) < (-4611686018427387903) then (some (0, 0, 10)) else (some (Go.bits .xor .i64 (wrap64 ((Go.bits .or .u64 x7_2 (shl .u64 (IntKind.u64.wrap (Go.bits .and .u8 (bt a0 (ji8)) 127)) (wrap64 (7 * x19_2)))) / 2)) (wrap64 (-(wrap64 (Go.bits .and .u64 (Go.bits .or .u64 x7_2 (shl .u64 (IntKind.u64.wrap (Go.bits .and .u8 (bt a0 (ji8)) 127)) (wrap64 (7 * x19_2)))) 1)))), wrap64 ((ji8) + 1), 0))))) else (none)) else (none)) else (none)) = some (r1, r2, r3) := by first | (rw [hji8] at H; exact H) | (simp only [hji8] at H ⊢; exact H)
                (try rw [hji8] at c7b0)
                have hji8w : (IntKind.i64.wrap (a1 + x19_2)) = ji8 := (i64_w _).trans hji8
                by_cases c9 : 0 ≤ (ji8)
                · rw [if_pos c9] at H
                  have c9b0 : decide (0 ≤ (ji8)) = true := decide_eq_true c9
                  clear c9
                  by_cases c10 : (ji8) < (a0.size : Int)
                  · rw [if_pos c10] at H
                    have c10b0 : decide ((ji8) < (a0.size : Int)) = true := decide_eq_true c10
                    clear c10
                    obtain ⟨ji12, hji12⟩ : ∃ j_ : Int, (wrap64 (7 * x19_2)) = j_ := ⟨_, rfl⟩
                    replace H : (if 0 ≤ (ji12) then (if (bt a0 (ji8)) ≥ 128 then (wire_Int.l0 k2 a0 a1 (Go.bits .or .u64 x7_2 (shl .u64 (IntKind.u64.wrap (Go.bits .and .u8 (bt a0 (ji8)) 127)) (ji12))) (wrap64 (x19_2 + 1))) else (if (bt a0 (ji8)) = 0 then (if x19_2 > 0 then (some (0, 0, 10)) else (if (Go.bits .xor .i64 (wrap64 ((Go.bits .or .u64 x7_2 (shl .u64 (IntKind.u64.wrap (Go.bits .and .u8 (bt a0 (ji8)) 127)) (ji12))) / 2)) (wrap64 (-(wrap64 (Go.bits .and .u64 (Go.bits .or .u64 x7_2 (shl .u64 (IntKind.u64.wrap (Go.bits .and .u8 (bt a0 (ji8)) 127)) (ji12))) 1))))) < (-4611686018427387903) then (some (0, 0, 10)) else (some (Go.bits .xor .i64 (wrap64 ((Go.bits .or .u64 x7_2 (shl .u64 (IntKind.u64.wrap (Go.bits .and .u8 (bt a0 (ji8)) 127)) (ji12))) / 2)) (wrap64 (-(wrap64 (Go.bits .and .u64 (Go.bits .or .u64 x7_2 (shl .u64 (IntKind.u64.wrap (Go.bits .and .u8 (bt a0 (ji8)) 127)) (ji12))) 1)))), wrap64 ((ji8) + 1), 0)))) else (if (Go.bits .xor .i64 (wrap64 ((Go.bits .or .u64 x7_2 (shl .u64 (IntKind.u64.wrap (Go.bits .and .u8 (bt a0 (ji8)) 127)) (ji12))) / 2)) (wrap64 (-(wrap64 (Go.bits .and .u64 (Go.bits .or .u64 x7_2 (shl .u64 (IntKind.u64.wrap (Go.bits .and .u8 (bt a0 (ji8)) 127)) (ji12))) 1))))) < (-4611686018427387903) then (some (0, 0, 10)) else (some (Go.bits .xor .i64 (wrap64 ((Go.bits .or .u64 x7_2 (shl .u64 (IntKind.u64.wrap (Go.bits .and .u8 (bt a0 (ji8)) 127)) (ji12))) / 2)) (wrap64 (-(wrap64 (Go.bits .and .u64 (Go.bits .or .u64 x7_2 (shl .u64 (IntKind.u64.wrap (Go.bits .and .u8 (bt a0 (ji8)) 127)) (ji12))) 1)))), wrap64 ((ji8) + 1), 0))))) else (none)) = some (r1, r2, r3) := by first | (rw [hji12] at H; exact H) | (simp only [hji12] at H ⊢; exact H)
                    have hji12w : (IntKind.i64.wrap (7 * x19_2)) = ji12 := (i64_w _).trans hji12
                    by_cases c13 : 0 ≤ (ji12)
                    · rw [if_pos c13] at H
                      have c13b0 := eq_true c13
                      have c13b1 : decide (0 ≤ (ji12)) = true := decide_eq_true c13
                      clear c13
                      obtain ⟨ji14, hji14⟩ : ∃ j_ : Int, (shl .u64 (IntKind.u64.wrap (Go.bits .and .u8 (bt a0 (ji8)) 127)) (ji12)) = j_ := ⟨_, rfl⟩
                      replace H : (if (bt a0 (ji8)) ≥ 128 then (wire_Int.l0 k2 a0 a1 (Go.bits .or .u64 x7_2 (ji14)) (wrap64 (x19_2 + 1))) else (if (bt a0 (ji8)) = 0 then (if x19_2 > 0 then (some (0, 0, 10)) else (if (Go.bits .xor .i64 (wrap64 ((Go.bits .or .u64 x7_2 (ji14)) / 2)) (wrap64 (-(wrap64 (Go.bits .and .u64 (Go.bits .or .u64 x7_2 (ji14)) 1))))) < (-4611686018427387903) then (some (0, 0, 10)) else (some (Go.bits .xor .i64 (wrap64 ((Go.bits .or .u64 x7_2 (ji14)) / 2)) (wrap64 (-(wrap64 (Go.bits .and .u64 (Go.bits .or .u64 x7_2 (ji14)) 1)))), wrap64 ((ji8) + 1), 0)))) else (if (Go.bits .xor .i64 (wrap64 ((Go.bits .or .u64 x7_2 (ji14)) / 2)) (wrap64 (-(wrap64 (Go.bits .and .u64 (Go.bits .or .u64 x7_2 (ji14)) 1))))) < (-4611686018427387903) then (some (0, 0, 10)) else (some (Go.bits .xor .i64 (wrap64 ((Go.bits .or .u64 x7_2 (ji14)) / 2)) (wrap64 (-(wrap64 (Go.bits .and .u64 (Go.bits .or .u64 x7_2 (ji14)) 1)))), wrap64 ((ji8) + 1), 0))))) = some (r1, r2, r3) := by first | (rw [hji14] at H; exact H) | (simp only [hji14] at H ⊢; exact H)
                      have hji14_ : (IntKind.u64.wrap ((IntKind.u64.wrap (Go.bits .and .u8 (bt a0 (ji8)) 127)) * 2 ^ min (ji12).toNat 64)) = ji14 := hji14
                      have hji14z : (ji12) ≤ 64 → (IntKind.u64.wrap ((IntKind.u64.wrap (Go.bits .and .u8 (bt a0 (ji8)) 127)) * 2 ^ (ji12).toNat)) = ji14 := shl_small hji14
                      by_cases c15 : (bt a0 (ji8)) ≥ 128
                      · rw [if_pos c15] at H
                        have c15b0 : decide (128 ≤ (bt a0 (ji8))) = true := decide_eq_true c15
                        clear c15
                        have H' := Aside0.mk H
                        clear H
                        have p11 : 0 ≤ ((ji8) : Int) := of_decide_eq_true (by first | (with_reducible assumption) | assumption)
                        have q11 : (ji8) < (a0.size : Int) := of_decide_eq_true (by first | (with_reducible assumption) | assumption)
                        have hx11 := bt_at a0 (ji8)
                        replace p11 := eq_true p11
                        replace q11 := eq_true q11
                        go_wp2
                        go_roundg k2
                        case measure => have := HJ2.out; have := HK2.out; omega
                        case rel => exact ⟨(Go.bits .or .u64 x7_2 (ji14)), (wrap64 (x19_2 + 1)), (by first | rfl | (simp; done) | (simp only [← hji14] <;> (first | rfl | simp)) | (simp [*]; done)), (by first | rfl | (simp; done) | (simp [*]; done)), H', ⟨by have := HJ2.out; have := HK2.out; omega⟩, by repeat (first | exact Drawn0.refl _ | apply Drawn0.step)⟩
                      · rw [if_neg c15] at H
                        have c15b0 : decide (128 ≤ (bt a0 (ji8))) = false := decide_eq_false c15
                        clear c15
                        by_cases c16 : (bt a0 (ji8)) = 0
                        · rw [if_pos c16] at H
                          have c16b0 : ((bt a0 (ji8)) == 0) = true := beq_iff_eq.mpr c16
                          have c16b1 : ((bt a0 (ji8)) != 0) = false := bne_eq_false_iff_eq.mpr c16
                          clear c16
                          by_cases c17 : x19_2 > 0
                          · rw [if_pos c17] at H
                            have c17b0 : decide (0 < x19_2) = true := decide_eq_true c17
                            clear c17
                            simp only [Option.some.injEq, Prod.mk.injEq] at H
                            obtain ⟨rfl, rfl, rfl⟩ := H
                            have p11 : 0 ≤ ((ji8) : Int) := of_decide_eq_true (by first | (with_reducible assumption) | assumption)
                            have q11 : (ji8) < (a0.size : Int) := of_decide_eq_true (by first | (with_reducible assumption) | assumption)
                            have hx11 := bt_at a0 (ji8)
                            replace p11 := eq_true p11
                            replace q11 := eq_true q11
                            go_wp2
                            go_ret3
                            exact ⟨by first | rfl | (simp; done) | (simp only [← hji8, ← hji12, ← hji14] <;> (first | rfl | simp)) | (simp [*]; done), by repeat (first | exact Drawn0.refl _ | apply Drawn0.step)⟩
                          · rw [if_neg c17] at H
                            have c17b0 : decide (0 < x19_2) = false := decide_eq_false c17
                            clear c17
                            by_cases c18 : (Go.bits .xor .i64 (wrap64 ((Go.bits .or .u64 x7_2 (ji14)) / 2)) (wrap64 (-(wrap64 (Go.bits .and .u64 (Go.bits .or .u64 x7_2 (ji14)) 1))))) < (-4611686018427387903)
                            · rw [if_pos c18] at H
                              have c18b0 : decide ((Go.bits .xor .i64 (wrap64 ((Go.bits .or .u64 x7_2 (ji14)) / 2)) (wrap64 (-(wrap64 (Go.bits .and .u64 (Go.bits .or .u64 x7_2 (ji14)) 1))))) < (-4611686018427387903)) = true := decide_eq_true c18
                              clear c18
                              simp only [Option.some.injEq, Prod.mk.injEq] at H
                              obtain ⟨rfl, rfl, rfl⟩ := H
                              have p11 : 0 ≤ ((ji8) : Int) := of_decide_eq_true (by first | (with_reducible assumption) | assumption)
                              have q11 : (ji8) < (a0.size : Int) := of_decide_eq_true (by first | (with_reducible assumption) | assumption)
                              have hx11 := bt_at a0 (ji8)
                              replace p11 := eq_true p11
                              replace q11 := eq_true q11
                              go_wp2
                              go_ret3
                              exact ⟨by first | rfl | (simp; done) | (simp only [← hji8, ← hji12, ← hji14] <;> (first | rfl | simp)) | (simp [*]; done), by repeat (first | exact Drawn0.refl _ | apply Drawn0.step)⟩
                            · rw [if_neg c18] at H
                              have c18b0 : decide ((Go.bits .xor .i64 (wrap64 ((Go.bits .or .u64 x7_2 (ji14)) / 2)) (wrap64 (-(wrap64 (Go.bits .and .u64 (Go.bits .or .u64 x7_2 (ji14)) 1))))) < (-4611686018427387903)) = false := decide_eq_false c18
                              clear c18
                              simp only [Option.some.injEq, Prod.mk.injEq] at H
                              obtain ⟨rfl, rfl, rfl⟩ := H
                              have p11 : 0 ≤ ((ji8) : Int) := of_decide_eq_true (by first | (with_reducible assumption) | assumption)
                              have q11 : (ji8) < (a0.size : Int) := of_decide_eq_true (by first | (with_reducible assumption) | assumption)
                              have hx11 := bt_at a0 (ji8)
                              replace p11 := eq_true p11
                              replace q11 := eq_true q11
                              go_wp2
                              go_ret3
                              exact ⟨by first | rfl | (simp; done) | (simp only [← hji8, ← hji12, ← hji14] <;> (first | rfl | simp)) | (simp [*]; done), by repeat (first | exact Drawn0.refl _ | apply Drawn0.step)⟩
                        · rw [if_neg c16] at H
                          have c16b0 : ((bt a0 (ji8)) == 0) = false := beq_eq_false_iff_ne.mpr c16
                          have c16b1 : ((bt a0 (ji8)) != 0) = true := bne_iff_ne.mpr c16
                          by_cases c19 : (Go.bits .xor .i64 (wrap64 ((Go.bits .or .u64 x7_2 (ji14)) / 2)) (wrap64 (-(wrap64 (Go.bits .and .u64 (Go.bits .or .u64 x7_2 (ji14)) 1))))) < (-4611686018427387903)
                          · rw [if_pos c19] at H
                            have c19b0 : decide ((Go.bits .xor .i64 (wrap64 ((Go.bits .or .u64 x7_2 (ji14)) / 2)) (wrap64 (-(wrap64 (Go.bits .and .u64 (Go.bits .or .u64 x7_2 (ji14)) 1))))) < (-4611686018427387903)) = true := decide_eq_true c19
                            clear c19
                            simp only [Option.some.injEq, Prod.mk.injEq] at H
                            obtain ⟨rfl, rfl, rfl⟩ := H
                            have p11 : 0 ≤ ((ji8) : Int) := of_decide_eq_true (by first | (with_reducible assumption) | assumption)
                            have q11 : (ji8) < (a0.size : Int) := of_decide_eq_true (by first | (with_reducible assumption) | assumption)
                            have hx11 := bt_at a0 (ji8)
                            replace p11 := eq_true p11
                            replace q11 := eq_true q11
                            go_wp2
                            go_ret3
                            exact ⟨by first | rfl | (simp; done) | (simp only [← hji8, ← hji12, ← hji14] <;> (first | rfl | simp)) | (simp [*]; done), by repeat (first | exact Drawn0.refl _ | apply Drawn0.step)⟩
                          · rw [if_neg c19] at H
                            have c19b0 : decide ((Go.bits .xor .i64 (wrap64 ((Go.bits .or .u64 x7_2 (ji14)) / 2)) (wrap64 (-(wrap64 (Go.bits .and .u64 (Go.bits .or .u64 x7_2 (ji14)) 1))))) < (-4611686018427387903)) = false := decide_eq_false c19
                            clear c19
                            simp only [Option.some.injEq, Prod.mk.injEq] at H
                            obtain ⟨rfl, rfl, rfl⟩ := H
                            have p11 : 0 ≤ ((ji8) : Int) := of_decide_eq_true (by first | (with_reducible assumption) | assumption)
                            have q11 : (ji8) < (a0.size : Int) := of_decide_eq_true (by first | (with_reducible assumption) | assumption)
                            have hx11 := bt_at a0 (ji8)
                            replace p11 := eq_true p11
                            replace q11 := eq_true q11
                            go_wp2
                            go_ret3
                            exact ⟨by first | rfl | (simp; done) | (simp only [← hji8, ← hji12, ← hji14] <;> (first | rfl | simp)) | (simp [*]; done), by repeat (first | exact Drawn0.refl _ | apply Drawn0.step)⟩
                    · rw [if_neg c13] at H
                      exact absurd H (by simp)
                  · rw [if_neg c10] at H
                    exact absurd H (by simp)
                · rw [if_neg c9] at H
                  exact absurd H (by simp)
            · rw [if_neg c6] at H
              have c6b0 : decide (x19_2 < 9) = false := decide_eq_false c6
              clear c6
              simp only [Option.some.injEq, Prod.mk.injEq] at H
              obtain ⟨rfl, rfl, rfl⟩ := H
              go_wp2
              go_ret3
              exact ⟨by first | rfl | (simp; done) | (simp [*]; done), by repeat (first | exact Drawn0.refl _ | apply Drawn0.step)⟩
end Go.Proofs.YtkhgdglaophkbaaGreatDoor.PK
end
section
namespace Go.Proofs.YtkhgdglaophkbaaGreatDoor.PK
open Go.RowKit Go.Proofs.YtkhgdglaophkbaaGreatDoorW.PrintWords Go.Proofs.YtkhgdglaophkbaaGreatDoorW.PrintLast Go.Proofs.YtkhgdglaophkbaaGreatDoorW.PrintMore
attribute [local go_sem] max2_int min2_int max_two min_two max_three min_three max_four min_four   -- for this text's walks alone
set_option linter.unusedVariables false
set_option linter.unusedSimpArgs false
theorem pl_unzig (z : Nat) (hz : z < 9223372036854775808) : Go.bits .xor .i64 (wrap64 ((z : Int) / 2)) (wrap64 (-(wrap64 (Go.bits .and .u64 (z : Int) 1)))) = m_unzig z := by
  rw [Go.Lib.u64_and1 _ (by omega) (by omega)]
  have hw : wrap64 ((z : Int) / 2) = ((z / 2 : Nat) : Int) := by unfold wrap64; omega
  rw [hw]
  unfold m_unzig
  by_cases h : z % 2 = 1
  · rw [if_pos h, show wrap64 (-(wrap64 ((z : Int) % 2))) = -1 by unfold wrap64; omega]
    have hc : Go.bits .xor .i64 (((z / 2 : Nat) : Int)) (-1) = Go.bits .xor .i64 (-1) (((z / 2 : Nat) : Int)) := by
      show IntKind.i64.wrap ((BitVec.ofInt 64 ((z / 2 : Nat) : Int) ^^^ BitVec.ofInt 64 (-1)).toNat : Int) = IntKind.i64.wrap ((BitVec.ofInt 64 (-1) ^^^ BitVec.ofInt 64 ((z / 2 : Nat) : Int)).toNat : Int)
      rw [BitVec.xor_comm]
    rw [hc, Go.Lib.i64_not _ (by omega)]
  · rw [if_neg h, show wrap64 (-(wrap64 ((z : Int) % 2))) = 0 by unfold wrap64; omega]
    show IntKind.i64.wrap ((BitVec.ofInt 64 ((z / 2 : Nat) : Int) ^^^ BitVec.ofInt 64 0).toNat : Int) = _
    rw [show BitVec.ofInt 64 0 = 0#64 from rfl, BitVec.xor_zero, BitVec.ofInt_natCast, BitVec.toNat_ofNat, Nat.mod_eq_of_lt (by omega), IntKind.wrap_i64]
    omega
def pl_ans (s : ByteArray) (o : Option (Nat × List UInt8)) : Option (Int × Int × Int) := match o with
  | none => some (0, 0, 10)
  | some (z, r) => if m_unzig z < -4611686018427387903 then some (0, 0, 10) else some (m_unzig z, (s.size : Int) - (r.length : Int), 0)
theorem pl_or (z b t : Nat) (hz : z < 2 ^ (7 * t)) (hb : b < 128) (ht : t ≤ 8) (x : Int) (hx : x = (b : Int)) : Go.bits .or .u64 (z : Int) (shl .u64 (IntKind.u64.wrap x) (wrap64 (7 * (t : Int)))) = ((z + b * 2 ^ (7 * t) : Nat) : Int) := by
  have hw : wrap64 (7 * (t : Int)) = ((7 * t : Nat) : Int) := by unfold wrap64; omega
  have hp : b * 2 ^ (7 * t) < 9223372036854775808 := by
    have h1 : b * 2 ^ (7 * t) < 128 * 2 ^ (7 * t) := Nat.mul_lt_mul_of_pos_right hb (Nat.two_pow_pos _)
    have h2 : 2 ^ (7 * t) ≤ 2 ^ 56 := Nat.pow_le_pow_right (by decide) (by omega)
    have h3 : (2 : Nat) ^ 56 = 72057594037927936 := by decide
    omega
  have hs : shl .u64 (IntKind.u64.wrap x) (wrap64 (7 * (t : Int))) = ((b * 2 ^ (7 * t) : Nat) : Int) := by
    unfold shl
    rw [hw, hx, wraps_u64 (b : Int) (by omega) (by omega), Int.toNat_natCast, show min (7 * t) (IntKind.u64.bits) = 7 * t from Nat.min_eq_left (by show 7 * t ≤ 64; omega), show (b : Int) * 2 ^ (7 * t) = ((b * 2 ^ (7 * t) : Nat) : Int) by push_cast; rfl, wraps_u64 _ (by omega) (by omega)]
  have hzi : (z : Int) < 2 ^ (7 * t) := by exact_mod_cast hz
  have h64 : z < 18446744073709551616 := by
    have h2 : 2 ^ (7 * t) ≤ 2 ^ 56 := Nat.pow_le_pow_right (by decide) (by omega)
    have h3 : (2 : Nat) ^ 56 = 72057594037927936 := by decide
    omega
  have hzj : (z : Int) < 2 ^ 64 := by
    have : (2 : Int) ^ 64 = 18446744073709551616 := by decide
    omega
  have hbj : ((b * 2 ^ (7 * t) : Nat) : Int) < 2 ^ 64 := by
    have : (2 : Int) ^ 64 = 18446744073709551616 := by decide
    omega
  have hbm : ((b * 2 ^ (7 * t) : Nat) : Int) % 2 ^ (7 * t) = 0 := by
    rw [show ((b * 2 ^ (7 * t) : Nat) : Int) = (b : Int) * 2 ^ (7 * t) by push_cast; rfl]; exact Int.mul_emod_left _ _
  rw [hs, bits_join_low .u64 64 (by decide) wraps_u64 (7 * t) (z : Int) _ (by omega) hzi hzj (by omega) hbm hbj]
  push_cast
  rfl
theorem pl_step (s : ByteArray) (i z x b I Z U W7 : Int) (k : Nat) (h1 : x < 9) (hw : wrap64 (i + x) = I) (h2 : ¬ I ≥ (s.size : Int)) (h3 : 0 ≤ I) (h4 : I < (s.size : Int)) (hw7 : wrap64 (7 * x) = W7) (h5 : 0 ≤ W7) (hb : bt s I = b)
    (hZ : Go.bits .or .u64 z (shl .u64 (IntKind.u64.wrap (Go.bits .and .u8 b 127)) W7) = Z) :
    wire_Int.l0 (k + 1) s i z x = if b ≥ 128 then wire_Int.l0 k s i Z (wrap64 (x + 1)) else if b = 0 then (if x > 0 then some (0, 0, 10) else (if (Go.bits .xor .i64 (wrap64 (Z / 2)) (wrap64 (-(wrap64 (Go.bits .and .u64 Z 1))))) < (-4611686018427387903) then some (0, 0, 10) else some (Go.bits .xor .i64 (wrap64 (Z / 2)) (wrap64 (-(wrap64 (Go.bits .and .u64 Z 1)))), wrap64 (I + 1), 0)))
      else (if (Go.bits .xor .i64 (wrap64 (Z / 2)) (wrap64 (-(wrap64 (Go.bits .and .u64 Z 1))))) < (-4611686018427387903) then some (0, 0, 10) else some (Go.bits .xor .i64 (wrap64 (Z / 2)) (wrap64 (-(wrap64 (Go.bits .and .u64 Z 1)))), wrap64 (I + 1), 0)) := by
  rw [wire_Int.l0, if_pos h1, hw, if_neg h2, if_pos h3, if_pos h4, hw7, if_pos h5, hb, hZ]
theorem pl_end (s : ByteArray) (i z x I : Int) (k : Nat) (h1 : x < 9) (hw : wrap64 (i + x) = I) (h2 : I ≥ (s.size : Int)) : wire_Int.l0 (k + 1) s i z x = some (0, 0, 10) := by
  rw [wire_Int.l0, if_pos h1, hw, if_pos h2]
theorem pl_none (s : ByteArray) (i z x : Int) (k : Nat) (h1 : ¬ x < 9) : wire_Int.l0 (k + 1) s i z x = some (0, 0, 10) := by
  rw [wire_Int.l0, if_neg h1]
theorem pl_pow (t : Nat) (ht : t ≤ 8) : 2 ^ (7 * t) ≤ 72057594037927936 := Nat.le_trans (Nat.pow_le_pow_right (by decide) (by omega : 7 * t ≤ 56)) (by decide)
theorem pl_mapped (z c t P : Nat) (hP : P = 2 ^ (7 * t)) (hc : 128 ≤ c) (hc2 : c < 256) (p : Nat) : z + c % 128 * P + p * 2 ^ (7 * (t + 1)) = z + (c - 128 + 128 * p) * P := by
  rw [show c % 128 = c - 128 by omega, show 7 * (t + 1) = 7 * t + 7 by omega, Nat.pow_add, ← hP, Nat.add_mul, Nat.add_assoc, show p * (P * 2 ^ 7) = 128 * p * P by rw [Nat.mul_comm P, ← Nat.mul_assoc, Nat.mul_comm p]]
theorem pl_lt1 (z c t : Nat) (hz : z < 2 ^ (7 * t)) (hc : c < 128) : z + c * 2 ^ (7 * t) < 2 ^ (7 * (t + 1)) := by
  rw [show 7 * (t + 1) = 7 * t + 7 by omega, Nat.pow_add]
  have : c * 2 ^ (7 * t) ≤ 127 * 2 ^ (7 * t) := Nat.mul_le_mul_right _ (by omega)
  omega
theorem pl_lt2 (z c t : Nat) (hz : z < 2 ^ (7 * t)) (hc : c < 128) (ht : t ≤ 8) : z + c * 2 ^ (7 * t) < 9223372036854775808 := by
  have a1 : c * 2 ^ (7 * t) ≤ 127 * 2 ^ (7 * t) := Nat.mul_le_mul_right _ (by omega)
  have a2 := pl_pow t ht
  omega
theorem pl_w1 (n : Nat) (h : n ≤ 2000000000) : wrap64 ((n : Int) + 1) = ((n + 1 : Nat) : Int) := by unfold wrap64; omega
theorem pl_wadd (i t : Nat) (hi : i ≤ 1000000000) (ht : t ≤ 9) : wrap64 ((i : Int) + (t : Int)) = ((i + t : Nat) : Int) := by unfold wrap64; omega
theorem pl_w7 (t : Nat) (ht : t ≤ 9) : wrap64 (7 * (t : Int)) = ((7 * t : Nat) : Int) := by unfold wrap64; omega
theorem pl_rdz_cons (d t : Nat) (c : UInt8) (l : List UInt8) : m_rdz (d + 1) t (c :: l) = if 128 ≤ c.toNat then (m_rdz d (t + 1) l).map (fun p => (c.toNat - 128 + 128 * p.1, p.2)) else if c.toNat = 0 ∧ 0 < t then none else some (c.toNat, l) := rfl
theorem pl_and (c : UInt8) : Go.bits .and .u8 (c.toNat : Int) 127 = ((c.toNat % 128 : Nat) : Int) := by
  have hc8 : c.toNat < 256 := c.toNat_lt
  rw [Go.u8_and127 _ (by omega) (by omega)]; omega
theorem pl_byte (s : ByteArray) (n : Nat) (h : n < s.size) : ∃ c : UInt8, bk_rest s n = c :: bk_rest s (n + 1) ∧ bt s (n : Int) = (c.toNat : Int) := by
  obtain ⟨c, hc⟩ : ∃ c, s.data.toList[n]? = some c := ⟨_, List.getElem?_eq_getElem (by rw [Array.length_toList]; exact h)⟩
  obtain ⟨h1, h2⟩ := List.getElem?_eq_some_iff.1 hc
  refine ⟨c, ?_, ?_⟩
  · show s.data.toList.drop n = _
    rw [List.drop_eq_getElem_cons h1, h2]
  · unfold bt
    rw [dif_pos (by rw [Int.toNat_natCast]; exact h)]
    simp only [Int.toNat_natCast]
    rw [← h2]
    rfl
theorem pl_int_end (s : ByteArray) (n : Nat) (h : n ≤ s.size) : (s.size : Int) - ((bk_rest s n).length : Int) = (n : Int) := by rw [bk_rest_len]; omega
set_option maxHeartbeats 1000000 in
theorem pl_int (s : ByteArray) (i : Nat) (hs : s.size ≤ 1000000000) (hi : i ≤ s.size) : ∀ (d k t z : Nat), t + d = 9 → d < k → z < 2 ^ (7 * t) →
    wire_Int.l0 k s (i : Int) (z : Int) (t : Int) = pl_ans s ((m_rdz d t (bk_rest s (i + t))).map (fun p => (z + p.1 * 2 ^ (7 * t), p.2)))
  | 0, k, t, z, ht, hk, hz => by
    obtain ⟨k, rfl⟩ : ∃ j, k = j + 1 := ⟨k - 1, by omega⟩
    rw [pl_none _ _ _ _ _ (by omega)]; rfl
  | d + 1, k, t, z, ht, hk, hz => by
    obtain ⟨k, rfl⟩ : ∃ j, k = j + 1 := ⟨k - 1, by omega⟩
    have HZ := Aside0.mk hz
    clear hz
    have ht9 : (t : Int) < 9 := by omega
    have ht8 : t ≤ 8 := by omega
    have hkd : d < k := by omega
    have htd : t + 1 + d = 9 := by omega
    have hw := pl_wadd i t (Nat.le_trans hi hs) (Nat.le_succ_of_le ht8)
    by_cases hlt : i + t < s.size
    · obtain ⟨c, hrest, hbt⟩ := pl_byte s (i + t) hlt
      have hc8 : c.toNat < 256 := c.toNat_lt
      have hmod : c.toNat % 128 < 128 := Nat.mod_lt _ (by decide)
      have g2 : ¬ ((i + t : Nat) : Int) ≥ (s.size : Int) := by omega
      have g3 : 0 ≤ ((i + t : Nat) : Int) := by omega
      have g4 : ((i + t : Nat) : Int) < (s.size : Int) := by omega
      have g5 : 0 ≤ ((7 * t : Nat) : Int) := by omega
      have hor := pl_or z (c.toNat % 128) t HZ.out hmod ht8 _ (pl_and c)
      rw [pl_w7 t (Nat.le_succ_of_le ht8)] at hor
      have hst := pl_step s (i : Int) (z : Int) (t : Int) (c.toNat : Int) ((i + t : Nat) : Int) _ 0 _ k ht9 hw g2 g3 g4 (pl_w7 t (Nat.le_succ_of_le ht8)) g5 hbt hor
      rw [pl_w1 t (by omega), pl_w1 (i + t) (by omega)] at hst
      rw [hst, hrest, pl_rdz_cons]
      clear hst hor hbt g2 g3 g4 g5
      by_cases h1 : 128 ≤ c.toNat
      · have h1' : (c.toNat : Int) ≥ 128 := by omega
        rw [if_pos h1', if_pos h1, pl_int s i hs hi d k (t + 1) _ htd hkd (pl_lt1 z _ t HZ.out hmod), Option.map_map, ← Nat.add_assoc]
        congr 1
        congr 1
        funext p
        exact congrArg (fun q => (q, p.2)) (pl_mapped z c.toNat t _ rfl h1 hc8 p.1)
      · have hm : c.toNat % 128 = c.toNat := Nat.mod_eq_of_lt (by omega)
        have hz3 := pl_lt2 z (c.toNat % 128) t HZ.out hmod ht8
        have hlen := pl_int_end s (i + t + 1) hlt
        have h1' : ¬ (c.toNat : Int) ≥ 128 := by omega
        rw [if_neg h1', if_neg h1, pl_unzig _ hz3, hm]
        by_cases h2 : c.toNat = 0
        · have h2' : (c.toNat : Int) = 0 := by omega
          rw [if_pos h2']
          by_cases h3 : 0 < t
          · have h3' : (t : Int) > 0 := by omega
            rw [if_pos h3', if_pos ⟨h2, h3⟩]; rfl
          · have h3' : ¬ (t : Int) > 0 := by omega
            have h4' : ¬ (c.toNat = 0 ∧ 0 < t) := fun h => h3 h.2
            rw [if_neg h3', if_neg h4']
            simp only [Option.map_some, pl_ans, hlen]
        · have h2' : ¬ (c.toNat : Int) = 0 := by omega
          have h4' : ¬ (c.toNat = 0 ∧ 0 < t) := fun h => h2 h.1
          rw [if_neg h2', if_neg h4']
          simp only [Option.map_some, pl_ans, hlen]
    · have hge : ((i + t : Nat) : Int) ≥ (s.size : Int) := by omega
      rw [pl_end _ _ _ _ _ _ ht9 hw hge, show bk_rest s (i + t) = [] from List.drop_eq_nil_of_le (by rw [Array.length_toList]; show s.size ≤ _; omega)]
      rfl
theorem pl_drawn {W w' : World} (h : Drawn0 W w') : ∃ m, w' = W.drewN m := by
  obtain ⟨m, h⟩ := h
  exact ⟨m, by subst h; rfl⟩
theorem pl_rint : bk_Reads 52 (Value.int .i64) rdI := by
  intro s i hi hs
  have hf : wire_Int.f 30 s (i : Int) = pl_ans s (m_rdz 9 0 (bk_rest s i)) := by
    unfold wire_Int.f
    rw [if_neg (by omega), show decide ((i : Int) > (s.size : Int)) = false from decide_eq_false (by omega), wire_Int.j0, if_neg (by decide)]
    have := pl_int s i hs hi 9 29 0 0 (by omega) (by omega) (by decide)
    rw [Nat.add_zero] at this
    refine this.trans ?_
    congr 1
    cases m_rdz 9 0 (bk_rest s i) with
    | none => rfl
    | some p => simp
  have hone : ∀ (z : Nat) (r : List UInt8), m_rdz 9 0 (bk_rest s i) = some (z, r) → rdI (bk_rest s i) = (if m_unzig z < -4611686018427387903 then .error 10 else .ok (m_unzig z, r)) := fun z r h => by
    unfold rdI m_rdInt
    rw [h]
    dsimp only
    by_cases h2 : m_unzig z < -4611686018427387903
    · rw [if_pos h2, if_pos h2]
    · rw [if_neg h2, if_neg h2]
  cases h : m_rdz 9 0 (bk_rest s i) with
  | none =>
    rw [h] at hf
    exact .inr ⟨by unfold rdI m_rdInt; rw [h], 0, 0, 10, by decide, fun W => (wire_Int.calls 30 s i 0 0 10 W hf).mono (fun e w' h => ⟨h.1, pl_drawn h.2⟩)⟩
  | some p =>
    obtain ⟨z, r⟩ := p
    rw [h] at hf
    have ho := hone z r h
    by_cases hlo : m_unzig z < -4611686018427387903
    · rw [if_pos hlo] at ho
      simp only [pl_ans, if_pos hlo] at hf
      exact .inr ⟨ho, 0, 0, 10, by decide, fun W => (wire_Int.calls 30 s i 0 0 10 W hf).mono (fun e w' h => ⟨h.1, pl_drawn h.2⟩)⟩
    · rw [if_neg hlo] at ho
      simp only [pl_ans, if_neg hlo] at hf
      obtain ⟨_, _, a3⟩ := cd_rdz_inv _ _ _ _ _ h
      have hl := congrArg List.length (a3 9 (Nat.le_refl _))
      rw [bk_rest_len, List.length_append] at hl
      have hr : r = bk_rest s (s.size - r.length) := by
        have h1 : bk_rest s i = m_vint 9 z ++ r := a3 9 (Nat.le_refl _)
        have h2 : r = (bk_rest s i).drop (m_vint 9 z).length := by rw [h1, List.drop_left]
        rw [bk_rest_drop, show i + (m_vint 9 z).length = s.size - r.length by omega] at h2
        exact h2
      refine .inl ⟨m_unzig z, s.size - r.length, by omega, by rw [ho, ← hr], fun W => ?_⟩
      have hj : (s.size : Int) - (r.length : Int) = ((s.size - r.length : Nat) : Int) := by omega
      rw [hj] at hf
      exact (wire_Int.calls 30 s i _ _ 0 W hf).mono (fun e w' h => ⟨h.1, pl_drawn h.2⟩)
def block_Decode.f (a0 : ByteArray) : Option (List (S49) × Int) := if a0.size ≤ 1000000000 then some (m_decode a0) else none
theorem pl_decode_err (s : ByteArray) (e : Int) (h : rdL 24 rdB s.data.toList = .error e) : m_decode s = ([], e) := by unfold m_decode; rw [h]
theorem pl_decode_ok (s : ByteArray) (l : List Bl) (r : List UInt8) (h : rdL 24 rdB s.data.toList = .ok (l, r)) : m_decode s = if r ≠ [] then ([], 10) else if m_validL l then (l, 0) else ([], 30) := by unfold m_decode; rw [h]
theorem pl_rest_nil (s : ByteArray) (j : Nat) : bk_rest s j ≠ [] ↔ j < s.size := by
  rw [← List.length_pos_iff, bk_rest_len]; omega
set_option maxHeartbeats 2000000 in
set_option maxRecDepth 100000 in
theorem block_Decode.calls (a0 : ByteArray) (r1 : List (S49)) (r2 : Int) (w : World) (h : block_Decode.f a0 = some (r1, r2)) :
    Calls Tryz.prog 57 #[.string a0] w fun e w' => ∃ v0_ : Value, e = .returned (.tuple #[v0_, .int .i64 r2]) ∧ Kd.S k49 49 w' w.heap.size (fun _ => True) v0_ r1 ∧ Below w.heap.size w w' := by
  unfold block_Decode.f at h
  obtain ⟨hs, hd⟩ : a0.size ≤ 1000000000 ∧ m_decode a0 = (r1, r2) := by
    split at h
    · exact ⟨by assumption, Option.some.inj h⟩
    · cases h
  clear h
  have HD := Aside0.mk hd
  clear hd
  go_enter Tryz.func57, Tryz.ntmps57
  go_wp2_with (with_reducible refine is_box rfl ?_; refine Rg.stop_here ?_)
  refine ⟨?_⟩
  refine box_event rfl (N := 8) rfl (cs := #[.string a0, .int .i64 0, .int .i64 0]) (t := 121) (by first | (go_simp; done) | (go_simp; rfl)) ?_
  intro r hr w1 hbx hb1
  have hrge : w.heap.size ≤ r := Nat.le_of_eq hr.symm
  have HRG := Aside0.mk hrge
  have HB1 := Aside0.mk hb1
  clear hr hrge hb1
  go_wp2_with (go_at_call 71; refine Rg.stop_here ?_)
  refine ⟨?_⟩
  refine (bk_list_block pl_rint (bk_rstring pl_rint) a0 0 0 r 24 w1 (Nat.zero_le _) hs hbx (by omega) (by omega)).mono ?_
  rintro en w2 ⟨xs, v, j, e', rfl, hS, hr2, hp, hg2⟩
  have hB2 : Below w.heap.size w w2 := ⟨hg2.os.trans HB1.out.os, hg2.tape.trans HB1.out.tape, hg2.output.trans HB1.out.output, Nat.le_trans HB1.out.size hg2.size, fun i hi => (hg2.block i (Nat.lt_of_lt_of_le hi HB1.out.size) (fun h => by have h2 := Option.some.inj h; have := HRG.out; omega)).trans (HB1.out.block i hi)⟩
  have hS2 := Kd.S_mono (ok' := fun _ => True) (Kd.S_lower hS HB1.out.size) (fun _ _ => trivial)
  obtain ⟨A, c, hv, hcl, hC⟩ := Kd.S_reads hS2
  subst hv
  unfold bk_rdr at hr2
  have c1 : w2.cell? ⟨r, 1, none⟩ = some (.int .i64 (j : Int)) := bk_cell hr2 1
  have c2 : w2.cell? ⟨r, 2, none⟩ = some (.int .i64 e') := bk_cell hr2 2
  obtain ⟨hj, _, hp0⟩ := hp
  have hp1 := hp0 rfl
  rw [show bk_rest a0 0 = a0.data.toList from rfl] at hp1
  have HS2 := Aside0.mk hS2
  have HB2 := Aside0.mk hB2
  have HC := Aside0.mk hC
  clear hbx hS hg2 hr2 hp0 hS2 hB2 hC HB1
  cases hrd : rdL 24 rdB a0.data.toList with
  | error er =>
    rw [hrd] at hp1
    obtain ⟨rfl, hne⟩ := hp1
    have hm := HD.out
    rw [pl_decode_err a0 _ hrd] at hm
    obtain ⟨rfl, rfl⟩ := Prod.mk.inj hm
    have hneb : (e' == 0) = false := by simpa using hne
    clear hrd hm
    go_wp2
    go_quiet (fail)
    go_wp2
    go_ret2
    exact ⟨_, rfl, Kd.S_nil _ _ _ _ _, pw_below_drewN HB2.out _⟩
  | ok p =>
    obtain ⟨ys, rr⟩ := p
    rw [hrd] at hp1
    obtain ⟨rfl, rfl, rfl⟩ := hp1
    have hm := HD.out
    rw [pl_decode_ok a0 _ _ hrd] at hm
    clear hrd
    by_cases hlt : j < a0.size
    · rw [if_pos ((pl_rest_nil a0 j).2 hlt)] at hm
      obtain ⟨rfl, rfl⟩ := Prod.mk.inj hm
      have d1 : decide ((j : Int) < (a0.size : Int)) = true := by simp; omega
      clear hm
      go_wp2
      go_ret2
      exact ⟨_, rfl, Kd.S_nil _ _ _ _ _, HB2.out⟩
    · rw [if_neg (fun h => hlt ((pl_rest_nil a0 j).1 h))] at hm
      have d1 : decide ((j : Int) < (a0.size : Int)) = false := by simp; omega
      have hvl := block_ValidList.calls A c xs (m_validL xs) w2 HC.out hcl rfl
      cases hv : m_validL xs with
      | false =>
        rw [hv] at hm hvl
        rw [if_neg (by decide)] at hm
        obtain ⟨rfl, rfl⟩ := Prod.mk.inj hm
        clear hm
        go_wp2_with (go_at_call 40; refine hvl.mono ?_; rintro e w3 ⟨rfl, hb3⟩)
        go_ret2
        exact ⟨_, rfl, Kd.S_nil _ _ _ _ _, below_step HB2.out hb3⟩
      | true =>
        rw [hv] at hm hvl
        rw [if_pos rfl] at hm
        obtain ⟨rfl, rfl⟩ := Prod.mk.inj hm
        clear hm
        go_wp2_with (go_at_call 40; refine hvl.mono ?_; rintro e w3 ⟨rfl, hb3⟩)
        go_ret2
        exact ⟨_, rfl, Kd.S_below HS2.out hb3, below_step HB2.out hb3⟩
end Go.Proofs.YtkhgdglaophkbaaGreatDoor.PK
end
section
namespace Go.Proofs.YtkhgdglaophkbaaGreatDoor.PK
open Go.RowKit Go.Proofs.YtkhgdglaophkbaaGreatDoorW.PrintWords Go.Proofs.YtkhgdglaophkbaaGreatDoorW.PrintLast Go.Proofs.YtkhgdglaophkbaaGreatDoorW.PrintMore
attribute [local go_sem] max2_int min2_int max_two min_two max_three min_three max_four min_four   -- for this text's walks alone
set_option linter.unusedVariables false
set_option linter.unusedSimpArgs false
def fact_within.f (a0 : Int) (a1 : Int) (a2 : Int) : Option (Bool) := if a0 ≥ a1 then (some (decide (a0 ≤ a2))) else (some false)
set_option maxHeartbeats 8000000 in
set_option maxRecDepth 100000 in
theorem fact_within.calls (a0 : Int) (a1 : Int) (a2 : Int) (r : Bool) (w : World) (h : fact_within.f a0 a1 a2 = some r) :
    Calls Tryz.prog 31 #[.int .i64 a0, .int .i64 a1, .int .i64 a2] w fun e w' => e = .returned (.bool r) ∧ Drawn0 w w' := by
  have H : (if a0 ≥ a1 then (some (decide (a0 ≤ a2))) else (some false)) = some r := h
  clear h
  by_cases c4 : a0 ≥ a1
  · rw [if_pos c4] at H
    have c4b0 : decide (a1 ≤ a0) = true := decide_eq_true c4
    clear c4
    obtain rfl := Option.some.inj H
    go_enter Tryz.func31, Tryz.ntmps31
    go_wp2
    go_ret
    exact ⟨by first | rfl | (simp; done) | (simp [*]; done), by repeat (first | exact Drawn0.refl _ | apply Drawn0.step)⟩
  · rw [if_neg c4] at H
    have c4b0 : decide (a1 ≤ a0) = false := decide_eq_false c4
    clear c4
    obtain rfl := Option.some.inj H
    go_enter Tryz.func31, Tryz.ntmps31
    go_wp2
    go_ret
    exact ⟨by first | rfl | (simp; done) | (simp [*]; done), by repeat (first | exact Drawn0.refl _ | apply Drawn0.step)⟩
end Go.Proofs.YtkhgdglaophkbaaGreatDoor.PK
end
section
set_option linter.unusedVariables false
set_option linter.unusedSimpArgs false
namespace Go.Proofs.YtkhgdglaophkbaaGreatDoor.PK
open Go.RowKit Go.Proofs.YtkhgdglaophkbaaGreatDoorW.PrintWords Go.Proofs.YtkhgdglaophkbaaGreatDoorW.PrintLast Go.Proofs.YtkhgdglaophkbaaGreatDoorW.PrintMore
theorem er_ok (er : Int) (w : World) : Calls Tryz.prog 34 #[.bool true, .int .i64 er] w fun e w' => e = .returned (.tuple #[]) ∧ w = w' := by
  go_enter Tryz.func34, Tryz.ntmps34
  go_wp2
  go_end0
  exact ⟨rfl, rfl⟩
theorem er_no (er : Int) (w : World) : Calls Tryz.prog 34 #[.bool false, .int .i64 er] w fun e w' => e = .panicked (stopC er) ∧ w = w' := by
  go_enter Tryz.func34, Tryz.ntmps34
  go_wp2
  exact ⟨rfl, rfl, rfl⟩
theorem rdB_T : rdB_ = rdT := by
  funext l
  unfold rdB_ rdT rdBind
  cases rdS l with
  | error e => rfl
  | ok p => rfl
structure RdR (s : ByteArray) (ps pp pa pn pt : Nat) (l : List UInt8) (w : World) : Prop where mk ::
  idx : ∃ i : Nat, i ≤ s.size ∧ l = bk_rest s i ∧ w.heap[pa]? = some (.cells #[.int .i64 (i : Int)] 3 (0, 0))
  str : w.heap[ps]? = some (.cells #[.string s] 9 (0, 0))
  ptr : w.heap[pp]? = some (.cells #[.pointer (some ⟨pa, 0, none⟩)] 51 (0, 0))
  num : w.heap[pn]? = some (.cells #[.func (.func 51) #[] #[.pointer (some ⟨ps, 0, none⟩), .pointer (some ⟨pp, 0, none⟩)]] 53 (0, 0))
  txt : w.heap[pt]? = some (.cells #[.func (.func 53) #[] #[.pointer (some ⟨ps, 0, none⟩), .pointer (some ⟨pp, 0, none⟩)]] 56 (0, 0))
def RdP (ps pp pa pn pt : Nat) (k : Nat) : Prop := k = ps ∨ k = pp ∨ k = pa ∨ k = pn ∨ k = pt
theorem RdR.drewN {s : ByteArray} {ps pp pa pn pt : Nat} {l : List UInt8} {w : World} (h : RdR s ps pp pa pn pt l w) (m : Nat) : RdR s ps pp pa pn pt l (w.drewN m) := ⟨h.idx, h.str, h.ptr, h.num, h.txt⟩
theorem RdR.below {s : ByteArray} {ps pp pa pn pt : Nat} {l : List UInt8} {w w' : World} (h : RdR s ps pp pa pn pt l w) (hb : Below w.heap.size w w') : RdR s ps pp pa pn pt l w' := by
  obtain ⟨i, h1, h2, h3⟩ := h.idx
  exact ⟨⟨i, h1, h2, blk_below h3 hb⟩, blk_below h.str hb, blk_below h.ptr hb, blk_below h.num hb, blk_below h.txt hb⟩
theorem er_after {s : ByteArray} {ps pp pa pn pt b o j : Nat} {l : List UInt8} {v : Value} {w w' : World} (hd : [ps, pp, pa, pn, pt].Nodup) (hR : RdR s ps pp pa pn pt l w) (hj : j ≤ s.size) (hbP : ¬ RdP ps pp pa pn pt b)
    (hw : w'.os = w.os ∧ w'.tape = w.tape ∧ w'.output = w.output ∧ w'.heap.size = w.heap.size) (hh : ∀ k, k ≠ b → k ≠ pa → w'.heap[k]? = w.heap[k]?) (hb : w'.heap[b]? = (w.setCell ⟨b, o, none⟩ v).heap[b]?)
    (ha : w'.heap[pa]? = some (.cells #[.int .i64 (j : Int)] 3 (0, 0))) : RdR s ps pp pa pn pt (bk_rest s j) w' ∧ w'.heap[b]? = (w.setCell ⟨b, o, none⟩ v).heap[b]? ∧ Kp (fun k => RdP ps pp pa pn pt k ∨ k = b) w w' := by
  simp only [List.nodup_cons, List.mem_cons, List.not_mem_nil, or_false, not_or] at hd
  obtain ⟨⟨d1, d2, d3, d4⟩, ⟨d5, d6, d7⟩, ⟨d8, d9⟩, d10, _⟩ := hd
  unfold RdP at hbP
  simp only [not_or] at hbP
  obtain ⟨b1, b2, b3, b4, b5⟩ := hbP
  refine ⟨⟨⟨j, hj, rfl, ha⟩, (hh ps (Ne.symm b1) d2).trans hR.str, (hh pp (Ne.symm b2) d5).trans hR.ptr, (hh pn (Ne.symm b4) (Ne.symm d8)).trans hR.num, (hh pt (Ne.symm b5) (Ne.symm d9)).trans hR.txt⟩, hb, hw.1, hw.2.1, hw.2.2.1, ⟨Nat.le_of_eq hw.2.2.2.symm, fun i hi hn => hh i (fun h => hn (.inr h)) (fun h => hn (.inl (.inr (.inr (.inl h)))))⟩⟩
set_option maxHeartbeats 2000000 in
set_option maxRecDepth 100000 in
theorem er_num (s : ByteArray) (hs : s.size ≤ 1000000000) (ps pp pa pn pt : Nat) (hd : [ps, pp, pa, pn, pt].Nodup) (l : List UInt8) (w : World) (b o : Nat) (u : Int) (hR : RdR s ps pp pa pn pt l w) (hbP : ¬ RdP ps pp pa pn pt b) (hc : w.cell? ⟨b, o, none⟩ = some (Value.int .i64 u)) (hz : w.frozen? ⟨b, o, none⟩ = false) (B0 : Nat) (hB : B0 ≤ w.heap.size) :
    Calls Tryz.prog 51 #[.pointer (some ⟨b, o, none⟩), .pointer (some ⟨ps, 0, none⟩), .pointer (some ⟨pp, 0, none⟩)] w (Post (RdR s ps pp pa pn pt) B0 (RdP ps pp pa pn pt) (rdI l) (Value.int .i64) b o w) := by
  obtain ⟨i, hi, hli, ha⟩ := hR.idx
  subst hli
  have HR := Aside0.mk hR
  have HA := Aside0.mk ha
  have HC := Aside0.mk hc
  have HZ := Aside0.mk hz
  have HD := Aside0.mk hd
  have cs : w.cell? ⟨ps, 0, none⟩ = some (.string s) := bk_cell hR.str 0
  have cp : w.cell? ⟨pp, 0, none⟩ = some (.pointer (some ⟨pa, 0, none⟩)) := bk_cell hR.ptr 0
  have ca : w.cell? ⟨pa, 0, none⟩ = some (.int .i64 (i : Int)) := bk_cell ha 0
  have hne : b ≠ pa := fun h => hbP (.inr (.inr (.inl h)))
  rcases pl_rint s i hi hs with ⟨x, j, hj, hone, hcall⟩ | ⟨hone, x, j, er, her, hcall⟩
  · have HJ := Aside0.mk hj
    have HO := Aside0.mk hone
    clear hR ha hc hz hd hone
    go_enter Tryz.func51, Tryz.ntmps51
    go_wp2_with fail
    go_quiet ((go_at_call 52; exact Calls.quiet_of (hcall _)))
    go_wp2_with (go_at_call 34; refine (er_ok _ _).mono ?_; rintro e w2 ⟨rfl, rfl⟩)
    have hc := HC.out
    have hz := HZ.out
    have za := bk_frozen HA.out 0
    have hne' : ¬ pa = b := fun h => hne h.symm
    have hne2 : ¬ b = pp := fun h => hbP (.inr (.inl h))
    have hne3 : ¬ pp = b := fun h => hbP (.inr (.inl h.symm))
    go_region
    go_end0
    unfold Post
    rw [HO.out]
    exact ⟨rfl, er_after HD.out HR.out HJ.out hbP ⟨rfl, rfl, rfl, by simp [World.setCell, World.drewN]⟩ (fun k h1 h2 => (Below.heap_setCell _ _ _ k h2).trans (Below.heap_setCell _ _ _ k h1)) ((Below.heap_setCell _ _ _ b hne).trans rfl) (blk_set (blk_far (blk_drewN HA.out _) hne' _) 0 _)⟩
  · have he : ((er : Int) == 0) = false := beq_eq_false_iff_ne.2 her
    have he2 : decide ((er : Int) = 0) = false := decide_eq_false her
    have HO := Aside0.mk hone
    clear hR ha hc hz hd hone her
    go_enter Tryz.func51, Tryz.ntmps51
    go_wp2_with fail
    go_quiet ((go_at_call 52; exact Calls.quiet_of (hcall _)))
    go_wp2_with (go_at_call 34; refine (er_no _ _).mono ?_; rintro e w2 ⟨rfl, rfl⟩)
    refine ⟨rfl, ?_⟩
    unfold Post
    rw [HO.out]
    exact ⟨rfl, (Kp.refl _ _).drewN _, Shp.of_eq rfl⟩
set_option maxHeartbeats 2000000 in
set_option maxRecDepth 100000 in
theorem er_txt (s : ByteArray) (hs : s.size ≤ 1000000000) (ps pp pa pn pt : Nat) (hd : [ps, pp, pa, pn, pt].Nodup) (l : List UInt8) (w : World) (b o : Nat) (u : ByteArray) (hR : RdR s ps pp pa pn pt l w) (hbP : ¬ RdP ps pp pa pn pt b) (hc : w.cell? ⟨b, o, none⟩ = some (Value.string u)) (hz : w.frozen? ⟨b, o, none⟩ = false) (B0 : Nat) (hB : B0 ≤ w.heap.size) :
    Calls Tryz.prog 53 #[.pointer (some ⟨b, o, none⟩), .pointer (some ⟨ps, 0, none⟩), .pointer (some ⟨pp, 0, none⟩)] w (Post (RdR s ps pp pa pn pt) B0 (RdP ps pp pa pn pt) (rdT l) (Value.string) b o w) := by
  obtain ⟨i, hi, hli, ha⟩ := hR.idx
  subst hli
  have HR := Aside0.mk hR
  have HA := Aside0.mk ha
  have HC := Aside0.mk hc
  have HZ := Aside0.mk hz
  have HD := Aside0.mk hd
  have cs : w.cell? ⟨ps, 0, none⟩ = some (.string s) := bk_cell hR.str 0
  have cp : w.cell? ⟨pp, 0, none⟩ = some (.pointer (some ⟨pa, 0, none⟩)) := bk_cell hR.ptr 0
  have ca : w.cell? ⟨pa, 0, none⟩ = some (.int .i64 (i : Int)) := bk_cell ha 0
  have hne : b ≠ pa := fun h => hbP (.inr (.inr (.inl h)))
  rcases bk_rstring pl_rint s i hi hs with ⟨x, j, hj, hone, hcall⟩ | ⟨hone, x, j, er, her, hcall⟩
  · have HJ := Aside0.mk hj
    rw [rdB_T] at hone
    have HO := Aside0.mk hone
    clear hR ha hc hz hd hone
    go_enter Tryz.func53, Tryz.ntmps53
    go_wp2_with fail
    go_quiet ((go_at_call 54; exact Calls.quiet_of (hcall _)))
    go_wp2_with (go_at_call 34; refine (er_ok _ _).mono ?_; rintro e w2 ⟨rfl, rfl⟩)
    have hc := HC.out
    have hz := HZ.out
    have za := bk_frozen HA.out 0
    have hne' : ¬ pa = b := fun h => hne h.symm
    have hne2 : ¬ b = pp := fun h => hbP (.inr (.inl h))
    have hne3 : ¬ pp = b := fun h => hbP (.inr (.inl h.symm))
    go_region
    go_end0
    unfold Post
    rw [HO.out]
    exact ⟨rfl, er_after HD.out HR.out HJ.out hbP ⟨rfl, rfl, rfl, by simp [World.setCell, World.drewN]⟩ (fun k h1 h2 => (Below.heap_setCell _ _ _ k h2).trans (Below.heap_setCell _ _ _ k h1)) ((Below.heap_setCell _ _ _ b hne).trans rfl) (blk_set (blk_far (blk_drewN HA.out _) hne' _) 0 _)⟩
  · have he : ((er : Int) == 0) = false := beq_eq_false_iff_ne.2 her
    have he2 : decide ((er : Int) = 0) = false := decide_eq_false her
    rw [rdB_T] at hone
    have HO := Aside0.mk hone
    clear hR ha hc hz hd hone her
    go_enter Tryz.func53, Tryz.ntmps53
    go_wp2_with fail
    go_quiet ((go_at_call 54; exact Calls.quiet_of (hcall _)))
    go_wp2_with (go_at_call 34; refine (er_no _ _).mono ?_; rintro e w2 ⟨rfl, rfl⟩)
    refine ⟨rfl, ?_⟩
    unfold Post
    rw [HO.out]
    exact ⟨rfl, (Kp.refl _ _).drewN _, Shp.of_eq rfl⟩
theorem er_within (a lo hi : Int) (w : World) : Calls Tryz.prog 31 #[.int .i64 a, .int .i64 lo, .int .i64 hi] w fun e w' => e = .returned (.bool (m_in a lo hi)) ∧ ∃ m, w' = w.drewN m :=
  (fact_within.calls a lo hi _ w (by
    unfold fact_within.f m_in
    by_cases h : a ≥ lo
    · rw [if_pos h, decide_eq_true (show lo ≤ a from h)]; rfl
    · rw [if_neg h, decide_eq_false (show ¬ lo ≤ a from h)]; rfl)).mono (fun e w' h => ⟨h.1, pl_drawn h.2⟩)
theorem cell_heap {w w' : World} {b o : Nat} (h : w'.heap[b]? = w.heap[b]?) : w'.cell? ⟨b, o, none⟩ = w.cell? ⟨b, o, none⟩ := by simp [World.cell?, h]
theorem frozen_heap {w w' : World} {b o : Nat} (h : w'.heap[b]? = w.heap[b]?) : w'.frozen? ⟨b, o, none⟩ = w.frozen? ⟨b, o, none⟩ := by simp [World.frozen?, h]
set_option maxHeartbeats 2000000 in
set_option maxRecDepth 100000 in
theorem er_cnt (s : ByteArray) (hs : s.size ≤ 1000000000) (ps pp pa pn pt : Nat) (hd : [ps, pp, pa, pn, pt].Nodup) (l : List UInt8) (w : World) (b o : Nat) (u m : Int) (hR : RdR s ps pp pa pn pt l w) (hbP : ¬ RdP ps pp pa pn pt b) (hc : w.cell? ⟨b, o, none⟩ = some (.int .i64 u)) (hz : w.frozen? ⟨b, o, none⟩ = false) (B0 : Nat) (hB : B0 ≤ w.heap.size) (hBb : B0 ≤ b) (hBP : ∀ k, RdP ps pp pa pn pt k → B0 ≤ k) :
    Calls Tryz.prog 55 #[.pointer (some ⟨b, o, none⟩), .int .i64 m, .pointer (some ⟨pn, 0, none⟩)] w (Post (RdR s ps pp pa pn pt) B0 (RdP ps pp pa pn pt) (rdCnt m l) (Value.int .i64) b o w) := by
  have cn := bk_cell hR.num 0
  have cn : w.cell? ⟨pn, 0, none⟩ = some (.func (.func 51) #[] #[.pointer (some ⟨ps, 0, none⟩), .pointer (some ⟨pp, 0, none⟩)]) := cn
  have eN := enters_ Tryz.func51 (by kernel_rfl) rfl
  have hcall := er_num s hs ps pp pa pn pt hd l w b o u hR hbP hc hz B0 hB
  have HC := Aside0.mk hc
  clear hR hc hz hd
  go_enter Tryz.func55, Tryz.ntmps55
  go_wp2_with fail
  refine hcall.mono ?_
  intro e w1 h
  unfold Post at h
  clear hcall cn
  cases hx : rdI l with
  | error er =>
    rw [hx] at h
    obtain ⟨rfl, hbe⟩ := h
    have HX := Aside0.mk hx
    clear hx
    go_wp2
    refine ⟨rfl, ?_⟩
    unfold Post rdCnt
    rw [cd_bind_err HX.out]
    exact ⟨rfl, hbe⟩
  | ok q =>
  obtain ⟨v, l1⟩ := q
  rw [hx] at h
  obtain ⟨rfl, hR1, hb1, hk1⟩ := h
  have c1 : w1.cell? ⟨b, o, none⟩ = some (.int .i64 v) := (cell_heap hb1).trans (World.cell?_setCell_same _ _ _ HC.out)
  have HX := Aside0.mk hx
  have HB1 := Aside0.mk hb1
  clear hx hb1 HC
  cases hin : m_in v 0 m with
  | true =>
    have hif : ¬ (v < 0 ∨ m < v) := by have := cf_in hin; omega
    have HC1 := er_within v 0 m
    rw [hin] at HC1
    clear hin
    go_wp2_with (first | (go_at_call 31; (with_reducible refine (HC1 _).mono ?_); rintro e w2 ⟨rfl, m2, rfl⟩) | (go_at_call 34; (with_reducible refine (er_ok _ _).mono ?_); rintro e w3 ⟨rfl, rfl⟩))
    go_end0
    unfold Post rdCnt
    rw [cd_bind_ok HX.out, if_neg hif]
    exact ⟨rfl, hR1.drewN _, HB1.out, hk1.drewN _⟩
  | false =>
    have hif : v < 0 ∨ m < v := by
      rcases Int.lt_or_le v 0 with h | h
      · exact .inl h
      · rcases Int.lt_or_le m v with h2 | h2
        · exact .inr h2
        · have : m_in v 0 m = true := by unfold m_in; rw [decide_eq_true h, decide_eq_true h2]; rfl
          rw [this] at hin; cases hin
    have HC1 := er_within v 0 m
    rw [hin] at HC1
    clear hin
    go_wp2_with (first | (go_at_call 31; (with_reducible refine (HC1 _).mono ?_); rintro e w2 ⟨rfl, m2, rfl⟩) | (go_at_call 34; (with_reducible refine (er_no _ _).mono ?_); rintro e w3 ⟨rfl, rfl⟩))
    refine ⟨rfl, ?_⟩
    unfold Post rdCnt
    rw [cd_bind_ok HX.out, if_pos hif]
    exact ⟨rfl, hk1.drewN _, Shp.of_set HB1.out⟩
set_option maxHeartbeats 2000000 in
set_option maxRecDepth 100000 in
theorem er_blk (s : ByteArray) (hs : s.size ≤ 1000000000) (ps pp pa pn pt : Nat) (hd : [ps, pp, pa, pn, pt].Nodup) (l : List UInt8) (w : World) (b o : Nat) (u : Value) (ok : Nat → Prop) (hR : RdR s ps pp pa pn pt l w) (hbP : ¬ RdP ps pp pa pn pt b) (hc : w.cell? ⟨b, o, none⟩ = some u) (hz : w.frozen? ⟨b, o, none⟩ = false) (B0 : Nat) (hB : B0 ≤ w.heap.size) (hBb : B0 ≤ b) (hBP : ∀ k, RdP ps pp pa pn pt k → B0 ≤ k) :
    Calls Tryz.prog 56 #[.pointer (some ⟨b, o, none⟩), .pointer (some ⟨pt, 0, none⟩)] w (PostB (RdR s ps pp pa pn pt) B0 (RdP ps pp pa pn pt) ok (rdBk l) b o w) := by
  have HR := Aside0.mk hR
  have HC := Aside0.mk hc
  have HZ := Aside0.mk hz
  have eN := enters_ Tryz.func53 (by kernel_rfl) rfl
  have hbl := World.block_lt_of_cell? _ _ hc
  have hbl : b < w.heap.size := hbl
  clear hR hc hz
  go_enter Tryz.func56, Tryz.ntmps56
  go_wp2_with (with_reducible refine is_alloc rfl ?_; refine Rg.stop_here ?_)
  refine ⟨?_⟩
  refine box_event rfl (N := 3) rfl (cs := #[.string ⟨#[]⟩]) (t := 9) (by first | (go_simp; done) | (go_simp; rfl)) ?_
  intro pz hpz w1 hbx hb1
  have hpz' : w.heap.size ≤ pz := Nat.le_of_eq hpz.symm
  have cz : w1.cell? ⟨pz, 0, none⟩ = some (.string ⟨#[]⟩) := bk_cell hbx 0
  have zz := bk_frozen hbx 0
  have HBX := Aside0.mk hbx
  have HB1 := Aside0.mk hb1
  clear hpz hbx hb1
  go_upto_region 1 with fail
  obtain ⟨w2, hw2⟩ : ∃ w2, w1.setCell ⟨pz, 0, none⟩ (.string ⟨#[]⟩) = w2 := ⟨_, rfl⟩
  rw [hw2]
  have hb2 : Below w.heap.size w w2 := by rw [← hw2]; exact HB1.out.setCell hpz' _
  have hbx2 : w2.heap[pz]? = some (.cells #[.string ⟨#[]⟩] 9 (0, 0)) := by rw [← hw2]; exact blk_set HBX.out 0 _
  have HB2 := Aside0.mk hb2
  have HBX2 := Aside0.mk hbx2
  have hR2 := HR.out.below hb2
  have ct : w2.cell? ⟨pt, 0, none⟩ = some (.func (.func 53) #[] #[.pointer (some ⟨ps, 0, none⟩), .pointer (some ⟨pp, 0, none⟩)]) := bk_cell hR2.txt 0
  have hpzP : ¬ RdP ps pp pa pn pt pz := fun h => by
    obtain ⟨i, _, _, ha⟩ := HR.out.idx
    have h1 := blk_lt HR.out.str
    have h2 := blk_lt HR.out.ptr
    have h3 := blk_lt ha
    have h4 := blk_lt HR.out.num
    have h5 := blk_lt HR.out.txt
    unfold RdP at h
    omega
  have hcall := er_txt s hs ps pp pa pn pt hd l w2 pz 0 ⟨#[]⟩ hR2 hpzP (bk_cell hbx2 0) (bk_frozen hbx2 0) B0 (Nat.le_trans hB hb2.size)
  have hpzB : B0 ≤ pz := Nat.le_trans hB hpz'
  clear hw2 hb2 hbx2 hR2 cz zz HBX HB1
  go_wp2_with fail
  refine hcall.mono ?_
  intro e w3 h
  unfold Post at h
  clear hcall ct
  cases hx : rdT l with
  | error er =>
    rw [hx] at h
    obtain ⟨rfl, hbe⟩ := h
    have HX := Aside0.mk hx
    clear hx
    go_wp2
    refine ⟨rfl, ?_⟩
    have hk03 : Kp (RdP ps pp pa pn pt) w w3 := (Kp.of_below _ HB2.out).trans hbe.1 (fun k hk => hk.elim .inl (fun h => .inr (h ▸ hpz')))
    unfold PostB rdBk
    rw [cd_bind_err HX.out]
    exact ⟨rfl, hk03.mono (fun _ h => .inl h), Shp.of_eq (hk03.kept.2 b hbl hbP)⟩
  | ok q =>
  obtain ⟨v, l1⟩ := q
  rw [hx] at h
  obtain ⟨rfl, hR3, hc3, hk3⟩ := h
  have hvs : v.size ≤ 65536 := (cf_txt.only _ _ _ hx).1
  have c3 : w3.cell? ⟨pz, 0, none⟩ = some (.string v) := (cell_heap hc3).trans (World.cell?_setCell_same _ _ _ (bk_cell HBX2.out 0))
  have hk03 : Kp (RdP ps pp pa pn pt) w w3 := (Kp.of_below _ HB2.out).trans hk3 (fun k hk => hk.elim .inl (fun h => .inr (h ▸ hpz')))
  have HX := Aside0.mk hx
  have HK3 := Aside0.mk hk03
  have HR3 := Aside0.mk hR3
  obtain ⟨ys, e0, hdec⟩ : ∃ ys e0, m_decode v = (ys, e0) := ⟨_, _, rfl⟩
  have HDec := Aside0.mk hdec
  have hdf : block_Decode.f v = some (ys, e0) := by unfold block_Decode.f; rw [if_pos (by omega), hdec]
  have HDF := Aside0.mk hdf
  clear hx hk3 hc3 hk03 hR3 hdec hdf HBX2 HB2
  go_wp2_with (go_at_call 57; refine Rg.stop_here ?_)
  refine ⟨?_⟩
  refine (block_Decode.calls v ys e0 _ HDF.out).mono ?_
  rintro e w4 ⟨v0, rfl, hS, hb4⟩
  obtain ⟨A, c, rfl, hlc, _⟩ := Kd.S_reads hS
  have hk04 := HK3.out.then_below hb4
  have hR4 := HR3.out.below hb4
  have hb4' : w4.heap[b]? = w.heap[b]? := hk04.kept.2 b hbl hbP
  have cb : w4.cell? ⟨b, o, none⟩ = some u := (cell_heap hb4').trans HC.out
  have zb : w4.frozen? ⟨b, o, none⟩ = false := (frozen_heap hb4').trans HZ.out
  have HS := Aside0.mk hS
  have HK4 := Aside0.mk hk04
  have HR4 := Aside0.mk hR4
  have HB4 := Aside0.mk hb4'
  clear hS hk04 hR4 hb4' hb4 c3
  by_cases he : e0 = 0
  · subst he
    go_wp2_with (go_at_call 34; (with_reducible refine (er_ok _ _).mono ?_); rintro e w5 ⟨rfl, rfl⟩)
    go_end0
    unfold PostB rdBk
    rw [cd_bind_ok HX.out, HDec.out, if_pos rfl]
    have hw3 := HK3.out.size
    have hV : Kd.V k49 0 w4 0 (fun k => w.heap.size ≤ k) (.slice A ys.length c) ys := Kd.V_mono (Kd.V_mk (e := 0) (base := 0) hlc (Kd.S_F (Kd.S_bound HS.out))) (fun k hk => by have := hk.2.1; omega)
    refine ⟨rfl, ?_, ⟨_, ?_, Kd.V_mono (Kd.V_far hV (fun k hk h => by have h : k = b := h; omega) _) (fun k hk => .inr hk)⟩, (HK4.out.mono (fun _ h => .inl h)).set (.inl (.inr rfl)) _⟩
    · obtain ⟨i, h1, h2, h3⟩ := HR4.out.idx
      unfold RdP at hbP
      simp only [not_or] at hbP
      exact ⟨⟨i, h1, h2, blk_far h3 (Ne.symm hbP.2.2.1) _⟩, blk_far HR4.out.str (Ne.symm hbP.1) _, blk_far HR4.out.ptr (Ne.symm hbP.2.1) _, blk_far HR4.out.num (Ne.symm hbP.2.2.2.1) _, blk_far HR4.out.txt (Ne.symm hbP.2.2.2.2) _⟩
    · simp only [World.setCell, Array.getElem?_modify, ↓reduceIte, HB4.out]
  · have hE : (e0 == 0) = false := beq_eq_false_iff_ne.2 he
    have hE2 : decide (e0 = 0) = false := decide_eq_false he
    have HE := Aside0.mk he
    clear he
    go_wp2_with (go_at_call 34; (with_reducible refine (er_no _ _).mono ?_); rintro e w5 ⟨rfl, rfl⟩)
    refine ⟨rfl, ?_⟩
    unfold PostB rdBk
    rw [cd_bind_ok HX.out, HDec.out, if_neg HE.out]
    exact ⟨rfl, HK4.out.mono (fun _ h => .inl h), Shp.of_eq HB4.out⟩
def rdD (s : ByteArray) (hs : s.size ≤ 1000000000) (ps pp pa pn pt B0 : Nat) (hd : [ps, pp, pa, pn, pt].Nodup) (hB : ∀ k, RdP ps pp pa pn pt k → B0 ≤ k) : Drv (List UInt8) where
  c := rdC
  len := fun _ => 0
  nf := 51
  tf := 53
  cf := 55
  bf := 56
  nc := #[.pointer (some ⟨ps, 0, none⟩), .pointer (some ⟨pp, 0, none⟩)]
  tc := #[.pointer (some ⟨ps, 0, none⟩), .pointer (some ⟨pp, 0, none⟩)]
  cc := #[.pointer (some ⟨pn, 0, none⟩)]
  bc := #[.pointer (some ⟨pt, 0, none⟩)]
  R := RdR s ps pp pa pn pt
  B0 := B0
  Pv := RdP ps pp pa pn pt
  pvB := hB
  keep := fun {l w w'} hR h => by
    obtain ⟨i, h1, h2, h3⟩ := hR.idx
    exact ⟨⟨i, h1, h2, (h _ (.inr (.inr (.inl rfl)))).trans h3⟩, (h _ (.inl rfl)).trans hR.str, (h _ (.inr (.inl rfl))).trans hR.ptr, (h _ (.inr (.inr (.inr (.inl rfl))))).trans hR.num, (h _ (.inr (.inr (.inr (.inr rfl))))).trans hR.txt⟩
  pvlt := fun {l w k} hR hk => by
    obtain ⟨i, _, _, ha⟩ := hR.idx
    rcases hk with h | h | h | h | h <;> subst h
    · exact blk_lt hR.str
    · exact blk_lt hR.ptr
    · exact blk_lt ha
    · exact blk_lt hR.num
    · exact blk_lt hR.txt
  eN := enters_ Tryz.func51 (by kernel_rfl) rfl
  eT := enters_ Tryz.func53 (by kernel_rfl) rfl
  eC := enters_ Tryz.func55 (by kernel_rfl) rfl
  eB := enters_ Tryz.func56 (by kernel_rfl) rfl
  lN := fun _ => Nat.zero_le _
  lT := fun _ => Nat.zero_le _
  lC := fun _ => Nat.zero_le _
  lB := fun _ => Nat.zero_le _
  cC := fun {m v l v' l'} h => by
    have h' : rdBind rdI (fun n l => if n < 0 ∨ m < n then .error 50 else .ok (n, l)) l = .ok (v', l') := h
    obtain ⟨x, l1, _, _, _, h2⟩ := cd_step cd_int _ _ h'
    by_cases hx : x < 0 ∨ m < x
    · rw [if_pos hx] at h2; cases h2
    · rw [if_neg hx] at h2
      have := (Prod.mk.inj (Except.ok.inj h2)).1
      omega
  num := fun l w b o v hR hb hbP hc hf _ => er_num s hs ps pp pa pn pt hd l w b o v hR hbP hc hf B0 (Nat.le_trans (hB _ (.inl rfl)) (Nat.le_of_lt (blk_lt hR.str)))
  txt := fun l w b o v hR hb hbP hc hf _ => er_txt s hs ps pp pa pn pt hd l w b o v hR hbP hc hf B0 (Nat.le_trans (hB _ (.inl rfl)) (Nat.le_of_lt (blk_lt hR.str)))
  cnt := fun l w b o v m hR hb hbP hc hf _ => er_cnt s hs ps pp pa pn pt hd l w b o v m hR hbP hc hf B0 (Nat.le_trans (hB _ (.inl rfl)) (Nat.le_of_lt (blk_lt hR.str))) hb hB
  blk := fun l w b o u bl ok hR hb hbP hc hf _ _ _ => er_blk s hs ps pp pa pn pt hd l w b o u ok hR hbP hc hf B0 (Nat.le_trans (hB _ (.inl rfl)) (Nat.le_of_lt (blk_lt hR.str))) hb hB
end Go.Proofs.YtkhgdglaophkbaaGreatDoor.PK
end
section
namespace Go.Proofs.YtkhgdglaophkbaaGreatDoor.PK
open Go.RowKit Go.Proofs.YtkhgdglaophkbaaGreatDoorW.PrintWords Go.Proofs.YtkhgdglaophkbaaGreatDoorW.PrintLast Go.Proofs.YtkhgdglaophkbaaGreatDoorW.PrintMore
attribute [local go_sem] max2_int min2_int max_two min_two max_three min_three max_four min_four   -- for this text's walks alone
set_option linter.unusedVariables false
set_option linter.unusedSimpArgs false
def fact_lower.f (a0 : Int) : Option (Bool) := if a0 ≥ 97 then (some (decide (a0 ≤ 122))) else (some false)
set_option maxHeartbeats 8000000 in
set_option maxRecDepth 100000 in
theorem fact_lower.calls (a0 : Int) (r : Bool) (w : World) (h : fact_lower.f a0 = some r) :
    Calls Tryz.prog 66 #[.int .u8 a0] w fun e w' => e = .returned (.bool r) ∧ Drawn0 w w' := by
  have H : (if a0 ≥ 97 then (some (decide (a0 ≤ 122))) else (some false)) = some r := h
  clear h
  by_cases c2 : a0 ≥ 97
  · rw [if_pos c2] at H
    have c2b0 : decide (97 ≤ a0) = true := decide_eq_true c2
    clear c2
    obtain rfl := Option.some.inj H
    go_enter Tryz.func66, Tryz.ntmps66
    go_wp2
    go_ret
    exact ⟨by first | rfl | (simp; done) | (simp [*]; done), by repeat (first | exact Drawn0.refl _ | apply Drawn0.step)⟩
  · rw [if_neg c2] at H
    have c2b0 : decide (97 ≤ a0) = false := decide_eq_false c2
    clear c2
    obtain rfl := Option.some.inj H
    go_enter Tryz.func66, Tryz.ntmps66
    go_wp2
    go_ret
    exact ⟨by first | rfl | (simp; done) | (simp [*]; done), by repeat (first | exact Drawn0.refl _ | apply Drawn0.step)⟩
end Go.Proofs.YtkhgdglaophkbaaGreatDoor.PK
end
section
namespace Go.Proofs.YtkhgdglaophkbaaGreatDoor.PK
open Go.RowKit Go.Proofs.YtkhgdglaophkbaaGreatDoorW.PrintWords Go.Proofs.YtkhgdglaophkbaaGreatDoorW.PrintLast Go.Proofs.YtkhgdglaophkbaaGreatDoorW.PrintMore
attribute [local go_sem] max2_int min2_int max_two min_two max_three min_three max_four min_four   -- for this text's walks alone
set_option linter.unusedVariables false
set_option linter.unusedSimpArgs false
def fact_isName_1.f (a0 : Int) : Option (Bool) := (fact_lower.f a0).bind fun t139 => (if t139 = true then (some true) else (if a0 ≥ 48 then (if a0 ≤ 57 then (some true) else (some (a0 == 45))) else (some (a0 == 45))))
set_option maxHeartbeats 8000000 in
set_option maxRecDepth 100000 in
theorem fact_isName_1.calls (a0 : Int) (r : Bool) (w : World) (h : fact_isName_1.f a0 = some r) :
    Calls Tryz.prog 65 #[.int .u8 a0] w fun e w' => e = .returned (.bool r) ∧ Drawn0 w w' := by
  have H : ((fact_lower.f a0).bind fun t139 => (if t139 = true then (some true) else (if a0 ≥ 48 then (if a0 ≤ 57 then (some true) else (some (a0 == 45))) else (some (a0 == 45))))) = some r := h
  clear h
  replace H := Option.bind_eq_some_iff.mp H
  obtain ⟨t139, A20, H⟩ := H
  replace H : (if t139 = true then (some true) else (if a0 ≥ 48 then (if a0 ≤ 57 then (some true) else (some (a0 == 45))) else (some (a0 == 45)))) = some r := H
  have A2 := Aside0.mk A20
  clear A20
  by_cases c3 : t139 = true
  · subst c3
    have H1 : (some true) = some r := by rw [if_pos rfl] at H; exact H
    clear H
    have H := H1
    clear H1
    obtain rfl := Option.some.inj H
    go_enter Tryz.func65, Tryz.ntmps65
    go_wp2_with (first | ((with_reducible refine gate_callee (f := 66) rfl ?_); refine goesL_ (some 4) rfl rfl Tryz.func66 (by kernel_rfl) rfl #[.int .u8 a0] rfl (by (try simp only [List.map_toArray, List.map_cons, List.map_nil]); first | done | rfl | (simp only [List.length_drop, List.length_take]; rfl)) ?_; (with_reducible refine (fact_lower.calls a0 true _ A2.out).mono ?_); rintro e w' ⟨rfl, ⟨nd, rfl⟩⟩; refine ⟨_, rfl, ?_⟩))
    go_ret
    exact ⟨by first | rfl | (simp; done) | (simp [*]; done), by repeat (first | exact Drawn0.refl _ | apply Drawn0.step)⟩
  · replace c3 := Bool.eq_false_iff.mpr c3
    subst c3
    have H1 : (if a0 ≥ 48 then (if a0 ≤ 57 then (some true) else (some (a0 == 45))) else (some (a0 == 45))) = some r := by rw [if_neg (show ¬ (false = true) by decide)] at H; exact H
    clear H
    have H := H1
    clear H1
    by_cases c4 : a0 ≥ 48
    · rw [if_pos c4] at H
      have c4b0 : decide (48 ≤ a0) = true := decide_eq_true c4
      clear c4
      by_cases c5 : a0 ≤ 57
      · rw [if_pos c5] at H
        have c5b0 : decide (a0 ≤ 57) = true := decide_eq_true c5
        clear c5
        obtain rfl := Option.some.inj H
        go_enter Tryz.func65, Tryz.ntmps65
        go_wp2_with (first | ((with_reducible refine gate_callee (f := 66) rfl ?_); refine goesL_ (some 4) rfl rfl Tryz.func66 (by kernel_rfl) rfl #[.int .u8 a0] rfl (by (try simp only [List.map_toArray, List.map_cons, List.map_nil]); first | done | rfl | (simp only [List.length_drop, List.length_take]; rfl)) ?_; (with_reducible refine (fact_lower.calls a0 false _ A2.out).mono ?_); rintro e w' ⟨rfl, ⟨nd, rfl⟩⟩; refine ⟨_, rfl, ?_⟩))
        go_ret
        exact ⟨by first | rfl | (simp; done) | (simp [*]; done), by repeat (first | exact Drawn0.refl _ | apply Drawn0.step)⟩
      · rw [if_neg c5] at H
        have c5b0 : decide (a0 ≤ 57) = false := decide_eq_false c5
        clear c5
        obtain rfl := Option.some.inj H
        go_enter Tryz.func65, Tryz.ntmps65
        go_wp2_with (first | ((with_reducible refine gate_callee (f := 66) rfl ?_); refine goesL_ (some 4) rfl rfl Tryz.func66 (by kernel_rfl) rfl #[.int .u8 a0] rfl (by (try simp only [List.map_toArray, List.map_cons, List.map_nil]); first | done | rfl | (simp only [List.length_drop, List.length_take]; rfl)) ?_; (with_reducible refine (fact_lower.calls a0 false _ A2.out).mono ?_); rintro e w' ⟨rfl, ⟨nd, rfl⟩⟩; refine ⟨_, rfl, ?_⟩))
        go_ret
        exact ⟨by first | rfl | (simp; done) | (simp [*]; done), by repeat (first | exact Drawn0.refl _ | apply Drawn0.step)⟩
    · rw [if_neg c4] at H
      have c4b0 : decide (48 ≤ a0) = false := decide_eq_false c4
      clear c4
      obtain rfl := Option.some.inj H
      go_enter Tryz.func65, Tryz.ntmps65
      go_wp2_with (first | ((with_reducible refine gate_callee (f := 66) rfl ?_); refine goesL_ (some 4) rfl rfl Tryz.func66 (by kernel_rfl) rfl #[.int .u8 a0] rfl (by (try simp only [List.map_toArray, List.map_cons, List.map_nil]); first | done | rfl | (simp only [List.length_drop, List.length_take]; rfl)) ?_; (with_reducible refine (fact_lower.calls a0 false _ A2.out).mono ?_); rintro e w' ⟨rfl, ⟨nd, rfl⟩⟩; refine ⟨_, rfl, ?_⟩))
      go_ret
      exact ⟨by first | rfl | (simp; done) | (simp [*]; done), by repeat (first | exact Drawn0.refl _ | apply Drawn0.step)⟩
end Go.Proofs.YtkhgdglaophkbaaGreatDoor.PK
end
section
namespace Go.Proofs.YtkhgdglaophkbaaGreatDoor.PK
open Go.RowKit Go.Proofs.YtkhgdglaophkbaaGreatDoorW.PrintWords Go.Proofs.YtkhgdglaophkbaaGreatDoorW.PrintLast Go.Proofs.YtkhgdglaophkbaaGreatDoorW.PrintMore
attribute [local go_sem] max2_int min2_int max_two min_two max_three min_three max_four min_four   -- for this text's walks alone
set_option linter.unusedVariables false
set_option linter.unusedSimpArgs false
def fact_printable.f (a0 : Int) : Option (Bool) := if a0 ≥ 32 then (some (decide (a0 ≤ 126))) else (some false)
set_option maxHeartbeats 8000000 in
set_option maxRecDepth 100000 in
theorem fact_printable.calls (a0 : Int) (r : Bool) (w : World) (h : fact_printable.f a0 = some r) :
    Calls Tryz.prog 67 #[.int .u8 a0] w fun e w' => e = .returned (.bool r) ∧ Drawn0 w w' := by
  have H : (if a0 ≥ 32 then (some (decide (a0 ≤ 126))) else (some false)) = some r := h
  clear h
  by_cases c2 : a0 ≥ 32
  · rw [if_pos c2] at H
    have c2b0 : decide (32 ≤ a0) = true := decide_eq_true c2
    clear c2
    obtain rfl := Option.some.inj H
    go_enter Tryz.func67, Tryz.ntmps67
    go_wp2
    go_ret
    exact ⟨by first | rfl | (simp; done) | (simp [*]; done), by repeat (first | exact Drawn0.refl _ | apply Drawn0.step)⟩
  · rw [if_neg c2] at H
    have c2b0 : decide (32 ≤ a0) = false := decide_eq_false c2
    clear c2
    obtain rfl := Option.some.inj H
    go_enter Tryz.func67, Tryz.ntmps67
    go_wp2
    go_ret
    exact ⟨by first | rfl | (simp; done) | (simp [*]; done), by repeat (first | exact Drawn0.refl _ | apply Drawn0.step)⟩
end Go.Proofs.YtkhgdglaophkbaaGreatDoor.PK
end
section
namespace Go.Proofs.YtkhgdglaophkbaaGreatDoor.PK
open Go.RowKit Go.Proofs.YtkhgdglaophkbaaGreatDoorW.PrintWords Go.Proofs.YtkhgdglaophkbaaGreatDoorW.PrintLast Go.Proofs.YtkhgdglaophkbaaGreatDoorW.PrintMore
attribute [local go_sem] max2_int min2_int max_two min_two max_three min_three max_four min_four   -- for this text's walks alone
set_option linter.unusedVariables false
set_option linter.unusedSimpArgs false
def fact_isSource_1.f (a0 : Int) : Option (Bool) := if a0 = 10 then (some true) else ((fact_printable.f a0).bind fun t140 => (some t140))
set_option maxHeartbeats 8000000 in
set_option maxRecDepth 100000 in
theorem fact_isSource_1.calls (a0 : Int) (r : Bool) (w : World) (h : fact_isSource_1.f a0 = some r) :
    Calls Tryz.prog 70 #[.int .u8 a0] w fun e w' => e = .returned (.bool r) ∧ Drawn0 w w' := by
  have H : (if a0 = 10 then (some true) else ((fact_printable.f a0).bind fun t140 => (some t140))) = some r := h
  clear h
  by_cases c2 : a0 = 10
  · rw [if_pos c2] at H
    have c2b0 : (a0 == 10) = true := beq_iff_eq.mpr c2
    have c2b1 : (a0 != 10) = false := bne_eq_false_iff_eq.mpr c2
    clear c2
    obtain rfl := Option.some.inj H
    go_enter Tryz.func70, Tryz.ntmps70
    go_wp2
    go_ret
    exact ⟨by first | rfl | (simp; done) | (simp [*]; done), by repeat (first | exact Drawn0.refl _ | apply Drawn0.step)⟩
  · rw [if_neg c2] at H
    have c2b0 : (a0 == 10) = false := beq_eq_false_iff_ne.mpr c2
    have c2b1 : (a0 != 10) = true := bne_iff_ne.mpr c2
    replace H := Option.bind_eq_some_iff.mp H
    obtain ⟨t140, A30, H⟩ := H
    replace H : (some t140) = some r := H
    have A3 := Aside0.mk A30
    clear A30
    obtain rfl := Option.some.inj H
    go_enter Tryz.func70, Tryz.ntmps70
    go_wp2_with (first | (go_at_call 67; (with_reducible refine (fact_printable.calls a0 t140 _ A3.out).mono ?_); rintro e w' ⟨rfl, ⟨nd, rfl⟩⟩))
    go_ret
    exact ⟨by first | rfl | (simp; done) | (simp [*]; done), by repeat (first | exact Drawn0.refl _ | apply Drawn0.step)⟩
end Go.Proofs.YtkhgdglaophkbaaGreatDoor.PK
end
section
namespace Go.Proofs.YtkhgdglaophkbaaGreatDoor.PK
open Go.RowKit Go.Proofs.YtkhgdglaophkbaaGreatDoorW.PrintWords Go.Proofs.YtkhgdglaophkbaaGreatDoorW.PrintLast Go.Proofs.YtkhgdglaophkbaaGreatDoorW.PrintMore
attribute [local go_sem] max2_int min2_int max_two min_two max_three min_three max_four min_four   -- for this text's walks alone
set_option linter.unusedVariables false
set_option linter.unusedSimpArgs false
def fact_all_at_fact_isName_1.l0 : Nat → ByteArray → Int → Int → Option (Bool)
  | 0, _, _, _ => none
  | k + 1, x0, x7, x8 => if x8 < x7 then (if 0 ≤ x8 then (if x8 < (x0.size : Int) then ((fact_isName_1.f (bt x0 x8)).bind fun t141 => (if t141 = true then (fact_all_at_fact_isName_1.l0 k x0 x7 (wrap64 (x8 + 1))) else (some false))) else (none)) else (none)) else (some true)
def fact_all_at_fact_isName_1.f (k : Nat) (a0 : ByteArray)  : Option (Bool) := fact_all_at_fact_isName_1.l0 k a0 (a0.size : Int) 0
theorem fact_all_at_fact_isName_1.mono_l : ∀ k, (∀ y0 y1 y2, LeO (fact_all_at_fact_isName_1.l0 k y0 y1 y2) (fact_all_at_fact_isName_1.l0 (k + 1) y0 y1 y2))
  | 0 => fun _ _ _ r h => by simp [fact_all_at_fact_isName_1.l0] at h
  | k + 1 => by
    have ih0 := fact_all_at_fact_isName_1.mono_l k
    · intro y0 y1 y2
      unfold fact_all_at_fact_isName_1.l0
      repeat' first
      | (with_reducible exact ih0 _ _ _)
      | (with_reducible exact LeO.refl _)
      | (with_reducible exact LeO.none _)
      | (with_reducible refine LeO.ite ?_ ?_)
      | (with_reducible refine LeO.bind ?_ (fun _ => ?_))
      | exact ih0 _ _ _
      | exact LeO.none _
      | refine LeO.ite ?_ ?_
      | refine LeO.bind ?_ (fun _ => ?_)
theorem fact_all_at_fact_isName_1.mono : ∀ a0 k, LeO (fact_all_at_fact_isName_1.f k a0) (fact_all_at_fact_isName_1.f (k + 1) a0) := by
  intro a0 k
  have ih0 := fact_all_at_fact_isName_1.mono_l k
  unfold fact_all_at_fact_isName_1.f
  repeat' first
      | (with_reducible exact ih0 _ _ _)
      | (with_reducible exact LeO.refl _)
      | (with_reducible exact LeO.none _)
      | (with_reducible refine LeO.ite ?_ ?_)
      | (with_reducible refine LeO.bind ?_ (fun _ => ?_))
      | exact ih0 _ _ _
      | exact LeO.none _
      | refine LeO.ite ?_ ?_
      | refine LeO.bind ?_ (fun _ => ?_)
set_option maxHeartbeats 8000000 in
set_option maxRecDepth 100000 in
theorem fact_all_at_fact_isName_1.calls (k : Nat) (a0 : ByteArray)  (r : Bool) (w : World) (h : fact_all_at_fact_isName_1.f k a0 = some r) :
    Calls Tryz.prog 64 #[.string a0, .func (.func 65) #[] #[]] w fun e w' => e = .returned (.bool r) ∧ Drawn0 w w' := by
  have H : (fact_all_at_fact_isName_1.l0 k a0 (a0.size : Int) 0) = some r := h
  clear h
  have H' := Aside0.mk H
  clear H
  go_enter Tryz.func64, Tryz.ntmps64
  go_wp2
  go_loopg [8] k (fun kq v8 w' => ∃ (x8_1 : Int), v8 = .int .i64 x8_1 ∧ Aside0 (fact_all_at_fact_isName_1.l0 kq a0 (a0.size : Int) x8_1 = some r) ∧ Aside0 (kq ≤ k) ∧ Drawn0 w w')
  case atStart => exact ⟨(0), (by first | rfl | (simp; done) | (simp [*]; done)), H', ⟨Nat.le_refl _⟩, by repeat (first | exact Drawn0.refl _ | apply Drawn0.step)⟩
  case round =>
    clear H'
    try clear p2
    obtain ⟨x8_1, rfl, HA, HK1, ⟨m1, rfl⟩⟩ := hrel
    cases gk with
    | zero => exact absurd HA.out (by simp [fact_all_at_fact_isName_1.l0])
    | succ k1 =>
      have H := HA.out
      clear HA
      simp only [fact_all_at_fact_isName_1.l0] at H
      by_cases c3 : x8_1 < (a0.size : Int)
      · rw [if_pos c3] at H
        have c3b0 : decide (x8_1 < (a0.size : Int)) = true := decide_eq_true c3
        clear c3
        by_cases c4 : 0 ≤ x8_1
        · rw [if_pos c4] at H
          have c4b0 : decide (0 ≤ x8_1) = true := decide_eq_true c4
          clear c4
          by_cases c5 : x8_1 < (a0.size : Int)
          · rw [if_pos c5] at H
            have c5b0 : decide (x8_1 < (a0.size : Int)) = true := decide_eq_true c5
            clear c5
            replace H := Option.bind_eq_some_iff.mp H
            obtain ⟨t141, A70, H⟩ := H
            replace H : (if t141 = true then (fact_all_at_fact_isName_1.l0 k1 a0 (a0.size : Int) (wrap64 (x8_1 + 1))) else (some false)) = some r := H
            have A7 := Aside0.mk A70
            clear A70
            by_cases c8 : t141 = true
            · subst c8
              have H1 : (fact_all_at_fact_isName_1.l0 k1 a0 (a0.size : Int) (wrap64 (x8_1 + 1))) = some r := by rw [if_pos rfl] at H; exact H
              clear H
              have H := H1
              clear H1
              have H' := Aside0.mk H
              clear H
              have p6 : 0 ≤ (x8_1 : Int) := of_decide_eq_true (by first | (with_reducible assumption) | assumption)
              have q6 : x8_1 < (a0.size : Int) := of_decide_eq_true (by first | (with_reducible assumption) | assumption)
              have hx6 := bt_at a0 x8_1
              replace p6 := eq_true p6
              replace q6 := eq_true q6
              go_wp2_with fail
              (with_reducible refine (fact_isName_1.calls (bt a0 x8_1) true _ A7.out).mono ?_); rintro e w' ⟨rfl, ⟨nd, rfl⟩⟩
              go_wp2
              go_roundg k1
              case measure => have := HK1.out; omega
              case rel => exact ⟨(wrap64 (x8_1 + 1)), (by first | rfl | (simp; done) | (simp [*]; done)), H', ⟨by have := HK1.out; omega⟩, by repeat (first | exact Drawn0.refl _ | apply Drawn0.step)⟩
            · replace c8 := Bool.eq_false_iff.mpr c8
              subst c8
              have H1 : (some false) = some r := by rw [if_neg (show ¬ (false = true) by decide)] at H; exact H
              clear H
              have H := H1
              clear H1
              obtain rfl := Option.some.inj H
              have p6 : 0 ≤ (x8_1 : Int) := of_decide_eq_true (by first | (with_reducible assumption) | assumption)
              have q6 : x8_1 < (a0.size : Int) := of_decide_eq_true (by first | (with_reducible assumption) | assumption)
              have hx6 := bt_at a0 x8_1
              replace p6 := eq_true p6
              replace q6 := eq_true q6
              go_wp2_with fail
              (with_reducible refine (fact_isName_1.calls (bt a0 x8_1) false _ A7.out).mono ?_); rintro e w' ⟨rfl, ⟨nd, rfl⟩⟩
              go_wp2
              go_ret
              exact ⟨by first | rfl | (simp; done) | (simp [*]; done), by repeat (first | exact Drawn0.refl _ | apply Drawn0.step)⟩
          · rw [if_neg c5] at H
            exact absurd H (by simp)
        · rw [if_neg c4] at H
          exact absurd H (by simp)
      · rw [if_neg c3] at H
        have c3b0 : decide (x8_1 < (a0.size : Int)) = false := decide_eq_false c3
        clear c3
        obtain rfl := Option.some.inj H
        go_wp2
        go_ret
        exact ⟨by first | rfl | (simp; done) | (simp [*]; done), by repeat (first | exact Drawn0.refl _ | apply Drawn0.step)⟩
end Go.Proofs.YtkhgdglaophkbaaGreatDoor.PK
end
section
namespace Go.Proofs.YtkhgdglaophkbaaGreatDoor.PK
open Go.RowKit Go.Proofs.YtkhgdglaophkbaaGreatDoorW.PrintWords Go.Proofs.YtkhgdglaophkbaaGreatDoorW.PrintLast Go.Proofs.YtkhgdglaophkbaaGreatDoorW.PrintMore
attribute [local go_sem] max2_int min2_int max_two min_two max_three min_three max_four min_four   -- for this text's walks alone
set_option linter.unusedVariables false
set_option linter.unusedSimpArgs false
def fact_all_at_fact_printable.l0 : Nat → ByteArray → Int → Int → Option (Bool)
  | 0, _, _, _ => none
  | k + 1, x0, x7, x8 => if x8 < x7 then (if 0 ≤ x8 then (if x8 < (x0.size : Int) then ((fact_printable.f (bt x0 x8)).bind fun t142 => (if t142 = true then (fact_all_at_fact_printable.l0 k x0 x7 (wrap64 (x8 + 1))) else (some false))) else (none)) else (none)) else (some true)
def fact_all_at_fact_printable.f (k : Nat) (a0 : ByteArray)  : Option (Bool) := fact_all_at_fact_printable.l0 k a0 (a0.size : Int) 0
theorem fact_all_at_fact_printable.mono_l : ∀ k, (∀ y0 y1 y2, LeO (fact_all_at_fact_printable.l0 k y0 y1 y2) (fact_all_at_fact_printable.l0 (k + 1) y0 y1 y2))
  | 0 => fun _ _ _ r h => by simp [fact_all_at_fact_printable.l0] at h
  | k + 1 => by
    have ih0 := fact_all_at_fact_printable.mono_l k
    · intro y0 y1 y2
      unfold fact_all_at_fact_printable.l0
      repeat' first
      | (with_reducible exact ih0 _ _ _)
      | (with_reducible exact LeO.refl _)
      | (with_reducible exact LeO.none _)
      | (with_reducible refine LeO.ite ?_ ?_)
      | (with_reducible refine LeO.bind ?_ (fun _ => ?_))
      | exact ih0 _ _ _
      | exact LeO.none _
      | refine LeO.ite ?_ ?_
      | refine LeO.bind ?_ (fun _ => ?_)
theorem fact_all_at_fact_printable.mono : ∀ a0 k, LeO (fact_all_at_fact_printable.f k a0) (fact_all_at_fact_printable.f (k + 1) a0) := by
  intro a0 k
  have ih0 := fact_all_at_fact_printable.mono_l k
  unfold fact_all_at_fact_printable.f
  repeat' first
      | (with_reducible exact ih0 _ _ _)
      | (with_reducible exact LeO.refl _)
      | (with_reducible exact LeO.none _)
      | (with_reducible refine LeO.ite ?_ ?_)
      | (with_reducible refine LeO.bind ?_ (fun _ => ?_))
      | exact ih0 _ _ _
      | exact LeO.none _
      | refine LeO.ite ?_ ?_
      | refine LeO.bind ?_ (fun _ => ?_)
set_option maxHeartbeats 8000000 in
set_option maxRecDepth 100000 in
theorem fact_all_at_fact_printable.calls (k : Nat) (a0 : ByteArray)  (r : Bool) (w : World) (h : fact_all_at_fact_printable.f k a0 = some r) :
    Calls Tryz.prog 64 #[.string a0, .func (.func 67) #[] #[]] w fun e w' => e = .returned (.bool r) ∧ Drawn0 w w' := by
  have H : (fact_all_at_fact_printable.l0 k a0 (a0.size : Int) 0) = some r := h
  clear h
  have H' := Aside0.mk H
  clear H
  go_enter Tryz.func64, Tryz.ntmps64
  go_wp2
  go_loopg [8] k (fun kq v8 w' => ∃ (x8_1 : Int), v8 = .int .i64 x8_1 ∧ Aside0 (fact_all_at_fact_printable.l0 kq a0 (a0.size : Int) x8_1 = some r) ∧ Aside0 (kq ≤ k) ∧ Drawn0 w w')
  case atStart => exact ⟨(0), (by first | rfl | (simp; done) | (simp [*]; done)), H', ⟨Nat.le_refl _⟩, by repeat (first | exact Drawn0.refl _ | apply Drawn0.step)⟩
  case round =>
    clear H'
    try clear p2
    obtain ⟨x8_1, rfl, HA, HK1, ⟨m1, rfl⟩⟩ := hrel
    cases gk with
    | zero => exact absurd HA.out (by simp [fact_all_at_fact_printable.l0])
    | succ k1 =>
      have H := HA.out
      clear HA
      simp only [fact_all_at_fact_printable.l0] at H
      by_cases c3 : x8_1 < (a0.size : Int)
      · rw [if_pos c3] at H
        have c3b0 : decide (x8_1 < (a0.size : Int)) = true := decide_eq_true c3
        clear c3
        by_cases c4 : 0 ≤ x8_1
        · rw [if_pos c4] at H
          have c4b0 : decide (0 ≤ x8_1) = true := decide_eq_true c4
          clear c4
          by_cases c5 : x8_1 < (a0.size : Int)
          · rw [if_pos c5] at H
            have c5b0 : decide (x8_1 < (a0.size : Int)) = true := decide_eq_true c5
            clear c5
            replace H := Option.bind_eq_some_iff.mp H
            obtain ⟨t142, A70, H⟩ := H
            replace H : (if t142 = true then (fact_all_at_fact_printable.l0 k1 a0 (a0.size : Int) (wrap64 (x8_1 + 1))) else (some false)) = some r := H
            have A7 := Aside0.mk A70
            clear A70
            by_cases c8 : t142 = true
            · subst c8
              have H1 : (fact_all_at_fact_printable.l0 k1 a0 (a0.size : Int) (wrap64 (x8_1 + 1))) = some r := by rw [if_pos rfl] at H; exact H
              clear H
              have H := H1
              clear H1
              have H' := Aside0.mk H
              clear H
              have p6 : 0 ≤ (x8_1 : Int) := of_decide_eq_true (by first | (with_reducible assumption) | assumption)
              have q6 : x8_1 < (a0.size : Int) := of_decide_eq_true (by first | (with_reducible assumption) | assumption)
              have hx6 := bt_at a0 x8_1
              replace p6 := eq_true p6
              replace q6 := eq_true q6
              go_wp2_with fail
              (with_reducible refine (fact_printable.calls (bt a0 x8_1) true _ A7.out).mono ?_); rintro e w' ⟨rfl, ⟨nd, rfl⟩⟩
              go_wp2
              go_roundg k1
              case measure => have := HK1.out; omega
              case rel => exact ⟨(wrap64 (x8_1 + 1)), (by first | rfl | (simp; done) | (simp [*]; done)), H', ⟨by have := HK1.out; omega⟩, by repeat (first | exact Drawn0.refl _ | apply Drawn0.step)⟩
            · replace c8 := Bool.eq_false_iff.mpr c8
              subst c8
              have H1 : (some false) = some r := by rw [if_neg (show ¬ (false = true) by decide)] at H; exact H
              clear H
              have H := H1
              clear H1
              obtain rfl := Option.some.inj H
              have p6 : 0 ≤ (x8_1 : Int) := of_decide_eq_true (by first | (with_reducible assumption) | assumption)
              have q6 : x8_1 < (a0.size : Int) := of_decide_eq_true (by first | (with_reducible assumption) | assumption)
              have hx6 := bt_at a0 x8_1
              replace p6 := eq_true p6
              replace q6 := eq_true q6
              go_wp2_with fail
              (with_reducible refine (fact_printable.calls (bt a0 x8_1) false _ A7.out).mono ?_); rintro e w' ⟨rfl, ⟨nd, rfl⟩⟩
              go_wp2
              go_ret
              exact ⟨by first | rfl | (simp; done) | (simp [*]; done), by repeat (first | exact Drawn0.refl _ | apply Drawn0.step)⟩
          · rw [if_neg c5] at H
            exact absurd H (by simp)
        · rw [if_neg c4] at H
          exact absurd H (by simp)
      · rw [if_neg c3] at H
        have c3b0 : decide (x8_1 < (a0.size : Int)) = false := decide_eq_false c3
        clear c3
        obtain rfl := Option.some.inj H
        go_wp2
        go_ret
        exact ⟨by first | rfl | (simp; done) | (simp [*]; done), by repeat (first | exact Drawn0.refl _ | apply Drawn0.step)⟩
end Go.Proofs.YtkhgdglaophkbaaGreatDoor.PK
end
section
namespace Go.Proofs.YtkhgdglaophkbaaGreatDoor.PK
open Go.RowKit Go.Proofs.YtkhgdglaophkbaaGreatDoorW.PrintWords Go.Proofs.YtkhgdglaophkbaaGreatDoorW.PrintLast Go.Proofs.YtkhgdglaophkbaaGreatDoorW.PrintMore
attribute [local go_sem] max2_int min2_int max_two min_two max_three min_three max_four min_four   -- for this text's walks alone
set_option linter.unusedVariables false
set_option linter.unusedSimpArgs false
def fact_all_at_fact_isSource_1.l0 : Nat → ByteArray → Int → Int → Option (Bool)
  | 0, _, _, _ => none
  | k + 1, x0, x7, x8 => if x8 < x7 then (if 0 ≤ x8 then (if x8 < (x0.size : Int) then ((fact_isSource_1.f (bt x0 x8)).bind fun t143 => (if t143 = true then (fact_all_at_fact_isSource_1.l0 k x0 x7 (wrap64 (x8 + 1))) else (some false))) else (none)) else (none)) else (some true)
def fact_all_at_fact_isSource_1.f (k : Nat) (a0 : ByteArray)  : Option (Bool) := fact_all_at_fact_isSource_1.l0 k a0 (a0.size : Int) 0
theorem fact_all_at_fact_isSource_1.mono_l : ∀ k, (∀ y0 y1 y2, LeO (fact_all_at_fact_isSource_1.l0 k y0 y1 y2) (fact_all_at_fact_isSource_1.l0 (k + 1) y0 y1 y2))
  | 0 => fun _ _ _ r h => by simp [fact_all_at_fact_isSource_1.l0] at h
  | k + 1 => by
    have ih0 := fact_all_at_fact_isSource_1.mono_l k
    · intro y0 y1 y2
      unfold fact_all_at_fact_isSource_1.l0
      repeat' first
      | (with_reducible exact ih0 _ _ _)
      | (with_reducible exact LeO.refl _)
      | (with_reducible exact LeO.none _)
      | (with_reducible refine LeO.ite ?_ ?_)
      | (with_reducible refine LeO.bind ?_ (fun _ => ?_))
      | exact ih0 _ _ _
      | exact LeO.none _
      | refine LeO.ite ?_ ?_
      | refine LeO.bind ?_ (fun _ => ?_)
theorem fact_all_at_fact_isSource_1.mono : ∀ a0 k, LeO (fact_all_at_fact_isSource_1.f k a0) (fact_all_at_fact_isSource_1.f (k + 1) a0) := by
  intro a0 k
  have ih0 := fact_all_at_fact_isSource_1.mono_l k
  unfold fact_all_at_fact_isSource_1.f
  repeat' first
      | (with_reducible exact ih0 _ _ _)
      | (with_reducible exact LeO.refl _)
      | (with_reducible exact LeO.none _)
      | (with_reducible refine LeO.ite ?_ ?_)
      | (with_reducible refine LeO.bind ?_ (fun _ => ?_))
      | exact ih0 _ _ _
      | exact LeO.none _
      | refine LeO.ite ?_ ?_
      | refine LeO.bind ?_ (fun _ => ?_)
set_option maxHeartbeats 8000000 in
set_option maxRecDepth 100000 in
theorem fact_all_at_fact_isSource_1.calls (k : Nat) (a0 : ByteArray)  (r : Bool) (w : World) (h : fact_all_at_fact_isSource_1.f k a0 = some r) :
    Calls Tryz.prog 64 #[.string a0, .func (.func 70) #[] #[]] w fun e w' => e = .returned (.bool r) ∧ Drawn0 w w' := by
  have H : (fact_all_at_fact_isSource_1.l0 k a0 (a0.size : Int) 0) = some r := h
  clear h
  have H' := Aside0.mk H
  clear H
  go_enter Tryz.func64, Tryz.ntmps64
  go_wp2
  go_loopg [8] k (fun kq v8 w' => ∃ (x8_1 : Int), v8 = .int .i64 x8_1 ∧ Aside0 (fact_all_at_fact_isSource_1.l0 kq a0 (a0.size : Int) x8_1 = some r) ∧ Aside0 (kq ≤ k) ∧ Drawn0 w w')
  case atStart => exact ⟨(0), (by first | rfl | (simp; done) | (simp [*]; done)), H', ⟨Nat.le_refl _⟩, by repeat (first | exact Drawn0.refl _ | apply Drawn0.step)⟩
  case round =>
    clear H'
    try clear p2
    obtain ⟨x8_1, rfl, HA, HK1, ⟨m1, rfl⟩⟩ := hrel
    cases gk with
    | zero => exact absurd HA.out (by simp [fact_all_at_fact_isSource_1.l0])
    | succ k1 =>
      have H := HA.out
      clear HA
      simp only [fact_all_at_fact_isSource_1.l0] at H
      by_cases c3 : x8_1 < (a0.size : Int)
      · rw [if_pos c3] at H
        have c3b0 : decide (x8_1 < (a0.size : Int)) = true := decide_eq_true c3
        clear c3
        by_cases c4 : 0 ≤ x8_1
        · rw [if_pos c4] at H
          have c4b0 : decide (0 ≤ x8_1) = true := decide_eq_true c4
          clear c4
          by_cases c5 : x8_1 < (a0.size : Int)
          · rw [if_pos c5] at H
            have c5b0 : decide (x8_1 < (a0.size : Int)) = true := decide_eq_true c5
            clear c5
            replace H := Option.bind_eq_some_iff.mp H
            obtain ⟨t143, A70, H⟩ := H
            replace H : (if t143 = true then (fact_all_at_fact_isSource_1.l0 k1 a0 (a0.size : Int) (wrap64 (x8_1 + 1))) else (some false)) = some r := H
            have A7 := Aside0.mk A70
            clear A70
            by_cases c8 : t143 = true
            · subst c8
              have H1 : (fact_all_at_fact_isSource_1.l0 k1 a0 (a0.size : Int) (wrap64 (x8_1 + 1))) = some r := by rw [if_pos rfl] at H; exact H
              clear H
              have H := H1
              clear H1
              have H' := Aside0.mk H
              clear H
              have p6 : 0 ≤ (x8_1 : Int) := of_decide_eq_true (by first | (with_reducible assumption) | assumption)
              have q6 : x8_1 < (a0.size : Int) := of_decide_eq_true (by first | (with_reducible assumption) | assumption)
              have hx6 := bt_at a0 x8_1
              replace p6 := eq_true p6
              replace q6 := eq_true q6
              go_wp2_with fail
              (with_reducible refine (fact_isSource_1.calls (bt a0 x8_1) true _ A7.out).mono ?_); rintro e w' ⟨rfl, ⟨nd, rfl⟩⟩
              go_wp2
              go_roundg k1
              case measure => have := HK1.out; omega
              case rel => exact ⟨(wrap64 (x8_1 + 1)), (by first | rfl | (simp; done) | (simp [*]; done)), H', ⟨by have := HK1.out; omega⟩, by repeat (first | exact Drawn0.refl _ | apply Drawn0.step)⟩
            · replace c8 := Bool.eq_false_iff.mpr c8
              subst c8
              have H1 : (some false) = some r := by rw [if_neg (show ¬ (false = true) by decide)] at H; exact H
              clear H
              have H := H1
              clear H1
              obtain rfl := Option.some.inj H
              have p6 : 0 ≤ (x8_1 : Int) := of_decide_eq_true (by first | (with_reducible assumption) | assumption)
              have q6 : x8_1 < (a0.size : Int) := of_decide_eq_true (by first | (with_reducible assumption) | assumption)
              have hx6 := bt_at a0 x8_1
              replace p6 := eq_true p6
              replace q6 := eq_true q6
              go_wp2_with fail
              (with_reducible refine (fact_isSource_1.calls (bt a0 x8_1) false _ A7.out).mono ?_); rintro e w' ⟨rfl, ⟨nd, rfl⟩⟩
              go_wp2
              go_ret
              exact ⟨by first | rfl | (simp; done) | (simp [*]; done), by repeat (first | exact Drawn0.refl _ | apply Drawn0.step)⟩
          · rw [if_neg c5] at H
            exact absurd H (by simp)
        · rw [if_neg c4] at H
          exact absurd H (by simp)
      · rw [if_neg c3] at H
        have c3b0 : decide (x8_1 < (a0.size : Int)) = false := decide_eq_false c3
        clear c3
        obtain rfl := Option.some.inj H
        go_wp2
        go_ret
        exact ⟨by first | rfl | (simp; done) | (simp [*]; done), by repeat (first | exact Drawn0.refl _ | apply Drawn0.step)⟩
end Go.Proofs.YtkhgdglaophkbaaGreatDoor.PK
end
