/- Texts of this claim, one behind the other. -/
import Derived.Test.YtkhgdglaophkbaaGreatDoorMUx2
import Derived.Test.YtkhgdglaophkbaaGreatDoorMUx3
import Derived.WalkKit
import Derived.Deep.QuietTactic
import Derived.BigQuiet
import Derived.Deep.Cut
import Derived.StillTailTactics
import Derived.Deep.RegionHeld3
import Derived.Laws.Rows
section
set_option linter.unusedVariables false
set_option linter.unusedSimpArgs false
namespace Go.Proofs.YtkhgdglaophkbaaGreatDoor.PK
open Go.RowKit Go.Proofs.YtkhgdglaophkbaaGreatDoorW.PrintWords Go.Proofs.YtkhgdglaophkbaaGreatDoorW.PrintLast Go.Proofs.YtkhgdglaophkbaaGreatDoorW.PrintMore
abbrev bk_rest (s : ByteArray) (i : Nat) : List UInt8 := s.data.toList.drop i
def bk_Reads {α : Type} (fn : Nat) (enc : α → Value) (one : Rd α) : Prop := ∀ (s : ByteArray) (i : Nat), i ≤ s.size → s.size ≤ 1000000000 →
  (∃ (x : α) (j : Nat), j ≤ s.size ∧ one (bk_rest s i) = .ok (x, bk_rest s j) ∧ ∀ W, Calls Tryz.prog fn #[.string s, .int .i64 (i : Int)] W fun e w' => e = .returned (.tuple #[enc x, .int .i64 (j : Int), .int .i64 0]) ∧ ∃ m, w' = W.drewN m) ∨
  (one (bk_rest s i) = .error 10 ∧ ∃ (x : α) (j er : Int), er ≠ 0 ∧ ∀ W, Calls Tryz.prog fn #[.string s, .int .i64 (i : Int)] W fun e w' => e = .returned (.tuple #[enc x, .int .i64 j, .int .i64 er]) ∧ ∃ m, w' = W.drewN m)
def bk_Post {α : Type} (one : Rd α) (s : ByteArray) (i : Nat) (e : Int) (x : α) (j : Nat) (e' : Int) : Prop :=
  j ≤ s.size ∧ (e ≠ 0 → e' = e) ∧ (e = 0 → match one (bk_rest s i) with | .error er => e' = er ∧ er ≠ 0 | .ok (y, l) => x = y ∧ e' = 0 ∧ l = bk_rest s j)
theorem bk_Post.pure {α : Type} (y : α) (s : ByteArray) (i : Nat) (e : Int) (hi : i ≤ s.size) : bk_Post (fun l => .ok (y, l)) s i e y i e := ⟨hi, fun _ => rfl, fun h => ⟨rfl, h, rfl⟩⟩
theorem bk_Post.bind {α β : Type} {one : Rd α} {next : α → Rd β} {s : ByteArray} {i j k : Nat} {e e1 e2 : Int} {x : α} {y : β} (h1 : bk_Post one s i e x j e1) (h2 : bk_Post (next x) s j e1 y k e2) :
    bk_Post (rdBind one next) s i e y k e2 := by
  obtain ⟨a1, a2, a3⟩ := h1
  obtain ⟨b1, b2, b3⟩ := h2
  refine ⟨b1, fun h => ?_, fun h => ?_⟩
  · have he1 := a2 h
    exact (b2 (by rw [he1]; exact h)).trans he1
  · have h3 := a3 h
    cases h4 : one (bk_rest s i) with
    | error er =>
      rw [h4] at h3
      obtain ⟨c1, c2⟩ := h3
      rw [cd_bind_err h4]
      exact ⟨(b2 (by rw [c1]; exact c2)).trans c1, c2⟩
    | ok p =>
      obtain ⟨y', l⟩ := p
      rw [h4] at h3
      obtain ⟨rfl, c1, c2⟩ := h3
      rw [cd_bind_ok h4, c2]
      exact b3 c1
theorem bk_Post.le {α : Type} {one : Rd α} {s : ByteArray} {i j : Nat} {e e1 : Int} {x : α} (h : bk_Post one s i e x j e1) : j ≤ s.size := h.1
def bk_rdr (s : ByteArray) (i : Nat) (e : Int) : Obj := .cells #[.string s, .int .i64 (i : Int), .int .i64 e] 121 (0, 0)
theorem bk_grown_drewN (w : World) (n : Nat) (row : Option Nat) : w.grownBy (w.drewN n) row := ⟨rfl, rfl, rfl, Nat.le_refl _, fun _ _ _ => rfl⟩
theorem bk_grown_set {w w1 : World} {r : Nat} (h : w.grownBy w1 (some r)) (j : Nat) (v : Value) : w.grownBy (w1.setCell ⟨r, j, none⟩ v) (some r) :=
  ⟨h.os, h.tape, h.output, by simpa [World.setCell] using h.size, fun i hi hne => (Below.heap_setCell w1 ⟨r, j, none⟩ v i (fun he => hne (by rw [he]))).trans (h.block i hi hne)⟩
theorem bk_grown_trans {w w1 w2 : World} {row : Option Nat} (h : w.grownBy w1 row) (h2 : w1.grownBy w2 row) : w.grownBy w2 row :=
  ⟨h2.os.trans h.os, h2.tape.trans h.tape, h2.output.trans h.output, Nat.le_trans h.size h2.size, fun i hi hne => (h2.block i (Nat.lt_of_lt_of_le hi h.size) hne).trans (h.block i hi hne)⟩
set_option maxHeartbeats 2000000 in
set_option maxRecDepth 100000 in
theorem bk_next_int (hI : bk_Reads 52 (Value.int .i64) rdI) (s : ByteArray) (i : Nat) (e : Int) (r : Nat) (w : World) (hi : i ≤ s.size) (hs : s.size ≤ 1000000000) (hr : w.heap[r]? = some (bk_rdr s i e)) :
    Calls Tryz.prog 77 #[.pointer (some ⟨r, 0, none⟩), .func (.func 52) #[] #[]] w fun en w' => ∃ (x : Int) (j : Nat) (e' : Int), en = .returned (.int .i64 x) ∧
      w'.heap[r]? = some (bk_rdr s j e') ∧ bk_Post rdI s i e x j e' ∧ w.grownBy w' (some r) := by
  unfold bk_rdr at hr
  have c0 : w.cell? ⟨r, 0, none⟩ = some (.string s) := bk_cell hr 0
  have c1 : w.cell? ⟨r, 1, none⟩ = some (.int .i64 (i : Int)) := bk_cell hr 1
  have c2 : w.cell? ⟨r, 2, none⟩ = some (.int .i64 e) := bk_cell hr 2
  have f1 := bk_frozen hr 1
  have f2 := bk_frozen hr 2
  have HR := Aside0.mk hr
  by_cases he : e = 0
  · subst he
    rcases hI s i hi hs with ⟨x, j, hj, hone, hc⟩ | ⟨hone, x, j, er, her, hc⟩
    · clear hI hr
      go_enter Tryz.func77, Tryz.ntmps77
      go_wp2
      go_quiet (first | (go_at_call 52; refine Calls.quiet_of (hc _)))
      go_wp2
      go_ret
      refine ⟨x, j, 0, rfl, ?_, ⟨hj, fun h => absurd rfl h, fun _ => by rw [hone]; exact ⟨rfl, rfl, rfl⟩⟩, ?_⟩
      · exact (by simpa [bk_rdr] using blk_set (w := w.drewN nq) HR.out 1 (.int .i64 (j : Int)))
      · exact bk_grown_set (bk_grown_drewN _ _ _) _ _
    · clear hI hr
      have hne : (er == 0) = false := by simpa using her
      go_enter Tryz.func77, Tryz.ntmps77
      go_wp2
      go_quiet (first | (go_at_call 52; refine Calls.quiet_of (hc _)))
      go_wp2
      go_ret
      refine ⟨0, i, 10, rfl, ?_, ⟨hi, fun h => absurd rfl h, fun _ => by rw [hone]; exact ⟨rfl, by decide⟩⟩, ?_⟩
      · exact (by simpa [bk_rdr] using blk_set (w := w.drewN nq) HR.out 2 (.int .i64 10))
      · exact bk_grown_set (bk_grown_drewN _ _ _) _ _
  · have hne : (e == 0) = false := by simpa using he
    go_enter Tryz.func77, Tryz.ntmps77
    go_wp2
    go_ret
    exact ⟨0, i, e, rfl, HR.out, ⟨hi, fun _ => rfl, fun h => absurd h he⟩, bk_grown_drewN _ 0 _⟩
def rdB_ : Rd ByteArray := fun l => match rdS l with | .error e => .error e | .ok (x, r) => .ok (⟨x.toArray⟩, r)
set_option maxHeartbeats 2000000 in
set_option maxRecDepth 100000 in
theorem bk_next_str (hI : bk_Reads 54 Value.string rdB_) (s : ByteArray) (i : Nat) (e : Int) (r : Nat) (w : World) (hi : i ≤ s.size) (hs : s.size ≤ 1000000000) (hr : w.heap[r]? = some (bk_rdr s i e)) :
    Calls Tryz.prog 79 #[.pointer (some ⟨r, 0, none⟩), .func (.func 54) #[] #[]] w fun en w' => ∃ (x : ByteArray) (j : Nat) (e' : Int), en = .returned (.string x) ∧
      w'.heap[r]? = some (bk_rdr s j e') ∧ bk_Post rdB_ s i e x j e' ∧ w.grownBy w' (some r) := by
  unfold bk_rdr at hr
  have c0 : w.cell? ⟨r, 0, none⟩ = some (.string s) := bk_cell hr 0
  have c1 : w.cell? ⟨r, 1, none⟩ = some (.int .i64 (i : Int)) := bk_cell hr 1
  have c2 : w.cell? ⟨r, 2, none⟩ = some (.int .i64 e) := bk_cell hr 2
  have f1 := bk_frozen hr 1
  have f2 := bk_frozen hr 2
  have HR := Aside0.mk hr
  by_cases he : e = 0
  · subst he
    rcases hI s i hi hs with ⟨x, j, hj, hone, hc⟩ | ⟨hone, x, j, er, her, hc⟩
    · clear hI hr
      go_enter Tryz.func79, Tryz.ntmps79
      go_wp2
      go_quiet (first | (go_at_call 54; refine Calls.quiet_of (hc _)))
      go_wp2
      go_ret
      refine ⟨x, j, 0, rfl, ?_, ⟨hj, fun h => absurd rfl h, fun _ => by rw [hone]; exact ⟨rfl, rfl, rfl⟩⟩, ?_⟩
      · exact (by simpa [bk_rdr] using blk_set (w := w.drewN nq) HR.out 1 (.int .i64 (j : Int)))
      · exact bk_grown_set (bk_grown_drewN _ _ _) _ _
    · clear hI hr
      have hne : (er == 0) = false := by simpa using her
      go_enter Tryz.func79, Tryz.ntmps79
      go_wp2
      go_quiet (first | (go_at_call 54; refine Calls.quiet_of (hc _)))
      go_wp2
      go_ret
      refine ⟨⟨#[]⟩, i, 10, rfl, ?_, ⟨hi, fun h => absurd rfl h, fun _ => by rw [hone]; exact ⟨rfl, by decide⟩⟩, ?_⟩
      · exact (by simpa [bk_rdr] using blk_set (w := w.drewN nq) HR.out 2 (.int .i64 10))
      · exact bk_grown_set (bk_grown_drewN _ _ _) _ _
  · have hne : (e == 0) = false := by simpa using he
    go_enter Tryz.func79, Tryz.ntmps79
    go_wp2
    go_ret
    exact ⟨⟨#[]⟩, i, e, rfl, HR.out, ⟨hi, fun _ => rfl, fun h => absurd h he⟩, bk_grown_drewN _ 0 _⟩
structure bk_Fr (r g : Nat) (w w' : World) : Prop where mk ::
  os : w'.os = w.os
  tape : w'.tape = w.tape
  output : w'.output = w.output
  size : w.heap.size ≤ w'.heap.size
  block : ∀ i, i < w.heap.size → i ≠ r → i ≠ g → w'.heap[i]? = w.heap[i]?
theorem bk_Fr.refl (r g : Nat) (w : World) : bk_Fr r g w w := ⟨rfl, rfl, rfl, Nat.le_refl _, fun _ _ _ _ => rfl⟩
theorem bk_Fr.trans {r g : Nat} {w w1 w2 : World} (h : bk_Fr r g w w1) (h2 : bk_Fr r g w1 w2) : bk_Fr r g w w2 :=
  ⟨h2.os.trans h.os, h2.tape.trans h.tape, h2.output.trans h.output, Nat.le_trans h.size h2.size, fun i hi hr hg => (h2.block i (Nat.lt_of_lt_of_le hi h.size) hr hg).trans (h.block i hi hr hg)⟩
theorem bk_Fr.of_grown {r : Nat} {w w' : World} (h : w.grownBy w' (some r)) (g : Nat) : bk_Fr r g w w' := ⟨h.os, h.tape, h.output, h.size, fun i hi hr _ => h.block i hi (fun e => hr (Option.some.inj e))⟩
theorem bk_Fr.of_below {w w' : World} (h : Below w.heap.size w w') (r g : Nat) : bk_Fr r g w w' := ⟨h.os, h.tape, h.output, h.size, fun i hi _ _ => h.block i hi⟩
theorem bk_Fr.set {r g : Nat} {w w1 : World} (h : bk_Fr r g w w1) (j : Nat) (v : Value) : bk_Fr r g w (w1.setCell ⟨g, j, none⟩ v) :=
  ⟨h.os, h.tape, h.output, by simpa [World.setCell] using h.size, fun i hi hr hg => (Below.heap_setCell w1 ⟨g, j, none⟩ v i hg).trans (h.block i hi hr hg)⟩
theorem bk_Fr.at {r g : Nat} {w w' : World} (h : bk_Fr r g w w') {k : Nat} {o : Obj} (hk : w.heap[k]? = some o) (hr : k ≠ r) (hg : k ≠ g) : w'.heap[k]? = some o := (h.block k (Array.getElem?_eq_some_iff.1 hk).1 hr hg).trans hk
inductive bk_Chain (s : ByteArray) (i : Nat) (e : Int) : List Int → Nat → Int → Prop where
  | none (h : i ≤ s.size) : bk_Chain s i e [] i e
  | snoc {xs : List Int} {x : Int} {j k : Nat} {e1 e2 : Int} (h : bk_Chain s i e xs j e1) (hp : bk_Post rdI s j e1 x k e2) : bk_Chain s i e (xs ++ [x]) k e2
theorem bk_Chain.le {s : ByteArray} {i j : Nat} {e e1 : Int} {xs : List Int} (h : bk_Chain s i e xs j e1) : j ≤ s.size := by
  cases h with
  | none h => exact h
  | snoc h hp => exact hp.1
theorem bk_Chain.zero {s : ByteArray} {i j : Nat} {e e1 : Int} {xs : List Int} (h : bk_Chain s i e xs j e1) (hl : xs.length = 0) : xs = [] ∧ j = i ∧ e1 = e := by
  cases h with
  | none h => exact ⟨rfl, rfl, rfl⟩
  | snoc h hp => simp at hl
theorem bk_Chain.succ {s : ByteArray} {i j : Nat} {e e2 : Int} {ys : List Int} {n : Nat} (h : bk_Chain s i e ys j e2) (hl : ys.length = n + 1) : ∃ xs x k e1, ys = xs ++ [x] ∧ xs.length = n ∧ bk_Chain s i e xs k e1 ∧ bk_Post rdI s k e1 x j e2 := by
  cases h with
  | none h => simp at hl
  | snoc h hp => exact ⟨_, _, _, _, rfl, by simpa using hl, h, hp⟩
theorem bk_Chain.two {s : ByteArray} {i j : Nat} {e e2 : Int} {ys : List Int} (h : bk_Chain s i e ys j e2) (hl : ys.length = 2) : ∃ a b k e1, ys = [a, b] ∧ bk_Post rdI s i e a k e1 ∧ bk_Post rdI s k e1 b j e2 := by
  obtain ⟨xs, b, k, e1, rfl, hl1, h1, p1⟩ := h.succ hl
  obtain ⟨zs, a, k0, e0, rfl, hl0, h0, p0⟩ := h1.succ hl1
  obtain ⟨rfl, rfl, rfl⟩ := h0.zero hl0
  exact ⟨a, b, k, e1, rfl, p0, p1⟩
theorem bk_Chain.three {s : ByteArray} {i j : Nat} {e e3 : Int} {ys : List Int} (h : bk_Chain s i e ys j e3) (hl : ys.length = 3) : ∃ a b c k e1 l e2, ys = [a, b, c] ∧ bk_Post rdI s i e a k e1 ∧ bk_Post rdI s k e1 b l e2 ∧ bk_Post rdI s l e2 c j e3 := by
  obtain ⟨xs, c, l, e2, rfl, hl1, h1, p2⟩ := h.succ hl
  obtain ⟨a, b, k, e1, rfl, p0, p1⟩ := h1.two hl1
  exact ⟨a, b, c, k, e1, l, e2, rfl, p0, p1, p2⟩
def bk_sets (cs : Array Value) : List Nat → List Int → Array Value
  | j :: js, x :: xs => bk_sets (cs.setIfInBounds j (.int .i64 x)) js xs
  | _, _ => cs
theorem bk_sets_snoc : ∀ (js : List Nat) (xs : List Int) (cs : Array Value) (j : Nat) (x : Int), js[xs.length]? = some j → bk_sets cs js (xs ++ [x]) = (bk_sets cs js xs).setIfInBounds j (.int .i64 x)
  | [], xs, cs, j, x, h => by simp at h
  | j' :: js, [], cs, j, x, h => by
    have : j' = j := by simpa using h
    subst this
    cases js <;> rfl
  | j' :: js, y :: xs, cs, j, x, h => by
    rw [List.cons_append, bk_sets, bk_sets, bk_sets_snoc js xs _ j x (by simpa using h)]
theorem bk_sets_size : ∀ (js : List Nat) (xs : List Int) (cs : Array Value), (bk_sets cs js xs).size = cs.size
  | [], _, _ => rfl
  | _ :: _, [], _ => rfl
  | j :: js, x :: xs, cs => by rw [bk_sets, bk_sets_size js xs]; simp
set_option maxHeartbeats 2000000 in
set_option maxRecDepth 100000 in
theorem bk_rints (hI : bk_Reads 52 (Value.int .i64) rdI) (s : ByteArray) (i : Nat) (e : Int) (r g q n : Nat) (js : List Nat) (cs : Array Value) (w : World) (hi : i ≤ s.size) (hs : s.size ≤ 1000000000) (hr : w.heap[r]? = some (bk_rdr s i e))
    (hg : w.heap[g]? = some (.cells cs 49 (0, 0))) (hq : w.heap[q]? = some (.cells (js.map (fun j => Value.pointer (some ⟨g, j, none⟩))).toArray 51 (0, 0))) (hjs : ∀ j ∈ js, j < cs.size) (hn : js.length = n) (hn2 : n ≤ 1000) :
    Calls Tryz.prog 78 #[.pointer (some ⟨r, 0, none⟩), .slice (some ⟨q, 0, none⟩) n n] w fun en w' => ∃ (xs : List Int) (j : Nat) (e' : Int), en = .returned (.tuple #[]) ∧ xs.length = js.length ∧
      w'.heap[r]? = some (bk_rdr s j e') ∧ w'.heap[g]? = some (.cells (bk_sets cs js xs) 49 (0, 0)) ∧ bk_Chain s i e xs j e' ∧ bk_Fr r g w w' := by
  subst hn
  have HQ := Aside0.mk hq
  have HJ := Aside0.mk hjs
  have hqr : q ≠ r := blk_ne hq (show w.heap[r]? = some (.cells _ 121 (0, 0)) from hr) (by decide)
  have hqg : q ≠ g := blk_ne hq hg (by decide)
  have hgr : g ≠ r := blk_ne hg (show w.heap[r]? = some (.cells _ 121 (0, 0)) from hr) (by decide)
  clear hq hjs
  go_enter Tryz.func78, Tryz.ntmps78
  go_wp2
  go_loopw [8] (fun p wr => ∃ (k : Nat) (xs : List Int) (j : Nat) (e' : Int), p = .int .i64 (k : Int) ∧ k ≤ js.length ∧ xs.length = k ∧ wr.heap[r]? = some (bk_rdr s j e') ∧ wr.heap[g]? = some (.cells (bk_sets cs js xs) 49 (0, 0)) ∧ bk_Chain s i e xs j e' ∧ bk_Fr r g w wr)
    (fun p _ => js.length - (intOf p).toNat)
  case atStart => exact ⟨0, [], i, e, rfl, Nat.zero_le _, rfl, hr, by cases js <;> exact hg, .none hi, bk_Fr.refl _ _ _⟩
  case round =>
    clear hr hg
    obtain ⟨k, xs, j, e', rfl, hk, hxl, hr, hg, hch, hfr⟩ := hrel
    by_cases hlt : k < js.length
    · have hd : decide ((k : Int) < (js.length : Int)) = true := by simp; omega
      obtain ⟨jk, hjk⟩ : ∃ jk, js[k]? = some jk := ⟨_, List.getElem?_eq_getElem hlt⟩
      have hjl := HJ.out jk (List.mem_of_getElem? hjk)
      have hcq : wr.cell? ⟨q, k, none⟩ = some (.pointer (some ⟨g, jk, none⟩)) := by
        rw [bk_cell (hfr.at HQ.out hqr hqg) k]; simp [hjk]
      have HR := Aside0.mk hr
      have HG := Aside0.mk hg
      have HF := Aside0.mk hfr
      have HC := Aside0.mk hch
      have HJK := Aside0.mk hjk
      clear hr hg hfr hch hjk
      have p1 : (0 : Int) ≤ (k : Int) := by omega
      go_wp2_with (go_at_call 77; refine Rg.stop_here ?_)
      refine ⟨?_⟩
      refine (bk_next_int hI s j e' r _ HC.out.le hs HR.out).mono ?_
      rintro en w5 ⟨x, j5, e5, rfl, hr5, hp5, hg5⟩
      have hbx := blk_grown HG.out hg5 (by simpa using hgr)
      obtain ⟨u, hu⟩ : ∃ u, w5.cell? ⟨g, jk, none⟩ = some u := by
        rw [bk_cell hbx jk]
        exact ⟨_, Array.getElem?_eq_getElem (by rw [bk_sets_size]; exact hjl)⟩
      have hfz := bk_frozen hbx jk
      have HR5 := Aside0.mk hr5
      have HP5 := Aside0.mk hp5
      have HG5 := Aside0.mk hg5
      have HBX := Aside0.mk hbx
      clear hr5 hp5 hg5 hbx
      go_wp2_with fail
      go_roundw
      case rel => exact ⟨k + 1, xs ++ [x], j5, e5, by go_num, by omega, by simp [hxl], (Below.heap_setCell w5 ⟨g, jk, none⟩ _ r (by exact fun h => hgr h.symm)).trans HR5.out, by rw [bk_sets_snoc js xs cs jk x (by rw [hxl]; exact HJK.out)]; exact blk_set HBX.out jk _, .snoc HC.out HP5.out, (HF.out.trans (bk_Fr.of_grown HG5.out g)).set _ _⟩
      case measure => simp [intOf]; omega
    · have hkl : k = js.length := by omega
      subst hkl
      have hd : decide (((js.length : Nat) : Int) < (js.length : Int)) = false := by simp
      go_wp2
      go_end0
      exact ⟨xs, j, e', rfl, hxl, hr, hg, hch, hfr⟩
theorem bk_info3 : (Tryz.prog.info? 3).map (fun i => (i.zero, i.size, i.bytes)) = some (some (.int .i64 0), 1, 8) := by kernel_rfl
theorem bk_grown_base {w W w1 : World} {r : Nat} (h : w.grownBy W (some r)) (hb : Below w.heap.size W w1) : w.grownBy w1 (some r) :=
  ⟨hb.os.trans h.os, hb.tape.trans h.tape, hb.output.trans h.output, Nat.le_trans h.size hb.size, fun i hi hr => (hb.block i hi).trans (h.block i hi hr)⟩
set_option maxHeartbeats 2000000 in
set_option maxRecDepth 100000 in
theorem bk_one84 (hI : bk_Reads 52 (Value.int .i64) rdI) (s : ByteArray) (i : Nat) (e : Int) (r g1 : Nat) (w : World) (hi : i ≤ s.size) (hs : s.size ≤ 1000000000) (hr : w.heap[r]? = some (bk_rdr s i e))
    (hg1 : w.heap[g1]? = some (.cells #[.pointer (some ⟨r, 0, none⟩)] 119 (0, 0))) :
    Calls Tryz.prog 81 #[.pointer (some ⟨g1, 0, none⟩)] w fun en w' => ∃ (x : Int) (j : Nat) (e' : Int), en = .returned (.int .i64 x) ∧
      w'.heap[r]? = some (bk_rdr s j e') ∧ bk_Post rdI s i e x j e' ∧ w.grownBy w' (some r) := by
  have c0 : w.cell? ⟨g1, 0, none⟩ = some (.pointer (some ⟨r, 0, none⟩)) := bk_cell hg1 0
  have HR := Aside0.mk hr
  clear hr hg1
  go_enter Tryz.func81, Tryz.ntmps81
  go_wp2_with (go_at_call 77; refine Rg.stop_here ?_)
  refine ⟨?_⟩
  refine (bk_next_int hI s i e r _ hi hs HR.out).mono ?_
  rintro en w5 ⟨x, j5, e5, rfl, hr5, hp5, hg5⟩
  go_wp2
  go_ret
  exact ⟨x, j5, e5, rfl, hr5, hp5, hg5⟩
theorem bk_Post.err {α : Type} {one : Rd α} {s : ByteArray} {i : Nat} {e : Int} {x : α} (hi : i ≤ s.size) (he : e ≠ 0) : bk_Post one s i e x i e := ⟨hi, fun _ => rfl, fun h => absurd h he⟩
theorem bk_Post.list {α : Type} {one : Rd α} {s : ByteArray} {i j k : Nat} {e e1 e1' e2 n most : Int} {xs : List α} (h1 : bk_Post rdI s i e n j e1) (he : (e1 ≠ 0 ∧ e1' = e1) ∨ (e1 = 0 ∧ (n < 0 ∨ most < n) ∧ e1' = 30) ∨ (e1 = 0 ∧ ¬ (n < 0 ∨ most < n) ∧ e1' = 0))
    (h2 : bk_Post (rdN one n.toNat) s j e1' xs k e2) : bk_Post (rdL most one) s i e xs k e2 := by
  refine h1.bind (next := fun n l => if n < 0 ∨ most < n then .error 30 else rdN one n.toNat l) ?_
  obtain ⟨b1, b2, b3⟩ := h2
  rcases he with ⟨he, rfl⟩ | ⟨rfl, hn, rfl⟩ | ⟨rfl, hn, rfl⟩
  · exact ⟨b1, b2, fun h => absurd h he⟩
  · refine ⟨b1, fun h => absurd rfl h, fun _ => ?_⟩
    dsimp only
    rw [if_pos hn]
    exact ⟨b2 (by decide), by decide⟩
  · refine ⟨b1, b2, fun _ => ?_⟩
    dsimp only
    rw [if_neg hn]
    exact b3 rfl
set_option maxHeartbeats 2000000 in
set_option maxRecDepth 100000 in
theorem bk_list_int (hI : bk_Reads 52 (Value.int .i64) rdI) (s : ByteArray) (i : Nat) (e : Int) (r g1 : Nat) (most : Int) (w : World) (hi : i ≤ s.size) (hs : s.size ≤ 1000000000) (hr : w.heap[r]? = some (bk_rdr s i e))
    (hg1 : w.heap[g1]? = some (.cells #[.pointer (some ⟨r, 0, none⟩)] 119 (0, 0))) (hm0 : 0 ≤ most) (hm : most ≤ 1000) :
    Calls Tryz.prog 80 #[.pointer (some ⟨r, 0, none⟩), .int .i64 most, .func (.func 81) #[] #[.pointer (some ⟨g1, 0, none⟩)]] w fun en w' => ∃ (xs : List Int) (v : Value) (j : Nat) (e' : Int), en = .returned v ∧
      (Kd.int .i64).R 3 w' w.heap.size (fun k => k ≠ r) v xs ∧ w'.heap[r]? = some (bk_rdr s j e') ∧ bk_Post (rdL most rdI) s i e xs j e' ∧ w.grownBy w' (some r) := by
  have HR := Aside0.mk hr
  have HG1 := Aside0.mk hg1
  have hg1r : g1 ≠ r := blk_ne hg1 (show w.heap[r]? = some (.cells _ 121 (0, 0)) from hr) (by decide)
  clear hr hg1
  go_enter Tryz.func80, Tryz.ntmps80
  go_wp2_with (go_at_call 77; refine Rg.stop_here ?_)
  refine ⟨?_⟩
  refine (bk_next_int hI s i e r _ hi hs HR.out).mono ?_
  rintro en w1 ⟨n, j1, e1, rfl, hr1, hp1, hgw1⟩
  have HP1 := Aside0.mk hp1
  have HR1 := Aside0.mk hr1
  have HW1 := Aside0.mk hgw1
  unfold bk_rdr at hr1
  have c2 : w1.cell? ⟨r, 2, none⟩ = some (.int .i64 e1) := bk_cell hr1 2
  have f2 := bk_frozen hr1 2
  clear hr1 hp1 hgw1
  go_upto_region 2 with fail
  go_cut [24] from 9 to 23 (fun v24 wx => v24 = .bool (decide (e1 = 0 ∧ (n < 0 ∨ most < n))) ∧ wx = w1)
  case first =>
    by_cases he1 : e1 = 0
    · subst he1
      by_cases hn0 : n < 0
      · have d1 : decide (n < 0) = true := decide_eq_true hn0
        go_wp2_with fail
        go_meet
        exact ⟨by simp [hn0], rfl⟩
      · have d1 : decide (n < 0) = false := decide_eq_false hn0
        by_cases hn1 : most < n
        · have d2 : decide (most < n) = true := decide_eq_true hn1
          go_wp2_with fail
          go_meet
          exact ⟨by simp [hn1], rfl⟩
        · have d2 : decide (most < n) = false := decide_eq_false hn1
          go_wp2_with fail
          go_meet
          exact ⟨by simp [hn0, hn1], rfl⟩
    · have hne : (e1 == 0) = false := by simpa using he1
      go_wp2_with fail
      go_meet
      exact ⟨by simp [he1], rfl⟩
  case rest =>
  obtain ⟨rfl, rfl⟩ := hcut
  go_upto_if 24 with fail
  go_cut [] from 9 to 27 (fun wx => ∃ e1', ((e1 ≠ 0 ∧ e1' = e1) ∨ (e1 = 0 ∧ (n < 0 ∨ most < n) ∧ e1' = 30) ∨ (e1 = 0 ∧ ¬ (n < 0 ∨ most < n) ∧ e1' = 0)) ∧ wx.heap[r]? = some (bk_rdr s j1 e1') ∧ w.grownBy wx (some r))
  case first =>
    by_cases hc : e1 = 0 ∧ (n < 0 ∨ most < n)
    · have d1 : decide (e1 = 0 ∧ (n < 0 ∨ most < n)) = true := decide_eq_true hc
      go_wp2_with fail
      go_meet
      exact ⟨30, .inr (.inl ⟨hc.1, hc.2, rfl⟩), by simpa [bk_rdr] using blk_set HR1.out 2 (.int .i64 30), bk_grown_set HW1.out _ _⟩
    · have d1 : decide (e1 = 0 ∧ (n < 0 ∨ most < n)) = false := decide_eq_false hc
      go_wp2_with fail
      go_meet
      by_cases he1 : e1 = 0
      · exact ⟨0, .inr (.inr ⟨he1, fun h => hc ⟨he1, h⟩, rfl⟩), by rw [← he1]; exact HR1.out, HW1.out⟩
      · exact ⟨e1, .inl ⟨he1, rfl⟩, HR1.out, HW1.out⟩
  case rest =>
    obtain ⟨e1', hcase, hrc, hgc⟩ := hcut
    have HCASE := Aside0.mk hcase
    have HRC := Aside0.mk hrc
    have HGC := Aside0.mk hgc
    have hnm : e1' = 0 → n ≤ most := by
      intro h
      rcases hcase with ⟨h1, h2⟩ | ⟨_, _, h2⟩ | ⟨_, h1, _⟩
      · exact absurd (h2 ▸ h) h1
      · rw [h2] at h; cases h
      · omega
    clear hcase hrc hgc c2 f2
    go_wp2_with fail
    go_loopw [6, 8] (fun p6 p8 wr => ∃ (k : Nat) (xs : List Int) (j : Nat) (e' : Int), p8 = .int .i64 (k : Int) ∧ xs.length = k ∧ k ≤ n.toNat ∧ (e' = 0 → n ≤ most) ∧ (Kd.int .i64).R 3 wr w.heap.size (fun k => k ≠ r) p6 xs ∧ wr.heap[r]? = some (bk_rdr s j e') ∧ w.grownBy wr (some r) ∧ j ≤ s.size ∧
        (∀ ys j2 e2, bk_Post (rdN rdI (n.toNat - k)) s j e' ys j2 e2 → bk_Post (rdN rdI n.toNat) s j1 e1' (xs ++ ys) j2 e2))
      (fun _ p _ => n.toNat - (intOf p).toNat)
    case atStart => exact ⟨0, [], j1, e1', rfl, rfl, Nat.zero_le _, hnm, Kd.R_nil _ _ _ _ _, HRC.out, HGC.out, HP1.out.1, fun ys j2 e2 h => h⟩
    case round =>
      clear hnm
      obtain ⟨k, xs, j, e', rfl, rfl, hkn, hnm, hR, hr, hgw, hj, hP⟩ := hrel
      have HRR := Aside0.mk hR
      have HR2 := Aside0.mk hr
      have HG2 := Aside0.mk hgw
      have HPP := Aside0.mk hP
      unfold bk_rdr at hr
      have c2 : wr.cell? ⟨r, 2, none⟩ = some (.int .i64 e') := bk_cell hr 2
      obtain ⟨A6, c6, hv6⟩ := Kd.R_slice hR
      subst hv6
      clear hr hR hgw hP
      by_cases hlt : (xs.length : Int) < n
      · have hd : decide ((xs.length : Int) < n) = true := decide_eq_true hlt
        by_cases he : e' = 0
        · subst he
          have hnm' := hnm rfl
          go_wp2_with fail
          refine (bk_one84 hI s j 0 r g1 _ hj hs HR2.out (blk_grown HG1.out HG2.out (by simpa using hg1r))).mono ?_
          rintro en w5 ⟨x, j5, e5, rfl, hr5, hp5, hg5⟩
          have HR5 := Aside0.mk hr5
          have HP5 := Aside0.mk hp5
          have HG5 := Aside0.mk hg5
          have hRR := Kd.R_grown HRR.out hg5 (fun k hk he => hk (Option.some.inj he))
          have hgw5 := bk_grown_trans HG2.out hg5
          have hown := Kd.R_base hRR
          have hrw : r < w5.heap.size := blk_lt hr5
          have hrne := Kd.R_ne hRR (show w5.heap[r]? = some (.cells _ 121 (0, 0)) from hr5) (by decide)
          have HRR5 := Aside0.mk hRR
          have HGW5 := Aside0.mk hgw5
          have hbs := hgw5.size
          clear hr5 hp5 hg5 hRR hgw5
          go_wp2_with (at_builtin; refine Rg.stop_here ?_)
          refine ⟨?_⟩
          refine Kd.R_append (Kd.int .i64) (w0 := w5) w.heap.size rfl (.tmp 40) (.tmp 43) 24 3 (.int .i64 0) 8 rfl Tryz.underlying24 bk_info3 rfl (by decide) (by omega) _ xs x [.int .i64 x] (fun k => k ≠ r) (fun _ => False) rfl rfl rfl (fun _ hk => hk.elim) (fun k hk => by omega) HRR5.out (Below.refl _ _) hbs (by omega) ?_
          intro v1 w6 hR6 hb6 hg6 _
          have hr6 := blk_grown HR5.out hg6 hrne
          obtain ⟨A7, c7, hv7⟩ := Kd.R_slice hR6
          subst hv7
          rw [List.length_append, List.length_singleton] at hR6
          go_wp2_with fail
          go_roundw
          case rel => exact ⟨xs.length + 1, xs ++ [x], j5, e5, by go_num, by simp, by omega, fun _ => hnm', hR6, hr6, bk_grown_base HGW5.out hb6, HP5.out.1, fun ys j2 e2 h => by
            rw [List.append_assoc]
            refine HPP.out _ _ _ ?_
            rw [show n.toNat - xs.length = (n.toNat - (xs.length + 1)) + 1 by omega]
            exact bk_Post.bind (next := fun x l => rdBind (rdN rdI (n.toNat - (xs.length + 1))) (fun xs l => .ok (x :: xs, l)) l) HP5.out (bk_Post.bind (next := fun xs l => .ok (x :: xs, l)) h (bk_Post.pure _ _ _ _ h.1))⟩
          case measure => simp [intOf]; omega
        · have hne : (e' == 0) = false := by simpa using he
          go_wp2_with fail
          go_ret
          have := HPP.out [] j e' (bk_Post.err hj he)
          rw [List.append_nil] at this
          exact ⟨xs, _, j, e', rfl, HRR.out, HR2.out, HP1.out.list HCASE.out this, HG2.out⟩
      · have hd : decide ((xs.length : Int) < n) = false := decide_eq_false hlt
        go_wp2_with fail
        go_ret
        have := HPP.out [] j e' (by rw [show n.toNat - xs.length = 0 by omega]; exact bk_Post.pure _ _ _ _ hj)
        rw [List.append_nil] at this
        exact ⟨xs, _, rfl, HRR.out, j, e', HR2.out, HP1.out.list HCASE.out this, HG2.out⟩
end Go.Proofs.YtkhgdglaophkbaaGreatDoor.PK
end
section
set_option linter.unusedVariables false
namespace Go.Proofs.YtkhgdglaophkbaaGreatDoor.PK
open Go.RowKit Go.Proofs.YtkhgdglaophkbaaGreatDoorW.PrintWords Go.Proofs.YtkhgdglaophkbaaGreatDoorW.PrintLast Go.Proofs.YtkhgdglaophkbaaGreatDoorW.PrintMore
section
variable {P : Program} {ops : Array Oper} {rest : List Oper} {o : Oper} {a : Act} {Q : Exit → Act → World → Prop}
theorem is_build {W : World} {t : TypeId} {n : Nat} {ps : Array (Nat × Operand)} (_ : o.op = .buildSlice t n ps) (h : wpList P ops Q (o :: rest) a W) : wpList P ops Q (o :: rest) a W := h
theorem lit_event {W : World} (hgd : o.guard = none) {N : Tmp} (_hd : o.dst = some N) {cs : Array Value} {t : TypeId} {n : Nat}
    (hrun : (execOp a.eval o).run P W = .ok (.value (.slice (some ⟨W.heap.size, 0, none⟩) n n)) (W.alloc (.cells cs t (0, 0))))
    (h : ∀ g, g = W.heap.size → ∀ w1, w1.heap[g]? = some (.cells cs t (0, 0)) → Below W.heap.size W w1 → wpList P ops Q rest (a.put o.dst (.slice (some ⟨g, 0, none⟩) n n)) w1) : wpList P ops Q (o :: rest) a W :=
  Kd.event_run hgd hrun (h _ rfl _ (blk_new W _) (below_alloc (Below.refl _ _) _))
end
theorem bk_heap_below {W W' : World} {k : Nat} {o : Obj} (h : W.heap[k]? = some o) (hb : Below W.heap.size W W') : W'.heap[k]? = some o := (hb.block k (Array.getElem?_eq_some_iff.1 h).1).trans h
theorem bk_below_mono {B C : Nat} {w w' : World} (h : Below C w w') (hB : B ≤ C) : Below B w w' := ⟨h.os, h.tape, h.output, h.size, fun i hi => h.block i (by omega)⟩
end Go.Proofs.YtkhgdglaophkbaaGreatDoor.PK
end
section
set_option linter.unusedVariables false
set_option linter.unusedSimpArgs false
namespace Go.Proofs.YtkhgdglaophkbaaGreatDoor.PK
open Go.RowKit Go.Proofs.YtkhgdglaophkbaaGreatDoorW.PrintWords Go.Proofs.YtkhgdglaophkbaaGreatDoorW.PrintLast Go.Proofs.YtkhgdglaophkbaaGreatDoorW.PrintMore
section
variable {P : Program} {ops : Array Oper} {rest : List Oper} {o : Oper} {a : Act} {Q : Exit → Act → World → Prop}
theorem is_box {W : World} {t : TypeId} {x : Operand} (_ : o.op = .box t x) (h : wpList P ops Q (o :: rest) a W) : wpList P ops Q (o :: rest) a W := h
end
theorem cd_rdB_post {s : ByteArray} {i i1 i2 i3 i4 i5 i6 i7 i8 i9 : Nat} {e e1 e2 e3 e4 e5 e6 e7 e8 e9 : Int} {x0 x1 x3 x4 x5 x7 x8 : Int} {x2 : ByteArray} {x6 : List Int}
    (h0 : bk_Post rdI s i e x0 i1 e1) (h1 : bk_Post rdI s i1 e1 x1 i2 e2) (h2 : bk_Post rdB_ s i2 e2 x2 i3 e3) (h3 : bk_Post rdI s i3 e3 x3 i4 e4) (h4 : bk_Post rdI s i4 e4 x4 i5 e5) (h5 : bk_Post rdI s i5 e5 x5 i6 e6)
    (h6 : bk_Post (rdL 64 rdI) s i6 e6 x6 i7 e7) (h7 : bk_Post rdI s i7 e7 x7 i8 e8) (h8 : bk_Post rdI s i8 e8 x8 i9 e9) : bk_Post rdB s i e (⟨x0, x1, x2, x3, x4, ⟨x5, x6, x7, x8⟩⟩ : Bl) i9 e9 := by
  have hstr : ∀ {β : Type} (next : ByteArray → Rd β) (l : List UInt8), rdBind rdS (fun x => next ⟨x.toArray⟩) l = rdBind rdB_ next l := by
    intro β next l
    unfold rdBind rdB_
    cases rdS l with
    | error e => rfl
    | ok p => rfl
  refine bk_Post.bind h0 (next := fun id l => _) ?_
  refine bk_Post.bind h1 (next := fun id l => _) ?_
  have := bk_Post.bind h2 (next := fun text l => rdBind rdI (fun story l => rdBind rdI (fun ref l => rdBind rdI (fun u l => rdBind (rdL 64 rdI) (fun after l => rdBind rdI (fun a l => rdBind rdI (fun d l => .ok ((⟨x0, x1, text, story, ref, ⟨u, after, a, d⟩⟩ : Bl), l)) l) l) l) l) l) l)
    (bk_Post.bind h3 (next := fun id l => _) (bk_Post.bind h4 (next := fun id l => _) (bk_Post.bind h5 (next := fun id l => _) (bk_Post.bind h6 (next := fun id l => _) (bk_Post.bind h7 (next := fun id l => _) (bk_Post.bind h8 (next := fun d l => .ok ((⟨x0, x1, x2, x3, x4, ⟨x5, x6, x7, d⟩⟩ : Bl), l)) (bk_Post.pure _ _ _ _ h8.1)))))))
  obtain ⟨a1, a2, a3⟩ := this
  refine ⟨a1, a2, fun h => ?_⟩
  have := a3 h
  rw [← hstr] at this
  exact this
def bk_cells (x0 x1 : Int) (x2 : ByteArray) (x3 x4 x5 : Int) (v6 : Value) (x7 x8 : Int) : Array Value := #[.int .i64 x0, .int .i64 x1, .string x2, .int .i64 x3, .int .i64 x4, .int .i64 x5, v6, .int .i64 x7, .int .i64 x8]
set_option maxHeartbeats 4000000 in
set_option maxRecDepth 100000 in
theorem bk_block (hI : bk_Reads 52 (Value.int .i64) rdI) (hS : bk_Reads 54 Value.string rdB_) (s : ByteArray) (i : Nat) (e : Int) (r : Nat) (w : World) (hi : i ≤ s.size) (hs : s.size ≤ 1000000000) (hr : w.heap[r]? = some (bk_rdr s i e)) :
    Calls Tryz.prog 72 #[.pointer (some ⟨r, 0, none⟩)] w fun en w' => ∃ (b : Bl) (v : Value) (j : Nat) (e' : Int), en = .returned (.agg (bk_cells b.f0 b.f1 b.f2 b.f3 b.f4 b.f5.f0 v b.f5.f2 b.f5.f3)) ∧
      (Kd.int .i64).R 3 w' w.heap.size (fun k => k ≠ r) v b.f5.f1 ∧ w'.heap[r]? = some (bk_rdr s j e') ∧ bk_Post rdB s i e b j e' ∧ w.grownBy w' (some r) := by
  have hrw : r < w.heap.size := blk_lt hr
  have HR := Aside0.mk hr
  clear hr
  go_enter Tryz.func72, Tryz.ntmps72
  go_wp2_with (with_reducible refine is_box rfl ?_; refine Rg.stop_here ?_)
  refine ⟨?_⟩
  refine box_event rfl (N := 1) rfl (cs := #[.pointer (some ⟨r, 0, none⟩)]) (t := 119) (by first | (go_simp; done) | (go_simp; rfl)) ?_
  intro g1 hg1 w1 hbx1 hb1
  have hr1 := bk_heap_below HR.out hb1
  have HP := Aside0.mk hbx1
  have hw1s := hb1.size
  have hge1 : w.heap.size ≤ g1 := Nat.le_of_eq hg1.symm
  have HG1 := Aside0.mk hge1
  clear hg1 hge1
  go_wp2_with (with_reducible refine is_alloc rfl ?_; refine Rg.stop_here ?_)
  refine ⟨?_⟩
  refine box_event rfl (N := 2) rfl (cs := #[.int .i64 0, .int .i64 0, .string (⟨#[]⟩ : ByteArray), .int .i64 0, .int .i64 0, .int .i64 0, .slice none 0 0, .int .i64 0, .int .i64 0]) (t := 49) (by first | (go_simp; done) | (go_simp; rfl)) ?_
  intro g hg w2 hbx2 hb2
  have hr2 := bk_heap_below hr1 hb2
  have hp2 := bk_heap_below HP.out hb2
  have hge : w.heap.size ≤ g := by rw [hg]; exact hw1s
  have HGE := Aside0.mk hge
  have hfr2 : bk_Fr r g w w2 := (bk_Fr.of_below hb1 r g).trans (bk_Fr.of_below hb2 r g)
  have hgr : g ≠ r := blk_ne hbx2 (show w2.heap[r]? = some (.cells _ 121 (0, 0)) from hr2) (by decide)
  have h1r : g1 ≠ r := blk_ne hp2 (show w2.heap[r]? = some (.cells _ 121 (0, 0)) from hr2) (by decide)
  have h1g : g1 ≠ g := blk_ne hp2 hbx2 (by decide)
  have cp2 : w2.cell? ⟨g1, 0, none⟩ = some (.pointer (some ⟨r, 0, none⟩)) := bk_cell hp2 0
  clear hr1 hb1 hb2 hg hge hbx1 hw1s HP
  go_wp2_with (with_reducible refine is_build rfl ?_; refine Rg.stop_here ?_)
  refine ⟨?_⟩
  refine lit_event rfl (N := 6) rfl (cs := #[.pointer (some ⟨g, 0, none⟩), .pointer (some ⟨g, 1, none⟩)]) (t := 51) (n := 2) (by first | (go_simp; done) | (go_simp; rfl)) ?_
  intro q3 hq3 w3 hl3 hb3
  have hr3 := bk_heap_below hr2 hb3
  have hbx3 := bk_heap_below hbx2 hb3
  have hp3 := bk_heap_below hp2 hb3
  have hfr3 := hfr2.trans (bk_Fr.of_below hb3 r g)
  clear hq3 hb3 hr2 hbx2 hp2 hfr2 cp2
  go_wp2_with (go_at_call 78; refine Rg.stop_here ?_)
  refine ⟨?_⟩
  refine (bk_rints hI s i e r g q3 2 [0, 1] _ w3 hi hs hr3 hbx3 hl3 (by decide) rfl (by omega)).mono ?_
  rintro en w4 ⟨xs, i2, e2, rfl, hxl, hr4, hbx4, hch, hfr4⟩
  obtain ⟨x0, x1, i1, e1, rfl, hp0, hp1⟩ := hch.two hxl
  have hp4 := hfr4.at hp3 h1r h1g
  replace hfr4 := hfr3.trans hfr4
  have hbx4' : w4.heap[g]? = some (.cells #[.int .i64 x0, .int .i64 x1, .string (⟨#[]⟩ : ByteArray), .int .i64 0, .int .i64 0, .int .i64 0, .slice none 0 0, .int .i64 0, .int .i64 0] 49 (0, 0)) := hbx4
  have HP0 := Aside0.mk hp0
  have HP1 := Aside0.mk hp1
  have cp4 : w4.cell? ⟨g1, 0, none⟩ = some (.pointer (some ⟨r, 0, none⟩)) := bk_cell hp4 0
  clear hr3 hbx3 hp3 hfr3 hch hxl hl3 hbx4 hp0 hp1
  go_wp2_with (go_at_call 79; refine Rg.stop_here ?_)
  refine ⟨?_⟩
  refine (bk_next_str hS s i2 e2 r _ HP1.out.1 hs hr4).mono ?_
  rintro en w5 ⟨x2, i3, e3, rfl, hr5, hp2, hg5⟩
  have hbx5 := blk_grown hbx4' hg5 (by simpa using hgr)
  have hp5 := blk_grown hp4 hg5 (by simpa using h1r)
  have hfr5 := hfr4.trans (bk_Fr.of_grown hg5 g)
  have HP2 := Aside0.mk hp2
  have cp5 : w5.cell? ⟨g1, 0, none⟩ = some (.pointer (some ⟨r, 0, none⟩)) := bk_cell hp5 0
  have cb5 := bk_cell hbx5 2
  have fb5 := bk_frozen hbx5 2
  have hbx5' := blk_set hbx5 2 (.string x2)
  have hr5' : (w5.setCell ⟨g, 2, none⟩ (.string x2)).heap[r]? = some (bk_rdr s i3 e3) := (Below.heap_setCell w5 ⟨g, 2, none⟩ _ r (fun h => hgr h.symm)).trans hr5
  have hp5' : (w5.setCell ⟨g, 2, none⟩ (.string x2)).heap[g1]? = some (.cells #[.pointer (some ⟨r, 0, none⟩)] 119 (0, 0)) := (Below.heap_setCell w5 ⟨g, 2, none⟩ _ g1 h1g).trans hp5
  have hfr5' := hfr5.set 2 (.string x2)
  have cp5' : (w5.setCell ⟨g, 2, none⟩ (.string x2)).cell? ⟨g1, 0, none⟩ = some (.pointer (some ⟨r, 0, none⟩)) := bk_cell hp5' 0
  clear hr4 hbx4' hp4 hfr4 hg5 hp2 cp4
  go_wp2_with (with_reducible refine is_build rfl ?_; refine Rg.stop_here ?_)
  refine ⟨?_⟩
  refine lit_event rfl (N := 16) rfl (cs := #[.pointer (some ⟨g, 3, none⟩), .pointer (some ⟨g, 4, none⟩), .pointer (some ⟨g, 5, none⟩)]) (t := 51) (n := 3) (by first | (go_simp; done) | (go_simp; rfl)) ?_
  intro q6 hq6 w6 hl6 hb6
  have hr6 := bk_heap_below hr5' hb6
  have hbx6 := bk_heap_below hbx5' hb6
  have hp6 := bk_heap_below hp5' hb6
  have hfr6 := hfr5'.trans (bk_Fr.of_below hb6 r g)
  clear hq6 hb6 hr5' hbx5' hp5' hfr5' cp5' hr5 hbx5 hp5 hfr5 cp5 cb5 fb5
  go_wp2_with (go_at_call 78; refine Rg.stop_here ?_)
  refine ⟨?_⟩
  refine (bk_rints hI s i3 e3 r g q6 3 [3, 4, 5] _ w6 HP2.out.1 hs hr6 hbx6 hl6 (by intro j hj; simp at hj ⊢; omega) rfl (by omega)).mono ?_
  rintro en w7 ⟨ys, i6, e6, rfl, hyl, hr7, hbx7, hch7, hfr7⟩
  obtain ⟨x3, x4, x5, i4, e4, i5, e5, rfl, hp3, hp4, hp5⟩ := hch7.three hyl
  have hp7 := hfr7.at hp6 h1r h1g
  replace hfr7 := hfr6.trans hfr7
  have hbx7' : w7.heap[g]? = some (.cells #[.int .i64 x0, .int .i64 x1, .string x2, .int .i64 x3, .int .i64 x4, .int .i64 x5, .slice none 0 0, .int .i64 0, .int .i64 0] 49 (0, 0)) := hbx7
  have HP3 := Aside0.mk hp3
  have HP4 := Aside0.mk hp4
  have HP5 := Aside0.mk hp5
  have cp7 : w7.cell? ⟨g1, 0, none⟩ = some (.pointer (some ⟨r, 0, none⟩)) := bk_cell hp7 0
  clear hr6 hbx6 hp6 hfr6 hch7 hyl hl6 hbx7 hp3 hp4 hp5
  go_wp2_with (go_at_call 80; refine Rg.stop_here ?_)
  refine ⟨?_⟩
  refine (bk_list_int hI s i6 e6 r g1 64 w7 HP5.out.1 hs hr7 hp7 (by omega) (by omega)).mono ?_
  rintro en w8 ⟨x6, v6, i7, e7, rfl, hR8, hr8, hp6, hg8⟩
  have hbx8 := blk_grown hbx7' hg8 (by simpa using hgr)
  have hp8 := blk_grown hp7 hg8 (by simpa using h1r)
  have hfr8 := hfr7.trans (bk_Fr.of_grown hg8 g)
  have HP6 := Aside0.mk hp6
  have hR8' := Kd.R_types hR8 hbx8 (by decide)
  have hR9 := Kd.R_far (p := ⟨g, 6, none⟩) hR8' (fun k hk => hk.2) v6
  obtain ⟨A6, c6, hv6⟩ := Kd.R_slice hR8
  subst hv6
  have cb8 := bk_cell hbx8 6
  have fb8 := bk_frozen hbx8 6
  have hbx8' := blk_set hbx8 6 (.slice A6 x6.length c6)
  have hr8' : (w8.setCell ⟨g, 6, none⟩ (.slice A6 x6.length c6)).heap[r]? = some (bk_rdr s i7 e7) := (Below.heap_setCell w8 ⟨g, 6, none⟩ _ r (fun h => hgr h.symm)).trans hr8
  have hp8' : (w8.setCell ⟨g, 6, none⟩ (.slice A6 x6.length c6)).heap[g1]? = some (.cells #[.pointer (some ⟨r, 0, none⟩)] 119 (0, 0)) := (Below.heap_setCell w8 ⟨g, 6, none⟩ _ g1 h1g).trans hp8
  have hfr8' := hfr8.set 6 (.slice A6 x6.length c6)
  have cp8' : (w8.setCell ⟨g, 6, none⟩ (.slice A6 x6.length c6)).cell? ⟨g1, 0, none⟩ = some (.pointer (some ⟨r, 0, none⟩)) := bk_cell hp8' 0
  have HR9 := Aside0.mk hR9
  have hws : w.heap.size ≤ w7.heap.size := hfr7.size
  clear hr7 hbx7' hp7 hfr7 hg8 hp6 cp7 hR8 hR8' hR9
  go_wp2_with (with_reducible refine is_build rfl ?_; refine Rg.stop_here ?_)
  refine ⟨?_⟩
  refine lit_event rfl (N := 28) rfl (cs := #[.pointer (some ⟨g, 7, none⟩), .pointer (some ⟨g, 8, none⟩)]) (t := 51) (n := 2) (by first | (go_simp; done) | (go_simp; rfl)) ?_
  intro q9 hq9 w9 hl9 hb9
  have hr9 := bk_heap_below hr8' hb9
  have hbx9 := bk_heap_below hbx8' hb9
  have hp9 := bk_heap_below hp8' hb9
  have hfr9 := hfr8'.trans (bk_Fr.of_below hb9 r g)
  have hRx := Aside0.mk (Kd.R_below HR9.out hb9)
  clear hq9 hb9 hr8' hbx8' hp8' hfr8' cp8' hr8 hbx8 hp8 hfr8 cb8 fb8 HR9
  go_wp2_with (go_at_call 78; refine Rg.stop_here ?_)
  refine ⟨?_⟩
  refine (bk_rints hI s i7 e7 r g q9 2 [7, 8] _ w9 HP6.out.1 hs hr9 hbx9 hl9 (by intro j hj; simp at hj ⊢; omega) rfl (by omega)).mono ?_
  rintro en w10 ⟨zs, i9, e9, rfl, hzl, hr10, hbx10, hch10, hfr10⟩
  obtain ⟨x7, x8, i8, e8, rfl, hp7, hp8⟩ := hch10.two hzl
  have hRy := Aside0.mk (Kd.R_step hRx.out (fun k hk hlt => hfr10.block k hlt hk.1 hk.2))
  replace hfr10 := hfr9.trans hfr10
  have hbx10' : w10.heap[g]? = some (.cells #[.int .i64 x0, .int .i64 x1, .string x2, .int .i64 x3, .int .i64 x4, .int .i64 x5, .slice A6 x6.length c6, .int .i64 x7, .int .i64 x8] 49 (0, 0)) := hbx10
  have HP7 := Aside0.mk hp7
  have HP8 := Aside0.mk hp8
  have HR10 := Aside0.mk hr10
  have HF10 := Aside0.mk hfr10
  obtain ⟨d0, d1, d2, d3, d4, d5, d6, d7, d8⟩ := bk_Box.of hbx10'
  clear hr9 hbx9 hp9 hfr9 hch10 hzl hl9 hbx10 hp7 hp8 hr10 hfr10 hRx
  go_wp2_with (with_reducible refine is_store rfl ?_; refine Rg.stop_here ?_)
  refine ⟨?_⟩
  refine wpList_store_box rfl rfl _ _ _ rfl g _ _ _ rfl rfl hbx10' bk_size26 rfl (by repeat (first | exact List.forall_mem_nil _ | refine List.forall_mem_cons.2 ⟨rfl, ?_⟩)) ?_
  intro w11 hbx11 hst hot
  clear d0 d1 d2 d3 d4 d5 d6 d7 d8
  obtain ⟨d0, d1, d2, d3, d4, d5, d6, d7, d8⟩ := bk_Box.of hbx11
  go_wp2
  have hq11 : bk_Fr r g w10 w11 := by
    have h0 := hst g (Nat.le_refl _)
    exact ⟨h0.os, h0.tape, h0.output, h0.size, fun k _ _ hk => hot k hk⟩
  have hr11 := (hot r (fun h => hgr h.symm)).trans HR10.out
  have hf11 := HF10.out.trans hq11
  have hRz := Kd.R_step hRy.out (fun k hk hlt => hq11.block k hlt hk.1 hk.2)
  refine bodyPost_ret (results_cell_row rfl _ _ g _ _ _ _ rfl hbx11 Tryz.underlying49 rfl bk_size26) rfl ?_
  refine ⟨⟨x0, x1, x2, x3, x4, ⟨x5, x6, x7, x8⟩⟩, _, i9, e9, rfl, Kd.R_mono (Kd.R_lower hRz hws) (fun k hk => hk.1), hr11, cd_rdB_post HP0.out HP1.out HP2.out HP3.out HP4.out HP5.out HP6.out HP7.out HP8.out, ?_⟩
  exact ⟨hf11.os, hf11.tape, hf11.output, hf11.size, fun k hk hkr => hf11.block k hk (fun h => hkr (by rw [h])) (fun h => by have := HGE.out; omega)⟩
theorem bk_info26 : (Tryz.prog.info? 49).map (fun i => (i.zero, i.size, i.bytes)) = some (some (.agg #[.int .i64 0, .int .i64 0, .string ⟨#[]⟩, .int .i64 0, .int .i64 0, .int .i64 0, .slice none 0 0, .int .i64 0, .int .i64 0]), 9, 96) := by kernel_rfl
set_option maxHeartbeats 2000000 in
set_option maxRecDepth 100000 in
theorem bk_list_block (hI : bk_Reads 52 (Value.int .i64) rdI) (hS : bk_Reads 54 Value.string rdB_) (s : ByteArray) (i : Nat) (e : Int) (r : Nat) (most : Int) (w : World) (hi : i ≤ s.size) (hs : s.size ≤ 1000000000) (hr : w.heap[r]? = some (bk_rdr s i e))
    (hm0 : 0 ≤ most) (hm : most ≤ 1000) :
    Calls Tryz.prog 71 #[.pointer (some ⟨r, 0, none⟩), .int .i64 most, .func (.func 72) #[.pointer (some ⟨r, 0, none⟩)] #[]] w fun en w' => ∃ (xs : List Bl) (v : Value) (j : Nat) (e' : Int), en = .returned v ∧
      Kd.S k49 49 w' w.heap.size (fun k => k ≠ r) v xs ∧ w'.heap[r]? = some (bk_rdr s j e') ∧ bk_Post (rdL most rdB) s i e xs j e' ∧ w.grownBy w' (some r) := by
  have HR := Aside0.mk hr
  clear hr
  go_enter Tryz.func71, Tryz.ntmps71
  go_wp2_with (go_at_call 77; refine Rg.stop_here ?_)
  refine ⟨?_⟩
  refine (bk_next_int hI s i e r _ hi hs HR.out).mono ?_
  rintro en w1 ⟨n, j1, e1, rfl, hr1, hp1, hgw1⟩
  have HP1 := Aside0.mk hp1
  have HR1 := Aside0.mk hr1
  have HW1 := Aside0.mk hgw1
  unfold bk_rdr at hr1
  have c2 : w1.cell? ⟨r, 2, none⟩ = some (.int .i64 e1) := bk_cell hr1 2
  have f2 := bk_frozen hr1 2
  clear hr1 hp1 hgw1
  go_upto_region 2 with fail
  go_cut [24] from 9 to 23 (fun v24 wx => v24 = .bool (decide (e1 = 0 ∧ (n < 0 ∨ most < n))) ∧ wx = w1)
  case first =>
    by_cases he1 : e1 = 0
    · subst he1
      by_cases hn0 : n < 0
      · have d1 : decide (n < 0) = true := decide_eq_true hn0
        go_wp2_with fail
        go_meet
        exact ⟨by simp [hn0], rfl⟩
      · have d1 : decide (n < 0) = false := decide_eq_false hn0
        by_cases hn1 : most < n
        · have d2 : decide (most < n) = true := decide_eq_true hn1
          go_wp2_with fail
          go_meet
          exact ⟨by simp [hn1], rfl⟩
        · have d2 : decide (most < n) = false := decide_eq_false hn1
          go_wp2_with fail
          go_meet
          exact ⟨by simp [hn0, hn1], rfl⟩
    · have hne : (e1 == 0) = false := by simpa using he1
      go_wp2_with fail
      go_meet
      exact ⟨by simp [he1], rfl⟩
  case rest =>
  obtain ⟨rfl, rfl⟩ := hcut
  go_upto_if 24 with fail
  go_cut [] from 9 to 27 (fun wx => ∃ e1', ((e1 ≠ 0 ∧ e1' = e1) ∨ (e1 = 0 ∧ (n < 0 ∨ most < n) ∧ e1' = 30) ∨ (e1 = 0 ∧ ¬ (n < 0 ∨ most < n) ∧ e1' = 0)) ∧ wx.heap[r]? = some (bk_rdr s j1 e1') ∧ w.grownBy wx (some r))
  case first =>
    by_cases hc : e1 = 0 ∧ (n < 0 ∨ most < n)
    · have d1 : decide (e1 = 0 ∧ (n < 0 ∨ most < n)) = true := decide_eq_true hc
      go_wp2_with fail
      go_meet
      exact ⟨30, .inr (.inl ⟨hc.1, hc.2, rfl⟩), by simpa [bk_rdr] using blk_set HR1.out 2 (.int .i64 30), bk_grown_set HW1.out _ _⟩
    · have d1 : decide (e1 = 0 ∧ (n < 0 ∨ most < n)) = false := decide_eq_false hc
      go_wp2_with fail
      go_meet
      by_cases he1 : e1 = 0
      · exact ⟨0, .inr (.inr ⟨he1, fun h => hc ⟨he1, h⟩, rfl⟩), by rw [← he1]; exact HR1.out, HW1.out⟩
      · exact ⟨e1, .inl ⟨he1, rfl⟩, HR1.out, HW1.out⟩
  case rest =>
    obtain ⟨e1', hcase, hrc, hgc⟩ := hcut
    have HCASE := Aside0.mk hcase
    have HRC := Aside0.mk hrc
    have HGC := Aside0.mk hgc
    have hnm : e1' = 0 → n ≤ most := by
      intro h
      rcases hcase with ⟨h1, h2⟩ | ⟨_, _, h2⟩ | ⟨_, h1, _⟩
      · exact absurd (h2 ▸ h) h1
      · rw [h2] at h; cases h
      · omega
    clear hcase hrc hgc c2 f2
    go_wp2_with fail
    go_loopw [6, 8] (fun p6 p8 wr => ∃ (k : Nat) (xs : List Bl) (j : Nat) (e' : Int), p8 = .int .i64 (k : Int) ∧ xs.length = k ∧ k ≤ n.toNat ∧ (e' = 0 → n ≤ most) ∧ Kd.S k49 49 wr w.heap.size (fun k => k ≠ r) p6 xs ∧ wr.heap[r]? = some (bk_rdr s j e') ∧ w.grownBy wr (some r) ∧ j ≤ s.size ∧
        (∀ ys j2 e2, bk_Post (rdN rdB (n.toNat - k)) s j e' ys j2 e2 → bk_Post (rdN rdB n.toNat) s j1 e1' (xs ++ ys) j2 e2))
      (fun _ p _ => n.toNat - (intOf p).toNat)
    case atStart => exact ⟨0, [], j1, e1', rfl, rfl, Nat.zero_le _, hnm, Kd.S_nil _ _ _ _ _, HRC.out, HGC.out, HP1.out.1, fun ys j2 e2 h => h⟩
    case round =>
      clear hnm
      obtain ⟨k, xs, j, e', rfl, rfl, hkn, hnm, hR, hr, hgw, hj, hP⟩ := hrel
      have HRR := Aside0.mk hR
      have HR2 := Aside0.mk hr
      have HG2 := Aside0.mk hgw
      have HPP := Aside0.mk hP
      unfold bk_rdr at hr
      have c2 : wr.cell? ⟨r, 2, none⟩ = some (.int .i64 e') := bk_cell hr 2
      obtain ⟨A6, c6, hv6⟩ := Kd.S_slice hR
      subst hv6
      clear hr hR hgw hP
      by_cases hlt : (xs.length : Int) < n
      · have hd : decide ((xs.length : Int) < n) = true := decide_eq_true hlt
        by_cases he : e' = 0
        · subst he
          have hnm' := hnm rfl
          go_wp2_with fail
          refine (bk_block hI hS s j 0 r _ hj hs HR2.out).mono ?_
          rintro en w5 ⟨x, vx, j5, e5, rfl, hvx, hr5, hp5, hg5⟩
          obtain ⟨Ax, cx, hve⟩ := Kd.R_slice hvx
          subst hve
          have HR5 := Aside0.mk hr5
          have HP5 := Aside0.mk hp5
          have hlt0 := Kd.S_lt HRR.out
          have hSS : Kd.S k49 49 w5 w.heap.size (fun k => k ≠ r ∧ ¬ (wr.heap.size ≤ k ∧ k ≠ r ∧ k < w5.heap.size)) (.slice A6 xs.length c6) xs :=
            Kd.S_mono (Kd.S_grown (Kd.S_bound HRR.out) hg5 (fun k hk he => hk.1 (Option.some.inj he))) (fun k hk => ⟨hk.1, fun h => by have := hk.2.2.1; omega⟩)
          have hgw5 := bk_grown_trans HG2.out hg5
          have hrw : r < w5.heap.size := blk_lt hr5
          have hrne : some r ≠ (Value.slice A6 xs.length c6).ownBlock := Kd.S_ne hSS (show w5.heap[r]? = some (.cells _ 121 (0, 0)) from hr5) (by decide)
          have hM := k49_mkM w5 w.heap.size (fun k => wr.heap.size ≤ k ∧ k ≠ r ∧ k < w5.heap.size) x (Kd.R_lower (Kd.R_mono (ok' := fun k => wr.heap.size ≤ k ∧ k ≠ r ∧ k < w5.heap.size) (Kd.R_bound hvx) (fun k hk => ⟨hk.2.1, hk.1, hk.2.2.1⟩)) HG2.out.size)
          have HM := Aside0.mk hM
          have HSS := Aside0.mk hSS
          have HGW5 := Aside0.mk hgw5
          have hbs := hgw5.size
          have hon : ∀ k, (wr.heap.size ≤ k ∧ k ≠ r ∧ k < w5.heap.size) → k ≠ r ∧ some k ≠ (Value.slice A6 xs.length c6).ownBlock := fun k hk => ⟨hk.2.1, fun h => by have := hlt0 k h.symm; omega⟩
          have HON := Aside0.mk hon
          clear hr5 hp5 hg5 hM hSS hgw5 hvx hlt0 hon
          unfold bk_cells
          go_wp2_with (at_builtin; refine Rg.stop_here ?_)
          refine ⟨?_⟩
          refine Kd.S_append k49 (w0 := w5) w.heap.size rfl (.tmp 40) (.tmp 43) 23 49 _ 96 rfl Tryz.underlying23 bk_info26 rfl (by decide) (by omega) (.slice A6 xs.length c6) xs x _ (fun k => k ≠ r) (fun k => wr.heap.size ≤ k ∧ k ≠ r ∧ k < w5.heap.size) rfl rfl HM.out HON.out (fun k hk => by omega) HSS.out (Below.refl _ _) hbs (by omega) ?_
          intro v1 w6 hR6 hb6 hg6 _
          have hr6 := blk_grown HR5.out hg6 hrne
          obtain ⟨A7, c7, hv7⟩ := Kd.S_slice hR6
          subst hv7
          rw [List.length_append, List.length_singleton] at hR6
          go_wp2_with fail
          go_roundw
          case rel => exact ⟨xs.length + 1, xs ++ [x], j5, e5, by go_num, by simp, by omega, fun _ => hnm', hR6, hr6, bk_grown_base HGW5.out hb6, HP5.out.1, fun ys j2 e2 h => by
            rw [List.append_assoc]
            refine HPP.out _ _ _ ?_
            rw [show n.toNat - xs.length = (n.toNat - (xs.length + 1)) + 1 by omega]
            exact bk_Post.bind (next := fun x l => rdBind (rdN rdB (n.toNat - (xs.length + 1))) (fun xs l => .ok (x :: xs, l)) l) HP5.out (bk_Post.bind (next := fun xs l => .ok (x :: xs, l)) h (bk_Post.pure _ _ _ _ h.1))⟩
          case measure => simp [intOf]; omega
        · have hne : (e' == 0) = false := by simpa using he
          go_wp2_with fail
          go_ret
          have := HPP.out [] j e' (bk_Post.err hj he)
          rw [List.append_nil] at this
          exact ⟨xs, _, j, e', rfl, HRR.out, HR2.out, HP1.out.list HCASE.out this, HG2.out⟩
      · have hd : decide ((xs.length : Int) < n) = false := decide_eq_false hlt
        go_wp2_with fail
        go_ret
        have := HPP.out [] j e' (by rw [show n.toNat - xs.length = 0 by omega]; exact bk_Post.pure _ _ _ _ hj)
        rw [List.append_nil] at this
        exact ⟨xs, _, rfl, HRR.out, j, e', HR2.out, HP1.out.list HCASE.out this, HG2.out⟩
end Go.Proofs.YtkhgdglaophkbaaGreatDoor.PK
end
section
set_option linter.unusedVariables false
set_option linter.unusedSimpArgs false
namespace Go.Proofs.YtkhgdglaophkbaaGreatDoor.PK
open Go.RowKit Go.Proofs.YtkhgdglaophkbaaGreatDoorW.PrintWords Go.Proofs.YtkhgdglaophkbaaGreatDoorW.PrintLast Go.Proofs.YtkhgdglaophkbaaGreatDoorW.PrintMore
structure Kp (S : Nat → Prop) (w w' : World) : Prop where mk ::
  os : w'.os = w.os
  tape : w'.tape = w.tape
  output : w'.output = w.output
  kept : Kept w w' S
section
variable {S S' : Nat → Prop} {w w1 w2 : World}
theorem Kp.refl (S : Nat → Prop) (w : World) : Kp S w w := ⟨rfl, rfl, rfl, Kept.refl w S⟩
theorem Kp.trans (h : Kp S w w1) (k : Kp S' w1 w2) (hs : ∀ k, S' k → S k ∨ w.heap.size ≤ k) : Kp S w w2 := ⟨k.os.trans h.os, k.tape.trans h.tape, k.output.trans h.output, h.kept.then_ k.kept hs⟩
theorem Kp.step (h : Kp S w w1) (k : Kp S w1 w2) : Kp S w w2 := h.trans k (fun _ h => .inl h)
theorem Kp.mono (h : Kp S w w1) (hs : ∀ k, S k → S' k) : Kp S' w w1 := ⟨h.os, h.tape, h.output, h.kept.mono hs⟩
theorem Kp.of_below (S : Nat → Prop) (h : Below w.heap.size w w1) : Kp S w w1 := ⟨h.os, h.tape, h.output, Kept.of_below h S⟩
theorem Kp.below {B : Nat} (h : Kp S w w1) (hB : B ≤ w.heap.size) (hs : ∀ k, S k → B ≤ k) : Below B w w1 :=
  ⟨h.os, h.tape, h.output, h.kept.1, fun k hk => h.kept.2 k (by omega) (fun hS => by have := hs k hS; omega)⟩
theorem Kp.size (h : Kp S w w1) : w.heap.size ≤ w1.heap.size := h.kept.1
theorem Kp.set (h : Kp S w w1) {p : Addr} (hp : S p.block ∨ w.heap.size ≤ p.block) (u : Value) : Kp S w (w1.setCell p u) :=
  ⟨h.os, h.tape, h.output, h.kept.setCell hp u⟩
theorem Kp.drewN (h : Kp S w w1) (m : Nat) : Kp S w (w1.drewN m) := ⟨h.os, h.tape, h.output, h.kept⟩
theorem Kp.then_below (h : Kp S w w1) (hb : Below w1.heap.size w1 w2) : Kp S w w2 := h.trans (Kp.of_below (fun _ => False) hb) (fun _ h => h.elim)
end
theorem rg_tail {P : Program} {id : Nat} {Q : Exit → Act → World → Prop} {a : Act} {w : World} {l : List Oper} (n : Nat) (hm : P.follows .mixedOrders = true) (hB : Region.lexTailB .any l.toArray n = true)
    (h : wpStill P l.toArray w.drew (fun a' => wpList P l.toArray Q (l.drop n) a' w.drew) (l.take n) a) : (Code.region id l.toArray true).wp P Q a w := wp_region_still_tail n hm hB h
def Shp (b : Nat) (w w' : World) : Prop := ∀ (cs : Array Value) (t : TypeId), w.heap[b]? = some (.cells cs t (0, 0)) → ∃ cs' : Array Value, w'.heap[b]? = some (.cells cs' t (0, 0)) ∧ cs'.size = cs.size
theorem Shp.of_eq {b : Nat} {w w' : World} (h : w'.heap[b]? = w.heap[b]?) : Shp b w w' := fun cs t hc => ⟨cs, h.trans hc, rfl⟩
theorem Shp.of_set {b o : Nat} {v : Value} {w w' : World} (h : w'.heap[b]? = (w.setCell ⟨b, o, none⟩ v).heap[b]?) : Shp b w w' := fun cs t hc => ⟨_, h.trans (blk_set hc o v), by simp⟩
def FaB (b : Nat) (w : World) : Prop := ∃ cs : Array Value, w.heap[b]? = some (.cells cs 28 (0, 0)) ∧ cs.size = 23
def stopV (e : Int) : Value := .iface 69 (.agg #[.int .i64 e])
def stopC (e : Int) : List PanicEntry := [{ v := stopV e, recovered := false }]
def Post {σ α : Type} (R : σ → World → Prop) (B0 : Nat) (Pv : Nat → Prop) (x : Except Int (α × σ)) (enc : α → Value) (b o : Nat) (w : World) (e : Ending) (w' : World) : Prop := match x with
  | .ok (v, s) => e = .returned (.tuple #[]) ∧ R s w' ∧ w'.heap[b]? = (w.setCell ⟨b, o, none⟩ (enc v)).heap[b]? ∧ Kp (fun k => Pv k ∨ k = b) w w'
  | .error er => e = .panicked (stopC er) ∧ Kp (fun k => Pv k ∨ k = b) w w' ∧ Shp b w w'
def PostB {σ : Type} (R : σ → World → Prop) (B0 : Nat) (Pv ok : Nat → Prop) (x : Except Int (List Bl × σ)) (b o : Nat) (w : World) (e : Ending) (w' : World) : Prop := match x with
  | .ok (l, s) => e = .returned (.tuple #[]) ∧ R s w' ∧ (∃ u, w'.heap[b]? = (w.setCell ⟨b, o, none⟩ u).heap[b]? ∧ Kd.V k49 0 w' 0 (fun k => ok k ∨ w.heap.size ≤ k) u l) ∧ Kp (fun k => Pv k ∨ k = b) w w'
  | .error er => e = .panicked (stopC er) ∧ Kp (fun k => Pv k ∨ k = b) w w' ∧ Shp b w w'
structure Drv (σ : Type) where mk ::
  c : Cd σ
  len : σ → Nat
  nf : Nat
  tf : Nat
  cf : Nat
  bf : Nat
  nc : Array Value
  tc : Array Value
  cc : Array Value
  bc : Array Value
  R : σ → World → Prop
  B0 : Nat
  Pv : Nat → Prop
  pvB : ∀ k, Pv k → B0 ≤ k
  keep : ∀ {s w w'}, R s w → (∀ k, Pv k → w'.heap[k]? = w.heap[k]?) → R s w'
  pvlt : ∀ {s w k}, R s w → Pv k → k < w.heap.size
  eN : ∀ (args : Array Value) (w : World), (callFunc nf args).run Tryz.prog w = .ok (.enter nf args) w
  eT : ∀ (args : Array Value) (w : World), (callFunc tf args).run Tryz.prog w = .ok (.enter tf args) w
  eC : ∀ (args : Array Value) (w : World), (callFunc cf args).run Tryz.prog w = .ok (.enter cf args) w
  eB : ∀ (args : Array Value) (w : World), (callFunc bf args).run Tryz.prog w = .ok (.enter bf args) w
  lN : ∀ {v s v' s'}, c.num v s = .ok (v', s') → len s' ≤ len s + 70000
  lT : ∀ {v s v' s'}, c.txt v s = .ok (v', s') → len s' ≤ len s + 70000
  lC : ∀ {m v s v' s'}, c.cnt m v s = .ok (v', s') → len s' ≤ len s + 70000
  lB : ∀ {v s v' s'}, c.blk v s = .ok (v', s') → len s' ≤ len s + 70000
  cC : ∀ {m v s v' s'}, c.cnt m v s = .ok (v', s') → v' = v ∨ (0 ≤ v' ∧ v' ≤ m)
  num : ∀ (s : σ) (w : World) (b o : Nat) (v : Int), R s w → B0 ≤ b → ¬ Pv b → w.cell? ⟨b, o, none⟩ = some (.int .i64 v) → w.frozen? ⟨b, o, none⟩ = false → len s ≤ 1000000000 →
    Calls Tryz.prog nf (#[.pointer (some ⟨b, o, none⟩)] ++ nc) w (Post R B0 Pv (c.num v s) (Value.int .i64) b o w)
  txt : ∀ (s : σ) (w : World) (b o : Nat) (v : ByteArray), R s w → B0 ≤ b → ¬ Pv b → w.cell? ⟨b, o, none⟩ = some (.string v) → w.frozen? ⟨b, o, none⟩ = false → len s ≤ 1000000000 →
    Calls Tryz.prog tf (#[.pointer (some ⟨b, o, none⟩)] ++ tc) w (Post R B0 Pv (c.txt v s) Value.string b o w)
  cnt : ∀ (s : σ) (w : World) (b o : Nat) (v m : Int), R s w → B0 ≤ b → ¬ Pv b → w.cell? ⟨b, o, none⟩ = some (.int .i64 v) → w.frozen? ⟨b, o, none⟩ = false → len s ≤ 1000000000 →
    Calls Tryz.prog cf (#[.pointer (some ⟨b, o, none⟩), .int .i64 m] ++ cc) w (Post R B0 Pv (c.cnt m v s) (Value.int .i64) b o w)
  blk : ∀ (s : σ) (w : World) (b o : Nat) (u : Value) (l : List Bl) (ok : Nat → Prop), R s w → B0 ≤ b → ¬ Pv b → w.cell? ⟨b, o, none⟩ = some u → w.frozen? ⟨b, o, none⟩ = false → len s ≤ 1000000000 →
    (∀ k, ok k → ¬ Pv k ∧ k ≠ b) → Kd.V k49 0 w 0 ok u l → Calls Tryz.prog bf (#[.pointer (some ⟨b, o, none⟩)] ++ bc) w (PostB R B0 Pv ok (c.blk l s) b o w)
def Drv.val {σ : Type} (D : Drv σ) : Value := .agg #[.func (.func D.nf) #[] D.nc, .func (.func D.tf) #[] D.tc, .func (.func D.cf) #[] D.cc, .func (.func D.bf) #[] D.bc]
def FBk (Pv : Nat → Prop) (w : World) (b : Nat) (f : Fa) : Prop := ∃ v9 v10 v12, w.heap[b]? = some (.cells (fa_cells f v9 v10 v12) 28 (0, 0)) ∧
  Kd.V Kd.string 0 w 0 (fun k => (¬ Pv k ∧ k ≠ b) ∧ k < w.heap.size) v9 f.f9 ∧ Kd.V k49 0 w 0 (fun k => (¬ Pv k ∧ k ≠ b) ∧ k < w.heap.size) v10 f.f10 ∧ Kd.V (Kd.int .i64) 0 w 0 (fun k => (¬ Pv k ∧ k ≠ b) ∧ k < w.heap.size) v12 f.f11.f1
theorem V_kp {α : Type} {d : Kd α} {w w' : World} {Pv : Nat → Prop} {b : Nat} {v : Value} {xs : List α} (h : Kd.V d 0 w 0 (fun k => (¬ Pv k ∧ k ≠ b) ∧ k < w.heap.size) v xs) (hk : Kp (fun k => Pv k ∨ k = b) w w') :
    Kd.V d 0 w' 0 (fun k => (¬ Pv k ∧ k ≠ b) ∧ k < w'.heap.size) v xs :=
  Kd.V_mono (Kd.V_step h (fun k hk1 hlt => hk.kept.2 k hlt (fun hS => hS.elim hk1.1.1 hk1.1.2))) (fun k hk1 => ⟨hk1.1, Nat.lt_of_lt_of_le hk1.2 hk.size⟩)
def StepP {σ : Type} (D : Drv σ) (b : Nat) (w : World) (v : Value) (x : Except Int (Fa × σ)) (e : Ending) (w' : World) : Prop := match x with
  | .ok (f, s) => e = .returned v ∧ D.R s w' ∧ FBk D.Pv w' b f ∧ Kp (fun k => D.Pv k ∨ k = b) w w'
  | .error er => e = .panicked (stopC er) ∧ Kp (fun k => D.Pv k ∨ k = b) w w' ∧ FaB b w'
theorem StepP_err {σ : Type} {D : Drv σ} {b : Nat} {w w' : World} {v : Value} {er : Int} (h : Kp (fun k => D.Pv k ∨ k = b) w w') (h2 : FaB b w') : StepP D b w v (.error er) (.panicked (stopC er)) w' := ⟨rfl, h, h2⟩
theorem FBk_FaB {Pv : Nat → Prop} {w w' : World} {b : Nat} {f : Fa} (h : FBk Pv w b f) (hs : Shp b w w') : FaB b w' := by
  obtain ⟨v9, v10, v12, h0, _⟩ := h
  obtain ⟨cs', h1, h2⟩ := hs _ _ h0
  exact ⟨cs', h1, h2⟩
theorem FBk_below {Pv : Nat → Prop} {w w' : World} {b : Nat} {f : Fa} (h : FBk Pv w b f) (hb : Below w.heap.size w w') : FBk Pv w' b f := by
  obtain ⟨v9, v10, v12, h0, h9, h10, h12⟩ := h
  exact ⟨v9, v10, v12, blk_below h0 hb, V_kp h9 (Kp.of_below _ hb), V_kp h10 (Kp.of_below _ hb), V_kp h12 (Kp.of_below _ hb)⟩
theorem FBk_drew {Pv : Nat → Prop} {w : World} {b : Nat} {f : Fa} (h : FBk Pv w b f) : FBk Pv w.drew b f := FBk_below h (below_drew (Below.refl _ _))
section
variable {σ : Type} {D : Drv σ} {w w' : World} {b : Nat} {f : Fa} {s : σ}
theorem Drv.R_below (hR : D.R s w) (hb : Below w.heap.size w w') : D.R s w' := D.keep hR (fun k hk => hb.block k (D.pvlt hR hk))
theorem Drv.R_drew (hR : D.R s w) : D.R s w.drew := D.keep hR (fun _ _ => rfl)
theorem FB_f0 {x : Int} {Pv : Nat → Prop} (h : FBk Pv w b f) (hk : Kp (fun k => Pv k ∨ k = b) w w') (hb : w'.heap[b]? = (w.setCell ⟨b, 0, none⟩ (.int .i64 x)).heap[b]?) : FBk Pv w' b { f with f0 := x } := by
  obtain ⟨v9, v10, v12, h0, h9, h10, h12⟩ := h
  exact ⟨v9, v10, v12, by rw [hb, blk_set h0 0 _]; rfl, V_kp h9 hk, V_kp h10 hk, V_kp h12 hk⟩
theorem FBc_f0 {Pv : Nat → Prop} (h : FBk Pv w b f) : w.cell? ⟨b, 0, none⟩ = some (.int .i64 f.f0) ∧ w.frozen? ⟨b, 0, none⟩ = false := by
  obtain ⟨v9, v10, v12, h0, h9, h10, h12⟩ := h
  exact ⟨bk_cell h0 0, bk_frozen h0 0⟩
theorem FB_f1 {x : Int} {Pv : Nat → Prop} (h : FBk Pv w b f) (hk : Kp (fun k => Pv k ∨ k = b) w w') (hb : w'.heap[b]? = (w.setCell ⟨b, 1, none⟩ (.int .i64 x)).heap[b]?) : FBk Pv w' b { f with f1 := x } := by
  obtain ⟨v9, v10, v12, h0, h9, h10, h12⟩ := h
  exact ⟨v9, v10, v12, by rw [hb, blk_set h0 1 _]; rfl, V_kp h9 hk, V_kp h10 hk, V_kp h12 hk⟩
theorem FBc_f1 {Pv : Nat → Prop} (h : FBk Pv w b f) : w.cell? ⟨b, 1, none⟩ = some (.int .i64 f.f1) ∧ w.frozen? ⟨b, 1, none⟩ = false := by
  obtain ⟨v9, v10, v12, h0, h9, h10, h12⟩ := h
  exact ⟨bk_cell h0 1, bk_frozen h0 1⟩
theorem FB_f2 {x : Int} {Pv : Nat → Prop} (h : FBk Pv w b f) (hk : Kp (fun k => Pv k ∨ k = b) w w') (hb : w'.heap[b]? = (w.setCell ⟨b, 2, none⟩ (.int .i64 x)).heap[b]?) : FBk Pv w' b { f with f2 := x } := by
  obtain ⟨v9, v10, v12, h0, h9, h10, h12⟩ := h
  exact ⟨v9, v10, v12, by rw [hb, blk_set h0 2 _]; rfl, V_kp h9 hk, V_kp h10 hk, V_kp h12 hk⟩
theorem FBc_f2 {Pv : Nat → Prop} (h : FBk Pv w b f) : w.cell? ⟨b, 2, none⟩ = some (.int .i64 f.f2) ∧ w.frozen? ⟨b, 2, none⟩ = false := by
  obtain ⟨v9, v10, v12, h0, h9, h10, h12⟩ := h
  exact ⟨bk_cell h0 2, bk_frozen h0 2⟩
theorem FB_f3 {x : Int} {Pv : Nat → Prop} (h : FBk Pv w b f) (hk : Kp (fun k => Pv k ∨ k = b) w w') (hb : w'.heap[b]? = (w.setCell ⟨b, 3, none⟩ (.int .i64 x)).heap[b]?) : FBk Pv w' b { f with f3 := x } := by
  obtain ⟨v9, v10, v12, h0, h9, h10, h12⟩ := h
  exact ⟨v9, v10, v12, by rw [hb, blk_set h0 3 _]; rfl, V_kp h9 hk, V_kp h10 hk, V_kp h12 hk⟩
theorem FBc_f3 {Pv : Nat → Prop} (h : FBk Pv w b f) : w.cell? ⟨b, 3, none⟩ = some (.int .i64 f.f3) ∧ w.frozen? ⟨b, 3, none⟩ = false := by
  obtain ⟨v9, v10, v12, h0, h9, h10, h12⟩ := h
  exact ⟨bk_cell h0 3, bk_frozen h0 3⟩
theorem FB_f5 {x : Int} {Pv : Nat → Prop} (h : FBk Pv w b f) (hk : Kp (fun k => Pv k ∨ k = b) w w') (hb : w'.heap[b]? = (w.setCell ⟨b, 5, none⟩ (.int .i64 x)).heap[b]?) : FBk Pv w' b { f with f5 := x } := by
  obtain ⟨v9, v10, v12, h0, h9, h10, h12⟩ := h
  exact ⟨v9, v10, v12, by rw [hb, blk_set h0 5 _]; rfl, V_kp h9 hk, V_kp h10 hk, V_kp h12 hk⟩
theorem FBc_f5 {Pv : Nat → Prop} (h : FBk Pv w b f) : w.cell? ⟨b, 5, none⟩ = some (.int .i64 f.f5) ∧ w.frozen? ⟨b, 5, none⟩ = false := by
  obtain ⟨v9, v10, v12, h0, h9, h10, h12⟩ := h
  exact ⟨bk_cell h0 5, bk_frozen h0 5⟩
theorem FB_f6 {x : Int} {Pv : Nat → Prop} (h : FBk Pv w b f) (hk : Kp (fun k => Pv k ∨ k = b) w w') (hb : w'.heap[b]? = (w.setCell ⟨b, 6, none⟩ (.int .i64 x)).heap[b]?) : FBk Pv w' b { f with f6 := x } := by
  obtain ⟨v9, v10, v12, h0, h9, h10, h12⟩ := h
  exact ⟨v9, v10, v12, by rw [hb, blk_set h0 6 _]; rfl, V_kp h9 hk, V_kp h10 hk, V_kp h12 hk⟩
theorem FBc_f6 {Pv : Nat → Prop} (h : FBk Pv w b f) : w.cell? ⟨b, 6, none⟩ = some (.int .i64 f.f6) ∧ w.frozen? ⟨b, 6, none⟩ = false := by
  obtain ⟨v9, v10, v12, h0, h9, h10, h12⟩ := h
  exact ⟨bk_cell h0 6, bk_frozen h0 6⟩
theorem FB_f12 {x : Int} {Pv : Nat → Prop} (h : FBk Pv w b f) (hk : Kp (fun k => Pv k ∨ k = b) w w') (hb : w'.heap[b]? = (w.setCell ⟨b, 15, none⟩ (.int .i64 x)).heap[b]?) : FBk Pv w' b { f with f12 := x } := by
  obtain ⟨v9, v10, v12, h0, h9, h10, h12⟩ := h
  exact ⟨v9, v10, v12, by rw [hb, blk_set h0 15 _]; rfl, V_kp h9 hk, V_kp h10 hk, V_kp h12 hk⟩
theorem FBc_f12 {Pv : Nat → Prop} (h : FBk Pv w b f) : w.cell? ⟨b, 15, none⟩ = some (.int .i64 f.f12) ∧ w.frozen? ⟨b, 15, none⟩ = false := by
  obtain ⟨v9, v10, v12, h0, h9, h10, h12⟩ := h
  exact ⟨bk_cell h0 15, bk_frozen h0 15⟩
theorem FB_f13 {x : Int} {Pv : Nat → Prop} (h : FBk Pv w b f) (hk : Kp (fun k => Pv k ∨ k = b) w w') (hb : w'.heap[b]? = (w.setCell ⟨b, 16, none⟩ (.int .i64 x)).heap[b]?) : FBk Pv w' b { f with f13 := x } := by
  obtain ⟨v9, v10, v12, h0, h9, h10, h12⟩ := h
  exact ⟨v9, v10, v12, by rw [hb, blk_set h0 16 _]; rfl, V_kp h9 hk, V_kp h10 hk, V_kp h12 hk⟩
theorem FBc_f13 {Pv : Nat → Prop} (h : FBk Pv w b f) : w.cell? ⟨b, 16, none⟩ = some (.int .i64 f.f13) ∧ w.frozen? ⟨b, 16, none⟩ = false := by
  obtain ⟨v9, v10, v12, h0, h9, h10, h12⟩ := h
  exact ⟨bk_cell h0 16, bk_frozen h0 16⟩
theorem FB_f14 {x : Int} {Pv : Nat → Prop} (h : FBk Pv w b f) (hk : Kp (fun k => Pv k ∨ k = b) w w') (hb : w'.heap[b]? = (w.setCell ⟨b, 17, none⟩ (.int .i64 x)).heap[b]?) : FBk Pv w' b { f with f14 := x } := by
  obtain ⟨v9, v10, v12, h0, h9, h10, h12⟩ := h
  exact ⟨v9, v10, v12, by rw [hb, blk_set h0 17 _]; rfl, V_kp h9 hk, V_kp h10 hk, V_kp h12 hk⟩
theorem FBc_f14 {Pv : Nat → Prop} (h : FBk Pv w b f) : w.cell? ⟨b, 17, none⟩ = some (.int .i64 f.f14) ∧ w.frozen? ⟨b, 17, none⟩ = false := by
  obtain ⟨v9, v10, v12, h0, h9, h10, h12⟩ := h
  exact ⟨bk_cell h0 17, bk_frozen h0 17⟩
theorem FB_f17 {x : Int} {Pv : Nat → Prop} (h : FBk Pv w b f) (hk : Kp (fun k => Pv k ∨ k = b) w w') (hb : w'.heap[b]? = (w.setCell ⟨b, 20, none⟩ (.int .i64 x)).heap[b]?) : FBk Pv w' b { f with f17 := x } := by
  obtain ⟨v9, v10, v12, h0, h9, h10, h12⟩ := h
  exact ⟨v9, v10, v12, by rw [hb, blk_set h0 20 _]; rfl, V_kp h9 hk, V_kp h10 hk, V_kp h12 hk⟩
theorem FBc_f17 {Pv : Nat → Prop} (h : FBk Pv w b f) : w.cell? ⟨b, 20, none⟩ = some (.int .i64 f.f17) ∧ w.frozen? ⟨b, 20, none⟩ = false := by
  obtain ⟨v9, v10, v12, h0, h9, h10, h12⟩ := h
  exact ⟨bk_cell h0 20, bk_frozen h0 20⟩
theorem FB_f18 {x : Int} {Pv : Nat → Prop} (h : FBk Pv w b f) (hk : Kp (fun k => Pv k ∨ k = b) w w') (hb : w'.heap[b]? = (w.setCell ⟨b, 21, none⟩ (.int .i64 x)).heap[b]?) : FBk Pv w' b { f with f18 := x } := by
  obtain ⟨v9, v10, v12, h0, h9, h10, h12⟩ := h
  exact ⟨v9, v10, v12, by rw [hb, blk_set h0 21 _]; rfl, V_kp h9 hk, V_kp h10 hk, V_kp h12 hk⟩
theorem FBc_f18 {Pv : Nat → Prop} (h : FBk Pv w b f) : w.cell? ⟨b, 21, none⟩ = some (.int .i64 f.f18) ∧ w.frozen? ⟨b, 21, none⟩ = false := by
  obtain ⟨v9, v10, v12, h0, h9, h10, h12⟩ := h
  exact ⟨bk_cell h0 21, bk_frozen h0 21⟩
theorem FB_f19 {x : Int} {Pv : Nat → Prop} (h : FBk Pv w b f) (hk : Kp (fun k => Pv k ∨ k = b) w w') (hb : w'.heap[b]? = (w.setCell ⟨b, 22, none⟩ (.int .i64 x)).heap[b]?) : FBk Pv w' b { f with f19 := x } := by
  obtain ⟨v9, v10, v12, h0, h9, h10, h12⟩ := h
  exact ⟨v9, v10, v12, by rw [hb, blk_set h0 22 _]; rfl, V_kp h9 hk, V_kp h10 hk, V_kp h12 hk⟩
theorem FBc_f19 {Pv : Nat → Prop} (h : FBk Pv w b f) : w.cell? ⟨b, 22, none⟩ = some (.int .i64 f.f19) ∧ w.frozen? ⟨b, 22, none⟩ = false := by
  obtain ⟨v9, v10, v12, h0, h9, h10, h12⟩ := h
  exact ⟨bk_cell h0 22, bk_frozen h0 22⟩
theorem FB_f4 {x : ByteArray} {Pv : Nat → Prop} (h : FBk Pv w b f) (hk : Kp (fun k => Pv k ∨ k = b) w w') (hb : w'.heap[b]? = (w.setCell ⟨b, 4, none⟩ (.string x)).heap[b]?) : FBk Pv w' b { f with f4 := x } := by
  obtain ⟨v9, v10, v12, h0, h9, h10, h12⟩ := h
  exact ⟨v9, v10, v12, by rw [hb, blk_set h0 4 _]; rfl, V_kp h9 hk, V_kp h10 hk, V_kp h12 hk⟩
theorem FBc_f4 {Pv : Nat → Prop} (h : FBk Pv w b f) : w.cell? ⟨b, 4, none⟩ = some (.string f.f4) ∧ w.frozen? ⟨b, 4, none⟩ = false := by
  obtain ⟨v9, v10, v12, h0, h9, h10, h12⟩ := h
  exact ⟨bk_cell h0 4, bk_frozen h0 4⟩
theorem FB_f7 {x : ByteArray} {Pv : Nat → Prop} (h : FBk Pv w b f) (hk : Kp (fun k => Pv k ∨ k = b) w w') (hb : w'.heap[b]? = (w.setCell ⟨b, 7, none⟩ (.string x)).heap[b]?) : FBk Pv w' b { f with f7 := x } := by
  obtain ⟨v9, v10, v12, h0, h9, h10, h12⟩ := h
  exact ⟨v9, v10, v12, by rw [hb, blk_set h0 7 _]; rfl, V_kp h9 hk, V_kp h10 hk, V_kp h12 hk⟩
theorem FBc_f7 {Pv : Nat → Prop} (h : FBk Pv w b f) : w.cell? ⟨b, 7, none⟩ = some (.string f.f7) ∧ w.frozen? ⟨b, 7, none⟩ = false := by
  obtain ⟨v9, v10, v12, h0, h9, h10, h12⟩ := h
  exact ⟨bk_cell h0 7, bk_frozen h0 7⟩
theorem FB_f8 {x : ByteArray} {Pv : Nat → Prop} (h : FBk Pv w b f) (hk : Kp (fun k => Pv k ∨ k = b) w w') (hb : w'.heap[b]? = (w.setCell ⟨b, 8, none⟩ (.string x)).heap[b]?) : FBk Pv w' b { f with f8 := x } := by
  obtain ⟨v9, v10, v12, h0, h9, h10, h12⟩ := h
  exact ⟨v9, v10, v12, by rw [hb, blk_set h0 8 _]; rfl, V_kp h9 hk, V_kp h10 hk, V_kp h12 hk⟩
theorem FBc_f8 {Pv : Nat → Prop} (h : FBk Pv w b f) : w.cell? ⟨b, 8, none⟩ = some (.string f.f8) ∧ w.frozen? ⟨b, 8, none⟩ = false := by
  obtain ⟨v9, v10, v12, h0, h9, h10, h12⟩ := h
  exact ⟨bk_cell h0 8, bk_frozen h0 8⟩
theorem FB_f15 {x : ByteArray} {Pv : Nat → Prop} (h : FBk Pv w b f) (hk : Kp (fun k => Pv k ∨ k = b) w w') (hb : w'.heap[b]? = (w.setCell ⟨b, 18, none⟩ (.string x)).heap[b]?) : FBk Pv w' b { f with f15 := x } := by
  obtain ⟨v9, v10, v12, h0, h9, h10, h12⟩ := h
  exact ⟨v9, v10, v12, by rw [hb, blk_set h0 18 _]; rfl, V_kp h9 hk, V_kp h10 hk, V_kp h12 hk⟩
theorem FBc_f15 {Pv : Nat → Prop} (h : FBk Pv w b f) : w.cell? ⟨b, 18, none⟩ = some (.string f.f15) ∧ w.frozen? ⟨b, 18, none⟩ = false := by
  obtain ⟨v9, v10, v12, h0, h9, h10, h12⟩ := h
  exact ⟨bk_cell h0 18, bk_frozen h0 18⟩
theorem FB_f16 {x : ByteArray} {Pv : Nat → Prop} (h : FBk Pv w b f) (hk : Kp (fun k => Pv k ∨ k = b) w w') (hb : w'.heap[b]? = (w.setCell ⟨b, 19, none⟩ (.string x)).heap[b]?) : FBk Pv w' b { f with f16 := x } := by
  obtain ⟨v9, v10, v12, h0, h9, h10, h12⟩ := h
  exact ⟨v9, v10, v12, by rw [hb, blk_set h0 19 _]; rfl, V_kp h9 hk, V_kp h10 hk, V_kp h12 hk⟩
theorem FBc_f16 {Pv : Nat → Prop} (h : FBk Pv w b f) : w.cell? ⟨b, 19, none⟩ = some (.string f.f16) ∧ w.frozen? ⟨b, 19, none⟩ = false := by
  obtain ⟨v9, v10, v12, h0, h9, h10, h12⟩ := h
  exact ⟨bk_cell h0 19, bk_frozen h0 19⟩
theorem dr_f0 (hR : D.R s w) (hF : FBk D.Pv w b f) (hb : D.B0 ≤ b) (hbP : ¬ D.Pv b) (hl : D.len s ≤ 1000000000) :
    Calls Tryz.prog D.nf (#[.pointer (some ⟨b, 0, none⟩)] ++ D.nc) w (StepP D b w (.tuple #[]) (cB (D.c.num f.f0 s) fun v s => .ok ({ f with f0 := v }, s))) := by
  refine (D.num s w b 0 f.f0 hR hb hbP (FBc_f0 hF).1 (FBc_f0 hF).2 hl).mono ?_
  intro e w1 h
  unfold Post at h
  unfold StepP
  cases hx : D.c.num f.f0 s with
  | error er => rw [hx] at h; exact ⟨h.1, h.2.1, FBk_FaB hF h.2.2⟩
  | ok p =>
    obtain ⟨v, s1⟩ := p
    rw [hx] at h
    
    obtain ⟨h1, h2, h3, h4⟩ := h
    exact ⟨h1, h2, FB_f0 hF h4 h3, h4⟩
theorem dr_f1 (hR : D.R s w) (hF : FBk D.Pv w b f) (hb : D.B0 ≤ b) (hbP : ¬ D.Pv b) (hl : D.len s ≤ 1000000000) :
    Calls Tryz.prog D.nf (#[.pointer (some ⟨b, 1, none⟩)] ++ D.nc) w (StepP D b w (.tuple #[]) (cB (D.c.num f.f1 s) fun v s => .ok ({ f with f1 := v }, s))) := by
  refine (D.num s w b 1 f.f1 hR hb hbP (FBc_f1 hF).1 (FBc_f1 hF).2 hl).mono ?_
  intro e w1 h
  unfold Post at h
  unfold StepP
  cases hx : D.c.num f.f1 s with
  | error er => rw [hx] at h; exact ⟨h.1, h.2.1, FBk_FaB hF h.2.2⟩
  | ok p =>
    obtain ⟨v, s1⟩ := p
    rw [hx] at h
    
    obtain ⟨h1, h2, h3, h4⟩ := h
    exact ⟨h1, h2, FB_f1 hF h4 h3, h4⟩
theorem dr_f2 (hR : D.R s w) (hF : FBk D.Pv w b f) (hb : D.B0 ≤ b) (hbP : ¬ D.Pv b) (hl : D.len s ≤ 1000000000) :
    Calls Tryz.prog D.nf (#[.pointer (some ⟨b, 2, none⟩)] ++ D.nc) w (StepP D b w (.tuple #[]) (cB (D.c.num f.f2 s) fun v s => .ok ({ f with f2 := v }, s))) := by
  refine (D.num s w b 2 f.f2 hR hb hbP (FBc_f2 hF).1 (FBc_f2 hF).2 hl).mono ?_
  intro e w1 h
  unfold Post at h
  unfold StepP
  cases hx : D.c.num f.f2 s with
  | error er => rw [hx] at h; exact ⟨h.1, h.2.1, FBk_FaB hF h.2.2⟩
  | ok p =>
    obtain ⟨v, s1⟩ := p
    rw [hx] at h
    
    obtain ⟨h1, h2, h3, h4⟩ := h
    exact ⟨h1, h2, FB_f2 hF h4 h3, h4⟩
theorem dr_f3 (hR : D.R s w) (hF : FBk D.Pv w b f) (hb : D.B0 ≤ b) (hbP : ¬ D.Pv b) (hl : D.len s ≤ 1000000000) :
    Calls Tryz.prog D.nf (#[.pointer (some ⟨b, 3, none⟩)] ++ D.nc) w (StepP D b w (.tuple #[]) (cB (D.c.num f.f3 s) fun v s => .ok ({ f with f3 := v }, s))) := by
  refine (D.num s w b 3 f.f3 hR hb hbP (FBc_f3 hF).1 (FBc_f3 hF).2 hl).mono ?_
  intro e w1 h
  unfold Post at h
  unfold StepP
  cases hx : D.c.num f.f3 s with
  | error er => rw [hx] at h; exact ⟨h.1, h.2.1, FBk_FaB hF h.2.2⟩
  | ok p =>
    obtain ⟨v, s1⟩ := p
    rw [hx] at h
    
    obtain ⟨h1, h2, h3, h4⟩ := h
    exact ⟨h1, h2, FB_f3 hF h4 h3, h4⟩
theorem dr_f5 (hR : D.R s w) (hF : FBk D.Pv w b f) (hb : D.B0 ≤ b) (hbP : ¬ D.Pv b) (hl : D.len s ≤ 1000000000) :
    Calls Tryz.prog D.nf (#[.pointer (some ⟨b, 5, none⟩)] ++ D.nc) w (StepP D b w (.tuple #[]) (cB (D.c.num f.f5 s) fun v s => .ok ({ f with f5 := v }, s))) := by
  refine (D.num s w b 5 f.f5 hR hb hbP (FBc_f5 hF).1 (FBc_f5 hF).2 hl).mono ?_
  intro e w1 h
  unfold Post at h
  unfold StepP
  cases hx : D.c.num f.f5 s with
  | error er => rw [hx] at h; exact ⟨h.1, h.2.1, FBk_FaB hF h.2.2⟩
  | ok p =>
    obtain ⟨v, s1⟩ := p
    rw [hx] at h
    
    obtain ⟨h1, h2, h3, h4⟩ := h
    exact ⟨h1, h2, FB_f5 hF h4 h3, h4⟩
theorem dr_f6 (hR : D.R s w) (hF : FBk D.Pv w b f) (hb : D.B0 ≤ b) (hbP : ¬ D.Pv b) (hl : D.len s ≤ 1000000000) :
    Calls Tryz.prog D.nf (#[.pointer (some ⟨b, 6, none⟩)] ++ D.nc) w (StepP D b w (.tuple #[]) (cB (D.c.num f.f6 s) fun v s => .ok ({ f with f6 := v }, s))) := by
  refine (D.num s w b 6 f.f6 hR hb hbP (FBc_f6 hF).1 (FBc_f6 hF).2 hl).mono ?_
  intro e w1 h
  unfold Post at h
  unfold StepP
  cases hx : D.c.num f.f6 s with
  | error er => rw [hx] at h; exact ⟨h.1, h.2.1, FBk_FaB hF h.2.2⟩
  | ok p =>
    obtain ⟨v, s1⟩ := p
    rw [hx] at h
    
    obtain ⟨h1, h2, h3, h4⟩ := h
    exact ⟨h1, h2, FB_f6 hF h4 h3, h4⟩
theorem dr_f12 (hR : D.R s w) (hF : FBk D.Pv w b f) (hb : D.B0 ≤ b) (hbP : ¬ D.Pv b) (hl : D.len s ≤ 1000000000) :
    Calls Tryz.prog D.nf (#[.pointer (some ⟨b, 15, none⟩)] ++ D.nc) w (StepP D b w (.tuple #[]) (cB (D.c.num f.f12 s) fun v s => .ok ({ f with f12 := v }, s))) := by
  refine (D.num s w b 15 f.f12 hR hb hbP (FBc_f12 hF).1 (FBc_f12 hF).2 hl).mono ?_
  intro e w1 h
  unfold Post at h
  unfold StepP
  cases hx : D.c.num f.f12 s with
  | error er => rw [hx] at h; exact ⟨h.1, h.2.1, FBk_FaB hF h.2.2⟩
  | ok p =>
    obtain ⟨v, s1⟩ := p
    rw [hx] at h
    
    obtain ⟨h1, h2, h3, h4⟩ := h
    exact ⟨h1, h2, FB_f12 hF h4 h3, h4⟩
theorem dr_f13 (hR : D.R s w) (hF : FBk D.Pv w b f) (hb : D.B0 ≤ b) (hbP : ¬ D.Pv b) (hl : D.len s ≤ 1000000000) :
    Calls Tryz.prog D.nf (#[.pointer (some ⟨b, 16, none⟩)] ++ D.nc) w (StepP D b w (.tuple #[]) (cB (D.c.num f.f13 s) fun v s => .ok ({ f with f13 := v }, s))) := by
  refine (D.num s w b 16 f.f13 hR hb hbP (FBc_f13 hF).1 (FBc_f13 hF).2 hl).mono ?_
  intro e w1 h
  unfold Post at h
  unfold StepP
  cases hx : D.c.num f.f13 s with
  | error er => rw [hx] at h; exact ⟨h.1, h.2.1, FBk_FaB hF h.2.2⟩
  | ok p =>
    obtain ⟨v, s1⟩ := p
    rw [hx] at h
    
    obtain ⟨h1, h2, h3, h4⟩ := h
    exact ⟨h1, h2, FB_f13 hF h4 h3, h4⟩
theorem dr_f14 (hR : D.R s w) (hF : FBk D.Pv w b f) (hb : D.B0 ≤ b) (hbP : ¬ D.Pv b) (hl : D.len s ≤ 1000000000) :
    Calls Tryz.prog D.nf (#[.pointer (some ⟨b, 17, none⟩)] ++ D.nc) w (StepP D b w (.tuple #[]) (cB (D.c.num f.f14 s) fun v s => .ok ({ f with f14 := v }, s))) := by
  refine (D.num s w b 17 f.f14 hR hb hbP (FBc_f14 hF).1 (FBc_f14 hF).2 hl).mono ?_
  intro e w1 h
  unfold Post at h
  unfold StepP
  cases hx : D.c.num f.f14 s with
  | error er => rw [hx] at h; exact ⟨h.1, h.2.1, FBk_FaB hF h.2.2⟩
  | ok p =>
    obtain ⟨v, s1⟩ := p
    rw [hx] at h
    
    obtain ⟨h1, h2, h3, h4⟩ := h
    exact ⟨h1, h2, FB_f14 hF h4 h3, h4⟩
theorem dr_f17 (hR : D.R s w) (hF : FBk D.Pv w b f) (hb : D.B0 ≤ b) (hbP : ¬ D.Pv b) (hl : D.len s ≤ 1000000000) :
    Calls Tryz.prog D.nf (#[.pointer (some ⟨b, 20, none⟩)] ++ D.nc) w (StepP D b w (.tuple #[]) (cB (D.c.num f.f17 s) fun v s => .ok ({ f with f17 := v }, s))) := by
  refine (D.num s w b 20 f.f17 hR hb hbP (FBc_f17 hF).1 (FBc_f17 hF).2 hl).mono ?_
  intro e w1 h
  unfold Post at h
  unfold StepP
  cases hx : D.c.num f.f17 s with
  | error er => rw [hx] at h; exact ⟨h.1, h.2.1, FBk_FaB hF h.2.2⟩
  | ok p =>
    obtain ⟨v, s1⟩ := p
    rw [hx] at h
    
    obtain ⟨h1, h2, h3, h4⟩ := h
    exact ⟨h1, h2, FB_f17 hF h4 h3, h4⟩
theorem dr_f18 (hR : D.R s w) (hF : FBk D.Pv w b f) (hb : D.B0 ≤ b) (hbP : ¬ D.Pv b) (hl : D.len s ≤ 1000000000) :
    Calls Tryz.prog D.nf (#[.pointer (some ⟨b, 21, none⟩)] ++ D.nc) w (StepP D b w (.tuple #[]) (cB (D.c.num f.f18 s) fun v s => .ok ({ f with f18 := v }, s))) := by
  refine (D.num s w b 21 f.f18 hR hb hbP (FBc_f18 hF).1 (FBc_f18 hF).2 hl).mono ?_
  intro e w1 h
  unfold Post at h
  unfold StepP
  cases hx : D.c.num f.f18 s with
  | error er => rw [hx] at h; exact ⟨h.1, h.2.1, FBk_FaB hF h.2.2⟩
  | ok p =>
    obtain ⟨v, s1⟩ := p
    rw [hx] at h
    
    obtain ⟨h1, h2, h3, h4⟩ := h
    exact ⟨h1, h2, FB_f18 hF h4 h3, h4⟩
theorem dr_f19 (hR : D.R s w) (hF : FBk D.Pv w b f) (hb : D.B0 ≤ b) (hbP : ¬ D.Pv b) (hl : D.len s ≤ 1000000000) :
    Calls Tryz.prog D.nf (#[.pointer (some ⟨b, 22, none⟩)] ++ D.nc) w (StepP D b w (.tuple #[]) (cB (D.c.num f.f19 s) fun v s => .ok ({ f with f19 := v }, s))) := by
  refine (D.num s w b 22 f.f19 hR hb hbP (FBc_f19 hF).1 (FBc_f19 hF).2 hl).mono ?_
  intro e w1 h
  unfold Post at h
  unfold StepP
  cases hx : D.c.num f.f19 s with
  | error er => rw [hx] at h; exact ⟨h.1, h.2.1, FBk_FaB hF h.2.2⟩
  | ok p =>
    obtain ⟨v, s1⟩ := p
    rw [hx] at h
    
    obtain ⟨h1, h2, h3, h4⟩ := h
    exact ⟨h1, h2, FB_f19 hF h4 h3, h4⟩
theorem dr_f4 (hR : D.R s w) (hF : FBk D.Pv w b f) (hb : D.B0 ≤ b) (hbP : ¬ D.Pv b) (hl : D.len s ≤ 1000000000) :
    Calls Tryz.prog D.tf (#[.pointer (some ⟨b, 4, none⟩)] ++ D.tc) w (StepP D b w (.tuple #[]) (cB (D.c.txt f.f4 s) fun v s => .ok ({ f with f4 := v }, s))) := by
  refine (D.txt s w b 4 f.f4 hR hb hbP (FBc_f4 hF).1 (FBc_f4 hF).2 hl).mono ?_
  intro e w1 h
  unfold Post at h
  unfold StepP
  cases hx : D.c.txt f.f4 s with
  | error er => rw [hx] at h; exact ⟨h.1, h.2.1, FBk_FaB hF h.2.2⟩
  | ok p =>
    obtain ⟨v, s1⟩ := p
    rw [hx] at h
    
    obtain ⟨h1, h2, h3, h4⟩ := h
    exact ⟨h1, h2, FB_f4 hF h4 h3, h4⟩
theorem dr_f7 (hR : D.R s w) (hF : FBk D.Pv w b f) (hb : D.B0 ≤ b) (hbP : ¬ D.Pv b) (hl : D.len s ≤ 1000000000) :
    Calls Tryz.prog D.tf (#[.pointer (some ⟨b, 7, none⟩)] ++ D.tc) w (StepP D b w (.tuple #[]) (cB (D.c.txt f.f7 s) fun v s => .ok ({ f with f7 := v }, s))) := by
  refine (D.txt s w b 7 f.f7 hR hb hbP (FBc_f7 hF).1 (FBc_f7 hF).2 hl).mono ?_
  intro e w1 h
  unfold Post at h
  unfold StepP
  cases hx : D.c.txt f.f7 s with
  | error er => rw [hx] at h; exact ⟨h.1, h.2.1, FBk_FaB hF h.2.2⟩
  | ok p =>
    obtain ⟨v, s1⟩ := p
    rw [hx] at h
    
    obtain ⟨h1, h2, h3, h4⟩ := h
    exact ⟨h1, h2, FB_f7 hF h4 h3, h4⟩
theorem dr_f8 (hR : D.R s w) (hF : FBk D.Pv w b f) (hb : D.B0 ≤ b) (hbP : ¬ D.Pv b) (hl : D.len s ≤ 1000000000) :
    Calls Tryz.prog D.tf (#[.pointer (some ⟨b, 8, none⟩)] ++ D.tc) w (StepP D b w (.tuple #[]) (cB (D.c.txt f.f8 s) fun v s => .ok ({ f with f8 := v }, s))) := by
  refine (D.txt s w b 8 f.f8 hR hb hbP (FBc_f8 hF).1 (FBc_f8 hF).2 hl).mono ?_
  intro e w1 h
  unfold Post at h
  unfold StepP
  cases hx : D.c.txt f.f8 s with
  | error er => rw [hx] at h; exact ⟨h.1, h.2.1, FBk_FaB hF h.2.2⟩
  | ok p =>
    obtain ⟨v, s1⟩ := p
    rw [hx] at h
    
    obtain ⟨h1, h2, h3, h4⟩ := h
    exact ⟨h1, h2, FB_f8 hF h4 h3, h4⟩
theorem dr_f15 (hR : D.R s w) (hF : FBk D.Pv w b f) (hb : D.B0 ≤ b) (hbP : ¬ D.Pv b) (hl : D.len s ≤ 1000000000) :
    Calls Tryz.prog D.tf (#[.pointer (some ⟨b, 18, none⟩)] ++ D.tc) w (StepP D b w (.tuple #[]) (cB (D.c.txt f.f15 s) fun v s => .ok ({ f with f15 := v }, s))) := by
  refine (D.txt s w b 18 f.f15 hR hb hbP (FBc_f15 hF).1 (FBc_f15 hF).2 hl).mono ?_
  intro e w1 h
  unfold Post at h
  unfold StepP
  cases hx : D.c.txt f.f15 s with
  | error er => rw [hx] at h; exact ⟨h.1, h.2.1, FBk_FaB hF h.2.2⟩
  | ok p =>
    obtain ⟨v, s1⟩ := p
    rw [hx] at h
    
    obtain ⟨h1, h2, h3, h4⟩ := h
    exact ⟨h1, h2, FB_f15 hF h4 h3, h4⟩
theorem dr_f16 (hR : D.R s w) (hF : FBk D.Pv w b f) (hb : D.B0 ≤ b) (hbP : ¬ D.Pv b) (hl : D.len s ≤ 1000000000) :
    Calls Tryz.prog D.tf (#[.pointer (some ⟨b, 19, none⟩)] ++ D.tc) w (StepP D b w (.tuple #[]) (cB (D.c.txt f.f16 s) fun v s => .ok ({ f with f16 := v }, s))) := by
  refine (D.txt s w b 19 f.f16 hR hb hbP (FBc_f16 hF).1 (FBc_f16 hF).2 hl).mono ?_
  intro e w1 h
  unfold Post at h
  unfold StepP
  cases hx : D.c.txt f.f16 s with
  | error er => rw [hx] at h; exact ⟨h.1, h.2.1, FBk_FaB hF h.2.2⟩
  | ok p =>
    obtain ⟨v, s1⟩ := p
    rw [hx] at h
    
    obtain ⟨h1, h2, h3, h4⟩ := h
    exact ⟨h1, h2, FB_f16 hF h4 h3, h4⟩
theorem FB_lf0 {x : Int} {Pv : Nat → Prop} (h : FBk Pv w b f) (hk : Kp (fun k => Pv k ∨ k = b) w w') (hb : w'.heap[b]? = (w.setCell ⟨b, 11, none⟩ (.int .i64 x)).heap[b]?) : FBk Pv w' b { f with f11 := ⟨x, f.f11.f1, f.f11.f2, f.f11.f3⟩ } := by
  obtain ⟨v9, v10, v12, h0, h9, h10, h12⟩ := h
  exact ⟨v9, v10, v12, by rw [hb, blk_set h0 11 _]; rfl, V_kp h9 hk, V_kp h10 hk, V_kp h12 hk⟩
theorem dr_lf0 (hR : D.R s w) (hF : FBk D.Pv w b f) (hb : D.B0 ≤ b) (hbP : ¬ D.Pv b) (hl : D.len s ≤ 1000000000) :
    Calls Tryz.prog D.nf (#[.pointer (some ⟨b, 11, none⟩)] ++ D.nc) w (StepP D b w (.tuple #[]) (cB (D.c.num f.f11.f0 s) fun x s => .ok ({ f with f11 := ⟨x, f.f11.f1, f.f11.f2, f.f11.f3⟩ }, s))) := by
  obtain ⟨v9, v10, v12, h0, h9, h10, h12⟩ := id hF
  refine (D.num s w b 11 f.f11.f0 hR hb hbP (bk_cell h0 11) (bk_frozen h0 11) hl).mono ?_
  intro e w1 h
  unfold Post at h
  unfold StepP
  cases hx : D.c.num f.f11.f0 s with
  | error er => rw [hx] at h; exact ⟨h.1, h.2.1, FBk_FaB hF h.2.2⟩
  | ok p =>
    obtain ⟨v, s1⟩ := p
    rw [hx] at h
    obtain ⟨h1, h2, h3, h4⟩ := h
    exact ⟨h1, h2, FB_lf0 hF h4 h3, h4⟩
theorem FB_lf2 {x : Int} {Pv : Nat → Prop} (h : FBk Pv w b f) (hk : Kp (fun k => Pv k ∨ k = b) w w') (hb : w'.heap[b]? = (w.setCell ⟨b, 13, none⟩ (.int .i64 x)).heap[b]?) : FBk Pv w' b { f with f11 := ⟨f.f11.f0, f.f11.f1, x, f.f11.f3⟩ } := by
  obtain ⟨v9, v10, v12, h0, h9, h10, h12⟩ := h
  exact ⟨v9, v10, v12, by rw [hb, blk_set h0 13 _]; rfl, V_kp h9 hk, V_kp h10 hk, V_kp h12 hk⟩
theorem dr_lf2 (hR : D.R s w) (hF : FBk D.Pv w b f) (hb : D.B0 ≤ b) (hbP : ¬ D.Pv b) (hl : D.len s ≤ 1000000000) :
    Calls Tryz.prog D.nf (#[.pointer (some ⟨b, 13, none⟩)] ++ D.nc) w (StepP D b w (.tuple #[]) (cB (D.c.num f.f11.f2 s) fun x s => .ok ({ f with f11 := ⟨f.f11.f0, f.f11.f1, x, f.f11.f3⟩ }, s))) := by
  obtain ⟨v9, v10, v12, h0, h9, h10, h12⟩ := id hF
  refine (D.num s w b 13 f.f11.f2 hR hb hbP (bk_cell h0 13) (bk_frozen h0 13) hl).mono ?_
  intro e w1 h
  unfold Post at h
  unfold StepP
  cases hx : D.c.num f.f11.f2 s with
  | error er => rw [hx] at h; exact ⟨h.1, h.2.1, FBk_FaB hF h.2.2⟩
  | ok p =>
    obtain ⟨v, s1⟩ := p
    rw [hx] at h
    obtain ⟨h1, h2, h3, h4⟩ := h
    exact ⟨h1, h2, FB_lf2 hF h4 h3, h4⟩
theorem FB_lf3 {x : Int} {Pv : Nat → Prop} (h : FBk Pv w b f) (hk : Kp (fun k => Pv k ∨ k = b) w w') (hb : w'.heap[b]? = (w.setCell ⟨b, 14, none⟩ (.int .i64 x)).heap[b]?) : FBk Pv w' b { f with f11 := ⟨f.f11.f0, f.f11.f1, f.f11.f2, x⟩ } := by
  obtain ⟨v9, v10, v12, h0, h9, h10, h12⟩ := h
  exact ⟨v9, v10, v12, by rw [hb, blk_set h0 14 _]; rfl, V_kp h9 hk, V_kp h10 hk, V_kp h12 hk⟩
theorem dr_lf3 (hR : D.R s w) (hF : FBk D.Pv w b f) (hb : D.B0 ≤ b) (hbP : ¬ D.Pv b) (hl : D.len s ≤ 1000000000) :
    Calls Tryz.prog D.nf (#[.pointer (some ⟨b, 14, none⟩)] ++ D.nc) w (StepP D b w (.tuple #[]) (cB (D.c.num f.f11.f3 s) fun x s => .ok ({ f with f11 := ⟨f.f11.f0, f.f11.f1, f.f11.f2, x⟩ }, s))) := by
  obtain ⟨v9, v10, v12, h0, h9, h10, h12⟩ := id hF
  refine (D.num s w b 14 f.f11.f3 hR hb hbP (bk_cell h0 14) (bk_frozen h0 14) hl).mono ?_
  intro e w1 h
  unfold Post at h
  unfold StepP
  cases hx : D.c.num f.f11.f3 s with
  | error er => rw [hx] at h; exact ⟨h.1, h.2.1, FBk_FaB hF h.2.2⟩
  | ok p =>
    obtain ⟨v, s1⟩ := p
    rw [hx] at h
    obtain ⟨h1, h2, h3, h4⟩ := h
    exact ⟨h1, h2, FB_lf3 hF h4 h3, h4⟩
theorem dr_f10 (hR : D.R s w) (hF : FBk D.Pv w b f) (hb : D.B0 ≤ b) (hbP : ¬ D.Pv b) (hl : D.len s ≤ 1000000000) :
    Calls Tryz.prog D.bf (#[.pointer (some ⟨b, 10, none⟩)] ++ D.bc) w (StepP D b w (.tuple #[]) (cB (D.c.blk f.f10 s) fun v s => .ok ({ f with f10 := v }, s))) := by
  obtain ⟨v9, v10, v12, h0, h9, h10, h12⟩ := id hF
  refine (D.blk s w b 10 v10 f.f10 _ hR hb hbP (bk_cell h0 10) (bk_frozen h0 10) hl (fun k hk => hk.1) h10).mono ?_
  intro e w1 h
  unfold PostB at h
  unfold StepP
  cases hx : D.c.blk f.f10 s with
  | error er => rw [hx] at h; exact ⟨h.1, h.2.1, FBk_FaB hF h.2.2⟩
  | ok p =>
    obtain ⟨v, s1⟩ := p
    rw [hx] at h
    
    obtain ⟨h1, h2, ⟨u, h3, hu⟩, h4⟩ := h
    have hlt := blk_lt h0
    refine ⟨h1, h2, ⟨v9, u, v12, by rw [h3, blk_set h0 10 _]; rfl, V_kp h9 h4, ?_, V_kp h12 h4⟩, h4⟩
    exact Kd.V_mono (Kd.V_bound hu) (fun k hk => by
      refine ⟨?_, hk.2⟩
      rcases hk.1 with hk1 | hk1
      · exact hk1.1
      · exact ⟨fun hp => by have := D.pvlt hR hp; omega, by omega⟩)
end
end Go.Proofs.YtkhgdglaophkbaaGreatDoor.PK
end
section
set_option linter.unusedVariables false
set_option linter.unusedSimpArgs false
namespace Go.Proofs.YtkhgdglaophkbaaGreatDoor.PK
open Go.RowKit Go.Proofs.YtkhgdglaophkbaaGreatDoorW.PrintWords Go.Proofs.YtkhgdglaophkbaaGreatDoorW.PrintLast Go.Proofs.YtkhgdglaophkbaaGreatDoorW.PrintMore
abbrev rgS (W0 : World) : World → Prop := fun w' => Below W0.heap.size W0 w'
theorem rg_get {W0 w' : World} {p : Addr} {v : Value} (h : rgS W0 w') (c : W0.cell? p = some v) : w'.cell? p = some v := (Below.cell h (World.block_lt_of_cell? _ _ c)).trans c
theorem rg_blk {W0 w' : World} {k : Nat} {o : Obj} (h : rgS W0 w') (c : W0.heap[k]? = some o) : w'.heap[k]? = some o := (Below.block h k (Array.getElem?_eq_some_iff.1 c).1).trans c
section
variable {P : Program} {ops : Array Oper} {Q : Exit → Act → World → Prop} {W0 : World} {ds : List Nat}
theorem rg_start {id n : Nat} {a : Act} (ds : List Nat) (hm : P.follows .mixedOrders = true) (hn : ops.size = n) (h : wpAnyLast P .any ops Q (rgS W0) ds n (Array.replicate n false) a W0.drew) : (Code.region id ops true).wp P Q a W0 :=
  start_ (S := rgS W0) (Array.replicate n false) hm hn rfl (below_drew1 (Below.refl _ _)) (fun _ => h)
theorem rg_pure (i : Nat) {N : Option Tmp} {oi : Oper} {v : Value} {fuel : Nat} {l : Array Bool} {a a' : Act} {w : World} (hi : ops[i]? = some oi) (hN : oi.dst = N) (hc : anyB .any ops l (l.setIfInBounds i true) i = true)
    (hQ : ∀ c a w, Q (.panic c) (a.put oi.dst v) w → Q (.panic c) a w) (hw : Region.wanted oi (yielded ops a.tmps) = true) (hrun : ∀ w', (execOp a.eval oi).run P w' = .ok (.value v) w') (ha : a.put N v = a')
    (h : wpAnyLast P .any ops Q (rgS W0) ds fuel (l.setIfInBounds i true) a' w) : wpAnyLast P .any ops Q (rgS W0) ds (fuel + 1) l a w :=
  pure_ _ hi hN hc hQ (.inl ⟨hw, hrun⟩) ha h
theorem rg_pureG (i : Nat) (b : Bool) (v : Value) {N : Option Tmp} {oi : Oper} {fuel : Nat} {l : Array Bool} {a a' : Act} {w : World} (hi : ops[i]? = some oi) (hN : oi.dst = N) (hc : anyB .any ops l (l.setIfInBounds i true) i = true)
    (hQ : ∀ c a w, Q (.panic c) (a.put oi.dst (if b then v else undef)) w → Q (.panic c) a w) (hw : Region.wanted oi (yielded ops a.tmps) = b) (hrun : b = true → ∀ w', (execOp a.eval oi).run P w' = .ok (.value v) w') (ha : a.put N (if b then v else undef) = a')
    (h : wpAnyLast P .any ops Q (rgS W0) ds fuel (l.setIfInBounds i true) a' w) : wpAnyLast P .any ops Q (rgS W0) ds (fuel + 1) l a w := by
  refine pure_ _ hi hN hc hQ ?_ ha h
  cases b with
  | true => exact .inl ⟨hw, hrun rfl⟩
  | false => exact .inr ⟨hw, rfl⟩
theorem rg_load (i : Nat) {N : Option Tmp} {oi : Oper} {v : Value} {fuel : Nat} {l : Array Bool} {a a' : Act} {w : World} (hi : ops[i]? = some oi) (hN : oi.dst = N) (hc : takeB .any ops ds l (l.setIfInBounds i true) i = true)
    (hQ : ∀ c a w, Q (.panic c) (a.put oi.dst v) w → Q (.panic c) a w) (hw : Region.wanted oi (yielded ops a.tmps) = true) (hS : rgS W0 w) (hrun : ∀ w', rgS W0 w' → (execOp a.eval oi).run P w' = .ok (.value v) w') (ha : a.put N v = a')
    (h : wpAnyLast P .any ops Q (rgS W0) ds fuel (l.setIfInBounds i true) a' w) : wpAnyLast P .any ops Q (rgS W0) ds (fuel + 1) l a w :=
  take_ _ hi hN hc hQ (.inl ⟨hw, hrun⟩) hS ha h
theorem rg_loadG (i : Nat) (b : Bool) (v : Value) {N : Option Tmp} {oi : Oper} {fuel : Nat} {l : Array Bool} {a a' : Act} {w : World} (hi : ops[i]? = some oi) (hN : oi.dst = N) (hc : takeB .any ops ds l (l.setIfInBounds i true) i = true)
    (hQ : ∀ c a w, Q (.panic c) (a.put oi.dst (if b then v else undef)) w → Q (.panic c) a w) (hw : Region.wanted oi (yielded ops a.tmps) = b) (hS : rgS W0 w) (hrun : b = true → ∀ w', rgS W0 w' → (execOp a.eval oi).run P w' = .ok (.value v) w') (ha : a.put N (if b then v else undef) = a')
    (h : wpAnyLast P .any ops Q (rgS W0) ds fuel (l.setIfInBounds i true) a' w) : wpAnyLast P .any ops Q (rgS W0) ds (fuel + 1) l a w := by
  refine take_ _ hi hN hc hQ ?_ hS ha h
  cases b with
  | true => exact .inl ⟨hw, hrun rfl⟩
  | false => exact .inr ⟨hw, rfl⟩
theorem rg_oneG (i : Nat) (b : Bool) (v : Value) {N : Option Tmp} {oi : Oper} {fuel : Nat} {l : Array Bool} {a a' : Act} {w : World} (hi : ops[i]? = some oi) (hN : oi.dst = N) (hc : readyB .any ops l (l.setIfInBounds i true) i = true) (hd : i ∉ ds)
    (hw : Region.wanted oi (yielded ops a.tmps) = b) (hS : rgS W0 w) (hrun : b = true → ∀ w', rgS W0 w' → (execOp a.eval oi).run P w' = .ok (.value v) w') (ha : a.put N (if b then v else undef) = a')
    (h : wpAnyLast P .any ops Q (rgS W0) ds fuel (l.setIfInBounds i true) a' w) : wpAnyLast P .any ops Q (rgS W0) ds (fuel + 1) l a w := by
  refine one_ _ hi hN hc hd (fun K hK => ?_)
  cases b with
  | true => exact value_ hw hN (hrun rfl w hS) (hK _ _ hS (fun _ => by rw [show a.put N v = a' from ha]; exact h))
  | false => exact off_ hw (hK _ _ hS (fun _ => by rw [show a.put N undef = a' from ha]; exact h))
theorem rg_step_call {oi : Oper} {N : Option Tmp} {b : Bool} {v : Value} {a : Act} {w : World} {K : Act → World → Prop} {f : FuncId} {fn : Func} {az : Array Operand} {ts : Array TypeId} {args : Array Value} (hN : oi.dst = N) (hw : Region.wanted oi (yielded ops a.tmps) = b)
    (hf : P.funcs[f]? = some fn) (hname : (fn.name == "runtime.NumGoroutine") = false) (hb : fn.body.isSome = true) (hop : oi.op = .call { callee := .value (.func f), args := az, argTypes := ts }) (hargs : b = true → az.map a.eval = args) (hS : rgS W0 w)
    (hcall : b = true → ∀ w1, rgS W0 w1 → Calls P f args w1 fun e w2 => e = .returned v ∧ rgS W0 w2) (hK : ∀ w1, rgS W0 w1 → K (a.put N (if b then v else undef)) w1) :
    if Region.wanted oi (yielded ops a.tmps) = true then Oper.wp P oi a w K Q else K (a.put N undef) w := by
  cases b with
  | true => exact goes_ hf hname hb args hw hN hop (hargs rfl) ((hcall rfl w hS).mono fun e w2 h => ⟨v, h.1, hK w2 h.2⟩)
  | false => rw [hw, if_neg (by simp)]; exact hK w hS
theorem rg_call (i : Nat) (b : Bool) (v : Value) (args : Array Value) {f : FuncId} {fn : Func} {az : Array Operand} {ts : Array TypeId} {N : Option Tmp} {oi : Oper} {fuel : Nat} {l : Array Bool} {a a' : Act} {w : World} (hi : ops[i]? = some oi) (hN : oi.dst = N) (hc : readyB .any ops l (l.setIfInBounds i true) i = true) (hd : i ∉ ds)
    (hw : Region.wanted oi (yielded ops a.tmps) = b) (hf : P.funcs[f]? = some fn) (hname : (fn.name == "runtime.NumGoroutine") = false) (hb : fn.body.isSome = true) (hop : oi.op = .call { callee := .value (.func f), args := az, argTypes := ts }) (hargs : b = true → az.map a.eval = args) (hS : rgS W0 w)
    (hcall : b = true → ∀ w1, rgS W0 w1 → Calls P f args w1 fun e w2 => e = .returned v ∧ rgS W0 w2) (ha : a.put N (if b then v else undef) = a')
    (h : ∀ w1, rgS W0 w1 → wpAnyLast P .any ops Q (rgS W0) ds fuel (l.setIfInBounds i true) a' w1) : wpAnyLast P .any ops Q (rgS W0) ds (fuel + 1) l a w :=
  one_ _ hi hN hc hd (fun K hK => rg_step_call hN hw hf hname hb hop hargs hS hcall (fun w1 h1 => hK _ _ h1 (fun h2 => by rw [ha]; exact h w1 h1)))
theorem rg_runRow {o : Oper} {a : Act} {w : World} (ty : TypeId) (x : Operand) (ho : o.op = .load ty x) (g : Nat) (hx : a.eval x = .pointer (some ⟨g, 0, none⟩)) (t : TypeId) (cs : Array Value) (fr : Nat × Nat) (d : TypeDesc) (hg : w.heap[g]? = some (.cells cs t fr))
    (hu : P.underlying ty = some d) (hd : (match d with | .struct _ | .array _ _ => true | _ => false) = true) (hi : (P.info? ty).map (·.size) = some cs.size) : (execOp a.eval o).run P w = .ok (.value (.agg cs)) w := by
  unfold execOp
  simp only [ho, hx, Instr.loadAt, Instr.sureAddr, Sem.run_bind, Sem.run_pure, Result.andThen_ok, run_loadVar_row w g t ty cs fr d hg hu hd hi]
theorem rg_storeRow (i : Nat) {oi : Oper} {fuel : Nat} {l : Array Bool} {a : Act} {w : World} (hi : ops[i]? = some oi) (hN : oi.dst = none) (hc : readyB .any ops l (l.setIfInBounds i true) i = true) (hd : i ∈ ds) (hw : Region.wanted oi (yielded ops a.tmps) = true)
    (t : TypeId) (p x : Operand) (hop : oi.op = .store t p x) (g : Nat) (cur cs : Array Value) (e : TypeId) (ha : a.eval p = .pointer (some ⟨g, 0, none⟩)) (hx : a.eval x = .agg cs) (hh : w.heap[g]? = some (.cells cur e (0, 0))) (hsz : (P.info? t).map (·.size) = some cs.toList.length) (hcur : cur.size = cs.size)
    (h1 : ∀ q ∈ cs.toList, q.oneCell' = true)
    (h : ∀ w2, w2.heap[g]? = some (.cells cs e (0, 0)) → (∀ B, B ≤ g → Below B w w2) → (∀ k, k ≠ g → w2.heap[k]? = w.heap[k]?) → wpAnyLast P .any ops Q (rgS W0) ds fuel (l.setIfInBounds i true) a w2) : wpAnyLast P .any ops Q (rgS W0) ds (fuel + 1) l a w := by
  refine last_ _ hi hN hc hd (fun K hK => ?_)
  have hrun : (Instr.storeAt t (.pointer (some ⟨g, 0, none⟩)) (.agg cs)).run P w = .ok () (w.setCells g 0 cs.toList) :=
    run_store_run t (.agg cs) cs.toList hh rfl hsz (by rw [Array.length_toList]; omega) h1
  obtain ⟨cur', hr1, hr2, hr3⟩ := setCells_row cs.toList 0 w cur hh (by rw [Array.length_toList]; omega)
  have hcs : cur' = cs := by
    apply Array.ext'
    rw [hr3, List.take_zero, List.nil_append, List.drop_eq_nil_of_le (by rw [Array.length_toList, Array.length_toList]; omega), List.append_nil]
  subst hcs
  obtain ⟨s1, s2, s3, s4⟩ := setCells_same g cur'.toList 0 w
  have hlt := (Array.getElem?_eq_some_iff.1 hh).1
  refine skip_ (w1 := w.setCells g 0 cur'.toList) hw hN ?_ ?_
  · unfold execOp
    simp only [hop, ha, hx, Sem.run_bind, Sem.run_pure, Result.andThen_ok, hrun]
  · exact hK _ _ (h _ hr1 (fun B hB => ⟨s1, s2, s3, by omega, fun k hk => setCells_far _ _ k (by omega)⟩) (fun k hk => setCells_far _ _ k hk))
theorem rg_done {l : Array Bool} {a : Act} {w : World} {n : Nat} (hr : (Region.ready .any ops l == []) = true) (h : Q .normal a w) : wpAnyLast P .any ops Q (rgS W0) ds n l a w := done_ hr h
end
theorem rg_wantT {ops : Array Oper} {o : Oper} {j : Nat} {B : Bool} {tm : Array Value} (hg : o.guard = some (j, true)) (hy : yielded ops tm j = some B) : Region.wanted o (yielded ops tm) = B := by
  unfold Region.wanted
  rw [hg]
  dsimp only
  rw [hy]
  cases B <;> rfl
theorem rg_runPick {P : Program} {o : Oper} {a : Act} {w : World} {c x y : Operand} {C : Bool} {X : Value} (ho : o.op = .pick c x y) (hc : a.eval c = .bool C) (hx : C = true → a.eval x = X) (hy : C = false → a.eval y = X) : (execOp a.eval o).run P w = .ok (.value X) w := by
  unfold execOp
  cases C with
  | true => simp [ho, hc, ← hx rfl, asBool, Sem.run_bind]
  | false => simp [ho, hc, ← hy rfl, asBool, Sem.run_bind]
theorem rg_runAnd {P : Program} {o : Oper} {a : Act} {w : World} {c x : Operand} {C X : Bool} (ho : o.op = .pick c x (.const (.bool false))) (hc : a.eval c = .bool C) (hx : C = true → a.eval x = .bool X) : (execOp a.eval o).run P w = .ok (.value (.bool (C && X))) w :=
  by
  cases C with
  | true => exact rg_runPick (X := .bool X) ho hc (fun h => hx h) (fun h => by cases h)
  | false => exact rg_runPick (X := .bool false) ho hc (fun h => by cases h) (fun h => rfl)
theorem rg_args1 {a : Act} {x : Operand} {X : Value} (hx : a.eval x = X) : (#[x] : Array Operand).map a.eval = #[X] := by simp [hx]
theorem rg_args3 {a : Act} {x y z : Operand} {X Y Z : Value} (hx : a.eval x = X) (hy : a.eval y = Y) (hz : a.eval z = Z) : (#[x, y, z] : Array Operand).map a.eval = #[X, Y, Z] := by simp [hx, hy, hz]
theorem rg_drawn {W0 W w' : World} (h1 : rgS W0 W) (h : Drawn0 W w') : rgS W0 w' := by
  obtain ⟨m, h⟩ := h
  have e : w' = W.drewN m := by subst h; rfl
  rw [e]
  exact pw_below_drewN h1 m
theorem rg_results2 {P : Program} {fn : Func} {u p : Tmp} {ty : TypeId} (h : fn.results = #[.tmp u, .cell p ty]) (tmps : Array Value) (w : World) (g : Nat) (t : TypeId) (cs : Array Value) (fr : Nat × Nat) (d : TypeDesc)
    (hp : tmps.getD p undef = .pointer (some ⟨g, 0, none⟩)) (hg : w.heap[g]? = some (.cells cs t fr))
    (hu : P.underlying ty = some d) (hd : (match d with | .struct _ | .array _ _ => true | _ => false) = true) (hi : (P.info? ty).map (·.size) = some cs.size) :
    (results fn tmps).run P w = .ok (.tuple #[tmps.getD u undef, .agg cs]) w := by
  have hp' : tmps[p]?.getD undef = .pointer (some ⟨g, 0, none⟩) := by simpa using hp
  simp [results, h, hp', asAddr, run_loadVar_row w g t ty cs fr d hg hu hd hi, Sem.run_bind]
end Go.Proofs.YtkhgdglaophkbaaGreatDoor.PK
end
