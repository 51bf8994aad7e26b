/- Texts of this claim, one behind the other. -/
import Derived.Test.YtpgjhjlhipikgaaDoorMAx7
import Derived.Test.YtpgjhjlhipikgaaDoorMAx6
import Derived.WalkKit
import Derived.Deep.QuietTactic
import Derived.BigQuiet
import Derived.Deep.Cut
import Derived.Test.YtpgjhjlhipikgaaDoorMAx5
import Derived.Lib.VarintBits
import Derived.Lib.Zigzag
import Derived.WalkSpells
import Derived.Maps.OwnIn
section
set_option linter.unusedVariables false
set_option linter.unusedSimpArgs false
namespace Go.Proofs.YtpgjhjlhipikgaaDoor.PK
open Go.RowKit Go.Proofs.YtpgjhjlhipikgaaDoorW.PrintWords Go.Proofs.YtpgjhjlhipikgaaDoorW.PrintLast Go.Proofs.YtpgjhjlhipikgaaDoorW.PrintMore
abbrev bk_rest (s : ByteArray) (i : Nat) : List UInt8 := s.data.toList.drop i
/-- A function that reads one thing at an offset; it writes nothing. -/
def bk_Reads {α : Type} (fn : Nat) (enc : α → Value) (one : Rd α) : Prop := ∀ (s : ByteArray) (i : Nat), i ≤ s.size → s.size ≤ 1000000000 →
  (∃ (x : α) (j : Nat), j ≤ s.size ∧ one (bk_rest s i) = .ok (x, bk_rest s j) ∧ ∀ W, Calls Tryd.prog fn #[.string s, .int .i64 (i : Int)] W fun e w' => e = .returned (.tuple #[enc x, .int .i64 (j : Int), .int .i64 0]) ∧ ∃ m, w' = W.drewN m) ∨
  (one (bk_rest s i) = .error 10 ∧ ∃ (x : α) (j er : Int), er ≠ 0 ∧ ∀ W, Calls Tryd.prog fn #[.string s, .int .i64 (i : Int)] W fun e w' => e = .returned (.tuple #[enc x, .int .i64 j, .int .i64 er]) ∧ ∃ m, w' = W.drewN m)
/-- What a step has done to the reader's offset and error. -/
def bk_Post {α : Type} (one : Rd α) (s : ByteArray) (i : Nat) (e : Int) (x : α) (j : Nat) (e' : Int) : Prop :=
  j ≤ s.size ∧ (e ≠ 0 → e' = e) ∧ (e = 0 → match one (bk_rest s i) with | .error er => e' = er ∧ er ≠ 0 | .ok (y, l) => x = y ∧ e' = 0 ∧ l = bk_rest s j)
theorem bk_Post.pure {α : Type} (y : α) (s : ByteArray) (i : Nat) (e : Int) (hi : i ≤ s.size) : bk_Post (fun l => .ok (y, l)) s i e y i e := ⟨hi, fun _ => rfl, fun h => ⟨rfl, h, rfl⟩⟩
theorem bk_Post.bind {α β : Type} {one : Rd α} {next : α → Rd β} {s : ByteArray} {i j k : Nat} {e e1 e2 : Int} {x : α} {y : β} (h1 : bk_Post one s i e x j e1) (h2 : bk_Post (next x) s j e1 y k e2) :
    bk_Post (rdBind one next) s i e y k e2 := by
  obtain ⟨a1, a2, a3⟩ := h1
  obtain ⟨b1, b2, b3⟩ := h2
  refine ⟨b1, fun h => ?_, fun h => ?_⟩
  · have he1 := a2 h
    exact (b2 (by rw [he1]; exact h)).trans he1
  · have h3 := a3 h
    cases h4 : one (bk_rest s i) with
    | error er =>
      rw [h4] at h3
      obtain ⟨c1, c2⟩ := h3
      rw [cd_bind_err h4]
      exact ⟨(b2 (by rw [c1]; exact c2)).trans c1, c2⟩
    | ok p =>
      obtain ⟨y', l⟩ := p
      rw [h4] at h3
      obtain ⟨rfl, c1, c2⟩ := h3
      rw [cd_bind_ok h4, c2]
      exact b3 c1
theorem bk_Post.le {α : Type} {one : Rd α} {s : ByteArray} {i j : Nat} {e e1 : Int} {x : α} (h : bk_Post one s i e x j e1) : j ≤ s.size := h.1
def bk_rdr (s : ByteArray) (i : Nat) (e : Int) : Obj := .cells #[.string s, .int .i64 (i : Int), .int .i64 e] 75 (0, 0)
theorem bk_grown_drewN (w : World) (n : Nat) (row : Option Nat) : w.grownBy (w.drewN n) row := ⟨rfl, rfl, rfl, Nat.le_refl _, fun _ _ _ => rfl⟩
theorem bk_grown_set {w w1 : World} {r : Nat} (h : w.grownBy w1 (some r)) (j : Nat) (v : Value) : w.grownBy (w1.setCell ⟨r, j, none⟩ v) (some r) :=
  ⟨h.os, h.tape, h.output, by simpa [World.setCell] using h.size, fun i hi hne => (Below.heap_setCell w1 ⟨r, j, none⟩ v i (fun he => hne (by rw [he]))).trans (h.block i hi hne)⟩
theorem bk_grown_trans {w w1 w2 : World} {row : Option Nat} (h : w.grownBy w1 row) (h2 : w1.grownBy w2 row) : w.grownBy w2 row :=
  ⟨h2.os.trans h.os, h2.tape.trans h.tape, h2.output.trans h.output, Nat.le_trans h.size h2.size, fun i hi hne => (h2.block i (Nat.lt_of_lt_of_le hi h.size) hne).trans (h.block i hi hne)⟩
set_option maxHeartbeats 2000000 in
set_option maxRecDepth 100000 in
theorem bk_next_int (hI : bk_Reads 79 (Value.int .i64) rdI) (s : ByteArray) (i : Nat) (e : Int) (r : Nat) (w : World) (hi : i ≤ s.size) (hs : s.size ≤ 1000000000) (hr : w.heap[r]? = some (bk_rdr s i e)) :
    Calls Tryd.prog 78 #[.pointer (some ⟨r, 0, none⟩), .func (.func 79) #[] #[]] w fun en w' => ∃ (x : Int) (j : Nat) (e' : Int), en = .returned (.int .i64 x) ∧
      w'.heap[r]? = some (bk_rdr s j e') ∧ bk_Post rdI s i e x j e' ∧ w.grownBy w' (some r) := by
  unfold bk_rdr at hr
  have c0 : w.cell? ⟨r, 0, none⟩ = some (.string s) := bk_cell hr 0
  have c1 : w.cell? ⟨r, 1, none⟩ = some (.int .i64 (i : Int)) := bk_cell hr 1
  have c2 : w.cell? ⟨r, 2, none⟩ = some (.int .i64 e) := bk_cell hr 2
  have f1 := bk_frozen hr 1
  have f2 := bk_frozen hr 2
  have HR := Aside0.mk hr
  by_cases he : e = 0
  · subst he
    rcases hI s i hi hs with ⟨x, j, hj, hone, hc⟩ | ⟨hone, x, j, er, her, hc⟩
    · clear hI hr
      go_enter Tryd.func78, Tryd.ntmps78
      go_wp2
      go_quiet (first | (go_at_call 79; refine Calls.quiet_of (hc _)))
      go_wp2
      go_ret
      refine ⟨x, j, 0, rfl, ?_, ⟨hj, fun h => absurd rfl h, fun _ => by rw [hone]; exact ⟨rfl, rfl, rfl⟩⟩, ?_⟩
      · exact (by simpa [bk_rdr] using blk_set (w := w.drewN nq) HR.out 1 (.int .i64 (j : Int)))
      · exact bk_grown_set (bk_grown_drewN _ _ _) _ _
    · clear hI hr
      have hne : (er == 0) = false := by simpa using her
      go_enter Tryd.func78, Tryd.ntmps78
      go_wp2
      go_quiet (first | (go_at_call 79; refine Calls.quiet_of (hc _)))
      go_wp2
      go_ret
      refine ⟨0, i, 10, rfl, ?_, ⟨hi, fun h => absurd rfl h, fun _ => by rw [hone]; exact ⟨rfl, by decide⟩⟩, ?_⟩
      · exact (by simpa [bk_rdr] using blk_set (w := w.drewN nq) HR.out 2 (.int .i64 10))
      · exact bk_grown_set (bk_grown_drewN _ _ _) _ _
  · have hne : (e == 0) = false := by simpa using he
    go_enter Tryd.func78, Tryd.ntmps78
    go_wp2
    go_ret
    exact ⟨0, i, e, rfl, HR.out, ⟨hi, fun _ => rfl, fun h => absurd h he⟩, bk_grown_drewN _ 0 _⟩
/-- A string, as the bytes that it is. -/
def rdB_ : Rd ByteArray := fun l => match rdS l with | .error e => .error e | .ok (x, r) => .ok (⟨x.toArray⟩, r)
set_option maxHeartbeats 2000000 in
set_option maxRecDepth 100000 in
theorem bk_next_str (hI : bk_Reads 82 Value.string rdB_) (s : ByteArray) (i : Nat) (e : Int) (r : Nat) (w : World) (hi : i ≤ s.size) (hs : s.size ≤ 1000000000) (hr : w.heap[r]? = some (bk_rdr s i e)) :
    Calls Tryd.prog 81 #[.pointer (some ⟨r, 0, none⟩), .func (.func 82) #[] #[]] w fun en w' => ∃ (x : ByteArray) (j : Nat) (e' : Int), en = .returned (.string x) ∧
      w'.heap[r]? = some (bk_rdr s j e') ∧ bk_Post rdB_ s i e x j e' ∧ w.grownBy w' (some r) := by
  unfold bk_rdr at hr
  have c0 : w.cell? ⟨r, 0, none⟩ = some (.string s) := bk_cell hr 0
  have c1 : w.cell? ⟨r, 1, none⟩ = some (.int .i64 (i : Int)) := bk_cell hr 1
  have c2 : w.cell? ⟨r, 2, none⟩ = some (.int .i64 e) := bk_cell hr 2
  have f1 := bk_frozen hr 1
  have f2 := bk_frozen hr 2
  have HR := Aside0.mk hr
  by_cases he : e = 0
  · subst he
    rcases hI s i hi hs with ⟨x, j, hj, hone, hc⟩ | ⟨hone, x, j, er, her, hc⟩
    · clear hI hr
      go_enter Tryd.func81, Tryd.ntmps81
      go_wp2
      go_quiet (first | (go_at_call 82; refine Calls.quiet_of (hc _)))
      go_wp2
      go_ret
      refine ⟨x, j, 0, rfl, ?_, ⟨hj, fun h => absurd rfl h, fun _ => by rw [hone]; exact ⟨rfl, rfl, rfl⟩⟩, ?_⟩
      · exact (by simpa [bk_rdr] using blk_set (w := w.drewN nq) HR.out 1 (.int .i64 (j : Int)))
      · exact bk_grown_set (bk_grown_drewN _ _ _) _ _
    · clear hI hr
      have hne : (er == 0) = false := by simpa using her
      go_enter Tryd.func81, Tryd.ntmps81
      go_wp2
      go_quiet (first | (go_at_call 82; refine Calls.quiet_of (hc _)))
      go_wp2
      go_ret
      refine ⟨⟨#[]⟩, i, 10, rfl, ?_, ⟨hi, fun h => absurd rfl h, fun _ => by rw [hone]; exact ⟨rfl, by decide⟩⟩, ?_⟩
      · exact (by simpa [bk_rdr] using blk_set (w := w.drewN nq) HR.out 2 (.int .i64 10))
      · exact bk_grown_set (bk_grown_drewN _ _ _) _ _
  · have hne : (e == 0) = false := by simpa using he
    go_enter Tryd.func81, Tryd.ntmps81
    go_wp2
    go_ret
    exact ⟨⟨#[]⟩, i, e, rfl, HR.out, ⟨hi, fun _ => rfl, fun h => absurd h he⟩, bk_grown_drewN _ 0 _⟩
/-- All blocks but these two are as they were. -/
structure bk_Fr (r g : Nat) (w w' : World) : Prop where mk ::
  os : w'.os = w.os
  tape : w'.tape = w.tape
  output : w'.output = w.output
  size : w.heap.size ≤ w'.heap.size
  block : ∀ i, i < w.heap.size → i ≠ r → i ≠ g → w'.heap[i]? = w.heap[i]?
theorem bk_Fr.refl (r g : Nat) (w : World) : bk_Fr r g w w := ⟨rfl, rfl, rfl, Nat.le_refl _, fun _ _ _ _ => rfl⟩
theorem bk_Fr.trans {r g : Nat} {w w1 w2 : World} (h : bk_Fr r g w w1) (h2 : bk_Fr r g w1 w2) : bk_Fr r g w w2 :=
  ⟨h2.os.trans h.os, h2.tape.trans h.tape, h2.output.trans h.output, Nat.le_trans h.size h2.size, fun i hi hr hg => (h2.block i (Nat.lt_of_lt_of_le hi h.size) hr hg).trans (h.block i hi hr hg)⟩
theorem bk_Fr.of_grown {r : Nat} {w w' : World} (h : w.grownBy w' (some r)) (g : Nat) : bk_Fr r g w w' := ⟨h.os, h.tape, h.output, h.size, fun i hi hr _ => h.block i hi (fun e => hr (Option.some.inj e))⟩
theorem bk_Fr.of_below {w w' : World} (h : Below w.heap.size w w') (r g : Nat) : bk_Fr r g w w' := ⟨h.os, h.tape, h.output, h.size, fun i hi _ _ => h.block i hi⟩
theorem bk_Fr.set {r g : Nat} {w w1 : World} (h : bk_Fr r g w w1) (j : Nat) (v : Value) : bk_Fr r g w (w1.setCell ⟨g, j, none⟩ v) :=
  ⟨h.os, h.tape, h.output, by simpa [World.setCell] using h.size, fun i hi hr hg => (Below.heap_setCell w1 ⟨g, j, none⟩ v i hg).trans (h.block i hi hr hg)⟩
theorem bk_Fr.at {r g : Nat} {w w' : World} (h : bk_Fr r g w w') {k : Nat} {o : Obj} (hk : w.heap[k]? = some o) (hr : k ≠ r) (hg : k ≠ g) : w'.heap[k]? = some o := (h.block k (Array.getElem?_eq_some_iff.1 hk).1 hr hg).trans hk
/-- Numbers read one behind the other. -/
inductive bk_Chain (s : ByteArray) (i : Nat) (e : Int) : List Int → Nat → Int → Prop where
  | none (h : i ≤ s.size) : bk_Chain s i e [] i e
  | snoc {xs : List Int} {x : Int} {j k : Nat} {e1 e2 : Int} (h : bk_Chain s i e xs j e1) (hp : bk_Post rdI s j e1 x k e2) : bk_Chain s i e (xs ++ [x]) k e2
theorem bk_Chain.le {s : ByteArray} {i j : Nat} {e e1 : Int} {xs : List Int} (h : bk_Chain s i e xs j e1) : j ≤ s.size := by
  cases h with
  | none h => exact h
  | snoc h hp => exact hp.1
theorem bk_Chain.zero {s : ByteArray} {i j : Nat} {e e1 : Int} {xs : List Int} (h : bk_Chain s i e xs j e1) (hl : xs.length = 0) : xs = [] ∧ j = i ∧ e1 = e := by
  cases h with
  | none h => exact ⟨rfl, rfl, rfl⟩
  | snoc h hp => simp at hl
theorem bk_Chain.succ {s : ByteArray} {i j : Nat} {e e2 : Int} {ys : List Int} {n : Nat} (h : bk_Chain s i e ys j e2) (hl : ys.length = n + 1) : ∃ xs x k e1, ys = xs ++ [x] ∧ xs.length = n ∧ bk_Chain s i e xs k e1 ∧ bk_Post rdI s k e1 x j e2 := by
  cases h with
  | none h => simp at hl
  | snoc h hp => exact ⟨_, _, _, _, rfl, by simpa using hl, h, hp⟩
theorem bk_Chain.two {s : ByteArray} {i j : Nat} {e e2 : Int} {ys : List Int} (h : bk_Chain s i e ys j e2) (hl : ys.length = 2) : ∃ a b k e1, ys = [a, b] ∧ bk_Post rdI s i e a k e1 ∧ bk_Post rdI s k e1 b j e2 := by
  obtain ⟨xs, b, k, e1, rfl, hl1, h1, p1⟩ := h.succ hl
  obtain ⟨zs, a, k0, e0, rfl, hl0, h0, p0⟩ := h1.succ hl1
  obtain ⟨rfl, rfl, rfl⟩ := h0.zero hl0
  exact ⟨a, b, k, e1, rfl, p0, p1⟩
theorem bk_Chain.three {s : ByteArray} {i j : Nat} {e e3 : Int} {ys : List Int} (h : bk_Chain s i e ys j e3) (hl : ys.length = 3) : ∃ a b c k e1 l e2, ys = [a, b, c] ∧ bk_Post rdI s i e a k e1 ∧ bk_Post rdI s k e1 b l e2 ∧ bk_Post rdI s l e2 c j e3 := by
  obtain ⟨xs, c, l, e2, rfl, hl1, h1, p2⟩ := h.succ hl
  obtain ⟨a, b, k, e1, rfl, p0, p1⟩ := h1.two hl1
  exact ⟨a, b, c, k, e1, l, e2, rfl, p0, p1, p2⟩
/-- Cells with numbers put at these places. -/
def bk_sets (cs : Array Value) : List Nat → List Int → Array Value
  | j :: js, x :: xs => bk_sets (cs.setIfInBounds j (.int .i64 x)) js xs
  | _, _ => cs
theorem bk_sets_snoc : ∀ (js : List Nat) (xs : List Int) (cs : Array Value) (j : Nat) (x : Int), js[xs.length]? = some j → bk_sets cs js (xs ++ [x]) = (bk_sets cs js xs).setIfInBounds j (.int .i64 x)
  | [], xs, cs, j, x, h => by simp at h
  | j' :: js, [], cs, j, x, h => by
    have : j' = j := by simpa using h
    subst this
    cases js <;> rfl
  | j' :: js, y :: xs, cs, j, x, h => by
    rw [List.cons_append, bk_sets, bk_sets, bk_sets_snoc js xs _ j x (by simpa using h)]
theorem bk_sets_size : ∀ (js : List Nat) (xs : List Int) (cs : Array Value), (bk_sets cs js xs).size = cs.size
  | [], _, _ => rfl
  | _ :: _, [], _ => rfl
  | j :: js, x :: xs, cs => by rw [bk_sets, bk_sets_size js xs]; simp
set_option maxHeartbeats 2000000 in
set_option maxRecDepth 100000 in
theorem bk_rints (hI : bk_Reads 79 (Value.int .i64) rdI) (s : ByteArray) (i : Nat) (e : Int) (r g q n : Nat) (js : List Nat) (cs : Array Value) (w : World) (hi : i ≤ s.size) (hs : s.size ≤ 1000000000) (hr : w.heap[r]? = some (bk_rdr s i e))
    (hg : w.heap[g]? = some (.cells cs 26 (0, 0))) (hq : w.heap[q]? = some (.cells (js.map (fun j => Value.pointer (some ⟨g, j, none⟩))).toArray 101 (0, 0))) (hjs : ∀ j ∈ js, j < cs.size) (hn : js.length = n) (hn2 : n ≤ 1000) :
    Calls Tryd.prog 80 #[.pointer (some ⟨r, 0, none⟩), .slice (some ⟨q, 0, none⟩) n n] w fun en w' => ∃ (xs : List Int) (j : Nat) (e' : Int), en = .returned (.tuple #[]) ∧ xs.length = js.length ∧
      w'.heap[r]? = some (bk_rdr s j e') ∧ w'.heap[g]? = some (.cells (bk_sets cs js xs) 26 (0, 0)) ∧ bk_Chain s i e xs j e' ∧ bk_Fr r g w w' := by
  subst hn
  have HQ := Aside0.mk hq
  have HJ := Aside0.mk hjs
  have hqr : q ≠ r := blk_ne hq (show w.heap[r]? = some (.cells _ 75 (0, 0)) from hr) (by decide)
  have hqg : q ≠ g := blk_ne hq hg (by decide)
  have hgr : g ≠ r := blk_ne hg (show w.heap[r]? = some (.cells _ 75 (0, 0)) from hr) (by decide)
  clear hq hjs
  go_enter Tryd.func80, Tryd.ntmps80
  go_wp2
  go_loopw [8] (fun p wr => ∃ (k : Nat) (xs : List Int) (j : Nat) (e' : Int), p = .int .i64 (k : Int) ∧ k ≤ js.length ∧ xs.length = k ∧ wr.heap[r]? = some (bk_rdr s j e') ∧ wr.heap[g]? = some (.cells (bk_sets cs js xs) 26 (0, 0)) ∧ bk_Chain s i e xs j e' ∧ bk_Fr r g w wr)
    (fun p _ => js.length - (intOf p).toNat)
  case atStart => exact ⟨0, [], i, e, rfl, Nat.zero_le _, rfl, hr, by cases js <;> exact hg, .none hi, bk_Fr.refl _ _ _⟩
  case round =>
    clear hr hg
    obtain ⟨k, xs, j, e', rfl, hk, hxl, hr, hg, hch, hfr⟩ := hrel
    by_cases hlt : k < js.length
    · have hd : decide ((k : Int) < (js.length : Int)) = true := by simp; omega
      obtain ⟨jk, hjk⟩ : ∃ jk, js[k]? = some jk := ⟨_, List.getElem?_eq_getElem hlt⟩
      have hjl := HJ.out jk (List.mem_of_getElem? hjk)
      have hcq : wr.cell? ⟨q, k, none⟩ = some (.pointer (some ⟨g, jk, none⟩)) := by
        rw [bk_cell (hfr.at HQ.out hqr hqg) k]; simp [hjk]
      have HR := Aside0.mk hr
      have HG := Aside0.mk hg
      have HF := Aside0.mk hfr
      have HC := Aside0.mk hch
      have HJK := Aside0.mk hjk
      clear hr hg hfr hch hjk
      have p1 : (0 : Int) ≤ (k : Int) := by omega
      go_wp2_with (go_at_call 78; refine Rg.stop_here ?_)
      refine ⟨?_⟩
      refine (bk_next_int hI s j e' r _ HC.out.le hs HR.out).mono ?_
      rintro en w5 ⟨x, j5, e5, rfl, hr5, hp5, hg5⟩
      have hbx := blk_grown HG.out hg5 (by simpa using hgr)
      obtain ⟨u, hu⟩ : ∃ u, w5.cell? ⟨g, jk, none⟩ = some u := by
        rw [bk_cell hbx jk]
        exact ⟨_, Array.getElem?_eq_getElem (by rw [bk_sets_size]; exact hjl)⟩
      have hfz := bk_frozen hbx jk
      have HR5 := Aside0.mk hr5
      have HP5 := Aside0.mk hp5
      have HG5 := Aside0.mk hg5
      have HBX := Aside0.mk hbx
      clear hr5 hp5 hg5 hbx
      go_wp2_with fail
      go_roundw
      case rel => exact ⟨k + 1, xs ++ [x], j5, e5, by go_num, by omega, by simp [hxl], (Below.heap_setCell w5 ⟨g, jk, none⟩ _ r (by exact fun h => hgr h.symm)).trans HR5.out, by rw [bk_sets_snoc js xs cs jk x (by rw [hxl]; exact HJK.out)]; exact blk_set HBX.out jk _, .snoc HC.out HP5.out, (HF.out.trans (bk_Fr.of_grown HG5.out g)).set _ _⟩
      case measure => simp [intOf]; omega
    · have hkl : k = js.length := by omega
      subst hkl
      have hd : decide (((js.length : Nat) : Int) < (js.length : Int)) = false := by simp
      go_wp2
      go_end0
      exact ⟨xs, j, e', rfl, hxl, hr, hg, hch, hfr⟩
theorem bk_info3 : (Tryd.prog.info? 3).map (fun i => (i.zero, i.size, i.bytes)) = some (some (.int .i64 0), 1, 8) := by kernel_rfl
theorem bk_grown_base {w W w1 : World} {r : Nat} (h : w.grownBy W (some r)) (hb : Below w.heap.size W w1) : w.grownBy w1 (some r) :=
  ⟨hb.os.trans h.os, hb.tape.trans h.tape, hb.output.trans h.output, Nat.le_trans h.size hb.size, fun i hi hr => (hb.block i hi).trans (h.block i hi hr)⟩
set_option maxHeartbeats 2000000 in
set_option maxRecDepth 100000 in
theorem bk_one84 (hI : bk_Reads 79 (Value.int .i64) rdI) (s : ByteArray) (i : Nat) (e : Int) (r g1 : Nat) (w : World) (hi : i ≤ s.size) (hs : s.size ≤ 1000000000) (hr : w.heap[r]? = some (bk_rdr s i e))
    (hg1 : w.heap[g1]? = some (.cells #[.pointer (some ⟨r, 0, none⟩)] 73 (0, 0))) :
    Calls Tryd.prog 84 #[.pointer (some ⟨g1, 0, none⟩)] w fun en w' => ∃ (x : Int) (j : Nat) (e' : Int), en = .returned (.int .i64 x) ∧
      w'.heap[r]? = some (bk_rdr s j e') ∧ bk_Post rdI s i e x j e' ∧ w.grownBy w' (some r) := by
  have c0 : w.cell? ⟨g1, 0, none⟩ = some (.pointer (some ⟨r, 0, none⟩)) := bk_cell hg1 0
  have HR := Aside0.mk hr
  clear hr hg1
  go_enter Tryd.func84, Tryd.ntmps84
  go_wp2_with (go_at_call 78; refine Rg.stop_here ?_)
  refine ⟨?_⟩
  refine (bk_next_int hI s i e r _ hi hs HR.out).mono ?_
  rintro en w5 ⟨x, j5, e5, rfl, hr5, hp5, hg5⟩
  go_wp2
  go_ret
  exact ⟨x, j5, e5, rfl, hr5, hp5, hg5⟩
theorem bk_Post.err {α : Type} {one : Rd α} {s : ByteArray} {i : Nat} {e : Int} {x : α} (hi : i ≤ s.size) (he : e ≠ 0) : bk_Post one s i e x i e := ⟨hi, fun _ => rfl, fun h => absurd h he⟩
theorem bk_Post.list {α : Type} {one : Rd α} {s : ByteArray} {i j k : Nat} {e e1 e1' e2 n most : Int} {xs : List α} (h1 : bk_Post rdI s i e n j e1) (he : (e1 ≠ 0 ∧ e1' = e1) ∨ (e1 = 0 ∧ (n < 0 ∨ most < n) ∧ e1' = 30) ∨ (e1 = 0 ∧ ¬ (n < 0 ∨ most < n) ∧ e1' = 0))
    (h2 : bk_Post (rdN one n.toNat) s j e1' xs k e2) : bk_Post (rdL most one) s i e xs k e2 := by
  refine h1.bind (next := fun n l => if n < 0 ∨ most < n then .error 30 else rdN one n.toNat l) ?_
  obtain ⟨b1, b2, b3⟩ := h2
  rcases he with ⟨he, rfl⟩ | ⟨rfl, hn, rfl⟩ | ⟨rfl, hn, rfl⟩
  · exact ⟨b1, b2, fun h => absurd h he⟩
  · refine ⟨b1, fun h => absurd rfl h, fun _ => ?_⟩
    dsimp only
    rw [if_pos hn]
    exact ⟨b2 (by decide), by decide⟩
  · refine ⟨b1, b2, fun _ => ?_⟩
    dsimp only
    rw [if_neg hn]
    exact b3 rfl
set_option maxHeartbeats 2000000 in
set_option maxRecDepth 100000 in
theorem bk_list_int (hI : bk_Reads 79 (Value.int .i64) rdI) (s : ByteArray) (i : Nat) (e : Int) (r g1 : Nat) (most : Int) (w : World) (hi : i ≤ s.size) (hs : s.size ≤ 1000000000) (hr : w.heap[r]? = some (bk_rdr s i e))
    (hg1 : w.heap[g1]? = some (.cells #[.pointer (some ⟨r, 0, none⟩)] 73 (0, 0))) (hm0 : 0 ≤ most) (hm : most ≤ 1000) :
    Calls Tryd.prog 83 #[.pointer (some ⟨r, 0, none⟩), .int .i64 most, .func (.func 84) #[] #[.pointer (some ⟨g1, 0, none⟩)]] w fun en w' => ∃ (xs : List Int) (v : Value) (j : Nat) (e' : Int), en = .returned v ∧
      (Kd.int .i64).R 3 w' w.heap.size (fun k => k ≠ r) v xs ∧ w'.heap[r]? = some (bk_rdr s j e') ∧ bk_Post (rdL most rdI) s i e xs j e' ∧ w.grownBy w' (some r) := by
  have HR := Aside0.mk hr
  have HG1 := Aside0.mk hg1
  have hg1r : g1 ≠ r := blk_ne hg1 (show w.heap[r]? = some (.cells _ 75 (0, 0)) from hr) (by decide)
  clear hr hg1
  go_enter Tryd.func83, Tryd.ntmps83
  go_wp2_with (go_at_call 78; refine Rg.stop_here ?_)
  refine ⟨?_⟩
  refine (bk_next_int hI s i e r _ hi hs HR.out).mono ?_
  rintro en w1 ⟨n, j1, e1, rfl, hr1, hp1, hgw1⟩
  have HP1 := Aside0.mk hp1
  have HR1 := Aside0.mk hr1
  have HW1 := Aside0.mk hgw1
  unfold bk_rdr at hr1
  have c2 : w1.cell? ⟨r, 2, none⟩ = some (.int .i64 e1) := bk_cell hr1 2
  have f2 := bk_frozen hr1 2
  clear hr1 hp1 hgw1
  go_upto_region 2 with fail
  go_cut [24] from 9 to 23 (fun v24 wx => v24 = .bool (decide (e1 = 0 ∧ (n < 0 ∨ most < n))) ∧ wx = w1)
  case first =>
    by_cases he1 : e1 = 0
    · subst he1
      by_cases hn0 : n < 0
      · have d1 : decide (n < 0) = true := decide_eq_true hn0
        go_wp2_with fail
        go_meet
        exact ⟨by simp [hn0], rfl⟩
      · have d1 : decide (n < 0) = false := decide_eq_false hn0
        by_cases hn1 : most < n
        · have d2 : decide (most < n) = true := decide_eq_true hn1
          go_wp2_with fail
          go_meet
          exact ⟨by simp [hn1], rfl⟩
        · have d2 : decide (most < n) = false := decide_eq_false hn1
          go_wp2_with fail
          go_meet
          exact ⟨by simp [hn0, hn1], rfl⟩
    · have hne : (e1 == 0) = false := by simpa using he1
      go_wp2_with fail
      go_meet
      exact ⟨by simp [he1], rfl⟩
  case rest =>
  obtain ⟨rfl, rfl⟩ := hcut
  go_upto_if 24 with fail
  go_cut [] from 9 to 27 (fun wx => ∃ e1', ((e1 ≠ 0 ∧ e1' = e1) ∨ (e1 = 0 ∧ (n < 0 ∨ most < n) ∧ e1' = 30) ∨ (e1 = 0 ∧ ¬ (n < 0 ∨ most < n) ∧ e1' = 0)) ∧ wx.heap[r]? = some (bk_rdr s j1 e1') ∧ w.grownBy wx (some r))
  case first =>
    by_cases hc : e1 = 0 ∧ (n < 0 ∨ most < n)
    · have d1 : decide (e1 = 0 ∧ (n < 0 ∨ most < n)) = true := decide_eq_true hc
      go_wp2_with fail
      go_meet
      exact ⟨30, .inr (.inl ⟨hc.1, hc.2, rfl⟩), by simpa [bk_rdr] using blk_set HR1.out 2 (.int .i64 30), bk_grown_set HW1.out _ _⟩
    · have d1 : decide (e1 = 0 ∧ (n < 0 ∨ most < n)) = false := decide_eq_false hc
      go_wp2_with fail
      go_meet
      by_cases he1 : e1 = 0
      · exact ⟨0, .inr (.inr ⟨he1, fun h => hc ⟨he1, h⟩, rfl⟩), by rw [← he1]; exact HR1.out, HW1.out⟩
      · exact ⟨e1, .inl ⟨he1, rfl⟩, HR1.out, HW1.out⟩
  case rest =>
    obtain ⟨e1', hcase, hrc, hgc⟩ := hcut
    have HCASE := Aside0.mk hcase
    have HRC := Aside0.mk hrc
    have HGC := Aside0.mk hgc
    have hnm : e1' = 0 → n ≤ most := by
      intro h
      rcases hcase with ⟨h1, h2⟩ | ⟨_, _, h2⟩ | ⟨_, h1, _⟩
      · exact absurd (h2 ▸ h) h1
      · rw [h2] at h; cases h
      · omega
    clear hcase hrc hgc c2 f2
    go_wp2_with fail
    go_loopw [6, 8] (fun p6 p8 wr => ∃ (k : Nat) (xs : List Int) (j : Nat) (e' : Int), p8 = .int .i64 (k : Int) ∧ xs.length = k ∧ k ≤ n.toNat ∧ (e' = 0 → n ≤ most) ∧ (Kd.int .i64).R 3 wr w.heap.size (fun k => k ≠ r) p6 xs ∧ wr.heap[r]? = some (bk_rdr s j e') ∧ w.grownBy wr (some r) ∧ j ≤ s.size ∧
        (∀ ys j2 e2, bk_Post (rdN rdI (n.toNat - k)) s j e' ys j2 e2 → bk_Post (rdN rdI n.toNat) s j1 e1' (xs ++ ys) j2 e2))
      (fun _ p _ => n.toNat - (intOf p).toNat)
    case atStart => exact ⟨0, [], j1, e1', rfl, rfl, Nat.zero_le _, hnm, Kd.R_nil _ _ _ _ _, HRC.out, HGC.out, HP1.out.1, fun ys j2 e2 h => h⟩
    case round =>
      clear hnm
      obtain ⟨k, xs, j, e', rfl, rfl, hkn, hnm, hR, hr, hgw, hj, hP⟩ := hrel
      have HRR := Aside0.mk hR
      have HR2 := Aside0.mk hr
      have HG2 := Aside0.mk hgw
      have HPP := Aside0.mk hP
      unfold bk_rdr at hr
      have c2 : wr.cell? ⟨r, 2, none⟩ = some (.int .i64 e') := bk_cell hr 2
      obtain ⟨A6, c6, hv6⟩ := Kd.R_slice hR
      subst hv6
      clear hr hR hgw hP
      by_cases hlt : (xs.length : Int) < n
      · have hd : decide ((xs.length : Int) < n) = true := decide_eq_true hlt
        by_cases he : e' = 0
        · subst he
          have hnm' := hnm rfl
          go_wp2_with fail
          refine (bk_one84 hI s j 0 r g1 _ hj hs HR2.out (blk_grown HG1.out HG2.out (by simpa using hg1r))).mono ?_
          rintro en w5 ⟨x, j5, e5, rfl, hr5, hp5, hg5⟩
          have HR5 := Aside0.mk hr5
          have HP5 := Aside0.mk hp5
          have HG5 := Aside0.mk hg5
          have hRR := Kd.R_grown HRR.out hg5 (fun k hk he => hk (Option.some.inj he))
          have hgw5 := bk_grown_trans HG2.out hg5
          have hown := Kd.R_base hRR
          have hrw : r < w5.heap.size := blk_lt hr5
          have hrne := Kd.R_ne hRR (show w5.heap[r]? = some (.cells _ 75 (0, 0)) from hr5) (by decide)
          have HRR5 := Aside0.mk hRR
          have HGW5 := Aside0.mk hgw5
          have hbs := hgw5.size
          clear hr5 hp5 hg5 hRR hgw5
          go_wp2_with (at_builtin; refine Rg.stop_here ?_)
          refine ⟨?_⟩
          refine Kd.R_append (Kd.int .i64) (w0 := w5) w.heap.size rfl (.tmp 40) (.tmp 43) 22 3 (.int .i64 0) 8 rfl Tryd.underlying22 bk_info3 rfl (by decide) (by omega) _ xs x [.int .i64 x] (fun k => k ≠ r) (fun _ => False) rfl rfl rfl (fun _ hk => hk.elim) (fun k hk => by omega) HRR5.out (Below.refl _ _) hbs (by omega) ?_
          intro v1 w6 hR6 hb6 hg6 _
          have hr6 := blk_grown HR5.out hg6 hrne
          obtain ⟨A7, c7, hv7⟩ := Kd.R_slice hR6
          subst hv7
          rw [List.length_append, List.length_singleton] at hR6
          go_wp2_with fail
          go_roundw
          case rel => exact ⟨xs.length + 1, xs ++ [x], j5, e5, by go_num, by simp, by omega, fun _ => hnm', hR6, hr6, bk_grown_base HGW5.out hb6, HP5.out.1, fun ys j2 e2 h => by
            rw [List.append_assoc]
            refine HPP.out _ _ _ ?_
            rw [show n.toNat - xs.length = (n.toNat - (xs.length + 1)) + 1 by omega]
            exact bk_Post.bind (next := fun x l => rdBind (rdN rdI (n.toNat - (xs.length + 1))) (fun xs l => .ok (x :: xs, l)) l) HP5.out (bk_Post.bind (next := fun xs l => .ok (x :: xs, l)) h (bk_Post.pure _ _ _ _ h.1))⟩
          case measure => simp [intOf]; omega
        · have hne : (e' == 0) = false := by simpa using he
          go_wp2_with fail
          go_ret
          have := HPP.out [] j e' (bk_Post.err hj he)
          rw [List.append_nil] at this
          exact ⟨xs, _, j, e', rfl, HRR.out, HR2.out, HP1.out.list HCASE.out this, HG2.out⟩
      · have hd : decide ((xs.length : Int) < n) = false := decide_eq_false hlt
        go_wp2_with fail
        go_ret
        have := HPP.out [] j e' (by rw [show n.toNat - xs.length = 0 by omega]; exact bk_Post.pure _ _ _ _ hj)
        rw [List.append_nil] at this
        exact ⟨xs, _, rfl, HRR.out, j, e', HR2.out, HP1.out.list HCASE.out this, HG2.out⟩
end Go.Proofs.YtpgjhjlhipikgaaDoor.PK
end
section
set_option linter.unusedVariables false
set_option linter.unusedSimpArgs false
namespace Go.Proofs.YtpgjhjlhipikgaaDoor.PK
open Go.RowKit Go.Proofs.YtpgjhjlhipikgaaDoorW.PrintWords Go.Proofs.YtpgjhjlhipikgaaDoorW.PrintLast Go.Proofs.YtpgjhjlhipikgaaDoorW.PrintMore
section
variable {P : Program} {ops : Array Oper} {rest : List Oper} {o : Oper} {a : Act} {Q : Exit → Act → World → Prop}
theorem is_box {W : World} {t : TypeId} {x : Operand} (_ : o.op = .box t x) (h : wpList P ops Q (o :: rest) a W) : wpList P ops Q (o :: rest) a W := h
end
theorem cd_rdB_post {s : ByteArray} {i i1 i2 i3 i4 i5 i6 i7 i8 i9 : Nat} {e e1 e2 e3 e4 e5 e6 e7 e8 e9 : Int} {x0 x1 x3 x4 x5 x7 x8 : Int} {x2 : ByteArray} {x6 : List Int}
    (h0 : bk_Post rdI s i e x0 i1 e1) (h1 : bk_Post rdI s i1 e1 x1 i2 e2) (h2 : bk_Post rdB_ s i2 e2 x2 i3 e3) (h3 : bk_Post rdI s i3 e3 x3 i4 e4) (h4 : bk_Post rdI s i4 e4 x4 i5 e5) (h5 : bk_Post rdI s i5 e5 x5 i6 e6)
    (h6 : bk_Post (rdL 64 rdI) s i6 e6 x6 i7 e7) (h7 : bk_Post rdI s i7 e7 x7 i8 e8) (h8 : bk_Post rdI s i8 e8 x8 i9 e9) : bk_Post rdB s i e (⟨x0, x1, x2, x3, x4, ⟨x5, x6, x7, x8⟩⟩ : Bl) i9 e9 := by
  have hstr : ∀ {β : Type} (next : ByteArray → Rd β) (l : List UInt8), rdBind rdS (fun x => next ⟨x.toArray⟩) l = rdBind rdB_ next l := by
    intro β next l
    unfold rdBind rdB_
    cases rdS l with
    | error e => rfl
    | ok p => rfl
  refine bk_Post.bind h0 (next := fun id l => _) ?_
  refine bk_Post.bind h1 (next := fun id l => _) ?_
  have := bk_Post.bind h2 (next := fun text l => rdBind rdI (fun story l => rdBind rdI (fun ref l => rdBind rdI (fun u l => rdBind (rdL 64 rdI) (fun after l => rdBind rdI (fun a l => rdBind rdI (fun d l => .ok ((⟨x0, x1, text, story, ref, ⟨u, after, a, d⟩⟩ : Bl), l)) l) l) l) l) l) l)
    (bk_Post.bind h3 (next := fun id l => _) (bk_Post.bind h4 (next := fun id l => _) (bk_Post.bind h5 (next := fun id l => _) (bk_Post.bind h6 (next := fun id l => _) (bk_Post.bind h7 (next := fun id l => _) (bk_Post.bind h8 (next := fun d l => .ok ((⟨x0, x1, x2, x3, x4, ⟨x5, x6, x7, d⟩⟩ : Bl), l)) (bk_Post.pure _ _ _ _ h8.1)))))))
  obtain ⟨a1, a2, a3⟩ := this
  refine ⟨a1, a2, fun h => ?_⟩
  have := a3 h
  rw [← hstr] at this
  exact this
theorem bk_size26b : (Tryd.prog.info? 26).map (·.size) = some 9 := bk_size26
def bk_cells (x0 x1 : Int) (x2 : ByteArray) (x3 x4 x5 : Int) (v6 : Value) (x7 x8 : Int) : Array Value := #[.int .i64 x0, .int .i64 x1, .string x2, .int .i64 x3, .int .i64 x4, .int .i64 x5, v6, .int .i64 x7, .int .i64 x8]
set_option maxHeartbeats 4000000 in
set_option maxRecDepth 100000 in
theorem bk_block (hI : bk_Reads 79 (Value.int .i64) rdI) (hS : bk_Reads 82 Value.string rdB_) (s : ByteArray) (i : Nat) (e : Int) (r : Nat) (w : World) (hi : i ≤ s.size) (hs : s.size ≤ 1000000000) (hr : w.heap[r]? = some (bk_rdr s i e)) :
    Calls Tryd.prog 58 #[.pointer (some ⟨r, 0, none⟩)] w fun en w' => ∃ (b : Bl) (v : Value) (j : Nat) (e' : Int), en = .returned (.agg (bk_cells b.f0 b.f1 b.f2 b.f3 b.f4 b.f5.f0 v b.f5.f2 b.f5.f3)) ∧
      (Kd.int .i64).R 3 w' w.heap.size (fun k => k ≠ r) v b.f5.f1 ∧ w'.heap[r]? = some (bk_rdr s j e') ∧ bk_Post rdB s i e b j e' ∧ w.grownBy w' (some r) := by
  have hrw : r < w.heap.size := blk_lt hr
  have HR := Aside0.mk hr
  clear hr
  go_enter Tryd.func58, Tryd.ntmps58
  go_wp2_with (with_reducible refine is_box rfl ?_; refine Rg.stop_here ?_)
  refine ⟨?_⟩
  refine box_event rfl (N := 1) rfl (cs := #[.pointer (some ⟨r, 0, none⟩)]) (t := 73) (by first | (go_simp; done) | (go_simp; rfl)) ?_
  intro g1 hg1 w1 hbx1 hb1
  have hr1 := bk_heap_below HR.out hb1
  have HP := Aside0.mk hbx1
  have hw1s := hb1.size
  have hge1 : w.heap.size ≤ g1 := Nat.le_of_eq hg1.symm
  have HG1 := Aside0.mk hge1
  clear hg1 hge1
  go_wp2_with (with_reducible refine is_alloc rfl ?_; refine Rg.stop_here ?_)
  refine ⟨?_⟩
  refine box_event rfl (N := 2) rfl (cs := #[.int .i64 0, .int .i64 0, .string (⟨#[]⟩ : ByteArray), .int .i64 0, .int .i64 0, .int .i64 0, .slice none 0 0, .int .i64 0, .int .i64 0]) (t := 26) (by first | (go_simp; done) | (go_simp; rfl)) ?_
  intro g hg w2 hbx2 hb2
  have hr2 := bk_heap_below hr1 hb2
  have hp2 := bk_heap_below HP.out hb2
  have hge : w.heap.size ≤ g := by rw [hg]; exact hw1s
  have HGE := Aside0.mk hge
  have hfr2 : bk_Fr r g w w2 := (bk_Fr.of_below hb1 r g).trans (bk_Fr.of_below hb2 r g)
  have hgr : g ≠ r := blk_ne hbx2 (show w2.heap[r]? = some (.cells _ 75 (0, 0)) from hr2) (by decide)
  have h1r : g1 ≠ r := blk_ne hp2 (show w2.heap[r]? = some (.cells _ 75 (0, 0)) from hr2) (by decide)
  have h1g : g1 ≠ g := blk_ne hp2 hbx2 (by decide)
  have cp2 : w2.cell? ⟨g1, 0, none⟩ = some (.pointer (some ⟨r, 0, none⟩)) := bk_cell hp2 0
  clear hr1 hb1 hb2 hg hge hbx1 hw1s HP
  go_wp2_with (with_reducible refine is_build rfl ?_; refine Rg.stop_here ?_)
  refine ⟨?_⟩
  refine lit_event rfl (N := 6) rfl (cs := #[.pointer (some ⟨g, 0, none⟩), .pointer (some ⟨g, 1, none⟩)]) (t := 101) (n := 2) (by first | (go_simp; done) | (go_simp; rfl)) ?_
  intro q3 hq3 w3 hl3 hb3
  have hr3 := bk_heap_below hr2 hb3
  have hbx3 := bk_heap_below hbx2 hb3
  have hp3 := bk_heap_below hp2 hb3
  have hfr3 := hfr2.trans (bk_Fr.of_below hb3 r g)
  clear hq3 hb3 hr2 hbx2 hp2 hfr2 cp2
  go_wp2_with (go_at_call 80; refine Rg.stop_here ?_)
  refine ⟨?_⟩
  refine (bk_rints hI s i e r g q3 2 [0, 1] _ w3 hi hs hr3 hbx3 hl3 (by decide) rfl (by omega)).mono ?_
  rintro en w4 ⟨xs, i2, e2, rfl, hxl, hr4, hbx4, hch, hfr4⟩
  obtain ⟨x0, x1, i1, e1, rfl, hp0, hp1⟩ := hch.two hxl
  have hp4 := hfr4.at hp3 h1r h1g
  replace hfr4 := hfr3.trans hfr4
  have hbx4' : w4.heap[g]? = some (.cells #[.int .i64 x0, .int .i64 x1, .string (⟨#[]⟩ : ByteArray), .int .i64 0, .int .i64 0, .int .i64 0, .slice none 0 0, .int .i64 0, .int .i64 0] 26 (0, 0)) := hbx4
  have HP0 := Aside0.mk hp0
  have HP1 := Aside0.mk hp1
  have cp4 : w4.cell? ⟨g1, 0, none⟩ = some (.pointer (some ⟨r, 0, none⟩)) := bk_cell hp4 0
  clear hr3 hbx3 hp3 hfr3 hch hxl hl3 hbx4 hp0 hp1
  go_wp2_with (go_at_call 81; refine Rg.stop_here ?_)
  refine ⟨?_⟩
  refine (bk_next_str hS s i2 e2 r _ HP1.out.1 hs hr4).mono ?_
  rintro en w5 ⟨x2, i3, e3, rfl, hr5, hp2, hg5⟩
  have hbx5 := blk_grown hbx4' hg5 (by simpa using hgr)
  have hp5 := blk_grown hp4 hg5 (by simpa using h1r)
  have hfr5 := hfr4.trans (bk_Fr.of_grown hg5 g)
  have HP2 := Aside0.mk hp2
  have cp5 : w5.cell? ⟨g1, 0, none⟩ = some (.pointer (some ⟨r, 0, none⟩)) := bk_cell hp5 0
  have cb5 := bk_cell hbx5 2
  have fb5 := bk_frozen hbx5 2
  have hbx5' := blk_set hbx5 2 (.string x2)
  have hr5' : (w5.setCell ⟨g, 2, none⟩ (.string x2)).heap[r]? = some (bk_rdr s i3 e3) := (Below.heap_setCell w5 ⟨g, 2, none⟩ _ r (fun h => hgr h.symm)).trans hr5
  have hp5' : (w5.setCell ⟨g, 2, none⟩ (.string x2)).heap[g1]? = some (.cells #[.pointer (some ⟨r, 0, none⟩)] 73 (0, 0)) := (Below.heap_setCell w5 ⟨g, 2, none⟩ _ g1 h1g).trans hp5
  have hfr5' := hfr5.set 2 (.string x2)
  have cp5' : (w5.setCell ⟨g, 2, none⟩ (.string x2)).cell? ⟨g1, 0, none⟩ = some (.pointer (some ⟨r, 0, none⟩)) := bk_cell hp5' 0
  clear hr4 hbx4' hp4 hfr4 hg5 hp2 cp4
  go_wp2_with (with_reducible refine is_build rfl ?_; refine Rg.stop_here ?_)
  refine ⟨?_⟩
  refine lit_event rfl (N := 16) rfl (cs := #[.pointer (some ⟨g, 3, none⟩), .pointer (some ⟨g, 4, none⟩), .pointer (some ⟨g, 5, none⟩)]) (t := 101) (n := 3) (by first | (go_simp; done) | (go_simp; rfl)) ?_
  intro q6 hq6 w6 hl6 hb6
  have hr6 := bk_heap_below hr5' hb6
  have hbx6 := bk_heap_below hbx5' hb6
  have hp6 := bk_heap_below hp5' hb6
  have hfr6 := hfr5'.trans (bk_Fr.of_below hb6 r g)
  clear hq6 hb6 hr5' hbx5' hp5' hfr5' cp5' hr5 hbx5 hp5 hfr5 cp5 cb5 fb5
  go_wp2_with (go_at_call 80; refine Rg.stop_here ?_)
  refine ⟨?_⟩
  refine (bk_rints hI s i3 e3 r g q6 3 [3, 4, 5] _ w6 HP2.out.1 hs hr6 hbx6 hl6 (by intro j hj; simp at hj ⊢; omega) rfl (by omega)).mono ?_
  rintro en w7 ⟨ys, i6, e6, rfl, hyl, hr7, hbx7, hch7, hfr7⟩
  obtain ⟨x3, x4, x5, i4, e4, i5, e5, rfl, hp3, hp4, hp5⟩ := hch7.three hyl
  have hp7 := hfr7.at hp6 h1r h1g
  replace hfr7 := hfr6.trans hfr7
  have hbx7' : w7.heap[g]? = some (.cells #[.int .i64 x0, .int .i64 x1, .string x2, .int .i64 x3, .int .i64 x4, .int .i64 x5, .slice none 0 0, .int .i64 0, .int .i64 0] 26 (0, 0)) := hbx7
  have HP3 := Aside0.mk hp3
  have HP4 := Aside0.mk hp4
  have HP5 := Aside0.mk hp5
  have cp7 : w7.cell? ⟨g1, 0, none⟩ = some (.pointer (some ⟨r, 0, none⟩)) := bk_cell hp7 0
  clear hr6 hbx6 hp6 hfr6 hch7 hyl hl6 hbx7 hp3 hp4 hp5
  go_wp2_with (go_at_call 83; refine Rg.stop_here ?_)
  refine ⟨?_⟩
  refine (bk_list_int hI s i6 e6 r g1 64 w7 HP5.out.1 hs hr7 hp7 (by omega) (by omega)).mono ?_
  rintro en w8 ⟨x6, v6, i7, e7, rfl, hR8, hr8, hp6, hg8⟩
  have hbx8 := blk_grown hbx7' hg8 (by simpa using hgr)
  have hp8 := blk_grown hp7 hg8 (by simpa using h1r)
  have hfr8 := hfr7.trans (bk_Fr.of_grown hg8 g)
  have HP6 := Aside0.mk hp6
  have hR8' := Kd.R_types hR8 hbx8 (by decide)
  have hR9 := Kd.R_far (p := ⟨g, 6, none⟩) hR8' (fun k hk => hk.2) v6
  obtain ⟨A6, c6, hv6⟩ := Kd.R_slice hR8
  subst hv6
  have cb8 := bk_cell hbx8 6
  have fb8 := bk_frozen hbx8 6
  have hbx8' := blk_set hbx8 6 (.slice A6 x6.length c6)
  have hr8' : (w8.setCell ⟨g, 6, none⟩ (.slice A6 x6.length c6)).heap[r]? = some (bk_rdr s i7 e7) := (Below.heap_setCell w8 ⟨g, 6, none⟩ _ r (fun h => hgr h.symm)).trans hr8
  have hp8' : (w8.setCell ⟨g, 6, none⟩ (.slice A6 x6.length c6)).heap[g1]? = some (.cells #[.pointer (some ⟨r, 0, none⟩)] 73 (0, 0)) := (Below.heap_setCell w8 ⟨g, 6, none⟩ _ g1 h1g).trans hp8
  have hfr8' := hfr8.set 6 (.slice A6 x6.length c6)
  have cp8' : (w8.setCell ⟨g, 6, none⟩ (.slice A6 x6.length c6)).cell? ⟨g1, 0, none⟩ = some (.pointer (some ⟨r, 0, none⟩)) := bk_cell hp8' 0
  have HR9 := Aside0.mk hR9
  have hws : w.heap.size ≤ w7.heap.size := hfr7.size
  clear hr7 hbx7' hp7 hfr7 hg8 hp6 cp7 hR8 hR8' hR9
  go_wp2_with (with_reducible refine is_build rfl ?_; refine Rg.stop_here ?_)
  refine ⟨?_⟩
  refine lit_event rfl (N := 28) rfl (cs := #[.pointer (some ⟨g, 7, none⟩), .pointer (some ⟨g, 8, none⟩)]) (t := 101) (n := 2) (by first | (go_simp; done) | (go_simp; rfl)) ?_
  intro q9 hq9 w9 hl9 hb9
  have hr9 := bk_heap_below hr8' hb9
  have hbx9 := bk_heap_below hbx8' hb9
  have hp9 := bk_heap_below hp8' hb9
  have hfr9 := hfr8'.trans (bk_Fr.of_below hb9 r g)
  have hRx := Aside0.mk (Kd.R_below HR9.out hb9)
  clear hq9 hb9 hr8' hbx8' hp8' hfr8' cp8' hr8 hbx8 hp8 hfr8 cb8 fb8 HR9
  go_wp2_with (go_at_call 80; refine Rg.stop_here ?_)
  refine ⟨?_⟩
  refine (bk_rints hI s i7 e7 r g q9 2 [7, 8] _ w9 HP6.out.1 hs hr9 hbx9 hl9 (by intro j hj; simp at hj ⊢; omega) rfl (by omega)).mono ?_
  rintro en w10 ⟨zs, i9, e9, rfl, hzl, hr10, hbx10, hch10, hfr10⟩
  obtain ⟨x7, x8, i8, e8, rfl, hp7, hp8⟩ := hch10.two hzl
  have hRy := Aside0.mk (Kd.R_step hRx.out (fun k hk hlt => hfr10.block k hlt hk.1 hk.2))
  replace hfr10 := hfr9.trans hfr10
  have hbx10' : w10.heap[g]? = some (.cells #[.int .i64 x0, .int .i64 x1, .string x2, .int .i64 x3, .int .i64 x4, .int .i64 x5, .slice A6 x6.length c6, .int .i64 x7, .int .i64 x8] 26 (0, 0)) := hbx10
  have HP7 := Aside0.mk hp7
  have HP8 := Aside0.mk hp8
  have HR10 := Aside0.mk hr10
  have HF10 := Aside0.mk hfr10
  obtain ⟨d0, d1, d2, d3, d4, d5, d6, d7, d8⟩ := bk_Box.of hbx10'
  clear hr9 hbx9 hp9 hfr9 hch10 hzl hl9 hbx10 hp7 hp8 hr10 hfr10 hRx
  go_wp2_with (with_reducible refine is_store rfl ?_; refine Rg.stop_here ?_)
  refine ⟨?_⟩
  refine wpList_store_box rfl rfl _ _ _ rfl g _ _ _ rfl rfl hbx10' bk_size26 rfl (by repeat (first | exact List.forall_mem_nil _ | refine List.forall_mem_cons.2 ⟨rfl, ?_⟩)) ?_
  intro w11 hbx11 hst hot
  clear d0 d1 d2 d3 d4 d5 d6 d7 d8
  obtain ⟨d0, d1, d2, d3, d4, d5, d6, d7, d8⟩ := bk_Box.of hbx11
  go_wp2
  have hq11 : bk_Fr r g w10 w11 := by
    have h0 := hst g (Nat.le_refl _)
    exact ⟨h0.os, h0.tape, h0.output, h0.size, fun k _ _ hk => hot k hk⟩
  have hr11 := (hot r (fun h => hgr h.symm)).trans HR10.out
  have hf11 := HF10.out.trans hq11
  have hRz := Kd.R_step hRy.out (fun k hk hlt => hq11.block k hlt hk.1 hk.2)
  refine bodyPost_ret (results_cell_row rfl _ _ g _ _ _ _ rfl hbx11 Tryd.underlying26 rfl bk_size26) rfl ?_
  refine ⟨⟨x0, x1, x2, x3, x4, ⟨x5, x6, x7, x8⟩⟩, _, i9, e9, rfl, Kd.R_mono (Kd.R_lower hRz hws) (fun k hk => hk.1), hr11, cd_rdB_post HP0.out HP1.out HP2.out HP3.out HP4.out HP5.out HP6.out HP7.out HP8.out, ?_⟩
  exact ⟨hf11.os, hf11.tape, hf11.output, hf11.size, fun k hk hkr => hf11.block k hk (fun h => hkr (by rw [h])) (fun h => by have := HGE.out; omega)⟩
theorem bk_info26 : (Tryd.prog.info? 26).map (fun i => (i.zero, i.size, i.bytes)) = some (some (.agg #[.int .i64 0, .int .i64 0, .string ⟨#[]⟩, .int .i64 0, .int .i64 0, .int .i64 0, .slice none 0 0, .int .i64 0, .int .i64 0]), 9, 96) := by kernel_rfl
set_option maxHeartbeats 2000000 in
set_option maxRecDepth 100000 in
theorem bk_list_block (hI : bk_Reads 79 (Value.int .i64) rdI) (hS : bk_Reads 82 Value.string rdB_) (s : ByteArray) (i : Nat) (e : Int) (r : Nat) (most : Int) (w : World) (hi : i ≤ s.size) (hs : s.size ≤ 1000000000) (hr : w.heap[r]? = some (bk_rdr s i e))
    (hm0 : 0 ≤ most) (hm : most ≤ 1000) :
    Calls Tryd.prog 57 #[.pointer (some ⟨r, 0, none⟩), .int .i64 most, .func (.func 58) #[.pointer (some ⟨r, 0, none⟩)] #[]] w fun en w' => ∃ (xs : List Bl) (v : Value) (j : Nat) (e' : Int), en = .returned v ∧
      Kd.S k26 26 w' w.heap.size (fun k => k ≠ r) v xs ∧ w'.heap[r]? = some (bk_rdr s j e') ∧ bk_Post (rdL most rdB) s i e xs j e' ∧ w.grownBy w' (some r) := by
  have HR := Aside0.mk hr
  clear hr
  go_enter Tryd.func57, Tryd.ntmps57
  go_wp2_with (go_at_call 78; refine Rg.stop_here ?_)
  refine ⟨?_⟩
  refine (bk_next_int hI s i e r _ hi hs HR.out).mono ?_
  rintro en w1 ⟨n, j1, e1, rfl, hr1, hp1, hgw1⟩
  have HP1 := Aside0.mk hp1
  have HR1 := Aside0.mk hr1
  have HW1 := Aside0.mk hgw1
  unfold bk_rdr at hr1
  have c2 : w1.cell? ⟨r, 2, none⟩ = some (.int .i64 e1) := bk_cell hr1 2
  have f2 := bk_frozen hr1 2
  clear hr1 hp1 hgw1
  go_upto_region 2 with fail
  go_cut [24] from 9 to 23 (fun v24 wx => v24 = .bool (decide (e1 = 0 ∧ (n < 0 ∨ most < n))) ∧ wx = w1)
  case first =>
    by_cases he1 : e1 = 0
    · subst he1
      by_cases hn0 : n < 0
      · have d1 : decide (n < 0) = true := decide_eq_true hn0
        go_wp2_with fail
        go_meet
        exact ⟨by simp [hn0], rfl⟩
      · have d1 : decide (n < 0) = false := decide_eq_false hn0
        by_cases hn1 : most < n
        · have d2 : decide (most < n) = true := decide_eq_true hn1
          go_wp2_with fail
          go_meet
          exact ⟨by simp [hn1], rfl⟩
        · have d2 : decide (most < n) = false := decide_eq_false hn1
          go_wp2_with fail
          go_meet
          exact ⟨by simp [hn0, hn1], rfl⟩
    · have hne : (e1 == 0) = false := by simpa using he1
      go_wp2_with fail
      go_meet
      exact ⟨by simp [he1], rfl⟩
  case rest =>
  obtain ⟨rfl, rfl⟩ := hcut
  go_upto_if 24 with fail
  go_cut [] from 9 to 27 (fun wx => ∃ e1', ((e1 ≠ 0 ∧ e1' = e1) ∨ (e1 = 0 ∧ (n < 0 ∨ most < n) ∧ e1' = 30) ∨ (e1 = 0 ∧ ¬ (n < 0 ∨ most < n) ∧ e1' = 0)) ∧ wx.heap[r]? = some (bk_rdr s j1 e1') ∧ w.grownBy wx (some r))
  case first =>
    by_cases hc : e1 = 0 ∧ (n < 0 ∨ most < n)
    · have d1 : decide (e1 = 0 ∧ (n < 0 ∨ most < n)) = true := decide_eq_true hc
      go_wp2_with fail
      go_meet
      exact ⟨30, .inr (.inl ⟨hc.1, hc.2, rfl⟩), by simpa [bk_rdr] using blk_set HR1.out 2 (.int .i64 30), bk_grown_set HW1.out _ _⟩
    · have d1 : decide (e1 = 0 ∧ (n < 0 ∨ most < n)) = false := decide_eq_false hc
      go_wp2_with fail
      go_meet
      by_cases he1 : e1 = 0
      · exact ⟨0, .inr (.inr ⟨he1, fun h => hc ⟨he1, h⟩, rfl⟩), by rw [← he1]; exact HR1.out, HW1.out⟩
      · exact ⟨e1, .inl ⟨he1, rfl⟩, HR1.out, HW1.out⟩
  case rest =>
    obtain ⟨e1', hcase, hrc, hgc⟩ := hcut
    have HCASE := Aside0.mk hcase
    have HRC := Aside0.mk hrc
    have HGC := Aside0.mk hgc
    have hnm : e1' = 0 → n ≤ most := by
      intro h
      rcases hcase with ⟨h1, h2⟩ | ⟨_, _, h2⟩ | ⟨_, h1, _⟩
      · exact absurd (h2 ▸ h) h1
      · rw [h2] at h; cases h
      · omega
    clear hcase hrc hgc c2 f2
    go_wp2_with fail
    go_loopw [6, 8] (fun p6 p8 wr => ∃ (k : Nat) (xs : List Bl) (j : Nat) (e' : Int), p8 = .int .i64 (k : Int) ∧ xs.length = k ∧ k ≤ n.toNat ∧ (e' = 0 → n ≤ most) ∧ Kd.S k26 26 wr w.heap.size (fun k => k ≠ r) p6 xs ∧ wr.heap[r]? = some (bk_rdr s j e') ∧ w.grownBy wr (some r) ∧ j ≤ s.size ∧
        (∀ ys j2 e2, bk_Post (rdN rdB (n.toNat - k)) s j e' ys j2 e2 → bk_Post (rdN rdB n.toNat) s j1 e1' (xs ++ ys) j2 e2))
      (fun _ p _ => n.toNat - (intOf p).toNat)
    case atStart => exact ⟨0, [], j1, e1', rfl, rfl, Nat.zero_le _, hnm, Kd.S_nil _ _ _ _ _, HRC.out, HGC.out, HP1.out.1, fun ys j2 e2 h => h⟩
    case round =>
      clear hnm
      obtain ⟨k, xs, j, e', rfl, rfl, hkn, hnm, hR, hr, hgw, hj, hP⟩ := hrel
      have HRR := Aside0.mk hR
      have HR2 := Aside0.mk hr
      have HG2 := Aside0.mk hgw
      have HPP := Aside0.mk hP
      unfold bk_rdr at hr
      have c2 : wr.cell? ⟨r, 2, none⟩ = some (.int .i64 e') := bk_cell hr 2
      obtain ⟨A6, c6, hv6⟩ := Kd.S_slice hR
      subst hv6
      clear hr hR hgw hP
      by_cases hlt : (xs.length : Int) < n
      · have hd : decide ((xs.length : Int) < n) = true := decide_eq_true hlt
        by_cases he : e' = 0
        · subst he
          have hnm' := hnm rfl
          go_wp2_with fail
          refine (bk_block hI hS s j 0 r _ hj hs HR2.out).mono ?_
          rintro en w5 ⟨x, vx, j5, e5, rfl, hvx, hr5, hp5, hg5⟩
          obtain ⟨Ax, cx, hve⟩ := Kd.R_slice hvx
          subst hve
          have HR5 := Aside0.mk hr5
          have HP5 := Aside0.mk hp5
          have hlt0 := Kd.S_lt HRR.out
          have hSS : Kd.S k26 26 w5 w.heap.size (fun k => k ≠ r ∧ ¬ (wr.heap.size ≤ k ∧ k ≠ r ∧ k < w5.heap.size)) (.slice A6 xs.length c6) xs :=
            Kd.S_mono (Kd.S_grown (Kd.S_bound HRR.out) hg5 (fun k hk he => hk.1 (Option.some.inj he))) (fun k hk => ⟨hk.1, fun h => by have := hk.2.2.1; omega⟩)
          have hgw5 := bk_grown_trans HG2.out hg5
          have hrw : r < w5.heap.size := blk_lt hr5
          have hrne : some r ≠ (Value.slice A6 xs.length c6).ownBlock := Kd.S_ne hSS (show w5.heap[r]? = some (.cells _ 75 (0, 0)) from hr5) (by decide)
          have hM := k26_mkM w5 w.heap.size (fun k => wr.heap.size ≤ k ∧ k ≠ r ∧ k < w5.heap.size) x (Kd.R_lower (Kd.R_mono (ok' := fun k => wr.heap.size ≤ k ∧ k ≠ r ∧ k < w5.heap.size) (Kd.R_bound hvx) (fun k hk => ⟨hk.2.1, hk.1, hk.2.2.1⟩)) HG2.out.size)
          have HM := Aside0.mk hM
          have HSS := Aside0.mk hSS
          have HGW5 := Aside0.mk hgw5
          have hbs := hgw5.size
          have hon : ∀ k, (wr.heap.size ≤ k ∧ k ≠ r ∧ k < w5.heap.size) → k ≠ r ∧ some k ≠ (Value.slice A6 xs.length c6).ownBlock := fun k hk => ⟨hk.2.1, fun h => by have := hlt0 k h.symm; omega⟩
          have HON := Aside0.mk hon
          clear hr5 hp5 hg5 hM hSS hgw5 hvx hlt0 hon
          unfold bk_cells
          go_wp2_with (at_builtin; refine Rg.stop_here ?_)
          refine ⟨?_⟩
          refine Kd.S_append k26 (w0 := w5) w.heap.size rfl (.tmp 40) (.tmp 43) 27 26 _ 96 rfl Tryd.underlying27 bk_info26 rfl (by decide) (by omega) (.slice A6 xs.length c6) xs x _ (fun k => k ≠ r) (fun k => wr.heap.size ≤ k ∧ k ≠ r ∧ k < w5.heap.size) rfl rfl HM.out HON.out (fun k hk => by omega) HSS.out (Below.refl _ _) hbs (by omega) ?_
          intro v1 w6 hR6 hb6 hg6 _
          have hr6 := blk_grown HR5.out hg6 hrne
          obtain ⟨A7, c7, hv7⟩ := Kd.S_slice hR6
          subst hv7
          rw [List.length_append, List.length_singleton] at hR6
          go_wp2_with fail
          go_roundw
          case rel => exact ⟨xs.length + 1, xs ++ [x], j5, e5, by go_num, by simp, by omega, fun _ => hnm', hR6, hr6, bk_grown_base HGW5.out hb6, HP5.out.1, fun ys j2 e2 h => by
            rw [List.append_assoc]
            refine HPP.out _ _ _ ?_
            rw [show n.toNat - xs.length = (n.toNat - (xs.length + 1)) + 1 by omega]
            exact bk_Post.bind (next := fun x l => rdBind (rdN rdB (n.toNat - (xs.length + 1))) (fun xs l => .ok (x :: xs, l)) l) HP5.out (bk_Post.bind (next := fun xs l => .ok (x :: xs, l)) h (bk_Post.pure _ _ _ _ h.1))⟩
          case measure => simp [intOf]; omega
        · have hne : (e' == 0) = false := by simpa using he
          go_wp2_with fail
          go_ret
          have := HPP.out [] j e' (bk_Post.err hj he)
          rw [List.append_nil] at this
          exact ⟨xs, _, j, e', rfl, HRR.out, HR2.out, HP1.out.list HCASE.out this, HG2.out⟩
      · have hd : decide ((xs.length : Int) < n) = false := decide_eq_false hlt
        go_wp2_with fail
        go_ret
        have := HPP.out [] j e' (by rw [show n.toNat - xs.length = 0 by omega]; exact bk_Post.pure _ _ _ _ hj)
        rw [List.append_nil] at this
        exact ⟨xs, _, rfl, HRR.out, j, e', HR2.out, HP1.out.list HCASE.out this, HG2.out⟩
end Go.Proofs.YtpgjhjlhipikgaaDoor.PK
end
section
set_option linter.unusedVariables false
set_option linter.unusedSimpArgs false
namespace Go.Proofs.YtpgjhjlhipikgaaDoor.PK
open Go.RowKit Go.Proofs.YtpgjhjlhipikgaaDoorW.PrintWords Go.Proofs.YtpgjhjlhipikgaaDoorW.PrintLast Go.Proofs.YtpgjhjlhipikgaaDoorW.PrintMore
theorem cd_rdB__eq (l : List UInt8) : rdB_ l = match rdI l with
    | .error e => .error 10
    | .ok (n, r) => if n < 0 ∨ 65536 < n ∨ (r.length : Int) < n then .error 10 else .ok (⟨(r.take n.toNat).toArray⟩, r.drop n.toNat) := by
  unfold rdB_
  rw [cd_rdStr]
  cases rdI l with
  | error e => rfl
  | ok p =>
    obtain ⟨n, r⟩ := p
    dsimp only
    by_cases h : n < 0 ∨ 65536 < n ∨ (r.length : Int) < n
    · rw [if_pos h, if_pos h]
    · rw [if_neg h, if_neg h]
theorem bk_rest_len (s : ByteArray) (i : Nat) : (bk_rest s i).length = s.size - i := by
  show (s.data.toList.drop i).length = _
  rw [List.length_drop, Array.length_toList]; rfl
theorem bk_rest_drop (s : ByteArray) (i n : Nat) : (bk_rest s i).drop n = bk_rest s (i + n) := by
  show (s.data.toList.drop i).drop n = _
  rw [List.drop_drop]
theorem bk_extract (s : ByteArray) (i n : Nat) : s.extract i (i + n) = ⟨((bk_rest s i).take n).toArray⟩ := by
  refine cd_ba_inj _ _ ?_
  rw [ByteArray.data_extract, Array.toList_extract, List.extract_eq_take_drop, Nat.add_sub_cancel_left]
set_option maxHeartbeats 2000000 in
set_option maxRecDepth 100000 in
theorem bk_rstring (hI : bk_Reads 79 (Value.int .i64) rdI) : bk_Reads 82 Value.string rdB_ := by
  intro s i hi hs
  rcases hI s i hi hs with ⟨n, j, hj, hone, hc⟩ | ⟨hone, x, j, er, her, hc⟩
  · have hlen := bk_rest_len s j
    by_cases h0 : n < 0
    · refine .inr ⟨by rw [cd_rdB__eq, hone]; dsimp only; rw [if_pos (.inl h0)], ⟨#[]⟩, 0, 10, by decide, fun W => ?_⟩
      have d0 : decide (n < 0) = true := decide_eq_true h0
      clear hI hone
      go_enter Tryd.func82, Tryd.ntmps82
      go_wp2_with (go_at_call 79; refine (hc _).mono ?_; rintro e w1 ⟨rfl, m, rfl⟩)
      go_ret3
      exact ⟨rfl, m, rfl⟩
    · have d0 : decide (n < 0) = false := decide_eq_false h0
      by_cases h1 : 65536 < n
      · refine .inr ⟨by rw [cd_rdB__eq, hone]; dsimp only; rw [if_pos (.inr (.inl h1))], ⟨#[]⟩, 0, 10, by decide, fun W => ?_⟩
        have d1 : decide (65536 < n) = true := decide_eq_true h1
        clear hI hone
        go_enter Tryd.func82, Tryd.ntmps82
        go_wp2_with (go_at_call 79; refine (hc _).mono ?_; rintro e w1 ⟨rfl, m, rfl⟩)
        go_ret3
        exact ⟨rfl, m, rfl⟩
      · have d1 : decide (65536 < n) = false := decide_eq_false h1
        have hw : wrap64 ((s.size : Int) - (j : Int)) = (s.size : Int) - (j : Int) := by unfold wrap64; omega
        by_cases h2 : (s.size : Int) - (j : Int) < n
        · refine .inr ⟨by rw [cd_rdB__eq, hone]; dsimp only; rw [if_pos (.inr (.inr (by omega)))], ⟨#[]⟩, 0, 10, by decide, fun W => ?_⟩
          have d2 : decide ((s.size : Int) - (j : Int) < n) = true := decide_eq_true h2
          clear hI hone
          go_enter Tryd.func82, Tryd.ntmps82
          go_wp2_with (go_at_call 79; refine (hc _).mono ?_; rintro e w1 ⟨rfl, m, rfl⟩)
          go_ret3
          exact ⟨rfl, m, rfl⟩
        · have d2 : decide ((s.size : Int) - (j : Int) < n) = false := decide_eq_false h2
          obtain ⟨k, rfl⟩ : ∃ k : Nat, n = (k : Int) := ⟨n.toNat, by omega⟩
          have hw2 : wrap64 ((j : Int) + (k : Int)) = (j : Int) + (k : Int) := by unfold wrap64; omega
          have hle : j + k ≤ s.size := by omega
          refine .inl ⟨s.extract j (j + k), j + k, hle, by rw [cd_rdB__eq, hone]; dsimp only; rw [if_neg (by omega), Int.toNat_natCast, bk_extract, bk_rest_drop], fun W => ?_⟩
          have q0 := eq_true (show (0 : Int) ≤ (j : Int) by omega)
          have q1 := eq_true (show (j : Int) ≤ (j : Int) + (k : Int) by omega)
          have q2 := eq_true (show (j : Int) + (k : Int) ≤ (s.size : Int) by omega)
          have q3 : ((j : Int) + (k : Int)).toNat = j + k := by omega
          clear hI hone hlen
          go_enter Tryd.func82, Tryd.ntmps82
          go_wp2_with (go_at_call 79; refine (hc _).mono ?_; rintro e w1 ⟨rfl, m, rfl⟩)
          go_ret3
          exact ⟨by simp, m, rfl⟩
  · have hne : (er == 0) = false := by simpa using her
    refine .inr ⟨by rw [cd_rdB__eq, hone], ⟨#[]⟩, 0, er, her, fun W => ?_⟩
    clear hI hone
    go_enter Tryd.func82, Tryd.ntmps82
    go_wp2_with (go_at_call 79; refine (hc _).mono ?_; rintro e w1 ⟨rfl, m, rfl⟩)
    go_ret3
    exact ⟨rfl, m, rfl⟩
end Go.Proofs.YtpgjhjlhipikgaaDoor.PK
end
section
namespace Go.Proofs.YtpgjhjlhipikgaaDoor.PK
open Go.RowKit Go.Proofs.YtpgjhjlhipikgaaDoorW.PrintWords Go.Proofs.YtpgjhjlhipikgaaDoorW.PrintLast Go.Proofs.YtpgjhjlhipikgaaDoorW.PrintMore
attribute [local go_sem] max2_int min2_int max_two min_two max_three min_three max_four min_four   -- for this text's walks alone
set_option linter.unusedVariables false
set_option linter.unusedSimpArgs false

/-! ### block_Decode: function 29 -/
-- NEEDS Derived.Test.YtpgjhjlhipikgaaDoorKDefs
-- NEEDS Derived.Test.YtpgjhjlhipikgaaDoorKReadB
-- NEEDS Derived.Test.YtpgjhjlhipikgaaDoorKReadS
-- NEEDS Derived.Lib.VarintBits
-- NEEDS Derived.Lib.Zigzag
theorem pl_unzig (z : Nat) (hz : z < 9223372036854775808) : Go.bits .xor .i64 (wrap64 ((z : Int) / 2)) (wrap64 (-(wrap64 (Go.bits .and .u64 (z : Int) 1)))) = m_unzig z := by
  rw [Go.Lib.u64_and1 _ (by omega) (by omega)]
  have hw : wrap64 ((z : Int) / 2) = ((z / 2 : Nat) : Int) := by unfold wrap64; omega
  rw [hw]
  unfold m_unzig
  by_cases h : z % 2 = 1
  · rw [if_pos h, show wrap64 (-(wrap64 ((z : Int) % 2))) = -1 by unfold wrap64; omega]
    have hc : Go.bits .xor .i64 (((z / 2 : Nat) : Int)) (-1) = Go.bits .xor .i64 (-1) (((z / 2 : Nat) : Int)) := by
      show IntKind.i64.wrap ((BitVec.ofInt 64 ((z / 2 : Nat) : Int) ^^^ BitVec.ofInt 64 (-1)).toNat : Int) = IntKind.i64.wrap ((BitVec.ofInt 64 (-1) ^^^ BitVec.ofInt 64 ((z / 2 : Nat) : Int)).toNat : Int)
      rw [BitVec.xor_comm]
    rw [hc, Go.Lib.i64_not _ (by omega)]
  · rw [if_neg h, show wrap64 (-(wrap64 ((z : Int) % 2))) = 0 by unfold wrap64; omega]
    show IntKind.i64.wrap ((BitVec.ofInt 64 ((z / 2 : Nat) : Int) ^^^ BitVec.ofInt 64 0).toNat : Int) = _
    rw [show BitVec.ofInt 64 0 = 0#64 from rfl, BitVec.xor_zero, BitVec.ofInt_natCast, BitVec.toNat_ofNat, Nat.mod_eq_of_lt (by omega), IntKind.wrap_i64]
    omega
/-- What the reading of a number answers. -/
def pl_ans (s : ByteArray) (o : Option (Nat × List UInt8)) : Option (Int × Int × Int) := match o with
  | none => some (0, 0, 10)
  | some (z, r) => if m_unzig z < -4611686018427387903 then some (0, 0, 10) else some (m_unzig z, (s.size : Int) - (r.length : Int), 0)
theorem pl_or (z b t : Nat) (hz : z < 2 ^ (7 * t)) (hb : b < 128) (ht : t ≤ 8) (x : Int) (hx : x = (b : Int)) : Go.bits .or .u64 (z : Int) (shl .u64 (IntKind.u64.wrap x) (wrap64 (7 * (t : Int)))) = ((z + b * 2 ^ (7 * t) : Nat) : Int) := by
  have hw : wrap64 (7 * (t : Int)) = ((7 * t : Nat) : Int) := by unfold wrap64; omega
  have hp : b * 2 ^ (7 * t) < 9223372036854775808 := by
    have h1 : b * 2 ^ (7 * t) < 128 * 2 ^ (7 * t) := Nat.mul_lt_mul_of_pos_right hb (Nat.two_pow_pos _)
    have h2 : 2 ^ (7 * t) ≤ 2 ^ 56 := Nat.pow_le_pow_right (by decide) (by omega)
    have h3 : (2 : Nat) ^ 56 = 72057594037927936 := by decide
    omega
  have hs : shl .u64 (IntKind.u64.wrap x) (wrap64 (7 * (t : Int))) = ((b * 2 ^ (7 * t) : Nat) : Int) := by
    unfold shl
    rw [hw, hx, wraps_u64 (b : Int) (by omega) (by omega), Int.toNat_natCast, show min (7 * t) (IntKind.u64.bits) = 7 * t from Nat.min_eq_left (by show 7 * t ≤ 64; omega), show (b : Int) * 2 ^ (7 * t) = ((b * 2 ^ (7 * t) : Nat) : Int) by push_cast; rfl, wraps_u64 _ (by omega) (by omega)]
  have hzi : (z : Int) < 2 ^ (7 * t) := by exact_mod_cast hz
  have h64 : z < 18446744073709551616 := by
    have h2 : 2 ^ (7 * t) ≤ 2 ^ 56 := Nat.pow_le_pow_right (by decide) (by omega)
    have h3 : (2 : Nat) ^ 56 = 72057594037927936 := by decide
    omega
  have hzj : (z : Int) < 2 ^ 64 := by
    have : (2 : Int) ^ 64 = 18446744073709551616 := by decide
    omega
  have hbj : ((b * 2 ^ (7 * t) : Nat) : Int) < 2 ^ 64 := by
    have : (2 : Int) ^ 64 = 18446744073709551616 := by decide
    omega
  have hbm : ((b * 2 ^ (7 * t) : Nat) : Int) % 2 ^ (7 * t) = 0 := by
    rw [show ((b * 2 ^ (7 * t) : Nat) : Int) = (b : Int) * 2 ^ (7 * t) by push_cast; rfl]; exact Int.mul_emod_left _ _
  rw [hs, bits_join_low .u64 64 (by decide) wraps_u64 (7 * t) (z : Int) _ (by omega) hzi hzj (by omega) hbm hbj]
  push_cast
  rfl
theorem pl_step (s : ByteArray) (i z x b I Z U W7 : Int) (k : Nat) (h1 : x < 9) (hw : wrap64 (i + x) = I) (h2 : ¬ I ≥ (s.size : Int)) (h3 : 0 ≤ I) (h4 : I < (s.size : Int)) (hw7 : wrap64 (7 * x) = W7) (h5 : 0 ≤ W7) (hb : bt s I = b)
    (hZ : Go.bits .or .u64 z (shl .u64 (IntKind.u64.wrap (Go.bits .and .u8 b 127)) W7) = Z) :
    wire_Int.l0 (k + 1) s i z x = if b ≥ 128 then wire_Int.l0 k s i Z (wrap64 (x + 1)) else if b = 0 then (if x > 0 then some (0, 0, 10) else (if (Go.bits .xor .i64 (wrap64 (Z / 2)) (wrap64 (-(wrap64 (Go.bits .and .u64 Z 1))))) < (-4611686018427387903) then some (0, 0, 10) else some (Go.bits .xor .i64 (wrap64 (Z / 2)) (wrap64 (-(wrap64 (Go.bits .and .u64 Z 1)))), wrap64 (I + 1), 0)))
      else (if (Go.bits .xor .i64 (wrap64 (Z / 2)) (wrap64 (-(wrap64 (Go.bits .and .u64 Z 1))))) < (-4611686018427387903) then some (0, 0, 10) else some (Go.bits .xor .i64 (wrap64 (Z / 2)) (wrap64 (-(wrap64 (Go.bits .and .u64 Z 1)))), wrap64 (I + 1), 0)) := by
  rw [wire_Int.l0, if_pos h1, hw, if_neg h2, if_pos h3, if_pos h4, hw7, if_pos h5, hb, hZ]
theorem pl_end (s : ByteArray) (i z x I : Int) (k : Nat) (h1 : x < 9) (hw : wrap64 (i + x) = I) (h2 : I ≥ (s.size : Int)) : wire_Int.l0 (k + 1) s i z x = some (0, 0, 10) := by
  rw [wire_Int.l0, if_pos h1, hw, if_pos h2]
theorem pl_none (s : ByteArray) (i z x : Int) (k : Nat) (h1 : ¬ x < 9) : wire_Int.l0 (k + 1) s i z x = some (0, 0, 10) := by
  rw [wire_Int.l0, if_neg h1]
theorem pl_pow (t : Nat) (ht : t ≤ 8) : 2 ^ (7 * t) ≤ 72057594037927936 := Nat.le_trans (Nat.pow_le_pow_right (by decide) (by omega : 7 * t ≤ 56)) (by decide)
theorem pl_mapped (z c t P : Nat) (hP : P = 2 ^ (7 * t)) (hc : 128 ≤ c) (hc2 : c < 256) (p : Nat) : z + c % 128 * P + p * 2 ^ (7 * (t + 1)) = z + (c - 128 + 128 * p) * P := by
  rw [show c % 128 = c - 128 by omega, show 7 * (t + 1) = 7 * t + 7 by omega, Nat.pow_add, ← hP, Nat.add_mul, Nat.add_assoc, show p * (P * 2 ^ 7) = 128 * p * P by rw [Nat.mul_comm P, ← Nat.mul_assoc, Nat.mul_comm p]]
theorem pl_lt1 (z c t : Nat) (hz : z < 2 ^ (7 * t)) (hc : c < 128) : z + c * 2 ^ (7 * t) < 2 ^ (7 * (t + 1)) := by
  rw [show 7 * (t + 1) = 7 * t + 7 by omega, Nat.pow_add]
  have : c * 2 ^ (7 * t) ≤ 127 * 2 ^ (7 * t) := Nat.mul_le_mul_right _ (by omega)
  omega
theorem pl_lt2 (z c t : Nat) (hz : z < 2 ^ (7 * t)) (hc : c < 128) (ht : t ≤ 8) : z + c * 2 ^ (7 * t) < 9223372036854775808 := by
  have a1 : c * 2 ^ (7 * t) ≤ 127 * 2 ^ (7 * t) := Nat.mul_le_mul_right _ (by omega)
  have a2 := pl_pow t ht
  omega
theorem pl_w1 (n : Nat) (h : n ≤ 2000000000) : wrap64 ((n : Int) + 1) = ((n + 1 : Nat) : Int) := by unfold wrap64; omega
theorem pl_wadd (i t : Nat) (hi : i ≤ 1000000000) (ht : t ≤ 9) : wrap64 ((i : Int) + (t : Int)) = ((i + t : Nat) : Int) := by unfold wrap64; omega
theorem pl_w7 (t : Nat) (ht : t ≤ 9) : wrap64 (7 * (t : Int)) = ((7 * t : Nat) : Int) := by unfold wrap64; omega
theorem pl_rdz_cons (d t : Nat) (c : UInt8) (l : List UInt8) : m_rdz (d + 1) t (c :: l) = if 128 ≤ c.toNat then (m_rdz d (t + 1) l).map (fun p => (c.toNat - 128 + 128 * p.1, p.2)) else if c.toNat = 0 ∧ 0 < t then none else some (c.toNat, l) := rfl
theorem pl_and (c : UInt8) : Go.bits .and .u8 (c.toNat : Int) 127 = ((c.toNat % 128 : Nat) : Int) := by
  have hc8 : c.toNat < 256 := c.toNat_lt
  rw [Go.u8_and127 _ (by omega) (by omega)]; omega
theorem pl_byte (s : ByteArray) (n : Nat) (h : n < s.size) : ∃ c : UInt8, bk_rest s n = c :: bk_rest s (n + 1) ∧ bt s (n : Int) = (c.toNat : Int) := by
  obtain ⟨c, hc⟩ : ∃ c, s.data.toList[n]? = some c := ⟨_, List.getElem?_eq_getElem (by rw [Array.length_toList]; exact h)⟩
  obtain ⟨h1, h2⟩ := List.getElem?_eq_some_iff.1 hc
  refine ⟨c, ?_, ?_⟩
  · show s.data.toList.drop n = _
    rw [List.drop_eq_getElem_cons h1, h2]
  · unfold bt
    rw [dif_pos (by rw [Int.toNat_natCast]; exact h)]
    simp only [Int.toNat_natCast]
    rw [← h2]
    rfl
theorem pl_int_end (s : ByteArray) (n : Nat) (h : n ≤ s.size) : (s.size : Int) - ((bk_rest s n).length : Int) = (n : Int) := by rw [bk_rest_len]; omega
set_option maxHeartbeats 1000000 in
theorem pl_int (s : ByteArray) (i : Nat) (hs : s.size ≤ 1000000000) (hi : i ≤ s.size) : ∀ (d k t z : Nat), t + d = 9 → d < k → z < 2 ^ (7 * t) →
    wire_Int.l0 k s (i : Int) (z : Int) (t : Int) = pl_ans s ((m_rdz d t (bk_rest s (i + t))).map (fun p => (z + p.1 * 2 ^ (7 * t), p.2)))
  | 0, k, t, z, ht, hk, hz => by
    obtain ⟨k, rfl⟩ : ∃ j, k = j + 1 := ⟨k - 1, by omega⟩
    rw [pl_none _ _ _ _ _ (by omega)]; rfl
  | d + 1, k, t, z, ht, hk, hz => by
    obtain ⟨k, rfl⟩ : ∃ j, k = j + 1 := ⟨k - 1, by omega⟩
    have HZ := Aside0.mk hz
    clear hz
    have ht9 : (t : Int) < 9 := by omega
    have ht8 : t ≤ 8 := by omega
    have hkd : d < k := by omega
    have htd : t + 1 + d = 9 := by omega
    have hw := pl_wadd i t (Nat.le_trans hi hs) (Nat.le_succ_of_le ht8)
    by_cases hlt : i + t < s.size
    · obtain ⟨c, hrest, hbt⟩ := pl_byte s (i + t) hlt
      have hc8 : c.toNat < 256 := c.toNat_lt
      have hmod : c.toNat % 128 < 128 := Nat.mod_lt _ (by decide)
      have g2 : ¬ ((i + t : Nat) : Int) ≥ (s.size : Int) := by omega
      have g3 : 0 ≤ ((i + t : Nat) : Int) := by omega
      have g4 : ((i + t : Nat) : Int) < (s.size : Int) := by omega
      have g5 : 0 ≤ ((7 * t : Nat) : Int) := by omega
      have hor := pl_or z (c.toNat % 128) t HZ.out hmod ht8 _ (pl_and c)
      rw [pl_w7 t (Nat.le_succ_of_le ht8)] at hor
      have hst := pl_step s (i : Int) (z : Int) (t : Int) (c.toNat : Int) ((i + t : Nat) : Int) _ 0 _ k ht9 hw g2 g3 g4 (pl_w7 t (Nat.le_succ_of_le ht8)) g5 hbt hor
      rw [pl_w1 t (by omega), pl_w1 (i + t) (by omega)] at hst
      rw [hst, hrest, pl_rdz_cons]
      clear hst hor hbt g2 g3 g4 g5
      by_cases h1 : 128 ≤ c.toNat
      · have h1' : (c.toNat : Int) ≥ 128 := by omega
        rw [if_pos h1', if_pos h1, pl_int s i hs hi d k (t + 1) _ htd hkd (pl_lt1 z _ t HZ.out hmod), Option.map_map, ← Nat.add_assoc]
        congr 1
        congr 1
        funext p
        exact congrArg (fun q => (q, p.2)) (pl_mapped z c.toNat t _ rfl h1 hc8 p.1)
      · have hm : c.toNat % 128 = c.toNat := Nat.mod_eq_of_lt (by omega)
        have hz3 := pl_lt2 z (c.toNat % 128) t HZ.out hmod ht8
        have hlen := pl_int_end s (i + t + 1) hlt
        have h1' : ¬ (c.toNat : Int) ≥ 128 := by omega
        rw [if_neg h1', if_neg h1, pl_unzig _ hz3, hm]
        by_cases h2 : c.toNat = 0
        · have h2' : (c.toNat : Int) = 0 := by omega
          rw [if_pos h2']
          by_cases h3 : 0 < t
          · have h3' : (t : Int) > 0 := by omega
            rw [if_pos h3', if_pos ⟨h2, h3⟩]; rfl
          · have h3' : ¬ (t : Int) > 0 := by omega
            have h4' : ¬ (c.toNat = 0 ∧ 0 < t) := fun h => h3 h.2
            rw [if_neg h3', if_neg h4']
            simp only [Option.map_some, pl_ans, hlen]
        · have h2' : ¬ (c.toNat : Int) = 0 := by omega
          have h4' : ¬ (c.toNat = 0 ∧ 0 < t) := fun h => h2 h.1
          rw [if_neg h2', if_neg h4']
          simp only [Option.map_some, pl_ans, hlen]
    · have hge : ((i + t : Nat) : Int) ≥ (s.size : Int) := by omega
      rw [pl_end _ _ _ _ _ _ ht9 hw hge, show bk_rest s (i + t) = [] from List.drop_eq_nil_of_le (by rw [Array.length_toList]; show s.size ≤ _; omega)]
      rfl
theorem pl_drawn {W w' : World} (h : Drawn0 W w') : ∃ m, w' = W.drewN m := by
  obtain ⟨m, h⟩ := h
  exact ⟨m, by subst h; rfl⟩
theorem pl_rint : bk_Reads 79 (Value.int .i64) rdI := by
  intro s i hi hs
  have hf : wire_Int.f 30 s (i : Int) = pl_ans s (m_rdz 9 0 (bk_rest s i)) := by
    unfold wire_Int.f
    rw [if_neg (by omega), show decide ((i : Int) > (s.size : Int)) = false from decide_eq_false (by omega), wire_Int.j0, if_neg (by decide)]
    have := pl_int s i hs hi 9 29 0 0 (by omega) (by omega) (by decide)
    rw [Nat.add_zero] at this
    refine this.trans ?_
    congr 1
    cases m_rdz 9 0 (bk_rest s i) with
    | none => rfl
    | some p => simp
  have hone : ∀ (z : Nat) (r : List UInt8), m_rdz 9 0 (bk_rest s i) = some (z, r) → rdI (bk_rest s i) = (if m_unzig z < -4611686018427387903 then .error 10 else .ok (m_unzig z, r)) := fun z r h => by
    unfold rdI m_rdInt
    rw [h]
    dsimp only
    by_cases h2 : m_unzig z < -4611686018427387903
    · rw [if_pos h2, if_pos h2]
    · rw [if_neg h2, if_neg h2]
  cases h : m_rdz 9 0 (bk_rest s i) with
  | none =>
    rw [h] at hf
    exact .inr ⟨by unfold rdI m_rdInt; rw [h], 0, 0, 10, by decide, fun W => (wire_Int.calls 30 s i 0 0 10 W hf).mono (fun e w' h => ⟨h.1, pl_drawn h.2⟩)⟩
  | some p =>
    obtain ⟨z, r⟩ := p
    rw [h] at hf
    have ho := hone z r h
    by_cases hlo : m_unzig z < -4611686018427387903
    · rw [if_pos hlo] at ho
      simp only [pl_ans, if_pos hlo] at hf
      exact .inr ⟨ho, 0, 0, 10, by decide, fun W => (wire_Int.calls 30 s i 0 0 10 W hf).mono (fun e w' h => ⟨h.1, pl_drawn h.2⟩)⟩
    · rw [if_neg hlo] at ho
      simp only [pl_ans, if_neg hlo] at hf
      obtain ⟨_, _, a3⟩ := cd_rdz_inv _ _ _ _ _ h
      have hl := congrArg List.length (a3 9 (Nat.le_refl _))
      rw [bk_rest_len, List.length_append] at hl
      have hr : r = bk_rest s (s.size - r.length) := by
        have h1 : bk_rest s i = m_vint 9 z ++ r := a3 9 (Nat.le_refl _)
        have h2 : r = (bk_rest s i).drop (m_vint 9 z).length := by rw [h1, List.drop_left]
        rw [bk_rest_drop, show i + (m_vint 9 z).length = s.size - r.length by omega] at h2
        exact h2
      refine .inl ⟨m_unzig z, s.size - r.length, by omega, by rw [ho, ← hr], fun W => ?_⟩
      have hj : (s.size : Int) - (r.length : Int) = ((s.size - r.length : Nat) : Int) := by omega
      rw [hj] at hf
      exact (wire_Int.calls 30 s i _ _ 0 W hf).mono (fun e w' h => ⟨h.1, pl_drawn h.2⟩)
def block_Decode.f (a0 : ByteArray) : Option (List (S26) × Int) := if a0.size ≤ 1000000000 then some (m_decode a0) else none
theorem pl_decode_err (s : ByteArray) (e : Int) (h : rdL 24 rdB s.data.toList = .error e) : m_decode s = ([], e) := by unfold m_decode; rw [h]
theorem pl_decode_ok (s : ByteArray) (l : List Bl) (r : List UInt8) (h : rdL 24 rdB s.data.toList = .ok (l, r)) : m_decode s = if r ≠ [] then ([], 10) else if m_validL l then (l, 0) else ([], 30) := by unfold m_decode; rw [h]
theorem pl_rest_nil (s : ByteArray) (j : Nat) : bk_rest s j ≠ [] ↔ j < s.size := by
  rw [← List.length_pos_iff, bk_rest_len]; omega
set_option maxHeartbeats 2000000 in
set_option maxRecDepth 100000 in
theorem block_Decode.calls (a0 : ByteArray) (r1 : List (S26)) (r2 : Int) (w : World) (h : block_Decode.f a0 = some (r1, r2)) :
    Calls Tryd.prog 29 #[.string a0] w fun e w' => ∃ v0_ : Value, e = .returned (.tuple #[v0_, .int .i64 r2]) ∧ Kd.S k26 26 w' w.heap.size (fun _ => True) v0_ r1 ∧ Below w.heap.size w w' := by
  unfold block_Decode.f at h
  obtain ⟨hs, hd⟩ : a0.size ≤ 1000000000 ∧ m_decode a0 = (r1, r2) := by
    split at h
    · exact ⟨by assumption, Option.some.inj h⟩
    · cases h
  clear h
  have HD := Aside0.mk hd
  clear hd
  go_enter Tryd.func29, Tryd.ntmps29
  go_wp2_with (with_reducible refine is_box rfl ?_; refine Rg.stop_here ?_)
  refine ⟨?_⟩
  refine box_event rfl (N := 8) rfl (cs := #[.string a0, .int .i64 0, .int .i64 0]) (t := 75) (by first | (go_simp; done) | (go_simp; rfl)) ?_
  intro r hr w1 hbx hb1
  have hrge : w.heap.size ≤ r := Nat.le_of_eq hr.symm
  have HRG := Aside0.mk hrge
  have HB1 := Aside0.mk hb1
  clear hr hrge hb1
  go_wp2_with (go_at_call 57; refine Rg.stop_here ?_)
  refine ⟨?_⟩
  refine (bk_list_block pl_rint (bk_rstring pl_rint) a0 0 0 r 24 w1 (Nat.zero_le _) hs hbx (by omega) (by omega)).mono ?_
  rintro en w2 ⟨xs, v, j, e', rfl, hS, hr2, hp, hg2⟩
  have hB2 : Below w.heap.size w w2 := ⟨hg2.os.trans HB1.out.os, hg2.tape.trans HB1.out.tape, hg2.output.trans HB1.out.output, Nat.le_trans HB1.out.size hg2.size, fun i hi => (hg2.block i (Nat.lt_of_lt_of_le hi HB1.out.size) (fun h => by have h2 := Option.some.inj h; have := HRG.out; omega)).trans (HB1.out.block i hi)⟩
  have hS2 := Kd.S_mono (ok' := fun _ => True) (Kd.S_lower hS HB1.out.size) (fun _ _ => trivial)
  obtain ⟨A, c, hv, hcl, hC⟩ := Kd.S_reads hS2
  subst hv
  unfold bk_rdr at hr2
  have c1 : w2.cell? ⟨r, 1, none⟩ = some (.int .i64 (j : Int)) := bk_cell hr2 1
  have c2 : w2.cell? ⟨r, 2, none⟩ = some (.int .i64 e') := bk_cell hr2 2
  obtain ⟨hj, _, hp0⟩ := hp
  have hp1 := hp0 rfl
  rw [show bk_rest a0 0 = a0.data.toList from rfl] at hp1
  have HS2 := Aside0.mk hS2
  have HB2 := Aside0.mk hB2
  have HC := Aside0.mk hC
  clear hbx hS hg2 hr2 hp0 hS2 hB2 hC HB1
  cases hrd : rdL 24 rdB a0.data.toList with
  | error er =>
    rw [hrd] at hp1
    obtain ⟨rfl, hne⟩ := hp1
    have hm := HD.out
    rw [pl_decode_err a0 _ hrd] at hm
    obtain ⟨rfl, rfl⟩ := Prod.mk.inj hm
    have hneb : (e' == 0) = false := by simpa using hne
    clear hrd hm
    go_wp2
    go_quiet (fail)
    go_wp2
    go_ret2
    exact ⟨_, rfl, Kd.S_nil _ _ _ _ _, pw_below_drewN HB2.out _⟩
  | ok p =>
    obtain ⟨ys, rr⟩ := p
    rw [hrd] at hp1
    obtain ⟨rfl, rfl, rfl⟩ := hp1
    have hm := HD.out
    rw [pl_decode_ok a0 _ _ hrd] at hm
    clear hrd
    by_cases hlt : j < a0.size
    · rw [if_pos ((pl_rest_nil a0 j).2 hlt)] at hm
      obtain ⟨rfl, rfl⟩ := Prod.mk.inj hm
      have d1 : decide ((j : Int) < (a0.size : Int)) = true := by simp; omega
      clear hm
      go_wp2
      go_ret2
      exact ⟨_, rfl, Kd.S_nil _ _ _ _ _, HB2.out⟩
    · rw [if_neg (fun h => hlt ((pl_rest_nil a0 j).1 h))] at hm
      have d1 : decide ((j : Int) < (a0.size : Int)) = false := by simp; omega
      have hvl := block_ValidList.calls A c xs (m_validL xs) w2 HC.out hcl rfl
      cases hv : m_validL xs with
      | false =>
        rw [hv] at hm hvl
        rw [if_neg (by decide)] at hm
        obtain ⟨rfl, rfl⟩ := Prod.mk.inj hm
        clear hm
        go_wp2_with (go_at_call 21; refine hvl.mono ?_; rintro e w3 ⟨rfl, hb3⟩)
        go_ret2
        exact ⟨_, rfl, Kd.S_nil _ _ _ _ _, below_step HB2.out hb3⟩
      | true =>
        rw [hv] at hm hvl
        rw [if_pos rfl] at hm
        obtain ⟨rfl, rfl⟩ := Prod.mk.inj hm
        clear hm
        go_wp2_with (go_at_call 21; refine hvl.mono ?_; rintro e w3 ⟨rfl, hb3⟩)
        go_ret2
        exact ⟨_, rfl, Kd.S_below HS2.out hb3, below_step HB2.out hb3⟩

end Go.Proofs.YtpgjhjlhipikgaaDoor.PK
end
section
set_option linter.unusedVariables false
set_option linter.unusedSimpArgs false
namespace Go.Proofs.YtpgjhjlhipikgaaDoor.PK
open Go.RowKit Go.Proofs.YtpgjhjlhipikgaaDoorW.PrintWords Go.Proofs.YtpgjhjlhipikgaaDoorW.PrintLast Go.Proofs.YtpgjhjlhipikgaaDoorW.PrintMore
theorem bk_at (s : ByteArray) (i : Nat) (h : i < s.size) : m_at s.data.toList i = s[i] := by
  unfold m_at
  rw [List.getD_eq_getElem?_getD, List.getElem?_eq_getElem (by simpa using h)]
  simp
  rfl
theorem bk_eq (c : UInt8) (n : Nat) (hn : n < 256) : ((c.toNat : Int) == (n : Int)) = (c == UInt8.ofNat n) := by
  rw [Bool.eq_iff_iff]
  simp only [beq_iff_eq]
  constructor
  · intro h
    have : c.toNat = n := by omega
    rw [← this]; simp
  · intro h
    rw [h]; simp; omega
set_option maxHeartbeats 1000000 in
theorem bk_initial (s : ByteArray) (hs : s.size ≤ 1000000000) (i : Nat) (h : i < s.size) (w : World) :
    Calls Tryd.prog 89 #[.string s, .int .i64 (i : Int)] w fun e w' => e = .returned (.bool (m_initial s.data.toList i)) ∧ w = w' := by
  have hA := bk_at s i h
  have e32 : ∀ c : UInt8, ((c.toNat : Int) == 32) = (c == 32) := fun c => bk_eq c 32 (by decide)
  have z1 : (65 : Int) ≤ (s[i].toNat : Int) ↔ 65 ≤ s[i].toNat := by omega
  have z2 : (s[i].toNat : Int) ≤ 90 ↔ s[i].toNat ≤ 90 := by omega
  have HA := Aside0.mk hA
  clear hA
  by_cases h1 : 65 ≤ s[i].toNat <;> by_cases h2 : s[i].toNat ≤ 90 <;> by_cases h3 : i = 0
  all_goals first
    | (subst h3
       go_enter Tryd.func89, Tryd.ntmps89
       go_wp2
       go_ret
       refine ⟨?_, rfl⟩
       unfold m_initial
       rw [HA.out]
       simp [h1, h2])
    | (have hlt : i - 1 < s.size := by omega
       have hi1 : ((i : Int) - 1) = ((i - 1 : Nat) : Int) := by omega
       have hz : ((i : Int) == 0) = false := by simp; omega
       have HB := Aside0.mk (bk_at s (i - 1) hlt)
       go_enter Tryd.func89, Tryd.ntmps89
       go_wp2
       go_ret
       refine ⟨?_, rfl⟩
       unfold m_initial
       rw [HA.out, HB.out]
       simp [h1, h2, h3, e32])
theorem bk_initialNo (s : ByteArray) (w : World) :
    Calls Tryd.prog 89 #[.string s, .int .i64 (-1)] w fun e w' => e = .returned (.bool false) ∧ w = w' := by
  go_enter Tryd.func89, Tryd.ntmps89
  go_wp2
  go_ret
  exact ⟨rfl, rfl⟩
theorem bk_contains (s : ByteArray) (i : Nat) (h : i < s.size) (w : World) :
    Calls Tryd.prog 88 #[.string ⟨#[46, 33, 63]⟩, .string (s.extract i (i + 1))] w fun e w' => e = .returned (.bool (m_at s.data.toList i == 46 || m_at s.data.toList i == 33 || m_at s.data.toList i == 63)) ∧ w = w' := by
  have e : s.extract i (i + 1) = ⟨#[m_at s.data.toList i]⟩ := by
    have h1 : (s.extract i (i + 1)).data.toList = [m_at s.data.toList i] := by
      rw [Lib.extract_data, bk_at s i h]
      have hl : i < s.data.toList.length := by simpa using h
      rw [List.drop_eq_getElem_cons hl, show i + 1 - i = 1 from by omega]
      simp
      rfl
    have h2 : (s.extract i (i + 1)).data = #[m_at s.data.toList i] := by
      apply Array.ext'
      rw [h1]
    exact ByteArray.ext h2
  rw [e]
  refine (Tryd.strings_Contains_one _ _ w).mono ?_
  rintro e' w' ⟨rfl, rfl⟩
  refine ⟨?_, rfl⟩
  congr 2
  generalize m_at s.data.toList i = c
  simp only [Lib.indexByte]
  by_cases h1 : (46 : UInt8) = c
  · subst h1; simp
  · by_cases h2 : (33 : UInt8) = c
    · subst h2; simp
    · by_cases h3 : (63 : UInt8) = c
      · subst h3; simp
      · have g1 : (c == 46) = false := by simpa using fun h => h1 h.symm
        have g2 : (c == 33) = false := by simpa using fun h => h2 h.symm
        have g3 : (c == 63) = false := by simpa using fun h => h3 h.symm
        simp [h1, h2, h3, g1, g2, g3]
theorem bk_trim (s : ByteArray) (hs : s.size ≤ 1000000000) (a b : Nat) (w : World) :
    Calls Tryd.prog 90 #[.string (s.extract a b), .string ⟨#[32]⟩] w fun e w' => e = .returned (.string ⟨(m_trim ((s.data.toList.drop a).take (b - a))).toArray⟩) ∧ ∃ k, w' = w.drewN k := by
  have hsz : (s.extract a b).size ≤ 9223372036854775807 := by simp; omega
  refine (Tryd.strings_Trim_one (s.extract a b) 32 (by decide) w hsz).mono ?_
  rintro e w' ⟨rfl, hw⟩
  refine ⟨?_, ?_⟩
  · rw [Lib.extract_data]; rfl
  · rcases hw with rfl | rfl
    · exact ⟨0, rfl⟩
    · exact ⟨1, rfl⟩
def bk_sEnc (x : List UInt8) : Array Value := #[.string ⟨x.toArray⟩]
def bk_sAb (A B : World) : Prop := ∃ k, B = A.drewN k
def bk_sKp (tb : Nat) (A B : World) : Prop := B.heap[tb]? = A.heap[tb]?
def bk_sNx (l : List UInt8) (pre : List (List UInt8)) (x : List UInt8) : Prop := ∃ rest, pre ++ x :: rest = m_sent l
theorem m_sentGo_yes (l : List UInt8) (d i a : Nat) (h : m_ends l i = true) : m_sentGo l (d + 1) i a = m_trim ((l.drop a).take (i + 1 - a)) :: m_sentGo l d (i + 1) (i + 1) := by
  simp [m_sentGo, h]
theorem m_sentGo_no (l : List UInt8) (d i a : Nat) (h : m_ends l i = false) : m_sentGo l (d + 1) i a = m_sentGo l d (i + 1) a := by
  simp [m_sentGo, h]
set_option maxHeartbeats 16000000 in
set_option maxRecDepth 100000 in
theorem bk_sentIter (tb : Nat) (s : ByteArray) (hs : s.size ≤ 1000000000) (W : World) (htb : W.heap[tb]? = some (.cells #[.string s] 9 (0, 0))) :
    Rg.Iter Tryd.prog 87 #[.pointer (some ⟨tb, 0, none⟩)] bk_sEnc bk_sAb (bk_sKp tb) (bk_sNx s.data.toList) (fun xs => xs = m_sent s.data.toList) (fun _ => True) W := by
  intro l J Jx hJ hJx hY h0
  obtain ⟨L, hL⟩ : ∃ L, s.data.toList = L := ⟨_, rfl⟩
  have hlen : L.length = s.size := by rw [← hL]; simp
  have hc0 : W.cell? ⟨tb, 0, none⟩ = some (.string s) := by simp [World.cell?, htb]
  refine callsIn_of_wp Tryd.func87 rfl trivial ?_ rfl
  simp only [Tryd.ntmps87, List.size_toArray, List.length_cons, List.length_nil, Nat.reduceAdd, Nat.reduceSub, Array.replicate_succ, Array.replicate_zero, List.push_toArray, List.append_toArray, List.nil_append, List.cons_append]
  have HTB := Aside0.mk htb
  clear htb
  have HL := Aside0.mk hL
  have HLEN := Aside0.mk hlen
  clear hL hlen
  refine wpIn_wide.2 (wp_scope_straight ((wpIn_wide (n := 0)).1 ?_))
  gi_wp2
  apply wpIn_label
  gi_wp2
  gi_loopw [3, 8] (fun fr ix wr => ∃ (pre : List (List UInt8)) (d i a : Nat), fr = .int .i64 (a : Int) ∧ ix = .int .i64 (i : Int) ∧ d + i = s.size ∧ a ≤ i ∧ Aside0 (pre ++ m_sentGo L d i a = m_sent L) ∧ Aside0 (wr.heap[tb]? = some (.cells #[.string s] 9 (0, 0))) ∧ J pre wr)
    (fun _ ix _ => s.size - (intOf ix).toNat)
  case atStart =>
    exact ⟨[], s.size, 0, 0, rfl, rfl, by omega, Nat.le_refl _, ⟨by unfold m_sent; rw [HLEN.out]; rfl⟩, HTB, h0⟩
  case round =>
    obtain ⟨pre, d, i, a, rfl, rfl, hd, hai, HP, HB, hJs⟩ := hrel
    have hc : wr.cell? ⟨tb, 0, none⟩ = some (.string s) := by simp [World.cell?, HB.out]
    by_cases hi : i < s.size
    · obtain ⟨d, rfl⟩ : ∃ d', d = d' + 1 := ⟨d - 1, by omega⟩
      have hA := bk_at s i hi
      rw [HL.out] at hA
      have hCon : ∀ (w : World) (b : Bool), (m_at L i == 46 || m_at L i == 33 || m_at L i == 63) = b → Calls Tryd.prog 88 #[.string ⟨#[46, 33, 63]⟩, .string (s.extract i (i + 1))] w fun e w' => e = .returned (.bool b) ∧ w = w' := fun w b hb => by
        have := bk_contains s i hi w
        rw [HL.out, hb] at this
        exact this
      have hEE : m_ends L i = ((m_at L i == 46 || m_at L i == 33 || m_at L i == 63) && (decide (L.length ≤ i + 1) || m_at L (i + 1) == 32) && !(m_at L i == 46 && decide (1 ≤ i) && m_initial L (i - 1))) := rfl
      rw [HLEN.out] at hEE
      have h46 : ((s[i].toNat : Int) == 46) = (m_at L i == 46) := by rw [hA]; exact bk_eq _ 46 (by decide)
      have HA := Aside0.mk hA
      have HEE := Aside0.mk hEE
      clear hA hEE
      cases hq1 : (m_at L i == 46 || m_at L i == 33 || m_at L i == 63) with
      | false =>
        have HE : Aside0 (m_ends L i = false) := ⟨by rw [HEE.out, hq1]; rfl⟩
        have HQ1 := Aside0.mk hq1
        clear hq1 h46
        gi_wp2_with fail
        refine ⟨trivial, rfl, (callsIn_wide.2 (hCon _ false HQ1.out)).mono ?_⟩
        rintro e w' ⟨rfl, rfl⟩
        gi_wp2
        go_roundw
        case rel => exact ⟨pre, d, i + 1, a, rfl, by go_num, by omega, by omega, ⟨by rw [← HP.out, m_sentGo_no _ _ _ _ HE.out]⟩, HB, hJs⟩
        case measure => simp [intOf]; omega
      | true =>
        have HQ1 := Aside0.mk hq1
        clear hq1
        by_cases hn1 : i + 1 < s.size
        · have hA1 := bk_at s (i + 1) hn1
          rw [HL.out] at hA1
          have h32 : ((s[i + 1].toNat : Int) == 32) = (m_at L (i + 1) == 32) := by rw [hA1]; exact bk_eq _ 32 (by decide)
          have h32n : ((s[i + 1].toNat : Int) != 32) = !(m_at L (i + 1) == 32) := by rw [bne, h32]
          have HA1 := Aside0.mk hA1
          clear hA1
          cases hq2 : (m_at L (i + 1) == 32) with
          | false =>
            have HE : Aside0 (m_ends L i = false) := ⟨by rw [HEE.out, HQ1.out, hq2, decide_eq_false (by omega)]; rfl⟩
            rw [hq2] at h32 h32n
            have HQ2 := Aside0.mk hq2
            clear hq2 h46
            gi_wp2_with fail
            refine ⟨trivial, rfl, (callsIn_wide.2 (hCon _ true HQ1.out)).mono ?_⟩
            rintro e w' ⟨rfl, rfl⟩
            gi_wp2
            go_roundw
            case rel => exact ⟨pre, d, i + 1, a, rfl, by go_num, by omega, by omega, ⟨by rw [← HP.out, m_sentGo_no _ _ _ _ HE.out]⟩, HB, hJs⟩
            case measure => simp [intOf]; omega
          | true =>
            rw [hq2] at h32 h32n
            have HQ := Aside0.mk hq2
            clear hq2
            have HQ2 : Aside0 ((decide (s.size ≤ i + 1) || m_at L (i + 1) == 32) = true) := ⟨by rw [HQ.out]; simp⟩
            cases hd : (m_at L i == 46) with
            | false =>
              have HE : Aside0 (m_ends L i = true) := ⟨by rw [HEE.out, HQ1.out, HQ2.out, hd]; rfl⟩
              rw [hd] at h46
              have HD := Aside0.mk hd
              clear hd
              gi_wp2_with fail
              refine ⟨trivial, rfl, (callsIn_wide.2 (hCon _ true HQ1.out)).mono ?_⟩
              rintro e w' ⟨rfl, rfl⟩
              gi_wp2_with fail
              refine ⟨trivial, ?_⟩
              gi_wp2_with fail
              refine ⟨trivial, rfl, (callsIn_wide.2 (bk_trim s hs a (i + 1) _)).mono ?_⟩
              rintro e w' ⟨rfl, kd, rfl⟩
              rw [HL.out]
              obtain ⟨fn, tmps, assign, body, hy, hR⟩ := hY pre (m_trim ((L.drop a).take (i + 1 - a))) (wr.drewN kd) (hJ _ _ _ hJs ⟨kd, rfl⟩) ⟨m_sentGo L d (i + 1) (i + 1), by rw [HL.out, ← HP.out, m_sentGo_yes _ _ _ _ HE.out]⟩
              dsimp only [bk_sEnc] at hy
              have HY := Aside0.mk hY
              clear hY
              gi_wp2
              refine ⟨rfl, hR.mono ?_⟩
              rintro e W3 (⟨rfl, hJ3, hk3⟩ | ⟨rfl, hJx3⟩)
              · have HK3 := Aside0.mk hk3
                clear hk3
                gi_wp2
                go_roundw
                case rel => exact ⟨pre ++ [m_trim ((L.drop a).take (i + 1 - a))], d, i + 1, i + 1, by go_num, by go_num, by omega, by omega, ⟨by rw [← HP.out, m_sentGo_yes _ _ _ _ HE.out]; simp⟩, ⟨HK3.out.trans HB.out⟩, hJ3⟩
                case measure => simp [intOf]; omega
              · gi_wp2
                rw [Exit.noGoto_ret]
                refine bodyPost_ret (results_none rfl _ _ _) rfl ?_
                exact ⟨⟨_, rfl⟩, .inr ⟨_, trivial, hJx3⟩⟩
            | true =>
              rw [hd] at h46
              by_cases hi0 : i = 0
              · have hm1 : ((i : Int) - 1) = -1 := by omega
                have hdi : decide (1 ≤ i) = false := decide_eq_false (by omega)
                clear hi0
                have HE : Aside0 (m_ends L i = true) := ⟨by rw [HEE.out, HQ1.out, HQ2.out, hd, hdi]; rfl⟩
                have HD := Aside0.mk hd
                clear hd hdi
                gi_wp2_with fail
                refine ⟨trivial, rfl, (callsIn_wide.2 (hCon _ true HQ1.out)).mono ?_⟩
                rintro e w' ⟨rfl, rfl⟩
                gi_wp2_with fail
                refine ⟨trivial, rfl, (callsIn_wide.2 (bk_initialNo s _)).mono ?_⟩
                rintro e w' ⟨rfl, rfl⟩
                gi_wp2_with fail
                refine ⟨trivial, rfl, (callsIn_wide.2 (bk_trim s hs a (i + 1) _)).mono ?_⟩
                rintro e w' ⟨rfl, kd, rfl⟩
                rw [HL.out]
                obtain ⟨fn, tmps, assign, body, hy, hR⟩ := hY pre (m_trim ((L.drop a).take (i + 1 - a))) (wr.drewN kd) (hJ _ _ _ hJs ⟨kd, rfl⟩) ⟨m_sentGo L d (i + 1) (i + 1), by rw [HL.out, ← HP.out, m_sentGo_yes _ _ _ _ HE.out]⟩
                dsimp only [bk_sEnc] at hy
                have HY := Aside0.mk hY
                clear hY
                gi_wp2
                refine ⟨rfl, hR.mono ?_⟩
                rintro e W3 (⟨rfl, hJ3, hk3⟩ | ⟨rfl, hJx3⟩)
                · have HK3 := Aside0.mk hk3
                  clear hk3
                  gi_wp2
                  go_roundw
                  case rel => exact ⟨pre ++ [m_trim ((L.drop a).take (i + 1 - a))], d, i + 1, i + 1, by go_num, by go_num, by omega, by omega, ⟨by rw [← HP.out, m_sentGo_yes _ _ _ _ HE.out]; simp⟩, ⟨HK3.out.trans HB.out⟩, hJ3⟩
                  case measure => simp [intOf]; omega
                · gi_wp2
                  rw [Exit.noGoto_ret]
                  refine bodyPost_ret (results_none rfl _ _ _) rfl ?_
                  exact ⟨⟨_, rfl⟩, .inr ⟨_, trivial, hJx3⟩⟩
              · have hi1 : ((i : Int) - 1) = ((i - 1 : Nat) : Int) := by omega
                have hini : ∀ (w : World) (b : Bool), m_initial L (i - 1) = b → Calls Tryd.prog 89 #[.string s, .int .i64 ((i : Int) - 1)] w fun e w' => e = .returned (.bool b) ∧ w = w' := fun w b hb => by
                  have := bk_initial s hs (i - 1) (by omega) w
                  rw [HL.out, hb, ← hi1] at this
                  exact this
                have h1i : decide (1 ≤ i) = true := by simp; omega
                clear hi1
                cases hn : m_initial L (i - 1) with
                | true =>
                  have HE : Aside0 (m_ends L i = false) := ⟨by rw [HEE.out, HQ1.out, HQ2.out, hd, h1i, hn]; rfl⟩
                  have HD := Aside0.mk hd
                  have HN := Aside0.mk hn
                  clear hd hn h1i
                  gi_wp2_with fail
                  refine ⟨trivial, rfl, (callsIn_wide.2 (hCon _ true HQ1.out)).mono ?_⟩
                  rintro e w' ⟨rfl, rfl⟩
                  gi_wp2_with fail
                  refine ⟨trivial, rfl, (callsIn_wide.2 (hini _ true HN.out)).mono ?_⟩
                  rintro e w' ⟨rfl, rfl⟩
                  gi_wp2
                  go_roundw
                  case rel => exact ⟨pre, d, i + 1, a, rfl, by go_num, by omega, by omega, ⟨by rw [← HP.out, m_sentGo_no _ _ _ _ HE.out]⟩, HB, hJs⟩
                  case measure => simp [intOf]; omega
                | false =>
                  have HE : Aside0 (m_ends L i = true) := ⟨by rw [HEE.out, HQ1.out, HQ2.out, hd, h1i, hn]; rfl⟩
                  have HD := Aside0.mk hd
                  have HN := Aside0.mk hn
                  clear hd hn h1i
                  gi_wp2_with fail
                  refine ⟨trivial, rfl, (callsIn_wide.2 (hCon _ true HQ1.out)).mono ?_⟩
                  rintro e w' ⟨rfl, rfl⟩
                  gi_wp2_with fail
                  refine ⟨trivial, rfl, (callsIn_wide.2 (hini _ false HN.out)).mono ?_⟩
                  rintro e w' ⟨rfl, rfl⟩
                  gi_wp2_with fail
                  refine ⟨trivial, rfl, (callsIn_wide.2 (bk_trim s hs a (i + 1) _)).mono ?_⟩
                  rintro e w' ⟨rfl, kd, rfl⟩
                  rw [HL.out]
                  obtain ⟨fn, tmps, assign, body, hy, hR⟩ := hY pre (m_trim ((L.drop a).take (i + 1 - a))) (wr.drewN kd) (hJ _ _ _ hJs ⟨kd, rfl⟩) ⟨m_sentGo L d (i + 1) (i + 1), by rw [HL.out, ← HP.out, m_sentGo_yes _ _ _ _ HE.out]⟩
                  dsimp only [bk_sEnc] at hy
                  have HY := Aside0.mk hY
                  clear hY
                  gi_wp2
                  refine ⟨rfl, hR.mono ?_⟩
                  rintro e W3 (⟨rfl, hJ3, hk3⟩ | ⟨rfl, hJx3⟩)
                  · have HK3 := Aside0.mk hk3
                    clear hk3
                    gi_wp2
                    go_roundw
                    case rel => exact ⟨pre ++ [m_trim ((L.drop a).take (i + 1 - a))], d, i + 1, i + 1, by go_num, by go_num, by omega, by omega, ⟨by rw [← HP.out, m_sentGo_yes _ _ _ _ HE.out]; simp⟩, ⟨HK3.out.trans HB.out⟩, hJ3⟩
                    case measure => simp [intOf]; omega
                  · gi_wp2
                    rw [Exit.noGoto_ret]
                    refine bodyPost_ret (results_none rfl _ _ _) rfl ?_
                    exact ⟨⟨_, rfl⟩, .inr ⟨_, trivial, hJx3⟩⟩
        · have hdn : decide ((i : Int) + 1 < (s.size : Int)) = false := by simp; omega
          have HQ2 : Aside0 ((decide (s.size ≤ i + 1) || m_at L (i + 1) == 32) = true) := ⟨by rw [decide_eq_true (by omega)]; rfl⟩
          cases hd : (m_at L i == 46) with
          | false =>
            have HE : Aside0 (m_ends L i = true) := ⟨by rw [HEE.out, HQ1.out, HQ2.out, hd]; rfl⟩
            rw [hd] at h46
            have HD := Aside0.mk hd
            clear hd
            gi_wp2_with fail
            refine ⟨trivial, rfl, (callsIn_wide.2 (hCon _ true HQ1.out)).mono ?_⟩
            rintro e w' ⟨rfl, rfl⟩
            gi_wp2_with fail
            refine ⟨trivial, ?_⟩
            gi_wp2_with fail
            refine ⟨trivial, rfl, (callsIn_wide.2 (bk_trim s hs a (i + 1) _)).mono ?_⟩
            rintro e w' ⟨rfl, kd, rfl⟩
            rw [HL.out]
            obtain ⟨fn, tmps, assign, body, hy, hR⟩ := hY pre (m_trim ((L.drop a).take (i + 1 - a))) (wr.drewN kd) (hJ _ _ _ hJs ⟨kd, rfl⟩) ⟨m_sentGo L d (i + 1) (i + 1), by rw [HL.out, ← HP.out, m_sentGo_yes _ _ _ _ HE.out]⟩
            dsimp only [bk_sEnc] at hy
            have HY := Aside0.mk hY
            clear hY
            gi_wp2
            refine ⟨rfl, hR.mono ?_⟩
            rintro e W3 (⟨rfl, hJ3, hk3⟩ | ⟨rfl, hJx3⟩)
            · have HK3 := Aside0.mk hk3
              clear hk3
              gi_wp2
              go_roundw
              case rel => exact ⟨pre ++ [m_trim ((L.drop a).take (i + 1 - a))], d, i + 1, i + 1, by go_num, by go_num, by omega, by omega, ⟨by rw [← HP.out, m_sentGo_yes _ _ _ _ HE.out]; simp⟩, ⟨HK3.out.trans HB.out⟩, hJ3⟩
              case measure => simp [intOf]; omega
            · gi_wp2
              rw [Exit.noGoto_ret]
              refine bodyPost_ret (results_none rfl _ _ _) rfl ?_
              exact ⟨⟨_, rfl⟩, .inr ⟨_, trivial, hJx3⟩⟩
          | true =>
            rw [hd] at h46
            by_cases hi0 : i = 0
            · have hm1 : ((i : Int) - 1) = -1 := by omega
              have hdi : decide (1 ≤ i) = false := decide_eq_false (by omega)
              clear hi0
              have HE : Aside0 (m_ends L i = true) := ⟨by rw [HEE.out, HQ1.out, HQ2.out, hd, hdi]; rfl⟩
              have HD := Aside0.mk hd
              clear hd hdi
              gi_wp2_with fail
              refine ⟨trivial, rfl, (callsIn_wide.2 (hCon _ true HQ1.out)).mono ?_⟩
              rintro e w' ⟨rfl, rfl⟩
              gi_wp2_with fail
              refine ⟨trivial, rfl, (callsIn_wide.2 (bk_initialNo s _)).mono ?_⟩
              rintro e w' ⟨rfl, rfl⟩
              gi_wp2_with fail
              refine ⟨trivial, rfl, (callsIn_wide.2 (bk_trim s hs a (i + 1) _)).mono ?_⟩
              rintro e w' ⟨rfl, kd, rfl⟩
              rw [HL.out]
              obtain ⟨fn, tmps, assign, body, hy, hR⟩ := hY pre (m_trim ((L.drop a).take (i + 1 - a))) (wr.drewN kd) (hJ _ _ _ hJs ⟨kd, rfl⟩) ⟨m_sentGo L d (i + 1) (i + 1), by rw [HL.out, ← HP.out, m_sentGo_yes _ _ _ _ HE.out]⟩
              dsimp only [bk_sEnc] at hy
              have HY := Aside0.mk hY
              clear hY
              gi_wp2
              refine ⟨rfl, hR.mono ?_⟩
              rintro e W3 (⟨rfl, hJ3, hk3⟩ | ⟨rfl, hJx3⟩)
              · have HK3 := Aside0.mk hk3
                clear hk3
                gi_wp2
                go_roundw
                case rel => exact ⟨pre ++ [m_trim ((L.drop a).take (i + 1 - a))], d, i + 1, i + 1, by go_num, by go_num, by omega, by omega, ⟨by rw [← HP.out, m_sentGo_yes _ _ _ _ HE.out]; simp⟩, ⟨HK3.out.trans HB.out⟩, hJ3⟩
                case measure => simp [intOf]; omega
              · gi_wp2
                rw [Exit.noGoto_ret]
                refine bodyPost_ret (results_none rfl _ _ _) rfl ?_
                exact ⟨⟨_, rfl⟩, .inr ⟨_, trivial, hJx3⟩⟩
            · have hi1 : ((i : Int) - 1) = ((i - 1 : Nat) : Int) := by omega
              have hini : ∀ (w : World) (b : Bool), m_initial L (i - 1) = b → Calls Tryd.prog 89 #[.string s, .int .i64 ((i : Int) - 1)] w fun e w' => e = .returned (.bool b) ∧ w = w' := fun w b hb => by
                have := bk_initial s hs (i - 1) (by omega) w
                rw [HL.out, hb, ← hi1] at this
                exact this
              have h1i : decide (1 ≤ i) = true := by simp; omega
              clear hi1
              cases hn : m_initial L (i - 1) with
              | true =>
                have HE : Aside0 (m_ends L i = false) := ⟨by rw [HEE.out, HQ1.out, HQ2.out, hd, h1i, hn]; rfl⟩
                have HD := Aside0.mk hd
                have HN := Aside0.mk hn
                clear hd hn h1i
                gi_wp2_with fail
                refine ⟨trivial, rfl, (callsIn_wide.2 (hCon _ true HQ1.out)).mono ?_⟩
                rintro e w' ⟨rfl, rfl⟩
                gi_wp2_with fail
                refine ⟨trivial, rfl, (callsIn_wide.2 (hini _ true HN.out)).mono ?_⟩
                rintro e w' ⟨rfl, rfl⟩
                gi_wp2
                go_roundw
                case rel => exact ⟨pre, d, i + 1, a, rfl, by go_num, by omega, by omega, ⟨by rw [← HP.out, m_sentGo_no _ _ _ _ HE.out]⟩, HB, hJs⟩
                case measure => simp [intOf]; omega
              | false =>
                have HE : Aside0 (m_ends L i = true) := ⟨by rw [HEE.out, HQ1.out, HQ2.out, hd, h1i, hn]; rfl⟩
                have HD := Aside0.mk hd
                have HN := Aside0.mk hn
                clear hd hn h1i
                gi_wp2_with fail
                refine ⟨trivial, rfl, (callsIn_wide.2 (hCon _ true HQ1.out)).mono ?_⟩
                rintro e w' ⟨rfl, rfl⟩
                gi_wp2_with fail
                refine ⟨trivial, rfl, (callsIn_wide.2 (hini _ false HN.out)).mono ?_⟩
                rintro e w' ⟨rfl, rfl⟩
                gi_wp2_with fail
                refine ⟨trivial, rfl, (callsIn_wide.2 (bk_trim s hs a (i + 1) _)).mono ?_⟩
                rintro e w' ⟨rfl, kd, rfl⟩
                rw [HL.out]
                obtain ⟨fn, tmps, assign, body, hy, hR⟩ := hY pre (m_trim ((L.drop a).take (i + 1 - a))) (wr.drewN kd) (hJ _ _ _ hJs ⟨kd, rfl⟩) ⟨m_sentGo L d (i + 1) (i + 1), by rw [HL.out, ← HP.out, m_sentGo_yes _ _ _ _ HE.out]⟩
                dsimp only [bk_sEnc] at hy
                have HY := Aside0.mk hY
                clear hY
                gi_wp2
                refine ⟨rfl, hR.mono ?_⟩
                rintro e W3 (⟨rfl, hJ3, hk3⟩ | ⟨rfl, hJx3⟩)
                · have HK3 := Aside0.mk hk3
                  clear hk3
                  gi_wp2
                  go_roundw
                  case rel => exact ⟨pre ++ [m_trim ((L.drop a).take (i + 1 - a))], d, i + 1, i + 1, by go_num, by go_num, by omega, by omega, ⟨by rw [← HP.out, m_sentGo_yes _ _ _ _ HE.out]; simp⟩, ⟨HK3.out.trans HB.out⟩, hJ3⟩
                  case measure => simp [intOf]; omega
                · gi_wp2
                  rw [Exit.noGoto_ret]
                  refine bodyPost_ret (results_none rfl _ _ _) rfl ?_
                  exact ⟨⟨_, rfl⟩, .inr ⟨_, trivial, hJx3⟩⟩
    · obtain rfl : d = 0 := by omega
      have hin : i = s.size := by omega
      have hal : a ≤ s.size := by omega
      have hdd : decide ((i : Int) < (s.size : Int)) = false := by simp; omega
      have hsz : (s.extract a s.size).data.toList = L.drop a := by
        rw [Lib.extract_data, HL.out, List.take_of_length_le (by rw [List.length_drop, HLEN.out]; omega)]
      have hT : ∀ w : World, Calls Tryd.prog 90 #[.string (s.extract a s.size), .string ⟨#[32]⟩] w fun e w' => e = .returned (.string ⟨(m_trim (L.drop a)).toArray⟩) ∧ ∃ k, w' = w.drewN k := fun w => by
        refine (Tryd.strings_Trim_one (s.extract a s.size) 32 (by decide) w (by simp; omega)).mono ?_
        rintro e w' ⟨rfl, hw⟩
        refine ⟨?_, ?_⟩
        · rw [hsz]; rfl
        · rcases hw with rfl | rfl
          · exact ⟨0, rfl⟩
          · exact ⟨1, rfl⟩
      have hnot : ¬ i < s.size := hi
      have HIN := Aside0.mk hin
      have HT := Aside0.mk hT
      clear hin hsz hT hd
      gi_wp2_with fail
      refine ⟨trivial, rfl, (callsIn_wide.2 (HT.out _)).mono ?_⟩
      rintro e w' ⟨rfl, kd, rfl⟩
      have hgo : m_sentGo L 0 i a = if m_trim (L.drop a) = [] then [] else [m_trim (L.drop a)] := rfl
      have HGO := Aside0.mk hgo
      clear hgo
      by_cases hr : m_trim (L.drop a) = []
      · have hr2 : (⟨(m_trim (L.drop a)).toArray⟩ : ByteArray) = ⟨#[]⟩ := by rw [hr]
        rw [hr2]
        have HR := Aside0.mk hr
        clear hr hr2
        gi_wp2
        rw [Exit.noGoto_normal]
        refine bodyPost_end (results_none rfl _ _ _) rfl ?_
        exact ⟨⟨_, rfl⟩, .inl ⟨_, by rw [HL.out, ← HP.out, HGO.out, if_pos HR.out, List.append_nil], hJ _ _ _ hJs ⟨kd, rfl⟩⟩⟩
      · obtain ⟨x, hx⟩ : ∃ x, m_trim (L.drop a) = x := ⟨_, rfl⟩
        rw [hx] at hr
        have HX := Aside0.mk hx
        rw [hx]
        clear hx
        obtain ⟨fn, tmps, assign, body, hy, hR⟩ := hY pre x (wr.drewN kd) (hJ _ _ _ hJs ⟨kd, rfl⟩) ⟨[], by rw [HL.out, ← HP.out, HGO.out, HX.out, if_neg hr]⟩
        dsimp only [bk_sEnc] at hy
        have HY := Aside0.mk hY
        clear hY
        have hne : (x == []) = false := by simpa using hr
        have hne2 : x.isEmpty = false := by simpa using hr
        gi_wp2
        refine ⟨rfl, hR.mono ?_⟩
        rintro e W3 (⟨rfl, hJ3, hk3⟩ | ⟨rfl, hJx3⟩)
        · gi_wp2
          rw [Exit.noGoto_normal]
          refine bodyPost_end (results_none rfl _ _ _) rfl ?_
          exact ⟨⟨_, rfl⟩, .inl ⟨_, by rw [HL.out, ← HP.out, HGO.out, HX.out, if_neg hr], hJ3⟩⟩
        · gi_wp2
          rw [Exit.noGoto_normal]
          refine bodyPost_end (results_none rfl _ _ _) rfl ?_
          exact ⟨⟨_, rfl⟩, .inr ⟨_, trivial, hJx3⟩⟩
end Go.Proofs.YtpgjhjlhipikgaaDoor.PK
end
section
namespace Go.Proofs.YtpgjhjlhipikgaaDoor.PK
open Go.RowKit Go.Proofs.YtpgjhjlhipikgaaDoorW.PrintWords Go.Proofs.YtpgjhjlhipikgaaDoorW.PrintLast Go.Proofs.YtpgjhjlhipikgaaDoorW.PrintMore
attribute [local go_sem] max2_int min2_int max_two min_two max_three min_three max_four min_four   -- for this text's walks alone
set_option linter.unusedVariables false
set_option linter.unusedSimpArgs false

/-! ### block_Sentences: function 32 -/
-- NEEDS Derived.Test.YtpgjhjlhipikgaaDoorKSent
def block_Sentences.f (a0 : ByteArray) : Option (List ByteArray) := if a0.size ≤ 1000000000 then some (m_sentences a0) else none
theorem bk_R_string {w : World} {base : Nat} {v : Value} {xs : List ByteArray} (h : w.ownsRow base 9 1 v xs.length (xs.map Value.string)) : Kd.R Kd.string 9 w base (fun _ => True) v xs := by
  refine ⟨fun _ _ => trivial, xs.map Value.string, h, ?_, ?_⟩
  · show (xs.map Value.string).length = xs.length * 1
    simp
  · intro j p hp
    show List.take 1 (List.drop (j * 1) (xs.map Value.string)) = [Value.string p]
    rw [Nat.mul_one]
    have hlt : j < xs.length := by
      rcases Nat.lt_or_ge j xs.length with h1 | h1
      · exact h1
      · rw [List.getElem?_eq_none h1] at hp; cases hp
    have hj : xs[j] = p := by rw [List.getElem?_eq_getElem hlt] at hp; injection hp
    rw [List.drop_eq_getElem_cons (by simpa using hlt)]
    simp [hj]
theorem infoStr : (Tryd.prog.info? 9).map (fun i => (i.zero, i.size, i.bytes)) = some (some (.string ⟨#[]⟩), 1, 16) := by kernel_rfl
theorem bk_sentencesOf (s : ByteArray) (w : World) :
    Calls Tryd.prog 61 #[.string s] w fun e w' => e = .returned (.func (.func 87) #[] #[.pointer (some ⟨w.heap.size, 0, none⟩)]) ∧ w' = w.alloc (.cells #[.string s] 9) := by
  go_enter Tryd.func61, Tryd.ntmps61
  go_wp2
  go_ret
  exact ⟨rfl, rfl⟩
def bk_sI (w : World) (pre : List (List UInt8)) (W : World) : Prop :=
  ∃ v : Value, W.heap[w.heap.size]? = some (.cells #[v] 42 (0, 0)) ∧ W.ownsRow (w.heap.size + 2) 9 1 v pre.length (pre.map (fun x => Value.string ⟨x.toArray⟩)) ∧ Below w.heap.size w W ∧ ∃ c : Value, W.heap[w.heap.size + 1]? = some (.cells #[c] 9 (0, 0))
theorem m_sentGo_len (l : List UInt8) : ∀ (d i a : Nat), (m_sentGo l d i a).length ≤ d + 1
  | 0, i, a => by unfold m_sentGo; split <;> simp
  | d + 1, i, a => by
    cases h : m_ends l i with
    | true => rw [m_sentGo_yes _ _ _ _ h]; simp; exact m_sentGo_len l d _ _
    | false => rw [m_sentGo_no _ _ _ _ h]; exact Nat.le_succ_of_le (m_sentGo_len l d _ _)
attribute [local go_sem] Oper.semAt_some
set_option maxHeartbeats 2000000 in
set_option maxRecDepth 100000 in
theorem bk_sentences (s : ByteArray) (hs : s.size ≤ 1000000000) (w : World) :
    Calls Tryd.prog 32 #[.string s] w fun e w' => ∃ v0_ : Value, e = .returned (v0_) ∧ Kd.R Kd.string 9 w' w.heap.size (fun _ => True) v0_ (m_sentences s) ∧ Below w.heap.size w w' := by
  refine (callsIn_wide (n := 0)).1 (callsIn_of_wp_marks Tryd.func32 rfl trivial ?_ rfl)
  simp only [Tryd.ntmps32, List.size_toArray, List.length_cons, List.length_nil, Nat.reduceAdd, Nat.reduceSub, Array.replicate_succ, Array.replicate_zero, List.push_toArray, List.append_toArray, List.nil_append, List.cons_append]
  gi_wp2_with fail
  refine ⟨trivial, rfl, (callsIn_wide.2 (bk_sentencesOf _ _)).mono ?_⟩
  rintro e w' ⟨rfl, rfl⟩
  gi_wp2_with fail
  obtain ⟨i0, hi, hz0, hz1, hz2⟩ := info_parts infoStr
  obtain ⟨w1, hw1⟩ : ∃ w1, (w.alloc (.cells #[.slice none 0 0] 42)).alloc (.cells #[.string s] 9) = w1 := ⟨_, rfl⟩
  have hsz : w1.heap.size = w.heap.size + 2 := by rw [← hw1]; simp
  have hob : w1.heap[w.heap.size]? = some (.cells #[.slice none 0 0] 42 (0, 0)) := by
    rw [← hw1]; exact (Below.heap_alloc _ _ _ (by simp)).trans (heap_alloc_new w _)
  have hzb : w1.heap[w.heap.size + 1]? = some (.cells #[.string s] 9 (0, 0)) := by
    rw [← hw1]; have := heap_alloc_new (w.alloc (.cells #[.slice none 0 0] 42)) (.cells #[.string s] 9); rwa [World.size_alloc] at this
  have hbel : Below w.heap.size w w1 := by rw [← hw1]; exact ((Below.refl _ w).alloc (Nat.le_refl _) _).alloc (by simp) _
  have hL : (m_sent s.data.toList).length ≤ 1000000001 := by
    have := m_sentGo_len s.data.toList s.data.toList.length 0 0
    unfold m_sent
    simp at this ⊢
    omega
  rw [hw1]
  clear hw1
  refine Rg.wp_range (P := Tryd.prog) rfl (enters_of Tryd.func87 (by kernel_rfl) rfl) (encs := bk_sEnc) (Ab := bk_sAb) (Kp := bk_sKp (w.heap.size + 1)) (Nx := bk_sNx s.data.toList) (S := fun xs => xs = m_sent s.data.toList) (Sp := fun _ => True)
    ?hAb ?hKt ?hKu ?it (fun _ => rfl) (bk_sI w) (fun _ _ _ => False) ?hI (fun _ _ _ _ h _ => h) ?hIA (fun _ _ _ _ h _ => h) ?h0 ?a1 ?assign ?body ?done ?stop
  case assign =>
    intro l x W K hK
    simp only [bk_sEnc]
    gi_wp2
    exact hK
  case hAb =>
    rintro A C k o ⟨c, rfl⟩ ho hn
    exact ho
  case hKt => intro A C E h k; exact k.trans h
  case hKu => intro A C h; exact h.low _ (by omega)
  case it => intro W hW; exact bk_sentIter _ s hs W (hW.cells _ _ hzb rfl)
  case hI =>
    rintro x A C ⟨v, h1, h2, h3, c, h4⟩ hT
    exact ⟨v, hT.cells _ _ h1 rfl, hT.owns h2, h3.trans (hT.below.mono (by omega)), c, hT.cells _ _ h4 rfl⟩
  case hIA =>
    rintro x A C ⟨v, h1, h2, h3, h4⟩ ⟨k, rfl⟩
    exact ⟨v, h1, h2, pw_below_drewN h3 k, h4⟩
  case h0 => exact ⟨_, hob, by simpa using World.ownsRow_nil _ _ _ _, hbel, _, hzb⟩
  case body =>
    rintro l pre x W ⟨v, hv, hown, hB, cz, hzW⟩ hx
    obtain ⟨rest, hx⟩ := hx
    have hlen : pre.length < 1000000001 := by
      rw [← hx] at hL; simp at hL; omega
    have hc : W.cell? ⟨w.heap.size, 0, none⟩ = some v := by simp [World.cell?, hv]
    have hf : W.frozen? ⟨w.heap.size, 0, none⟩ = false := by simp [World.frozen?, hv]
    have hlt : w.heap.size + 1 < W.heap.size := (Array.getElem?_eq_some_iff.1 hzW).1
    have hbs : w.heap.size ≤ W.heap.size := by omega
    have HX := Aside0.mk hx
    have HV := Aside0.mk hv
    have HZ := Aside0.mk hzW
    clear hx hv hzb hob hzW
    gi_wp2_with (gi_at_builtin; refine Rg.stop_here ?_)
    refine ⟨?_⟩
    refine wpListIn_append_own _ rfl _ _ 42 rfl (w.heap.size + 2) 9 i0 (.string ⟨#[]⟩) 1 16 Tryd.underlying42 hi hz0 hz1 hz2 rfl (by decide) _ _ _ rfl (hown.alloc _) ⟨W.heap.size, 0, none⟩ 1 1 [.string ⟨x.toArray⟩] rfl rfl (cell_one_new _ _ _) (by simp [Value.oneCell']) (by simp only [maxLen]; omega) (by omega) (by first | (simp; done) | (simp; omega)) ?_
    intro v' W1 hown' hgrow _
    obtain ⟨g', cap', rfl⟩ := Rg.owns_shape hown'
    have hv1 := Rg.block_append hown HV.out (by decide) hgrow
    have hkeep := (Rg.keeps_append (B := w1.heap.size) hown hgrow)
    have hbl := Rg.below_append hB hbs (by omega) hown hgrow
    have hz1' : W1.heap[w.heap.size + 1]? = W.heap[w.heap.size + 1]? := by
      rw [hgrow.block (w.heap.size + 1) (by simp; omega) ?_]
      · exact Below.heap_alloc _ _ _ (by omega)
      · intro he
        have := (hown.lt _ he.symm).1
        omega
    have hc1 : W1.cell? ⟨w.heap.size, 0, none⟩ = some v := by simp [World.cell?, hv1]
    have hf1 : W1.frozen? ⟨w.heap.size, 0, none⟩ = false := by simp [World.frozen?, hv1]
    have HO := Aside0.mk hown'
    have HV1 := Aside0.mk hv1
    have HZ1 := Aside0.mk hz1'
    clear hv1 hown' hgrow hz1'
    gi_wp2
    refine ⟨hkeep.trans (Rg.keeps_set _ _), ?_, Value.slice (some ⟨g', 0, none⟩) (pre.length + 1) cap', ?_, ?_, hbl.setCell (p := ⟨w.heap.size, 0, none⟩) (Nat.le_refl _) _, cz, ?_⟩
    · unfold bk_sKp
      rw [Below.heap_setCell _ _ _ _ (by simp), HZ1.out]
    · simp [World.setCell, Array.getElem?_modify, HV1.out]
    · have := Rg.owns_set HV1.out (by decide) HO.out 0 (Value.slice (some ⟨g', 0, none⟩) (pre.length + 1) cap')
      simpa using this
    · rw [Below.heap_setCell _ _ _ _ (by simp), HZ1.out]; exact HZ.out
  case done =>
    rintro D xs W hD rfl ⟨v, hv, hown, hB, cz, hzW⟩ hdd
    have hc : W.cell? ⟨w.heap.size, 0, none⟩ = some v := by simp [World.cell?, hv]
    have HDD := Aside0.mk hdd
    have HO := Aside0.mk hown
    clear hdd hown hzW hob hzb hv
    gi_wp2
    refine ⟨by simp, .inl ⟨_, _, rfl, run_takeDeferred HDD.out, ?_⟩⟩
    have hT := Rg.Turn.put HDD.out rfl hD (.deferred none)
    refine ⟨_, results_tmp rfl _ _ _, v, rfl, ?_, hB.trans (hT.below.mono (by omega))⟩
    refine Kd.R_lower (bk_R_string ?_) (base := w.heap.size + 2) (by omega)
    have := hT.owns HO.out
    simpa [m_sentences, Function.comp_def] using this
  case stop =>
    rintro D c pre W _ _ h
    exact h.elim
theorem block_Sentences.calls (a0 : ByteArray) (r : List ByteArray) (w : World) (h : block_Sentences.f a0 = some r) :
    Calls Tryd.prog 32 #[.string a0] w fun e w' => ∃ v0_ : Value, e = .returned (v0_) ∧ Kd.R Kd.string 9 w' w.heap.size (fun _ => True) v0_ r ∧ Below w.heap.size w w' := by
  unfold block_Sentences.f at h
  by_cases hs : a0.size ≤ 1000000000
  · rw [if_pos hs] at h
    obtain rfl := Option.some.inj h
    exact bk_sentences a0 hs w
  · rw [if_neg hs] at h; cases h

end Go.Proofs.YtpgjhjlhipikgaaDoor.PK
end
section
namespace Go.Proofs.YtpgjhjlhipikgaaDoor.PK
open Go.RowKit Go.Proofs.YtpgjhjlhipikgaaDoorW.PrintWords Go.Proofs.YtpgjhjlhipikgaaDoorW.PrintLast Go.Proofs.YtpgjhjlhipikgaaDoorW.PrintMore
attribute [local go_sem] max2_int min2_int max_two min_two max_three min_three max_four min_four   -- for this text's walks alone
set_option linter.unusedVariables false
set_option linter.unusedSimpArgs false

/-! ### slices_Equal_int_int: function 74 -/
def slices_Equal_int_int.l0 : Nat → List Int → List Int → Int → Int → Option (Bool)
  | 0, _, _, _, _ => none
  | k + 1, x0, x1, x12, x13 => if x13 < x12 then (if 0 ≤ x13 then (if x13 < (x0.length : Int) then (if x13 < (x1.length : Int) then (if (rd x0 x13) = (rd x1 x13) then (slices_Equal_int_int.l0 k x0 x1 x12 (wrap64 (x13 + 1))) else (some false)) else (none)) else (none)) else (none)) else (some true)
def slices_Equal_int_int.f (k : Nat) (l0 : List Int) (l1 : List Int) : Option (Bool) := if (l0.length : Int) = (l1.length : Int) then (slices_Equal_int_int.l0 k l0 l1 (l0.length : Int) 0) else (some false)
theorem slices_Equal_int_int.mono_l : ∀ k, (∀ y0 y1 y2 y3, LeO (slices_Equal_int_int.l0 k y0 y1 y2 y3) (slices_Equal_int_int.l0 (k + 1) y0 y1 y2 y3))
  | 0 => fun _ _ _ _ r h => by simp [slices_Equal_int_int.l0] at h
  | k + 1 => by
    have ih0 := slices_Equal_int_int.mono_l k
    · intro y0 y1 y2 y3
      unfold slices_Equal_int_int.l0
      repeat' first
      | (with_reducible exact ih0 _ _ _ _)
      | (with_reducible exact LeO.refl _)
      | (with_reducible exact LeO.none _)
      | (with_reducible refine LeO.ite ?_ ?_)
      | (with_reducible refine LeO.bind ?_ (fun _ => ?_))
      | exact ih0 _ _ _ _
      | exact LeO.none _
      | refine LeO.ite ?_ ?_
      | refine LeO.bind ?_ (fun _ => ?_)
theorem slices_Equal_int_int.mono : ∀ a0 a1 k, LeO (slices_Equal_int_int.f k a0 a1) (slices_Equal_int_int.f (k + 1) a0 a1) := by
  intro a0 a1 k
  have ih0 := slices_Equal_int_int.mono_l k
  unfold slices_Equal_int_int.f
  repeat' first
      | (with_reducible exact ih0 _ _ _ _)
      | (with_reducible exact LeO.refl _)
      | (with_reducible exact LeO.none _)
      | (with_reducible refine LeO.ite ?_ ?_)
      | (with_reducible refine LeO.bind ?_ (fun _ => ?_))
      | exact ih0 _ _ _ _
      | exact LeO.none _
      | refine LeO.ite ?_ ?_
      | refine LeO.bind ?_ (fun _ => ?_)
set_option maxHeartbeats 8000000 in
set_option maxRecDepth 100000 in
theorem slices_Equal_int_int.calls (k : Nat) (A0 : Option Addr) (c0 : Nat) (l0 : List Int) (A1 : Option Addr) (c1 : Nat) (l1 : List Int) (r : Bool) (w : World) (hr0 : Kd.C (Kd.int .i64) w A0 l0.length l0) (hc0 : l0.length ≤ c0) (hr1 : Kd.C (Kd.int .i64) w A1 l1.length l1) (hc1 : l1.length ≤ c1) (h : slices_Equal_int_int.f k l0 l1 = some r) :
    Calls Tryd.prog 74 #[.slice A0 l0.length c0, .slice A1 l1.length c1] w fun e w' => e = .returned (.bool r) ∧ Drawn0 w w' := by
  have HR0 := Aside0.mk hr0
  have HC0 := Aside0.mk hc0
  clear hr0 hc0
  have HR1 := Aside0.mk hr1
  have HC1 := Aside0.mk hc1
  clear hr1 hc1
  have H : (if (l0.length : Int) = (l1.length : Int) then (slices_Equal_int_int.l0 k l0 l1 (l0.length : Int) 0) else (some false)) = some r := h
  clear h
  by_cases c3 : (l0.length : Int) = (l1.length : Int)
  · rw [if_pos c3] at H
    have c3b0 : ((l0.length : Int) == (l1.length : Int)) = true := beq_iff_eq.mpr c3
    have c3b1 : ((l0.length : Int) != (l1.length : Int)) = false := bne_eq_false_iff_eq.mpr c3
    have c3b2 : (l0.length == l1.length) = true := by first | simpa using c3 | (simp at c3 ⊢; omega)
    clear c3
    have H' := Aside0.mk H
    clear H
    go_enter Tryd.func74, Tryd.ntmps74
    go_wp2
    repeat (go_quiet (fail); try go_wp2)
    go_loopg [13] k (fun kq v13 w' => ∃ (x13_1 : Int), v13 = .int .i64 x13_1 ∧ Aside0 (slices_Equal_int_int.l0 kq l0 l1 (l0.length : Int) x13_1 = some r) ∧ Aside0 (kq ≤ k) ∧ Drawn0 w w')
    case atStart => exact ⟨(0), (by first | rfl | (simp; done) | (simp [*]; done)), H', ⟨Nat.le_refl _⟩, by repeat (first | exact Drawn0.refl _ | apply Drawn0.step)⟩
    case round =>
      clear H'
      try clear c1
      try clear p2
      try clear c3
      try clear c3b0
      try clear c3b1
      try clear c3b2
      obtain ⟨x13_1, rfl, HA, HK1, ⟨m1, rfl⟩⟩ := hrel
      cases gk with
      | zero => exact absurd HA.out (by simp [slices_Equal_int_int.l0])
      | succ k1 =>
        have H := HA.out
        clear HA
        simp only [slices_Equal_int_int.l0] at H
        by_cases c4 : x13_1 < (l0.length : Int)
        · rw [if_pos c4] at H
          have c4b0 : decide (x13_1 < (l0.length : Int)) = true := decide_eq_true c4
          clear c4
          by_cases c5 : 0 ≤ x13_1
          · rw [if_pos c5] at H
            have c5b0 : decide (0 ≤ x13_1) = true := decide_eq_true c5
            clear c5
            by_cases c6 : x13_1 < (l0.length : Int)
            · rw [if_pos c6] at H
              have c6b0 : decide (x13_1 < (l0.length : Int)) = true := decide_eq_true c6
              clear c6
              by_cases c7 : x13_1 < (l1.length : Int)
              · rw [if_pos c7] at H
                have c7b0 : decide (x13_1 < (l1.length : Int)) = true := decide_eq_true c7
                clear c7
                by_cases c8 : (rd l0 x13_1) = (rd l1 x13_1)
                · rw [if_pos c8] at H
                  have c8b0 : ((rd l0 x13_1) == (rd l1 x13_1)) = true := beq_iff_eq.mpr c8
                  have c8b1 : ((rd l0 x13_1) != (rd l1 x13_1)) = false := bne_eq_false_iff_eq.mpr c8
                  clear c8
                  have H' := Aside0.mk H
                  clear H
                  have p123 : 0 ≤ (x13_1 : Int) := of_decide_eq_true (by first | (with_reducible assumption) | assumption)
                  have q123 : x13_1 < (l0.length : Int) := of_decide_eq_true (by first | (with_reducible assumption) | assumption)
                  obtain ⟨ad123, e123, hx123_0⟩ := Kd.at_int HR0.out x13_1 p123 q123
                  cases e123
                  replace p123 := eq_true p123
                  replace q123 := eq_true q123
                  have p124 : 0 ≤ (x13_1 : Int) := of_decide_eq_true (by first | (with_reducible assumption) | assumption)
                  have q124 : x13_1 < (l1.length : Int) := of_decide_eq_true (by first | (with_reducible assumption) | assumption)
                  obtain ⟨ad124, e124, hx124_0⟩ := Kd.at_int HR1.out x13_1 p124 q124
                  cases e124
                  replace p124 := eq_true p124
                  replace q124 := eq_true q124
                  go_wp2
                  repeat (go_quiet (fail); try go_wp2)
                  go_roundg k1
                  case measure => have := HK1.out; omega
                  case rel => exact ⟨(wrap64 (x13_1 + 1)), (by first | rfl | (simp; done) | (simp [*]; done)), H', ⟨by have := HK1.out; omega⟩, by repeat (first | exact Drawn0.refl _ | apply Drawn0.step)⟩
                · rw [if_neg c8] at H
                  have c8b0 : ((rd l0 x13_1) == (rd l1 x13_1)) = false := beq_eq_false_iff_ne.mpr c8
                  have c8b1 : ((rd l0 x13_1) != (rd l1 x13_1)) = true := bne_iff_ne.mpr c8
                  obtain rfl := Option.some.inj H
                  have p123 : 0 ≤ (x13_1 : Int) := of_decide_eq_true (by first | (with_reducible assumption) | assumption)
                  have q123 : x13_1 < (l0.length : Int) := of_decide_eq_true (by first | (with_reducible assumption) | assumption)
                  obtain ⟨ad123, e123, hx123_0⟩ := Kd.at_int HR0.out x13_1 p123 q123
                  cases e123
                  replace p123 := eq_true p123
                  replace q123 := eq_true q123
                  have p124 : 0 ≤ (x13_1 : Int) := of_decide_eq_true (by first | (with_reducible assumption) | assumption)
                  have q124 : x13_1 < (l1.length : Int) := of_decide_eq_true (by first | (with_reducible assumption) | assumption)
                  obtain ⟨ad124, e124, hx124_0⟩ := Kd.at_int HR1.out x13_1 p124 q124
                  cases e124
                  replace p124 := eq_true p124
                  replace q124 := eq_true q124
                  go_wp2
                  repeat (go_quiet (fail); try go_wp2)
                  go_ret
                  exact ⟨by first | rfl | (simp; done) | (simp [*]; done), by repeat (first | exact Drawn0.refl _ | apply Drawn0.step)⟩
              · rw [if_neg c7] at H
                exact absurd H (by simp)
            · rw [if_neg c6] at H
              exact absurd H (by simp)
          · rw [if_neg c5] at H
            exact absurd H (by simp)
        · rw [if_neg c4] at H
          have c4b0 : decide (x13_1 < (l0.length : Int)) = false := decide_eq_false c4
          clear c4
          obtain rfl := Option.some.inj H
          go_wp2
          repeat (go_quiet (fail); try go_wp2)
          go_ret
          exact ⟨by first | rfl | (simp; done) | (simp [*]; done), by repeat (first | exact Drawn0.refl _ | apply Drawn0.step)⟩
  · rw [if_neg c3] at H
    have c3b0 : ((l0.length : Int) == (l1.length : Int)) = false := beq_eq_false_iff_ne.mpr c3
    have c3b1 : ((l0.length : Int) != (l1.length : Int)) = true := bne_iff_ne.mpr c3
    have c3b2 : (l0.length == l1.length) = false := by first | simpa using c3 | (simp at c3 ⊢; omega)
    obtain rfl := Option.some.inj H
    go_enter Tryd.func74, Tryd.ntmps74
    go_wp2
    repeat (go_quiet (fail); try go_wp2)
    go_ret
    exact ⟨by first | rfl | (simp; done) | (simp [*]; done), by repeat (first | exact Drawn0.refl _ | apply Drawn0.step)⟩

end Go.Proofs.YtpgjhjlhipikgaaDoor.PK
end
