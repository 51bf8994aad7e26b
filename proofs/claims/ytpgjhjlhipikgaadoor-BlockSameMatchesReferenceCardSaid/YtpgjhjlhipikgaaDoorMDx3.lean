/- Texts of this claim, one behind the other. -/
import Derived.Shelf.Strings.Builder1
import Derived.Shelf.Strings.Builder2
import Derived.Shelf.Strings.OnBuilder
import Derived.Shelf.Strings.Trim
import Derived.Shelf.Small.Utf8
import Derived.Shelf.Small.Strs
import Derived.Shelf.Strings.Search1
import Derived.Shelf.Strings.Search2
import Derived.Shelf.Strings.Search3
import Derived.Shelf.LaysM
import Derived.Shelf.Strings.Shaped
import Derived.Shelf.GgClosure.StringsIndexFunc
import Derived.Ground.GgwProg
import Derived.Shelf.GgClosure.StringsIndexFuncTop
import Derived.Shelf.Strings.Runes
import Derived.Shelf.Strings.AsciiSet
import Derived.Shelf.Unicode.DecodeSlow
import Derived.Test.YtpgjhjlhipikgaaDoorProg
import Derived.WalkKit
import Derived.Lib.Builder
import Derived.Lib.AppendStr
import Derived.Lib.UnsafeStr
import Derived.Laws.Externs
import Derived.Below
import Derived.Deep.Draws
import Derived.Deep.AppendLies
import Derived.Maps.AppendAt
import Derived.OwnWalk
import Derived.Laws.BytesArg
import Derived.Laws.MakeOwn
import Derived.Laws.OwnMore
import Derived.Deep.OwnRows
import Derived.Tactics
import Derived.Lib.ConvBytes
import Derived.Laws.Slices
import Derived.KernelRfl
import Derived.RowKit3
import Derived.Deep.LoopGhost
import Derived.Deep.QuietTactic
import Derived.BigQuiet
import Derived.WideLaws
import Derived.Deep.DeepCutAuto
import Derived.Deep.CutBlock
import Derived.Deep.RegionHeld3
import Derived.Laws.Rows
import Derived.ArgAppend
import Derived.Laws.IdiomCopy
import Derived.OrdersHeld
import Derived.Laws.BitsLemmas
import Derived.RowKit
import Derived.Test.YtpgjhjlhipikgaaDoorMDx1
import Derived.Test.YtpgjhjlhipikgaaDoorMDx2
import Derived.Maps.OwnIn
import Derived.RangeFuncNested
import Derived.RangeFuncLeaves
import Derived.OwnWalkIn
import Derived.TacticsInMore
import Derived.LoopNIn
import Derived.LoopIn
import Derived.Laws.EntriesVeiled
section
namespace Go.Proofs
open Go.Shelf
def Tryd.lays169_ren : Go.Shelf.Ren := ⟨fun | 169 => 54 | n => n, fun | 70 => 61 | 9 => 9 | 0 => 0 | 72 => 64 | 37 => 62 | 127 => 97 | 3 => 3 | 5 => 5 | n => n, fun | n => n⟩
theorem Tryd.lays169 : Go.Proofs.Lays.n169 Tryd.prog Tryd.lays169_ren := {
  mixed := by kernel_rfl
  f169 := Tryd.func54.trans (congrArg some (by kernel_rfl))
  t0 := Tryd.underlying0
  a0 := Tryd.isAgg0
  z0 := Tryd.sizeOf0
  v0 := Tryd.zeroValue0
  t3 := Tryd.underlying3
  a3 := Tryd.isAgg3
  z3 := Tryd.sizeOf3
  v3 := Tryd.zeroValue3
  t9 := Tryd.underlying9
  a9 := Tryd.isAgg9
  z9 := Tryd.sizeOf9
  v9 := Tryd.zeroValue9
  t37 := Tryd.underlying62
  a37 := Tryd.isAgg62
  z37 := Tryd.sizeOf62
  v37 := Tryd.zeroValue62
  t70 := Tryd.underlying61
  a70 := Tryd.isAgg61
  z70 := Tryd.sizeOf61
  v70 := Tryd.zeroValue61
  t72 := Tryd.underlying64
  a72 := Tryd.isAgg64
  z72 := Tryd.sizeOf64
  v72 := Tryd.zeroValue64
  t127 := Tryd.underlying97
  a127 := Tryd.isAgg97
  z127 := Tryd.sizeOf97
  v127 := Tryd.zeroValue97 }
theorem Tryd.Builder_Extra_169 : Builder.Extra Tryd.prog Tryd.lays169_ren := {
  sizeBuilder := by kernel_rfl
  liesBuilder := by kernel_rfl
  t5 := Tryd.underlying5
  a5 := Tryd.isAgg5
  z5 := Tryd.sizeOf5
  v5 := Tryd.zeroValue5
  infoByte := by kernel_rfl
  cellsByte := by kernel_rfl
  sizeByte := by kernel_rfl
  neB5 := by decide }
open Go.RowKit in
theorem Tryd.Builder_String (B b : Nat) (l : List UInt8) (w : World) (h : Lib.IsBuilder 64 5 B b (Lib.byteCells l) w) (h0 : l ≠ []) :
    Calls Tryd.prog 54 #[.pointer (some ⟨b, 0, none⟩)] w fun e w' => e = .returned (.string ⟨l.toArray⟩) ∧ Below B w w' := Any.Builder_String Tryd.lays169 Tryd.Builder_Extra_169 B b l w h h0
open Go.RowKit in
theorem Tryd.Builder_String_empty (B b : Nat) (w : World) (h : Lib.IsBuilder 64 5 B b [] w) (hBw : B ≤ w.heap.size) :
    Calls Tryd.prog 54 #[.pointer (some ⟨b, 0, none⟩)] w fun e w' => e = .returned (.string ⟨#[]⟩) ∧ Below B w w' := Any.Builder_String_empty Tryd.lays169 Tryd.Builder_Extra_169 B b w h hBw
open Go.RowKit in
theorem Tryd.Builder_String_any (B b : Nat) (l : List UInt8) (w : World) (h : Lib.IsBuilder 64 5 B b (Lib.byteCells l) w) (hBw : B ≤ w.heap.size) :
    Calls Tryd.prog 54 #[.pointer (some ⟨b, 0, none⟩)] w fun e w' => e = .returned (.string ⟨l.toArray⟩) ∧ Below B w w' := Any.Builder_String_any Tryd.lays169 Tryd.Builder_Extra_169 B b l w h hBw
def Tryd.lays241_ren : Go.Shelf.Ren := ⟨fun | 241 => 113 | 277 => 121 | n => n, fun | 70 => 61 | 3 => 3 | 0 => 0 | 72 => 64 | 37 => 62 | 5 => 5 | n => n, fun | n => n⟩
theorem Tryd.lays241 : Go.Proofs.Lays.n241 Tryd.prog Tryd.lays241_ren := {
  mixed := by kernel_rfl
  f241 := Tryd.func113.trans (congrArg some (by kernel_rfl))
  f277 := Tryd.func121.trans (congrArg some (by kernel_rfl))
  t0 := Tryd.underlying0
  a0 := Tryd.isAgg0
  z0 := Tryd.sizeOf0
  v0 := Tryd.zeroValue0
  t3 := Tryd.underlying3
  a3 := Tryd.isAgg3
  z3 := Tryd.sizeOf3
  v3 := Tryd.zeroValue3
  t37 := Tryd.underlying62
  a37 := Tryd.isAgg62
  z37 := Tryd.sizeOf62
  v37 := Tryd.zeroValue62
  t70 := Tryd.underlying61
  a70 := Tryd.isAgg61
  z70 := Tryd.sizeOf61
  v70 := Tryd.zeroValue61
  t72 := Tryd.underlying64
  a72 := Tryd.isAgg64
  z72 := Tryd.sizeOf64
  v72 := Tryd.zeroValue64 }
theorem Tryd.Builder_Extra_241 : Builder.Extra Tryd.prog Tryd.lays241_ren := {
  sizeBuilder := by kernel_rfl
  liesBuilder := by kernel_rfl
  t5 := Tryd.underlying5
  a5 := Tryd.isAgg5
  z5 := Tryd.sizeOf5
  v5 := Tryd.zeroValue5
  infoByte := by kernel_rfl
  cellsByte := by kernel_rfl
  sizeByte := by kernel_rfl
  neB5 := by decide }
open Go.RowKit in
theorem Tryd.Builder_grow_fresh (B b n : Nat) (w : World) (hB : B ≤ b) (hbk : w.heap[b]? = some (.cells #[.pointer (some ⟨b, 0, none⟩), .slice none 0 0] 64 (0, 0))) (hBw : B ≤ w.heap.size) (hn : n ≤ 281474976710656) :
    Calls Tryd.prog 113 #[.pointer (some ⟨b, 0, none⟩), .int .i64 n] w fun e w' => e = .returned (.tuple #[]) ∧ (Lib.BuilderAt 64 5 B b (.pointer (some ⟨b, 0, none⟩)) [] w' ∧ Below B w w') := Any.Builder_grow_fresh Tryd.lays241 Tryd.Builder_Extra_241 B b n w hB hbk hBw hn
def Tryd.lays165_ren : Go.Shelf.Ren := ⟨fun | 165 => 107 | 240 => 76 | 241 => 113 | 276 => 95 | 277 => 121 | n => n, fun | 70 => 61 | 3 => 3 | 0 => 0 | 4 => 4 | 9 => 9 | 20 => 20 | 72 => 64 | 37 => 62 | 164 => 111 | 5 => 5 | n => n, fun | n => n⟩
theorem Tryd.lays165 : Go.Proofs.Lays.n165 Tryd.prog Tryd.lays165_ren := {
  mixed := by kernel_rfl
  f165 := Tryd.func107.trans (congrArg some (by kernel_rfl))
  f240 := Tryd.func76.trans (congrArg some (by kernel_rfl))
  f241 := Tryd.func113.trans (congrArg some (by kernel_rfl))
  f276 := Tryd.func95.trans (congrArg some (by kernel_rfl))
  f277 := Tryd.func121.trans (congrArg some (by kernel_rfl))
  t0 := Tryd.underlying0
  a0 := Tryd.isAgg0
  z0 := Tryd.sizeOf0
  v0 := Tryd.zeroValue0
  t3 := Tryd.underlying3
  a3 := Tryd.isAgg3
  z3 := Tryd.sizeOf3
  v3 := Tryd.zeroValue3
  t4 := Tryd.underlying4
  a4 := Tryd.isAgg4
  z4 := Tryd.sizeOf4
  v4 := Tryd.zeroValue4
  t9 := Tryd.underlying9
  a9 := Tryd.isAgg9
  z9 := Tryd.sizeOf9
  v9 := Tryd.zeroValue9
  t20 := Tryd.underlying20
  a20 := Tryd.isAgg20
  z20 := Tryd.sizeOf20
  v20 := Tryd.zeroValue20
  t37 := Tryd.underlying62
  a37 := Tryd.isAgg62
  z37 := Tryd.sizeOf62
  v37 := Tryd.zeroValue62
  t70 := Tryd.underlying61
  a70 := Tryd.isAgg61
  z70 := Tryd.sizeOf61
  v70 := Tryd.zeroValue61
  t72 := Tryd.underlying64
  a72 := Tryd.isAgg64
  z72 := Tryd.sizeOf64
  v72 := Tryd.zeroValue64
  t164 := Tryd.underlying111
  a164 := Tryd.isAgg111
  z164 := Tryd.sizeOf111
  v164 := Tryd.zeroValue111 }
theorem Tryd.Builder_Extra_165 : Builder.Extra Tryd.prog Tryd.lays165_ren := {
  sizeBuilder := by kernel_rfl
  liesBuilder := by kernel_rfl
  t5 := Tryd.underlying5
  a5 := Tryd.isAgg5
  z5 := Tryd.sizeOf5
  v5 := Tryd.zeroValue5
  infoByte := by kernel_rfl
  cellsByte := by kernel_rfl
  sizeByte := by kernel_rfl
  neB5 := by decide }
open Go.RowKit in
theorem Tryd.Builder_Grow_fresh (B b n : Nat) (w : World) (hB : B ≤ b) (hbk : w.heap[b]? = some (.cells #[.pointer none, .slice none 0 0] 64 (0, 0))) (hBw : B ≤ w.heap.size) (hn : n ≤ 281474976710656) :
    Calls Tryd.prog 107 #[.pointer (some ⟨b, 0, none⟩), .int .i64 n] w fun e w' => e = .returned (.tuple #[]) ∧ (Lib.BuilderAt 64 5 B b (.pointer (some ⟨b, 0, none⟩)) [] w' ∧ Below B w w') := Any.Builder_Grow_fresh Tryd.lays165 Tryd.Builder_Extra_165 B b n w hB hbk hBw hn
def Tryd.lays156_ren : Go.Shelf.Ren := ⟨fun | 156 => 91 | 165 => 107 | 166 => 52 | 169 => 54 | 240 => 76 | 241 => 113 | 276 => 95 | 277 => 121 | n => n, fun | 31 => 42 | 9 => 9 | 3 => 3 | 4 => 4 | 0 => 0 | 20 => 20 | 72 => 64 | 76 => 68 | 70 => 61 | 37 => 62 | 75 => 67 | 127 => 97 | 164 => 111 | 5 => 5 | 80 => 72 | n => n, fun | n => n⟩
theorem Tryd.lays156 : Go.Proofs.Lays.n156 Tryd.prog Tryd.lays156_ren := {
  mixed := by kernel_rfl
  f156 := Tryd.func91.trans (congrArg some (by kernel_rfl))
  f165 := Tryd.func107.trans (congrArg some (by kernel_rfl))
  f166 := Tryd.func52.trans (congrArg some (by kernel_rfl))
  f169 := Tryd.func54.trans (congrArg some (by kernel_rfl))
  f240 := Tryd.func76.trans (congrArg some (by kernel_rfl))
  f241 := Tryd.func113.trans (congrArg some (by kernel_rfl))
  f276 := Tryd.func95.trans (congrArg some (by kernel_rfl))
  f277 := Tryd.func121.trans (congrArg some (by kernel_rfl))
  t0 := Tryd.underlying0
  a0 := Tryd.isAgg0
  z0 := Tryd.sizeOf0
  v0 := Tryd.zeroValue0
  t3 := Tryd.underlying3
  a3 := Tryd.isAgg3
  z3 := Tryd.sizeOf3
  v3 := Tryd.zeroValue3
  t4 := Tryd.underlying4
  a4 := Tryd.isAgg4
  z4 := Tryd.sizeOf4
  v4 := Tryd.zeroValue4
  t9 := Tryd.underlying9
  a9 := Tryd.isAgg9
  z9 := Tryd.sizeOf9
  v9 := Tryd.zeroValue9
  t20 := Tryd.underlying20
  a20 := Tryd.isAgg20
  z20 := Tryd.sizeOf20
  v20 := Tryd.zeroValue20
  t31 := Tryd.underlying42
  a31 := Tryd.isAgg42
  z31 := Tryd.sizeOf42
  v31 := Tryd.zeroValue42
  t37 := Tryd.underlying62
  a37 := Tryd.isAgg62
  z37 := Tryd.sizeOf62
  v37 := Tryd.zeroValue62
  t70 := Tryd.underlying61
  a70 := Tryd.isAgg61
  z70 := Tryd.sizeOf61
  v70 := Tryd.zeroValue61
  t72 := Tryd.underlying64
  a72 := Tryd.isAgg64
  z72 := Tryd.sizeOf64
  v72 := Tryd.zeroValue64
  t75 := Tryd.underlying67
  a75 := Tryd.isAgg67
  z75 := Tryd.sizeOf67
  v75 := Tryd.zeroValue67
  t76 := Tryd.underlying68
  a76 := Tryd.isAgg68
  z76 := Tryd.sizeOf68
  v76 := Tryd.zeroValue68
  t127 := Tryd.underlying97
  a127 := Tryd.isAgg97
  z127 := Tryd.sizeOf97
  v127 := Tryd.zeroValue97
  t164 := Tryd.underlying111
  a164 := Tryd.isAgg111
  z164 := Tryd.sizeOf111
  v164 := Tryd.zeroValue111 }
theorem Tryd.Builder_Extra_156 : Builder.Extra Tryd.prog Tryd.lays156_ren := {
  sizeBuilder := by kernel_rfl
  liesBuilder := by kernel_rfl
  t5 := Tryd.underlying5
  a5 := Tryd.isAgg5
  z5 := Tryd.sizeOf5
  v5 := Tryd.zeroValue5
  infoByte := by kernel_rfl
  cellsByte := by kernel_rfl
  sizeByte := by kernel_rfl
  neB5 := by decide }
open Go.RowKit in
theorem Tryd.strings_Join_none (a : Option Addr) (c : Nat) (sep : ByteArray) (w : World) :
    Calls Tryd.prog 91 #[.slice a 0 c, .string sep] w fun e w' => e = .returned (.string ⟨#[]⟩) ∧ w' = w := Any.strings_Join_none Tryd.lays156 Tryd.Builder_Extra_156 a c sep w
open Go.RowKit in
theorem Tryd.strings_Join (bk o c : Nat) (xs : List ByteArray) (sep : ByteArray) (w : World) (hcells : ∀ (j : Nat) x, xs[j]? = some x → w.cell? ⟨bk, o + j, none⟩ = some (.string x)) (hbk : bk < w.heap.size) (hN : xs.length ≤ 140737488355328) (hcap : xs.length ≤ c) (hlen : (Lib.join (xs.map (·.data.toList)) sep.data.toList).length ≤ 140737488355328) :
    Calls Tryd.prog 91 #[.slice (some ⟨bk, o, none⟩) xs.length c, .string sep] w fun e w' => e = .returned (.string ⟨(Lib.join (xs.map (·.data.toList)) sep.data.toList).toArray⟩) ∧ Below w.heap.size w w' := Any.strings_Join Tryd.lays156 Tryd.Builder_Extra_156 bk o c xs sep w hcells hbk hN hcap hlen
def Tryd.lays231_ren : Go.Shelf.Ren := ⟨fun | 231 => 100 | n => n, fun | 9 => 9 | 5 => 5 | 3 => 3 | 4 => 4 | n => n, fun | n => n⟩
theorem Tryd.lays231 : Go.Proofs.Lays.n231 Tryd.prog Tryd.lays231_ren := {
  mixed := by kernel_rfl
  f231 := Tryd.func100.trans (congrArg some (by kernel_rfl))
  t3 := Tryd.underlying3
  a3 := Tryd.isAgg3
  z3 := Tryd.sizeOf3
  v3 := Tryd.zeroValue3
  t4 := Tryd.underlying4
  a4 := Tryd.isAgg4
  z4 := Tryd.sizeOf4
  v4 := Tryd.zeroValue4
  t5 := Tryd.underlying5
  a5 := Tryd.isAgg5
  z5 := Tryd.sizeOf5
  v5 := Tryd.zeroValue5
  t9 := Tryd.underlying9
  a9 := Tryd.isAgg9
  z9 := Tryd.sizeOf9
  v9 := Tryd.zeroValue9 }
open Go.RowKit in
theorem Tryd.strings_trimLeftByte (s : ByteArray) (c : UInt8) (w : World) :
    Calls Tryd.prog 100 #[.string s, .int .u8 c.toNat] w fun e w' => e = .returned (.string ⟨(Lib.trimLeftB s.data.toList c).toArray⟩) ∧ w' = w := Any.strings_trimLeftByte Tryd.lays231 s c w
def Tryd.lays232_ren : Go.Shelf.Ren := ⟨fun | 232 => 101 | n => n, fun | 9 => 9 | 5 => 5 | 3 => 3 | 4 => 4 | n => n, fun | n => n⟩
theorem Tryd.lays232 : Go.Proofs.Lays.n232 Tryd.prog Tryd.lays232_ren := {
  mixed := by kernel_rfl
  f232 := Tryd.func101.trans (congrArg some (by kernel_rfl))
  t3 := Tryd.underlying3
  a3 := Tryd.isAgg3
  z3 := Tryd.sizeOf3
  v3 := Tryd.zeroValue3
  t4 := Tryd.underlying4
  a4 := Tryd.isAgg4
  z4 := Tryd.sizeOf4
  v4 := Tryd.zeroValue4
  t5 := Tryd.underlying5
  a5 := Tryd.isAgg5
  z5 := Tryd.sizeOf5
  v5 := Tryd.zeroValue5
  t9 := Tryd.underlying9
  a9 := Tryd.isAgg9
  z9 := Tryd.sizeOf9
  v9 := Tryd.zeroValue9 }
open Go.RowKit in
theorem Tryd.strings_trimRightByte (s : ByteArray) (c : UInt8) (w : World) (hs : s.size ≤ 9223372036854775807) :
    Calls Tryd.prog 101 #[.string s, .int .u8 c.toNat] w fun e w' => e = .returned (.string ⟨(Lib.trimRightB s.data.toList c).toArray⟩) ∧ w' = w := Any.strings_trimRightByte Tryd.lays232 s c w hs
def Tryd.lays160_ren : Go.Shelf.Ren := ⟨fun | 160 => 90 | 232 => 101 | 231 => 100 | 227 => 102 | 234 => 104 | 233 => 103 | 236 => 106 | 235 => 105 | 228 => 109 | 271 => 112 | 151 => 111 | 197 => 110 | 120 => 120 | 152 => 119 | 260 => 118 | 137 => 124 | 119 => 125 | 224 => 116 | 225 => 115 | 217 => 114 | 266 => 122 | n => n, fun | 9 => 9 | 4 => 4 | 3 => 3 | 5 => 5 | 117 => 121 | 116 => 120 | 0 => 0 | 124 => 124 | 21 => 21 | 105 => 127 | 46 => 96 | 119 => 136 | 139 => 139 | 138 => 138 | n => n, fun | 3 => 1 | 4 => 2 | n => n⟩
theorem Tryd.lays160 : Go.Proofs.Lays.n160 Tryd.prog Tryd.lays160_ren := {
  mixed := by kernel_rfl
  f119 := Tryd.func125.trans (congrArg some (by kernel_rfl))
  f120 := Tryd.func120.trans (congrArg some (by kernel_rfl))
  f137 := Tryd.func124.trans (congrArg some (by kernel_rfl))
  f151 := Tryd.func111.trans (congrArg some (by kernel_rfl))
  f152 := Tryd.func119.trans (congrArg some (by kernel_rfl))
  f160 := Tryd.func90.trans (congrArg some (by kernel_rfl))
  f197 := Tryd.func110.trans (congrArg some (by kernel_rfl))
  f217 := Tryd.func114.trans (congrArg some (by kernel_rfl))
  f224 := Tryd.func116.trans (congrArg some (by kernel_rfl))
  f225 := Tryd.func115.trans (congrArg some (by kernel_rfl))
  f227 := Tryd.func102.trans (congrArg some (by kernel_rfl))
  f228 := Tryd.func109.trans (congrArg some (by kernel_rfl))
  f231 := Tryd.func100.trans (congrArg some (by kernel_rfl))
  f232 := Tryd.func101.trans (congrArg some (by kernel_rfl))
  f233 := Tryd.func103.trans (congrArg some (by kernel_rfl))
  f234 := Tryd.func104.trans (congrArg some (by kernel_rfl))
  f235 := Tryd.func105.trans (congrArg some (by kernel_rfl))
  f236 := Tryd.func106.trans (congrArg some (by kernel_rfl))
  f260 := Tryd.func118.trans (congrArg some (by kernel_rfl))
  f266 := Tryd.func122.trans (congrArg some (by kernel_rfl))
  f271 := Tryd.func112.trans (congrArg some (by kernel_rfl))
  t0 := Tryd.underlying0
  a0 := Tryd.isAgg0
  z0 := Tryd.sizeOf0
  v0 := Tryd.zeroValue0
  t3 := Tryd.underlying3
  a3 := Tryd.isAgg3
  z3 := Tryd.sizeOf3
  v3 := Tryd.zeroValue3
  t4 := Tryd.underlying4
  a4 := Tryd.isAgg4
  z4 := Tryd.sizeOf4
  v4 := Tryd.zeroValue4
  t5 := Tryd.underlying5
  a5 := Tryd.isAgg5
  z5 := Tryd.sizeOf5
  v5 := Tryd.zeroValue5
  t9 := Tryd.underlying9
  a9 := Tryd.isAgg9
  z9 := Tryd.sizeOf9
  v9 := Tryd.zeroValue9
  t21 := Tryd.underlying21
  a21 := Tryd.isAgg21
  z21 := Tryd.sizeOf21
  v21 := Tryd.zeroValue21
  t46 := Tryd.underlying96
  a46 := Tryd.isAgg96
  z46 := Tryd.sizeOf96
  v46 := Tryd.zeroValue96
  t105 := Tryd.underlying127
  a105 := Tryd.isAgg127
  z105 := Tryd.sizeOf127
  v105 := Tryd.zeroValue127
  t116 := Tryd.underlying120
  a116 := Tryd.isAgg120
  z116 := Tryd.sizeOf120
  t117 := Tryd.underlying121
  a117 := Tryd.isAgg121
  z117 := Tryd.sizeOf121
  v117 := Tryd.zeroValue121
  t119 := Tryd.underlying136
  a119 := Tryd.isAgg136
  z119 := Tryd.sizeOf136
  t124 := Tryd.underlying124
  a124 := Tryd.isAgg124
  z124 := Tryd.sizeOf124
  v124 := Tryd.zeroValue124
  t138 := Tryd.underlying138
  a138 := Tryd.isAgg138
  z138 := Tryd.sizeOf138
  v138 := Tryd.zeroValue138
  t139 := Tryd.underlying139
  a139 := Tryd.isAgg139
  z139 := Tryd.sizeOf139
  v139 := Tryd.zeroValue139
  g3 := by kernel_rfl
  g4 := by kernel_rfl }
open Go.RowKit in
theorem Tryd.strings_Trim_one (s : ByteArray) (c : UInt8) (hc : c.toNat < 128) (w : World) (hs : s.size ≤ 9223372036854775807) :
    Calls Tryd.prog 90 #[.string s, .string ⟨#[c]⟩] w fun e w' => e = .returned (.string ⟨(Lib.trimB s.data.toList c).toArray⟩) ∧ (w' = w ∨ w' = w.drew) := Any.strings_Trim_one Tryd.lays160 s c hc w hs
def Tryd.lays137_ren : Go.Shelf.Ren := ⟨fun | 137 => 124 | 217 => 114 | 266 => 122 | n => n, fun | 9 => 9 | 5 => 5 | 3 => 3 | n => n, fun | n => n⟩
theorem Tryd.lays137 : Go.Proofs.Lays.n137 Tryd.prog Tryd.lays137_ren := {
  mixed := by kernel_rfl
  f137 := Tryd.func124.trans (congrArg some (by kernel_rfl))
  f217 := Tryd.func114.trans (congrArg some (by kernel_rfl))
  f266 := Tryd.func122.trans (congrArg some (by kernel_rfl))
  t3 := Tryd.underlying3
  a3 := Tryd.isAgg3
  z3 := Tryd.sizeOf3
  v3 := Tryd.zeroValue3
  t5 := Tryd.underlying5
  a5 := Tryd.isAgg5
  z5 := Tryd.sizeOf5
  v5 := Tryd.zeroValue5
  t9 := Tryd.underlying9
  a9 := Tryd.isAgg9
  z9 := Tryd.sizeOf9
  v9 := Tryd.zeroValue9 }
open Go.RowKit in
theorem Tryd.strings_IndexByte (s : ByteArray) (c : Int) (w : World) :
    Calls Tryd.prog 124 #[.string s, .int .u8 c] w fun e w' => e = .returned (.int .i64 (Lib.indexByte s.data.toList c.toNat.toUInt8)) ∧ w' = w := Any.strings_IndexByte Tryd.lays137 s c w
def Tryd.lays217_ren : Go.Shelf.Ren := ⟨fun | 217 => 114 | 266 => 122 | n => n, fun | 9 => 9 | 5 => 5 | 3 => 3 | n => n, fun | n => n⟩
theorem Tryd.lays217 : Go.Proofs.Lays.n217 Tryd.prog Tryd.lays217_ren := {
  mixed := by kernel_rfl
  f217 := Tryd.func114.trans (congrArg some (by kernel_rfl))
  f266 := Tryd.func122.trans (congrArg some (by kernel_rfl))
  t3 := Tryd.underlying3
  a3 := Tryd.isAgg3
  z3 := Tryd.sizeOf3
  v3 := Tryd.zeroValue3
  t5 := Tryd.underlying5
  a5 := Tryd.isAgg5
  z5 := Tryd.sizeOf5
  v5 := Tryd.zeroValue5
  t9 := Tryd.underlying9
  a9 := Tryd.isAgg9
  z9 := Tryd.sizeOf9
  v9 := Tryd.zeroValue9 }
open Go.RowKit Go.Lib in
theorem Tryd.stringslite_IndexByte (s : ByteArray) (c : Int) (w : World) :
    Calls Tryd.prog 114 #[.string s, .int .u8 c] w fun e w' => e = .returned (.int .i64 (Lib.indexByte s.data.toList c.toNat.toUInt8)) ∧ w' = w := Any.stringslite_IndexByte Tryd.lays217 s c w
def Tryd.lays224_ren : Go.Shelf.Ren := ⟨fun | 224 => 116 | n => n, fun | 3 => 3 | n => n, fun | n => n⟩
theorem Tryd.lays224 : Go.Proofs.Lays.n224 Tryd.prog Tryd.lays224_ren := {
  mixed := by kernel_rfl
  f224 := Tryd.func116.trans (congrArg some (by kernel_rfl))
  t3 := Tryd.underlying3
  a3 := Tryd.isAgg3
  z3 := Tryd.sizeOf3
  v3 := Tryd.zeroValue3 }
open Go.RowKit Go.Lib in
theorem Tryd.bytealg_Cutover (n : Int) (h0 : 0 ≤ n) (h1 : n < 4611686018427387904) (w : World) :
    Calls Tryd.prog 116 #[.int .i64 n] w fun e w' => e = .returned (.int .i64 ((n + 16) / 8)) ∧ w' = w := Any.bytealg_Cutover Tryd.lays224 n h0 h1 w
def Tryd.lays314_ren : Go.Shelf.Ren := ⟨fun | 314 => 123 | n => n, fun | 9 => 9 | 51 => 133 | 3 => 3 | 4 => 4 | 5 => 5 | 46 => 96 | n => n, fun | n => n⟩
theorem Tryd.lays314 : Go.Proofs.Lays.n314 Tryd.prog Tryd.lays314_ren := {
  mixed := by kernel_rfl
  f314 := Tryd.func123.trans (congrArg some (by kernel_rfl))
  t3 := Tryd.underlying3
  a3 := Tryd.isAgg3
  z3 := Tryd.sizeOf3
  v3 := Tryd.zeroValue3
  t4 := Tryd.underlying4
  a4 := Tryd.isAgg4
  z4 := Tryd.sizeOf4
  v4 := Tryd.zeroValue4
  t5 := Tryd.underlying5
  a5 := Tryd.isAgg5
  z5 := Tryd.sizeOf5
  v5 := Tryd.zeroValue5
  t9 := Tryd.underlying9
  a9 := Tryd.isAgg9
  z9 := Tryd.sizeOf9
  v9 := Tryd.zeroValue9
  t46 := Tryd.underlying96
  a46 := Tryd.isAgg96
  z46 := Tryd.sizeOf96
  v46 := Tryd.zeroValue96
  t51 := Tryd.underlying133
  a51 := Tryd.isAgg133
  z51 := Tryd.sizeOf133
  v51 := Tryd.zeroValue133 }
open Go.RowKit Go.Lib in
theorem Tryd.bytealg_hashStr (sep : ByteArray) (hs : sep.size < 4294967281) (w : World) :
    Calls Tryd.prog 123 #[.string sep] w fun e w' => e = .returned (.tuple #[.int .u32 (RK.H sep.data.toList % 4294967296), .int .u32 (16777619 ^ sep.size % 4294967296)]) ∧ w' = w := Any.bytealg_hashStr Tryd.lays314 sep hs w
def Tryd.lays267_ren : Go.Shelf.Ren := ⟨fun | 267 => 117 | 314 => 123 | n => n, fun | 9 => 9 | 3 => 3 | 146 => 134 | 51 => 133 | 4 => 4 | 5 => 5 | 46 => 96 | n => n, fun | n => n⟩
theorem Tryd.lays267 : Go.Proofs.Lays.n267 Tryd.prog Tryd.lays267_ren := {
  mixed := by kernel_rfl
  f267 := Tryd.func117.trans (congrArg some (by kernel_rfl))
  f314 := Tryd.func123.trans (congrArg some (by kernel_rfl))
  t3 := Tryd.underlying3
  a3 := Tryd.isAgg3
  z3 := Tryd.sizeOf3
  v3 := Tryd.zeroValue3
  t4 := Tryd.underlying4
  a4 := Tryd.isAgg4
  z4 := Tryd.sizeOf4
  v4 := Tryd.zeroValue4
  t5 := Tryd.underlying5
  a5 := Tryd.isAgg5
  z5 := Tryd.sizeOf5
  v5 := Tryd.zeroValue5
  t9 := Tryd.underlying9
  a9 := Tryd.isAgg9
  z9 := Tryd.sizeOf9
  v9 := Tryd.zeroValue9
  t46 := Tryd.underlying96
  a46 := Tryd.isAgg96
  z46 := Tryd.sizeOf96
  v46 := Tryd.zeroValue96
  t51 := Tryd.underlying133
  a51 := Tryd.isAgg133
  z51 := Tryd.sizeOf133
  v51 := Tryd.zeroValue133
  t146 := Tryd.underlying134
  a146 := Tryd.isAgg134
  z146 := Tryd.sizeOf134
  v146 := Tryd.zeroValue134 }
open Go.RowKit Go.Lib in
theorem Tryd.bytealg_IndexRabinKarp (s sep : ByteArray) (h1 : 1 ≤ sep.size) (h2 : sep.size ≤ s.size) (hs : s.size < 4294967281) (w : World) :
    Calls Tryd.prog 117 #[.string s, .string sep] w fun e w' => e = .returned (.int .i64 (Lib.index s.data.toList sep.data.toList)) ∧ w' = w := Any.bytealg_IndexRabinKarp Tryd.lays267 s sep h1 h2 hs w
def Tryd.lays219_ren : Go.Shelf.Ren := ⟨fun | 219 => 108 | 217 => 114 | 225 => 115 | 224 => 116 | 267 => 117 | 266 => 122 | 314 => 123 | n => n, fun | 9 => 9 | 3 => 3 | 4 => 4 | 5 => 5 | 46 => 96 | 146 => 134 | 51 => 133 | n => n, fun | 1 => 0 | n => n⟩
theorem Tryd.lays219 : Go.Proofs.Lays.n219 Tryd.prog Tryd.lays219_ren := {
  mixed := by kernel_rfl
  f217 := Tryd.func114.trans (congrArg some (by kernel_rfl))
  f219 := Tryd.func108.trans (congrArg some (by kernel_rfl))
  f224 := Tryd.func116.trans (congrArg some (by kernel_rfl))
  f225 := Tryd.func115.trans (congrArg some (by kernel_rfl))
  f266 := Tryd.func122.trans (congrArg some (by kernel_rfl))
  f267 := Tryd.func117.trans (congrArg some (by kernel_rfl))
  f314 := Tryd.func123.trans (congrArg some (by kernel_rfl))
  t3 := Tryd.underlying3
  a3 := Tryd.isAgg3
  z3 := Tryd.sizeOf3
  v3 := Tryd.zeroValue3
  t4 := Tryd.underlying4
  a4 := Tryd.isAgg4
  z4 := Tryd.sizeOf4
  v4 := Tryd.zeroValue4
  t5 := Tryd.underlying5
  a5 := Tryd.isAgg5
  z5 := Tryd.sizeOf5
  v5 := Tryd.zeroValue5
  t9 := Tryd.underlying9
  a9 := Tryd.isAgg9
  z9 := Tryd.sizeOf9
  v9 := Tryd.zeroValue9
  t46 := Tryd.underlying96
  a46 := Tryd.isAgg96
  z46 := Tryd.sizeOf96
  v46 := Tryd.zeroValue96
  t51 := Tryd.underlying133
  a51 := Tryd.isAgg133
  z51 := Tryd.sizeOf133
  v51 := Tryd.zeroValue133
  t146 := Tryd.underlying134
  a146 := Tryd.isAgg134
  z146 := Tryd.sizeOf134
  v146 := Tryd.zeroValue134
  g1 := by kernel_rfl }
open Go.RowKit Go.Lib in
theorem Tryd.stringslite_Index_one (s : ByteArray) (c : UInt8) (w : World) :
    Calls Tryd.prog 108 #[.string s, .string ⟨#[c]⟩] w fun e w' => e = .returned (.int .i64 (Lib.indexByte s.data.toList c)) ∧ w' = w := Any.stringslite_Index_one Tryd.lays219 s c w
open Go.RowKit Go.Lib in
theorem Tryd.stringslite_Index (s sub : ByteArray) (m : Int) (w : World) (hs : s.size < 4294967281) (hm : w.cell? ⟨0, 0, none⟩ = some (.int .i64 m)) :
    Calls Tryd.prog 108 #[.string s, .string sub] w fun e w' => e = .returned (.int .i64 (Lib.index s.data.toList sub.data.toList)) ∧ w' = w := Any.stringslite_Index Tryd.lays219 s sub m w hs hm
def Tryd.lays143_ren : Go.Shelf.Ren := ⟨fun | 143 => 99 | 219 => 108 | 217 => 114 | 225 => 115 | 224 => 116 | 267 => 117 | 266 => 122 | 314 => 123 | n => n, fun | 9 => 9 | 3 => 3 | 4 => 4 | 5 => 5 | 46 => 96 | 146 => 134 | 51 => 133 | n => n, fun | 1 => 0 | n => n⟩
theorem Tryd.lays143 : Go.Proofs.Lays.n143 Tryd.prog Tryd.lays143_ren := {
  mixed := by kernel_rfl
  f143 := Tryd.func99.trans (congrArg some (by kernel_rfl))
  f217 := Tryd.func114.trans (congrArg some (by kernel_rfl))
  f219 := Tryd.func108.trans (congrArg some (by kernel_rfl))
  f224 := Tryd.func116.trans (congrArg some (by kernel_rfl))
  f225 := Tryd.func115.trans (congrArg some (by kernel_rfl))
  f266 := Tryd.func122.trans (congrArg some (by kernel_rfl))
  f267 := Tryd.func117.trans (congrArg some (by kernel_rfl))
  f314 := Tryd.func123.trans (congrArg some (by kernel_rfl))
  t3 := Tryd.underlying3
  a3 := Tryd.isAgg3
  z3 := Tryd.sizeOf3
  v3 := Tryd.zeroValue3
  t4 := Tryd.underlying4
  a4 := Tryd.isAgg4
  z4 := Tryd.sizeOf4
  v4 := Tryd.zeroValue4
  t5 := Tryd.underlying5
  a5 := Tryd.isAgg5
  z5 := Tryd.sizeOf5
  v5 := Tryd.zeroValue5
  t9 := Tryd.underlying9
  a9 := Tryd.isAgg9
  z9 := Tryd.sizeOf9
  v9 := Tryd.zeroValue9
  t46 := Tryd.underlying96
  a46 := Tryd.isAgg96
  z46 := Tryd.sizeOf96
  v46 := Tryd.zeroValue96
  t51 := Tryd.underlying133
  a51 := Tryd.isAgg133
  z51 := Tryd.sizeOf133
  v51 := Tryd.zeroValue133
  t146 := Tryd.underlying134
  a146 := Tryd.isAgg134
  z146 := Tryd.sizeOf134
  v146 := Tryd.zeroValue134
  g1 := by kernel_rfl }
open Go.RowKit Go.Lib in
theorem Tryd.strings_Index_one (s : ByteArray) (c : UInt8) (w : World) :
    Calls Tryd.prog 99 #[.string s, .string ⟨#[c]⟩] w fun e w' => e = .returned (.int .i64 (Lib.indexByte s.data.toList c)) ∧ w' = w := Any.strings_Index_one Tryd.lays143 s c w
open Go.RowKit Go.Lib in
theorem Tryd.strings_Index (s sub : ByteArray) (m : Int) (w : World) (hs : s.size < 4294967281) (hm : w.cell? ⟨0, 0, none⟩ = some (.int .i64 m)) :
    Calls Tryd.prog 99 #[.string s, .string sub] w fun e w' => e = .returned (.int .i64 (Lib.index s.data.toList sub.data.toList)) ∧ w' = w := Any.strings_Index Tryd.lays143 s sub m w hs hm
def Tryd.lays144_ren : Go.Shelf.Ren := ⟨fun | 144 => 88 | 143 => 99 | 219 => 108 | 217 => 114 | 225 => 115 | 224 => 116 | 267 => 117 | 266 => 122 | 314 => 123 | n => n, fun | 9 => 9 | 4 => 4 | 3 => 3 | 5 => 5 | 46 => 96 | 146 => 134 | 51 => 133 | n => n, fun | 1 => 0 | n => n⟩
theorem Tryd.lays144 : Go.Proofs.Lays.n144 Tryd.prog Tryd.lays144_ren := {
  mixed := by kernel_rfl
  f143 := Tryd.func99.trans (congrArg some (by kernel_rfl))
  f144 := Tryd.func88.trans (congrArg some (by kernel_rfl))
  f217 := Tryd.func114.trans (congrArg some (by kernel_rfl))
  f219 := Tryd.func108.trans (congrArg some (by kernel_rfl))
  f224 := Tryd.func116.trans (congrArg some (by kernel_rfl))
  f225 := Tryd.func115.trans (congrArg some (by kernel_rfl))
  f266 := Tryd.func122.trans (congrArg some (by kernel_rfl))
  f267 := Tryd.func117.trans (congrArg some (by kernel_rfl))
  f314 := Tryd.func123.trans (congrArg some (by kernel_rfl))
  t3 := Tryd.underlying3
  a3 := Tryd.isAgg3
  z3 := Tryd.sizeOf3
  v3 := Tryd.zeroValue3
  t4 := Tryd.underlying4
  a4 := Tryd.isAgg4
  z4 := Tryd.sizeOf4
  v4 := Tryd.zeroValue4
  t5 := Tryd.underlying5
  a5 := Tryd.isAgg5
  z5 := Tryd.sizeOf5
  v5 := Tryd.zeroValue5
  t9 := Tryd.underlying9
  a9 := Tryd.isAgg9
  z9 := Tryd.sizeOf9
  v9 := Tryd.zeroValue9
  t46 := Tryd.underlying96
  a46 := Tryd.isAgg96
  z46 := Tryd.sizeOf96
  v46 := Tryd.zeroValue96
  t51 := Tryd.underlying133
  a51 := Tryd.isAgg133
  z51 := Tryd.sizeOf133
  v51 := Tryd.zeroValue133
  t146 := Tryd.underlying134
  a146 := Tryd.isAgg134
  z146 := Tryd.sizeOf134
  v146 := Tryd.zeroValue134
  g1 := by kernel_rfl }
open Go.RowKit Go.Lib in
theorem Tryd.strings_Contains_one (s : ByteArray) (c : UInt8) (w : World) :
    Calls Tryd.prog 88 #[.string s, .string ⟨#[c]⟩] w fun e w' => e = .returned (.bool (decide (0 ≤ Lib.indexByte s.data.toList c))) ∧ w' = w := Any.strings_Contains_one Tryd.lays144 s c w
open Go.RowKit Go.Lib in
theorem Tryd.strings_Contains (s sub : ByteArray) (m : Int) (w : World) (hs : s.size < 4294967281) (hm : w.cell? ⟨0, 0, none⟩ = some (.int .i64 m)) :
    Calls Tryd.prog 88 #[.string s, .string sub] w fun e w' => e = .returned (.bool (Lib.contains s.data.toList sub.data.toList)) ∧ w' = w := Any.strings_Contains Tryd.lays144 s sub m w hs hm
def Tryd.laysM219_ren : Go.Shelf.Ren := ⟨fun | 219 => 108 | 217 => 114 | 225 => 115 | 224 => 116 | 267 => 117 | 266 => 122 | 314 => 123 | n => n, fun | 9 => 9 | 3 => 3 | 4 => 4 | 5 => 5 | 46 => 96 | 146 => 134 | 51 => 133 | n => n, fun | 1 => 0 | n => n⟩
theorem Tryd.laysM219 : Go.Proofs.LaysM.n219 Tryd.prog Tryd.laysM219_ren := {
  mixed := by kernel_rfl
  f217 := Tryd.func114.trans (congrArg some (by kernel_rfl))
  f219 := Tryd.func108.trans (congrArg some (by kernel_rfl))
  f224 := Tryd.func116.trans (congrArg some (by kernel_rfl))
  f225 := Tryd.func115.trans (congrArg some (by kernel_rfl))
  f266 := Tryd.func122.trans (congrArg some (by kernel_rfl))
  f267 := Tryd.func117.trans (congrArg some (by kernel_rfl))
  f314 := Tryd.func123.trans (congrArg some (by kernel_rfl))
  t3 := Tryd.underlying3
  a3 := Tryd.isAgg3
  z3 := Tryd.sizeOf3
  v3 := Tryd.zeroValue3
  t4 := Tryd.underlying4
  a4 := Tryd.isAgg4
  z4 := Tryd.sizeOf4
  v4 := Tryd.zeroValue4
  t5 := Tryd.underlying5
  a5 := Tryd.isAgg5
  z5 := Tryd.sizeOf5
  v5 := Tryd.zeroValue5
  t9 := Tryd.underlying9
  a9 := Tryd.isAgg9
  z9 := Tryd.sizeOf9
  v9 := Tryd.zeroValue9
  t46 := Tryd.underlying96
  a46 := Tryd.isAgg96
  z46 := Tryd.sizeOf96
  v46 := Tryd.zeroValue96
  t51 := Tryd.underlying133
  a51 := Tryd.isAgg133
  z51 := Tryd.sizeOf133
  v51 := Tryd.zeroValue133
  t146 := Tryd.underlying134
  a146 := Tryd.isAgg134
  z146 := Tryd.sizeOf134
  v146 := Tryd.zeroValue134
  g1 := by kernel_rfl
  i3 := by kernel_rfl
  i4 := by kernel_rfl
  i5 := by kernel_rfl
  i9 := by kernel_rfl
  i46 := by kernel_rfl
  i51 := by kernel_rfl
  i146 := by kernel_rfl
  m1 := by kernel_rfl
  s1_3 := fun w h => Go.Proofs.cell_of_shapedOpen_int (zero := #[.int .i64 0]) (t := 3) h (of_decide_eq_true (by kernel_rfl)) (by kernel_rfl) rfl (by kernel_rfl) (by kernel_rfl) Tryd.underlying3 }
open Go.RowKit Go.Lib in
theorem Tryd.stringslite_Index_shaped (s sub : ByteArray) (w : World) (h : w.ShapedOpen Tryd.prog) (hs : s.size < 4294967281) :
    Calls Tryd.prog 108 #[.string s, .string sub] w fun e w' => e = .returned (.int .i64 (Lib.index s.data.toList sub.data.toList)) ∧ w' = w := Any.stringslite_Index_shaped Tryd.laysM219 s sub w h hs
def Tryd.laysM143_ren : Go.Shelf.Ren := ⟨fun | 143 => 99 | 219 => 108 | 217 => 114 | 225 => 115 | 224 => 116 | 267 => 117 | 266 => 122 | 314 => 123 | n => n, fun | 9 => 9 | 3 => 3 | 4 => 4 | 5 => 5 | 46 => 96 | 146 => 134 | 51 => 133 | n => n, fun | 1 => 0 | n => n⟩
theorem Tryd.laysM143 : Go.Proofs.LaysM.n143 Tryd.prog Tryd.laysM143_ren := {
  mixed := by kernel_rfl
  f143 := Tryd.func99.trans (congrArg some (by kernel_rfl))
  f217 := Tryd.func114.trans (congrArg some (by kernel_rfl))
  f219 := Tryd.func108.trans (congrArg some (by kernel_rfl))
  f224 := Tryd.func116.trans (congrArg some (by kernel_rfl))
  f225 := Tryd.func115.trans (congrArg some (by kernel_rfl))
  f266 := Tryd.func122.trans (congrArg some (by kernel_rfl))
  f267 := Tryd.func117.trans (congrArg some (by kernel_rfl))
  f314 := Tryd.func123.trans (congrArg some (by kernel_rfl))
  t3 := Tryd.underlying3
  a3 := Tryd.isAgg3
  z3 := Tryd.sizeOf3
  v3 := Tryd.zeroValue3
  t4 := Tryd.underlying4
  a4 := Tryd.isAgg4
  z4 := Tryd.sizeOf4
  v4 := Tryd.zeroValue4
  t5 := Tryd.underlying5
  a5 := Tryd.isAgg5
  z5 := Tryd.sizeOf5
  v5 := Tryd.zeroValue5
  t9 := Tryd.underlying9
  a9 := Tryd.isAgg9
  z9 := Tryd.sizeOf9
  v9 := Tryd.zeroValue9
  t46 := Tryd.underlying96
  a46 := Tryd.isAgg96
  z46 := Tryd.sizeOf96
  v46 := Tryd.zeroValue96
  t51 := Tryd.underlying133
  a51 := Tryd.isAgg133
  z51 := Tryd.sizeOf133
  v51 := Tryd.zeroValue133
  t146 := Tryd.underlying134
  a146 := Tryd.isAgg134
  z146 := Tryd.sizeOf134
  v146 := Tryd.zeroValue134
  g1 := by kernel_rfl
  i3 := by kernel_rfl
  i4 := by kernel_rfl
  i5 := by kernel_rfl
  i9 := by kernel_rfl
  i46 := by kernel_rfl
  i51 := by kernel_rfl
  i146 := by kernel_rfl
  m1 := by kernel_rfl
  s1_3 := fun w h => Go.Proofs.cell_of_shapedOpen_int (zero := #[.int .i64 0]) (t := 3) h (of_decide_eq_true (by kernel_rfl)) (by kernel_rfl) rfl (by kernel_rfl) (by kernel_rfl) Tryd.underlying3 }
open Go.RowKit Go.Lib in
theorem Tryd.strings_Index_shaped (s sub : ByteArray) (w : World) (h : w.ShapedOpen Tryd.prog) (hs : s.size < 4294967281) :
    Calls Tryd.prog 99 #[.string s, .string sub] w fun e w' => e = .returned (.int .i64 (Lib.index s.data.toList sub.data.toList)) ∧ w' = w := Any.strings_Index_shaped Tryd.laysM143 s sub w h hs
def Tryd.laysM144_ren : Go.Shelf.Ren := ⟨fun | 144 => 88 | 143 => 99 | 219 => 108 | 217 => 114 | 225 => 115 | 224 => 116 | 267 => 117 | 266 => 122 | 314 => 123 | n => n, fun | 9 => 9 | 4 => 4 | 3 => 3 | 5 => 5 | 46 => 96 | 146 => 134 | 51 => 133 | n => n, fun | 1 => 0 | n => n⟩
theorem Tryd.laysM144 : Go.Proofs.LaysM.n144 Tryd.prog Tryd.laysM144_ren := {
  mixed := by kernel_rfl
  f143 := Tryd.func99.trans (congrArg some (by kernel_rfl))
  f144 := Tryd.func88.trans (congrArg some (by kernel_rfl))
  f217 := Tryd.func114.trans (congrArg some (by kernel_rfl))
  f219 := Tryd.func108.trans (congrArg some (by kernel_rfl))
  f224 := Tryd.func116.trans (congrArg some (by kernel_rfl))
  f225 := Tryd.func115.trans (congrArg some (by kernel_rfl))
  f266 := Tryd.func122.trans (congrArg some (by kernel_rfl))
  f267 := Tryd.func117.trans (congrArg some (by kernel_rfl))
  f314 := Tryd.func123.trans (congrArg some (by kernel_rfl))
  t3 := Tryd.underlying3
  a3 := Tryd.isAgg3
  z3 := Tryd.sizeOf3
  v3 := Tryd.zeroValue3
  t4 := Tryd.underlying4
  a4 := Tryd.isAgg4
  z4 := Tryd.sizeOf4
  v4 := Tryd.zeroValue4
  t5 := Tryd.underlying5
  a5 := Tryd.isAgg5
  z5 := Tryd.sizeOf5
  v5 := Tryd.zeroValue5
  t9 := Tryd.underlying9
  a9 := Tryd.isAgg9
  z9 := Tryd.sizeOf9
  v9 := Tryd.zeroValue9
  t46 := Tryd.underlying96
  a46 := Tryd.isAgg96
  z46 := Tryd.sizeOf96
  v46 := Tryd.zeroValue96
  t51 := Tryd.underlying133
  a51 := Tryd.isAgg133
  z51 := Tryd.sizeOf133
  v51 := Tryd.zeroValue133
  t146 := Tryd.underlying134
  a146 := Tryd.isAgg134
  z146 := Tryd.sizeOf134
  v146 := Tryd.zeroValue134
  g1 := by kernel_rfl
  i3 := by kernel_rfl
  i4 := by kernel_rfl
  i5 := by kernel_rfl
  i9 := by kernel_rfl
  i46 := by kernel_rfl
  i51 := by kernel_rfl
  i146 := by kernel_rfl
  m1 := by kernel_rfl
  s1_3 := fun w h => Go.Proofs.cell_of_shapedOpen_int (zero := #[.int .i64 0]) (t := 3) h (of_decide_eq_true (by kernel_rfl)) (by kernel_rfl) rfl (by kernel_rfl) (by kernel_rfl) Tryd.underlying3 }
open Go.RowKit Go.Lib in
theorem Tryd.strings_Contains_shaped (s sub : ByteArray) (w : World) (h : w.ShapedOpen Tryd.prog) (hs : s.size < 4294967281) :
    Calls Tryd.prog 88 #[.string s, .string sub] w fun e w' => e = .returned (.bool (Lib.contains s.data.toList sub.data.toList)) ∧ w' = w := Any.strings_Contains_shaped Tryd.laysM144 s sub w h hs
def Tryd.lays315_ren : Go.Shelf.Ren := ⟨fun | 315 => 93 | n => n, fun | 9 => 9 | 40 => 89 | 4 => 4 | 3 => 3 | 0 => 0 | 21 => 21 | n => n, fun | n => n⟩
theorem Tryd.lays315 : Go.Proofs.Lays.n315 Tryd.prog Tryd.lays315_ren := {
  mixed := by kernel_rfl
  f315 := Tryd.func93.trans (congrArg some (by kernel_rfl))
  t0 := Tryd.underlying0
  a0 := Tryd.isAgg0
  z0 := Tryd.sizeOf0
  v0 := Tryd.zeroValue0
  t3 := Tryd.underlying3
  a3 := Tryd.isAgg3
  z3 := Tryd.sizeOf3
  v3 := Tryd.zeroValue3
  t4 := Tryd.underlying4
  a4 := Tryd.isAgg4
  z4 := Tryd.sizeOf4
  v4 := Tryd.zeroValue4
  t9 := Tryd.underlying9
  a9 := Tryd.isAgg9
  z9 := Tryd.sizeOf9
  v9 := Tryd.zeroValue9
  t21 := Tryd.underlying21
  a21 := Tryd.isAgg21
  z21 := Tryd.sizeOf21
  v21 := Tryd.zeroValue21
  t40 := Tryd.underlying89
  a40 := Tryd.isAgg89
  z40 := Tryd.sizeOf89
  v40 := Tryd.zeroValue89 }
open Go.RowKit Go.Lib in
theorem Tryd.strings_indexFunc (g : Nat) (lb : Array Value) (eg : ∀ args w, (callFunc g args).run Tryd.prog w = .ok (.enter g args) w) (p : Nat → Bool) (truth : Bool) (s : ByteArray) (w : World) (hp : PredAt Tryd.prog g lb encR p w) :
    Calls Tryd.prog 93 #[.string s, .func (.func g) #[] lb, .bool truth] w fun e w' => e = .returned (.int .i64 (Lib.idxFunc p truth s)) ∧ Below w.heap.size w w' := Any.strings_indexFunc Tryd.lays315 g lb eg p truth s w hp
def Tryd.laysGw15_ren : Go.Shelf.Ren := ⟨fun | 15 => 73 | 20 => 93 | n => n, fun | 9 => 9 | 23 => 89 | 3 => 3 | 4 => 4 | 0 => 0 | 21 => 21 | n => n, fun | n => n⟩
theorem Tryd.laysGw15 : Go.Proofs.LaysGw.n15 Tryd.prog Tryd.laysGw15_ren := {
  mixed := by kernel_rfl
  f15 := Tryd.func73.trans (congrArg some (by kernel_rfl))
  f20 := Tryd.func93.trans (congrArg some (by kernel_rfl))
  t0 := Tryd.underlying0
  a0 := Tryd.isAgg0
  z0 := Tryd.sizeOf0
  v0 := Tryd.zeroValue0
  i0 := by kernel_rfl
  t3 := Tryd.underlying3
  a3 := Tryd.isAgg3
  z3 := Tryd.sizeOf3
  v3 := Tryd.zeroValue3
  i3 := by kernel_rfl
  t4 := Tryd.underlying4
  a4 := Tryd.isAgg4
  z4 := Tryd.sizeOf4
  v4 := Tryd.zeroValue4
  i4 := by kernel_rfl
  t9 := Tryd.underlying9
  a9 := Tryd.isAgg9
  z9 := Tryd.sizeOf9
  v9 := Tryd.zeroValue9
  i9 := by kernel_rfl
  t21 := Tryd.underlying21
  a21 := Tryd.isAgg21
  z21 := Tryd.sizeOf21
  v21 := Tryd.zeroValue21
  i21 := by kernel_rfl
  t23 := Tryd.underlying89
  a23 := Tryd.isAgg89
  z23 := Tryd.sizeOf89
  v23 := Tryd.zeroValue89
  i23 := by kernel_rfl }
open Go.RowKit Go.Lib in
theorem Tryd.strings_IndexFunc (g : Nat) (lb : Array Value) (eg : ∀ args w, (callFunc g args).run Tryd.prog w = .ok (.enter g args) w) (p : Nat → Bool) (s : ByteArray) (w : World) (hp : PredAt Tryd.prog g lb encR p w) :
    Calls Tryd.prog 73 #[.string s, .func (.func g) #[] lb] w fun e w' => e = .returned (.int .i64 (Lib.idxFunc p true s)) ∧ Below w.heap.size w w' := Any.strings_IndexFunc Tryd.laysGw15 g lb eg p s w hp
def Tryd.lays152_ren : Go.Shelf.Ren := ⟨fun | 152 => 119 | 137 => 124 | 119 => 125 | 224 => 116 | 225 => 115 | 217 => 114 | 266 => 122 | n => n, fun | 9 => 9 | 21 => 21 | 3 => 3 | 4 => 4 | 5 => 5 | 0 => 0 | 46 => 96 | n => n, fun | n => n⟩
theorem Tryd.lays152 : Go.Proofs.Lays.n152 Tryd.prog Tryd.lays152_ren := {
  mixed := by kernel_rfl
  f119 := Tryd.func125.trans (congrArg some (by kernel_rfl))
  f137 := Tryd.func124.trans (congrArg some (by kernel_rfl))
  f152 := Tryd.func119.trans (congrArg some (by kernel_rfl))
  f217 := Tryd.func114.trans (congrArg some (by kernel_rfl))
  f224 := Tryd.func116.trans (congrArg some (by kernel_rfl))
  f225 := Tryd.func115.trans (congrArg some (by kernel_rfl))
  f266 := Tryd.func122.trans (congrArg some (by kernel_rfl))
  t0 := Tryd.underlying0
  a0 := Tryd.isAgg0
  z0 := Tryd.sizeOf0
  v0 := Tryd.zeroValue0
  t3 := Tryd.underlying3
  a3 := Tryd.isAgg3
  z3 := Tryd.sizeOf3
  v3 := Tryd.zeroValue3
  t4 := Tryd.underlying4
  a4 := Tryd.isAgg4
  z4 := Tryd.sizeOf4
  v4 := Tryd.zeroValue4
  t5 := Tryd.underlying5
  a5 := Tryd.isAgg5
  z5 := Tryd.sizeOf5
  v5 := Tryd.zeroValue5
  t9 := Tryd.underlying9
  a9 := Tryd.isAgg9
  z9 := Tryd.sizeOf9
  v9 := Tryd.zeroValue9
  t21 := Tryd.underlying21
  a21 := Tryd.isAgg21
  z21 := Tryd.sizeOf21
  v21 := Tryd.zeroValue21
  t46 := Tryd.underlying96
  a46 := Tryd.isAgg96
  z46 := Tryd.sizeOf96
  v46 := Tryd.zeroValue96 }
open Go.RowKit Go.Lib in
theorem Tryd.strings_IndexRune_ascii (s : ByteArray) (r : Int) (w : World) (h0 : 0 ≤ r) (h1 : r < 128) :
    Calls Tryd.prog 119 #[.string s, .int .i32 r] w fun e w' => e = .returned (.int .i64 (Lib.indexByte s.data.toList r.toNat.toUInt8)) ∧ w' = w := Any.strings_IndexRune_ascii Tryd.lays152 s r w h0 h1
def Tryd.lays151_ren : Go.Shelf.Ren := ⟨fun | 151 => 111 | 152 => 119 | 137 => 124 | 119 => 125 | 224 => 116 | 225 => 115 | 217 => 114 | 266 => 122 | n => n, fun | 9 => 9 | 21 => 21 | 4 => 4 | 3 => 3 | 5 => 5 | 0 => 0 | 46 => 96 | n => n, fun | n => n⟩
theorem Tryd.lays151 : Go.Proofs.Lays.n151 Tryd.prog Tryd.lays151_ren := {
  mixed := by kernel_rfl
  f119 := Tryd.func125.trans (congrArg some (by kernel_rfl))
  f137 := Tryd.func124.trans (congrArg some (by kernel_rfl))
  f151 := Tryd.func111.trans (congrArg some (by kernel_rfl))
  f152 := Tryd.func119.trans (congrArg some (by kernel_rfl))
  f217 := Tryd.func114.trans (congrArg some (by kernel_rfl))
  f224 := Tryd.func116.trans (congrArg some (by kernel_rfl))
  f225 := Tryd.func115.trans (congrArg some (by kernel_rfl))
  f266 := Tryd.func122.trans (congrArg some (by kernel_rfl))
  t0 := Tryd.underlying0
  a0 := Tryd.isAgg0
  z0 := Tryd.sizeOf0
  v0 := Tryd.zeroValue0
  t3 := Tryd.underlying3
  a3 := Tryd.isAgg3
  z3 := Tryd.sizeOf3
  v3 := Tryd.zeroValue3
  t4 := Tryd.underlying4
  a4 := Tryd.isAgg4
  z4 := Tryd.sizeOf4
  v4 := Tryd.zeroValue4
  t5 := Tryd.underlying5
  a5 := Tryd.isAgg5
  z5 := Tryd.sizeOf5
  v5 := Tryd.zeroValue5
  t9 := Tryd.underlying9
  a9 := Tryd.isAgg9
  z9 := Tryd.sizeOf9
  v9 := Tryd.zeroValue9
  t21 := Tryd.underlying21
  a21 := Tryd.isAgg21
  z21 := Tryd.sizeOf21
  v21 := Tryd.zeroValue21
  t46 := Tryd.underlying96
  a46 := Tryd.isAgg96
  z46 := Tryd.sizeOf96
  v46 := Tryd.zeroValue96 }
open Go.RowKit Go.Lib in
theorem Tryd.strings_ContainsRune_ascii (s : ByteArray) (r : Int) (w : World) (h0 : 0 ≤ r) (h1 : r < 128) :
    Calls Tryd.prog 111 #[.string s, .int .i32 r] w fun e w' => e = .returned (.bool (decide (0 ≤ Lib.indexByte s.data.toList r.toNat.toUInt8))) ∧ w' = w := Any.strings_ContainsRune_ascii Tryd.lays151 s r w h0 h1
def Tryd.lays227_ren : Go.Shelf.Ren := ⟨fun | 227 => 102 | n => n, fun | 9 => 9 | 116 => 120 | 4 => 4 | 0 => 0 | 3 => 3 | 5 => 5 | n => n, fun | n => n⟩
theorem Tryd.lays227 : Go.Proofs.Lays.n227 Tryd.prog Tryd.lays227_ren := {
  mixed := by kernel_rfl
  f227 := Tryd.func102.trans (congrArg some (by kernel_rfl))
  t0 := Tryd.underlying0
  a0 := Tryd.isAgg0
  z0 := Tryd.sizeOf0
  v0 := Tryd.zeroValue0
  t3 := Tryd.underlying3
  a3 := Tryd.isAgg3
  z3 := Tryd.sizeOf3
  v3 := Tryd.zeroValue3
  t4 := Tryd.underlying4
  a4 := Tryd.isAgg4
  z4 := Tryd.sizeOf4
  v4 := Tryd.zeroValue4
  t5 := Tryd.underlying5
  a5 := Tryd.isAgg5
  z5 := Tryd.sizeOf5
  v5 := Tryd.zeroValue5
  t9 := Tryd.underlying9
  a9 := Tryd.isAgg9
  z9 := Tryd.sizeOf9
  v9 := Tryd.zeroValue9
  t116 := Tryd.underlying120
  a116 := Tryd.isAgg120
  z116 := Tryd.sizeOf120 }
open Go.RowKit Go.Lib in
theorem Tryd.strings_makeASCIISet (hv116 : ∀ w, (zeroValue 120).run Tryd.prog w = .ok (.agg (Array.replicate 256 (.bool false))) w) (chars : ByteArray) (w : World) (hs : chars.size < 4294967281) (hascii : ∀ (j : Nat) b, chars.data.toList[j]? = some b → b.toNat < 128) :
    Calls Tryd.prog 102 #[.string chars] w fun e w' => e = .returned (.tuple #[.agg (Lib.setCells chars.data.toList), .bool true]) ∧ w' = w.alloc (.cells (Lib.setCells chars.data.toList) 120) := Any.strings_makeASCIISet Tryd.lays227 hv116 (by kernel_rfl) chars w hs hascii
def Tryd.lays228_ren : Go.Shelf.Ren := ⟨fun | 228 => 109 | n => n, fun | 124 => 124 | 5 => 5 | 4 => 4 | 0 => 0 | 116 => 120 | n => n, fun | n => n⟩
theorem Tryd.lays228 : Go.Proofs.Lays.n228 Tryd.prog Tryd.lays228_ren := {
  mixed := by kernel_rfl
  f228 := Tryd.func109.trans (congrArg some (by kernel_rfl))
  t0 := Tryd.underlying0
  a0 := Tryd.isAgg0
  z0 := Tryd.sizeOf0
  v0 := Tryd.zeroValue0
  t4 := Tryd.underlying4
  a4 := Tryd.isAgg4
  z4 := Tryd.sizeOf4
  v4 := Tryd.zeroValue4
  t5 := Tryd.underlying5
  a5 := Tryd.isAgg5
  z5 := Tryd.sizeOf5
  v5 := Tryd.zeroValue5
  t116 := Tryd.underlying120
  a116 := Tryd.isAgg120
  z116 := Tryd.sizeOf120
  t124 := Tryd.underlying124
  a124 := Tryd.isAgg124
  z124 := Tryd.sizeOf124
  v124 := Tryd.zeroValue124 }
open Go.RowKit Go.Lib in
theorem Tryd.asciiSet_contains (b : Nat) (x : UInt8) (v : Bool) (w : World) (hc : w.cell? ⟨b, x.toNat, none⟩ = some (.bool v)) :
    Calls Tryd.prog 109 #[.pointer (some ⟨b, 0, none⟩), .int .u8 x.toNat] w fun e w' => e = .returned (.bool v) ∧ w' = w := Any.asciiSet_contains Tryd.lays228 b x v w hc
def Tryd.lays260_ren : Go.Shelf.Ren := ⟨fun | 260 => 118 | n => n, fun | 9 => 9 | 21 => 21 | 3 => 3 | 4 => 4 | 5 => 5 | 119 => 136 | 0 => 0 | 46 => 96 | 139 => 139 | 138 => 138 | n => n, fun | 3 => 1 | 4 => 2 | n => n⟩
theorem Tryd.lays260 : Go.Proofs.Lays.n260 Tryd.prog Tryd.lays260_ren := {
  mixed := by kernel_rfl
  f260 := Tryd.func118.trans (congrArg some (by kernel_rfl))
  t0 := Tryd.underlying0
  a0 := Tryd.isAgg0
  z0 := Tryd.sizeOf0
  v0 := Tryd.zeroValue0
  t3 := Tryd.underlying3
  a3 := Tryd.isAgg3
  z3 := Tryd.sizeOf3
  v3 := Tryd.zeroValue3
  t4 := Tryd.underlying4
  a4 := Tryd.isAgg4
  z4 := Tryd.sizeOf4
  v4 := Tryd.zeroValue4
  t5 := Tryd.underlying5
  a5 := Tryd.isAgg5
  z5 := Tryd.sizeOf5
  v5 := Tryd.zeroValue5
  t9 := Tryd.underlying9
  a9 := Tryd.isAgg9
  z9 := Tryd.sizeOf9
  v9 := Tryd.zeroValue9
  t21 := Tryd.underlying21
  a21 := Tryd.isAgg21
  z21 := Tryd.sizeOf21
  v21 := Tryd.zeroValue21
  t46 := Tryd.underlying96
  a46 := Tryd.isAgg96
  z46 := Tryd.sizeOf96
  v46 := Tryd.zeroValue96
  t119 := Tryd.underlying136
  a119 := Tryd.isAgg136
  z119 := Tryd.sizeOf136
  t138 := Tryd.underlying138
  a138 := Tryd.isAgg138
  z138 := Tryd.sizeOf138
  v138 := Tryd.zeroValue138
  t139 := Tryd.underlying139
  a139 := Tryd.isAgg139
  z139 := Tryd.sizeOf139
  v139 := Tryd.zeroValue139
  g3 := by kernel_rfl
  g4 := by kernel_rfl }
open Go.RowKit Go.Lib in
theorem Tryd.utf8_decodeRuneInStringSlow (s : ByteArray) (w : World) (hT : Lib.Utf8Tabs 1 2 w) :
    Calls Tryd.prog 118 #[.string s] w fun e w' => e = .returned (.tuple #[.int .i32 (Lib.decodeGo s).1, .int .i64 (Lib.decodeGo s).2]) ∧ Below w.heap.size w w' := Any.utf8_decodeRuneInStringSlow Tryd.lays260 s w hT
end Go.Proofs
end
section
set_option linter.unusedVariables false
namespace Go.Proofs.YtpgjhjlhipikgaaDoor.Bk
open Go.RowKit Go.Shelf
theorem sizeBuilder : (Tryd.prog.info? 64).map (·.size) = some 2 := by kernel_rfl
theorem liesBuilder : liesAt Tryd.prog Tryd.prog.depth 64 (2 / Tryd.prog.cellsOf 64) 0 64 1 = true := by kernel_rfl
theorem infoByte : (Tryd.prog.info? 5).map (fun i => (i.zero, i.size, i.bytes)) = some (some (.int .u8 0), 1, 1) := by kernel_rfl
set_option maxHeartbeats 1000000 in
set_option maxRecDepth 100000 in
theorem copyCheck_used (b : Nat) (w : World) (h0 : w.cell? ⟨b, 0, none⟩ = some (.pointer (some ⟨b, 0, none⟩))) :
    Calls Tryd.prog 76 #[.pointer (some ⟨b, 0, none⟩)] w fun e w' => e = .returned (.tuple #[]) ∧ w' = w := by
  obtain ⟨j, hj, _⟩ := Option.map_eq_some_iff.1 sizeBuilder
  go_enter Tryd.func76, Tryd.ntmps76
  go_wp2
  rw [Lib.run_neq_ptr_same w _ Tryd.underlying61 hj]
  go_wp2
  go_end0
  exact ⟨rfl, rfl⟩
set_option maxHeartbeats 1000000 in
set_option maxRecDepth 100000 in
theorem copyCheck_fresh (b : Nat) (w : World) (h0 : w.cell? ⟨b, 0, none⟩ = some (.pointer none)) (hsh : w.shape? b = some (64, 2)) (hfz : w.frozen? ⟨b, 0, none⟩ = false) :
    Calls Tryd.prog 76 #[.pointer (some ⟨b, 0, none⟩)] w fun e w' => e = .returned (.tuple #[]) ∧ w' = w.setCell ⟨b, 0, none⟩ (.pointer (some ⟨b, 0, none⟩)) := by
  obtain ⟨j, hj, hjs⟩ := Option.map_eq_some_iff.1 sizeBuilder
  go_enter Tryd.func76, Tryd.ntmps76
  go_wp2
  rw [Lib.run_to_unsafe w ⟨b, 0, none⟩ Tryd.underlying61 Tryd.underlying111 hj (by rw [hjs]; decide) hsh (Nat.zero_lt_succ 1)]
  simp only [Result.andThen]
  rw [Oper.upon_value]
  go_wp2
  rw [run_callFunc_extern Tryd.func95 (by kernel_rfl) (by kernel_rfl) (by kernel_rfl) (e := Extern.AbiNoEscape.same) (by kernel_rfl)]
  rw [Lib.run_noEscape]
  simp only [Result.andThen]
  rw [Oper.upon_value]
  go_wp2
  rw [Lib.run_from_unsafe w ⟨b, 0, none⟩ Tryd.underlying111 Tryd.underlying61 hj hsh liesBuilder]
  simp only [Result.andThen]
  rw [Oper.upon_value]
  go_wp2
  go_end0
  exact ⟨rfl, rfl⟩
structure KeptT (T e : TypeId) (w w' : World) : Prop where mk ::
  size : w.heap.size ≤ w'.heap.size
  kept : ∀ (k : Nat) (cs : Array Value) (t : TypeId) (fr : Nat × Nat), w.heap[k]? = some (Obj.cells cs t fr) → t ≠ T → t ≠ e → w'.heap[k]? = some (Obj.cells cs t fr)
  maps : ∀ (k : Nat) (es : Array MapEntry) (c : Nat), w.heap[k]? = some (Obj.map es c) → w'.heap[k]? = some (Obj.map es c)
theorem KeptT.refl (T e : TypeId) (w : World) : KeptT T e w w := ⟨Nat.le_refl _, fun _ _ _ _ h _ _ => h, fun _ _ _ h => h⟩
theorem KeptT.trans {T e : TypeId} {a b c : World} (h : KeptT T e a b) (h' : KeptT T e b c) : KeptT T e a c :=
  ⟨Nat.le_trans h.size h'.size, fun k cs t fr hk h1 h2 => h'.kept k cs t fr (h.kept k cs t fr hk h1 h2) h1 h2, fun k es cl hk => h'.maps k es cl (h.maps k es cl hk)⟩
theorem KeptT.of_below {T e : TypeId} {a b : World} (h : Below a.heap.size a b) : KeptT T e a b :=
  ⟨h.size, fun k cs t fr hk _ _ => by rw [h.block k (Array.getElem?_eq_some_iff.1 hk).1]; exact hk, fun k es c hk => by rw [h.block k (Array.getElem?_eq_some_iff.1 hk).1]; exact hk⟩
theorem KeptT.setCell {T e : TypeId} {w : World} {b : Nat} {cs : Array Value} {t : TypeId} {fr : Nat × Nat} (hb : w.heap[b]? = some (.cells cs t fr)) (ht : t = T ∨ t = e) (j : Nat) (v : Value) : KeptT T e w (w.setCell ⟨b, j, none⟩ v) :=
  ⟨by simp [World.setCell], fun k cs' t' fr' hk h1 h2 => by
    by_cases hkb : k = b
    · subst hkb
      rw [hb] at hk
      injection hk with hk
      injection hk with _ ht' _
      rcases ht with h | h
      · exact absurd (ht'.symm.trans h) h1
      · exact absurd (ht'.symm.trans h) h2
    · rw [Below.heap_setCell _ _ _ _ (fun he => hkb (by simpa using he))]; exact hk,
   fun k es c hk => by
    have hkb : k ≠ b := by
      rintro rfl
      rw [hb] at hk
      cases hk
    rw [Below.heap_setCell _ _ _ _ (fun he => hkb (by simpa using he))]; exact hk⟩
theorem KeptT.grown {T e : TypeId} {w w' : World} {B n size : Nat} {v : Value} {xs : List Value} (hown : w.ownsRow B e size v n xs) (hg : w.grownBy w' v.ownBlock) : KeptT T e w w' := by
  have hne : ∀ k, (∀ cs t fr, w.heap[k]? = some (Obj.cells cs t fr) → t ≠ e) → some k ≠ v.ownBlock := fun k hc he => by
    rcases hown.2 with ⟨rfl, _⟩ | ⟨g, cap, cur, rfl, _, hh, _⟩
    · simp [Value.ownBlock] at he
    · have : k = g := by simpa [Value.ownBlock] using he
      subst this
      exact hc _ _ _ hh rfl
  refine ⟨hg.size, fun k cs t fr hk _ h2 => ?_, fun k es c hk => ?_⟩
  · rw [hg.block k (Array.getElem?_eq_some_iff.1 hk).1 (hne k (fun cs' t' fr' h => by rw [hk] at h; cases h; exact h2))]
    exact hk
  · rw [hg.block k (Array.getElem?_eq_some_iff.1 hk).1 (hne k (fun cs' t' fr' h => by rw [hk] at h; cases h))]
    exact hk
theorem builder_below {T e : TypeId} {B b : Nat} {bs : List Value} {w w' : World} (h : Lib.IsBuilder T e B b bs w) (hb : Below w.heap.size w w') : Lib.IsBuilder T e B b bs w' := by
  have hg : w.grownBy w' none := ⟨hb.os, hb.tape, hb.output, hb.size, fun i hi _ => hb.block i hi⟩
  have one : ∀ p, Lib.BuilderAt T e B b p bs w → Lib.BuilderAt T e B b p bs w' := fun p hp => by
    have hlt := hp.lt
    obtain ⟨hB, v, hv, hown, hne⟩ := hp
    refine ⟨hB, v, (hb.block b hlt).trans hv, hown.kept hg ?_, hne⟩
    cases ho : v.ownBlock with
    | none => exact .inl rfl
    | some k => exact .inr (by simp)
  rcases h with h | h
  · exact .inl (one _ h)
  · exact .inr (one _ h)
theorem copyCheckK (B b : Nat) (bs : List Value) (w : World) (h : Lib.IsBuilder 64 5 B b bs w) :
    Calls Tryd.prog 76 #[.pointer (some ⟨b, 0, none⟩)] w fun e w' => e = .returned (.tuple #[]) ∧ Lib.BuilderAt 64 5 B b (.pointer (some ⟨b, 0, none⟩)) bs w' ∧ Below B w w' ∧ KeptT 64 5 w w' := by
  rcases h with h | h
  · refine (copyCheck_fresh b w h.cell0 h.shape h.frozen0).mono ?_
    rintro e w' ⟨rfl, rfl⟩
    obtain ⟨hB, v, hv, hr⟩ := id h
    exact ⟨rfl, h.used _, (Below.refl B w).setCell (p := ⟨b, 0, none⟩) hB _, KeptT.setCell hv (.inl rfl) 0 _⟩
  · refine (copyCheck_used b w h.cell0).mono ?_
    rintro e w' ⟨rfl, rfl⟩
    exact ⟨rfl, h, Below.refl B _, KeptT.refl _ _ _⟩
set_option maxHeartbeats 2000000 in
set_option maxRecDepth 100000 in
theorem writeString (B b : Nat) (bs : List Value) (s : ByteArray) (w : World) (h : Lib.IsBuilder 64 5 B b bs w) (hlen : bs.length + s.size ≤ 140737488355328) (hBw : B ≤ w.heap.size) :
    Calls Tryd.prog 52 #[.pointer (some ⟨b, 0, none⟩), .string s] w fun e w' => e = .returned (.tuple #[.int .i64 s.size, .nilIface]) ∧
      Lib.BuilderAt 64 5 B b (.pointer (some ⟨b, 0, none⟩)) (bs ++ Lib.strCells s) w' ∧ Below B w w' ∧ KeptT 64 5 w w' := by
  obtain ⟨i0, hi, hz0, hz1, hz2⟩ := info_parts infoByte
  go_enter Tryd.func52, Tryd.ntmps52
  go_wp2_with (go_at_call 76; refine (copyCheckK B b bs _ h).mono ?_)
  rintro e w1 ⟨rfl, h1, hb1, hk1⟩
  obtain ⟨hB, v, hbk, hown, hne⟩ := h1
  have c0 : w1.cell? ⟨b, 0, none⟩ = some (.pointer (some ⟨b, 0, none⟩)) := by rw [Lib.cell_of_heap hbk]; rfl
  have c1 : w1.cell? ⟨b, 1, none⟩ = some v := by rw [Lib.cell_of_heap hbk]; rfl
  go_wp2_with (at_builtin; refine Lib.wpList_append_own_string _ rfl _ _ 62 9 rfl B 5 i0 Tryd.underlying62 Tryd.underlying9 hi hz0 hz1 hz2 _ _ _ rfl hown s rfl ?c3 ?c4 ?c5 ?_)
  case c3 => unfold maxLen; omega
  case c4 => omega
  case c5 => have := hb1.size; omega
  intro v' w2 hown' hgrow _
  have hlt : b < w1.heap.size := (Array.getElem?_eq_some_iff.1 hbk).1
  have hb2 : w2.heap[b]? = some (.cells #[.pointer (some ⟨b, 0, none⟩), v] 64 (0, 0)) := by
    rw [hgrow.block b hlt (fun e => hne e.symm)]
    exact hbk
  have d0 : w2.cell? ⟨b, 0, none⟩ = some (.pointer (some ⟨b, 0, none⟩)) := by rw [Lib.cell_of_heap hb2]; rfl
  have d1 : w2.cell? ⟨b, 1, none⟩ = some v := by rw [Lib.cell_of_heap hb2]; rfl
  have f1 : w2.frozen? ⟨b, 1, none⟩ = false := Lib.frozen_of_heap hb2 1
  obtain ⟨ao, n', cap, rfl⟩ : ∃ ao n' cap, v' = .slice ao n' cap := by
    rcases hown'.2 with ⟨hv, _⟩ | ⟨g, cap, cur, hv, _⟩
    · exact ⟨_, _, _, hv⟩
    · exact ⟨_, _, _, hv⟩
  have hK2 := KeptT.grown (T := 64) hown hgrow
  go_wp2
  go_ret2
  refine ⟨rfl, ?_, ?_, ?_⟩
  · exact Lib.BuilderAt.put (T := 64) (e := 5) hB hb2 (bs' := bs ++ Lib.strCells s) (by simpa [Lib.strCells_length] using hown') (by decide)
  · exact (hb1.grown hgrow (by have := hb1.size; omega) (fun k hk => (hown.lt k hk).1)).setCell (p := ⟨b, 1, none⟩) hB _
  · exact (hk1.trans hK2).trans (KeptT.setCell hb2 (.inl rfl) 1 _)
end Go.Proofs.YtpgjhjlhipikgaaDoor.Bk
end
section
namespace Go.Proofs.YtpgjhjlhipikgaaDoor.Bk
open Go.Lib
theorem decode_ascii (s : ByteArray) (i : Nat) (h : (s.get! i).toNat < 128) : Utf8.decode s i = ((s.get! i).toNat, 1) := by
  unfold Utf8.decode
  simp only [Nat.add_zero]
  rw [if_pos h]
theorem decode_high (s : ByteArray) (i : Nat) (h : 128 ≤ (s.get! i).toNat) : 128 ≤ (Utf8.decode s i).1 := by
  unfold Utf8.decode
  simp only [Nat.add_zero]
  rw [if_neg (by omega)]
  repeat' split
  all_goals first | (simp only [Utf8.runeError]; omega) | (simp_all; done) | (simp_all; omega)
theorem idx_none (p : Nat → Bool) (hp : ∀ r, 128 ≤ r → p r = true) (s : ByteArray) : ∀ (f pos : Nat), s.size ≤ pos + f →
    ((idxFuncFrom p true s f pos < 0) ↔ ∀ j, pos ≤ j → j < s.size → p (s.get! j).toNat = false)
  | 0, pos, h => by
    simp only [idxFuncFrom]
    exact ⟨fun _ j h1 h2 => by omega, fun _ => by omega⟩
  | f + 1, pos, h => by
    unfold idxFuncFrom
    by_cases hps : pos < s.size
    · rw [if_pos hps]
      by_cases hc : (s.get! pos).toNat < 128
      · rw [decode_ascii s pos hc]
        dsimp only
        by_cases hpp : p (s.get! pos).toNat = true
        · rw [if_pos hpp]
          refine ⟨fun h1 => by omega, fun h1 => ?_⟩
          have := h1 pos (Nat.le_refl _) hps
          rw [hpp] at this
          cases this
        · rw [if_neg hpp, idx_none p hp s f (pos + 1) (by omega)]
          refine ⟨fun h1 j h2 h3 => ?_, fun h1 j h2 h3 => h1 j (by omega) h3⟩
          by_cases e : j = pos
          · subst e; simpa using hpp
          · exact h1 j (by omega) h3
      · have hh := decode_high s pos (by omega)
        rw [if_pos (hp _ hh)]
        refine ⟨fun h1 => by omega, fun h1 => ?_⟩
        have := h1 pos (Nat.le_refl _) hps
        rw [hp _ (by omega)] at this
        cases this
    · rw [if_neg hps]
      exact ⟨fun _ j h1 h2 => by omega, fun _ => by omega⟩
theorem get_list (s : ByteArray) (j : Nat) (h : j < s.size) : s.get! j = s.data.toList[j]'(by simpa using h) := by
  have : s.get! j = s.data[j]! := rfl
  rw [this, getElem!_pos s.data j h]
  simp
theorem idx_all (p : Nat → Bool) (hp : ∀ r, 128 ≤ r → p r = true) (s : ByteArray) :
    decide (idxFunc p true s < 0) = s.data.toList.all (fun c => !p c.toNat) := by
  have h := idx_none p hp s s.size 0 (by omega)
  unfold idxFunc
  rw [Bool.eq_iff_iff]
  simp only [decide_eq_true_eq, List.all_eq_true, Bool.not_eq_true']
  rw [h]
  constructor
  · intro h1 x hx
    obtain ⟨j, hj, rfl⟩ := List.getElem_of_mem hx
    have hj' : j < s.size := by simpa using hj
    rw [← get_list s j hj']
    exact h1 j (Nat.zero_le _) hj'
  · intro h1 j _ h3
    rw [get_list s j h3]
    exact h1 _ (List.getElem_mem _)
end Go.Proofs.YtpgjhjlhipikgaaDoor.Bk
end
section
namespace Go.Proofs.YtpgjhjlhipikgaaDoor.PK
open Go.RowKit Go.Proofs.YtpgjhjlhipikgaaDoorW.PrintWords Go.Proofs.YtpgjhjlhipikgaaDoorW.PrintLast Go.Proofs.YtpgjhjlhipikgaaDoorW.PrintMore
attribute [local go_sem] max2_int min2_int max_two min_two max_three min_three max_four min_four   -- for this text's walks alone
set_option linter.unusedVariables false
set_option linter.unusedSimpArgs false
def errW : Option Int → Value
  | none => .nilIface
  | some c => .iface 0 (.int .i64 c)
theorem errW_none : errW none = .nilIface := rfl
theorem errW_some (c : Int) : errW (some c) = .iface 0 (.int .i64 c) := rfl
theorem info5 : (Tryd.prog.info? 5).map (fun i => (i.zero, i.size, i.bytes)) = some (some (.int .u8 0), 1, 1) := by kernel_rfl
theorem info9 : (Tryd.prog.info? 9).map (fun i => (i.zero, i.size, i.bytes)) = some (some (.string ⟨#[]⟩), 1, 16) := by kernel_rfl
theorem info26 : (Tryd.prog.info? 26).map (fun i => (i.zero, i.size, i.bytes)) = some (some (.agg #[(.int .i64 0), (.int .i64 0), (.string ⟨#[]⟩), (.int .i64 0), (.int .i64 0), (.int .i64 0), (.slice none 0 0), (.int .i64 0), (.int .i64 0)]), 9, 96) := by kernel_rfl
structure S24 where
  f0 : Int
  f1 : (List Int)
  f2 : Int
  f3 : Int
def z24 : S24 := ⟨(0 : Int), ([] : List Int), (0 : Int), (0 : Int)⟩
def k24 : Kd S24 := Kd.iso (Kd.pair (Kd.int .i64) (Kd.pair (Kd.slice 3 (Kd.int .i64)) (Kd.pair (Kd.int .i64) (Kd.int .i64)))) (fun x : S24 => (x.f0, x.f1, x.f2, x.f3))
theorem k24_heap : Kd.Heap k24 := Kd.heap_iso _ (Kd.heap_pair (Kd.heap_int .i64) (Kd.heap_pair (Kd.heap_slice 3 (Kd.heap_int .i64)) (Kd.heap_pair (Kd.heap_int .i64) (Kd.heap_int .i64))))
theorem k24_open {w : World} {x : S24} {cs : List Value} (h : k24.K w x cs) : ∃ A1 c1, cs = [.int .i64 x.f0, .slice A1 x.f1.length c1, .int .i64 x.f2, .int .i64 x.f3] ∧ x.f1.length ≤ c1 ∧ (Kd.int .i64).C w A1 x.f1.length x.f1 := by
  obtain ⟨_, _, rfl, rfl, ⟨_, _, rfl, ⟨A1, c1, rfl, l1, g1⟩, ⟨_, _, rfl, rfl, rfl⟩⟩⟩ := h
  exact ⟨A1, c1, rfl, l1, g1⟩
theorem k24_mk (w : World) (x : S24) {A1 : Option Addr} {c1 : Nat} (l1 : x.f1.length ≤ c1) (g1 : (Kd.int .i64).C w A1 x.f1.length x.f1) : k24.K w x [.int .i64 x.f0, .slice A1 x.f1.length c1, .int .i64 x.f2, .int .i64 x.f3] := ⟨[.int .i64 x.f0], [.slice A1 x.f1.length c1, .int .i64 x.f2, .int .i64 x.f3], rfl, rfl, ⟨[.slice A1 x.f1.length c1], [.int .i64 x.f2, .int .i64 x.f3], rfl, ⟨A1, c1, rfl, l1, g1⟩, ⟨[.int .i64 x.f2], [.int .i64 x.f3], rfl, rfl, rfl⟩⟩⟩
theorem k24_mkM (w : World) (base : Nat) (ok : Nat → Prop) (x : S24) {v1 : Value} (g1 : (Kd.int .i64).R 3 w base ok v1 x.f1) : k24.M w base ok x [.int .i64 x.f0, v1, .int .i64 x.f2, .int .i64 x.f3] := ⟨[.int .i64 x.f0], [v1, .int .i64 x.f2, .int .i64 x.f3], rfl, rfl, ⟨[v1], [.int .i64 x.f2, .int .i64 x.f3], rfl, ⟨v1, rfl, g1⟩, ⟨[.int .i64 x.f2], [.int .i64 x.f3], rfl, rfl, rfl⟩⟩⟩
structure S26 where
  f0 : Int
  f1 : Int
  f2 : ByteArray
  f3 : Int
  f4 : Int
  f5 : S24
def z26 : S26 := ⟨(0 : Int), (0 : Int), (⟨#[]⟩ : ByteArray), (0 : Int), (0 : Int), z24⟩
def k26 : Kd S26 := Kd.iso (Kd.pair (Kd.int .i64) (Kd.pair (Kd.int .i64) (Kd.pair Kd.string (Kd.pair (Kd.int .i64) (Kd.pair (Kd.int .i64) k24))))) (fun x : S26 => (x.f0, x.f1, x.f2, x.f3, x.f4, x.f5))
theorem k26_heap : Kd.Heap k26 := Kd.heap_iso _ (Kd.heap_pair (Kd.heap_int .i64) (Kd.heap_pair (Kd.heap_int .i64) (Kd.heap_pair Kd.heap_string (Kd.heap_pair (Kd.heap_int .i64) (Kd.heap_pair (Kd.heap_int .i64) k24_heap)))))
theorem k26_open {w : World} {x : S26} {cs : List Value} (h : k26.K w x cs) : ∃ A6 c6, cs = [.int .i64 x.f0, .int .i64 x.f1, .string x.f2, .int .i64 x.f3, .int .i64 x.f4, .int .i64 x.f5.f0, .slice A6 x.f5.f1.length c6, .int .i64 x.f5.f2, .int .i64 x.f5.f3] ∧ x.f5.f1.length ≤ c6 ∧ (Kd.int .i64).C w A6 x.f5.f1.length x.f5.f1 := by
  obtain ⟨_, _, rfl, rfl, ⟨_, _, rfl, rfl, ⟨_, _, rfl, rfl, ⟨_, _, rfl, rfl, ⟨_, _, rfl, rfl, s5⟩⟩⟩⟩⟩ := h
  obtain ⟨A6, c6, rfl, l6, g6⟩ := k24_open s5
  exact ⟨A6, c6, rfl, l6, g6⟩
theorem k26_mk (w : World) (x : S26) {A6 : Option Addr} {c6 : Nat} (l6 : x.f5.f1.length ≤ c6) (g6 : (Kd.int .i64).C w A6 x.f5.f1.length x.f5.f1) : k26.K w x [.int .i64 x.f0, .int .i64 x.f1, .string x.f2, .int .i64 x.f3, .int .i64 x.f4, .int .i64 x.f5.f0, .slice A6 x.f5.f1.length c6, .int .i64 x.f5.f2, .int .i64 x.f5.f3] := ⟨[.int .i64 x.f0], [.int .i64 x.f1, .string x.f2, .int .i64 x.f3, .int .i64 x.f4, .int .i64 x.f5.f0, .slice A6 x.f5.f1.length c6, .int .i64 x.f5.f2, .int .i64 x.f5.f3], rfl, rfl, ⟨[.int .i64 x.f1], [.string x.f2, .int .i64 x.f3, .int .i64 x.f4, .int .i64 x.f5.f0, .slice A6 x.f5.f1.length c6, .int .i64 x.f5.f2, .int .i64 x.f5.f3], rfl, rfl, ⟨[.string x.f2], [.int .i64 x.f3, .int .i64 x.f4, .int .i64 x.f5.f0, .slice A6 x.f5.f1.length c6, .int .i64 x.f5.f2, .int .i64 x.f5.f3], rfl, rfl, ⟨[.int .i64 x.f3], [.int .i64 x.f4, .int .i64 x.f5.f0, .slice A6 x.f5.f1.length c6, .int .i64 x.f5.f2, .int .i64 x.f5.f3], rfl, rfl, ⟨[.int .i64 x.f4], [.int .i64 x.f5.f0, .slice A6 x.f5.f1.length c6, .int .i64 x.f5.f2, .int .i64 x.f5.f3], rfl, rfl, (k24_mk w x.f5 l6 g6)⟩⟩⟩⟩⟩
theorem k26_mkM (w : World) (base : Nat) (ok : Nat → Prop) (x : S26) {v6 : Value} (g6 : (Kd.int .i64).R 3 w base ok v6 x.f5.f1) : k26.M w base ok x [.int .i64 x.f0, .int .i64 x.f1, .string x.f2, .int .i64 x.f3, .int .i64 x.f4, .int .i64 x.f5.f0, v6, .int .i64 x.f5.f2, .int .i64 x.f5.f3] := ⟨[.int .i64 x.f0], [.int .i64 x.f1, .string x.f2, .int .i64 x.f3, .int .i64 x.f4, .int .i64 x.f5.f0, v6, .int .i64 x.f5.f2, .int .i64 x.f5.f3], rfl, rfl, ⟨[.int .i64 x.f1], [.string x.f2, .int .i64 x.f3, .int .i64 x.f4, .int .i64 x.f5.f0, v6, .int .i64 x.f5.f2, .int .i64 x.f5.f3], rfl, rfl, ⟨[.string x.f2], [.int .i64 x.f3, .int .i64 x.f4, .int .i64 x.f5.f0, v6, .int .i64 x.f5.f2, .int .i64 x.f5.f3], rfl, rfl, ⟨[.int .i64 x.f3], [.int .i64 x.f4, .int .i64 x.f5.f0, v6, .int .i64 x.f5.f2, .int .i64 x.f5.f3], rfl, rfl, ⟨[.int .i64 x.f4], [.int .i64 x.f5.f0, v6, .int .i64 x.f5.f2, .int .i64 x.f5.f3], rfl, rfl, (k24_mkM w base ok x.f5 g6)⟩⟩⟩⟩⟩
theorem k26_openF {W : World} {ok : Nat → Prop} {x : S26} {cs : List Value} (h : Kd.FK k26 W ok x cs) : ∃ A6 c6, cs = [.int .i64 x.f0, .int .i64 x.f1, .string x.f2, .int .i64 x.f3, .int .i64 x.f4, .int .i64 x.f5.f0, .slice A6 x.f5.f1.length c6, .int .i64 x.f5.f2, .int .i64 x.f5.f3] ∧ x.f5.f1.length ≤ c6 ∧ Kd.F (Kd.int .i64) W ok A6 x.f5.f1.length x.f5.f1 := by
  obtain ⟨A6, c6, rfl, l6, _⟩ := k26_open (Kd.FK_now h)
  exact ⟨A6, c6, rfl, l6, (fun W' hW => by obtain ⟨A6_, c6_, he, l6_, g6_⟩ := k26_open (h W' hW); injection (Option.some.inj (show some (Value.slice A6 x.f5.f1.length c6) = some (Value.slice A6_ x.f5.f1.length c6_) from congrArg (fun l => l[6]?) he)) with ha_ _ _; rw [ha_]; exact g6_)⟩
theorem k26_mkF (W : World) (ok : Nat → Prop) (x : S26) {A6 : Option Addr} {c6 : Nat} (l6 : x.f5.f1.length ≤ c6) (g6 : Kd.F (Kd.int .i64) W ok A6 x.f5.f1.length x.f5.f1) : Kd.FK k26 W ok x [.int .i64 x.f0, .int .i64 x.f1, .string x.f2, .int .i64 x.f3, .int .i64 x.f4, .int .i64 x.f5.f0, .slice A6 x.f5.f1.length c6, .int .i64 x.f5.f2, .int .i64 x.f5.f3] := fun W2 hW => k26_mk W2 x l6 (g6 W2 hW)
def rd_T26 (xs : List S26) (i : Int) : S26 := xs.getD i.toNat z26
theorem at_T26 {w : World} {A : Option Addr} {n : Nat} {xs : List S26} (h : Kd.C k26 w A n xs) (i : Int) (h0 : 0 ≤ i) (h1 : i < n) : ∃ ad A6 c6, A = some ad ∧ w.cell? (ad.add (i.toNat * 9)) = some (.int .i64 (rd_T26 xs i).f0) ∧ w.cell? ⟨(ad.add (i.toNat * 9)).block, (ad.add (i.toNat * 9)).off + 1, none⟩ = some (.int .i64 (rd_T26 xs i).f1) ∧ w.cell? ⟨(ad.add (i.toNat * 9)).block, (ad.add (i.toNat * 9)).off + 2, none⟩ = some (.string (rd_T26 xs i).f2) ∧ w.cell? ⟨(ad.add (i.toNat * 9)).block, (ad.add (i.toNat * 9)).off + 3, none⟩ = some (.int .i64 (rd_T26 xs i).f3) ∧ w.cell? ⟨(ad.add (i.toNat * 9)).block, (ad.add (i.toNat * 9)).off + 4, none⟩ = some (.int .i64 (rd_T26 xs i).f4) ∧ w.cell? ⟨(ad.add (i.toNat * 9)).block, (ad.add (i.toNat * 9)).off + 5, none⟩ = some (.int .i64 (rd_T26 xs i).f5.f0) ∧ w.cell? ⟨(ad.add (i.toNat * 9)).block, (ad.add (i.toNat * 9)).off + 6, none⟩ = some (.slice A6 (rd_T26 xs i).f5.f1.length c6) ∧ w.cell? ⟨(ad.add (i.toNat * 9)).block, (ad.add (i.toNat * 9)).off + 7, none⟩ = some (.int .i64 (rd_T26 xs i).f5.f2) ∧ w.cell? ⟨(ad.add (i.toNat * 9)).block, (ad.add (i.toNat * 9)).off + 8, none⟩ = some (.int .i64 (rd_T26 xs i).f5.f3) ∧ (rd_T26 xs i).f5.f1.length ≤ c6 ∧ (Kd.int .i64).C w A6 (rd_T26 xs i).f5.f1.length (rd_T26 xs i).f5.f1 := by
  obtain ⟨ad, c, e, _, hK, hc0⟩ := Kd.C_get h z26 i h0 h1
  have hc : ∀ j u, c[j]? = some u → w.cell? (ad.add (i.toNat * 9 + j)) = some u := hc0
  obtain ⟨A6, c6, rfl, l6, g6⟩ := k26_open hK
  exact ⟨ad, A6, c6, e, hc 0 _ rfl, by rw [← add_field _ _ 1 (by omega)]; exact hc 1 _ rfl, by rw [← add_field _ _ 2 (by omega)]; exact hc 2 _ rfl, by rw [← add_field _ _ 3 (by omega)]; exact hc 3 _ rfl, by rw [← add_field _ _ 4 (by omega)]; exact hc 4 _ rfl, by rw [← add_field _ _ 5 (by omega)]; exact hc 5 _ rfl, by rw [← add_field _ _ 6 (by omega)]; exact hc 6 _ rfl, by rw [← add_field _ _ 7 (by omega)]; exact hc 7 _ rfl, by rw [← add_field _ _ 8 (by omega)]; exact hc 8 _ rfl, l6, g6⟩
end Go.Proofs.YtpgjhjlhipikgaaDoor.PK
end
section
namespace Go.Proofs.YtpgjhjlhipikgaaDoor.PK
open Go.RowKit Go.Proofs.YtpgjhjlhipikgaaDoorW.PrintWords Go.Proofs.YtpgjhjlhipikgaaDoorW.PrintLast Go.Proofs.YtpgjhjlhipikgaaDoorW.PrintMore
abbrev Bl := S26
def m_zig (n : Int) : Nat := if n < 0 then (-n).toNat * 2 - 1 else n.toNat * 2
def m_vint : Nat → Nat → List UInt8
  | 0, _ => []
  | k + 1, z => if z < 128 then [UInt8.ofNat z] else UInt8.ofNat (z % 128 + 128) :: m_vint k (z / 128)
def m_int (n : Int) : List UInt8 := m_vint 10 (m_zig n)
def m_fits (n : Int) : Bool := decide (-4611686018427387903 ≤ n) && decide (n ≤ 4611686018427387903)
def m_putInt (n : Int) : ByteArray × Int := if m_fits n then (⟨(m_int n).toArray⟩, 0) else (⟨#[]⟩, 10)
def m_str (l : List UInt8) : List UInt8 := m_int l.length ++ l
def m_asc : List Int → Bool
  | [] => true
  | [_] => true
  | x :: y :: l => decide (x < y) && m_asc (y :: l)
def m_label (u : Int) (l : List Int) (a d : Int) : Bool :=
  decide (0 ≤ u) && decide (u ≤ 1000000000) && l.all (fun x => decide (1 ≤ x) && decide (x ≤ 64)) && m_asc l && decide (0 ≤ a) && decide (a ≤ 5) && decide (0 ≤ d) && decide (d ≤ 15)
def m_name (s : ByteArray) : Bool := decide (1 ≤ s.size) && decide (s.size ≤ 20) &&
  s.data.toList.all (fun c => (decide (97 ≤ c.toNat) && decide (c.toNat ≤ 122)) || (decide (48 ≤ c.toNat) && decide (c.toNat ≤ 57)) || c.toNat == 45)
def m_text (s : ByteArray) : Bool := decide (s.size ≤ 300) && s.data.toList.all (fun c => decide (32 ≤ c.toNat) && decide (c.toNat ≤ 126))
def m_valid (id kind : Int) (text : ByteArray) (story ref u : Int) (l : List Int) (a d : Int) : Bool :=
  decide (1 ≤ id) && decide (id ≤ 1000) && m_label u l a d && m_text text &&
    (if kind = 1 ∨ kind = 2 ∨ kind = 4 then decide (text.size ≠ 0) && decide (story = 0) && decide (ref = 0)
     else if kind = 5 then m_name text && decide (story = 0) && decide (ref = 0)
     else if kind = 3 then decide (1 ≤ story) && decide (story ≤ 64) && decide (1 ≤ ref) && decide (ref ≤ 1000)
     else false)
def m_validB (b : Bl) : Bool := m_valid b.f0 b.f1 b.f2 b.f3 b.f4 b.f5.f0 b.f5.f1 b.f5.f2 b.f5.f3
def m_fresh : List Int → List Bl → Bool
  | _, [] => true
  | ids, b :: l => !ids.contains b.f0 && m_validB b && m_fresh (b.f0 :: ids) l
def m_validL (l : List Bl) : Bool := decide (l.length ≤ 24) && m_fresh [] l
def m_same (a b : Bl) : Bool :=
  decide (a.f0 = b.f0) && decide (a.f1 = b.f1) && decide (a.f2.data.toList = b.f2.data.toList) && decide (a.f3 = b.f3) && decide (a.f4 = b.f4) &&
    decide (a.f5.f0 = b.f5.f0) && decide (a.f5.f1 = b.f5.f1) && decide (a.f5.f2 = b.f5.f2) && decide (a.f5.f3 = b.f5.f3)
def m_sameL : List Bl → List Bl → Bool
  | [], [] => true
  | a :: l, b :: m => m_same a b && m_sameL l m
  | _, _ => false
def m_encB (b : Bl) : List UInt8 :=
  m_int b.f0 ++ m_int b.f1 ++ m_str b.f2.data.toList ++ m_int b.f3 ++ m_int b.f4 ++ m_int b.f5.f0 ++ m_int b.f5.f1.length ++ b.f5.f1.flatMap m_int ++ m_int b.f5.f2 ++ m_int b.f5.f3
def m_enc (l : List Bl) : List UInt8 := m_int l.length ++ l.flatMap m_encB
def m_encode (l : List Bl) : ByteArray × Int := if m_validL l then (⟨(m_enc l).toArray⟩, 0) else (⟨#[]⟩, 30)
def m_rdz : Nat → Nat → List UInt8 → Option (Nat × List UInt8)
  | 0, _, _ => none
  | _ + 1, _, [] => none
  | k + 1, i, c :: l => if 128 ≤ c.toNat then (m_rdz k (i + 1) l).map (fun p => (c.toNat - 128 + 128 * p.1, p.2)) else if c.toNat = 0 ∧ 0 < i then none else some (c.toNat, l)
def m_unzig (z : Nat) : Int := if z % 2 = 1 then -((z / 2 : Nat) : Int) - 1 else ((z / 2 : Nat) : Int)
def m_rdInt (l : List UInt8) : Option (Int × List UInt8) :=
  match m_rdz 9 0 l with
  | none => none
  | some (z, r) => if m_unzig z < -4611686018427387903 then none else some (m_unzig z, r)
def m_rdStr (l : List UInt8) : Option (List UInt8 × List UInt8) :=
  match m_rdInt l with
  | none => none
  | some (n, r) => if n < 0 ∨ 65536 < n ∨ (r.length : Int) < n then none else some (r.take n.toNat, r.drop n.toNat)
abbrev Rd (α : Type) := List UInt8 → Except Int (α × List UInt8)
def rdI : Rd Int := fun l => match m_rdInt l with | none => .error 10 | some p => .ok p
def rdS : Rd (List UInt8) := fun l => match m_rdStr l with | none => .error 10 | some p => .ok p
def rdBind {α β : Type} (one : Rd α) (next : α → List UInt8 → Except Int β) (l : List UInt8) : Except Int β := match one l with
  | .error e => .error e
  | .ok (x, l) => next x l
def rdN {α : Type} (one : Rd α) : Nat → Rd (List α)
  | 0 => fun l => .ok ([], l)
  | n + 1 => fun l => rdBind one (fun x l => rdBind (rdN one n) (fun xs l => .ok (x :: xs, l)) l) l
def rdL {α : Type} (most : Int) (one : Rd α) : Rd (List α) := fun l => rdBind rdI (fun n l => if n < 0 ∨ most < n then .error 30 else rdN one n.toNat l) l
def rdB : Rd Bl := fun l => rdBind rdI (fun id l => rdBind rdI (fun kind l => rdBind rdS (fun text l => rdBind rdI (fun story l => rdBind rdI (fun ref l => rdBind rdI (fun u l => rdBind (rdL 64 rdI) (fun after l => rdBind rdI (fun a l => rdBind rdI (fun d l =>
  .ok (⟨id, kind, ⟨text.toArray⟩, story, ref, ⟨u, after, a, d⟩⟩, l)) l) l) l) l) l) l) l) l) l
def m_decode (s : ByteArray) : List Bl × Int := match rdL 24 rdB s.data.toList with
  | .error e => ([], e)
  | .ok (l, r) => if r ≠ [] then ([], 10) else if m_validL l then (l, 0) else ([], 30)
def m_trim (l : List UInt8) : List UInt8 := ((l.reverse.dropWhile (· == 32)).reverse).dropWhile (· == 32)
def m_at (l : List UInt8) (i : Nat) : UInt8 := l.getD i 0
def m_initial (l : List UInt8) (i : Nat) : Bool := decide (65 ≤ (m_at l i).toNat) && decide ((m_at l i).toNat ≤ 90) && (decide (i = 0) || m_at l (i - 1) == 32)
def m_ends (l : List UInt8) (i : Nat) : Bool :=
  (m_at l i == 46 || m_at l i == 33 || m_at l i == 63) && (decide (l.length ≤ i + 1) || m_at l (i + 1) == 32) && !(m_at l i == 46 && decide (1 ≤ i) && m_initial l (i - 1))
def m_sentGo (l : List UInt8) : Nat → Nat → Nat → List (List UInt8)
  | 0, _, a => if m_trim (l.drop a) = [] then [] else [m_trim (l.drop a)]
  | d + 1, i, a => if m_ends l i then m_trim ((l.drop a).take (i + 1 - a)) :: m_sentGo l d (i + 1) (i + 1) else m_sentGo l d (i + 1) a
def m_sent (l : List UInt8) : List (List UInt8) := m_sentGo l l.length 0 0
def m_sentences (s : ByteArray) : List ByteArray := (m_sent s.data.toList).map (fun x => ⟨x.toArray⟩)
def m_join : List (List UInt8) → List UInt8
  | [] => []
  | [x] => x
  | x :: y :: l => x ++ 32 :: m_join (y :: l)
def m_line (kind : Int) (t : List UInt8) : List UInt8 :=
  if kind = 1 then t ++ [10] else if kind = 2 then m_join (m_sent t) ++ [10] else if kind = 3 then 34 :: t ++ [34, 10] else if kind = 4 then 91 :: t ++ [93, 10] else if kind = 5 then 35 :: t ++ [10] else []
def m_plain (l : List Bl) : List UInt8 := l.flatMap (fun b => m_line b.f1 b.f2.data.toList)
end Go.Proofs.YtpgjhjlhipikgaaDoor.PK
end
section
set_option linter.unusedVariables false
namespace Go.Proofs.YtpgjhjlhipikgaaDoor.Mp
open Go.MapKept Go.ChangeMaps Go.RowKit Go.Proofs.YtpgjhjlhipikgaaDoorW.PrintWords Go.Proofs.YtpgjhjlhipikgaaDoorW.PrintLast Go.Proofs.YtpgjhjlhipikgaaDoorW.PrintMore
def IMap (w : World) (b n : Nat) (g : Int → Option Value) : Prop := ∃ es clock, w.heap[b]? = some (.map es clock) ∧ es.size ≤ n ∧
  (∀ x ∈ es.toList, ∃ i, x.key = .int .i64 i ∧ g i = some x.val) ∧ (∀ i v, g i = some v → ∃ x ∈ es.toList, x.key = .int .i64 i)
variable {w w' : World} {b n : Nat} {g : Int → Option Value} {P : Program} {t k e : TypeId}
theorem IMap.made (w : World) : IMap (w.alloc (.map #[] 0)) w.heap.size 0 (fun _ => none) := ⟨#[], 0, (MapKept.heap_alloc w _).1, Nat.le_refl _, by simp, by simp⟩
theorem IMap.lt (h : IMap w b n g) : b < w.heap.size := by
  obtain ⟨es, clock, hb, _⟩ := h
  exact (Array.getElem?_eq_some_iff.1 hb).1
theorem IMap.step (h : IMap w b n g) (hk : ∀ es c, w.heap[b]? = some (.map es c) → w'.heap[b]? = some (.map es c)) : IMap w' b n g := by
  obtain ⟨es, clock, hb, h⟩ := h
  exact ⟨es, clock, hk _ _ hb, h⟩
theorem IMap.below {B : Nat} (h : IMap w b n g) (hb : Below B w w') (hB : b < B) : IMap w' b n g := h.step fun es c he => by rw [hb.block b hB]; exact he
theorem IMap.alloc (h : IMap w b n g) (o : Obj) : IMap (w.alloc o) b n g := h.below (below_alloc (Below.refl w.heap.size w) o) h.lt
theorem IMap.find (hk : P.underlying k = some (.int .i64)) {es : Array MapEntry} {clock : Nat} (hes : ∀ x ∈ es.toList, ∃ i, x.key = .int .i64 i ∧ g i = some x.val) (hg : ∀ i v, g i = some v → ∃ x ∈ es.toList, x.key = .int .i64 i) (i : Int) :
    ((Instr.findKey k (.int .i64 i) es.toList).run P w = .ok none w ∧ g i = none) ∨ ∃ j v, (Instr.findKey k (.int .i64 i) es.toList).run P w = .ok (some (j, v)) w ∧ g i = some v := by
  rcases findNow_spec (d := .int .i64) (k := .int .i64 i) rfl es.toList 0 (fun x hx => by obtain ⟨j, hj, _⟩ := hes x hx; rw [hj]; exact rfl) with ⟨h1, h2⟩ | ⟨j, e, h1, h2, h3⟩
  · refine .inl ⟨run_findKey hk h1, ?_⟩
    cases hgi : g i with
    | none => rfl
    | some v =>
      obtain ⟨x, hx, hxk⟩ := hg i v hgi
      exact absurd hxk (h2 x hx)
  · obtain ⟨i', hi', hv⟩ := hes e (List.mem_of_getElem? h2)
    rw [h3] at hi'
    injection hi' with _ hi'
    subst hi'
    exact .inr ⟨_, _, run_findKey hk h1, hv⟩
theorem IMap.look (h : IMap w b n g) (ht : P.underlying t = some (.map k e)) (hk : P.underlying k = some (.int .i64)) {z : Value} (hz : (zeroValue e).run P w = .ok z w) (i : Int) (c : Bool) :
    (Instr.lookup t (.map (some b)) (.int .i64 i) c).run P w = .ok (match g i with | some v => if c then .tuple #[v, .bool true] else v | none => if c then .tuple #[z, .bool false] else z) w := by
  obtain ⟨es, clock, hb, hs, h1, h2⟩ := h
  have hck := run_checkKey (w := w) hk (k := .int .i64 i) rfl
  rcases IMap.find (w := w) (clock := clock) hk h1 h2 i with ⟨hf, hg⟩ | ⟨j, v, hf, hg⟩
  · rw [hg]; simp [Instr.lookup, run_underlying ht, MapKept.run_getObj_map hb, hck, hf, hz, Result.andThen]
  · rw [hg]; simp [Instr.lookup, run_underlying ht, MapKept.run_getObj_map hb, hck, hf, Result.andThen]
theorem IMap.put (h : IMap w b n g) (ht : P.underlying t = some (.map k e)) (hk : P.underlying k = some (.int .i64)) (hn : n < maxLen) (i : Int) (hi : g i = none) (val : Value) :
    ∃ w', (Instr.mapUpdate t (.map (some b)) (.int .i64 i) val).run P w = .ok () w' ∧ IMap w' b (n + 1) (fun j => if j = i then some val else g j) ∧ w.grownBy w' (some b) := by
  obtain ⟨es, clock, hb, hs, h1, h2⟩ := h
  have hck := run_checkKey (w := w) hk (k := .int .i64 i) rfl
  rcases IMap.find (w := w) (clock := clock) hk h1 h2 i with ⟨hf, hg⟩ | ⟨j, v, hf, hg⟩
  · refine ⟨setBlock w b (.map (es.push ⟨.int .i64 i, val, clock⟩) (clock + 1)), ?_, ⟨_, _, heap_setBlock_same hb _, by simp; omega, ?_, ?_⟩, ⟨rfl, rfl, rfl, by simp [setBlock], fun j _ hj => heap_setBlock_other hb _ (fun e => hj (by rw [e]))⟩⟩
    · have hsz : es.size < maxLen := by omega
      simp [Instr.mapUpdate, run_underlying ht, MapKept.run_getObj_map hb, hck, hf, MapKept.run_setObj_map _ hb, Result.andThen, setBlock]
    · intro x hx
      simp only [Array.toList_push, List.mem_append, List.mem_singleton] at hx
      rcases hx with hx | rfl
      · obtain ⟨j, hj, hv⟩ := h1 x hx
        refine ⟨j, hj, ?_⟩
        have : j ≠ i := by rintro rfl; rw [hi] at hv; cases hv
        simp [this, hv]
      · exact ⟨i, rfl, by simp⟩
    · intro j v hj
      by_cases hji : j = i
      · subst hji; exact ⟨⟨.int .i64 j, val, clock⟩, by simp, rfl⟩
      · simp only [hji, if_false] at hj
        obtain ⟨x, hx, hxk⟩ := h2 j v hj
        exact ⟨x, by simp [hx], hxk⟩
  · rw [hi] at hg; cases hg
theorem wpList_put {w : World} {ops : Array Oper} {rest : List Oper} {o : Oper} {a : Act} {Q : Exit → Act → World → Prop}
    (hg : o.guard = none) (m x v : Operand) (t : TypeId) (hop : o.op = Op.insert t m x v ∨ o.op = Op.mapUpdate t m x v)
    (k e : TypeId) (ht : P.underlying t = some (.map k e)) (hk : P.underlying k = some (.int .i64)) (b n : Nat) (g : Int → Option Value)
    (hm : a.eval m = .map (some b)) (hown : IMap w b n g) (hn : n < maxLen) (i : Int) (val : Value) (hx : a.eval x = .int .i64 i) (hv : a.eval v = val) (hi : g i = none)
    (hK : ∀ w', IMap w' b (n + 1) (fun j => if j = i then some val else g j) → w.grownBy w' (some b) → wpList P ops Q rest (a.put o.dst undef) w') :
    wpList P ops Q (o :: rest) a w := by
  refine wpList_plain hg fun K' hK' => ?_
  obtain ⟨w', hrun, r1, r2⟩ := hown.put ht hk hn i hi val
  unfold Oper.wp
  rcases hop with hop | hop
  · simp [execOp, hop, hm, hx, hv, hrun, Result.andThen]
    exact hK' _ _ (hK w' r1 r2)
  · simp [execOp, hop, hm, hx, hv, hrun, Result.andThen]
    exact hK' _ _ (hK w' r1 r2)
theorem is_insert {P : Program} {W : World} {ops : Array Oper} {rest : List Oper} {o : Oper} {a : Act} {Q : Exit → Act → World → Prop} {t : TypeId} {m x v : Operand} (_ : o.op = .insert t m x v ∨ o.op = .mapUpdate t m x v) (h : wpList P ops Q (o :: rest) a W) : wpList P ops Q (o :: rest) a W := h
theorem IMap.kept (h : IMap w b n g) (hg : w.grownBy w' (some b)) {x : Nat} {cs : Array Value} {T : TypeId} {fr : Nat × Nat} (hc : w.heap[x]? = some (.cells cs T fr)) : w'.heap[x]? = some (.cells cs T fr) := by
  obtain ⟨es, clock, hb, _⟩ := h
  have hlt := (Array.getElem?_eq_some_iff.1 hc).1
  have hne : x ≠ b := by
    rintro rfl
    rw [hb] at hc
    cases hc
  rw [hg.block x hlt (fun he => hne (by simpa using he))]
  exact hc
end Go.Proofs.YtpgjhjlhipikgaaDoor.Mp
end
section
set_option linter.unusedVariables false
namespace Go.Proofs.YtpgjhjlhipikgaaDoor.Rg
open Go Go.RowKit
variable {P : Program}
structure Stop (p : Prop) : Prop where mk ::
  out : p
theorem stop_here {p : Prop} (h : Stop p) : p := h.out
structure Turn (B : Nat) (A C : World) : Prop where mk ::
  os : C.os = A.os
  tape : C.tape = A.tape
  output : C.output = A.output
  base : B ≤ A.heap.size
  size : A.heap.size ≤ C.heap.size
  low : ∀ k, k < B → C.heap[k]? = A.heap[k]?
  cells : ∀ (k : Nat) (o : Obj), A.heap[k]? = some o → o.isCells = true → C.heap[k]? = some o
theorem Turn.trans {B : Nat} {X Y Z : World} (h : Turn B X Y) (k : Turn B Y Z) : Turn B X Z :=
  ⟨k.os.trans h.os, k.tape.trans h.tape, k.output.trans h.output, h.base, Nat.le_trans h.size k.size,
   fun i hi => (k.low i hi).trans (h.low i hi), fun i o ho hc => k.cells i o (h.cells i o ho hc) hc⟩
theorem Turn.alloc {B : Nat} (A : World) (o : Obj) (hB : B ≤ A.heap.size) : Turn B A (A.alloc o) :=
  ⟨rfl, rfl, rfl, hB, by simp, fun k hk => Below.heap_alloc _ _ _ (Nat.lt_of_lt_of_le hk hB), fun k o' ho _ => (Below.heap_alloc _ _ _ (Array.getElem?_eq_some_iff.1 ho).1).trans ho⟩
theorem Turn.put {B : Nat} {A : World} {l : Nat} {o : Obj} (hl : A.heap[l]? = some o) (hc : o.isCells = false) (hB : B ≤ l) (o' : Obj) : Turn B A (A.putObj l o') :=
  ⟨rfl, rfl, rfl, by have := (Array.getElem?_eq_some_iff.1 hl).1; omega, by simp, fun k hk => World.putObj_heap_other (by omega), fun k o2 ho h2 => by
    rw [World.putObj_heap_other]
    · exact ho
    · rintro rfl
      rw [hl] at ho
      injection ho with ho
      subst ho
      rw [hc] at h2
      cases h2⟩
theorem Turn.below {B : Nat} {A C : World} (h : Turn B A C) : Below B A C :=
  ⟨h.os, h.tape, h.output, h.size, fun i hi => h.low i hi⟩
theorem Turn.owns {B base n size : Nat} {e : TypeId} {v : Value} {xs : List Value} {A C : World} (h : Turn B A C) (ho : A.ownsRow base e size v n xs) : C.ownsRow base e size v n xs := by
  refine ⟨ho.1, ?_⟩
  rcases ho.2 with ⟨h1, h2⟩ | ⟨g, cap, cur, h1, h2, h3, h4⟩
  · exact .inl ⟨h1, h2⟩
  · exact .inr ⟨g, cap, cur, h1, h2, h.cells g _ h3 rfl, h4⟩
theorem owns_shape {base n size : Nat} {e : TypeId} {v : Value} {xs : List Value} {A : World} (h : A.ownsRow base e size v (n + 1) xs) : ∃ g cap, v = .slice (some ⟨g, 0, none⟩) (n + 1) cap := by
  rcases h.2 with ⟨_, h0⟩ | ⟨g, cap, cur, hv, _⟩
  · exact absurd h0 (Nat.succ_ne_zero n)
  · exact ⟨_, _, hv⟩
theorem row_ne {base n size : Nat} {e t : TypeId} {v : Value} {xs : List Value} {A : World} {b : Nat} {cs : Array Value} {fr : Nat × Nat} (ho : A.ownsRow base e size v n xs) (hb : A.heap[b]? = some (.cells cs t fr)) (ht : t ≠ e) : some b ≠ v.ownBlock := by
  rcases ho.2 with ⟨rfl, _⟩ | ⟨g, cap, cur, rfl, _, h3, _⟩
  · simp [Value.ownBlock]
  · simp only [Value.ownBlock]
    rintro h
    injection h with h
    subst h
    rw [hb] at h3
    injection h3 with h3
    injection h3 with _ h3 _
    exact ht h3
theorem block_append {base n size : Nat} {e t : TypeId} {v : Value} {xs : List Value} {A C : World} {b : Nat} {cs : Array Value} {fr : Nat × Nat} {o : Obj} (ho : A.ownsRow base e size v n xs) (hb : A.heap[b]? = some (.cells cs t fr)) (ht : t ≠ e) (hg : (A.alloc o).grownBy C v.ownBlock) :
    C.heap[b]? = some (.cells cs t fr) := by
  have hlt := (Array.getElem?_eq_some_iff.1 hb).1
  rw [hg.block b (by simp; omega) (row_ne ho hb ht)]
  exact (Below.heap_alloc _ _ _ hlt).trans hb
theorem keeps_append {base n size B : Nat} {e : TypeId} {v : Value} {xs : List Value} {A C : World} {o : Obj} (ho : A.ownsRow base e size v n xs) (hg : (A.alloc o).grownBy C v.ownBlock) : KeepsFrom B A C := by
  refine ⟨Nat.le_trans (by simp) hg.size, fun k o' _ hk hn => ?_⟩
  have hlt := (Array.getElem?_eq_some_iff.1 hk).1
  rw [hg.block k (by simp; omega) ?_]
  · exact (Below.heap_alloc _ _ _ hlt).trans hk
  · intro he
    rcases ho.2 with ⟨rfl, _⟩ | ⟨g, cap, cur, rfl, _, h3, _⟩
    · simp [Value.ownBlock] at he
    · have : k = g := by simpa [Value.ownBlock] using he
      subst this
      rw [hk] at h3
      injection h3 with h3
      subst h3
      cases hn
theorem below_append {B base n size : Nat} {e : TypeId} {v : Value} {xs : List Value} {w0 A C : World} {o : Obj} (hB : Below B w0 A) (hs : B ≤ A.heap.size) (hb : B ≤ base) (ho : A.ownsRow base e size v n xs) (hg : (A.alloc o).grownBy C v.ownBlock) : Below B w0 C :=
  (hB.alloc hs o).grown hg (by simp; omega) (fun k hk => Nat.le_trans hb (ho.lt k hk).1)
theorem keeps_set {B : Nat} {A : World} (p : Addr) (u : Value) : KeepsFrom B A (A.setCell p u) := (KeepsOthers.setCell A p u).from B
theorem owns_set {base n size : Nat} {e t : TypeId} {v : Value} {xs : List Value} {A : World} {b : Nat} {cs : Array Value} {fr : Nat × Nat} (hb : A.heap[b]? = some (.cells cs t fr)) (ht : t ≠ e) (ho : A.ownsRow base e size v n xs) (j : Nat) (u : Value) :
    (A.setCell ⟨b, j, none⟩ u).ownsRow base e size v n xs := by
  refine ⟨ho.1, ?_⟩
  rcases ho.2 with ⟨h1, h2⟩ | ⟨g, cap, cur, h1, h2, h3, h4⟩
  · exact .inl ⟨h1, h2⟩
  · refine .inr ⟨g, cap, cur, h1, h2, ?_, h4⟩
    rw [Below.heap_setCell _ _ _ _ (fun he => ?_)]
    · exact h3
    · have : g = b := by simpa using he
      subst this
      rw [hb] at h3
      injection h3 with h3
      injection h3 with _ h3 _
      exact ht h3
def Iter {α : Type} (P : Program) (gf : Nat) (lb : Array Value) (encs : α → Array Value) (Ab Kp : World → World → Prop) (Nx : List α → α → Prop) (S Sp : List α → Prop) (W : World) : Prop :=
  ∀ (l : Nat) (J Jx : List α → World → Prop), (∀ s A B, J s A → Ab A B → J s B) → (∀ s A B, Jx s A → Ab A B → Jx s B) →
    (∀ pre x W1, J pre W1 → Nx pre x → YieldAt Fence.wide 0 P l (encs x) W1 fun e W' =>
      (e = .returned (.bool true) ∧ J (pre ++ [x]) W' ∧ Kp W1 W') ∨ (e = .returned (.bool false) ∧ Jx (pre ++ [x]) W')) →
    J [] W →
    CallsIn Fence.wide 0 P gf (#[.func (.yield l) #[] #[]] ++ lb) W fun e W' => (∃ v, e = .returned v) ∧ ((∃ xs, S xs ∧ J xs W') ∨ (∃ pre, Sp pre ∧ Jx pre W'))
def RoundEnds {α : Type} (B : Nat) (Kp : World → World → Prop) (I : List α → World → Prop) (Ix : Code → List α → World → Prop) (xs : List α) (W : World) : Exit → Act → World → Prop
  | .normal, _, W' => KeepsFrom B W W' ∧ Kp W W' ∧ I xs W'
  | .ret, _, W' => KeepsFrom B W W' ∧ Ix .ret xs W'
  | .exit id, _, W' => KeepsFrom B W W' ∧ Ix (.exit id) xs W'
  | .goto t, _, W' => KeepsFrom B W W' ∧ Ix (.goto t) xs W'
  | .panic _, _, _ => False
  | .outgrown, _, _ => False
theorem round_over {α : Type} {B l D : Nat} {rec : LoopState → Option Code → Loop} (hrec : ∀ st pe, rec st pe = { rec .ready none with state := st, pending := pe })
    {Kp : World → World → Prop} {I : List α → World → Prop} {Ix : Code → List α → World → Prop} (hB : B ≤ D) (hD : D < l)
    (hKt : ∀ {A C E : World}, Kp A C → Kp C E → Kp A E) (hKu : ∀ A C, Turn B A C → Kp A C)
    (hI : ∀ s A C, I s A → Turn B A C → I s C) (hIx : ∀ c s A C, Ix c s A → Turn B A C → Ix c s C)
    {W0 W W' : World} {xs : List α} {e : Exit} {a : Act} (h0 : Kp W0 W) (hl : W.heap[l]? = some (.loop (rec .busy none))) (hd : W.heap[D]? = some (.deferred (some [])))
    (h : RoundEnds B Kp I Ix xs W e a W') :
    roundPost P l (fun e W' => (e = .returned (.bool true) ∧ (I xs W' ∧ W'.heap[l]? = some (.loop (rec .ready none)) ∧ W'.heap[D]? = some (.deferred (some []))) ∧ Kp W0 W') ∨
      (e = .returned (.bool false) ∧ ∃ c, Ix c xs W' ∧ W'.heap[l]? = some (.loop (rec .done (some c))) ∧ W'.heap[D]? = some (.deferred (some [])))) e a W' := by
  have keep : ∀ (hk : KeepsFrom B W W') (jump : Option Code), (Instr.endRound l jump).run P W' = .ok (.bool jump.isNone) (W'.putObj l (.loop (rec (if jump.isNone then .ready else .done) jump))) ∧
      Turn B W' (W'.putObj l (.loop (rec (if jump.isNone then .ready else .done) jump))) ∧
      (W'.putObj l (.loop (rec (if jump.isNone then .ready else .done) jump))).heap[l]? = some (.loop (rec (if jump.isNone then .ready else .done) jump)) ∧
      (W'.putObj l (.loop (rec (if jump.isNone then .ready else .done) jump))).heap[D]? = some (.deferred (some [])) := by
    intro hk jump
    have hl' := hk.same l _ (by omega) hl rfl
    have hd' := hk.same D _ hB hd rfl
    have hr := run_endRound (P := P) jump hl'
    rw [hrec .busy none] at hr
    rw [hrec (if jump.isNone then .ready else .done) jump]
    exact ⟨hr, Turn.put hl' rfl (by omega) _, World.putObj_heap_same (Array.getElem?_eq_some_iff.1 hl').1, (World.putObj_heap_other (by omega)).trans hd'⟩
  cases e with
  | normal =>
    obtain ⟨hk, hkp, hi⟩ := h
    obtain ⟨h1, h2, h3, h4⟩ := keep hk none
    exact ⟨_, _, h1, .inl ⟨rfl, ⟨hI _ _ _ hi h2, h3, h4⟩, hKt (hKt h0 hkp) (hKu _ _ h2)⟩⟩
  | ret =>
    obtain ⟨hk, hi⟩ := h
    obtain ⟨h1, h2, h3, h4⟩ := keep hk (some .ret)
    exact ⟨_, _, h1, .inr ⟨rfl, _, hIx _ _ _ _ hi h2, h3, h4⟩⟩
  | exit id =>
    obtain ⟨hk, hi⟩ := h
    obtain ⟨h1, h2, h3, h4⟩ := keep hk (some (.exit id))
    exact ⟨_, _, h1, .inr ⟨rfl, _, hIx _ _ _ _ hi h2, h3, h4⟩⟩
  | goto t =>
    obtain ⟨hk, hi⟩ := h
    obtain ⟨h1, h2, h3, h4⟩ := keep hk (some (.goto t))
    exact ⟨_, _, h1, .inr ⟨rfl, _, hIx _ _ _ _ hi h2, h3, h4⟩⟩
  | panic ch => exact h.elim
  | outgrown => exact h.elim
theorem wp_range {α : Type} {g : Operand} {ps : Array Tmp} {assign body : Code} {Q : Exit → Act → World → Prop} {a : Act} {w : World} {gf : Nat} {lb : Array Value}
    (hg : a.eval g = .func (.func gf) #[] lb) (eg : ∀ args w, (callFunc gf args).run P w = .ok (.enter gf args) w)
    {encs : α → Array Value} {Ab Kp : World → World → Prop} {Nx : List α → α → Prop} {S Sp : List α → Prop}
    (hAb : ∀ A C (k : Nat) (o : Obj), Ab A C → A.heap[k]? = some o → o.isCells = false → C.heap[k]? = some o)
    (hKt : ∀ {A C E : World}, Kp A C → Kp C E → Kp A E) (hKu : ∀ A C, Turn w.heap.size A C → Kp A C)
    (it : ∀ W, Turn w.heap.size w W → Iter P gf lb encs Ab Kp Nx S Sp W)
    (hps : ∀ x, (encs x).size = ps.size)
    (I : List α → World → Prop) (Ix : Code → List α → World → Prop)
    (hI : ∀ s A C, I s A → Turn w.heap.size A C → I s C) (hIx : ∀ c s A C, Ix c s A → Turn w.heap.size A C → Ix c s C)
    (hIA : ∀ s A C, I s A → Ab A C → I s C) (hIxA : ∀ c s A C, Ix c s A → Ab A C → Ix c s C) (h0 : I [] w)
    (a₁ : α → Act)
    (hassign : ∀ (l : Nat) (x : α) (W : World) (K : Act → World → Prop), K (a₁ x) W →
      assign.wpIn (Fence.wide.inRound l) 0 P (Exit.then K (fun _ _ _ => False)) { tmps := (ps.zip (encs x)).foldl (fun t (p, v) => t.setIfInBounds p v) a.tmps, defers := [] } W)
    (hbody : ∀ (l : Nat) (pre : List α) (x : α) (W : World), I pre W → Nx pre x → body.wpIn (Fence.wide.inRound l) 0 P (RoundEnds w.heap.size Kp I Ix (pre ++ [x]) W) (a₁ x) W)
    (hdone : ∀ (D : Nat) (xs : List α) (W : World), w.heap.size ≤ D → S xs → I xs W → W.heap[D]? = some (.deferred (some [])) → Q .normal { a with defers := { target := .collected D, args := #[] } :: a.defers } W)
    (hstop : ∀ (D : Nat) (c : Code) (pre : List α) (W : World), w.heap.size ≤ D → Sp pre → Ix c pre W → W.heap[D]? = some (.deferred (some [])) → c.wpIn Fence.wide 0 P Q { a with defers := { target := .collected D, args := #[] } :: a.defers } W) :
    (Code.rangeFunc g ps assign body).wpIn Fence.wide 0 P Q a w := by
  refine wpIn_rangeFunc ?_
  intro fn hfn
  obtain ⟨rec, hR⟩ : ∃ rec : LoopState → Option Code → Loop, rec = fun st pe => { state := st, pending := pe, fn := fn, tmps := a.tmps, params := ps, assign := assign, body := body, defers := w.heap.size } := ⟨_, rfl⟩
  have hrec : ∀ st pe, rec st pe = { rec .ready none with state := st, pending := pe } := fun st pe => by rw [hR]
  obtain ⟨W1, hW1⟩ : ∃ W1, (w.alloc (.deferred (some []))).alloc (.loop (rec .ready none)) = W1 := ⟨_, rfl⟩
  have hT : Turn w.heap.size w W1 := by rw [← hW1]; exact (Turn.alloc _ _ (Nat.le_refl _)).trans (Turn.alloc _ _ (by simp))
  have hl1 : W1.heap[w.heap.size + 1]? = some (.loop (rec .ready none)) := by
    rw [← hW1]; have := World.alloc_heap_new (w.alloc (.deferred (some []))) (.loop (rec .ready none)); rwa [World.size_alloc] at this
  have hd1 : W1.heap[w.heap.size]? = some (.deferred (some [])) := by
    rw [← hW1]; exact (Below.heap_alloc _ _ _ (by simp)).trans (World.alloc_heap_new w _)
  refine ⟨w.heap.size + 1, [{ target := .collected w.heap.size, args := #[] }], W1, { target := .fn (.func gf) lb, args := #[.func (.yield (w.heap.size + 1)) #[] #[]] }, W1, gf,
    #[.func (.yield (w.heap.size + 1)) #[] #[]] ++ lb, W1, ?_, ?_, fun _ _ => trivial, ?_, fun h => by simp [Fence.wide] at h, ?_⟩
  · rw [← hW1, hR]; exact run_enterLoop_outer _ _ _ _ _
  · simp only [resolve, hg]
    simp [go_sem]
  · simp [invoke, go_sem, eg]
  · refine (it W1 hT (w.heap.size + 1)
      (fun pre W => I pre W ∧ W.heap[w.heap.size + 1]? = some (.loop (rec .ready none)) ∧ W.heap[w.heap.size]? = some (.deferred (some [])))
      (fun pre W => ∃ c, Ix c pre W ∧ W.heap[w.heap.size + 1]? = some (.loop (rec .done (some c))) ∧ W.heap[w.heap.size]? = some (.deferred (some [])))
      (fun s A C h hab => ⟨hIA s A C h.1 hab, hAb A C _ _ hab h.2.1 rfl, hAb A C _ _ hab h.2.2 rfl⟩)
      (fun s A C h hab => by
        obtain ⟨c, h1, h2, h3⟩ := h
        exact ⟨c, hIxA c s A C h1 hab, hAb A C _ _ hab h2 rfl, hAb A C _ _ hab h3 rfl⟩)
      ?_ ⟨hI _ _ _ h0 hT, hl1, hd1⟩).mono ?_
    · rintro pre x W ⟨hi, hl, hd⟩ hlen
      have hy := run_yield (P := P) (args := encs x) hl (by rw [hR]; exact hps x)
      have hll : w.heap.size + 1 < W.heap.size := (Array.getElem?_eq_some_iff.1 hl).1
      have hu : Turn w.heap.size W (W.putObj (w.heap.size + 1) (.loop (rec .busy none))) := Turn.put hl rfl (by omega) _
      have hb : (Instr.beginRound (w.heap.size + 1)).run P W = .ok () (W.putObj (w.heap.size + 1) (.loop (rec .busy none))) := by
        rw [run_beginRound (P := P) hl (by rw [hR])]; rw [hR]
      rw [hR] at hy
      refine ⟨fn, _, assign, body, hy, roundIn_of_wpIn trivial (hassign _ x W _ ⟨_, hb, ?_⟩)⟩
      refine wpIn_mono (hbody _ pre x _ (hI _ _ _ hi hu) hlen) ?_
      intro e a3 W3 hp
      refine round_over (P := P) (Kp := Kp) (B := w.heap.size) (D := w.heap.size) hrec (Nat.le_refl _) (Nat.lt_succ_self _) hKt hKu hI hIx (hKu _ _ hu) ?_ ?_ hp
      · exact World.putObj_heap_same hll
      · exact (World.putObj_heap_other (by omega)).trans hd
    · rintro e W2 ⟨⟨v, rfl⟩, (⟨xs, hS, hi, hl, hd⟩ | ⟨pre, hSp, c, hi, hl, hd⟩)⟩
      · have he := run_endLoop (P := P) hl (by rw [hR]; simp)
        have hu := Turn.put (B := w.heap.size) hl rfl (by omega) (.loop { rec .ready none with state := .exhausted })
        refine ⟨none, _, ?_, hdone _ xs _ (Nat.le_refl _) hS (hI _ _ _ hi hu) ((World.putObj_heap_other (by omega)).trans hd)⟩
        rw [he, hR]
      · have he := run_endLoop (P := P) hl (by rw [hR]; simp)
        have hu := Turn.put (B := w.heap.size) hl rfl (by omega) (.loop { rec .done (some c) with state := .exhausted })
        refine ⟨some c, _, ?_, hstop _ c pre _ (Nat.le_refl _) hSp (hIx _ _ _ _ hi hu) ((World.putObj_heap_other (by omega)).trans hd)⟩
        rw [he, hR]
end Go.Proofs.YtpgjhjlhipikgaaDoor.Rg
end
section
set_option linter.unusedVariables false
set_option linter.unusedSimpArgs false
namespace Go.Proofs.YtpgjhjlhipikgaaDoor.PK
open Go.RowKit Go.Proofs.YtpgjhjlhipikgaaDoorW.PrintWords Go.Proofs.YtpgjhjlhipikgaaDoorW.PrintLast Go.Proofs.YtpgjhjlhipikgaaDoorW.PrintMore
theorem bk_empty (s : ByteArray) : decide (s.size ≠ 0) = !s.toList.isEmpty := by
  rw [ByteArray.toList_eq, Bool.eq_iff_iff]
  show decide (s.data.size ≠ 0) = true ↔ _
  rw [← Array.length_toList]
  cases s.data.toList <;> simp
theorem bk_text1 (s : ByteArray) (w : World) : Calls Tryd.prog 64 #[.string s] w fun e w' => e = .returned (.bool (decide (s.size ≠ 0))) ∧ w' = w := by
  go_enter Tryd.func64, Tryd.ntmps64
  go_wp2
  go_ret
  exact ⟨by show _ = Ending.returned (Value.bool _); rw [bk_empty]; rfl, rfl⟩
theorem bk_text3 (s : ByteArray) (w : World) : Calls Tryd.prog 68 #[.string s] w fun e w' => e = .returned (.bool true) ∧ w' = w := by
  go_enter Tryd.func68, Tryd.ntmps68
  go_wp2
  go_ret
  exact ⟨rfl, rfl⟩
theorem bk_between (a b : ByteArray) (w : World) : Calls Tryd.prog 65 #[.string a, .string b] w fun e w' =>
    e = .returned (.func (.func 66) #[] #[.pointer (some ⟨w.heap.size, 0, none⟩), .pointer (some ⟨w.heap.size + 1, 0, none⟩)]) ∧ w' = (w.alloc (.cells #[.string a] 9)).alloc (.cells #[.string b] 9) := by
  go_enter Tryd.func65, Tryd.ntmps65
  go_wp2
  go_ret
  exact ⟨rfl, rfl⟩
def bk_Line (W : World) (B : Nat) (L : Value) (a b : ByteArray) : Prop := ∃ x y, B ≤ x ∧ B ≤ y ∧ L = .func (.func 66) #[] #[.pointer (some ⟨x, 0, none⟩), .pointer (some ⟨y, 0, none⟩)] ∧
  W.heap[x]? = some (Obj.cells #[.string a] 9 (0, 0)) ∧ W.heap[y]? = some (Obj.cells #[.string b] 9 (0, 0))
theorem bk_Line.step {W W' : World} {B : Nat} {L : Value} {a b : ByteArray} (h : bk_Line W B L a b) (hk : ∀ (x : Nat) (v : Array Value), W.heap[x]? = some (Obj.cells v 9 (0, 0)) → W'.heap[x]? = some (Obj.cells v 9 (0, 0))) : bk_Line W' B L a b := by
  obtain ⟨x, y, h1, h2, h3, h4, h5⟩ := h
  exact ⟨x, y, h1, h2, h3, hk _ _ h4, hk _ _ h5⟩
def bk_kind (t : Value) (q : Bool) (l : Value) : Value := .agg #[t, .bool q, l]
def bk_f (n : Nat) : Value := .func (.func n) #[] #[]
def bk_kinds (L1 L3 L4 L5 : Value) (j : Int) : Option Value := if j = 5 then some (bk_kind (bk_f 69) false L5) else if j = 4 then some (bk_kind (bk_f 64) false L4) else if j = 3 then some (bk_kind (bk_f 68) true L3) else
  if j = 2 then some (bk_kind (bk_f 64) false (bk_f 67)) else if j = 1 then some (bk_kind (bk_f 64) false L1) else none
theorem bk_size (w : World) (o : Obj) : (w.alloc o).heap.size = w.heap.size + 1 := by show (_ : Array Obj).size = _; exact Array.size_push _
theorem bk_line_new (W : World) (B : Nat) (a b : ByteArray) (h : B ≤ W.heap.size) :
    bk_Line ((W.alloc (.cells #[.string a] 9)).alloc (.cells #[.string b] 9)) B (.func (.func 66) #[] #[.pointer (some ⟨W.heap.size, 0, none⟩), .pointer (some ⟨W.heap.size + 1, 0, none⟩)]) a b := by
  have h1 := MapKept.heap_alloc W (.cells #[.string a] 9)
  have h2 := MapKept.heap_alloc (W.alloc (.cells #[.string a] 9)) (.cells #[.string b] 9)
  have hs : (W.alloc (.cells #[.string a] 9)).heap.size = W.heap.size + 1 := bk_size _ _
  rw [hs] at h2
  refine ⟨_, _, h, Nat.le_succ_of_le h, rfl, ?_, h2.1⟩
  rw [Below.heap_alloc _ _ _ (by rw [hs]; omega)]
  exact h1.1
theorem bk_two (W : World) (o o' : Obj) : ∀ (x : Nat) (v : Array Value), W.heap[x]? = some (Obj.cells v 9 (0, 0)) → ((W.alloc o).alloc o').heap[x]? = some (Obj.cells v 9 (0, 0)) := fun x v h => by
  have hlt := (Array.getElem?_eq_some_iff.1 h).1
  have hs : (W.alloc o).heap.size = W.heap.size + 1 := bk_size _ _
  rw [Below.heap_alloc _ _ _ (by rw [hs]; omega), Below.heap_alloc _ _ _ hlt]
  exact h
set_option maxHeartbeats 4000000 in
set_option maxRecDepth 100000 in
theorem bk_kinds_calls (w : World) : Calls Tryd.prog 40 #[] w fun e w' => ∃ b L1 L3 L4 L5, e = .returned (.map (some b)) ∧ w.heap.size ≤ b ∧
    Mp.IMap w' b 5 (bk_kinds L1 L3 L4 L5) ∧ bk_Line w' w.heap.size L1 ⟨#[]⟩ ⟨#[]⟩ ∧ bk_Line w' w.heap.size L3 ⟨#[34]⟩ ⟨#[34]⟩ ∧ bk_Line w' w.heap.size L4 ⟨#[91]⟩ ⟨#[93]⟩ ∧ bk_Line w' w.heap.size L5 ⟨#[35]⟩ ⟨#[]⟩ ∧ Below w.heap.size w w' := by
  have hI := Mp.IMap.made w
  have hB := below_alloc (Below.refl w.heap.size w) (.map #[] 0)
  have hmk := @run_makeMap Tryd.prog
  go_enter Tryd.func40, Tryd.ntmps40
  go_wp2_with ((first | (with_reducible refine Mp.is_insert (.inl rfl) ?_) | (with_reducible refine Mp.is_insert (.inr rfl) ?_)); refine Rg.stop_here ?_)
  refine (bk_between _ _ _).mono ?_
  rintro e w1 ⟨rfl, rfl⟩
  have hB0 := hB
  replace hB := below_alloc (below_alloc hB (.cells #[.string (⟨#[]⟩ : ByteArray)] 9)) (.cells #[.string (⟨#[]⟩ : ByteArray)] 9)
  replace hI := (hI.alloc (.cells #[.string (⟨#[]⟩ : ByteArray)] 9)).alloc (.cells #[.string (⟨#[]⟩ : ByteArray)] 9)
  have hL1 := bk_line_new _ w.heap.size ((⟨#[]⟩ : ByteArray)) ((⟨#[]⟩ : ByteArray)) (below_size hB0)
  go_wp2_with ((first | (with_reducible refine Mp.is_insert (.inl rfl) ?_) | (with_reducible refine Mp.is_insert (.inr rfl) ?_)); refine Rg.stop_here ?_)
  refine ⟨?_⟩
  refine Mp.wpList_put rfl _ _ _ 54 (.inl rfl) 3 52 Tryd.underlying54 Tryd.underlying3 _ 0 _ rfl hI (by unfold maxLen; omega) 1 _ rfl rfl (by first | rfl | simp) ?_
  intro w1' hI' hgr
  replace hL1 := hL1.step (fun _ _ hx => hI.kept hgr hx)
  replace hB := hB.grown hgr (below_size hB) (fun j hj => by cases hj; exact Nat.le_refl _)
  replace hI := hI'
  clear hgr hI'
  go_wp2_with ((first | (with_reducible refine Mp.is_insert (.inl rfl) ?_) | (with_reducible refine Mp.is_insert (.inr rfl) ?_)); refine Rg.stop_here ?_)
  refine ⟨?_⟩
  refine Mp.wpList_put rfl _ _ _ 54 (.inl rfl) 3 52 Tryd.underlying54 Tryd.underlying3 _ 1 _ rfl hI (by unfold maxLen; omega) 2 _ rfl rfl (by first | rfl | simp) ?_
  intro w2' hI' hgr
  replace hL1 := hL1.step (fun _ _ hx => hI.kept hgr hx)
  replace hB := hB.grown hgr (below_size hB) (fun j hj => by cases hj; exact Nat.le_refl _)
  replace hI := hI'
  clear hgr hI'
  go_wp2_with ((first | (with_reducible refine Mp.is_insert (.inl rfl) ?_) | (with_reducible refine Mp.is_insert (.inr rfl) ?_)); refine Rg.stop_here ?_)
  refine (bk_between _ _ _).mono ?_
  rintro e w3 ⟨rfl, rfl⟩
  have hB0 := hB
  replace hB := below_alloc (below_alloc hB (.cells #[.string (⟨#[34]⟩ : ByteArray)] 9)) (.cells #[.string (⟨#[34]⟩ : ByteArray)] 9)
  replace hI := (hI.alloc (.cells #[.string (⟨#[34]⟩ : ByteArray)] 9)).alloc (.cells #[.string (⟨#[34]⟩ : ByteArray)] 9)
  replace hL1 := hL1.step (bk_two _ (.cells #[.string (⟨#[34]⟩ : ByteArray)] 9) (.cells #[.string (⟨#[34]⟩ : ByteArray)] 9))
  have hL3 := bk_line_new _ w.heap.size ((⟨#[34]⟩ : ByteArray)) ((⟨#[34]⟩ : ByteArray)) (below_size hB0)
  go_wp2_with ((first | (with_reducible refine Mp.is_insert (.inl rfl) ?_) | (with_reducible refine Mp.is_insert (.inr rfl) ?_)); refine Rg.stop_here ?_)
  refine ⟨?_⟩
  refine Mp.wpList_put rfl _ _ _ 54 (.inl rfl) 3 52 Tryd.underlying54 Tryd.underlying3 _ 2 _ rfl hI (by unfold maxLen; omega) 3 _ rfl rfl (by first | rfl | simp) ?_
  intro w3' hI' hgr
  replace hL1 := hL1.step (fun _ _ hx => hI.kept hgr hx)
  replace hL3 := hL3.step (fun _ _ hx => hI.kept hgr hx)
  replace hB := hB.grown hgr (below_size hB) (fun j hj => by cases hj; exact Nat.le_refl _)
  replace hI := hI'
  clear hgr hI'
  go_wp2_with ((first | (with_reducible refine Mp.is_insert (.inl rfl) ?_) | (with_reducible refine Mp.is_insert (.inr rfl) ?_)); refine Rg.stop_here ?_)
  refine (bk_between _ _ _).mono ?_
  rintro e w4 ⟨rfl, rfl⟩
  have hB0 := hB
  replace hB := below_alloc (below_alloc hB (.cells #[.string (⟨#[91]⟩ : ByteArray)] 9)) (.cells #[.string (⟨#[93]⟩ : ByteArray)] 9)
  replace hI := (hI.alloc (.cells #[.string (⟨#[91]⟩ : ByteArray)] 9)).alloc (.cells #[.string (⟨#[93]⟩ : ByteArray)] 9)
  replace hL1 := hL1.step (bk_two _ (.cells #[.string (⟨#[91]⟩ : ByteArray)] 9) (.cells #[.string (⟨#[93]⟩ : ByteArray)] 9))
  replace hL3 := hL3.step (bk_two _ (.cells #[.string (⟨#[91]⟩ : ByteArray)] 9) (.cells #[.string (⟨#[93]⟩ : ByteArray)] 9))
  have hL4 := bk_line_new _ w.heap.size ((⟨#[91]⟩ : ByteArray)) ((⟨#[93]⟩ : ByteArray)) (below_size hB0)
  go_wp2_with ((first | (with_reducible refine Mp.is_insert (.inl rfl) ?_) | (with_reducible refine Mp.is_insert (.inr rfl) ?_)); refine Rg.stop_here ?_)
  refine ⟨?_⟩
  refine Mp.wpList_put rfl _ _ _ 54 (.inl rfl) 3 52 Tryd.underlying54 Tryd.underlying3 _ 3 _ rfl hI (by unfold maxLen; omega) 4 _ rfl rfl (by first | rfl | simp) ?_
  intro w4' hI' hgr
  replace hL1 := hL1.step (fun _ _ hx => hI.kept hgr hx)
  replace hL3 := hL3.step (fun _ _ hx => hI.kept hgr hx)
  replace hL4 := hL4.step (fun _ _ hx => hI.kept hgr hx)
  replace hB := hB.grown hgr (below_size hB) (fun j hj => by cases hj; exact Nat.le_refl _)
  replace hI := hI'
  clear hgr hI'
  go_wp2_with ((first | (with_reducible refine Mp.is_insert (.inl rfl) ?_) | (with_reducible refine Mp.is_insert (.inr rfl) ?_)); refine Rg.stop_here ?_)
  refine (bk_between _ _ _).mono ?_
  rintro e w5 ⟨rfl, rfl⟩
  have hB0 := hB
  replace hB := below_alloc (below_alloc hB (.cells #[.string (⟨#[35]⟩ : ByteArray)] 9)) (.cells #[.string (⟨#[]⟩ : ByteArray)] 9)
  replace hI := (hI.alloc (.cells #[.string (⟨#[35]⟩ : ByteArray)] 9)).alloc (.cells #[.string (⟨#[]⟩ : ByteArray)] 9)
  replace hL1 := hL1.step (bk_two _ (.cells #[.string (⟨#[35]⟩ : ByteArray)] 9) (.cells #[.string (⟨#[]⟩ : ByteArray)] 9))
  replace hL3 := hL3.step (bk_two _ (.cells #[.string (⟨#[35]⟩ : ByteArray)] 9) (.cells #[.string (⟨#[]⟩ : ByteArray)] 9))
  replace hL4 := hL4.step (bk_two _ (.cells #[.string (⟨#[35]⟩ : ByteArray)] 9) (.cells #[.string (⟨#[]⟩ : ByteArray)] 9))
  have hL5 := bk_line_new _ w.heap.size ((⟨#[35]⟩ : ByteArray)) ((⟨#[]⟩ : ByteArray)) (below_size hB0)
  go_wp2_with ((first | (with_reducible refine Mp.is_insert (.inl rfl) ?_) | (with_reducible refine Mp.is_insert (.inr rfl) ?_)); refine Rg.stop_here ?_)
  refine ⟨?_⟩
  refine Mp.wpList_put rfl _ _ _ 54 (.inl rfl) 3 52 Tryd.underlying54 Tryd.underlying3 _ 4 _ rfl hI (by unfold maxLen; omega) 5 _ rfl rfl (by first | rfl | simp) ?_
  intro w5' hI' hgr
  replace hL1 := hL1.step (fun _ _ hx => hI.kept hgr hx)
  replace hL3 := hL3.step (fun _ _ hx => hI.kept hgr hx)
  replace hL4 := hL4.step (fun _ _ hx => hI.kept hgr hx)
  replace hL5 := hL5.step (fun _ _ hx => hI.kept hgr hx)
  replace hB := hB.grown hgr (below_size hB) (fun j hj => by cases hj; exact Nat.le_refl _)
  replace hI := hI'
  clear hgr hI'
  have hs1 : (w.alloc (.map #[] 0)).heap.size = w.heap.size + 1 := bk_size _ _
  rw [hs1] at hL1
  go_wp2
  go_ret
  exact ⟨_, _, _, _, _, rfl, Nat.le_refl _, hI, hL1, hL3, hL4, hL5, hB⟩
theorem bk_cell {w : World} {b : Nat} {cs : Array Value} {t : TypeId} {fr : Nat × Nat} (h : w.heap[b]? = some (.cells cs t fr)) (j : Nat) : w.cell? ⟨b, j, none⟩ = cs[j]? := by
  simp [World.cell?, h]
theorem bk_frozen {w : World} {b : Nat} {cs : Array Value} {t : TypeId} (h : w.heap[b]? = some (.cells cs t (0, 0))) (j : Nat) : w.frozen? ⟨b, j, none⟩ = false := by
  simp [World.frozen?, h]
def bk_noKind : Obj := .cells #[.nilFunc, .bool false, .nilFunc] 52
theorem bk_noKind_cells (w : World) : (w.alloc bk_noKind).cell? ⟨w.heap.size, 0, none⟩ = some .nilFunc ∧ (w.alloc bk_noKind).cell? ⟨w.heap.size, 1, none⟩ = some (.bool false) ∧ (w.alloc bk_noKind).cell? ⟨w.heap.size, 2, none⟩ = some .nilFunc ∧
    (w.alloc bk_noKind).frozen? ⟨w.heap.size, 0, none⟩ = false ∧ (w.alloc bk_noKind).frozen? ⟨w.heap.size, 1, none⟩ = false ∧ (w.alloc bk_noKind).frozen? ⟨w.heap.size, 2, none⟩ = false := by
  have h : (w.alloc bk_noKind).heap[w.heap.size]? = some bk_noKind := (MapKept.heap_alloc w bk_noKind).1
  exact ⟨bk_cell h 0, bk_cell h 1, bk_cell h 2, bk_frozen h 0, bk_frozen h 1, bk_frozen h 2⟩
theorem bk_zeroKind (w : World) : (zeroValue 52).run Tryd.prog w = .ok (.agg #[.nilFunc, .bool false, .nilFunc]) w := by kernel_rfl
def bk_Want (kind : Int) (T : Nat) (q : Bool) : Prop :=
  ((kind = 1 ∨ kind = 2 ∨ kind = 4) ∧ T = 64 ∧ q = false) ∨ (kind = 3 ∧ T = 68 ∧ q = true) ∨ (kind = 5 ∧ T = 69 ∧ q = false)
def bk_Fn (v : Value) : Prop := ∃ fn c, v = .func fn #[] c
theorem bk_Line.fn {W : World} {B : Nat} {L : Value} {a b : ByteArray} (h : bk_Line W B L a b) : bk_Fn L := by
  obtain ⟨x, y, _, _, rfl, _⟩ := h
  exact ⟨_, _, rfl⟩
theorem bk_kinds_cases (kind : Int) : ((∀ L1 L3 L4 L5, bk_kinds L1 L3 L4 L5 kind = none) ∧ kind ≠ 1 ∧ kind ≠ 2 ∧ kind ≠ 3 ∧ kind ≠ 4 ∧ kind ≠ 5) ∨
    ∃ (T : Nat) (q : Bool), bk_Want kind T q ∧ ∀ L1 L3 L4 L5, bk_Fn L1 → bk_Fn L3 → bk_Fn L4 → bk_Fn L5 → ∃ fn c, bk_kinds L1 L3 L4 L5 kind = some (.agg #[.func (.func T) #[] #[], .bool q, .func fn #[] c]) := by
  by_cases h5 : kind = 5
  · subst h5; exact .inr ⟨_, _, .inr (.inr ⟨rfl, rfl, rfl⟩), fun _ _ _ _ _ _ _ ⟨fn, c, h⟩ => ⟨fn, c, by subst h; rfl⟩⟩
  by_cases h4 : kind = 4
  · subst h4; exact .inr ⟨_, _, .inl ⟨.inr (.inr rfl), rfl, rfl⟩, fun _ _ _ _ _ _ ⟨fn, c, h⟩ _ => ⟨fn, c, by subst h; rfl⟩⟩
  by_cases h3 : kind = 3
  · subst h3; exact .inr ⟨_, _, .inr (.inl ⟨rfl, rfl, rfl⟩), fun _ _ _ _ _ ⟨fn, c, h⟩ _ _ => ⟨fn, c, by subst h; rfl⟩⟩
  by_cases h2 : kind = 2
  · subst h2; exact .inr ⟨_, _, .inl ⟨.inr (.inl rfl), rfl, rfl⟩, fun _ _ _ _ _ _ _ _ => ⟨_, _, rfl⟩⟩
  by_cases h1 : kind = 1
  · subst h1; exact .inr ⟨_, _, .inl ⟨.inl rfl, rfl, rfl⟩, fun _ _ _ _ ⟨fn, c, h⟩ _ _ _ => ⟨fn, c, by subst h; rfl⟩⟩
  exact .inl ⟨fun _ _ _ _ => by simp [bk_kinds, h1, h2, h3, h4, h5], h1, h2, h3, h4, h5⟩
theorem bk_belA {w w1 : World} {o : Obj} (h : Below (w.alloc o).drew.heap.size (w.alloc o).drew w1) : Below (w.heap.size + 1) (w.alloc o) w1 ∧ w.heap.size + 1 ≤ w1.heap.size := by
  have e : (w.alloc o).drew.heap.size = w.heap.size + 1 := bk_size w o
  exact ⟨⟨h.os, h.tape, h.output, h.size, fun i hi => h.block i (by rw [e]; exact hi)⟩, e ▸ h.size⟩
theorem bk_belB {w w1 : World} {o o' : Obj} (h : Below ((w.alloc o).alloc o').drew.heap.size ((w.alloc o).alloc o').drew w1) : Below (w.heap.size + 1) (w.alloc o) w1 ∧ w.heap.size + 1 ≤ w1.heap.size := by
  have e : ((w.alloc o).alloc o').drew.heap.size = w.heap.size + 1 + 1 := (bk_size _ o').trans (by rw [bk_size])
  have e2 : (w.alloc o).heap.size = w.heap.size + 1 := bk_size w o
  have hs := h.size
  rw [e] at hs
  exact ⟨⟨h.os, h.tape, h.output, by omega, fun i hi => (h.block i (by rw [e]; omega)).trans (Below.heap_alloc _ _ i (by rw [e2]; exact hi))⟩, by omega⟩
theorem bk_belw {w w1 : World} {o : Obj} (h : Below (w.heap.size + 1) (w.alloc o) w1) : Below w.heap.size w w1 :=
  ⟨h.os, h.tape, h.output, by have := h.size; rw [bk_size] at this; omega, fun i hi => (h.block i (by omega)).trans (Below.heap_alloc _ _ i hi)⟩
theorem bk_belbox {w w1 : World} {cs : Array Value} {t : TypeId} (h : Below (w.heap.size + 1) (w.alloc (.cells cs t)) w1) : w1.heap[w.heap.size]? = some (.cells cs t (0, 0)) :=
  (h.block _ (by omega)).trans (MapKept.heap_alloc w _).1
structure bk_Box (W : World) (b : Nat) (x0 x1 : Int) (x2 : ByteArray) (x3 x4 x5 : Int) (v6 : Value) (x7 x8 : Int) : Prop where mk ::
  c0 : W.cell? ⟨b, 0, none⟩ = some (.int .i64 x0)
  c1 : W.cell? ⟨b, 1, none⟩ = some (.int .i64 x1)
  c2 : W.cell? ⟨b, 2, none⟩ = some (.string x2)
  c3 : W.cell? ⟨b, 3, none⟩ = some (.int .i64 x3)
  c4 : W.cell? ⟨b, 4, none⟩ = some (.int .i64 x4)
  c5 : W.cell? ⟨b, 5, none⟩ = some (.int .i64 x5)
  c6 : W.cell? ⟨b, 6, none⟩ = some v6
  c7 : W.cell? ⟨b, 7, none⟩ = some (.int .i64 x7)
  c8 : W.cell? ⟨b, 8, none⟩ = some (.int .i64 x8)
theorem bk_Box.of {W : World} {b : Nat} {x0 x1 : Int} {x2 : ByteArray} {x3 x4 x5 : Int} {v6 : Value} {x7 x8 : Int} (h : W.heap[b]? = some (.cells #[.int .i64 x0, .int .i64 x1, .string x2, .int .i64 x3, .int .i64 x4, .int .i64 x5, v6, .int .i64 x7, .int .i64 x8] 26 (0, 0))) :
    bk_Box W b x0 x1 x2 x3 x4 x5 v6 x7 x8 := ⟨bk_cell h 0, bk_cell h 1, bk_cell h 2, bk_cell h 3, bk_cell h 4, bk_cell h 5, bk_cell h 6, bk_cell h 7, bk_cell h 8⟩
theorem bk_Box.step {W W' : World} {b : Nat} {x0 x1 : Int} {x2 : ByteArray} {x3 x4 x5 : Int} {v6 : Value} {x7 x8 : Int} (h : bk_Box W b x0 x1 x2 x3 x4 x5 v6 x7 x8) (hb : Below W.heap.size W W') : bk_Box W' b x0 x1 x2 x3 x4 x5 v6 x7 x8 :=
  ⟨(hb.cell (World.block_lt_of_cell? _ _ h.c0)).trans h.c0, (hb.cell (World.block_lt_of_cell? _ _ h.c1)).trans h.c1, (hb.cell (World.block_lt_of_cell? _ _ h.c2)).trans h.c2, (hb.cell (World.block_lt_of_cell? _ _ h.c3)).trans h.c3, (hb.cell (World.block_lt_of_cell? _ _ h.c4)).trans h.c4, (hb.cell (World.block_lt_of_cell? _ _ h.c5)).trans h.c5, (hb.cell (World.block_lt_of_cell? _ _ h.c6)).trans h.c6, (hb.cell (World.block_lt_of_cell? _ _ h.c7)).trans h.c7, (hb.cell (World.block_lt_of_cell? _ _ h.c8)).trans h.c8⟩
theorem bk_stepc {W W' : World} {p : Addr} {v : Value} (h : W.cell? p = some v) (hb : Below W.heap.size W W') : W'.cell? p = some v := (hb.cell (World.block_lt_of_cell? _ _ h)).trans h
end Go.Proofs.YtpgjhjlhipikgaaDoor.PK
end
section
set_option linter.unusedVariables false
namespace Go.Proofs.YtpgjhjlhipikgaaDoor.PK
open Go.RowKit Go.Proofs.YtpgjhjlhipikgaaDoorW.PrintWords Go.Proofs.YtpgjhjlhipikgaaDoorW.PrintLast Go.Proofs.YtpgjhjlhipikgaaDoorW.PrintMore
theorem is_alloc {P : Program} {W : World} {ops : Array Oper} {rest : List Oper} {o : Oper} {a : Act} {Q : Exit → Act → World → Prop} {t : TypeId} (_ : o.op = .alloc t) (h : wpList P ops Q (o :: rest) a W) : wpList P ops Q (o :: rest) a W := h
theorem is_store {P : Program} {W : World} {ops : Array Oper} {rest : List Oper} {o : Oper} {a : Act} {Q : Exit → Act → World → Prop} {t : TypeId} {p x : Operand} (_ : o.op = .store t p x) (h : wpList P ops Q (o :: rest) a W) : wpList P ops Q (o :: rest) a W := h
theorem wpList_store_box {P : Program} {W : World} {ops : Array Oper} {rest : List Oper} {o : Oper} {a : Act} {Q : Exit → Act → World → Prop} (hgd : o.guard = none) (hN : o.dst = none) (t : TypeId) (p x : Operand) (hop : o.op = .store t p x)
    (g : Nat) (cur cs : Array Value) (e : TypeId) (ha : a.eval p = .pointer (some ⟨g, 0, none⟩)) (hx : a.eval x = .agg cs) (hh : W.heap[g]? = some (.cells cur e (0, 0))) (hsz : (P.info? t).map (·.size) = some cs.toList.length) (hcur : cur.size = cs.size)
    (h1 : ∀ q ∈ cs.toList, q.oneCell' = true)
    (h : ∀ w2, w2.heap[g]? = some (.cells cs e (0, 0)) → (∀ B, B ≤ g → Below B W w2) → (∀ k, k ≠ g → w2.heap[k]? = W.heap[k]?) → wpList P ops Q rest a w2) : wpList P ops Q (o :: rest) a W := by
  refine wpList_plain hgd fun K hK => ?_
  have hrun : (Instr.storeAt t (.pointer (some ⟨g, 0, none⟩)) (.agg cs)).run P W = .ok () (W.setCells g 0 cs.toList) :=
    run_store_run t (.agg cs) cs.toList hh rfl hsz (by rw [Array.length_toList]; omega) h1
  obtain ⟨cur', hr1, hr2, hr3⟩ := setCells_row cs.toList 0 W cur hh (by rw [Array.length_toList]; omega)
  have hcs : cur' = cs := by
    apply Array.ext'
    rw [hr3, List.take_zero, List.nil_append, List.drop_eq_nil_of_le (by rw [Array.length_toList, Array.length_toList]; omega), List.append_nil]
  subst hcs
  obtain ⟨s1, s2, s3, s4⟩ := setCells_same g cur'.toList 0 W
  have hlt := (Array.getElem?_eq_some_iff.1 hh).1
  unfold Oper.wp execOp
  simp only [hop, ha, hx, Sem.run_bind, Sem.run_pure, Result.andThen_ok, hrun]
  show K (a.put o.dst undef) _
  rw [hN]
  exact hK _ _ (h _ hr1 (fun B hB => ⟨s1, s2, s3, by omega, fun k hk => setCells_far _ _ k (by omega)⟩) (fun k hk => setCells_far _ _ k hk))
theorem bk_size26 : (Tryd.prog.info? 26).map (·.size) = some 9 := by kernel_rfl
theorem bk_rd (l : List (S26)) (j : Nat) (h : j < l.length) : rd_T26 l (j : Int) = l[j] := by
  simp [rd_T26, List.getD_eq_getElem?_getD, h]
theorem bk_size52 : (Tryd.prog.info? 52).map (·.size) = some 3 := by kernel_rfl
end Go.Proofs.YtpgjhjlhipikgaaDoor.PK
end
