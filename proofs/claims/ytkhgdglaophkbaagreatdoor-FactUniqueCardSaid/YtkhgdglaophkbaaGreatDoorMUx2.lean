/- Texts of this claim, one behind the other. -/
import Derived.Shelf.Strings.Builder1
import Derived.Shelf.Strings.Builder2
import Derived.Shelf.Strings.OnBuilder
import Derived.Shelf.Strings.Trim
import Derived.Shelf.Small.Utf8
import Derived.Shelf.Small.Strs
import Derived.Shelf.Strings.Search1
import Derived.Shelf.Strings.Search2
import Derived.Shelf.Strings.Search3
import Derived.Shelf.LaysM
import Derived.Shelf.Strings.Shaped
import Derived.Shelf.GgClosure.StringsIndexFunc
import Derived.Ground.GgwProg
import Derived.Shelf.GgClosure.StringsIndexFuncTop
import Derived.Shelf.Strings.Runes
import Derived.Shelf.Strings.AsciiSet
import Derived.Shelf.Unicode.DecodeSlow
import Derived.Test.YtkhgdglaophkbaaGreatDoorProg
import Derived.WalkKit
import Derived.Lib.Builder
import Derived.Lib.AppendStr
import Derived.Lib.UnsafeStr
import Derived.Laws.Externs
import Derived.Laws.Strings
import Derived.Tactics
import Derived.Below
import Derived.Deep.Draws
import Derived.Deep.AppendLies
import Derived.Maps.AppendAt
import Derived.OwnWalk
import Derived.Laws.BytesArg
import Derived.Laws.MakeOwn
import Derived.Laws.OwnMore
import Derived.Deep.OwnRows
import Derived.Lib.ConvBytes
import Derived.Laws.Slices
import Derived.KernelRfl
import Derived.RowKit3
import Derived.Deep.LoopGhost
import Derived.Deep.QuietTactic
import Derived.BigQuiet
import Derived.WideLaws
import Derived.Deep.DeepCutAuto
import Derived.Deep.CutBlock
import Derived.Deep.RegionHeld3
import Derived.Laws.Rows
import Derived.ArgAppend
import Derived.Laws.IdiomCopy
import Derived.OrdersHeld
import Derived.Laws.BitsLemmas
import Derived.RowKit
import Derived.Test.YtkhgdglaophkbaaGreatDoorMUx1
section
namespace Go.Proofs
open Go.Shelf
def Tryz.lays169_ren : Go.Shelf.Ren := ⟨fun | 169 => 43 | n => n, fun | 70 => 88 | 9 => 9 | 0 => 0 | 72 => 90 | 37 => 81 | 127 => 114 | 3 => 3 | 5 => 5 | n => n, fun | n => n⟩
theorem Tryz.lays169 : Go.Proofs.Lays.n169 Tryz.prog Tryz.lays169_ren := {
  mixed := by kernel_rfl
  f169 := Tryz.func43.trans (congrArg some (by kernel_rfl))
  t0 := Tryz.underlying0
  a0 := Tryz.isAgg0
  z0 := Tryz.sizeOf0
  v0 := Tryz.zeroValue0
  t3 := Tryz.underlying3
  a3 := Tryz.isAgg3
  z3 := Tryz.sizeOf3
  v3 := Tryz.zeroValue3
  t9 := Tryz.underlying9
  a9 := Tryz.isAgg9
  z9 := Tryz.sizeOf9
  v9 := Tryz.zeroValue9
  t37 := Tryz.underlying81
  a37 := Tryz.isAgg81
  z37 := Tryz.sizeOf81
  v37 := Tryz.zeroValue81
  t70 := Tryz.underlying88
  a70 := Tryz.isAgg88
  z70 := Tryz.sizeOf88
  v70 := Tryz.zeroValue88
  t72 := Tryz.underlying90
  a72 := Tryz.isAgg90
  z72 := Tryz.sizeOf90
  v72 := Tryz.zeroValue90
  t127 := Tryz.underlying114
  a127 := Tryz.isAgg114
  z127 := Tryz.sizeOf114
  v127 := Tryz.zeroValue114 }
theorem Tryz.Builder_Extra_169 : Builder.Extra Tryz.prog Tryz.lays169_ren := {
  sizeBuilder := by kernel_rfl
  liesBuilder := by kernel_rfl
  t5 := Tryz.underlying5
  a5 := Tryz.isAgg5
  z5 := Tryz.sizeOf5
  v5 := Tryz.zeroValue5
  infoByte := by kernel_rfl
  cellsByte := by kernel_rfl
  sizeByte := by kernel_rfl
  neB5 := by decide }
open Go.RowKit in
theorem Tryz.Builder_String (B b : Nat) (l : List UInt8) (w : World) (h : Lib.IsBuilder 90 5 B b (Lib.byteCells l) w) (h0 : l ≠ []) :
    Calls Tryz.prog 43 #[.pointer (some ⟨b, 0, none⟩)] w fun e w' => e = .returned (.string ⟨l.toArray⟩) ∧ Below B w w' := Any.Builder_String Tryz.lays169 Tryz.Builder_Extra_169 B b l w h h0
open Go.RowKit in
theorem Tryz.Builder_String_empty (B b : Nat) (w : World) (h : Lib.IsBuilder 90 5 B b [] w) (hBw : B ≤ w.heap.size) :
    Calls Tryz.prog 43 #[.pointer (some ⟨b, 0, none⟩)] w fun e w' => e = .returned (.string ⟨#[]⟩) ∧ Below B w w' := Any.Builder_String_empty Tryz.lays169 Tryz.Builder_Extra_169 B b w h hBw
open Go.RowKit in
theorem Tryz.Builder_String_any (B b : Nat) (l : List UInt8) (w : World) (h : Lib.IsBuilder 90 5 B b (Lib.byteCells l) w) (hBw : B ≤ w.heap.size) :
    Calls Tryz.prog 43 #[.pointer (some ⟨b, 0, none⟩)] w fun e w' => e = .returned (.string ⟨l.toArray⟩) ∧ Below B w w' := Any.Builder_String_any Tryz.lays169 Tryz.Builder_Extra_169 B b l w h hBw
def Tryz.lays241_ren : Go.Shelf.Ren := ⟨fun | 241 => 96 | 277 => 101 | n => n, fun | 70 => 88 | 3 => 3 | 0 => 0 | 72 => 90 | 37 => 81 | 5 => 5 | n => n, fun | n => n⟩
theorem Tryz.lays241 : Go.Proofs.Lays.n241 Tryz.prog Tryz.lays241_ren := {
  mixed := by kernel_rfl
  f241 := Tryz.func96.trans (congrArg some (by kernel_rfl))
  f277 := Tryz.func101.trans (congrArg some (by kernel_rfl))
  t0 := Tryz.underlying0
  a0 := Tryz.isAgg0
  z0 := Tryz.sizeOf0
  v0 := Tryz.zeroValue0
  t3 := Tryz.underlying3
  a3 := Tryz.isAgg3
  z3 := Tryz.sizeOf3
  v3 := Tryz.zeroValue3
  t37 := Tryz.underlying81
  a37 := Tryz.isAgg81
  z37 := Tryz.sizeOf81
  v37 := Tryz.zeroValue81
  t70 := Tryz.underlying88
  a70 := Tryz.isAgg88
  z70 := Tryz.sizeOf88
  v70 := Tryz.zeroValue88
  t72 := Tryz.underlying90
  a72 := Tryz.isAgg90
  z72 := Tryz.sizeOf90
  v72 := Tryz.zeroValue90 }
theorem Tryz.Builder_Extra_241 : Builder.Extra Tryz.prog Tryz.lays241_ren := {
  sizeBuilder := by kernel_rfl
  liesBuilder := by kernel_rfl
  t5 := Tryz.underlying5
  a5 := Tryz.isAgg5
  z5 := Tryz.sizeOf5
  v5 := Tryz.zeroValue5
  infoByte := by kernel_rfl
  cellsByte := by kernel_rfl
  sizeByte := by kernel_rfl
  neB5 := by decide }
open Go.RowKit in
theorem Tryz.Builder_grow_fresh (B b n : Nat) (w : World) (hB : B ≤ b) (hbk : w.heap[b]? = some (.cells #[.pointer (some ⟨b, 0, none⟩), .slice none 0 0] 90 (0, 0))) (hBw : B ≤ w.heap.size) (hn : n ≤ 281474976710656) :
    Calls Tryz.prog 96 #[.pointer (some ⟨b, 0, none⟩), .int .i64 n] w fun e w' => e = .returned (.tuple #[]) ∧ (Lib.BuilderAt 90 5 B b (.pointer (some ⟨b, 0, none⟩)) [] w' ∧ Below B w w') := Any.Builder_grow_fresh Tryz.lays241 Tryz.Builder_Extra_241 B b n w hB hbk hBw hn
def Tryz.lays165_ren : Go.Shelf.Ren := ⟨fun | 165 => 94 | 240 => 63 | 241 => 96 | 276 => 76 | 277 => 101 | n => n, fun | 70 => 88 | 3 => 3 | 0 => 0 | 4 => 4 | 9 => 9 | 20 => 20 | 72 => 90 | 37 => 81 | 164 => 130 | 5 => 5 | n => n, fun | n => n⟩
theorem Tryz.lays165 : Go.Proofs.Lays.n165 Tryz.prog Tryz.lays165_ren := {
  mixed := by kernel_rfl
  f165 := Tryz.func94.trans (congrArg some (by kernel_rfl))
  f240 := Tryz.func63.trans (congrArg some (by kernel_rfl))
  f241 := Tryz.func96.trans (congrArg some (by kernel_rfl))
  f276 := Tryz.func76.trans (congrArg some (by kernel_rfl))
  f277 := Tryz.func101.trans (congrArg some (by kernel_rfl))
  t0 := Tryz.underlying0
  a0 := Tryz.isAgg0
  z0 := Tryz.sizeOf0
  v0 := Tryz.zeroValue0
  t3 := Tryz.underlying3
  a3 := Tryz.isAgg3
  z3 := Tryz.sizeOf3
  v3 := Tryz.zeroValue3
  t4 := Tryz.underlying4
  a4 := Tryz.isAgg4
  z4 := Tryz.sizeOf4
  v4 := Tryz.zeroValue4
  t9 := Tryz.underlying9
  a9 := Tryz.isAgg9
  z9 := Tryz.sizeOf9
  v9 := Tryz.zeroValue9
  t20 := Tryz.underlying20
  a20 := Tryz.isAgg20
  z20 := Tryz.sizeOf20
  v20 := Tryz.zeroValue20
  t37 := Tryz.underlying81
  a37 := Tryz.isAgg81
  z37 := Tryz.sizeOf81
  v37 := Tryz.zeroValue81
  t70 := Tryz.underlying88
  a70 := Tryz.isAgg88
  z70 := Tryz.sizeOf88
  v70 := Tryz.zeroValue88
  t72 := Tryz.underlying90
  a72 := Tryz.isAgg90
  z72 := Tryz.sizeOf90
  v72 := Tryz.zeroValue90
  t164 := Tryz.underlying130
  a164 := Tryz.isAgg130
  z164 := Tryz.sizeOf130
  v164 := Tryz.zeroValue130 }
theorem Tryz.Builder_Extra_165 : Builder.Extra Tryz.prog Tryz.lays165_ren := {
  sizeBuilder := by kernel_rfl
  liesBuilder := by kernel_rfl
  t5 := Tryz.underlying5
  a5 := Tryz.isAgg5
  z5 := Tryz.sizeOf5
  v5 := Tryz.zeroValue5
  infoByte := by kernel_rfl
  cellsByte := by kernel_rfl
  sizeByte := by kernel_rfl
  neB5 := by decide }
open Go.RowKit in
theorem Tryz.Builder_Grow_fresh (B b n : Nat) (w : World) (hB : B ≤ b) (hbk : w.heap[b]? = some (.cells #[.pointer none, .slice none 0 0] 90 (0, 0))) (hBw : B ≤ w.heap.size) (hn : n ≤ 281474976710656) :
    Calls Tryz.prog 94 #[.pointer (some ⟨b, 0, none⟩), .int .i64 n] w fun e w' => e = .returned (.tuple #[]) ∧ (Lib.BuilderAt 90 5 B b (.pointer (some ⟨b, 0, none⟩)) [] w' ∧ Below B w w') := Any.Builder_Grow_fresh Tryz.lays165 Tryz.Builder_Extra_165 B b n w hB hbk hBw hn
def Tryz.lays156_ren : Go.Shelf.Ren := ⟨fun | 156 => 90 | 165 => 94 | 166 => 42 | 169 => 43 | 240 => 63 | 241 => 96 | 276 => 76 | 277 => 101 | n => n, fun | 31 => 22 | 9 => 9 | 3 => 3 | 4 => 4 | 0 => 0 | 20 => 20 | 72 => 90 | 76 => 93 | 70 => 88 | 37 => 81 | 75 => 92 | 127 => 114 | 164 => 130 | 5 => 5 | 80 => 96 | n => n, fun | n => n⟩
theorem Tryz.lays156 : Go.Proofs.Lays.n156 Tryz.prog Tryz.lays156_ren := {
  mixed := by kernel_rfl
  f156 := Tryz.func90.trans (congrArg some (by kernel_rfl))
  f165 := Tryz.func94.trans (congrArg some (by kernel_rfl))
  f166 := Tryz.func42.trans (congrArg some (by kernel_rfl))
  f169 := Tryz.func43.trans (congrArg some (by kernel_rfl))
  f240 := Tryz.func63.trans (congrArg some (by kernel_rfl))
  f241 := Tryz.func96.trans (congrArg some (by kernel_rfl))
  f276 := Tryz.func76.trans (congrArg some (by kernel_rfl))
  f277 := Tryz.func101.trans (congrArg some (by kernel_rfl))
  t0 := Tryz.underlying0
  a0 := Tryz.isAgg0
  z0 := Tryz.sizeOf0
  v0 := Tryz.zeroValue0
  t3 := Tryz.underlying3
  a3 := Tryz.isAgg3
  z3 := Tryz.sizeOf3
  v3 := Tryz.zeroValue3
  t4 := Tryz.underlying4
  a4 := Tryz.isAgg4
  z4 := Tryz.sizeOf4
  v4 := Tryz.zeroValue4
  t9 := Tryz.underlying9
  a9 := Tryz.isAgg9
  z9 := Tryz.sizeOf9
  v9 := Tryz.zeroValue9
  t20 := Tryz.underlying20
  a20 := Tryz.isAgg20
  z20 := Tryz.sizeOf20
  v20 := Tryz.zeroValue20
  t31 := Tryz.underlying22
  a31 := Tryz.isAgg22
  z31 := Tryz.sizeOf22
  v31 := Tryz.zeroValue22
  t37 := Tryz.underlying81
  a37 := Tryz.isAgg81
  z37 := Tryz.sizeOf81
  v37 := Tryz.zeroValue81
  t70 := Tryz.underlying88
  a70 := Tryz.isAgg88
  z70 := Tryz.sizeOf88
  v70 := Tryz.zeroValue88
  t72 := Tryz.underlying90
  a72 := Tryz.isAgg90
  z72 := Tryz.sizeOf90
  v72 := Tryz.zeroValue90
  t75 := Tryz.underlying92
  a75 := Tryz.isAgg92
  z75 := Tryz.sizeOf92
  v75 := Tryz.zeroValue92
  t76 := Tryz.underlying93
  a76 := Tryz.isAgg93
  z76 := Tryz.sizeOf93
  v76 := Tryz.zeroValue93
  t127 := Tryz.underlying114
  a127 := Tryz.isAgg114
  z127 := Tryz.sizeOf114
  v127 := Tryz.zeroValue114
  t164 := Tryz.underlying130
  a164 := Tryz.isAgg130
  z164 := Tryz.sizeOf130
  v164 := Tryz.zeroValue130 }
theorem Tryz.Builder_Extra_156 : Builder.Extra Tryz.prog Tryz.lays156_ren := {
  sizeBuilder := by kernel_rfl
  liesBuilder := by kernel_rfl
  t5 := Tryz.underlying5
  a5 := Tryz.isAgg5
  z5 := Tryz.sizeOf5
  v5 := Tryz.zeroValue5
  infoByte := by kernel_rfl
  cellsByte := by kernel_rfl
  sizeByte := by kernel_rfl
  neB5 := by decide }
open Go.RowKit in
theorem Tryz.strings_Join_none (a : Option Addr) (c : Nat) (sep : ByteArray) (w : World) :
    Calls Tryz.prog 90 #[.slice a 0 c, .string sep] w fun e w' => e = .returned (.string ⟨#[]⟩) ∧ w' = w := Any.strings_Join_none Tryz.lays156 Tryz.Builder_Extra_156 a c sep w
open Go.RowKit in
theorem Tryz.strings_Join (bk o c : Nat) (xs : List ByteArray) (sep : ByteArray) (w : World) (hcells : ∀ (j : Nat) x, xs[j]? = some x → w.cell? ⟨bk, o + j, none⟩ = some (.string x)) (hbk : bk < w.heap.size) (hN : xs.length ≤ 140737488355328) (hcap : xs.length ≤ c) (hlen : (Lib.join (xs.map (·.data.toList)) sep.data.toList).length ≤ 140737488355328) :
    Calls Tryz.prog 90 #[.slice (some ⟨bk, o, none⟩) xs.length c, .string sep] w fun e w' => e = .returned (.string ⟨(Lib.join (xs.map (·.data.toList)) sep.data.toList).toArray⟩) ∧ Below w.heap.size w w' := Any.strings_Join Tryz.lays156 Tryz.Builder_Extra_156 bk o c xs sep w hcells hbk hN hcap hlen
def Tryz.lays231_ren : Go.Shelf.Ren := ⟨fun | 231 => 103 | n => n, fun | 9 => 9 | 5 => 5 | 3 => 3 | 4 => 4 | n => n, fun | n => n⟩
theorem Tryz.lays231 : Go.Proofs.Lays.n231 Tryz.prog Tryz.lays231_ren := {
  mixed := by kernel_rfl
  f231 := Tryz.func103.trans (congrArg some (by kernel_rfl))
  t3 := Tryz.underlying3
  a3 := Tryz.isAgg3
  z3 := Tryz.sizeOf3
  v3 := Tryz.zeroValue3
  t4 := Tryz.underlying4
  a4 := Tryz.isAgg4
  z4 := Tryz.sizeOf4
  v4 := Tryz.zeroValue4
  t5 := Tryz.underlying5
  a5 := Tryz.isAgg5
  z5 := Tryz.sizeOf5
  v5 := Tryz.zeroValue5
  t9 := Tryz.underlying9
  a9 := Tryz.isAgg9
  z9 := Tryz.sizeOf9
  v9 := Tryz.zeroValue9 }
open Go.RowKit in
theorem Tryz.strings_trimLeftByte (s : ByteArray) (c : UInt8) (w : World) :
    Calls Tryz.prog 103 #[.string s, .int .u8 c.toNat] w fun e w' => e = .returned (.string ⟨(Lib.trimLeftB s.data.toList c).toArray⟩) ∧ w' = w := Any.strings_trimLeftByte Tryz.lays231 s c w
def Tryz.lays232_ren : Go.Shelf.Ren := ⟨fun | 232 => 104 | n => n, fun | 9 => 9 | 5 => 5 | 3 => 3 | 4 => 4 | n => n, fun | n => n⟩
theorem Tryz.lays232 : Go.Proofs.Lays.n232 Tryz.prog Tryz.lays232_ren := {
  mixed := by kernel_rfl
  f232 := Tryz.func104.trans (congrArg some (by kernel_rfl))
  t3 := Tryz.underlying3
  a3 := Tryz.isAgg3
  z3 := Tryz.sizeOf3
  v3 := Tryz.zeroValue3
  t4 := Tryz.underlying4
  a4 := Tryz.isAgg4
  z4 := Tryz.sizeOf4
  v4 := Tryz.zeroValue4
  t5 := Tryz.underlying5
  a5 := Tryz.isAgg5
  z5 := Tryz.sizeOf5
  v5 := Tryz.zeroValue5
  t9 := Tryz.underlying9
  a9 := Tryz.isAgg9
  z9 := Tryz.sizeOf9
  v9 := Tryz.zeroValue9 }
open Go.RowKit in
theorem Tryz.strings_trimRightByte (s : ByteArray) (c : UInt8) (w : World) (hs : s.size ≤ 9223372036854775807) :
    Calls Tryz.prog 104 #[.string s, .int .u8 c.toNat] w fun e w' => e = .returned (.string ⟨(Lib.trimRightB s.data.toList c).toArray⟩) ∧ w' = w := Any.strings_trimRightByte Tryz.lays232 s c w hs
def Tryz.lays160_ren : Go.Shelf.Ren := ⟨fun | 160 => 100 | 232 => 104 | 231 => 103 | 227 => 105 | 234 => 107 | 233 => 106 | 236 => 109 | 235 => 108 | 228 => 111 | 271 => 114 | 151 => 113 | 197 => 112 | 120 => 121 | 152 => 120 | 260 => 119 | 137 => 124 | 119 => 125 | 224 => 117 | 225 => 116 | 217 => 115 | 266 => 122 | n => n, fun | 9 => 9 | 4 => 4 | 3 => 3 | 5 => 5 | 117 => 156 | 116 => 155 | 0 => 0 | 124 => 159 | 21 => 21 | 105 => 160 | 46 => 86 | 119 => 169 | 139 => 172 | 138 => 171 | n => n, fun | 3 => 1 | 4 => 2 | n => n⟩
theorem Tryz.lays160 : Go.Proofs.Lays.n160 Tryz.prog Tryz.lays160_ren := {
  mixed := by kernel_rfl
  f119 := Tryz.func125.trans (congrArg some (by kernel_rfl))
  f120 := Tryz.func121.trans (congrArg some (by kernel_rfl))
  f137 := Tryz.func124.trans (congrArg some (by kernel_rfl))
  f151 := Tryz.func113.trans (congrArg some (by kernel_rfl))
  f152 := Tryz.func120.trans (congrArg some (by kernel_rfl))
  f160 := Tryz.func100.trans (congrArg some (by kernel_rfl))
  f197 := Tryz.func112.trans (congrArg some (by kernel_rfl))
  f217 := Tryz.func115.trans (congrArg some (by kernel_rfl))
  f224 := Tryz.func117.trans (congrArg some (by kernel_rfl))
  f225 := Tryz.func116.trans (congrArg some (by kernel_rfl))
  f227 := Tryz.func105.trans (congrArg some (by kernel_rfl))
  f228 := Tryz.func111.trans (congrArg some (by kernel_rfl))
  f231 := Tryz.func103.trans (congrArg some (by kernel_rfl))
  f232 := Tryz.func104.trans (congrArg some (by kernel_rfl))
  f233 := Tryz.func106.trans (congrArg some (by kernel_rfl))
  f234 := Tryz.func107.trans (congrArg some (by kernel_rfl))
  f235 := Tryz.func108.trans (congrArg some (by kernel_rfl))
  f236 := Tryz.func109.trans (congrArg some (by kernel_rfl))
  f260 := Tryz.func119.trans (congrArg some (by kernel_rfl))
  f266 := Tryz.func122.trans (congrArg some (by kernel_rfl))
  f271 := Tryz.func114.trans (congrArg some (by kernel_rfl))
  t0 := Tryz.underlying0
  a0 := Tryz.isAgg0
  z0 := Tryz.sizeOf0
  v0 := Tryz.zeroValue0
  t3 := Tryz.underlying3
  a3 := Tryz.isAgg3
  z3 := Tryz.sizeOf3
  v3 := Tryz.zeroValue3
  t4 := Tryz.underlying4
  a4 := Tryz.isAgg4
  z4 := Tryz.sizeOf4
  v4 := Tryz.zeroValue4
  t5 := Tryz.underlying5
  a5 := Tryz.isAgg5
  z5 := Tryz.sizeOf5
  v5 := Tryz.zeroValue5
  t9 := Tryz.underlying9
  a9 := Tryz.isAgg9
  z9 := Tryz.sizeOf9
  v9 := Tryz.zeroValue9
  t21 := Tryz.underlying21
  a21 := Tryz.isAgg21
  z21 := Tryz.sizeOf21
  v21 := Tryz.zeroValue21
  t46 := Tryz.underlying86
  a46 := Tryz.isAgg86
  z46 := Tryz.sizeOf86
  v46 := Tryz.zeroValue86
  t105 := Tryz.underlying160
  a105 := Tryz.isAgg160
  z105 := Tryz.sizeOf160
  v105 := Tryz.zeroValue160
  t116 := Tryz.underlying155
  a116 := Tryz.isAgg155
  z116 := Tryz.sizeOf155
  t117 := Tryz.underlying156
  a117 := Tryz.isAgg156
  z117 := Tryz.sizeOf156
  v117 := Tryz.zeroValue156
  t119 := Tryz.underlying169
  a119 := Tryz.isAgg169
  z119 := Tryz.sizeOf169
  t124 := Tryz.underlying159
  a124 := Tryz.isAgg159
  z124 := Tryz.sizeOf159
  v124 := Tryz.zeroValue159
  t138 := Tryz.underlying171
  a138 := Tryz.isAgg171
  z138 := Tryz.sizeOf171
  v138 := Tryz.zeroValue171
  t139 := Tryz.underlying172
  a139 := Tryz.isAgg172
  z139 := Tryz.sizeOf172
  v139 := Tryz.zeroValue172
  g3 := by kernel_rfl
  g4 := by kernel_rfl }
open Go.RowKit in
theorem Tryz.strings_Trim_one (s : ByteArray) (c : UInt8) (hc : c.toNat < 128) (w : World) (hs : s.size ≤ 9223372036854775807) :
    Calls Tryz.prog 100 #[.string s, .string ⟨#[c]⟩] w fun e w' => e = .returned (.string ⟨(Lib.trimB s.data.toList c).toArray⟩) ∧ (w' = w ∨ w' = w.drew) := Any.strings_Trim_one Tryz.lays160 s c hc w hs
def Tryz.lays137_ren : Go.Shelf.Ren := ⟨fun | 137 => 124 | 217 => 115 | 266 => 122 | n => n, fun | 9 => 9 | 5 => 5 | 3 => 3 | n => n, fun | n => n⟩
theorem Tryz.lays137 : Go.Proofs.Lays.n137 Tryz.prog Tryz.lays137_ren := {
  mixed := by kernel_rfl
  f137 := Tryz.func124.trans (congrArg some (by kernel_rfl))
  f217 := Tryz.func115.trans (congrArg some (by kernel_rfl))
  f266 := Tryz.func122.trans (congrArg some (by kernel_rfl))
  t3 := Tryz.underlying3
  a3 := Tryz.isAgg3
  z3 := Tryz.sizeOf3
  v3 := Tryz.zeroValue3
  t5 := Tryz.underlying5
  a5 := Tryz.isAgg5
  z5 := Tryz.sizeOf5
  v5 := Tryz.zeroValue5
  t9 := Tryz.underlying9
  a9 := Tryz.isAgg9
  z9 := Tryz.sizeOf9
  v9 := Tryz.zeroValue9 }
open Go.RowKit in
theorem Tryz.strings_IndexByte (s : ByteArray) (c : Int) (w : World) :
    Calls Tryz.prog 124 #[.string s, .int .u8 c] w fun e w' => e = .returned (.int .i64 (Lib.indexByte s.data.toList c.toNat.toUInt8)) ∧ w' = w := Any.strings_IndexByte Tryz.lays137 s c w
def Tryz.lays217_ren : Go.Shelf.Ren := ⟨fun | 217 => 115 | 266 => 122 | n => n, fun | 9 => 9 | 5 => 5 | 3 => 3 | n => n, fun | n => n⟩
theorem Tryz.lays217 : Go.Proofs.Lays.n217 Tryz.prog Tryz.lays217_ren := {
  mixed := by kernel_rfl
  f217 := Tryz.func115.trans (congrArg some (by kernel_rfl))
  f266 := Tryz.func122.trans (congrArg some (by kernel_rfl))
  t3 := Tryz.underlying3
  a3 := Tryz.isAgg3
  z3 := Tryz.sizeOf3
  v3 := Tryz.zeroValue3
  t5 := Tryz.underlying5
  a5 := Tryz.isAgg5
  z5 := Tryz.sizeOf5
  v5 := Tryz.zeroValue5
  t9 := Tryz.underlying9
  a9 := Tryz.isAgg9
  z9 := Tryz.sizeOf9
  v9 := Tryz.zeroValue9 }
open Go.RowKit Go.Lib in
theorem Tryz.stringslite_IndexByte (s : ByteArray) (c : Int) (w : World) :
    Calls Tryz.prog 115 #[.string s, .int .u8 c] w fun e w' => e = .returned (.int .i64 (Lib.indexByte s.data.toList c.toNat.toUInt8)) ∧ w' = w := Any.stringslite_IndexByte Tryz.lays217 s c w
def Tryz.lays224_ren : Go.Shelf.Ren := ⟨fun | 224 => 117 | n => n, fun | 3 => 3 | n => n, fun | n => n⟩
theorem Tryz.lays224 : Go.Proofs.Lays.n224 Tryz.prog Tryz.lays224_ren := {
  mixed := by kernel_rfl
  f224 := Tryz.func117.trans (congrArg some (by kernel_rfl))
  t3 := Tryz.underlying3
  a3 := Tryz.isAgg3
  z3 := Tryz.sizeOf3
  v3 := Tryz.zeroValue3 }
open Go.RowKit Go.Lib in
theorem Tryz.bytealg_Cutover (n : Int) (h0 : 0 ≤ n) (h1 : n < 4611686018427387904) (w : World) :
    Calls Tryz.prog 117 #[.int .i64 n] w fun e w' => e = .returned (.int .i64 ((n + 16) / 8)) ∧ w' = w := Any.bytealg_Cutover Tryz.lays224 n h0 h1 w
def Tryz.lays314_ren : Go.Shelf.Ren := ⟨fun | 314 => 123 | n => n, fun | 9 => 9 | 51 => 166 | 3 => 3 | 4 => 4 | 5 => 5 | 46 => 86 | n => n, fun | n => n⟩
theorem Tryz.lays314 : Go.Proofs.Lays.n314 Tryz.prog Tryz.lays314_ren := {
  mixed := by kernel_rfl
  f314 := Tryz.func123.trans (congrArg some (by kernel_rfl))
  t3 := Tryz.underlying3
  a3 := Tryz.isAgg3
  z3 := Tryz.sizeOf3
  v3 := Tryz.zeroValue3
  t4 := Tryz.underlying4
  a4 := Tryz.isAgg4
  z4 := Tryz.sizeOf4
  v4 := Tryz.zeroValue4
  t5 := Tryz.underlying5
  a5 := Tryz.isAgg5
  z5 := Tryz.sizeOf5
  v5 := Tryz.zeroValue5
  t9 := Tryz.underlying9
  a9 := Tryz.isAgg9
  z9 := Tryz.sizeOf9
  v9 := Tryz.zeroValue9
  t46 := Tryz.underlying86
  a46 := Tryz.isAgg86
  z46 := Tryz.sizeOf86
  v46 := Tryz.zeroValue86
  t51 := Tryz.underlying166
  a51 := Tryz.isAgg166
  z51 := Tryz.sizeOf166
  v51 := Tryz.zeroValue166 }
open Go.RowKit Go.Lib in
theorem Tryz.bytealg_hashStr (sep : ByteArray) (hs : sep.size < 4294967281) (w : World) :
    Calls Tryz.prog 123 #[.string sep] w fun e w' => e = .returned (.tuple #[.int .u32 (RK.H sep.data.toList % 4294967296), .int .u32 (16777619 ^ sep.size % 4294967296)]) ∧ w' = w := Any.bytealg_hashStr Tryz.lays314 sep hs w
def Tryz.lays267_ren : Go.Shelf.Ren := ⟨fun | 267 => 118 | 314 => 123 | n => n, fun | 9 => 9 | 3 => 3 | 146 => 167 | 51 => 166 | 4 => 4 | 5 => 5 | 46 => 86 | n => n, fun | n => n⟩
theorem Tryz.lays267 : Go.Proofs.Lays.n267 Tryz.prog Tryz.lays267_ren := {
  mixed := by kernel_rfl
  f267 := Tryz.func118.trans (congrArg some (by kernel_rfl))
  f314 := Tryz.func123.trans (congrArg some (by kernel_rfl))
  t3 := Tryz.underlying3
  a3 := Tryz.isAgg3
  z3 := Tryz.sizeOf3
  v3 := Tryz.zeroValue3
  t4 := Tryz.underlying4
  a4 := Tryz.isAgg4
  z4 := Tryz.sizeOf4
  v4 := Tryz.zeroValue4
  t5 := Tryz.underlying5
  a5 := Tryz.isAgg5
  z5 := Tryz.sizeOf5
  v5 := Tryz.zeroValue5
  t9 := Tryz.underlying9
  a9 := Tryz.isAgg9
  z9 := Tryz.sizeOf9
  v9 := Tryz.zeroValue9
  t46 := Tryz.underlying86
  a46 := Tryz.isAgg86
  z46 := Tryz.sizeOf86
  v46 := Tryz.zeroValue86
  t51 := Tryz.underlying166
  a51 := Tryz.isAgg166
  z51 := Tryz.sizeOf166
  v51 := Tryz.zeroValue166
  t146 := Tryz.underlying167
  a146 := Tryz.isAgg167
  z146 := Tryz.sizeOf167
  v146 := Tryz.zeroValue167 }
open Go.RowKit Go.Lib in
theorem Tryz.bytealg_IndexRabinKarp (s sep : ByteArray) (h1 : 1 ≤ sep.size) (h2 : sep.size ≤ s.size) (hs : s.size < 4294967281) (w : World) :
    Calls Tryz.prog 118 #[.string s, .string sep] w fun e w' => e = .returned (.int .i64 (Lib.index s.data.toList sep.data.toList)) ∧ w' = w := Any.bytealg_IndexRabinKarp Tryz.lays267 s sep h1 h2 hs w
def Tryz.lays219_ren : Go.Shelf.Ren := ⟨fun | 219 => 110 | 217 => 115 | 225 => 116 | 224 => 117 | 267 => 118 | 266 => 122 | 314 => 123 | n => n, fun | 9 => 9 | 3 => 3 | 4 => 4 | 5 => 5 | 46 => 86 | 146 => 167 | 51 => 166 | n => n, fun | 1 => 0 | n => n⟩
theorem Tryz.lays219 : Go.Proofs.Lays.n219 Tryz.prog Tryz.lays219_ren := {
  mixed := by kernel_rfl
  f217 := Tryz.func115.trans (congrArg some (by kernel_rfl))
  f219 := Tryz.func110.trans (congrArg some (by kernel_rfl))
  f224 := Tryz.func117.trans (congrArg some (by kernel_rfl))
  f225 := Tryz.func116.trans (congrArg some (by kernel_rfl))
  f266 := Tryz.func122.trans (congrArg some (by kernel_rfl))
  f267 := Tryz.func118.trans (congrArg some (by kernel_rfl))
  f314 := Tryz.func123.trans (congrArg some (by kernel_rfl))
  t3 := Tryz.underlying3
  a3 := Tryz.isAgg3
  z3 := Tryz.sizeOf3
  v3 := Tryz.zeroValue3
  t4 := Tryz.underlying4
  a4 := Tryz.isAgg4
  z4 := Tryz.sizeOf4
  v4 := Tryz.zeroValue4
  t5 := Tryz.underlying5
  a5 := Tryz.isAgg5
  z5 := Tryz.sizeOf5
  v5 := Tryz.zeroValue5
  t9 := Tryz.underlying9
  a9 := Tryz.isAgg9
  z9 := Tryz.sizeOf9
  v9 := Tryz.zeroValue9
  t46 := Tryz.underlying86
  a46 := Tryz.isAgg86
  z46 := Tryz.sizeOf86
  v46 := Tryz.zeroValue86
  t51 := Tryz.underlying166
  a51 := Tryz.isAgg166
  z51 := Tryz.sizeOf166
  v51 := Tryz.zeroValue166
  t146 := Tryz.underlying167
  a146 := Tryz.isAgg167
  z146 := Tryz.sizeOf167
  v146 := Tryz.zeroValue167
  g1 := by kernel_rfl }
open Go.RowKit Go.Lib in
theorem Tryz.stringslite_Index_one (s : ByteArray) (c : UInt8) (w : World) :
    Calls Tryz.prog 110 #[.string s, .string ⟨#[c]⟩] w fun e w' => e = .returned (.int .i64 (Lib.indexByte s.data.toList c)) ∧ w' = w := Any.stringslite_Index_one Tryz.lays219 s c w
open Go.RowKit Go.Lib in
theorem Tryz.stringslite_Index (s sub : ByteArray) (m : Int) (w : World) (hs : s.size < 4294967281) (hm : w.cell? ⟨0, 0, none⟩ = some (.int .i64 m)) :
    Calls Tryz.prog 110 #[.string s, .string sub] w fun e w' => e = .returned (.int .i64 (Lib.index s.data.toList sub.data.toList)) ∧ w' = w := Any.stringslite_Index Tryz.lays219 s sub m w hs hm
def Tryz.lays143_ren : Go.Shelf.Ren := ⟨fun | 143 => 102 | 219 => 110 | 217 => 115 | 225 => 116 | 224 => 117 | 267 => 118 | 266 => 122 | 314 => 123 | n => n, fun | 9 => 9 | 3 => 3 | 4 => 4 | 5 => 5 | 46 => 86 | 146 => 167 | 51 => 166 | n => n, fun | 1 => 0 | n => n⟩
theorem Tryz.lays143 : Go.Proofs.Lays.n143 Tryz.prog Tryz.lays143_ren := {
  mixed := by kernel_rfl
  f143 := Tryz.func102.trans (congrArg some (by kernel_rfl))
  f217 := Tryz.func115.trans (congrArg some (by kernel_rfl))
  f219 := Tryz.func110.trans (congrArg some (by kernel_rfl))
  f224 := Tryz.func117.trans (congrArg some (by kernel_rfl))
  f225 := Tryz.func116.trans (congrArg some (by kernel_rfl))
  f266 := Tryz.func122.trans (congrArg some (by kernel_rfl))
  f267 := Tryz.func118.trans (congrArg some (by kernel_rfl))
  f314 := Tryz.func123.trans (congrArg some (by kernel_rfl))
  t3 := Tryz.underlying3
  a3 := Tryz.isAgg3
  z3 := Tryz.sizeOf3
  v3 := Tryz.zeroValue3
  t4 := Tryz.underlying4
  a4 := Tryz.isAgg4
  z4 := Tryz.sizeOf4
  v4 := Tryz.zeroValue4
  t5 := Tryz.underlying5
  a5 := Tryz.isAgg5
  z5 := Tryz.sizeOf5
  v5 := Tryz.zeroValue5
  t9 := Tryz.underlying9
  a9 := Tryz.isAgg9
  z9 := Tryz.sizeOf9
  v9 := Tryz.zeroValue9
  t46 := Tryz.underlying86
  a46 := Tryz.isAgg86
  z46 := Tryz.sizeOf86
  v46 := Tryz.zeroValue86
  t51 := Tryz.underlying166
  a51 := Tryz.isAgg166
  z51 := Tryz.sizeOf166
  v51 := Tryz.zeroValue166
  t146 := Tryz.underlying167
  a146 := Tryz.isAgg167
  z146 := Tryz.sizeOf167
  v146 := Tryz.zeroValue167
  g1 := by kernel_rfl }
open Go.RowKit Go.Lib in
theorem Tryz.strings_Index_one (s : ByteArray) (c : UInt8) (w : World) :
    Calls Tryz.prog 102 #[.string s, .string ⟨#[c]⟩] w fun e w' => e = .returned (.int .i64 (Lib.indexByte s.data.toList c)) ∧ w' = w := Any.strings_Index_one Tryz.lays143 s c w
open Go.RowKit Go.Lib in
theorem Tryz.strings_Index (s sub : ByteArray) (m : Int) (w : World) (hs : s.size < 4294967281) (hm : w.cell? ⟨0, 0, none⟩ = some (.int .i64 m)) :
    Calls Tryz.prog 102 #[.string s, .string sub] w fun e w' => e = .returned (.int .i64 (Lib.index s.data.toList sub.data.toList)) ∧ w' = w := Any.strings_Index Tryz.lays143 s sub m w hs hm
def Tryz.lays144_ren : Go.Shelf.Ren := ⟨fun | 144 => 98 | 143 => 102 | 219 => 110 | 217 => 115 | 225 => 116 | 224 => 117 | 267 => 118 | 266 => 122 | 314 => 123 | n => n, fun | 9 => 9 | 4 => 4 | 3 => 3 | 5 => 5 | 46 => 86 | 146 => 167 | 51 => 166 | n => n, fun | 1 => 0 | n => n⟩
theorem Tryz.lays144 : Go.Proofs.Lays.n144 Tryz.prog Tryz.lays144_ren := {
  mixed := by kernel_rfl
  f143 := Tryz.func102.trans (congrArg some (by kernel_rfl))
  f144 := Tryz.func98.trans (congrArg some (by kernel_rfl))
  f217 := Tryz.func115.trans (congrArg some (by kernel_rfl))
  f219 := Tryz.func110.trans (congrArg some (by kernel_rfl))
  f224 := Tryz.func117.trans (congrArg some (by kernel_rfl))
  f225 := Tryz.func116.trans (congrArg some (by kernel_rfl))
  f266 := Tryz.func122.trans (congrArg some (by kernel_rfl))
  f267 := Tryz.func118.trans (congrArg some (by kernel_rfl))
  f314 := Tryz.func123.trans (congrArg some (by kernel_rfl))
  t3 := Tryz.underlying3
  a3 := Tryz.isAgg3
  z3 := Tryz.sizeOf3
  v3 := Tryz.zeroValue3
  t4 := Tryz.underlying4
  a4 := Tryz.isAgg4
  z4 := Tryz.sizeOf4
  v4 := Tryz.zeroValue4
  t5 := Tryz.underlying5
  a5 := Tryz.isAgg5
  z5 := Tryz.sizeOf5
  v5 := Tryz.zeroValue5
  t9 := Tryz.underlying9
  a9 := Tryz.isAgg9
  z9 := Tryz.sizeOf9
  v9 := Tryz.zeroValue9
  t46 := Tryz.underlying86
  a46 := Tryz.isAgg86
  z46 := Tryz.sizeOf86
  v46 := Tryz.zeroValue86
  t51 := Tryz.underlying166
  a51 := Tryz.isAgg166
  z51 := Tryz.sizeOf166
  v51 := Tryz.zeroValue166
  t146 := Tryz.underlying167
  a146 := Tryz.isAgg167
  z146 := Tryz.sizeOf167
  v146 := Tryz.zeroValue167
  g1 := by kernel_rfl }
open Go.RowKit Go.Lib in
theorem Tryz.strings_Contains_one (s : ByteArray) (c : UInt8) (w : World) :
    Calls Tryz.prog 98 #[.string s, .string ⟨#[c]⟩] w fun e w' => e = .returned (.bool (decide (0 ≤ Lib.indexByte s.data.toList c))) ∧ w' = w := Any.strings_Contains_one Tryz.lays144 s c w
open Go.RowKit Go.Lib in
theorem Tryz.strings_Contains (s sub : ByteArray) (m : Int) (w : World) (hs : s.size < 4294967281) (hm : w.cell? ⟨0, 0, none⟩ = some (.int .i64 m)) :
    Calls Tryz.prog 98 #[.string s, .string sub] w fun e w' => e = .returned (.bool (Lib.contains s.data.toList sub.data.toList)) ∧ w' = w := Any.strings_Contains Tryz.lays144 s sub m w hs hm
def Tryz.laysM219_ren : Go.Shelf.Ren := ⟨fun | 219 => 110 | 217 => 115 | 225 => 116 | 224 => 117 | 267 => 118 | 266 => 122 | 314 => 123 | n => n, fun | 9 => 9 | 3 => 3 | 4 => 4 | 5 => 5 | 46 => 86 | 146 => 167 | 51 => 166 | n => n, fun | 1 => 0 | n => n⟩
theorem Tryz.laysM219 : Go.Proofs.LaysM.n219 Tryz.prog Tryz.laysM219_ren := {
  mixed := by kernel_rfl
  f217 := Tryz.func115.trans (congrArg some (by kernel_rfl))
  f219 := Tryz.func110.trans (congrArg some (by kernel_rfl))
  f224 := Tryz.func117.trans (congrArg some (by kernel_rfl))
  f225 := Tryz.func116.trans (congrArg some (by kernel_rfl))
  f266 := Tryz.func122.trans (congrArg some (by kernel_rfl))
  f267 := Tryz.func118.trans (congrArg some (by kernel_rfl))
  f314 := Tryz.func123.trans (congrArg some (by kernel_rfl))
  t3 := Tryz.underlying3
  a3 := Tryz.isAgg3
  z3 := Tryz.sizeOf3
  v3 := Tryz.zeroValue3
  t4 := Tryz.underlying4
  a4 := Tryz.isAgg4
  z4 := Tryz.sizeOf4
  v4 := Tryz.zeroValue4
  t5 := Tryz.underlying5
  a5 := Tryz.isAgg5
  z5 := Tryz.sizeOf5
  v5 := Tryz.zeroValue5
  t9 := Tryz.underlying9
  a9 := Tryz.isAgg9
  z9 := Tryz.sizeOf9
  v9 := Tryz.zeroValue9
  t46 := Tryz.underlying86
  a46 := Tryz.isAgg86
  z46 := Tryz.sizeOf86
  v46 := Tryz.zeroValue86
  t51 := Tryz.underlying166
  a51 := Tryz.isAgg166
  z51 := Tryz.sizeOf166
  v51 := Tryz.zeroValue166
  t146 := Tryz.underlying167
  a146 := Tryz.isAgg167
  z146 := Tryz.sizeOf167
  v146 := Tryz.zeroValue167
  g1 := by kernel_rfl
  i3 := by kernel_rfl
  i4 := by kernel_rfl
  i5 := by kernel_rfl
  i9 := by kernel_rfl
  i46 := by kernel_rfl
  i51 := by kernel_rfl
  i146 := by kernel_rfl
  m1 := by kernel_rfl
  s1_3 := fun w h => Go.Proofs.cell_of_shapedOpen_int (zero := #[.int .i64 0]) (t := 3) h (of_decide_eq_true (by kernel_rfl)) (by kernel_rfl) rfl (by kernel_rfl) (by kernel_rfl) Tryz.underlying3 }
open Go.RowKit Go.Lib in
theorem Tryz.stringslite_Index_shaped (s sub : ByteArray) (w : World) (h : w.ShapedOpen Tryz.prog) (hs : s.size < 4294967281) :
    Calls Tryz.prog 110 #[.string s, .string sub] w fun e w' => e = .returned (.int .i64 (Lib.index s.data.toList sub.data.toList)) ∧ w' = w := Any.stringslite_Index_shaped Tryz.laysM219 s sub w h hs
def Tryz.laysM143_ren : Go.Shelf.Ren := ⟨fun | 143 => 102 | 219 => 110 | 217 => 115 | 225 => 116 | 224 => 117 | 267 => 118 | 266 => 122 | 314 => 123 | n => n, fun | 9 => 9 | 3 => 3 | 4 => 4 | 5 => 5 | 46 => 86 | 146 => 167 | 51 => 166 | n => n, fun | 1 => 0 | n => n⟩
theorem Tryz.laysM143 : Go.Proofs.LaysM.n143 Tryz.prog Tryz.laysM143_ren := {
  mixed := by kernel_rfl
  f143 := Tryz.func102.trans (congrArg some (by kernel_rfl))
  f217 := Tryz.func115.trans (congrArg some (by kernel_rfl))
  f219 := Tryz.func110.trans (congrArg some (by kernel_rfl))
  f224 := Tryz.func117.trans (congrArg some (by kernel_rfl))
  f225 := Tryz.func116.trans (congrArg some (by kernel_rfl))
  f266 := Tryz.func122.trans (congrArg some (by kernel_rfl))
  f267 := Tryz.func118.trans (congrArg some (by kernel_rfl))
  f314 := Tryz.func123.trans (congrArg some (by kernel_rfl))
  t3 := Tryz.underlying3
  a3 := Tryz.isAgg3
  z3 := Tryz.sizeOf3
  v3 := Tryz.zeroValue3
  t4 := Tryz.underlying4
  a4 := Tryz.isAgg4
  z4 := Tryz.sizeOf4
  v4 := Tryz.zeroValue4
  t5 := Tryz.underlying5
  a5 := Tryz.isAgg5
  z5 := Tryz.sizeOf5
  v5 := Tryz.zeroValue5
  t9 := Tryz.underlying9
  a9 := Tryz.isAgg9
  z9 := Tryz.sizeOf9
  v9 := Tryz.zeroValue9
  t46 := Tryz.underlying86
  a46 := Tryz.isAgg86
  z46 := Tryz.sizeOf86
  v46 := Tryz.zeroValue86
  t51 := Tryz.underlying166
  a51 := Tryz.isAgg166
  z51 := Tryz.sizeOf166
  v51 := Tryz.zeroValue166
  t146 := Tryz.underlying167
  a146 := Tryz.isAgg167
  z146 := Tryz.sizeOf167
  v146 := Tryz.zeroValue167
  g1 := by kernel_rfl
  i3 := by kernel_rfl
  i4 := by kernel_rfl
  i5 := by kernel_rfl
  i9 := by kernel_rfl
  i46 := by kernel_rfl
  i51 := by kernel_rfl
  i146 := by kernel_rfl
  m1 := by kernel_rfl
  s1_3 := fun w h => Go.Proofs.cell_of_shapedOpen_int (zero := #[.int .i64 0]) (t := 3) h (of_decide_eq_true (by kernel_rfl)) (by kernel_rfl) rfl (by kernel_rfl) (by kernel_rfl) Tryz.underlying3 }
open Go.RowKit Go.Lib in
theorem Tryz.strings_Index_shaped (s sub : ByteArray) (w : World) (h : w.ShapedOpen Tryz.prog) (hs : s.size < 4294967281) :
    Calls Tryz.prog 102 #[.string s, .string sub] w fun e w' => e = .returned (.int .i64 (Lib.index s.data.toList sub.data.toList)) ∧ w' = w := Any.strings_Index_shaped Tryz.laysM143 s sub w h hs
def Tryz.laysM144_ren : Go.Shelf.Ren := ⟨fun | 144 => 98 | 143 => 102 | 219 => 110 | 217 => 115 | 225 => 116 | 224 => 117 | 267 => 118 | 266 => 122 | 314 => 123 | n => n, fun | 9 => 9 | 4 => 4 | 3 => 3 | 5 => 5 | 46 => 86 | 146 => 167 | 51 => 166 | n => n, fun | 1 => 0 | n => n⟩
theorem Tryz.laysM144 : Go.Proofs.LaysM.n144 Tryz.prog Tryz.laysM144_ren := {
  mixed := by kernel_rfl
  f143 := Tryz.func102.trans (congrArg some (by kernel_rfl))
  f144 := Tryz.func98.trans (congrArg some (by kernel_rfl))
  f217 := Tryz.func115.trans (congrArg some (by kernel_rfl))
  f219 := Tryz.func110.trans (congrArg some (by kernel_rfl))
  f224 := Tryz.func117.trans (congrArg some (by kernel_rfl))
  f225 := Tryz.func116.trans (congrArg some (by kernel_rfl))
  f266 := Tryz.func122.trans (congrArg some (by kernel_rfl))
  f267 := Tryz.func118.trans (congrArg some (by kernel_rfl))
  f314 := Tryz.func123.trans (congrArg some (by kernel_rfl))
  t3 := Tryz.underlying3
  a3 := Tryz.isAgg3
  z3 := Tryz.sizeOf3
  v3 := Tryz.zeroValue3
  t4 := Tryz.underlying4
  a4 := Tryz.isAgg4
  z4 := Tryz.sizeOf4
  v4 := Tryz.zeroValue4
  t5 := Tryz.underlying5
  a5 := Tryz.isAgg5
  z5 := Tryz.sizeOf5
  v5 := Tryz.zeroValue5
  t9 := Tryz.underlying9
  a9 := Tryz.isAgg9
  z9 := Tryz.sizeOf9
  v9 := Tryz.zeroValue9
  t46 := Tryz.underlying86
  a46 := Tryz.isAgg86
  z46 := Tryz.sizeOf86
  v46 := Tryz.zeroValue86
  t51 := Tryz.underlying166
  a51 := Tryz.isAgg166
  z51 := Tryz.sizeOf166
  v51 := Tryz.zeroValue166
  t146 := Tryz.underlying167
  a146 := Tryz.isAgg167
  z146 := Tryz.sizeOf167
  v146 := Tryz.zeroValue167
  g1 := by kernel_rfl
  i3 := by kernel_rfl
  i4 := by kernel_rfl
  i5 := by kernel_rfl
  i9 := by kernel_rfl
  i46 := by kernel_rfl
  i51 := by kernel_rfl
  i146 := by kernel_rfl
  m1 := by kernel_rfl
  s1_3 := fun w h => Go.Proofs.cell_of_shapedOpen_int (zero := #[.int .i64 0]) (t := 3) h (of_decide_eq_true (by kernel_rfl)) (by kernel_rfl) rfl (by kernel_rfl) (by kernel_rfl) Tryz.underlying3 }
open Go.RowKit Go.Lib in
theorem Tryz.strings_Contains_shaped (s sub : ByteArray) (w : World) (h : w.ShapedOpen Tryz.prog) (hs : s.size < 4294967281) :
    Calls Tryz.prog 98 #[.string s, .string sub] w fun e w' => e = .returned (.bool (Lib.contains s.data.toList sub.data.toList)) ∧ w' = w := Any.strings_Contains_shaped Tryz.laysM144 s sub w h hs
def Tryz.lays315_ren : Go.Shelf.Ren := ⟨fun | 315 => 93 | n => n, fun | 9 => 9 | 40 => 138 | 4 => 4 | 3 => 3 | 0 => 0 | 21 => 21 | n => n, fun | n => n⟩
theorem Tryz.lays315 : Go.Proofs.Lays.n315 Tryz.prog Tryz.lays315_ren := {
  mixed := by kernel_rfl
  f315 := Tryz.func93.trans (congrArg some (by kernel_rfl))
  t0 := Tryz.underlying0
  a0 := Tryz.isAgg0
  z0 := Tryz.sizeOf0
  v0 := Tryz.zeroValue0
  t3 := Tryz.underlying3
  a3 := Tryz.isAgg3
  z3 := Tryz.sizeOf3
  v3 := Tryz.zeroValue3
  t4 := Tryz.underlying4
  a4 := Tryz.isAgg4
  z4 := Tryz.sizeOf4
  v4 := Tryz.zeroValue4
  t9 := Tryz.underlying9
  a9 := Tryz.isAgg9
  z9 := Tryz.sizeOf9
  v9 := Tryz.zeroValue9
  t21 := Tryz.underlying21
  a21 := Tryz.isAgg21
  z21 := Tryz.sizeOf21
  v21 := Tryz.zeroValue21
  t40 := Tryz.underlying138
  a40 := Tryz.isAgg138
  z40 := Tryz.sizeOf138
  v40 := Tryz.zeroValue138 }
open Go.RowKit Go.Lib in
theorem Tryz.strings_indexFunc (g : Nat) (lb : Array Value) (eg : ∀ args w, (callFunc g args).run Tryz.prog w = .ok (.enter g args) w) (p : Nat → Bool) (truth : Bool) (s : ByteArray) (w : World) (hp : PredAt Tryz.prog g lb encR p w) :
    Calls Tryz.prog 93 #[.string s, .func (.func g) #[] lb, .bool truth] w fun e w' => e = .returned (.int .i64 (Lib.idxFunc p truth s)) ∧ Below w.heap.size w w' := Any.strings_indexFunc Tryz.lays315 g lb eg p truth s w hp
def Tryz.laysGw15_ren : Go.Shelf.Ren := ⟨fun | 15 => 89 | 20 => 93 | n => n, fun | 9 => 9 | 23 => 138 | 3 => 3 | 4 => 4 | 0 => 0 | 21 => 21 | n => n, fun | n => n⟩
theorem Tryz.laysGw15 : Go.Proofs.LaysGw.n15 Tryz.prog Tryz.laysGw15_ren := {
  mixed := by kernel_rfl
  f15 := Tryz.func89.trans (congrArg some (by kernel_rfl))
  f20 := Tryz.func93.trans (congrArg some (by kernel_rfl))
  t0 := Tryz.underlying0
  a0 := Tryz.isAgg0
  z0 := Tryz.sizeOf0
  v0 := Tryz.zeroValue0
  i0 := by kernel_rfl
  t3 := Tryz.underlying3
  a3 := Tryz.isAgg3
  z3 := Tryz.sizeOf3
  v3 := Tryz.zeroValue3
  i3 := by kernel_rfl
  t4 := Tryz.underlying4
  a4 := Tryz.isAgg4
  z4 := Tryz.sizeOf4
  v4 := Tryz.zeroValue4
  i4 := by kernel_rfl
  t9 := Tryz.underlying9
  a9 := Tryz.isAgg9
  z9 := Tryz.sizeOf9
  v9 := Tryz.zeroValue9
  i9 := by kernel_rfl
  t21 := Tryz.underlying21
  a21 := Tryz.isAgg21
  z21 := Tryz.sizeOf21
  v21 := Tryz.zeroValue21
  i21 := by kernel_rfl
  t23 := Tryz.underlying138
  a23 := Tryz.isAgg138
  z23 := Tryz.sizeOf138
  v23 := Tryz.zeroValue138
  i23 := by kernel_rfl }
open Go.RowKit Go.Lib in
theorem Tryz.strings_IndexFunc (g : Nat) (lb : Array Value) (eg : ∀ args w, (callFunc g args).run Tryz.prog w = .ok (.enter g args) w) (p : Nat → Bool) (s : ByteArray) (w : World) (hp : PredAt Tryz.prog g lb encR p w) :
    Calls Tryz.prog 89 #[.string s, .func (.func g) #[] lb] w fun e w' => e = .returned (.int .i64 (Lib.idxFunc p true s)) ∧ Below w.heap.size w w' := Any.strings_IndexFunc Tryz.laysGw15 g lb eg p s w hp
def Tryz.lays152_ren : Go.Shelf.Ren := ⟨fun | 152 => 120 | 137 => 124 | 119 => 125 | 224 => 117 | 225 => 116 | 217 => 115 | 266 => 122 | n => n, fun | 9 => 9 | 21 => 21 | 3 => 3 | 4 => 4 | 5 => 5 | 0 => 0 | 46 => 86 | n => n, fun | n => n⟩
theorem Tryz.lays152 : Go.Proofs.Lays.n152 Tryz.prog Tryz.lays152_ren := {
  mixed := by kernel_rfl
  f119 := Tryz.func125.trans (congrArg some (by kernel_rfl))
  f137 := Tryz.func124.trans (congrArg some (by kernel_rfl))
  f152 := Tryz.func120.trans (congrArg some (by kernel_rfl))
  f217 := Tryz.func115.trans (congrArg some (by kernel_rfl))
  f224 := Tryz.func117.trans (congrArg some (by kernel_rfl))
  f225 := Tryz.func116.trans (congrArg some (by kernel_rfl))
  f266 := Tryz.func122.trans (congrArg some (by kernel_rfl))
  t0 := Tryz.underlying0
  a0 := Tryz.isAgg0
  z0 := Tryz.sizeOf0
  v0 := Tryz.zeroValue0
  t3 := Tryz.underlying3
  a3 := Tryz.isAgg3
  z3 := Tryz.sizeOf3
  v3 := Tryz.zeroValue3
  t4 := Tryz.underlying4
  a4 := Tryz.isAgg4
  z4 := Tryz.sizeOf4
  v4 := Tryz.zeroValue4
  t5 := Tryz.underlying5
  a5 := Tryz.isAgg5
  z5 := Tryz.sizeOf5
  v5 := Tryz.zeroValue5
  t9 := Tryz.underlying9
  a9 := Tryz.isAgg9
  z9 := Tryz.sizeOf9
  v9 := Tryz.zeroValue9
  t21 := Tryz.underlying21
  a21 := Tryz.isAgg21
  z21 := Tryz.sizeOf21
  v21 := Tryz.zeroValue21
  t46 := Tryz.underlying86
  a46 := Tryz.isAgg86
  z46 := Tryz.sizeOf86
  v46 := Tryz.zeroValue86 }
open Go.RowKit Go.Lib in
theorem Tryz.strings_IndexRune_ascii (s : ByteArray) (r : Int) (w : World) (h0 : 0 ≤ r) (h1 : r < 128) :
    Calls Tryz.prog 120 #[.string s, .int .i32 r] w fun e w' => e = .returned (.int .i64 (Lib.indexByte s.data.toList r.toNat.toUInt8)) ∧ w' = w := Any.strings_IndexRune_ascii Tryz.lays152 s r w h0 h1
def Tryz.lays151_ren : Go.Shelf.Ren := ⟨fun | 151 => 113 | 152 => 120 | 137 => 124 | 119 => 125 | 224 => 117 | 225 => 116 | 217 => 115 | 266 => 122 | n => n, fun | 9 => 9 | 21 => 21 | 4 => 4 | 3 => 3 | 5 => 5 | 0 => 0 | 46 => 86 | n => n, fun | n => n⟩
theorem Tryz.lays151 : Go.Proofs.Lays.n151 Tryz.prog Tryz.lays151_ren := {
  mixed := by kernel_rfl
  f119 := Tryz.func125.trans (congrArg some (by kernel_rfl))
  f137 := Tryz.func124.trans (congrArg some (by kernel_rfl))
  f151 := Tryz.func113.trans (congrArg some (by kernel_rfl))
  f152 := Tryz.func120.trans (congrArg some (by kernel_rfl))
  f217 := Tryz.func115.trans (congrArg some (by kernel_rfl))
  f224 := Tryz.func117.trans (congrArg some (by kernel_rfl))
  f225 := Tryz.func116.trans (congrArg some (by kernel_rfl))
  f266 := Tryz.func122.trans (congrArg some (by kernel_rfl))
  t0 := Tryz.underlying0
  a0 := Tryz.isAgg0
  z0 := Tryz.sizeOf0
  v0 := Tryz.zeroValue0
  t3 := Tryz.underlying3
  a3 := Tryz.isAgg3
  z3 := Tryz.sizeOf3
  v3 := Tryz.zeroValue3
  t4 := Tryz.underlying4
  a4 := Tryz.isAgg4
  z4 := Tryz.sizeOf4
  v4 := Tryz.zeroValue4
  t5 := Tryz.underlying5
  a5 := Tryz.isAgg5
  z5 := Tryz.sizeOf5
  v5 := Tryz.zeroValue5
  t9 := Tryz.underlying9
  a9 := Tryz.isAgg9
  z9 := Tryz.sizeOf9
  v9 := Tryz.zeroValue9
  t21 := Tryz.underlying21
  a21 := Tryz.isAgg21
  z21 := Tryz.sizeOf21
  v21 := Tryz.zeroValue21
  t46 := Tryz.underlying86
  a46 := Tryz.isAgg86
  z46 := Tryz.sizeOf86
  v46 := Tryz.zeroValue86 }
open Go.RowKit Go.Lib in
theorem Tryz.strings_ContainsRune_ascii (s : ByteArray) (r : Int) (w : World) (h0 : 0 ≤ r) (h1 : r < 128) :
    Calls Tryz.prog 113 #[.string s, .int .i32 r] w fun e w' => e = .returned (.bool (decide (0 ≤ Lib.indexByte s.data.toList r.toNat.toUInt8))) ∧ w' = w := Any.strings_ContainsRune_ascii Tryz.lays151 s r w h0 h1
def Tryz.lays227_ren : Go.Shelf.Ren := ⟨fun | 227 => 105 | n => n, fun | 9 => 9 | 116 => 155 | 4 => 4 | 0 => 0 | 3 => 3 | 5 => 5 | n => n, fun | n => n⟩
theorem Tryz.lays227 : Go.Proofs.Lays.n227 Tryz.prog Tryz.lays227_ren := {
  mixed := by kernel_rfl
  f227 := Tryz.func105.trans (congrArg some (by kernel_rfl))
  t0 := Tryz.underlying0
  a0 := Tryz.isAgg0
  z0 := Tryz.sizeOf0
  v0 := Tryz.zeroValue0
  t3 := Tryz.underlying3
  a3 := Tryz.isAgg3
  z3 := Tryz.sizeOf3
  v3 := Tryz.zeroValue3
  t4 := Tryz.underlying4
  a4 := Tryz.isAgg4
  z4 := Tryz.sizeOf4
  v4 := Tryz.zeroValue4
  t5 := Tryz.underlying5
  a5 := Tryz.isAgg5
  z5 := Tryz.sizeOf5
  v5 := Tryz.zeroValue5
  t9 := Tryz.underlying9
  a9 := Tryz.isAgg9
  z9 := Tryz.sizeOf9
  v9 := Tryz.zeroValue9
  t116 := Tryz.underlying155
  a116 := Tryz.isAgg155
  z116 := Tryz.sizeOf155 }
open Go.RowKit Go.Lib in
theorem Tryz.strings_makeASCIISet (hv116 : ∀ w, (zeroValue 155).run Tryz.prog w = .ok (.agg (Array.replicate 256 (.bool false))) w) (chars : ByteArray) (w : World) (hs : chars.size < 4294967281) (hascii : ∀ (j : Nat) b, chars.data.toList[j]? = some b → b.toNat < 128) :
    Calls Tryz.prog 105 #[.string chars] w fun e w' => e = .returned (.tuple #[.agg (Lib.setCells chars.data.toList), .bool true]) ∧ w' = w.alloc (.cells (Lib.setCells chars.data.toList) 155) := Any.strings_makeASCIISet Tryz.lays227 hv116 (by kernel_rfl) chars w hs hascii
def Tryz.lays228_ren : Go.Shelf.Ren := ⟨fun | 228 => 111 | n => n, fun | 124 => 159 | 5 => 5 | 4 => 4 | 0 => 0 | 116 => 155 | n => n, fun | n => n⟩
theorem Tryz.lays228 : Go.Proofs.Lays.n228 Tryz.prog Tryz.lays228_ren := {
  mixed := by kernel_rfl
  f228 := Tryz.func111.trans (congrArg some (by kernel_rfl))
  t0 := Tryz.underlying0
  a0 := Tryz.isAgg0
  z0 := Tryz.sizeOf0
  v0 := Tryz.zeroValue0
  t4 := Tryz.underlying4
  a4 := Tryz.isAgg4
  z4 := Tryz.sizeOf4
  v4 := Tryz.zeroValue4
  t5 := Tryz.underlying5
  a5 := Tryz.isAgg5
  z5 := Tryz.sizeOf5
  v5 := Tryz.zeroValue5
  t116 := Tryz.underlying155
  a116 := Tryz.isAgg155
  z116 := Tryz.sizeOf155
  t124 := Tryz.underlying159
  a124 := Tryz.isAgg159
  z124 := Tryz.sizeOf159
  v124 := Tryz.zeroValue159 }
open Go.RowKit Go.Lib in
theorem Tryz.asciiSet_contains (b : Nat) (x : UInt8) (v : Bool) (w : World) (hc : w.cell? ⟨b, x.toNat, none⟩ = some (.bool v)) :
    Calls Tryz.prog 111 #[.pointer (some ⟨b, 0, none⟩), .int .u8 x.toNat] w fun e w' => e = .returned (.bool v) ∧ w' = w := Any.asciiSet_contains Tryz.lays228 b x v w hc
def Tryz.lays260_ren : Go.Shelf.Ren := ⟨fun | 260 => 119 | n => n, fun | 9 => 9 | 21 => 21 | 3 => 3 | 4 => 4 | 5 => 5 | 119 => 169 | 0 => 0 | 46 => 86 | 139 => 172 | 138 => 171 | n => n, fun | 3 => 1 | 4 => 2 | n => n⟩
theorem Tryz.lays260 : Go.Proofs.Lays.n260 Tryz.prog Tryz.lays260_ren := {
  mixed := by kernel_rfl
  f260 := Tryz.func119.trans (congrArg some (by kernel_rfl))
  t0 := Tryz.underlying0
  a0 := Tryz.isAgg0
  z0 := Tryz.sizeOf0
  v0 := Tryz.zeroValue0
  t3 := Tryz.underlying3
  a3 := Tryz.isAgg3
  z3 := Tryz.sizeOf3
  v3 := Tryz.zeroValue3
  t4 := Tryz.underlying4
  a4 := Tryz.isAgg4
  z4 := Tryz.sizeOf4
  v4 := Tryz.zeroValue4
  t5 := Tryz.underlying5
  a5 := Tryz.isAgg5
  z5 := Tryz.sizeOf5
  v5 := Tryz.zeroValue5
  t9 := Tryz.underlying9
  a9 := Tryz.isAgg9
  z9 := Tryz.sizeOf9
  v9 := Tryz.zeroValue9
  t21 := Tryz.underlying21
  a21 := Tryz.isAgg21
  z21 := Tryz.sizeOf21
  v21 := Tryz.zeroValue21
  t46 := Tryz.underlying86
  a46 := Tryz.isAgg86
  z46 := Tryz.sizeOf86
  v46 := Tryz.zeroValue86
  t119 := Tryz.underlying169
  a119 := Tryz.isAgg169
  z119 := Tryz.sizeOf169
  t138 := Tryz.underlying171
  a138 := Tryz.isAgg171
  z138 := Tryz.sizeOf171
  v138 := Tryz.zeroValue171
  t139 := Tryz.underlying172
  a139 := Tryz.isAgg172
  z139 := Tryz.sizeOf172
  v139 := Tryz.zeroValue172
  g3 := by kernel_rfl
  g4 := by kernel_rfl }
open Go.RowKit Go.Lib in
theorem Tryz.utf8_decodeRuneInStringSlow (s : ByteArray) (w : World) (hT : Lib.Utf8Tabs 1 2 w) :
    Calls Tryz.prog 119 #[.string s] w fun e w' => e = .returned (.tuple #[.int .i32 (Lib.decodeGo s).1, .int .i64 (Lib.decodeGo s).2]) ∧ Below w.heap.size w w' := Any.utf8_decodeRuneInStringSlow Tryz.lays260 s w hT
end Go.Proofs
end
section
set_option linter.unusedVariables false
namespace Go.Proofs.YtkhgdglaophkbaaGreatDoor.Bk
open Go.RowKit Go.Shelf
theorem sizeBuilder : (Tryz.prog.info? 90).map (·.size) = some 2 := by kernel_rfl
theorem liesBuilder : liesAt Tryz.prog Tryz.prog.depth 90 (2 / Tryz.prog.cellsOf 90) 0 90 1 = true := by kernel_rfl
theorem infoByte : (Tryz.prog.info? 5).map (fun i => (i.zero, i.size, i.bytes)) = some (some (.int .u8 0), 1, 1) := by kernel_rfl
set_option maxHeartbeats 1000000 in
set_option maxRecDepth 100000 in
theorem copyCheck_used (b : Nat) (w : World) (h0 : w.cell? ⟨b, 0, none⟩ = some (.pointer (some ⟨b, 0, none⟩))) :
    Calls Tryz.prog 63 #[.pointer (some ⟨b, 0, none⟩)] w fun e w' => e = .returned (.tuple #[]) ∧ w' = w := by
  obtain ⟨j, hj, _⟩ := Option.map_eq_some_iff.1 sizeBuilder
  go_enter Tryz.func63, Tryz.ntmps63
  go_wp2
  rw [Lib.run_neq_ptr_same w _ Tryz.underlying88 hj]
  go_wp2
  go_end0
  exact ⟨rfl, rfl⟩
set_option maxHeartbeats 1000000 in
set_option maxRecDepth 100000 in
theorem copyCheck_fresh (b : Nat) (w : World) (h0 : w.cell? ⟨b, 0, none⟩ = some (.pointer none)) (hsh : w.shape? b = some (90, 2)) (hfz : w.frozen? ⟨b, 0, none⟩ = false) :
    Calls Tryz.prog 63 #[.pointer (some ⟨b, 0, none⟩)] w fun e w' => e = .returned (.tuple #[]) ∧ w' = w.setCell ⟨b, 0, none⟩ (.pointer (some ⟨b, 0, none⟩)) := by
  obtain ⟨j, hj, hjs⟩ := Option.map_eq_some_iff.1 sizeBuilder
  go_enter Tryz.func63, Tryz.ntmps63
  go_wp2
  rw [Lib.run_to_unsafe w ⟨b, 0, none⟩ Tryz.underlying88 Tryz.underlying130 hj (by rw [hjs]; decide) hsh (Nat.zero_lt_succ 1)]
  simp only [Result.andThen]
  rw [Oper.upon_value]
  go_wp2
  rw [run_callFunc_extern Tryz.func76 (by kernel_rfl) (by kernel_rfl) (by kernel_rfl) (e := Extern.AbiNoEscape.same) (by kernel_rfl)]
  rw [Lib.run_noEscape]
  simp only [Result.andThen]
  rw [Oper.upon_value]
  go_wp2
  rw [Lib.run_from_unsafe w ⟨b, 0, none⟩ Tryz.underlying130 Tryz.underlying88 hj hsh liesBuilder]
  simp only [Result.andThen]
  rw [Oper.upon_value]
  go_wp2
  go_end0
  exact ⟨rfl, rfl⟩
structure KeptT (T e : TypeId) (w w' : World) : Prop where mk ::
  size : w.heap.size ≤ w'.heap.size
  kept : ∀ (k : Nat) (cs : Array Value) (t : TypeId) (fr : Nat × Nat), w.heap[k]? = some (Obj.cells cs t fr) → t ≠ T → t ≠ e → w'.heap[k]? = some (Obj.cells cs t fr)
  maps : ∀ (k : Nat) (es : Array MapEntry) (c : Nat), w.heap[k]? = some (Obj.map es c) → w'.heap[k]? = some (Obj.map es c)
theorem KeptT.refl (T e : TypeId) (w : World) : KeptT T e w w := ⟨Nat.le_refl _, fun _ _ _ _ h _ _ => h, fun _ _ _ h => h⟩
theorem KeptT.trans {T e : TypeId} {a b c : World} (h : KeptT T e a b) (h' : KeptT T e b c) : KeptT T e a c :=
  ⟨Nat.le_trans h.size h'.size, fun k cs t fr hk h1 h2 => h'.kept k cs t fr (h.kept k cs t fr hk h1 h2) h1 h2, fun k es cl hk => h'.maps k es cl (h.maps k es cl hk)⟩
theorem KeptT.of_below {T e : TypeId} {a b : World} (h : Below a.heap.size a b) : KeptT T e a b :=
  ⟨h.size, fun k cs t fr hk _ _ => by rw [h.block k (Array.getElem?_eq_some_iff.1 hk).1]; exact hk, fun k es c hk => by rw [h.block k (Array.getElem?_eq_some_iff.1 hk).1]; exact hk⟩
theorem KeptT.setCell {T e : TypeId} {w : World} {b : Nat} {cs : Array Value} {t : TypeId} {fr : Nat × Nat} (hb : w.heap[b]? = some (.cells cs t fr)) (ht : t = T ∨ t = e) (j : Nat) (v : Value) : KeptT T e w (w.setCell ⟨b, j, none⟩ v) :=
  ⟨by simp [World.setCell], fun k cs' t' fr' hk h1 h2 => by
    by_cases hkb : k = b
    · subst hkb
      rw [hb] at hk
      injection hk with hk
      injection hk with _ ht' _
      rcases ht with h | h
      · exact absurd (ht'.symm.trans h) h1
      · exact absurd (ht'.symm.trans h) h2
    · rw [Below.heap_setCell _ _ _ _ (fun he => hkb (by simpa using he))]; exact hk,
   fun k es c hk => by
    have hkb : k ≠ b := by
      rintro rfl
      rw [hb] at hk
      cases hk
    rw [Below.heap_setCell _ _ _ _ (fun he => hkb (by simpa using he))]; exact hk⟩
theorem KeptT.grown {T e : TypeId} {w w' : World} {B n size : Nat} {v : Value} {xs : List Value} (hown : w.ownsRow B e size v n xs) (hg : w.grownBy w' v.ownBlock) : KeptT T e w w' := by
  have hne : ∀ k, (∀ cs t fr, w.heap[k]? = some (Obj.cells cs t fr) → t ≠ e) → some k ≠ v.ownBlock := fun k hc he => by
    rcases hown.2 with ⟨rfl, _⟩ | ⟨g, cap, cur, rfl, _, hh, _⟩
    · simp [Value.ownBlock] at he
    · have : k = g := by simpa [Value.ownBlock] using he
      subst this
      exact hc _ _ _ hh rfl
  refine ⟨hg.size, fun k cs t fr hk _ h2 => ?_, fun k es c hk => ?_⟩
  · rw [hg.block k (Array.getElem?_eq_some_iff.1 hk).1 (hne k (fun cs' t' fr' h => by rw [hk] at h; cases h; exact h2))]
    exact hk
  · rw [hg.block k (Array.getElem?_eq_some_iff.1 hk).1 (hne k (fun cs' t' fr' h => by rw [hk] at h; cases h))]
    exact hk
theorem builder_below {T e : TypeId} {B b : Nat} {bs : List Value} {w w' : World} (h : Lib.IsBuilder T e B b bs w) (hb : Below w.heap.size w w') : Lib.IsBuilder T e B b bs w' := by
  have hg : w.grownBy w' none := ⟨hb.os, hb.tape, hb.output, hb.size, fun i hi _ => hb.block i hi⟩
  have one : ∀ p, Lib.BuilderAt T e B b p bs w → Lib.BuilderAt T e B b p bs w' := fun p hp => by
    have hlt := hp.lt
    obtain ⟨hB, v, hv, hown, hne⟩ := hp
    refine ⟨hB, v, (hb.block b hlt).trans hv, hown.kept hg ?_, hne⟩
    cases ho : v.ownBlock with
    | none => exact .inl rfl
    | some k => exact .inr (by simp)
  rcases h with h | h
  · exact .inl (one _ h)
  · exact .inr (one _ h)
theorem copyCheckK (B b : Nat) (bs : List Value) (w : World) (h : Lib.IsBuilder 90 5 B b bs w) :
    Calls Tryz.prog 63 #[.pointer (some ⟨b, 0, none⟩)] w fun e w' => e = .returned (.tuple #[]) ∧ Lib.BuilderAt 90 5 B b (.pointer (some ⟨b, 0, none⟩)) bs w' ∧ Below B w w' ∧ KeptT 90 5 w w' := by
  rcases h with h | h
  · refine (copyCheck_fresh b w h.cell0 h.shape h.frozen0).mono ?_
    rintro e w' ⟨rfl, rfl⟩
    obtain ⟨hB, v, hv, hr⟩ := id h
    exact ⟨rfl, h.used _, (Below.refl B w).setCell (p := ⟨b, 0, none⟩) hB _, KeptT.setCell hv (.inl rfl) 0 _⟩
  · refine (copyCheck_used b w h.cell0).mono ?_
    rintro e w' ⟨rfl, rfl⟩
    exact ⟨rfl, h, Below.refl B _, KeptT.refl _ _ _⟩
set_option maxHeartbeats 2000000 in
set_option maxRecDepth 100000 in
theorem writeString (B b : Nat) (bs : List Value) (s : ByteArray) (w : World) (h : Lib.IsBuilder 90 5 B b bs w) (hlen : bs.length + s.size ≤ 140737488355328) (hBw : B ≤ w.heap.size) :
    Calls Tryz.prog 42 #[.pointer (some ⟨b, 0, none⟩), .string s] w fun e w' => e = .returned (.tuple #[.int .i64 s.size, .nilIface]) ∧
      Lib.BuilderAt 90 5 B b (.pointer (some ⟨b, 0, none⟩)) (bs ++ Lib.strCells s) w' ∧ Below B w w' ∧ KeptT 90 5 w w' := by
  obtain ⟨i0, hi, hz0, hz1, hz2⟩ := info_parts infoByte
  go_enter Tryz.func42, Tryz.ntmps42
  go_wp2_with (go_at_call 63; refine (copyCheckK B b bs _ h).mono ?_)
  rintro e w1 ⟨rfl, h1, hb1, hk1⟩
  obtain ⟨hB, v, hbk, hown, hne⟩ := h1
  have c0 : w1.cell? ⟨b, 0, none⟩ = some (.pointer (some ⟨b, 0, none⟩)) := by rw [Lib.cell_of_heap hbk]; rfl
  have c1 : w1.cell? ⟨b, 1, none⟩ = some v := by rw [Lib.cell_of_heap hbk]; rfl
  go_wp2_with (at_builtin; refine Lib.wpList_append_own_string _ rfl _ _ 81 9 rfl B 5 i0 Tryz.underlying81 Tryz.underlying9 hi hz0 hz1 hz2 _ _ _ rfl hown s rfl ?c3 ?c4 ?c5 ?_)
  case c3 => unfold maxLen; omega
  case c4 => omega
  case c5 => have := hb1.size; omega
  intro v' w2 hown' hgrow _
  have hlt : b < w1.heap.size := (Array.getElem?_eq_some_iff.1 hbk).1
  have hb2 : w2.heap[b]? = some (.cells #[.pointer (some ⟨b, 0, none⟩), v] 90 (0, 0)) := by
    rw [hgrow.block b hlt (fun e => hne e.symm)]
    exact hbk
  have d0 : w2.cell? ⟨b, 0, none⟩ = some (.pointer (some ⟨b, 0, none⟩)) := by rw [Lib.cell_of_heap hb2]; rfl
  have d1 : w2.cell? ⟨b, 1, none⟩ = some v := by rw [Lib.cell_of_heap hb2]; rfl
  have f1 : w2.frozen? ⟨b, 1, none⟩ = false := Lib.frozen_of_heap hb2 1
  obtain ⟨ao, n', cap, rfl⟩ : ∃ ao n' cap, v' = .slice ao n' cap := by
    rcases hown'.2 with ⟨hv, _⟩ | ⟨g, cap, cur, hv, _⟩
    · exact ⟨_, _, _, hv⟩
    · exact ⟨_, _, _, hv⟩
  have hK2 := KeptT.grown (T := 90) hown hgrow
  go_wp2
  go_ret2
  refine ⟨rfl, ?_, ?_, ?_⟩
  · exact Lib.BuilderAt.put (T := 90) (e := 5) hB hb2 (bs' := bs ++ Lib.strCells s) (by simpa [Lib.strCells_length] using hown') (by decide)
  · exact (hb1.grown hgrow (by have := hb1.size; omega) (fun k hk => (hown.lt k hk).1)).setCell (p := ⟨b, 1, none⟩) hB _
  · exact (hk1.trans hK2).trans (KeptT.setCell hb2 (.inl rfl) 1 _)
end Go.Proofs.YtkhgdglaophkbaaGreatDoor.Bk
end
section
namespace Go.Proofs.YtkhgdglaophkbaaGreatDoor.Bk
open Go.Lib
theorem decode_ascii (s : ByteArray) (i : Nat) (h : (s.get! i).toNat < 128) : Utf8.decode s i = ((s.get! i).toNat, 1) := by
  unfold Utf8.decode
  simp only [Nat.add_zero]
  rw [if_pos h]
theorem decode_high (s : ByteArray) (i : Nat) (h : 128 ≤ (s.get! i).toNat) : 128 ≤ (Utf8.decode s i).1 := by
  unfold Utf8.decode
  simp only [Nat.add_zero]
  rw [if_neg (by omega)]
  repeat' split
  all_goals first | (simp only [Utf8.runeError]; omega) | (simp_all; done) | (simp_all; omega)
theorem idx_none (p : Nat → Bool) (hp : ∀ r, 128 ≤ r → p r = true) (s : ByteArray) : ∀ (f pos : Nat), s.size ≤ pos + f →
    ((idxFuncFrom p true s f pos < 0) ↔ ∀ j, pos ≤ j → j < s.size → p (s.get! j).toNat = false)
  | 0, pos, h => by
    simp only [idxFuncFrom]
    exact ⟨fun _ j h1 h2 => by omega, fun _ => by omega⟩
  | f + 1, pos, h => by
    unfold idxFuncFrom
    by_cases hps : pos < s.size
    · rw [if_pos hps]
      by_cases hc : (s.get! pos).toNat < 128
      · rw [decode_ascii s pos hc]
        dsimp only
        by_cases hpp : p (s.get! pos).toNat = true
        · rw [if_pos hpp]
          refine ⟨fun h1 => by omega, fun h1 => ?_⟩
          have := h1 pos (Nat.le_refl _) hps
          rw [hpp] at this
          cases this
        · rw [if_neg hpp, idx_none p hp s f (pos + 1) (by omega)]
          refine ⟨fun h1 j h2 h3 => ?_, fun h1 j h2 h3 => h1 j (by omega) h3⟩
          by_cases e : j = pos
          · subst e; simpa using hpp
          · exact h1 j (by omega) h3
      · have hh := decode_high s pos (by omega)
        rw [if_pos (hp _ hh)]
        refine ⟨fun h1 => by omega, fun h1 => ?_⟩
        have := h1 pos (Nat.le_refl _) hps
        rw [hp _ (by omega)] at this
        cases this
    · rw [if_neg hps]
      exact ⟨fun _ j h1 h2 => by omega, fun _ => by omega⟩
theorem get_list (s : ByteArray) (j : Nat) (h : j < s.size) : s.get! j = s.data.toList[j]'(by simpa using h) := by
  have : s.get! j = s.data[j]! := rfl
  rw [this, getElem!_pos s.data j h]
  simp
theorem idx_all (p : Nat → Bool) (hp : ∀ r, 128 ≤ r → p r = true) (s : ByteArray) :
    decide (idxFunc p true s < 0) = s.data.toList.all (fun c => !p c.toNat) := by
  have h := idx_none p hp s s.size 0 (by omega)
  unfold idxFunc
  rw [Bool.eq_iff_iff]
  simp only [decide_eq_true_eq, List.all_eq_true, Bool.not_eq_true']
  rw [h]
  constructor
  · intro h1 x hx
    obtain ⟨j, hj, rfl⟩ := List.getElem_of_mem hx
    have hj' : j < s.size := by simpa using hj
    rw [← get_list s j hj']
    exact h1 j (Nat.zero_le _) hj'
  · intro h1 j _ h3
    rw [get_list s j h3]
    exact h1 _ (List.getElem_mem _)
end Go.Proofs.YtkhgdglaophkbaaGreatDoor.Bk
end
section
namespace Go.Proofs.YtkhgdglaophkbaaGreatDoor.PStr
open Go
@[go_sem] theorem str_geq (t : TypeId) (a b : ByteArray) : binOp .geq t (.string a) (.string b) = pure (.bool (!(Op.bytesLess a.toList b.toList))) := by simp [binOp, Op.stringOp]
end Go.Proofs.YtkhgdglaophkbaaGreatDoor.PStr
end
section
namespace Go.Proofs.YtkhgdglaophkbaaGreatDoor.PK
open Go.RowKit Go.Proofs.YtkhgdglaophkbaaGreatDoorW.PrintWords Go.Proofs.YtkhgdglaophkbaaGreatDoorW.PrintLast Go.Proofs.YtkhgdglaophkbaaGreatDoorW.PrintMore
attribute [local go_sem] max2_int min2_int max_two min_two max_three min_three max_four min_four   -- for this text's walks alone
set_option linter.unusedVariables false
set_option linter.unusedSimpArgs false
def errW : Option Int → Value
  | none => .nilIface
  | some c => .iface 0 (.int .i64 c)
theorem errW_none : errW none = .nilIface := rfl
theorem errW_some (c : Int) : errW (some c) = .iface 0 (.int .i64 c) := rfl
structure S26 where
  f0 : Int
  f1 : (List Int)
  f2 : Int
  f3 : Int
def z26 : S26 := ⟨(0 : Int), ([] : List Int), (0 : Int), (0 : Int)⟩
def k26 : Kd S26 := Kd.iso (Kd.pair (Kd.int .i64) (Kd.pair (Kd.slice 3 (Kd.int .i64)) (Kd.pair (Kd.int .i64) (Kd.int .i64)))) (fun x : S26 => (x.f0, x.f1, x.f2, x.f3))
theorem k26_open {w : World} {x : S26} {cs : List Value} (h : k26.K w x cs) : ∃ A1 c1, cs = [.int .i64 x.f0, .slice A1 x.f1.length c1, .int .i64 x.f2, .int .i64 x.f3] ∧ x.f1.length ≤ c1 ∧ (Kd.int .i64).C w A1 x.f1.length x.f1 := by
  obtain ⟨_, _, rfl, rfl, ⟨_, _, rfl, ⟨A1, c1, rfl, l1, g1⟩, ⟨_, _, rfl, rfl, rfl⟩⟩⟩ := h
  exact ⟨A1, c1, rfl, l1, g1⟩
theorem k26_mk (w : World) (x : S26) {A1 : Option Addr} {c1 : Nat} (l1 : x.f1.length ≤ c1) (g1 : (Kd.int .i64).C w A1 x.f1.length x.f1) : k26.K w x [.int .i64 x.f0, .slice A1 x.f1.length c1, .int .i64 x.f2, .int .i64 x.f3] := ⟨[.int .i64 x.f0], [.slice A1 x.f1.length c1, .int .i64 x.f2, .int .i64 x.f3], rfl, rfl, ⟨[.slice A1 x.f1.length c1], [.int .i64 x.f2, .int .i64 x.f3], rfl, ⟨A1, c1, rfl, l1, g1⟩, ⟨[.int .i64 x.f2], [.int .i64 x.f3], rfl, rfl, rfl⟩⟩⟩
theorem k26_mkM (w : World) (base : Nat) (ok : Nat → Prop) (x : S26) {v1 : Value} (g1 : (Kd.int .i64).R 3 w base ok v1 x.f1) : k26.M w base ok x [.int .i64 x.f0, v1, .int .i64 x.f2, .int .i64 x.f3] := ⟨[.int .i64 x.f0], [v1, .int .i64 x.f2, .int .i64 x.f3], rfl, rfl, ⟨[v1], [.int .i64 x.f2, .int .i64 x.f3], rfl, ⟨v1, rfl, g1⟩, ⟨[.int .i64 x.f2], [.int .i64 x.f3], rfl, rfl, rfl⟩⟩⟩
structure S49 where
  f0 : Int
  f1 : Int
  f2 : ByteArray
  f3 : Int
  f4 : Int
  f5 : S26
def z49 : S49 := ⟨(0 : Int), (0 : Int), (⟨#[]⟩ : ByteArray), (0 : Int), (0 : Int), z26⟩
def k49 : Kd S49 := Kd.iso (Kd.pair (Kd.int .i64) (Kd.pair (Kd.int .i64) (Kd.pair Kd.string (Kd.pair (Kd.int .i64) (Kd.pair (Kd.int .i64) k26))))) (fun x : S49 => (x.f0, x.f1, x.f2, x.f3, x.f4, x.f5))
theorem k49_open {w : World} {x : S49} {cs : List Value} (h : k49.K w x cs) : ∃ A6 c6, cs = [.int .i64 x.f0, .int .i64 x.f1, .string x.f2, .int .i64 x.f3, .int .i64 x.f4, .int .i64 x.f5.f0, .slice A6 x.f5.f1.length c6, .int .i64 x.f5.f2, .int .i64 x.f5.f3] ∧ x.f5.f1.length ≤ c6 ∧ (Kd.int .i64).C w A6 x.f5.f1.length x.f5.f1 := by
  obtain ⟨_, _, rfl, rfl, ⟨_, _, rfl, rfl, ⟨_, _, rfl, rfl, ⟨_, _, rfl, rfl, ⟨_, _, rfl, rfl, s5⟩⟩⟩⟩⟩ := h
  obtain ⟨A6, c6, rfl, l6, g6⟩ := k26_open s5
  exact ⟨A6, c6, rfl, l6, g6⟩
theorem k49_mk (w : World) (x : S49) {A6 : Option Addr} {c6 : Nat} (l6 : x.f5.f1.length ≤ c6) (g6 : (Kd.int .i64).C w A6 x.f5.f1.length x.f5.f1) : k49.K w x [.int .i64 x.f0, .int .i64 x.f1, .string x.f2, .int .i64 x.f3, .int .i64 x.f4, .int .i64 x.f5.f0, .slice A6 x.f5.f1.length c6, .int .i64 x.f5.f2, .int .i64 x.f5.f3] := ⟨[.int .i64 x.f0], [.int .i64 x.f1, .string x.f2, .int .i64 x.f3, .int .i64 x.f4, .int .i64 x.f5.f0, .slice A6 x.f5.f1.length c6, .int .i64 x.f5.f2, .int .i64 x.f5.f3], rfl, rfl, ⟨[.int .i64 x.f1], [.string x.f2, .int .i64 x.f3, .int .i64 x.f4, .int .i64 x.f5.f0, .slice A6 x.f5.f1.length c6, .int .i64 x.f5.f2, .int .i64 x.f5.f3], rfl, rfl, ⟨[.string x.f2], [.int .i64 x.f3, .int .i64 x.f4, .int .i64 x.f5.f0, .slice A6 x.f5.f1.length c6, .int .i64 x.f5.f2, .int .i64 x.f5.f3], rfl, rfl, ⟨[.int .i64 x.f3], [.int .i64 x.f4, .int .i64 x.f5.f0, .slice A6 x.f5.f1.length c6, .int .i64 x.f5.f2, .int .i64 x.f5.f3], rfl, rfl, ⟨[.int .i64 x.f4], [.int .i64 x.f5.f0, .slice A6 x.f5.f1.length c6, .int .i64 x.f5.f2, .int .i64 x.f5.f3], rfl, rfl, (k26_mk w x.f5 l6 g6)⟩⟩⟩⟩⟩
theorem k49_mkM (w : World) (base : Nat) (ok : Nat → Prop) (x : S49) {v6 : Value} (g6 : (Kd.int .i64).R 3 w base ok v6 x.f5.f1) : k49.M w base ok x [.int .i64 x.f0, .int .i64 x.f1, .string x.f2, .int .i64 x.f3, .int .i64 x.f4, .int .i64 x.f5.f0, v6, .int .i64 x.f5.f2, .int .i64 x.f5.f3] := ⟨[.int .i64 x.f0], [.int .i64 x.f1, .string x.f2, .int .i64 x.f3, .int .i64 x.f4, .int .i64 x.f5.f0, v6, .int .i64 x.f5.f2, .int .i64 x.f5.f3], rfl, rfl, ⟨[.int .i64 x.f1], [.string x.f2, .int .i64 x.f3, .int .i64 x.f4, .int .i64 x.f5.f0, v6, .int .i64 x.f5.f2, .int .i64 x.f5.f3], rfl, rfl, ⟨[.string x.f2], [.int .i64 x.f3, .int .i64 x.f4, .int .i64 x.f5.f0, v6, .int .i64 x.f5.f2, .int .i64 x.f5.f3], rfl, rfl, ⟨[.int .i64 x.f3], [.int .i64 x.f4, .int .i64 x.f5.f0, v6, .int .i64 x.f5.f2, .int .i64 x.f5.f3], rfl, rfl, ⟨[.int .i64 x.f4], [.int .i64 x.f5.f0, v6, .int .i64 x.f5.f2, .int .i64 x.f5.f3], rfl, rfl, (k26_mkM w base ok x.f5 g6)⟩⟩⟩⟩⟩
def rd_T49 (xs : List S49) (i : Int) : S49 := xs.getD i.toNat z49
theorem at_T49 {w : World} {A : Option Addr} {n : Nat} {xs : List S49} (h : Kd.C k49 w A n xs) (i : Int) (h0 : 0 ≤ i) (h1 : i < n) : ∃ ad A6 c6, A = some ad ∧ w.cell? (ad.add (i.toNat * 9)) = some (.int .i64 (rd_T49 xs i).f0) ∧ w.cell? ⟨(ad.add (i.toNat * 9)).block, (ad.add (i.toNat * 9)).off + 1, none⟩ = some (.int .i64 (rd_T49 xs i).f1) ∧ w.cell? ⟨(ad.add (i.toNat * 9)).block, (ad.add (i.toNat * 9)).off + 2, none⟩ = some (.string (rd_T49 xs i).f2) ∧ w.cell? ⟨(ad.add (i.toNat * 9)).block, (ad.add (i.toNat * 9)).off + 3, none⟩ = some (.int .i64 (rd_T49 xs i).f3) ∧ w.cell? ⟨(ad.add (i.toNat * 9)).block, (ad.add (i.toNat * 9)).off + 4, none⟩ = some (.int .i64 (rd_T49 xs i).f4) ∧ w.cell? ⟨(ad.add (i.toNat * 9)).block, (ad.add (i.toNat * 9)).off + 5, none⟩ = some (.int .i64 (rd_T49 xs i).f5.f0) ∧ w.cell? ⟨(ad.add (i.toNat * 9)).block, (ad.add (i.toNat * 9)).off + 6, none⟩ = some (.slice A6 (rd_T49 xs i).f5.f1.length c6) ∧ w.cell? ⟨(ad.add (i.toNat * 9)).block, (ad.add (i.toNat * 9)).off + 7, none⟩ = some (.int .i64 (rd_T49 xs i).f5.f2) ∧ w.cell? ⟨(ad.add (i.toNat * 9)).block, (ad.add (i.toNat * 9)).off + 8, none⟩ = some (.int .i64 (rd_T49 xs i).f5.f3) ∧ (rd_T49 xs i).f5.f1.length ≤ c6 ∧ (Kd.int .i64).C w A6 (rd_T49 xs i).f5.f1.length (rd_T49 xs i).f5.f1 := by
  obtain ⟨ad, c, e, _, hK, hc0⟩ := Kd.C_get h z49 i h0 h1
  have hc : ∀ j u, c[j]? = some u → w.cell? (ad.add (i.toNat * 9 + j)) = some u := hc0
  obtain ⟨A6, c6, rfl, l6, g6⟩ := k49_open hK
  exact ⟨ad, A6, c6, e, hc 0 _ rfl, by rw [← add_field _ _ 1 (by omega)]; exact hc 1 _ rfl, by rw [← add_field _ _ 2 (by omega)]; exact hc 2 _ rfl, by rw [← add_field _ _ 3 (by omega)]; exact hc 3 _ rfl, by rw [← add_field _ _ 4 (by omega)]; exact hc 4 _ rfl, by rw [← add_field _ _ 5 (by omega)]; exact hc 5 _ rfl, by rw [← add_field _ _ 6 (by omega)]; exact hc 6 _ rfl, by rw [← add_field _ _ 7 (by omega)]; exact hc 7 _ rfl, by rw [← add_field _ _ 8 (by omega)]; exact hc 8 _ rfl, l6, g6⟩
structure S28 where
  f0 : Int
  f1 : Int
  f2 : Int
  f3 : Int
  f4 : ByteArray
  f5 : Int
  f6 : Int
  f7 : ByteArray
  f8 : ByteArray
  f9 : (List ByteArray)
  f10 : (List S49)
  f11 : S26
  f12 : Int
  f13 : Int
  f14 : Int
  f15 : ByteArray
  f16 : ByteArray
  f17 : Int
  f18 : Int
  f19 : Int
def k28 : Kd S28 := Kd.iso (Kd.pair (Kd.int .i64) (Kd.pair (Kd.int .i64) (Kd.pair (Kd.int .i64) (Kd.pair (Kd.int .i64) (Kd.pair Kd.string (Kd.pair (Kd.int .i64) (Kd.pair (Kd.int .i64) (Kd.pair Kd.string (Kd.pair Kd.string (Kd.pair (Kd.slice 9 Kd.string) (Kd.pair (Kd.slice 49 k49) (Kd.pair k26 (Kd.pair (Kd.int .i64) (Kd.pair (Kd.int .i64) (Kd.pair (Kd.int .i64) (Kd.pair Kd.string (Kd.pair Kd.string (Kd.pair (Kd.int .i64) (Kd.pair (Kd.int .i64) (Kd.int .i64)))))))))))))))))))) (fun x : S28 => (x.f0, x.f1, x.f2, x.f3, x.f4, x.f5, x.f6, x.f7, x.f8, x.f9, x.f10, x.f11, x.f12, x.f13, x.f14, x.f15, x.f16, x.f17, x.f18, x.f19))
theorem k28_open {w : World} {x : S28} {cs : List Value} (h : k28.K w x cs) : ∃ A9 c9 A10 c10 A12 c12, cs = [.int .i64 x.f0, .int .i64 x.f1, .int .i64 x.f2, .int .i64 x.f3, .string x.f4, .int .i64 x.f5, .int .i64 x.f6, .string x.f7, .string x.f8, .slice A9 x.f9.length c9, .slice A10 x.f10.length c10, .int .i64 x.f11.f0, .slice A12 x.f11.f1.length c12, .int .i64 x.f11.f2, .int .i64 x.f11.f3, .int .i64 x.f12, .int .i64 x.f13, .int .i64 x.f14, .string x.f15, .string x.f16, .int .i64 x.f17, .int .i64 x.f18, .int .i64 x.f19] ∧ x.f9.length ≤ c9 ∧ Kd.string.C w A9 x.f9.length x.f9 ∧ x.f10.length ≤ c10 ∧ k49.C w A10 x.f10.length x.f10 ∧ x.f11.f1.length ≤ c12 ∧ (Kd.int .i64).C w A12 x.f11.f1.length x.f11.f1 := by
  obtain ⟨_, _, rfl, rfl, ⟨_, _, rfl, rfl, ⟨_, _, rfl, rfl, ⟨_, _, rfl, rfl, ⟨_, _, rfl, rfl, ⟨_, _, rfl, rfl, ⟨_, _, rfl, rfl, ⟨_, _, rfl, rfl, ⟨_, _, rfl, rfl, ⟨_, _, rfl, ⟨A9, c9, rfl, l9, g9⟩, ⟨_, _, rfl, ⟨A10, c10, rfl, l10, g10⟩, ⟨_, _, rfl, s11, ⟨_, _, rfl, rfl, ⟨_, _, rfl, rfl, ⟨_, _, rfl, rfl, ⟨_, _, rfl, rfl, ⟨_, _, rfl, rfl, ⟨_, _, rfl, rfl, ⟨_, _, rfl, rfl, rfl⟩⟩⟩⟩⟩⟩⟩⟩⟩⟩⟩⟩⟩⟩⟩⟩⟩⟩⟩ := h
  obtain ⟨A12, c12, rfl, l12, g12⟩ := k26_open s11
  exact ⟨A9, c9, A10, c10, A12, c12, rfl, l9, g9, l10, g10, l12, g12⟩
theorem k28_mk (w : World) (x : S28) {A9 : Option Addr} {c9 : Nat} (l9 : x.f9.length ≤ c9) (g9 : Kd.string.C w A9 x.f9.length x.f9) {A10 : Option Addr} {c10 : Nat} (l10 : x.f10.length ≤ c10) (g10 : k49.C w A10 x.f10.length x.f10) {A12 : Option Addr} {c12 : Nat} (l12 : x.f11.f1.length ≤ c12) (g12 : (Kd.int .i64).C w A12 x.f11.f1.length x.f11.f1) : k28.K w x [.int .i64 x.f0, .int .i64 x.f1, .int .i64 x.f2, .int .i64 x.f3, .string x.f4, .int .i64 x.f5, .int .i64 x.f6, .string x.f7, .string x.f8, .slice A9 x.f9.length c9, .slice A10 x.f10.length c10, .int .i64 x.f11.f0, .slice A12 x.f11.f1.length c12, .int .i64 x.f11.f2, .int .i64 x.f11.f3, .int .i64 x.f12, .int .i64 x.f13, .int .i64 x.f14, .string x.f15, .string x.f16, .int .i64 x.f17, .int .i64 x.f18, .int .i64 x.f19] := ⟨[.int .i64 x.f0], [.int .i64 x.f1, .int .i64 x.f2, .int .i64 x.f3, .string x.f4, .int .i64 x.f5, .int .i64 x.f6, .string x.f7, .string x.f8, .slice A9 x.f9.length c9, .slice A10 x.f10.length c10, .int .i64 x.f11.f0, .slice A12 x.f11.f1.length c12, .int .i64 x.f11.f2, .int .i64 x.f11.f3, .int .i64 x.f12, .int .i64 x.f13, .int .i64 x.f14, .string x.f15, .string x.f16, .int .i64 x.f17, .int .i64 x.f18, .int .i64 x.f19], rfl, rfl, ⟨[.int .i64 x.f1], [.int .i64 x.f2, .int .i64 x.f3, .string x.f4, .int .i64 x.f5, .int .i64 x.f6, .string x.f7, .string x.f8, .slice A9 x.f9.length c9, .slice A10 x.f10.length c10, .int .i64 x.f11.f0, .slice A12 x.f11.f1.length c12, .int .i64 x.f11.f2, .int .i64 x.f11.f3, .int .i64 x.f12, .int .i64 x.f13, .int .i64 x.f14, .string x.f15, .string x.f16, .int .i64 x.f17, .int .i64 x.f18, .int .i64 x.f19], rfl, rfl, ⟨[.int .i64 x.f2], [.int .i64 x.f3, .string x.f4, .int .i64 x.f5, .int .i64 x.f6, .string x.f7, .string x.f8, .slice A9 x.f9.length c9, .slice A10 x.f10.length c10, .int .i64 x.f11.f0, .slice A12 x.f11.f1.length c12, .int .i64 x.f11.f2, .int .i64 x.f11.f3, .int .i64 x.f12, .int .i64 x.f13, .int .i64 x.f14, .string x.f15, .string x.f16, .int .i64 x.f17, .int .i64 x.f18, .int .i64 x.f19], rfl, rfl, ⟨[.int .i64 x.f3], [.string x.f4, .int .i64 x.f5, .int .i64 x.f6, .string x.f7, .string x.f8, .slice A9 x.f9.length c9, .slice A10 x.f10.length c10, .int .i64 x.f11.f0, .slice A12 x.f11.f1.length c12, .int .i64 x.f11.f2, .int .i64 x.f11.f3, .int .i64 x.f12, .int .i64 x.f13, .int .i64 x.f14, .string x.f15, .string x.f16, .int .i64 x.f17, .int .i64 x.f18, .int .i64 x.f19], rfl, rfl, ⟨[.string x.f4], [.int .i64 x.f5, .int .i64 x.f6, .string x.f7, .string x.f8, .slice A9 x.f9.length c9, .slice A10 x.f10.length c10, .int .i64 x.f11.f0, .slice A12 x.f11.f1.length c12, .int .i64 x.f11.f2, .int .i64 x.f11.f3, .int .i64 x.f12, .int .i64 x.f13, .int .i64 x.f14, .string x.f15, .string x.f16, .int .i64 x.f17, .int .i64 x.f18, .int .i64 x.f19], rfl, rfl, ⟨[.int .i64 x.f5], [.int .i64 x.f6, .string x.f7, .string x.f8, .slice A9 x.f9.length c9, .slice A10 x.f10.length c10, .int .i64 x.f11.f0, .slice A12 x.f11.f1.length c12, .int .i64 x.f11.f2, .int .i64 x.f11.f3, .int .i64 x.f12, .int .i64 x.f13, .int .i64 x.f14, .string x.f15, .string x.f16, .int .i64 x.f17, .int .i64 x.f18, .int .i64 x.f19], rfl, rfl, ⟨[.int .i64 x.f6], [.string x.f7, .string x.f8, .slice A9 x.f9.length c9, .slice A10 x.f10.length c10, .int .i64 x.f11.f0, .slice A12 x.f11.f1.length c12, .int .i64 x.f11.f2, .int .i64 x.f11.f3, .int .i64 x.f12, .int .i64 x.f13, .int .i64 x.f14, .string x.f15, .string x.f16, .int .i64 x.f17, .int .i64 x.f18, .int .i64 x.f19], rfl, rfl, ⟨[.string x.f7], [.string x.f8, .slice A9 x.f9.length c9, .slice A10 x.f10.length c10, .int .i64 x.f11.f0, .slice A12 x.f11.f1.length c12, .int .i64 x.f11.f2, .int .i64 x.f11.f3, .int .i64 x.f12, .int .i64 x.f13, .int .i64 x.f14, .string x.f15, .string x.f16, .int .i64 x.f17, .int .i64 x.f18, .int .i64 x.f19], rfl, rfl, ⟨[.string x.f8], [.slice A9 x.f9.length c9, .slice A10 x.f10.length c10, .int .i64 x.f11.f0, .slice A12 x.f11.f1.length c12, .int .i64 x.f11.f2, .int .i64 x.f11.f3, .int .i64 x.f12, .int .i64 x.f13, .int .i64 x.f14, .string x.f15, .string x.f16, .int .i64 x.f17, .int .i64 x.f18, .int .i64 x.f19], rfl, rfl, ⟨[.slice A9 x.f9.length c9], [.slice A10 x.f10.length c10, .int .i64 x.f11.f0, .slice A12 x.f11.f1.length c12, .int .i64 x.f11.f2, .int .i64 x.f11.f3, .int .i64 x.f12, .int .i64 x.f13, .int .i64 x.f14, .string x.f15, .string x.f16, .int .i64 x.f17, .int .i64 x.f18, .int .i64 x.f19], rfl, ⟨A9, c9, rfl, l9, g9⟩, ⟨[.slice A10 x.f10.length c10], [.int .i64 x.f11.f0, .slice A12 x.f11.f1.length c12, .int .i64 x.f11.f2, .int .i64 x.f11.f3, .int .i64 x.f12, .int .i64 x.f13, .int .i64 x.f14, .string x.f15, .string x.f16, .int .i64 x.f17, .int .i64 x.f18, .int .i64 x.f19], rfl, ⟨A10, c10, rfl, l10, g10⟩, ⟨[.int .i64 x.f11.f0, .slice A12 x.f11.f1.length c12, .int .i64 x.f11.f2, .int .i64 x.f11.f3], [.int .i64 x.f12, .int .i64 x.f13, .int .i64 x.f14, .string x.f15, .string x.f16, .int .i64 x.f17, .int .i64 x.f18, .int .i64 x.f19], rfl, (k26_mk w x.f11 l12 g12), ⟨[.int .i64 x.f12], [.int .i64 x.f13, .int .i64 x.f14, .string x.f15, .string x.f16, .int .i64 x.f17, .int .i64 x.f18, .int .i64 x.f19], rfl, rfl, ⟨[.int .i64 x.f13], [.int .i64 x.f14, .string x.f15, .string x.f16, .int .i64 x.f17, .int .i64 x.f18, .int .i64 x.f19], rfl, rfl, ⟨[.int .i64 x.f14], [.string x.f15, .string x.f16, .int .i64 x.f17, .int .i64 x.f18, .int .i64 x.f19], rfl, rfl, ⟨[.string x.f15], [.string x.f16, .int .i64 x.f17, .int .i64 x.f18, .int .i64 x.f19], rfl, rfl, ⟨[.string x.f16], [.int .i64 x.f17, .int .i64 x.f18, .int .i64 x.f19], rfl, rfl, ⟨[.int .i64 x.f17], [.int .i64 x.f18, .int .i64 x.f19], rfl, rfl, ⟨[.int .i64 x.f18], [.int .i64 x.f19], rfl, rfl, rfl⟩⟩⟩⟩⟩⟩⟩⟩⟩⟩⟩⟩⟩⟩⟩⟩⟩⟩⟩
end Go.Proofs.YtkhgdglaophkbaaGreatDoor.PK
end
section
namespace Go.Proofs.YtkhgdglaophkbaaGreatDoor.PK
open Go.RowKit Go.Proofs.YtkhgdglaophkbaaGreatDoorW.PrintWords Go.Proofs.YtkhgdglaophkbaaGreatDoorW.PrintLast Go.Proofs.YtkhgdglaophkbaaGreatDoorW.PrintMore
abbrev Lb := S26
abbrev Bl := S49
def m_zig (n : Int) : Nat := if n < 0 then (-n).toNat * 2 - 1 else n.toNat * 2
def m_vint : Nat → Nat → List UInt8
  | 0, _ => []
  | k + 1, z => if z < 128 then [UInt8.ofNat z] else UInt8.ofNat (z % 128 + 128) :: m_vint k (z / 128)
def m_int (n : Int) : List UInt8 := m_vint 10 (m_zig n)
def m_fits (n : Int) : Bool := decide (-4611686018427387903 ≤ n) && decide (n ≤ 4611686018427387903)
def m_putInt (n : Int) : ByteArray × Int := if m_fits n then (⟨(m_int n).toArray⟩, 0) else (⟨#[]⟩, 10)
def m_str (l : List UInt8) : List UInt8 := m_int l.length ++ l
def m_asc : List Int → Bool
  | [] => true
  | [_] => true
  | x :: y :: l => decide (x < y) && m_asc (y :: l)
def m_label (u : Int) (l : List Int) (a d : Int) : Bool :=
  decide (0 ≤ u) && decide (u ≤ 1000000000) && l.all (fun x => decide (1 ≤ x) && decide (x ≤ 64)) && m_asc l && decide (0 ≤ a) && decide (a ≤ 5) && decide (0 ≤ d) && decide (d ≤ 15)
def m_name (s : ByteArray) : Bool := decide (1 ≤ s.size) && decide (s.size ≤ 20) &&
  s.data.toList.all (fun c => (decide (97 ≤ c.toNat) && decide (c.toNat ≤ 122)) || (decide (48 ≤ c.toNat) && decide (c.toNat ≤ 57)) || c.toNat == 45)
def m_text (s : ByteArray) : Bool := decide (s.size ≤ 300) && s.data.toList.all (fun c => decide (32 ≤ c.toNat) && decide (c.toNat ≤ 126))
def m_valid (id kind : Int) (text : ByteArray) (story ref u : Int) (l : List Int) (a d : Int) : Bool :=
  decide (1 ≤ id) && decide (id ≤ 1000) && m_label u l a d && m_text text &&
    (if kind = 1 ∨ kind = 2 ∨ kind = 4 then decide (text.size ≠ 0) && decide (story = 0) && decide (ref = 0)
     else if kind = 5 then m_name text && decide (story = 0) && decide (ref = 0)
     else if kind = 3 then decide (1 ≤ story) && decide (story ≤ 64) && decide (1 ≤ ref) && decide (ref ≤ 1000)
     else false)
def m_validB (b : Bl) : Bool := m_valid b.f0 b.f1 b.f2 b.f3 b.f4 b.f5.f0 b.f5.f1 b.f5.f2 b.f5.f3
def m_fresh : List Int → List Bl → Bool
  | _, [] => true
  | ids, b :: l => !ids.contains b.f0 && m_validB b && m_fresh (b.f0 :: ids) l
def m_validL (l : List Bl) : Bool := decide (l.length ≤ 24) && m_fresh [] l
def m_same (a b : Bl) : Bool :=
  decide (a.f0 = b.f0) && decide (a.f1 = b.f1) && decide (a.f2.data.toList = b.f2.data.toList) && decide (a.f3 = b.f3) && decide (a.f4 = b.f4) &&
    decide (a.f5.f0 = b.f5.f0) && decide (a.f5.f1 = b.f5.f1) && decide (a.f5.f2 = b.f5.f2) && decide (a.f5.f3 = b.f5.f3)
def m_sameL : List Bl → List Bl → Bool
  | [], [] => true
  | a :: l, b :: m => m_same a b && m_sameL l m
  | _, _ => false
def m_encB (b : Bl) : List UInt8 :=
  m_int b.f0 ++ m_int b.f1 ++ m_str b.f2.data.toList ++ m_int b.f3 ++ m_int b.f4 ++ m_int b.f5.f0 ++ m_int b.f5.f1.length ++ b.f5.f1.flatMap m_int ++ m_int b.f5.f2 ++ m_int b.f5.f3
def m_enc (l : List Bl) : List UInt8 := m_int l.length ++ l.flatMap m_encB
def m_encode (l : List Bl) : ByteArray × Int := if m_validL l then (⟨(m_enc l).toArray⟩, 0) else (⟨#[]⟩, 30)
def m_rdz : Nat → Nat → List UInt8 → Option (Nat × List UInt8)
  | 0, _, _ => none
  | _ + 1, _, [] => none
  | k + 1, i, c :: l => if 128 ≤ c.toNat then (m_rdz k (i + 1) l).map (fun p => (c.toNat - 128 + 128 * p.1, p.2)) else if c.toNat = 0 ∧ 0 < i then none else some (c.toNat, l)
def m_unzig (z : Nat) : Int := if z % 2 = 1 then -((z / 2 : Nat) : Int) - 1 else ((z / 2 : Nat) : Int)
def m_rdInt (l : List UInt8) : Option (Int × List UInt8) :=
  match m_rdz 9 0 l with
  | none => none
  | some (z, r) => if m_unzig z < -4611686018427387903 then none else some (m_unzig z, r)
def m_rdStr (l : List UInt8) : Option (List UInt8 × List UInt8) :=
  match m_rdInt l with
  | none => none
  | some (n, r) => if n < 0 ∨ 65536 < n ∨ (r.length : Int) < n then none else some (r.take n.toNat, r.drop n.toNat)
abbrev Rd (α : Type) := List UInt8 → Except Int (α × List UInt8)
def rdI : Rd Int := fun l => match m_rdInt l with | none => .error 10 | some p => .ok p
def rdS : Rd (List UInt8) := fun l => match m_rdStr l with | none => .error 10 | some p => .ok p
def rdBind {α β : Type} (one : Rd α) (next : α → List UInt8 → Except Int β) (l : List UInt8) : Except Int β := match one l with
  | .error e => .error e
  | .ok (x, l) => next x l
def rdN {α : Type} (one : Rd α) : Nat → Rd (List α)
  | 0 => fun l => .ok ([], l)
  | n + 1 => fun l => rdBind one (fun x l => rdBind (rdN one n) (fun xs l => .ok (x :: xs, l)) l) l
def rdL {α : Type} (most : Int) (one : Rd α) : Rd (List α) := fun l => rdBind rdI (fun n l => if n < 0 ∨ most < n then .error 30 else rdN one n.toNat l) l
def rdB : Rd Bl := fun l => rdBind rdI (fun id l => rdBind rdI (fun kind l => rdBind rdS (fun text l => rdBind rdI (fun story l => rdBind rdI (fun ref l => rdBind rdI (fun u l => rdBind (rdL 64 rdI) (fun after l => rdBind rdI (fun a l => rdBind rdI (fun d l =>
  .ok (⟨id, kind, ⟨text.toArray⟩, story, ref, ⟨u, after, a, d⟩⟩, l)) l) l) l) l) l) l) l) l) l
def m_decode (s : ByteArray) : List Bl × Int := match rdL 24 rdB s.data.toList with
  | .error e => ([], e)
  | .ok (l, r) => if r ≠ [] then ([], 10) else if m_validL l then (l, 0) else ([], 30)
def m_trim (l : List UInt8) : List UInt8 := ((l.reverse.dropWhile (· == 32)).reverse).dropWhile (· == 32)
def m_at (l : List UInt8) (i : Nat) : UInt8 := l.getD i 0
def m_initial (l : List UInt8) (i : Nat) : Bool := decide (65 ≤ (m_at l i).toNat) && decide ((m_at l i).toNat ≤ 90) && (decide (i = 0) || m_at l (i - 1) == 32)
def m_ends (l : List UInt8) (i : Nat) : Bool :=
  (m_at l i == 46 || m_at l i == 33 || m_at l i == 63) && (decide (l.length ≤ i + 1) || m_at l (i + 1) == 32) && !(m_at l i == 46 && decide (1 ≤ i) && m_initial l (i - 1))
def m_sentGo (l : List UInt8) : Nat → Nat → Nat → List (List UInt8)
  | 0, _, a => if m_trim (l.drop a) = [] then [] else [m_trim (l.drop a)]
  | d + 1, i, a => if m_ends l i then m_trim ((l.drop a).take (i + 1 - a)) :: m_sentGo l d (i + 1) (i + 1) else m_sentGo l d (i + 1) a
def m_sent (l : List UInt8) : List (List UInt8) := m_sentGo l l.length 0 0
def m_join : List (List UInt8) → List UInt8
  | [] => []
  | [x] => x
  | x :: y :: l => x ++ 32 :: m_join (y :: l)
end Go.Proofs.YtkhgdglaophkbaaGreatDoor.PK
end
section
set_option linter.unusedVariables false
set_option linter.unusedSimpArgs false
namespace Go.Proofs.YtkhgdglaophkbaaGreatDoor.PK
open Go.RowKit Go.Proofs.YtkhgdglaophkbaaGreatDoorW.PrintWords Go.Proofs.YtkhgdglaophkbaaGreatDoorW.PrintLast Go.Proofs.YtkhgdglaophkbaaGreatDoorW.PrintMore
theorem cd_zig (n : Int) : m_unzig (m_zig n) = n := by
  unfold m_unzig m_zig
  split <;> split <;> omega
theorem cd_unzig (z : Nat) : m_zig (m_unzig z) = z := by
  unfold m_zig m_unzig
  split <;> split <;> omega
theorem cd_toNat (n : Nat) (h : n < 256) : (UInt8.ofNat n).toNat = n := by simp [UInt8.toNat_ofNat']; omega
theorem cd_ofNat (c : UInt8) : UInt8.ofNat c.toNat = c := by simp
theorem cd_vint_small (k z : Nat) (h : z < 128) : m_vint (k + 1) z = [UInt8.ofNat z] := by rw [m_vint, if_pos h]
theorem cd_vint_big (k z : Nat) (h : ¬ z < 128) : m_vint (k + 1) z = UInt8.ofNat (z % 128 + 128) :: m_vint k (z / 128) := by rw [m_vint, if_neg h]
theorem cd_rdz_vint : ∀ (k k' i z : Nat) (r : List UInt8), z < 128 ^ (k + 1) → k ≤ k' → (i = 0 ∨ z ≠ 0) → m_rdz (k + 1) i (m_vint (k' + 1) z ++ r) = some (z, r) := by
  intro k
  induction k with
  | zero =>
    intro k' i z r hz hk hi
    have hz' : z < 128 := by simpa using hz
    rw [cd_vint_small _ _ hz', List.singleton_append, m_rdz, cd_toNat z (by omega), if_neg (by omega), if_neg (by omega)]
  | succ k ih =>
    intro k' i z r hz hk hi
    by_cases h : z < 128
    · rw [cd_vint_small _ _ h, List.singleton_append, m_rdz, cd_toNat z (by omega), if_neg (by omega), if_neg (by omega)]
    · obtain ⟨k', rfl⟩ : ∃ j, k' = j + 1 := ⟨k' - 1, by omega⟩
      rw [cd_vint_big _ _ h, List.cons_append, m_rdz, cd_toNat _ (by omega), if_pos (by omega), ih k' (i + 1) (z / 128) r ?_ (by omega) (.inr (by omega))]
      · simp only [Option.map_some, Option.some.injEq, Prod.mk.injEq, and_true]; omega
      · rw [Nat.pow_succ] at hz; exact Nat.div_lt_of_lt_mul (by omega)
theorem cd_rdz_inv : ∀ (k i : Nat) (l r : List UInt8) (z : Nat), m_rdz k i l = some (z, r) → z < 128 ^ k ∧ (0 < i → z ≠ 0) ∧ ∀ k', k ≤ k' → l = m_vint k' z ++ r := by
  intro k
  induction k with
  | zero => intro i l r z h; cases h
  | succ k ih =>
    intro i l r z h
    cases l with
    | nil => cases h
    | cons c l =>
      rw [m_rdz] at h
      have hc : c.toNat < 256 := c.toNat_lt
      by_cases h1 : 128 ≤ c.toNat
      · rw [if_pos h1] at h
        obtain ⟨⟨z', r'⟩, h2, h3⟩ := Option.map_eq_some_iff.1 h
        obtain ⟨e1, e2⟩ := Prod.mk.inj h3
        dsimp only at e1 e2
        obtain ⟨a1, a2, a3⟩ := ih _ _ _ _ h2
        have a2' := a2 (by omega)
        subst e2
        refine ⟨by rw [Nat.pow_succ]; omega, fun _ => by omega, fun k' hk' => ?_⟩
        obtain ⟨k', rfl⟩ : ∃ j, k' = j + 1 := ⟨k' - 1, by omega⟩
        rw [cd_vint_big _ _ (by omega), show z % 128 + 128 = c.toNat by omega, show z / 128 = z' by omega, cd_ofNat, List.cons_append, ← a3 k' (by omega)]
      · rw [if_neg h1] at h
        by_cases h2 : c.toNat = 0 ∧ 0 < i
        · rw [if_pos h2] at h; cases h
        · rw [if_neg h2] at h
          obtain ⟨e1, e2⟩ := Prod.mk.inj (Option.some.inj h)
          subst e2
          refine ⟨by rw [Nat.pow_succ]; have := Nat.pow_pos (n := k) (show 0 < 128 by decide); omega, fun _ => by omega, fun k' hk' => ?_⟩
          obtain ⟨k', rfl⟩ : ∃ j, k' = j + 1 := ⟨k' - 1, by omega⟩
          rw [cd_vint_small _ _ (by omega), ← e1, cd_ofNat, List.singleton_append]
theorem cd_rdz_pre : ∀ (k i : Nat) (l r p q : List UInt8) (z : Nat), m_rdz k i l = some (z, r) → l = p ++ q → m_rdz k i p = none ∨ ∃ p', r = p' ++ q ∧ m_rdz k i p = some (z, p') := by
  intro k
  induction k with
  | zero => intro i l r p q z h; cases h
  | succ k ih =>
    intro i l r p q z h hl
    cases p with
    | nil => exact .inl rfl
    | cons c p =>
      subst hl
      rw [List.cons_append, m_rdz] at h
      rw [m_rdz]
      by_cases h1 : 128 ≤ c.toNat
      · rw [if_pos h1] at h ⊢
        obtain ⟨⟨z', r'⟩, h2, h3⟩ := Option.map_eq_some_iff.1 h
        obtain ⟨e1, e2⟩ := Prod.mk.inj h3
        dsimp only at e1 e2
        subst e2
        rcases ih _ _ _ _ _ _ h2 rfl with h4 | ⟨p', h4, h5⟩
        · exact .inl (by rw [h4]; rfl)
        · exact .inr ⟨p', h4, by rw [h5]; simp [e1]⟩
      · rw [if_neg h1] at h ⊢
        by_cases h2 : c.toNat = 0 ∧ 0 < i
        · rw [if_pos h2] at h; cases h
        · rw [if_neg h2] at h ⊢
          obtain ⟨e1, e2⟩ := Prod.mk.inj (Option.some.inj h)
          exact .inr ⟨p, e2.symm, by rw [e1]⟩
theorem cd_fits (n : Int) : m_fits n = true ↔ -4611686018427387903 ≤ n ∧ n ≤ 4611686018427387903 := by simp [m_fits]
structure Codec {α : Type} (one : Rd α) (enc : α → List UInt8) (ok : α → Prop) : Prop where mk ::
  back : ∀ x r, ok x → one (enc x ++ r) = .ok (x, r)
  only : ∀ l x r, one l = .ok (x, r) → ok x ∧ l = enc x ++ r
  pre : ∀ l x r p q, one l = .ok (x, r) → l = p ++ q → one p = .error 10 ∨ ∃ p', r = p' ++ q ∧ one p = .ok (x, p')
theorem cd_int : Codec rdI m_int (fun n => m_fits n = true) where
  back n r h := by
    rw [cd_fits] at h
    have hz : m_zig n < 128 ^ (8 + 1) := by unfold m_zig; split <;> omega
    unfold rdI m_rdInt m_int
    rw [cd_rdz_vint 8 9 0 _ r hz (by omega) (.inl rfl)]
    simp only [cd_zig]
    rw [if_neg (by omega)]
  only l n r h := by
    unfold rdI m_rdInt at h
    cases h1 : m_rdz 9 0 l with
    | none => rw [h1] at h; cases h
    | some p =>
      obtain ⟨z, r'⟩ := p
      rw [h1] at h
      dsimp only at h
      by_cases h2 : m_unzig z < -4611686018427387903
      · rw [if_pos h2] at h; cases h
      · rw [if_neg h2] at h
        dsimp only at h
        injection h with h
        obtain ⟨e1, e2⟩ := Prod.mk.inj h
        obtain ⟨a1, _, a3⟩ := cd_rdz_inv _ _ _ _ _ h1
        refine ⟨?_, ?_⟩
        · rw [cd_fits, ← e1]
          have : m_unzig z ≤ 4611686018427387903 := by unfold m_unzig; split <;> omega
          omega
        · rw [a3 10 (by omega), ← e1, ← e2]
          unfold m_int
          rw [cd_unzig]
  pre l n r p q h hl := by
    unfold rdI m_rdInt at h ⊢
    cases h1 : m_rdz 9 0 l with
    | none => rw [h1] at h; cases h
    | some x =>
      obtain ⟨z, r'⟩ := x
      rw [h1] at h
      dsimp only at h
      by_cases h2 : m_unzig z < -4611686018427387903
      · rw [if_pos h2] at h; cases h
      · rw [if_neg h2] at h
        dsimp only at h
        injection h with h
        obtain ⟨e1, e2⟩ := Prod.mk.inj h
        subst e2
        rcases cd_rdz_pre _ _ _ _ _ _ _ h1 hl with h3 | ⟨p', h3, h4⟩
        · exact .inl (by rw [h3])
        · refine .inr ⟨p', h3, ?_⟩
          rw [h4]
          dsimp only
          rw [if_neg h2]
          dsimp only
          rw [e1]
theorem cd_rdStr (l : List UInt8) : rdS l = match rdI l with
    | .error e => .error 10
    | .ok (n, r) => if n < 0 ∨ 65536 < n ∨ (r.length : Int) < n then .error 10 else .ok (r.take n.toNat, r.drop n.toNat) := by
  unfold rdS m_rdStr rdI
  cases h : m_rdInt l with
  | none => rfl
  | some p =>
    obtain ⟨n, r⟩ := p
    dsimp only
    by_cases h2 : n < 0 ∨ 65536 < n ∨ (r.length : Int) < n
    · rw [if_pos h2, if_pos h2]
    · rw [if_neg h2, if_neg h2]
theorem cd_rdI_err (l : List UInt8) (e : Int) (h : rdI l = .error e) : e = 10 := by
  unfold rdI at h
  cases h1 : m_rdInt l with
  | none => rw [h1] at h; injection h with h; exact h.symm
  | some p => rw [h1] at h; cases h
theorem cd_str : Codec rdS m_str (fun t => t.length ≤ 65536) where
  back t r h := by
    rw [cd_rdStr]
    unfold m_str
    rw [List.append_assoc, cd_int.back _ _ ((cd_fits _).2 (by omega))]
    dsimp only
    rw [if_neg (by rw [List.length_append]; omega)]
    (simp)
  only l t r h := by
    rw [cd_rdStr] at h
    cases h1 : rdI l with
    | error e => rw [h1] at h; cases h
    | ok p =>
      obtain ⟨n, r'⟩ := p
      rw [h1] at h
      dsimp only at h
      by_cases h2 : n < 0 ∨ 65536 < n ∨ (r'.length : Int) < n
      · rw [if_pos h2] at h; cases h
      · rw [if_neg h2] at h
        injection h with h
        obtain ⟨e1, e2⟩ := Prod.mk.inj h
        obtain ⟨a1, a2⟩ := cd_int.only _ _ _ h1
        have hl : t.length = n.toNat := by rw [← e1, List.length_take]; omega
        refine ⟨by omega, ?_⟩
        unfold m_str
        rw [a2, hl, show ((n.toNat : Nat) : Int) = n by omega, ← e1, ← e2, List.append_assoc, List.take_append_drop]
  pre l t r p q h hl := by
    rw [cd_rdStr] at h ⊢
    cases h1 : rdI l with
    | error e => rw [h1] at h; cases h
    | ok x =>
      obtain ⟨n, r'⟩ := x
      rw [h1] at h
      dsimp only at h
      by_cases h2 : n < 0 ∨ 65536 < n ∨ (r'.length : Int) < n
      · rw [if_pos h2] at h; cases h
      · rw [if_neg h2] at h
        injection h with h
        obtain ⟨e1, e2⟩ := Prod.mk.inj h
        rcases cd_int.pre _ _ _ _ _ h1 hl with h3 | ⟨p', h3, h4⟩
        · exact .inl (by rw [h3])
        · rw [h4]
          dsimp only
          subst h3
          rw [List.length_append] at h2
          by_cases h5 : (p'.length : Int) < n
          · exact .inl (by rw [if_pos (by omega)])
          · refine .inr ⟨p'.drop n.toNat, ?_, ?_⟩
            · rw [← e2, List.drop_append_of_le_length (by omega)]
            · rw [if_neg (by omega), ← e1, List.take_append_of_le_length (by omega)]
theorem cd_rdN_zero {α : Type} (one : Rd α) (l : List UInt8) : rdN one 0 l = .ok ([], l) := rfl
theorem cd_rdB_eq (l : List UInt8) : rdB l = rdBind rdI (fun id l => rdBind rdI (fun kind l => rdBind rdS (fun text l => rdBind rdI (fun story l => rdBind rdI (fun ref l => rdBind rdI (fun u l => rdBind (rdL 64 rdI) (fun after l => rdBind rdI (fun a l => rdBind rdI (fun d l => .ok (⟨id, kind, ⟨text.toArray⟩, story, ref, ⟨u, after, a, d⟩⟩, l)) l) l) l) l) l) l) l) l) l := rfl
theorem cd_rdN_bind {α : Type} (one : Rd α) (n : Nat) (l : List UInt8) : rdN one (n + 1) l = rdBind one (fun x l => rdBind (rdN one n) (fun xs l => .ok (x :: xs, l)) l) l := rfl
theorem cd_rdL_bind {α : Type} (most : Int) (one : Rd α) (l : List UInt8) : rdL most one l = rdBind rdI (fun n l => if n < 0 ∨ most < n then .error 30 else rdN one n.toNat l) l := rfl
theorem cd_bind_ok {α β : Type} {one : Rd α} {next : α → List UInt8 → Except Int β} {l l' : List UInt8} {x : α} (h : one l = .ok (x, l')) : rdBind one next l = next x l' := by unfold rdBind; rw [h]
theorem cd_bind_err {α β : Type} {one : Rd α} {next : α → List UInt8 → Except Int β} {l : List UInt8} {e : Int} (h : one l = .error e) : rdBind one next l = .error e := by unfold rdBind; rw [h]
theorem cd_step {α β : Type} {one : Rd α} {enc : α → List UInt8} {ok : α → Prop} (hc : Codec one enc ok) {next : α → List UInt8 → Except Int β} :
    (∀ l y, rdBind one next l = Except.ok y → ∃ x l', one l = .ok (x, l') ∧ ok x ∧ l = enc x ++ l' ∧ next x l' = .ok y) := by
  intro l y h
  cases h1 : one l with
  | error e => rw [cd_bind_err h1] at h; cases h
  | ok p =>
    obtain ⟨x, l'⟩ := p
    rw [cd_bind_ok h1] at h
    exact ⟨x, l', rfl, (hc.only _ _ _ h1).1, (hc.only _ _ _ h1).2, h⟩
theorem cd_rdN {α : Type} {one : Rd α} {enc : α → List UInt8} {ok : α → Prop} (hc : Codec one enc ok) (n : Nat) : Codec (rdN one n) (fun xs => xs.flatMap enc) (fun xs => xs.length = n ∧ ∀ x ∈ xs, ok x) := by
  induction n with
  | zero =>
    refine ⟨fun xs r h => ?_, fun l xs r h => ?_, fun l xs r p q h hl => ?_⟩
    · rw [List.eq_nil_of_length_eq_zero h.1]; rfl
    · rw [cd_rdN_zero] at h
      injection h with h
      obtain ⟨e1, e2⟩ := Prod.mk.inj h
      subst e1; subst e2
      exact ⟨⟨rfl, by simp⟩, rfl⟩
    · rw [cd_rdN_zero] at h ⊢
      injection h with h
      obtain ⟨e1, e2⟩ := Prod.mk.inj h
      exact .inr ⟨p, by rw [← e2, hl], by rw [e1]⟩
  | succ n ih =>
    refine ⟨fun xs r h => ?_, fun l xs r h => ?_, fun l xs r p q h hl => ?_⟩
    · cases xs with
      | nil => exact absurd h.1 (by simp)
      | cons x xs =>
        obtain ⟨h1, h2⟩ := h
        show rdN one (n + 1) ((x :: xs).flatMap enc ++ r) = _
        rw [cd_rdN_bind, List.flatMap_cons, List.append_assoc, cd_bind_ok (hc.back x _ (h2 x (by simp))), cd_bind_ok (ih.back xs r ⟨by simpa using h1, fun y hy => h2 y (by simp [hy])⟩)]
    · rw [cd_rdN_bind] at h
      obtain ⟨x, l1, _, o1, q_x, h⟩ := cd_step hc _ _ h
      obtain ⟨ys, l2, _, o2, q_ys, h⟩ := cd_step ih _ _ h
      injection h with h
      obtain ⟨e1, e2⟩ := Prod.mk.inj h
      subst e1; subst e2
      refine ⟨⟨by simp [o2.1], ?_⟩, by rw [q_x, q_ys, List.flatMap_cons, List.append_assoc]⟩
      intro y hy
      rcases List.mem_cons.1 hy with rfl | hy
      · exact o1
      · exact o2.2 y hy
    · rw [cd_rdN_bind] at h ⊢
      obtain ⟨x, l1, g1, _, _, h⟩ := cd_step hc _ _ h
      rcases hc.pre _ _ _ _ _ g1 hl with h3 | ⟨p', h3, h4⟩
      · exact .inl (cd_bind_err h3)
      rw [cd_bind_ok h4]
      obtain ⟨ys, l2, g2, _, _, h⟩ := cd_step ih _ _ h
      rcases ih.pre _ _ _ _ _ g2 h3 with h5 | ⟨p2, h5, h6⟩
      · exact .inl (cd_bind_err h5)
      rw [cd_bind_ok h6]
      injection h with h
      obtain ⟨e1, e2⟩ := Prod.mk.inj h
      exact .inr ⟨p2, by rw [← e2, h5], by rw [← e1]⟩
theorem cd_rdL {α : Type} {one : Rd α} {enc : α → List UInt8} {ok : α → Prop} (hc : Codec one enc ok) (most : Nat) (hm : (most : Int) ≤ 1000000) : Codec (rdL most one) (fun xs => m_int xs.length ++ xs.flatMap enc) (fun xs => xs.length ≤ most ∧ ∀ x ∈ xs, ok x) where
  back xs r h := by
    rw [cd_rdL_bind, List.append_assoc, cd_bind_ok (cd_int.back _ _ ((cd_fits _).2 (by omega))), if_neg (by omega), Int.toNat_natCast, (cd_rdN hc xs.length).back xs r ⟨rfl, h.2⟩]
  only l xs r h := by
    rw [cd_rdL_bind] at h
    obtain ⟨n, l1, _, _, q_n, h⟩ := cd_step cd_int _ _ h
    by_cases h2 : n < 0 ∨ (most : Int) < n
    · rw [if_pos h2] at h; cases h
    · rw [if_neg h2] at h
      obtain ⟨⟨b1, b2⟩, b3⟩ := (cd_rdN hc _).only _ _ _ h
      refine ⟨⟨by omega, b2⟩, ?_⟩
      show _ = (m_int xs.length ++ _) ++ r
      rw [q_n, b3, b1, show ((n.toNat : Nat) : Int) = n by omega, List.append_assoc]
  pre l xs r p q h hl := by
    rw [cd_rdL_bind] at h ⊢
    obtain ⟨n, l1, g1, _, _, h⟩ := cd_step cd_int _ _ h
    rcases cd_int.pre _ _ _ _ _ g1 hl with h3 | ⟨p', h3, h4⟩
    · exact .inl (cd_bind_err h3)
    rw [cd_bind_ok h4]
    by_cases h2 : n < 0 ∨ (most : Int) < n
    · rw [if_pos h2] at h; cases h
    · rw [if_neg h2] at h ⊢
      exact (cd_rdN hc _).pre _ _ _ _ _ h h3
def m_okB (b : Bl) : Prop := m_fits b.f0 = true ∧ m_fits b.f1 = true ∧ b.f2.data.toList.length ≤ 65536 ∧ m_fits b.f3 = true ∧ m_fits b.f4 = true ∧ m_fits b.f5.f0 = true ∧ (b.f5.f1.length ≤ 64 ∧ ∀ x ∈ b.f5.f1, m_fits x = true) ∧ m_fits b.f5.f2 = true ∧ m_fits b.f5.f3 = true
theorem cd_ints : Codec (rdL 64 rdI) (fun xs => m_int xs.length ++ xs.flatMap m_int) (fun xs => xs.length ≤ 64 ∧ ∀ x ∈ xs, m_fits x = true) := cd_rdL cd_int 64 (by omega)
theorem cd_block : Codec rdB m_encB m_okB where
  back b r h := by
    obtain ⟨h0, h1, h2, h3, h4, h5, h6, h7, h8⟩ := h
    rw [cd_rdB_eq]
    unfold m_encB
    simp only [List.append_assoc]
    rw [cd_bind_ok (cd_int.back _ _ h0)]
    rw [cd_bind_ok (cd_int.back _ _ h1)]
    rw [cd_bind_ok (cd_str.back _ _ h2)]
    rw [cd_bind_ok (cd_int.back _ _ h3)]
    rw [cd_bind_ok (cd_int.back _ _ h4)]
    rw [cd_bind_ok (cd_int.back _ _ h5)]
    rw [← List.append_assoc (m_int (b.f5.f1.length : Int)), cd_bind_ok (cd_ints.back _ _ h6)]
    rw [cd_bind_ok (cd_int.back _ _ h7)]
    rw [cd_bind_ok (cd_int.back _ _ h8)]
  only l b r h := by
    rw [cd_rdB_eq] at h
    obtain ⟨x0, l0, _, o0, q_x0, h⟩ := cd_step cd_int _ _ h
    obtain ⟨x1, l1, _, o1, q_x1, h⟩ := cd_step cd_int _ _ h
    obtain ⟨x2, l2, _, o2, q_x2, h⟩ := cd_step cd_str _ _ h
    obtain ⟨x3, l3, _, o3, q_x3, h⟩ := cd_step cd_int _ _ h
    obtain ⟨x4, l4, _, o4, q_x4, h⟩ := cd_step cd_int _ _ h
    obtain ⟨x5, l5, _, o5, q_x5, h⟩ := cd_step cd_int _ _ h
    obtain ⟨x6, l6, _, o6, q_x6, h⟩ := cd_step cd_ints _ _ h
    obtain ⟨x7, l7, _, o7, q_x7, h⟩ := cd_step cd_int _ _ h
    obtain ⟨x8, l8, _, o8, q_x8, h⟩ := cd_step cd_int _ _ h
    injection h with h
    obtain ⟨e1, e2⟩ := Prod.mk.inj h
    subst e1; subst e2
    refine ⟨⟨o0, o1, o2, o3, o4, o5, o6, o7, o8⟩, ?_⟩
    rw [q_x0, q_x1, q_x2, q_x3, q_x4, q_x5, q_x6, q_x7, q_x8]
    simp only [m_encB, List.append_assoc]
  pre l b r p q h hl := by
    rw [cd_rdB_eq] at h ⊢
    obtain ⟨x0, l0, g0, _, _, h⟩ := cd_step cd_int _ _ h
    rcases cd_int.pre _ _ _ _ _ g0 hl with e0 | ⟨p0, hl, e0⟩
    · exact .inl (cd_bind_err e0)
    rw [cd_bind_ok e0]
    obtain ⟨x1, l1, g1, _, _, h⟩ := cd_step cd_int _ _ h
    rcases cd_int.pre _ _ _ _ _ g1 hl with e0 | ⟨p1, hl, e0⟩
    · exact .inl (cd_bind_err e0)
    rw [cd_bind_ok e0]
    obtain ⟨x2, l2, g2, _, _, h⟩ := cd_step cd_str _ _ h
    rcases cd_str.pre _ _ _ _ _ g2 hl with e0 | ⟨p2, hl, e0⟩
    · exact .inl (cd_bind_err e0)
    rw [cd_bind_ok e0]
    obtain ⟨x3, l3, g3, _, _, h⟩ := cd_step cd_int _ _ h
    rcases cd_int.pre _ _ _ _ _ g3 hl with e0 | ⟨p3, hl, e0⟩
    · exact .inl (cd_bind_err e0)
    rw [cd_bind_ok e0]
    obtain ⟨x4, l4, g4, _, _, h⟩ := cd_step cd_int _ _ h
    rcases cd_int.pre _ _ _ _ _ g4 hl with e0 | ⟨p4, hl, e0⟩
    · exact .inl (cd_bind_err e0)
    rw [cd_bind_ok e0]
    obtain ⟨x5, l5, g5, _, _, h⟩ := cd_step cd_int _ _ h
    rcases cd_int.pre _ _ _ _ _ g5 hl with e0 | ⟨p5, hl, e0⟩
    · exact .inl (cd_bind_err e0)
    rw [cd_bind_ok e0]
    obtain ⟨x6, l6, g6, _, _, h⟩ := cd_step cd_ints _ _ h
    rcases cd_ints.pre _ _ _ _ _ g6 hl with e0 | ⟨p6, hl, e0⟩
    · exact .inl (cd_bind_err e0)
    rw [cd_bind_ok e0]
    obtain ⟨x7, l7, g7, _, _, h⟩ := cd_step cd_int _ _ h
    rcases cd_int.pre _ _ _ _ _ g7 hl with e0 | ⟨p7, hl, e0⟩
    · exact .inl (cd_bind_err e0)
    rw [cd_bind_ok e0]
    obtain ⟨x8, l8, g8, _, _, h⟩ := cd_step cd_int _ _ h
    rcases cd_int.pre _ _ _ _ _ g8 hl with e0 | ⟨p8, hl, e0⟩
    · exact .inl (cd_bind_err e0)
    rw [cd_bind_ok e0]
    injection h with h
    obtain ⟨e1, e2⟩ := Prod.mk.inj h
    subst e1; subst e2
    exact .inr ⟨p8, hl, rfl⟩
theorem cd_list : Codec (rdL 24 rdB) m_enc (fun l => l.length ≤ 24 ∧ ∀ b ∈ l, m_okB b) := cd_rdL cd_block 24 (by omega)
theorem cd_asc_lb : ∀ (l : List Int) (lo : Int), (∀ x ∈ l, lo ≤ x) → m_asc l = true → (∀ x ∈ l, x ≤ 64) → (l.length : Int) ≤ 65 - lo ∨ l = []
  | [], _, _, _, _ => .inr rfl
  | [x], lo, h1, _, h3 => by
    have := h1 x (by simp); have := h3 x (by simp)
    left; simp; omega
  | x :: y :: l, lo, h1, h2, h3 => by
    simp only [m_asc, Bool.and_eq_true, decide_eq_true_eq] at h2
    have hx := h1 x (by simp)
    have hall : ∀ z ∈ y :: l, x + 1 ≤ z := by
      have key : ∀ (m : List Int) (y : Int), m_asc (y :: m) = true → ∀ z ∈ y :: m, y ≤ z := by
        intro m
        induction m with
        | nil => intro y _ z hz; simp at hz; omega
        | cons a m ih =>
          intro y hm z hz
          simp only [m_asc, Bool.and_eq_true, decide_eq_true_eq] at hm
          rcases List.mem_cons.1 hz with rfl | hz
          · omega
          · have := ih a hm.2 z hz; omega
      intro z hz
      have := key l y h2.2 z hz
      omega
    rcases cd_asc_lb (y :: l) (x + 1) hall h2.2 (fun z hz => h3 z (by simp [hz])) with h | h
    · left; simp only [List.length_cons] at h ⊢; omega
    · cases h
theorem cd_label_ok (u : Int) (l : List Int) (a d : Int) (h : m_label u l a d = true) : m_fits u = true ∧ (l.length ≤ 64 ∧ ∀ x ∈ l, m_fits x = true) ∧ m_fits a = true ∧ m_fits d = true := by
  simp only [m_label, Bool.and_eq_true, decide_eq_true_eq, List.all_eq_true] at h
  obtain ⟨⟨⟨⟨⟨⟨⟨h1, h2⟩, h3⟩, h4⟩, h5⟩, h6⟩, h7⟩, h8⟩ := h
  simp only [cd_fits]
  refine ⟨by omega, ⟨?_, fun x hx => by have := h3 x hx; omega⟩, by omega, by omega⟩
  rcases cd_asc_lb l 1 (fun x hx => (h3 x hx).1) h4 (fun x hx => (h3 x hx).2) with h | h
  · omega
  · subst h; simp
theorem cd_valid_ok (b : Bl) (h : m_validB b = true) : m_okB b := by
  unfold m_validB m_valid at h
  simp only [Bool.and_eq_true, decide_eq_true_eq] at h
  obtain ⟨⟨⟨⟨h1, h2⟩, h3⟩, h4⟩, h5⟩ := h
  obtain ⟨l1, l2, l3, l4⟩ := cd_label_ok _ _ _ _ h3
  have ht : b.f2.data.toList.length ≤ 300 := by
    simp only [m_text, Bool.and_eq_true, decide_eq_true_eq] at h4
    simpa using h4.1
  unfold m_okB
  refine ⟨(cd_fits _).2 (by omega), ?_, by omega, ?_, ?_, l1, l2, l3, l4⟩
  · rw [cd_fits]
    by_cases k1 : b.f1 = 1 ∨ b.f1 = 2 ∨ b.f1 = 4
    · omega
    · rw [if_neg k1] at h5
      by_cases k2 : b.f1 = 5
      · omega
      · rw [if_neg k2] at h5
        by_cases k3 : b.f1 = 3
        · omega
        · rw [if_neg k3] at h5; cases h5
  · rw [cd_fits]
    split at h5
    · simp only [Bool.and_eq_true, decide_eq_true_eq] at h5; omega
    · split at h5
      · simp only [Bool.and_eq_true, decide_eq_true_eq] at h5; omega
      · split at h5
        · simp only [Bool.and_eq_true, decide_eq_true_eq] at h5; omega
        · cases h5
  · rw [cd_fits]
    split at h5
    · simp only [Bool.and_eq_true, decide_eq_true_eq] at h5; omega
    · split at h5
      · simp only [Bool.and_eq_true, decide_eq_true_eq] at h5; omega
      · split at h5
        · simp only [Bool.and_eq_true, decide_eq_true_eq] at h5; omega
        · cases h5
theorem cd_fresh_ok : ∀ (l : List Bl) (ids : List Int), m_fresh ids l = true → ∀ b ∈ l, m_validB b = true
  | [], _, _ => by simp
  | x :: l, ids, h => by
    simp only [m_fresh, Bool.and_eq_true] at h
    intro b hb
    rcases List.mem_cons.1 hb with rfl | hb
    · exact h.1.2
    · exact cd_fresh_ok l _ h.2 b hb
theorem cd_validL_ok (l : List Bl) (h : m_validL l = true) : l.length ≤ 24 ∧ ∀ b ∈ l, m_okB b := by
  simp only [m_validL, Bool.and_eq_true, decide_eq_true_eq] at h
  exact ⟨h.1, fun b hb => cd_valid_ok b (cd_fresh_ok l [] h.2 b hb)⟩
theorem cd_ba (a : ByteArray) : (⟨a.data.toList.toArray⟩ : ByteArray) = a := by cases a; simp
theorem cd_ba_inj (a b : ByteArray) (h : a.data.toList = b.data.toList) : a = b := by rw [← cd_ba a, h, cd_ba]
theorem cd_encode_ok (l : List Bl) (h : m_validL l = true) : m_encode l = (⟨(m_enc l).toArray⟩, 0) := by unfold m_encode; rw [if_pos h]
theorem cd_encode_err (l : List Bl) (h : m_validL l = false) : m_encode l = (⟨#[]⟩, 30) := by unfold m_encode; rw [if_neg (by simp [h])]
theorem cd_decode_enc (l : List Bl) (h : m_validL l = true) (s : ByteArray) (hs : s.data.toList = m_enc l) : m_decode s = (l, 0) := by
  unfold m_decode
  have := cd_list.back l [] (cd_validL_ok l h)
  rw [List.append_nil] at this
  rw [hs, this]
  dsimp only
  rw [if_neg (by simp), if_pos h]
def Errs {α : Type} (one : Rd α) : Prop := ∀ l e, one l = .error e → e = 10 ∨ e = 30
theorem cd_errs_step {α β : Type} {one : Rd α} (h1 : Errs one) {next : α → List UInt8 → Except Int β} (h2 : ∀ x l e, next x l = .error e → e = 10 ∨ e = 30) :
    ∀ l e, rdBind one next l = Except.error e → e = 10 ∨ e = 30 := by
  intro l e h
  cases h3 : one l with
  | error e' =>
    rw [cd_bind_err h3] at h
    injection h with h
    subst h
    exact h1 _ _ h3
  | ok p =>
    obtain ⟨x, l'⟩ := p
    rw [cd_bind_ok h3] at h
    exact h2 _ _ _ h
theorem cd_errsI : Errs rdI := fun l e h => .inl (cd_rdI_err l e h)
theorem cd_errsS : Errs rdS := fun l e h => by
  unfold rdS at h
  cases h1 : m_rdStr l with
  | none => rw [h1] at h; injection h with h; exact .inl h.symm
  | some p => rw [h1] at h; cases h
theorem cd_errsN {α : Type} {one : Rd α} (h : Errs one) : ∀ n, Errs (rdN one n)
  | 0 => fun l e h => by rw [cd_rdN_zero] at h; cases h
  | n + 1 => fun l e h' => by
    rw [cd_rdN_bind] at h'
    refine cd_errs_step h (fun x l e h2 => ?_) l e h'
    refine cd_errs_step (cd_errsN h n) (next := fun xs l2 => .ok (x :: xs, l2)) (fun x l e h3 => ?_) l e h2
    cases h3
theorem cd_errsL {α : Type} {one : Rd α} (h : Errs one) (most : Int) : Errs (rdL most one) := fun l e h' => by
  rw [cd_rdL_bind] at h'
  refine cd_errs_step cd_errsI (fun n l e h2 => ?_) l e h'
  by_cases h3 : n < 0 ∨ most < n
  · rw [if_pos h3] at h2; injection h2 with h2; exact .inr h2.symm
  · rw [if_neg h3] at h2; exact cd_errsN h _ _ _ h2
theorem cd_errsB : Errs rdB := by
  intro l e h
  rw [cd_rdB_eq] at h
  refine cd_errs_step cd_errsI (fun x0 l e h => ?_) l e h
  refine cd_errs_step cd_errsI (fun x1 l e h => ?_) l e h
  refine cd_errs_step cd_errsS (fun x2 l e h => ?_) l e h
  refine cd_errs_step cd_errsI (fun x3 l e h => ?_) l e h
  refine cd_errs_step cd_errsI (fun x4 l e h => ?_) l e h
  refine cd_errs_step cd_errsI (fun x5 l e h => ?_) l e h
  refine cd_errs_step (cd_errsL cd_errsI 64) (fun x6 l e h => ?_) l e h
  refine cd_errs_step cd_errsI (fun x7 l e h => ?_) l e h
  refine cd_errs_step cd_errsI (fun x8 l e h => ?_) l e h
  cases h
theorem cd_errs_list : Errs (rdL 24 rdB) := cd_errsL cd_errsB 24
theorem cd_decoded (s : ByteArray) (l : List Bl) (e : Int) (h : m_decode s = (l, e)) : (e = 0 ∧ m_validL l = true ∧ m_encode l = (s, 0)) ∨ (l = [] ∧ (e = 10 ∨ e = 30)) := by
  unfold m_decode at h
  cases h1 : rdL 24 rdB s.data.toList with
  | error e' =>
    rw [h1] at h
    dsimp only at h
    obtain ⟨e1, e2⟩ := Prod.mk.inj h
    subst e2
    exact .inr ⟨e1.symm, cd_errs_list _ _ h1⟩
  | ok p =>
    obtain ⟨l', r⟩ := p
    rw [h1] at h
    dsimp only at h
    by_cases hr : r ≠ []
    · rw [if_pos hr] at h
      obtain ⟨e1, e2⟩ := Prod.mk.inj h
      exact .inr ⟨e1.symm, .inl e2.symm⟩
    · rw [if_neg hr] at h
      have hr' : r = [] := by simpa using hr
      subst hr'
      by_cases hv : m_validL l' = true
      · rw [if_pos hv] at h
        obtain ⟨e1, e2⟩ := Prod.mk.inj h
        subst e1
        refine .inl ⟨e2.symm, hv, ?_⟩
        rw [cd_encode_ok _ hv]
        have := (cd_list.only _ _ _ h1).2
        rw [List.append_nil] at this
        rw [← this, cd_ba]
      · rw [if_neg hv] at h
        obtain ⟨e1, e2⟩ := Prod.mk.inj h
        exact .inr ⟨e1.symm, .inr e2.symm⟩
end Go.Proofs.YtkhgdglaophkbaaGreatDoor.PK
end
section
set_option linter.unusedVariables false
set_option linter.unusedSimpArgs false
namespace Go.Proofs.YtkhgdglaophkbaaGreatDoor.PK
open Go.RowKit Go.Proofs.YtkhgdglaophkbaaGreatDoorW.PrintWords Go.Proofs.YtkhgdglaophkbaaGreatDoorW.PrintLast Go.Proofs.YtkhgdglaophkbaaGreatDoorW.PrintMore
abbrev Fa := S28
abbrev kFa := k28
def fa_cells (f : Fa) (v9 v10 v12 : Value) : Array Value := #[.int .i64 f.f0, .int .i64 f.f1, .int .i64 f.f2, .int .i64 f.f3, .string f.f4, .int .i64 f.f5, .int .i64 f.f6, .string f.f7, .string f.f8, v9, v10, .int .i64 f.f11.f0, v12, .int .i64 f.f11.f2, .int .i64 f.f11.f3, .int .i64 f.f12, .int .i64 f.f13, .int .i64 f.f14, .string f.f15, .string f.f16, .int .i64 f.f17, .int .i64 f.f18, .int .i64 f.f19]
def faK (w : World) (f : Fa) (cs : Array Value) : Prop := kFa.K w f cs.toList
theorem faK_open {w : World} {f : Fa} {cs : Array Value} (h : faK w f cs) : ∃ A9 c9 A10 c10 A12 c12, cs = fa_cells f (.slice A9 f.f9.length c9) (.slice A10 f.f10.length c10) (.slice A12 f.f11.f1.length c12) ∧
    f.f9.length ≤ c9 ∧ Kd.string.C w A9 f.f9.length f.f9 ∧ f.f10.length ≤ c10 ∧ k49.C w A10 f.f10.length f.f10 ∧ f.f11.f1.length ≤ c12 ∧ (Kd.int .i64).C w A12 f.f11.f1.length f.f11.f1 := by
  obtain ⟨A9, c9, A10, c10, A12, c12, e, h⟩ := k28_open h
  exact ⟨A9, c9, A10, c10, A12, c12, Array.ext' e, h⟩
theorem faK_mk (w : World) (f : Fa) {A9 : Option Addr} {c9 : Nat} (l9 : f.f9.length ≤ c9) (g9 : Kd.string.C w A9 f.f9.length f.f9) {A10 : Option Addr} {c10 : Nat} (l10 : f.f10.length ≤ c10) (g10 : k49.C w A10 f.f10.length f.f10)
    {A12 : Option Addr} {c12 : Nat} (l12 : f.f11.f1.length ≤ c12) (g12 : (Kd.int .i64).C w A12 f.f11.f1.length f.f11.f1) : faK w f (fa_cells f (.slice A9 f.f9.length c9) (.slice A10 f.f10.length c10) (.slice A12 f.f11.f1.length c12)) :=
  k28_mk w f l9 g9 l10 g10 l12 g12
theorem faK_below {w w1 : World} {f : Fa} {cs : Array Value} (h : faK w f cs) (hb : Below w.heap.size w w1) : faK w1 f cs := kFa.K_below hb h
def m_ftext (s : ByteArray) : Bool := decide (s.size ≠ 0) && m_text s
def m_fsource (s : ByteArray) : Bool := decide (s.size ≤ 1000) && s.data.toList.all (fun c => c.toNat == 10 || (decide (32 ≤ c.toNat) && decide (c.toNat ≤ 126)))
def m_tasc : List ByteArray → Bool
  | [] => true
  | [_] => true
  | a :: b :: l => Op.bytesLess a.toList b.toList && m_tasc (b :: l)
def m_topics (l : List ByteArray) : Bool := decide (l.length ≤ 4) && l.all m_name && m_tasc l
def m_in (n lo hi : Int) : Bool := decide (lo ≤ n) && decide (n ≤ hi)
def zLb : Lb := ⟨0, [], 0, 0⟩
def zFa : Fa := ⟨0, 0, 0, 0, ⟨#[]⟩, 0, 0, ⟨#[]⟩, ⟨#[]⟩, [], [], zLb, 0, 0, 0, ⟨#[]⟩, ⟨#[]⟩, 0, 0, 0⟩
def m_lab (l : Lb) : Bool := m_label l.f0 l.f1 l.f2 l.f3
def m_used (f : Fa) : Bool :=
  if f.f2 = 1 then m_in f.f3 1 64 && m_in f.f5 1 100 && m_in f.f6 0 (f.f5 - 1) && m_name f.f4 && m_ftext f.f7 && m_name f.f8 && m_topics f.f9 && m_validL f.f10 && m_lab f.f11
  else if f.f2 = 2 then m_in f.f3 1 64 && m_in f.f12 1 5
  else if f.f2 = 3 then m_in f.f3 1 64 && m_lab f.f11
  else if f.f2 = 4 then m_in f.f3 1 64 && m_name f.f4 && m_in f.f13 1 1000 && m_in f.f14 0 299 && m_ftext f.f15
  else if f.f2 = 5 then m_in f.f3 1 64 && m_ftext f.f15
  else if f.f2 = 6 ∨ f.f2 = 10 then m_in f.f3 1 64
  else if f.f2 = 7 then m_name f.f16 && m_fsource f.f15
  else if f.f2 = 8 then m_in f.f17 1 8 && m_in f.f19 0 1000000000 && m_in f.f18 0 3
  else if f.f2 = 9 then m_in f.f17 1 8 && m_in f.f19 0 1000000000
  else false
def m_rest (f : Fa) : Fa :=
  if f.f2 = 1 then { f with f3 := 0, f4 := ⟨#[]⟩, f5 := 0, f6 := 0, f7 := ⟨#[]⟩, f8 := ⟨#[]⟩, f9 := [], f10 := [], f11 := zLb }
  else if f.f2 = 2 then { f with f3 := 0, f12 := 0 }
  else if f.f2 = 3 then { f with f3 := 0, f11 := zLb }
  else if f.f2 = 4 then { f with f3 := 0, f4 := ⟨#[]⟩, f13 := 0, f14 := 0, f15 := ⟨#[]⟩ }
  else if f.f2 = 5 then { f with f3 := 0, f15 := ⟨#[]⟩ }
  else if f.f2 = 6 ∨ f.f2 = 10 then { f with f3 := 0 }
  else if f.f2 = 7 then { f with f16 := ⟨#[]⟩, f15 := ⟨#[]⟩ }
  else if f.f2 = 8 then { f with f17 := 0, f18 := 0, f19 := 0 }
  else if f.f2 = 9 then { f with f17 := 0, f19 := 0 }
  else f
def m_fsame (a b : Fa) : Bool :=
  (decide (a.f9 = b.f9) && m_sameL a.f10 b.f10 && (decide (a.f11.f0 = b.f11.f0) && decide (a.f11.f1 = b.f11.f1) && decide (a.f11.f2 = b.f11.f2) && decide (a.f11.f3 = b.f11.f3))) &&
  [(a.f0, b.f0), (a.f1, b.f1), (a.f2, b.f2), (a.f3, b.f3), (a.f5, b.f5), (a.f6, b.f6), (a.f12, b.f12), (a.f13, b.f13), (a.f14, b.f14), (a.f17, b.f17), (a.f18, b.f18), (a.f19, b.f19)].all (fun p => p.1 == p.2) &&
  decide (a.f4 = b.f4) && decide (a.f7 = b.f7) && decide (a.f8 = b.f8) && decide (a.f15 = b.f15) && decide (a.f16 = b.f16)
def m_fvalid (f : Fa) : Bool := m_used f && m_in f.f0 0 500 && m_in f.f1 0 1000000000 && m_fsame (m_rest f) { zFa with f0 := f.f0, f1 := f.f1, f2 := f.f2 }
theorem m_same_iff (a b : Bl) : m_same a b = true ↔ a = b := by
  unfold m_same
  simp only [Bool.and_eq_true, decide_eq_true_eq]
  constructor
  · rintro ⟨⟨⟨⟨⟨⟨⟨⟨h0, h1⟩, h2⟩, h3⟩, h4⟩, h5⟩, h6⟩, h7⟩, h8⟩
    obtain ⟨a0, a1, a2, a3, a4, a5, a6, a7, a8⟩ := a
    obtain ⟨b0, b1, b2, b3, b4, b5, b6, b7, b8⟩ := b
    dsimp only at h0 h1 h2 h3 h4 h5 h6 h7 h8
    rw [h0, h1, cd_ba_inj _ _ h2, h3, h4, h5, h6, h7, h8]
  · rintro rfl
    exact ⟨⟨⟨⟨⟨⟨⟨⟨rfl, rfl⟩, rfl⟩, rfl⟩, rfl⟩, rfl⟩, rfl⟩, rfl⟩, rfl⟩
theorem m_sameL_iff : ∀ a b : List Bl, m_sameL a b = true ↔ a = b
  | [], [] => by simp [m_sameL]
  | [], _ :: _ => by simp [m_sameL]
  | _ :: _, [] => by simp [m_sameL]
  | x :: a, y :: b => by rw [m_sameL, Bool.and_eq_true, m_same_iff, m_sameL_iff a b, List.cons.injEq]
theorem m_fsame_iff (a b : Fa) : m_fsame a b = true ↔ a = b := by
  unfold m_fsame
  simp only [Bool.and_eq_true, decide_eq_true_eq, m_sameL_iff, List.all_cons, List.all_nil, beq_iff_eq, and_true]
  constructor
  · rintro ⟨⟨⟨⟨⟨⟨⟨⟨h9, h10⟩, ⟨⟨h110, h111⟩, h112⟩, h113⟩, h0, h1, h2, h3, h5, h6, h12, h13, h14, h17, h18, h19⟩, h4⟩, h7⟩, h8⟩, h15⟩, h16⟩
    obtain ⟨a0, a1, a2, a3, a4, a5, a6, a7, a8, a9, a10, ⟨l0, l1, l2, l3⟩, a12, a13, a14, a15, a16, a17, a18, a19⟩ := a
    obtain ⟨b0, b1, b2, b3, b4, b5, b6, b7, b8, b9, b10, ⟨n0, n1, n2, n3⟩, b12, b13, b14, b15, b16, b17, b18, b19⟩ := b
    dsimp only at *
    subst_vars
    rfl
  · rintro rfl
    exact ⟨⟨⟨⟨⟨⟨⟨⟨rfl, rfl⟩, ⟨⟨rfl, rfl⟩, rfl⟩, rfl⟩, rfl, rfl, rfl, rfl, rfl, rfl, rfl, rfl, rfl, rfl, rfl, rfl⟩, rfl⟩, rfl⟩, rfl⟩, rfl⟩, rfl⟩
end Go.Proofs.YtkhgdglaophkbaaGreatDoor.PK
end
