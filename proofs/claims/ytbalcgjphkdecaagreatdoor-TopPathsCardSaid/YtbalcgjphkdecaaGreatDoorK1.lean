/- What the law of the whole stands on, part 1 of 6: the heap as it lies, and a contract for each function that the law reaches. -/
import Derived.Shelf.Strings.OnBuilder
import Derived.Shelf.Small.Wraps
import Derived.Shelf.Small.Strs
import Derived.Shelf.Strings.Search3
import Derived.Shelf.Strings.Count
import Derived.Shelf.Strings.Prefix
import Derived.Shelf.Strings.SplitCore
import Derived.Lib.SplitLaws
import Derived.Lib.SplitLaws
import Derived.Shelf.Strings.SlTrimAscii
import Derived.Shelf.Slices.Equal
import Derived.Shelf.Slices.Turned
import Derived.Test.YtbalcgjphkdecaaGreatDoorProg
import Derived.WalkKit
import Derived.WalkSpells
import Derived.OrdersHeld
import Derived.Maps.AppendAt
import Derived.Laws.OwnMore
import Derived.Laws.BytesString
import Derived.Laws.MakeOwn
import Derived.ChangeKeysEq
import Derived.Laws.StructEq
import Derived.Maps.RangeRun

set_option linter.unusedVariables false
set_option linter.unusedSimpArgs false
namespace Go.Proofs
open Go.Shelf
def Tryz.lays156_ren : Go.Shelf.Ren := ⟨fun | 156 => 268 | 165 => 286 | 166 => 287 | 169 => 288 | 240 => 302 | 241 => 303 | 276 => 313 | 277 => 314 | n => n, fun | 31 => 36 | 9 => 9 | 3 => 3 | 4 => 4 | 0 => 0 | 20 => 20 | 72 => 408 | 76 => 411 | 70 => 406 | 37 => 26 | 75 => 410 | 127 => 421 | 164 => 417 | 5 => 5 | 80 => 345 | n => n, fun | n => n⟩
theorem Tryz.lays156 : Go.Proofs.Lays.n156 Tryz.prog Tryz.lays156_ren := {
 mixed := by kernel_rfl
 f156 := Tryz.func268.trans (congrArg some (by kernel_rfl))
 f165 := Tryz.func286.trans (congrArg some (by kernel_rfl))
 f166 := Tryz.func287.trans (congrArg some (by kernel_rfl))
 f169 := Tryz.func288.trans (congrArg some (by kernel_rfl))
 f240 := Tryz.func302.trans (congrArg some (by kernel_rfl))
 f241 := Tryz.func303.trans (congrArg some (by kernel_rfl))
 f276 := Tryz.func313.trans (congrArg some (by kernel_rfl))
 f277 := Tryz.func314.trans (congrArg some (by kernel_rfl))
 t0 := Tryz.underlying0
 a0 := Tryz.isAgg0
 z0 := Tryz.sizeOf0
 v0 := Tryz.zeroValue0
 t3 := Tryz.underlying3
 a3 := Tryz.isAgg3
 z3 := Tryz.sizeOf3
 v3 := Tryz.zeroValue3
 t4 := Tryz.underlying4
 a4 := Tryz.isAgg4
 z4 := Tryz.sizeOf4
 v4 := Tryz.zeroValue4
 t9 := Tryz.underlying9
 a9 := Tryz.isAgg9
 z9 := Tryz.sizeOf9
 v9 := Tryz.zeroValue9
 t20 := Tryz.underlying20
 a20 := Tryz.isAgg20
 z20 := Tryz.sizeOf20
 v20 := Tryz.zeroValue20
 t31 := Tryz.underlying36
 a31 := Tryz.isAgg36
 z31 := Tryz.sizeOf36
 v31 := Tryz.zeroValue36
 t37 := Tryz.underlying26
 a37 := Tryz.isAgg26
 z37 := Tryz.sizeOf26
 v37 := Tryz.zeroValue26
 t70 := Tryz.underlying406
 a70 := Tryz.isAgg406
 z70 := Tryz.sizeOf406
 v70 := Tryz.zeroValue406
 t72 := Tryz.underlying408
 a72 := Tryz.isAgg408
 z72 := Tryz.sizeOf408
 v72 := Tryz.zeroValue408
 t75 := Tryz.underlying410
 a75 := Tryz.isAgg410
 z75 := Tryz.sizeOf410
 v75 := Tryz.zeroValue410
 t76 := Tryz.underlying411
 a76 := Tryz.isAgg411
 z76 := Tryz.sizeOf411
 v76 := Tryz.zeroValue411
 t127 := Tryz.underlying421
 a127 := Tryz.isAgg421
 z127 := Tryz.sizeOf421
 v127 := Tryz.zeroValue421
 t164 := Tryz.underlying417
 a164 := Tryz.isAgg417
 z164 := Tryz.sizeOf417
 v164 := Tryz.zeroValue417 }
theorem Tryz.Builder_Extra_156 : Builder.Extra Tryz.prog Tryz.lays156_ren := {
 sizeBuilder := by kernel_rfl
 liesBuilder := by kernel_rfl
 t5 := Tryz.underlying5
 a5 := Tryz.isAgg5
 z5 := Tryz.sizeOf5
 v5 := Tryz.zeroValue5
 infoByte := by kernel_rfl
 cellsByte := by kernel_rfl
 sizeByte := by kernel_rfl
 neB5 := by decide }
open Go.RowKit in
theorem Tryz.strings_Join_none (a : Option Addr) (c : Nat) (sep : ByteArray) (w : World) :
  Calls Tryz.prog 268 #[.slice a 0 c, .string sep] w fun e w' => e = .returned (.string ⟨#[]⟩) ∧ w' = w := Any.strings_Join_none Tryz.lays156 Tryz.Builder_Extra_156 a c sep w
open Go.RowKit in
theorem Tryz.strings_Join (bk o c : Nat) (xs : List ByteArray) (sep : ByteArray) (w : World) (hcells : ∀ (j : Nat) x, xs[j]? = some x → w.cell? ⟨bk, o + j, none⟩ = some (.string x)) (hbk : bk < w.heap.size) (hN : xs.length ≤ 140737488355328) (hcap : xs.length ≤ c) (hlen : (Lib.join (xs.map (·.data.toList)) sep.data.toList).length ≤ 140737488355328) :
  Calls Tryz.prog 268 #[.slice (some ⟨bk, o, none⟩) xs.length c, .string sep] w fun e w' => e = .returned (.string ⟨(Lib.join (xs.map (·.data.toList)) sep.data.toList).toArray⟩) ∧ Below w.heap.size w w' := Any.strings_Join Tryz.lays156 Tryz.Builder_Extra_156 bk o c xs sep w hcells hbk hN hcap hlen
def Tryz.lays103_ren : Go.Shelf.Ren := ⟨fun | 103 => 140 | 210 => 191 | 206 => 228 | n => n, fun | 9 => 9 | 4 => 4 | 24 => 227 | 3 => 3 | n => n, fun | n => n⟩
theorem Tryz.lays103 : Go.Proofs.Lays.n103 Tryz.prog Tryz.lays103_ren := {
 mixed := by kernel_rfl
 f103 := Tryz.func140.trans (congrArg some (by kernel_rfl))
 f206 := Tryz.func228.trans (congrArg some (by kernel_rfl))
 f210 := Tryz.func191.trans (congrArg some (by kernel_rfl))
 t3 := Tryz.underlying3
 a3 := Tryz.isAgg3
 z3 := Tryz.sizeOf3
 v3 := Tryz.zeroValue3
 t4 := Tryz.underlying4
 a4 := Tryz.isAgg4
 z4 := Tryz.sizeOf4
 v4 := Tryz.zeroValue4
 t9 := Tryz.underlying9
 a9 := Tryz.isAgg9
 z9 := Tryz.sizeOf9
 v9 := Tryz.zeroValue9
 t24 := Tryz.underlying227
 a24 := Tryz.isAgg227
 z24 := Tryz.sizeOf227
 v24 := Tryz.zeroValue227 }
open Go.RowKit in
theorem Tryz.strings_CutPrefix (s p : ByteArray) (w : World) :
  Calls Tryz.prog 140 #[.string s, .string p] w fun e w' => e = .returned (.tuple #[.string ⟨(Lib.trimPrefix s.data.toList p.data.toList).toArray⟩, .bool (Lib.hasPrefix s.data.toList p.data.toList)]) ∧ w' = w := Any.strings_CutPrefix Tryz.lays103 s p w
def Tryz.lays143_ren : Go.Shelf.Ren := ⟨fun | 143 => 251 | 219 => 275 | 217 => 289 | 225 => 279 | 224 => 278 | 267 => 290 | 266 => 304 | 314 => 305 | n => n, fun | 9 => 9 | 3 => 3 | 4 => 4 | 5 => 5 | 46 => 175 | 146 => 238 | 51 => 150 | n => n, fun | 1 => 2 | n => n⟩
theorem Tryz.lays143 : Go.Proofs.Lays.n143 Tryz.prog Tryz.lays143_ren := {
 mixed := by kernel_rfl
 f143 := Tryz.func251.trans (congrArg some (by kernel_rfl))
 f217 := Tryz.func289.trans (congrArg some (by kernel_rfl))
 f219 := Tryz.func275.trans (congrArg some (by kernel_rfl))
 f224 := Tryz.func278.trans (congrArg some (by kernel_rfl))
 f225 := Tryz.func279.trans (congrArg some (by kernel_rfl))
 f266 := Tryz.func304.trans (congrArg some (by kernel_rfl))
 f267 := Tryz.func290.trans (congrArg some (by kernel_rfl))
 f314 := Tryz.func305.trans (congrArg some (by kernel_rfl))
 t3 := Tryz.underlying3
 a3 := Tryz.isAgg3
 z3 := Tryz.sizeOf3
 v3 := Tryz.zeroValue3
 t4 := Tryz.underlying4
 a4 := Tryz.isAgg4
 z4 := Tryz.sizeOf4
 v4 := Tryz.zeroValue4
 t5 := Tryz.underlying5
 a5 := Tryz.isAgg5
 z5 := Tryz.sizeOf5
 v5 := Tryz.zeroValue5
 t9 := Tryz.underlying9
 a9 := Tryz.isAgg9
 z9 := Tryz.sizeOf9
 v9 := Tryz.zeroValue9
 t46 := Tryz.underlying175
 a46 := Tryz.isAgg175
 z46 := Tryz.sizeOf175
 v46 := Tryz.zeroValue175
 t51 := Tryz.underlying150
 a51 := Tryz.isAgg150
 z51 := Tryz.sizeOf150
 v51 := Tryz.zeroValue150
 t146 := Tryz.underlying238
 a146 := Tryz.isAgg238
 z146 := Tryz.sizeOf238
 v146 := Tryz.zeroValue238
 g1 := by kernel_rfl }
open Go.RowKit Go.Lib in
theorem Tryz.strings_Index_one (s : ByteArray) (c : UInt8) (w : World) :
  Calls Tryz.prog 251 #[.string s, .string ⟨#[c]⟩] w fun e w' => e = .returned (.int .i64 (Lib.indexByte s.data.toList c)) ∧ w' = w := Any.strings_Index_one Tryz.lays143 s c w
def Tryz.lays138_ren : Go.Shelf.Ren := ⟨fun | 138 => 250 | 195 => 273 | 218 => 274 | 143 => 251 | 219 => 275 | 217 => 289 | 225 => 279 | 224 => 278 | 267 => 290 | 266 => 304 | 314 => 305 | n => n, fun | 9 => 9 | 3 => 3 | 4 => 4 | 5 => 5 | 0 => 0 | 46 => 175 | 146 => 238 | 51 => 150 | n => n, fun | 1 => 2 | n => n⟩
theorem Tryz.lays138 : Go.Proofs.Lays.n138 Tryz.prog Tryz.lays138_ren := {
 mixed := by kernel_rfl
 f138 := Tryz.func250.trans (congrArg some (by kernel_rfl))
 f143 := Tryz.func251.trans (congrArg some (by kernel_rfl))
 f195 := Tryz.func273.trans (congrArg some (by kernel_rfl))
 f217 := Tryz.func289.trans (congrArg some (by kernel_rfl))
 f218 := Tryz.func274.trans (congrArg some (by kernel_rfl))
 f219 := Tryz.func275.trans (congrArg some (by kernel_rfl))
 f224 := Tryz.func278.trans (congrArg some (by kernel_rfl))
 f225 := Tryz.func279.trans (congrArg some (by kernel_rfl))
 f266 := Tryz.func304.trans (congrArg some (by kernel_rfl))
 f267 := Tryz.func290.trans (congrArg some (by kernel_rfl))
 f314 := Tryz.func305.trans (congrArg some (by kernel_rfl))
 t0 := Tryz.underlying0
 a0 := Tryz.isAgg0
 z0 := Tryz.sizeOf0
 v0 := Tryz.zeroValue0
 t3 := Tryz.underlying3
 a3 := Tryz.isAgg3
 z3 := Tryz.sizeOf3
 v3 := Tryz.zeroValue3
 t4 := Tryz.underlying4
 a4 := Tryz.isAgg4
 z4 := Tryz.sizeOf4
 v4 := Tryz.zeroValue4
 t5 := Tryz.underlying5
 a5 := Tryz.isAgg5
 z5 := Tryz.sizeOf5
 v5 := Tryz.zeroValue5
 t9 := Tryz.underlying9
 a9 := Tryz.isAgg9
 z9 := Tryz.sizeOf9
 v9 := Tryz.zeroValue9
 t46 := Tryz.underlying175
 a46 := Tryz.isAgg175
 z46 := Tryz.sizeOf175
 v46 := Tryz.zeroValue175
 t51 := Tryz.underlying150
 a51 := Tryz.isAgg150
 z51 := Tryz.sizeOf150
 v51 := Tryz.zeroValue150
 t146 := Tryz.underlying238
 a146 := Tryz.isAgg238
 z146 := Tryz.sizeOf238
 v146 := Tryz.zeroValue238
 g1 := by kernel_rfl }
open Go.RowKit Go.Lib in
theorem Tryz.strings_Count_one (s : ByteArray) (c : UInt8) (w : World) :
  Calls Tryz.prog 250 #[.string s, .string ⟨#[c]⟩] w fun e w' => e = .returned (.int .i64 (Lib.countByte s.data.toList c)) ∧ w' = w := Any.strings_Count_one Tryz.lays138 s c w
def Tryz.lays99_ren : Go.Shelf.Ren := ⟨fun | 99 => 188 | 206 => 228 | n => n, fun | 9 => 9 | 4 => 4 | 3 => 3 | n => n, fun | n => n⟩
theorem Tryz.lays99 : Go.Proofs.Lays.n99 Tryz.prog Tryz.lays99_ren := {
 mixed := by kernel_rfl
 f99 := Tryz.func188.trans (congrArg some (by kernel_rfl))
 f206 := Tryz.func228.trans (congrArg some (by kernel_rfl))
 t3 := Tryz.underlying3
 a3 := Tryz.isAgg3
 z3 := Tryz.sizeOf3
 v3 := Tryz.zeroValue3
 t4 := Tryz.underlying4
 a4 := Tryz.isAgg4
 z4 := Tryz.sizeOf4
 v4 := Tryz.zeroValue4
 t9 := Tryz.underlying9
 a9 := Tryz.isAgg9
 z9 := Tryz.sizeOf9
 v9 := Tryz.zeroValue9 }
open Go.RowKit Go.Lib in
theorem Tryz.strings_HasPrefix (s p : ByteArray) (w : World) :
  Calls Tryz.prog 188 #[.string s, .string p] w fun e w' => e = .returned (.bool (Lib.hasPrefix s.data.toList p.data.toList)) ∧ w' = w := Any.strings_HasPrefix Tryz.lays99 s p w
def Tryz.lays100_ren : Go.Shelf.Ren := ⟨fun | 100 => 247 | 207 => 269 | n => n, fun | 9 => 9 | 4 => 4 | 3 => 3 | n => n, fun | n => n⟩
theorem Tryz.lays100 : Go.Proofs.Lays.n100 Tryz.prog Tryz.lays100_ren := {
 mixed := by kernel_rfl
 f100 := Tryz.func247.trans (congrArg some (by kernel_rfl))
 f207 := Tryz.func269.trans (congrArg some (by kernel_rfl))
 t3 := Tryz.underlying3
 a3 := Tryz.isAgg3
 z3 := Tryz.sizeOf3
 v3 := Tryz.zeroValue3
 t4 := Tryz.underlying4
 a4 := Tryz.isAgg4
 z4 := Tryz.sizeOf4
 v4 := Tryz.zeroValue4
 t9 := Tryz.underlying9
 a9 := Tryz.isAgg9
 z9 := Tryz.sizeOf9
 v9 := Tryz.zeroValue9 }
open Go.RowKit Go.Lib in
theorem Tryz.strings_HasSuffix (s p : ByteArray) (w : World) (hs : s.size ≤ 9223372036854775807) :
  Calls Tryz.prog 247 #[.string s, .string p] w fun e w' => e = .returned (.bool (Lib.hasSuffix s.data.toList p.data.toList)) ∧ w' = w := Any.strings_HasSuffix Tryz.lays100 s p w hs
open Go.RowKit Go.Lib in
open Go.RowKit Go.Lib in
open Go.Lib in
open Go.Lib in
open Go.RowKit Go.Lib in
def Tryz.lays160_ren : Go.Shelf.Ren := ⟨fun | 160 => 141 | 232 => 193 | 231 => 192 | 227 => 194 | 234 => 196 | 233 => 195 | 236 => 198 | 235 => 197 | 228 => 229 | 271 => 232 | 151 => 231 | 197 => 230 | 120 => 254 | 152 => 253 | 260 => 252 | 137 => 276 | 119 => 277 | 224 => 278 | 225 => 279 | 217 => 289 | 266 => 304 | n => n, fun | 9 => 9 | 4 => 4 | 3 => 3 | 5 => 5 | 117 => 330 | 116 => 329 | 0 => 0 | 124 => 333 | 21 => 21 | 105 => 360 | 46 => 175 | 119 => 400 | 139 => 403 | 138 => 402 | n => n, fun | 3 => 0 | 4 => 1 | n => n⟩
theorem Tryz.lays160 : Go.Proofs.Lays.n160 Tryz.prog Tryz.lays160_ren := {
 mixed := by kernel_rfl
 f119 := Tryz.func277.trans (congrArg some (by kernel_rfl))
 f120 := Tryz.func254.trans (congrArg some (by kernel_rfl))
 f137 := Tryz.func276.trans (congrArg some (by kernel_rfl))
 f151 := Tryz.func231.trans (congrArg some (by kernel_rfl))
 f152 := Tryz.func253.trans (congrArg some (by kernel_rfl))
 f160 := Tryz.func141.trans (congrArg some (by kernel_rfl))
 f197 := Tryz.func230.trans (congrArg some (by kernel_rfl))
 f217 := Tryz.func289.trans (congrArg some (by kernel_rfl))
 f224 := Tryz.func278.trans (congrArg some (by kernel_rfl))
 f225 := Tryz.func279.trans (congrArg some (by kernel_rfl))
 f227 := Tryz.func194.trans (congrArg some (by kernel_rfl))
 f228 := Tryz.func229.trans (congrArg some (by kernel_rfl))
 f231 := Tryz.func192.trans (congrArg some (by kernel_rfl))
 f232 := Tryz.func193.trans (congrArg some (by kernel_rfl))
 f233 := Tryz.func195.trans (congrArg some (by kernel_rfl))
 f234 := Tryz.func196.trans (congrArg some (by kernel_rfl))
 f235 := Tryz.func197.trans (congrArg some (by kernel_rfl))
 f236 := Tryz.func198.trans (congrArg some (by kernel_rfl))
 f260 := Tryz.func252.trans (congrArg some (by kernel_rfl))
 f266 := Tryz.func304.trans (congrArg some (by kernel_rfl))
 f271 := Tryz.func232.trans (congrArg some (by kernel_rfl))
 t0 := Tryz.underlying0
 a0 := Tryz.isAgg0
 z0 := Tryz.sizeOf0
 v0 := Tryz.zeroValue0
 t3 := Tryz.underlying3
 a3 := Tryz.isAgg3
 z3 := Tryz.sizeOf3
 v3 := Tryz.zeroValue3
 t4 := Tryz.underlying4
 a4 := Tryz.isAgg4
 z4 := Tryz.sizeOf4
 v4 := Tryz.zeroValue4
 t5 := Tryz.underlying5
 a5 := Tryz.isAgg5
 z5 := Tryz.sizeOf5
 v5 := Tryz.zeroValue5
 t9 := Tryz.underlying9
 a9 := Tryz.isAgg9
 z9 := Tryz.sizeOf9
 v9 := Tryz.zeroValue9
 t21 := Tryz.underlying21
 a21 := Tryz.isAgg21
 z21 := Tryz.sizeOf21
 v21 := Tryz.zeroValue21
 t46 := Tryz.underlying175
 a46 := Tryz.isAgg175
 z46 := Tryz.sizeOf175
 v46 := Tryz.zeroValue175
 t105 := Tryz.underlying360
 a105 := Tryz.isAgg360
 z105 := Tryz.sizeOf360
 v105 := Tryz.zeroValue360
 t116 := Tryz.underlying329
 a116 := Tryz.isAgg329
 z116 := Tryz.sizeOf329
 t117 := Tryz.underlying330
 a117 := Tryz.isAgg330
 z117 := Tryz.sizeOf330
 v117 := Tryz.zeroValue330
 t119 := Tryz.underlying400
 a119 := Tryz.isAgg400
 z119 := Tryz.sizeOf400
 t124 := Tryz.underlying333
 a124 := Tryz.isAgg333
 z124 := Tryz.sizeOf333
 v124 := Tryz.zeroValue333
 t138 := Tryz.underlying402
 a138 := Tryz.isAgg402
 z138 := Tryz.sizeOf402
 v138 := Tryz.zeroValue402
 t139 := Tryz.underlying403
 a139 := Tryz.isAgg403
 z139 := Tryz.sizeOf403
 v139 := Tryz.zeroValue403
 g3 := by kernel_rfl
 g4 := by kernel_rfl }
open Go.RowKit in
theorem Tryz.strings_Trim_set (s cutset : ByteArray) (w : World) (hs : s.size ≤ 9223372036854775807) (hcs : cutset.size < 4294967281) (hascii : ∀ (j : Nat) b, cutset.data.toList[j]? = some b → b.toNat < 128) :
  Calls Tryz.prog 141 #[.string s, .string cutset] w fun e w' => e = .returned (.string ⟨(Lib.trimS s.data.toList cutset.data.toList).toArray⟩) ∧ Below w.heap.size w w' := Any.strings_Trim_laid Tryz.lays160 (by kernel_rfl) s cutset w hs hcs hascii
def Tryz.lays221_ren : Go.Shelf.Ren := ⟨fun | 221 => 227 | 268 => 249 | 138 => 250 | 143 => 251 | 195 => 273 | 197 => 230 | 218 => 274 | 219 => 275 | 260 => 252 | 217 => 289 | 225 => 279 | 224 => 278 | 267 => 290 | 266 => 304 | 314 => 305 | n => n, fun | 9 => 9 | 3 => 3 | 31 => 36 | 4 => 4 | 0 => 0 | 105 => 360 | 21 => 21 | 5 => 5 | 46 => 175 | 119 => 400 | 139 => 403 | 138 => 402 | 146 => 238 | 51 => 150 | n => n, fun | 1 => 2 | 3 => 0 | 4 => 1 | n => n⟩
theorem Tryz.lays221 : Go.Proofs.Lays.n221 Tryz.prog Tryz.lays221_ren := {
 mixed := by kernel_rfl
 f138 := Tryz.func250.trans (congrArg some (by kernel_rfl))
 f143 := Tryz.func251.trans (congrArg some (by kernel_rfl))
 f195 := Tryz.func273.trans (congrArg some (by kernel_rfl))
 f197 := Tryz.func230.trans (congrArg some (by kernel_rfl))
 f217 := Tryz.func289.trans (congrArg some (by kernel_rfl))
 f218 := Tryz.func274.trans (congrArg some (by kernel_rfl))
 f219 := Tryz.func275.trans (congrArg some (by kernel_rfl))
 f221 := Tryz.func227.trans (congrArg some (by kernel_rfl))
 f224 := Tryz.func278.trans (congrArg some (by kernel_rfl))
 f225 := Tryz.func279.trans (congrArg some (by kernel_rfl))
 f260 := Tryz.func252.trans (congrArg some (by kernel_rfl))
 f266 := Tryz.func304.trans (congrArg some (by kernel_rfl))
 f267 := Tryz.func290.trans (congrArg some (by kernel_rfl))
 f268 := Tryz.func249.trans (congrArg some (by kernel_rfl))
 f314 := Tryz.func305.trans (congrArg some (by kernel_rfl))
 t0 := Tryz.underlying0
 a0 := Tryz.isAgg0
 z0 := Tryz.sizeOf0
 v0 := Tryz.zeroValue0
 t3 := Tryz.underlying3
 a3 := Tryz.isAgg3
 z3 := Tryz.sizeOf3
 v3 := Tryz.zeroValue3
 t4 := Tryz.underlying4
 a4 := Tryz.isAgg4
 z4 := Tryz.sizeOf4
 v4 := Tryz.zeroValue4
 t5 := Tryz.underlying5
 a5 := Tryz.isAgg5
 z5 := Tryz.sizeOf5
 v5 := Tryz.zeroValue5
 t9 := Tryz.underlying9
 a9 := Tryz.isAgg9
 z9 := Tryz.sizeOf9
 v9 := Tryz.zeroValue9
 t21 := Tryz.underlying21
 a21 := Tryz.isAgg21
 z21 := Tryz.sizeOf21
 v21 := Tryz.zeroValue21
 t31 := Tryz.underlying36
 a31 := Tryz.isAgg36
 z31 := Tryz.sizeOf36
 v31 := Tryz.zeroValue36
 t46 := Tryz.underlying175
 a46 := Tryz.isAgg175
 z46 := Tryz.sizeOf175
 v46 := Tryz.zeroValue175
 t51 := Tryz.underlying150
 a51 := Tryz.isAgg150
 z51 := Tryz.sizeOf150
 v51 := Tryz.zeroValue150
 t105 := Tryz.underlying360
 a105 := Tryz.isAgg360
 z105 := Tryz.sizeOf360
 v105 := Tryz.zeroValue360
 t119 := Tryz.underlying400
 a119 := Tryz.isAgg400
 z119 := Tryz.sizeOf400
 t138 := Tryz.underlying402
 a138 := Tryz.isAgg402
 z138 := Tryz.sizeOf402
 v138 := Tryz.zeroValue402
 t139 := Tryz.underlying403
 a139 := Tryz.isAgg403
 z139 := Tryz.sizeOf403
 v139 := Tryz.zeroValue403
 t146 := Tryz.underlying238
 a146 := Tryz.isAgg238
 z146 := Tryz.sizeOf238
 v146 := Tryz.zeroValue238
 g1 := by kernel_rfl
 g3 := by kernel_rfl
 g4 := by kernel_rfl }
open Go.RowKit in
theorem Tryz.strings_genSplit_one (s : ByteArray) (c : UInt8) (w : World) (hs : s.size < 4294967281) :
  Calls Tryz.prog 227 #[.string s, .string ⟨#[c]⟩, .int .i64 0, .int .i64 (-1)] w fun e w' =>
   e = .returned (.slice (some ⟨w.heap.size, 0, none⟩) (Lib.splitB ⟨#[c]⟩ 0 (Lib.countB s ⟨#[c]⟩ + 1 - 1) s).length (Lib.countB s ⟨#[c]⟩ + 1)) ∧ w' = w.alloc (.cells (Lib.cellsOf (Lib.splitB ⟨#[c]⟩ 0 (Lib.countB s ⟨#[c]⟩ + 1 - 1) s) (Lib.countB s ⟨#[c]⟩ + 1)) 9) :=
 Any.strings_genSplit_core Tryz.lays221 (by kernel_rfl) s ⟨#[c]⟩ 0 (-1) (Lib.countB s ⟨#[c]⟩ + 1) w hs (Nat.le_refl 1) (Nat.zero_le _)
  (fun x d _ => (Tryz.strings_Index_one x c _).mono fun e w' h => ⟨by rw [h.1, ← Lib.index_one]; try rfl, h.2⟩)
  ((Tryz.strings_Count_one s c w).mono fun e w' h => ⟨by rw [h.1]; show _ = Ending.returned (Value.int .i64 ((Lib.count s.data.toList [c] : Nat) : Int)); rw [Lib.count_one]; try rfl, h.2⟩) (by decide) (by decide)
  (by have h := Lib.countB_le ⟨#[c]⟩ (Nat.le_refl 1) s.size s (Nat.le_refl _); rw [if_pos (by decide)]; omega)
end Go.Proofs
namespace Go.Lg
open Go.RowKit
abbrev Fr := Nat → Value
def upd (f : Fr) (d : Nat) (v : Value) : Fr := fun i => bif Nat.beq i d then v else f i
def put (f : Fr) : Option Tmp → Value → Fr
 | none, _ => f
 | some d, v => upd f d v
def ev (n : Nat) (f : Fr) : Operand → Value
 | .tmp t => bif Nat.blt t n then f t else undef
 | .const v => v
 | .global g => .pointer (some ⟨g, 0, none⟩)
 | .func g => .func (.func g) #[] #[]
def act (n : Nat) (f : Fr) : Act := ⟨Array.ofFn (n := n) fun i => f i, []⟩
theorem blt_true {a b : Nat} (h : a < b) : Nat.blt a b = true := by rw [Nat.blt_eq]; exact h
theorem blt_false {a b : Nat} (h : ¬ a < b) : Nat.blt a b = false := by
 cases hb : Nat.blt a b with
 | false => rfl
 | true => rw [Nat.blt_eq] at hb; exact absurd hb h
theorem nodup_idx {l : List Nat} (h : l.Nodup) {i j a : Nat} (hi : l[i]? = some a) (hj : l[j]? = some a) : i = j := by
 obtain ⟨h1, h2⟩ := List.getElem?_eq_some_iff.1 hi
 obtain ⟨h3, h4⟩ := List.getElem?_eq_some_iff.1 hj
 have hp := List.pairwise_iff_getElem.1 h
 rcases Nat.lt_trichotomy i j with hlt | he | hlt
 ·exact absurd (h2.trans h4.symm) (hp i j h1 h3 hlt)
 ·exact he
 ·exact absurd (h4.trans h2.symm) (hp j i h3 h1 hlt)
theorem exists_least (p : Nat → Prop) : ∀ m, p m → ∃ m, p m ∧ ∀ k, p k → m ≤ k := by
 intro m
 induction m using Nat.strongRecOn with
 | _ m ih =>
  intro hm
  by_cases hx : ∃ k, k < m ∧ p k
  ·obtain ⟨k, hk, hpk⟩ := hx
   exact ih k hk hpk
  ·refine ⟨m, hm, fun k hk => ?_⟩
   rcases Nat.lt_or_ge k m with h | h
   ·exact absurd ⟨k, h, hk⟩ hx
   ·exact h
theorem upd_same (f : Fr) (d : Nat) (v : Value) : upd f d v d = v := by simp [upd]
theorem upd_other (f : Fr) {d i : Nat} (v : Value) (h : i ≠ d) : upd f d v i = f i := by
 have : Nat.beq i d = false := by
  cases hb : Nat.beq i d with
  | false => rfl
  | true => exact absurd (Nat.eq_of_beq_eq_true hb) h
 simp [upd, this]
theorem act_eval (n : Nat) (f : Fr) : (act n f).eval = ev n f := by
 funext x
 cases x with
 | tmp t =>
  simp only [Act.eval, act, ev]
  by_cases ht : t < n
  ·simp [blt_true ht, Array.getD, ht]
  ·simp [blt_false ht, Array.getD, ht]
 | const v => rfl
 | global g => rfl
 | func g => rfl
theorem act_put (n : Nat) (f : Fr) (d : Option Tmp) (v : Value) : (act n f).put d v = act n (put f d v) := by
 cases d with
 | none => rfl
 | some d =>
  simp only [Act.put, act, put]
  congr 1
  apply Array.ext_getElem?
  intro i
  by_cases hd : d = i
  ·subst hd
   by_cases hi : d < n
   ·rw [Array.getElem?_setIfInBounds_self_of_lt (by simpa using hi)]
    simp [hi, upd_same]
   ·rw [Array.getElem?_eq_none (by simpa using hi), Array.getElem?_eq_none (by simpa using hi)]
  ·rw [Array.getElem?_setIfInBounds_ne hd]
   by_cases hi : i < n
   ·simp only [Array.getElem?_ofFn, hi, dif_pos]
    rw [upd_other f v (fun e => hd e.symm)]
   ·rw [Array.getElem?_eq_none (by simpa using hi), Array.getElem?_eq_none (by simpa using hi)]
def yieldF (ops : Array Oper) (n : Nat) (f : Fr) (j : Nat) : Option Bool :=
 match (ops[j]?).bind (·.dst) with
 | some d => bif Nat.blt d n then (match f d with | .bool b => some b | _ => none) else none
 | none => none
theorem act_slot (n : Nat) (f : Fr) (d : Nat) : (act n f).tmps[d]? = bif Nat.blt d n then some (f d) else none := by
 by_cases ht : d < n
 ·rw [blt_true ht]; simp [act, ht]
 ·rw [blt_false ht]; simp [act, ht]
theorem act_yielded (ops : Array Oper) (n : Nat) (f : Fr) (j : Nat) : yielded ops (act n f).tmps j = yieldF ops n f j := by
 unfold yielded yieldF
 cases h : (ops[j]?).bind (·.dst) with
 | none => rfl
 | some d =>
  show (match (act n f).tmps[d]? with | some (.bool b) => some b | _ => none) = _
  rw [act_slot]
  by_cases ht : d < n
  ·simp only [blt_true ht, cond_true]
   cases f d <;> rfl
  ·simp only [blt_false ht, cond_false]
def wantF (ops : Array Oper) (n : Nat) (f : Fr) (g : Option (Nat × Bool)) : Bool :=
 match g with
 | none => true
 | some (j, want) => yieldF ops n f j == some want
theorem act_wanted (ops : Array Oper) (n : Nat) (f : Fr) (o : Oper) : Region.wanted o (yielded ops (act n f).tmps) = wantF ops n f o.guard := by
 unfold Region.wanted wantF
 cases o.guard with
 | none => rfl
 | some g => obtain ⟨j, want⟩ := g; simp only [act_yielded]
abbrev Ent := Nat × (Obj → Prop)
structure SH (W : World) (l : List Ent) (w : World) : Prop where
 below : Below W.heap.size W w
 nodup : (l.map (·.1)).Nodup
 ents : ∀ e ∈ l, W.heap.size ≤ e.1 ∧ ∃ o, w.heap[e.1]? = some o ∧ e.2 o
theorem SH.start (W : World) : SH W [] W := ⟨Below.refl _ _, List.nodup_nil, by simp⟩
theorem SH.at_ {W w : World} {l : List Ent} (h : SH W l w) {i : Nat} {e : Ent} (he : l[i]? = some e) : W.heap.size ≤ e.1 ∧ ∃ o, w.heap[e.1]? = some o ∧ e.2 o :=
 h.ents e (List.mem_of_getElem? he)
theorem SH.drew {W w : World} {l : List Ent} (h : SH W l w) : SH W l w.drew := ⟨h.below.drew, h.nodup, h.ents⟩
theorem SH.lt {W w : World} {l : List Ent} (h : SH W l w) {e : Ent} (he : e ∈ l) : e.1 < w.heap.size := by
 obtain ⟨_, o, ho, _⟩ := h.ents e he
 exact (Array.getElem?_eq_some_iff.1 ho).1
theorem SH.alloc {W w : World} {l : List Ent} (h : SH W l w) (o : Obj) {p : Obj → Prop} (hp : p o) : SH W ((w.heap.size, p) :: l) (w.alloc o) := by
 have hsz := h.below.size
 refine ⟨h.below.alloc hsz o, ?_, ?_⟩
 ·simp only [List.map_cons, List.nodup_cons]
  refine ⟨fun hm => ?_, h.nodup⟩
  obtain ⟨e, he, heq⟩ := List.mem_map.1 hm
  have := h.lt he
  omega
 ·intro e he
  rcases List.mem_cons.1 he with rfl | he
  ·exact ⟨hsz, o, heap_alloc_new w o, hp⟩
  ·obtain ⟨h1, o', h2, h3⟩ := h.ents e he
   exact ⟨h1, o', by rw [Below.heap_alloc w o e.1 (h.lt he)]; exact h2, h3⟩
theorem SH.set_ {W w w' : World} {l : List Ent} (h : SH W l w) {i : Nat} {b : Nat} {p p' : Obj → Prop} (he : l[i]? = some (b, p)) {o' : Obj}
  (hw : w'.os = w.os ∧ w'.tape = w.tape ∧ w'.output = w.output ∧ w'.heap.size = w.heap.size ∧ w'.heap[b]? = some o' ∧ ∀ k, k ≠ b → w'.heap[k]? = w.heap[k]?) (hp : p' o') :
  SH W (l.set i (b, p')) w' := by
 obtain ⟨e1, e2, e3, e4, e5, e6⟩ := hw
 have hb := (h.at_ he).1
 have hi : i < l.length := (List.getElem?_eq_some_iff.1 he).1
 refine ⟨h.below.trans ⟨e1, e2, e3, by omega, fun k hk => e6 k (by omega)⟩, ?_, ?_⟩
 ·have : (l.set i (b, p')).map (·.1) = l.map (·.1) := by
   rw [List.map_set]
   apply List.ext_getElem?
   intro j
   by_cases hj : i = j
   ·subst hj
    rw [List.getElem?_set_self (by simpa using hi)]
    simp [he]
   ·rw [List.getElem?_set_ne hj]
  rw [this]; exact h.nodup
 ·intro e hm
  obtain ⟨j, hj⟩ := List.mem_iff_getElem?.1 hm
  by_cases hij : i = j
  ·subst hij
   rw [List.getElem?_set_self hi] at hj
   obtain rfl := Option.some.inj hj
   exact ⟨hb, o', e5, hp⟩
  ·rw [List.getElem?_set_ne hij] at hj
   obtain ⟨h1, o, h2, h3⟩ := h.at_ hj
   refine ⟨h1, o, ?_, h3⟩
   rw [e6 e.1 ?_]; exact h2
   intro heq
   have hnd := h.nodup
   have hj' : (l.map (·.1))[j]? = some b := by simp [hj, heq]
   have hi' : (l.map (·.1))[i]? = some b := by simp [he]
   exact hij (nodup_idx hnd hi' hj')
theorem SH.weaken {W w : World} {l l' : List Ent} (h : SH W l w) (hl : l.map (·.1) = l'.map (·.1)) (hp : ∀ (i b : Nat) (p p' : Obj → Prop), l[i]? = some (b, p) → l'[i]? = some (b, p') → ∀ o, p o → p' o) : SH W l' w := by
 refine ⟨h.below, hl ▸ h.nodup, fun e he => ?_⟩
 obtain ⟨j, hj⟩ := List.mem_iff_getElem?.1 he
 have h1 : (l'.map (·.1))[j]? = some e.1 := by simp [hj]
 rw [← hl] at h1
 simp only [List.getElem?_map, Option.map_eq_some_iff] at h1
 obtain ⟨e0, h2, h3⟩ := h1
 obtain ⟨k1, o, k2, k3⟩ := h.at_ h2
 obtain ⟨b0, p0⟩ := e0
 obtain ⟨b1, p1⟩ := e
 simp only at h3
 subst h3
 exact ⟨k1, o, k2, hp j b0 p0 p1 h2 hj o k3⟩
def OpW (P : Program) (o : Oper) (ρ : Operand → Value) (w : World) (K : Value → World → Prop) : Prop :=
 match (execOp ρ o).run P w with
 | .ok (.value v) w' => K v w'
 | .ok .skip w' => K undef w'
 | .ok (.enter g args) w' => Calls P g args w' fun e w'' => ∃ v, e = .returned v ∧ K v w''
 | .ok (.row row args) w' => Rows P row args w' K
 | _ => False
theorem OpW.mono {P : Program} {o : Oper} {ρ : Operand → Value} {w : World} {K K' : Value → World → Prop} (h : OpW P o ρ w K) (hk : ∀ v w', K v w' → K' v w') : OpW P o ρ w K' := by
 unfold OpW at *
 split at h
 ·exact hk _ _ h
 ·exact hk _ _ h
 ·exact Calls.mono h fun e w'' ⟨v, he, hv⟩ => ⟨v, he, hk _ _ hv⟩
 ·exact Rows.mono h fun v w'' hv => hk _ _ hv
 ·exact h.elim
theorem OpW.wp {P : Program} {o : Oper} {a : Act} {w : World} {next : Act → World → Prop} {Q : Exit → Act → World → Prop}
    (h : OpW P o a.eval w fun v w' => next (a.put o.dst v) w') : o.wp P a w next Q := by
  unfold OpW at h
  unfold Oper.wp
  revert h
  generalize (execOp a.eval o).run P w = r
  intro h
  cases r with
  | ok x w' =>
    cases x <;> simp only [Oper.upon] at h ⊢ <;> first
      | exact h
      | exact h.elim
      | (refine Calls.mono h fun e w'' he => ?_
         obtain ⟨v, rfl, hv⟩ := he
         exact hv)
  | halt x w' => exact h.elim
def Yld (P : Program) (o : Oper) (ρ : Operand → Value) (v : Value) : Prop := ∀ w, (execOp ρ o).run P w = .ok (.value v) w
def YldIf (P : Program) (S : World → Prop) (o : Oper) (ρ : Operand → Value) (v : Value) : Prop := ∀ w, S w → (execOp ρ o).run P w = .ok (.value v) w
def Eff (P : Program) (W : World) (l : List Ent) (o : Oper) (ρ : Operand → Value) (Ψ : Value → List Ent → Prop) : Prop :=
 ∀ w, SH W l w → OpW P o ρ w fun v w' => ∃ l', SH W l' w' ∧ Ψ v l'
theorem Yld.opw {P : Program} {o : Oper} {ρ : Operand → Value} {v : Value} (h : Yld P o ρ v) {w : World} {K : Value → World → Prop} (hk : K v w) : OpW P o ρ w K := by
 unfold OpW; rw [h w]; exact hk
theorem YldIf.opw {P : Program} {S : World → Prop} {o : Oper} {ρ : Operand → Value} {v : Value} (h : YldIf P S o ρ v) {w : World} (hS : S w) {K : Value → World → Prop} (hk : K v w) : OpW P o ρ w K := by
 unfold OpW; rw [h w hS]; exact hk
def At (b : Nat) (p : Obj → Prop) (w : World) : Prop := ∃ o, w.heap[b]? = some o ∧ p o
def Was (W : World) (w : World) : Prop := Below W.heap.size W w
inductive Kont where
 | done (Q : Exit → Act → World → Prop)
 | seq (y : Code) (K : Kont)
 | blk (id : Nat) (K : Kont)
 | loop (I : Act → World → Prop) (K : Kont)
def Kont.post (P : Program) : Kont → Exit → Act → World → Prop
 | .done Q => Q
 | .seq y K => Exit.then (fun a w => y.wp P (K.post P) a w) (K.post P)
 | .blk id K => Exit.inBlock id (K.post P)
 | .loop I K => Exit.then I (K.post P)
def Kont.bottom : Kont → Exit → Act → World → Prop
 | .done Q => Q
 | .seq _ K => K.bottom
 | .blk _ K => K.bottom
 | .loop _ K => K.bottom
def Kont.out (id : Nat) : Kont → Kont
 | .done Q => .done fun _ => Q (.exit id)
 | .seq _ K => K.out id
 | .blk id' K => bif Nat.beq id id' then K else K.out id
 | .loop _ K => K.out id
theorem Kont.post_ret (P : Program) (a : Act) (w : World) : ∀ K : Kont, K.post P .ret a w = K.bottom .ret a w
 | .done _ => rfl
 | .seq _ K => Kont.post_ret P a w K
 | .blk _ K => Kont.post_ret P a w K
 | .loop _ K => Kont.post_ret P a w K
theorem Kont.post_out (P : Program) (id : Nat) (a : Act) (w : World) : ∀ K : Kont, (K.out id).post P .normal a w → K.post P (.exit id) a w
 | .done _, h => h
 | .seq _ K, h => Kont.post_out P id a w K h
 | .loop _ K, h => Kont.post_out P id a w K h
 | .blk id' K, h => by
  unfold Kont.out at h
  unfold Kont.post
  simp only [Exit.inBlock]
  cases hb : Nat.beq id id' with
  | true =>
   rw [hb] at h
   rw [if_pos (Nat.eq_of_beq_eq_true hb)]
   exact h
  | false =>
   rw [hb] at h
   rw [if_neg (Nat.ne_of_beq_eq_false hb)]
   exact Kont.post_out P id a w K h
section
variable (P : Program) (n : Nat) (W : World)
def JC (c : Code) (K : Kont) (f : Fr) (l : List Ent) : Prop := ∀ w, SH W l w → c.wp P (K.post P) (act n f) w
def RN (K : Kont) (f : Fr) (l : List Ent) : Prop := ∀ w, SH W l w → K.post P .normal (act n f) w
def RT (K : Kont) (f : Fr) (l : List Ent) : Prop := ∀ w, SH W l w → K.bottom .ret (act n f) w
def JL (ops : Array Oper) (K : Kont) (rest : List Oper) (f : Fr) (l : List Ent) : Prop := ∀ w, SH W l w → wpList P ops (K.post P) rest (act n f) w
end
section
variable {P : Program} {n : Nat} {W : World} {K : Kont} {f : Fr} {l : List Ent} {ops : Array Oper} {rest : List Oper}
theorem JC.seq {x y : Code} (h : JC P n W x (.seq y K) f l) : JC P n W (x.seq y) K f l := fun w hw => wp_seq (h w hw)
theorem JC.block {id : Nat} {c : Code} (h : JC P n W c (.blk id K) f l) : JC P n W (.block id c) K f l := fun w hw => wp_block (h w hw)
theorem JC.skip (h : RN P n W K f l) : JC P n W .skip K f l := fun w hw => wp_skip (h w hw)
theorem JC.ret (h : RT n W K f l) : JC P n W .ret K f l := fun w hw => wp_ret (by rw [Kont.post_ret]; exact h w hw)
theorem JC.exit {id : Nat} (h : RN P n W (K.out id) f l) : JC P n W (.exit id) K f l := fun w hw => wp_exit (Kont.post_out P id _ _ K (h w hw))
theorem JC.cond_t {c : Operand} {x y : Code} (hc : ev n f c = .bool true) (h : JC P n W x K f l) : JC P n W (.cond c x y) K f l := fun w hw => wp_cond_true (by rw [act_eval]; exact hc) (h w hw)
theorem JC.cond_f {c : Operand} {x y : Code} (hc : ev n f c = .bool false) (h : JC P n W y K f l) : JC P n W (.cond c x y) K f l := fun w hw => wp_cond_false (by rw [act_eval]; exact hc) (h w hw)
theorem JC.region {id : Nat} {ol : List Oper} (h : JL P n W ol.toArray K ol f l) : JC P n W (.region id ol.toArray false) K f l := fun w hw => wp_region_lit (h w hw)
theorem RN.seq {y : Code} (h : JC P n W y K f l) : RN P n W (.seq y K) f l := h
theorem RN.blk {id : Nat} (h : RN P n W K f l) : RN P n W (.blk id K) f l := h
theorem JL.nil (h : RN P n W K f l) : JL P n W ops K [] f l := h
def Inv (n : Nat) (W : World) (I : Nat → Fr → List Ent → Prop) (m : Nat) (a : Act) (w : World) : Prop := ∃ m', m' < m ∧ ∃ f l, a = act n f ∧ SH W l w ∧ I m' f l
theorem RN.loop {I : Nat → Fr → List Ent → Prop} {m m' : Nat} (hm : m' < m) (h : I m' f l) : RN P n W (.loop (Inv n W I m) K) f l := fun _ hw => ⟨m', hm, f, l, rfl, hw, h⟩
theorem JC.loop {c : Code} (I : Nat → Fr → List Ent → Prop) (m0 : Nat) (h0 : I m0 f l) (h : ∀ m f l, I m f l → JC P n W c (.loop (Inv n W I m) K) f l) : JC P n W (.loop c) K f l := by
 intro w hw
 let J : Nat → Act → World → Prop := fun m a w => ∃ f l, a = act n f ∧ SH W l w ∧ I m f l
 have hex : ∃ μ : Act → World → Nat, ∀ a w, (∃ m, J m a w) → J (μ a w) a w ∧ ∀ k, J k a w → μ a w ≤ k := by
  have : ∀ a w, ∃ m, (∃ m, J m a w) → J m a w ∧ ∀ k, J k a w → m ≤ k := fun a w => by
   by_cases hx : ∃ m, J m a w
   ·obtain ⟨m, hm⟩ := hx
    obtain ⟨m', h1, h2⟩ := exists_least (fun m => J m a w) m hm
    exact ⟨m', fun _ => ⟨h1, h2⟩⟩
   ·exact ⟨0, fun h => absurd h hx⟩
  exact ⟨fun a w => Classical.choose (this a w), fun a w => Classical.choose_spec (this a w)⟩
 obtain ⟨μ, hμ⟩ := hex
 refine wp_loop (fun a w => ∃ m, J m a w) μ ⟨m0, f, l, rfl, hw, h0⟩ fun a w hJ => ?_
 obtain ⟨⟨f1, l1, ha, hs, hI⟩, _⟩ := hμ a w hJ
 have hc := h _ f1 l1 hI w hs
 rw [← ha] at hc
 refine wp_mono hc fun e a' w' hq => ?_
 cases e <;> try exact hq
 obtain ⟨m', hlt, f', l', ha', hs', hI'⟩ := hq
 have hJ' : ∃ m, J m a' w' := ⟨m', f', l', ha', hs', hI'⟩
 exact ⟨hJ', Nat.lt_of_le_of_lt ((hμ a' w' hJ').2 m' ⟨f', l', ha', hs', hI'⟩) hlt⟩
variable {d : Option Tmp} {op : Op} {ty : TypeId} {pos : String} {af : Array Edge} {gd : Option (Nat × Bool)}
theorem JL.step (hw : wantF ops n f gd = true) (h : Eff P W l ⟨d, op, ty, pos, af, gd⟩ (ev n f) fun v l' => JL P n W ops K rest (put f d v) l') : JL P n W ops K (⟨d, op, ty, pos, af, gd⟩ :: rest) f l := by
 intro w hs
 refine wpList_step fun K' hK' => ?_
 rw [act_wanted, if_pos hw]
 refine OpW.wp ?_
 rw [act_eval]
 refine (h w hs).mono fun v w' ⟨l', hs', hj⟩ => ?_
 rw [act_put]
 exact hK' _ _ (hj w' hs')
theorem JL.omit (hw : wantF ops n f gd = false) (h : JL P n W ops K rest (put f d undef) l) : JL P n W ops K (⟨d, op, ty, pos, af, gd⟩ :: rest) f l := by
 intro w hs
 refine wpList_step fun K' hK' => ?_
 rw [act_wanted, hw]
 simp only [Bool.false_eq_true, if_false]
 rw [act_put]
 exact hK' _ _ (h w hs)
theorem Eff.pure {o : Oper} {ρ : Operand → Value} {v : Value} {Ψ : Value → List Ent → Prop} (hy : Yld P o ρ v) (h : Ψ v l) : Eff P W l o ρ Ψ := fun w hs => hy.opw ⟨l, hs, h⟩
theorem Eff.read {o : Oper} {ρ : Operand → Value} {v : Value} {Ψ : Value → List Ent → Prop} {b : Nat} {p : Obj → Prop} (i : Nat) (he : l[i]? = some (b, p)) (hy : YldIf P (At b p) o ρ v) (h : Ψ v l) : Eff P W l o ρ Ψ :=
 fun _ hs => hy.opw (hs.at_ he).2 ⟨l, hs, h⟩
theorem JL.pure {v : Value} (hw : wantF ops n f gd = true) (hy : Yld P ⟨d, op, ty, pos, af, gd⟩ (ev n f) v) (h : JL P n W ops K rest (put f d v) l) : JL P n W ops K (⟨d, op, ty, pos, af, gd⟩ :: rest) f l := .step hw (.pure hy h)
theorem JL.read {v : Value} {b : Nat} {p : Obj → Prop} (i : Nat) (he : l[i]? = some (b, p)) (hw : wantF ops n f gd = true) (hy : YldIf P (At b p) ⟨d, op, ty, pos, af, gd⟩ (ev n f) v) (h : JL P n W ops K rest (put f d v) l) : JL P n W ops K (⟨d, op, ty, pos, af, gd⟩ :: rest) f l := .step hw (.read i he hy h)
theorem JC.weaken {c : Code} {l' : List Ent} (h : JC P n W c K f l') (hl : l.map (·.1) = l'.map (·.1)) (hp : ∀ (i b : Nat) (p p' : Obj → Prop), l[i]? = some (b, p) → l'[i]? = some (b, p') → ∀ o, p o → p' o) : JC P n W c K f l := fun w hs => h w (hs.weaken hl hp)
end
def Tr (P : Program) (g : FuncId) (args : Array Value) (W : World) (l : List Ent) (Φ : Value → List Ent → Prop) : Prop :=
 ∀ w, SH W l w → Calls P g args w fun e w' => ∃ v l', e = .returned v ∧ SH W l' w' ∧ Φ v l'
theorem Tr.mono {P : Program} {g : FuncId} {args : Array Value} {W : World} {l : List Ent} {Φ Φ' : Value → List Ent → Prop} (h : Tr P g args W l Φ) (hp : ∀ v l', Φ v l' → Φ' v l') : Tr P g args W l Φ' :=
 fun w hs => (h w hs).mono fun _ _ ⟨v, l', he, hs', hf⟩ => ⟨v, l', he, hs', hp _ _ hf⟩
def frL : List Value → Fr := fun vs i => vs[i]?.getD undef
theorem frL_act (args : Array Value) (n : Nat) (h : args.size ≤ n) : (⟨args ++ Array.replicate (n - args.size) undef, []⟩ : Act) = act n (frL args.toList) := by
 unfold act
 congr 1
 apply Array.ext
 ·simp; omega
 ·intro i h1 h2
  simp only [Array.getElem_append, Array.getElem_replicate, Array.getElem_ofFn, frL]
  split
  ·rename_i hlt; simp [hlt]
  ·rename_i hge; simp [Array.getElem?_eq_none (Nat.le_of_not_lt hge)]
def Fin (P : Program) (fn : Func) (W : World) (Φ : Value → List Ent → Prop) : Kont := .done (bodyPost P fn fun e w' => ∃ v l', e = .returned v ∧ SH W l' w' ∧ Φ v l')
theorem Tr.of_code {P : Program} {g : FuncId} {fn : Func} {c : Code} {args : List Value} {W : World} {l : List Ent} {Φ : Value → List Ent → Prop} {n : Nat}
  (hf : P.funcs[g]? = some fn) (hb : fn.body = some c) (hn : fn.ntmps = n) (ha : args.length ≤ n) (h : JC P n W c (Fin P fn W Φ) (frL args) l) : Tr P g args.toArray W l Φ := by
 intro w hs
 refine calls_of_wp hf hb ?_
 rw [hn, frL_act _ _ (by simpa using ha)]
 exact h w hs
section
variable {P : Program} {fn : Func} {W : World} {Φ : Value → List Ent → Prop} {n : Nat} {f : Fr} {l : List Ent}
theorem fin_ret {e : Exit} {v : Value} (he : e = .ret ∨ e = .normal) (hr : ∀ w, SH W l w → (results fn (act n f).tmps).run P w = .ok v w) (h : Φ v l) :
  ∀ w, SH W l w → bodyPost P fn (fun e w' => ∃ v l', e = .returned v ∧ SH W l' w' ∧ Φ v l') e (act n f) w := by
 intro w hs
 rcases he with rfl | rfl <;> exact ⟨rfl, v, hr w hs, v, l, rfl, hs, h⟩
theorem act_getD (n : Nat) (f : Fr) (t : Nat) : (act n f).tmps.getD t undef = ev n f (.tmp t) := congrFun (act_eval n f) (.tmp t)
theorem RT.one {t : Tmp} (hr : fn.results = #[.tmp t]) {K : Kont} (hK : K.bottom = (Fin P fn W Φ).bottom) {v : Value} (hv : ev n f (.tmp t) = v) (h : Φ v l) : RT n W K f l := by
 intro w hs
 rw [hK]
 exact fin_ret (.inl rfl) (fun w _ => by rw [results_tmp hr, act_getD, hv]) h w hs
theorem RT.two {t u : Tmp} (hr : fn.results = #[.tmp t, .tmp u]) {K : Kont} (hK : K.bottom = (Fin P fn W Φ).bottom) {v v' : Value} (hv : ev n f (.tmp t) = v) (hv' : ev n f (.tmp u) = v') (h : Φ (.tuple #[v, v']) l) : RT n W K f l := by
 intro w hs
 rw [hK]
 exact fin_ret (.inl rfl) (fun w _ => by rw [results_tmp2 hr, act_getD, act_getD, hv, hv']) h w hs
theorem RT.three {t u x : Tmp} (hr : fn.results = #[.tmp t, .tmp u, .tmp x]) {K : Kont} (hK : K.bottom = (Fin P fn W Φ).bottom) {v v' v'' : Value} (hv : ev n f (.tmp t) = v) (hv' : ev n f (.tmp u) = v') (hv'' : ev n f (.tmp x) = v'')
  (h : Φ (.tuple #[v, v', v'']) l) : RT n W K f l := by
 intro w hs
 rw [hK]
 exact fin_ret (.inl rfl) (fun w _ => by rw [results_tmp3 hr, act_getD, act_getD, act_getD, hv, hv', hv'']) h w hs
theorem RT.none {K : Kont} (hr : fn.results = #[]) (hK : K.bottom = (Fin P fn W Φ).bottom) (h : Φ (.tuple #[]) l) : RT n W K f l := by
 intro w hs
 rw [hK]
 exact fin_ret (.inl rfl) (fun w _ => by rw [results_none hr]) h w hs
theorem RN.none (hr : fn.results = #[]) (h : Φ (.tuple #[]) l) : RN P n W (Fin P fn W Φ) f l :=
 fin_ret (.inr rfl) (fun w _ => by rw [results_none hr]) h
end
theorem Calls_of_Tr {P : Program} {g : FuncId} {args : Array Value} {w : World} (h : Tr P g args w [] fun v _ => v = .bool true) :
  Calls P g args w fun e w' => e = .returned (.bool true) ∧ Below w.heap.size w w' :=
 (h w (SH.start w)).mono fun _ _ ⟨v, _, he, hs, hv⟩ => ⟨by rw [he, hv], hs.below⟩
end Go.Lg
namespace Go.Lg
open Go.RowKit
section
variable {P : Program} {ops : Array Oper} {Q : Exit → Act → World → Prop} {md : Region.Mode}
abbrev Td := List (List Nat × (World → Prop))
def Tk (T : Td) (listed : Array Bool) (w : World) : Prop := ∀ x ∈ T, (∀ j ∈ x.1, listed.getD j true = false) → x.2 w
def wpAnyT (P : Program) (md : Region.Mode) (ops : Array Oper) (Q : Exit → Act → World → Prop) (T : Td) : Nat → Array Bool → Act → World → Prop
 | 0, listed, a, w => Region.ready md ops listed = [] ∧ Q .normal a w
 | fuel + 1, listed, a, w =>
  (Region.ready md ops listed = [] → Q .normal a w) ∧
  ∀ i ∈ Region.ready md ops listed, wpOp P ops Q i (fun a' w' => Tk T (listed.setIfInBounds i true) w' ∧ wpAnyT P md ops Q T fuel (listed.setIfInBounds i true) a' w') a w
theorem wpAny_of_T {T : Td} : ∀ (fuel : Nat) (listed : Array Bool) (a : Act) (w : World), wpAnyT P md ops Q T fuel listed a w → wpAny P md ops Q fuel listed a w
 | 0, _, _, _, h => h
 | fuel + 1, _, _, _, h => ⟨h.1, fun i hi => wpOp_mono (fun a' w' h' => wpAny_of_T fuel _ a' w' h'.2) (h.2 i hi)⟩
theorem wpAnyT_sub {T T' : Td} (hT : ∀ x ∈ T', x ∈ T ∨ ∀ w, x.2 w) : ∀ (fuel : Nat) (listed : Array Bool) (a : Act) (w : World), wpAnyT P md ops Q T fuel listed a w → wpAnyT P md ops Q T' fuel listed a w
 | 0, _, _, _, h => h
 | fuel + 1, _, _, _, h => ⟨h.1, fun i hi => wpOp_mono (fun a' w' h' => ⟨fun x hx hl => (hT x hx).elim (fun hx => h'.1 x hx hl) (fun hx => hx w'), wpAnyT_sub hT fuel _ a' w' h'.2⟩) (h.2 i hi)⟩
theorem getD_flip {listed : Array Bool} {i : Nat} (h : listed.getD i true = false) : listed.getD i false = false := by
 have hlt : i < listed.size := by
  rcases Nat.lt_or_ge i listed.size with h' | h'
  ·exact h'
  ·simp [Array.getElem?_eq_none h'] at h
 simpa [hlt] using h
theorem unlisted_of_set {listed : Array Bool} {i k : Nat} (h : (listed.setIfInBounds i true).getD k true = false) : listed.getD k true = false := by
 by_cases hik : i = k
 ·subst hik
  rcases Nat.lt_or_ge i listed.size with h' | h'
  ·simp [h'] at h
  ·simp [Array.getElem?_eq_none h'] at h
 ·rwa [getD_set_ne true hik] at h
theorem getD_set_ii {listed : Array Bool} {i j k : Nat} (h : ¬ j = i) : ((listed.setIfInBounds i true).setIfInBounds j true).getD k true = ((listed.setIfInBounds j true).setIfInBounds i true).getD k true := by
 rw [Array.setIfInBounds_comm _ _ (fun e => h e.symm)]
theorem wpAnyT_first {i : Nat} {oi : Oper} {v : Value} (hi : ops[i]? = some oi) (hsel : ∀ (j : Nat) (o : Oper) cs b, ops[j]? = some o → o.op ≠ .select cs b)
  (hQ : ∀ c a w, Q (.panic c) (a.put oi.dst v) w → Q (.panic c) a w) {T : Td} {D C : List Nat} {S : World → Prop}
  (hD : ∀ x ∈ T, i ∉ x.1) (hiD : i ∉ D) (hDC : ∀ j ∈ D, j ∈ C) (hC : ∀ j ∈ C, ∃ oj, ops[j]? = some oj ∧ ∃ e ∈ oj.after, Region.binds md e = true ∧ (e.on = i ∨ e.on ∈ C)) :
  ∀ (fuel : Nat) (listed : Array Bool) (a : Act) (w : World),
   (∀ j oj, ops[j]? = some oj → j ≠ i → listed.getD j true = false → (∀ e ∈ oj.after, Region.binds md e = true → e.on ≠ i) → oi.apart ops oj = true) →
   (∀ j ∈ C, listed.getD j true = false) →
   i ∈ Region.ready md ops listed → YieldsIf P ops S oi v a → S w → Tk T listed w →
   wpAnyT P md ops Q ((D, S) :: T) fuel (listed.setIfInBounds i true) (a.put oi.dst v) w → wpAnyT P md ops Q T (fuel + 1) listed a w := by
 intro fuel
 have hown : ∀ (listed : Array Bool) (w : World), Tk T listed w → Tk T (listed.setIfInBounds i true) w := fun listed w hT x hx hl =>
  hT x hx fun j hj => unlisted_of_set (hl j hj)
 have hsub : ∀ x ∈ T, x ∈ (D, S) :: T ∨ ∀ w, x.2 w := fun x hx => .inl (List.mem_cons_of_mem _ hx)
 induction fuel with
 | zero =>
  intro listed a w _ _ hr hy hS hT H
  refine ⟨fun h => (by rw [h] at hr; cases hr), fun j hj => ?_⟩
  by_cases hji : j = i
  ·subst hji; exact hy.wpOp hi hS ⟨hown _ _ hT, H⟩
  ·have := ready_mono hj hji
   rw [H.1] at this
   cases this
 | succ fuel ih =>
  intro listed a w hfree hun hr hy hS hT H
  refine ⟨fun h => (by rw [h] at hr; cases hr), fun j hj => ?_⟩
  by_cases hji : j = i
  ·subst hji; exact hy.wpOp hi hS ⟨hown _ _ hT, wpAnyT_sub hsub _ _ _ _ H⟩
  ·have h1 := H.2 j (ready_mono hj hji)
   obtain ⟨hjun, oj, hoj, hall⟩ := mem_ready.1 hj
   have hiun := (mem_ready.1 hr).1
   have hnot : ∀ e ∈ oj.after, Region.binds md e = true → e.on ≠ i := fun e he hb heq => by
    have h1 := hall e he hb
    rw [heq, getD_flip hiun] at h1
    cases h1
   have hjC : j ∉ C := fun hjC => by
    obtain ⟨oj', hoj', e, he, hb, hor⟩ := hC j hjC
    rw [hoj] at hoj'
    obtain rfl := Option.some.inj hoj'
    have h1 := hall e he hb
    rcases hor with hor | hor
    ·exact hnot e he hb hor
    ·rw [getD_flip (hun _ hor)] at h1
     cases h1
   have h2 := wpOp_putIf hoj (hfree j oj hoj hji hjun hnot) (fun cs b => hsel i oi cs b hi) (fun cs b => hsel j oj cs b hoj) hQ hy h1
   have hfree' : ∀ k ok, ops[k]? = some ok → k ≠ i → (listed.setIfInBounds j true).getD k true = false →
     (∀ e ∈ ok.after, Region.binds md e = true → e.on ≠ i) → oi.apart ops ok = true := fun k ok hk hki hun hno =>
    hfree k ok hk hki (unlisted_of_set hun) hno
   have hun' : ∀ k ∈ C, (listed.setIfInBounds j true).getD k true = false := fun k hk => by
    rw [getD_set_ne true (fun (e : j = k) => hjC (by rw [e]; exact hk))]; exact hun k hk
   refine wpOp_mono (fun a' w' h3 => ?_) h2
   obtain ⟨hy', hTk, H'⟩ := h3
   have hT' : Tk T (listed.setIfInBounds j true) w' := fun x hx hl => hTk x (List.mem_cons_of_mem _ hx) fun k hk => by
    rw [getD_set_ii hji, getD_set_ne true (fun (e : i = k) => hD x hx (by rw [e]; exact hk))]
    exact hl k hk
   have hS' : S w' := hTk (D, S) (List.mem_cons_self ..) fun k hk => by
    rw [getD_set_ii hji, getD_set_ne true (fun (e : i = k) => hiD (by rw [e]; exact hk))]
    exact hun' k (hDC k hk)
   refine ⟨hT', ih (listed.setIfInBounds j true) a' w' hfree' hun' (ready_mono hr (Ne.symm hji)) hy' hS' hT' ?_⟩
   rw [Array.setIfInBounds_comm _ _ hji]
   exact H'
end
abbrev Tq := List (List Nat × Option Ent)
def TS (W : World) (x : List Nat × Option Ent) : List Nat × (World → Prop) := (x.1, match x.2 with | none => Was W | some e => At e.1 e.2)
def TOk : Tq → Array Bool → List Ent → Prop
 | [], _, _ => True
 | x :: T, listed, l => (match x.2 with
   | none => True
   | some e => (bif x.1.all (fun j => !listed.getD j true) then e ∈ l else True)) ∧ TOk T listed l
theorem TOk.tk {W : World} : ∀ {T : Tq} {listed : Array Bool} {l : List Ent}, TOk T listed l → ∀ w, SH W l w → Tk (T.map (TS W)) listed w
 | [], _, _, _, _, _ => fun x hx => by simp at hx
 | x :: T, listed, l, h, w, hs => by
  intro y hy hl
  rcases List.mem_cons.1 hy with rfl | hy
  ·obtain ⟨D, o⟩ := x
   cases o with
   | none => exact hs.below
   | some e =>
    have h1 := h.1
    simp only at h1
    have hall : D.all (fun j => !listed.getD j true) = true := by
     rw [List.all_eq_true]
     intro j hj
     have := hl j hj
     simp only [this, Bool.not_false]
    rw [hall] at h1
    exact (hs.ents e h1).2
  ·exact TOk.tk h.2 w hs y hy hl
theorem TOk.nil {listed : Array Bool} {l : List Ent} : TOk [] listed l := trivial
theorem TOk.was {D : List Nat} {T : Tq} {listed : Array Bool} {l : List Ent} (h : TOk T listed l) : TOk ((D, none) :: T) listed l := ⟨trivial, h⟩
theorem TOk.past {D : List Nat} {o : Option Ent} {T : Tq} {listed : Array Bool} {l : List Ent} (hd : D.all (fun j => !listed.getD j true) = false) (h : TOk T listed l) : TOk ((D, o) :: T) listed l := by
 refine ⟨?_, h⟩
 cases o with
 | none => trivial
 | some e => simp only [hd]; trivial
theorem TOk.mem {D : List Nat} {e : Ent} {T : Tq} {listed : Array Bool} {l : List Ent} (he : e ∈ l) (h : TOk T listed l) : TOk ((D, some e) :: T) listed l := by
 refine ⟨?_, h⟩
 cases hd : D.all (fun j => !listed.getD j true) with
 | true => simp only [hd]; exact he
 | false => simp only [hd]; trivial
def effB : Op → Bool
 | .move _ | .assign _ | .pick .. | .build .. | .load .. | .nilCheck _ | .binOp .. | .unOp .. | .fieldAddr .. | .field .. | .indexAddr .. | .index .. | .lookup .. | .extract .. | .makeFunc .. | .slice .. => false
 | .call { callee := .builtin .len, .. } | .call { callee := .builtin .cap, .. } | .call { callee := .builtin .min, .. } | .call { callee := .builtin .max, .. } => false
 | _ => true
def desc (ops : Array Oper) (i : Nat) : List Nat :=
 (List.range ops.size).foldl (fun C j => match ops[j]? with
  | some oj => bif oj.after.any (fun e => Region.binds .any e && (Nat.beq e.on i || C.contains e.on)) then C ++ [j] else C
  | none => C) []
def effs (ops : Array Oper) (C : List Nat) : List Nat := C.filter fun j => match ops[j]? with | some o => effB o.op | none => true
def closedB (ops : Array Oper) (i : Nat) (C : List Nat) : Bool :=
 C.all fun j => match ops[j]? with
  | some oj => oj.after.any fun e => Region.binds .any e && (Nat.beq e.on i || C.contains e.on)
  | none => false
theorem closedB_spec {ops : Array Oper} {i : Nat} {C : List Nat} (h : closedB ops i C = true) : ∀ j ∈ C, ∃ oj, ops[j]? = some oj ∧ ∃ e ∈ oj.after, Region.binds .any e = true ∧ (e.on = i ∨ e.on ∈ C) := by
 intro j hj
 have h1 := List.all_eq_true.1 h j hj
 cases ho : ops[j]? with
 | none => simp [ho] at h1
 | some oj =>
  simp only [ho] at h1
  obtain ⟨e, he, hb⟩ := Array.any_eq_true'.1 h1
  simp only [Bool.and_eq_true, Bool.or_eq_true] at hb
  refine ⟨oj, rfl, e, he, hb.1, hb.2.imp (fun h => Nat.eq_of_beq_eq_true h) fun h => by simpa using h⟩
section
variable (P : Program) (n : Nat) (W : World)
def JD (ops : Array Oper) (K : Kont) (T : Tq) (fuel : Nat) (listed : Array Bool) (f : Fr) (l : List Ent) : Prop :=
 ∀ w, SH W l w → Tk (T.map (TS W)) listed w → wpAnyT P .any ops (fun e a w => e = .normal ∧ K.post P .normal a w) (T.map (TS W)) fuel listed (act n f) w
end
section
variable {P : Program} {n : Nat} {W : World} {K : Kont} {f : Fr} {l : List Ent} {ops : Array Oper} {T : Tq} {fuel : Nat} {listed : Array Bool}
theorem JC.drawn {id : Nat} (N : Nat) (hN : ops.size = N) (hm : P.follows .mixedOrders = true) (h : JD P n W ops K [] N (Array.replicate N false) f l) : JC P n W (.region id ops true) K f l := by
 subst hN
 intro w hw
 refine wp_mono (wp_region_any hm (wpAny_of_T _ _ _ _ (h w.drew hw.drew fun x hx => by simp at hx))) fun e a w' he => ?_
 obtain ⟨rfl, he⟩ := he
 exact he
theorem JD.done (hr : Region.ready .any ops listed = []) (h : RN P n W K f l) : JD P n W ops K T fuel listed f l := by
 intro w hw _
 cases fuel with
 | zero => exact ⟨hr, rfl, h w hw⟩
 | succ fuel => exact ⟨fun _ => ⟨rfl, h w hw⟩, by rw [hr]; simp⟩
def chk (ops : Array Oper) (T : Tq) (listed : Array Bool) (i : Nat) : Bool :=
 Region.noSelect ops && Region.free .any ops listed i && (Region.ready .any ops listed).contains i && T.all fun x => !x.1.contains i
def chkR (ops : Array Oper) (listed : Array Bool) (i : Nat) (C : List Nat) : Bool :=
 closedB ops i C && C.all (fun j => !listed.getD j true) && !(effs ops C).contains i
theorem JD.read_ {i : Nat} {oi : Oper} {v : Value} (S : Option Ent) (C : List Nat) (hi : ops[i]? = some oi) (hc : chk ops T listed i = true) (hcr : chkR ops listed i C = true)
  (hy : (wantF ops n f oi.guard = true ∧ YldIf P (TS W ([], S)).2 oi (ev n f) v) ∨ (wantF ops n f oi.guard = false ∧ v = undef)) (hS : ∀ w, SH W l w → (TS W ([], S)).2 w)
  (h : JD P n W ops K ((effs ops C, S) :: T) fuel (listed.setIfInBounds i true) (put f oi.dst v) l) : JD P n W ops K T (fuel + 1) listed f l := by
 intro w hw hT
 simp only [chk, Bool.and_eq_true] at hc
 obtain ⟨⟨⟨c1, c2⟩, c3⟩, c4⟩ := hc
 simp only [chkR, Bool.and_eq_true] at hcr
 obtain ⟨⟨r1, r2⟩, r3⟩ := hcr
 have hDm : ∀ x ∈ T.map (TS W), i ∉ x.1 := fun x hx => by
  obtain ⟨y, hy, rfl⟩ := List.mem_map.1 hx
  have := List.all_eq_true.1 c4 y hy
  simpa [TS] using this
 refine wpAnyT_first hi (Region.noSelect_spec c1) (v := v) (fun _ _ _ hq => nomatch hq.1) (S := (TS W ([], S)).2) (D := effs ops C) (C := C) hDm
  (by simpa using r3) (fun j hj => (List.mem_filter.1 hj).1) (closedB_spec r1) fuel listed _ w (Region.free_spec hi c2)
  (fun j hj => by have := List.all_eq_true.1 r2 j hj; simpa using this) (by simpa using c3) ?_ (hS w hw) hT ?_
 ·rcases hy with ⟨h1, h2⟩ | ⟨h1, h2⟩
  ·exact .inl ⟨by rw [act_wanted]; exact h1, fun w hw => by rw [act_eval]; exact h2 w hw⟩
  ·exact .inr ⟨by rw [act_wanted]; exact h1, h2⟩
 ·rw [act_put]
  refine h w hw fun x hx hl => ?_
  rcases List.mem_cons.1 hx with rfl | hx
  ·exact hS w hw
  ·exact hT x hx fun j hj => unlisted_of_set (hl j hj)
theorem JD.pure_ {i : Nat} {oi : Oper} {v : Value} (hi : ops[i]? = some oi) (hc : chk ops T listed i = true)
  (hy : (wantF ops n f oi.guard = true ∧ Yld P oi (ev n f) v) ∨ (wantF ops n f oi.guard = false ∧ v = undef))
  (h : JD P n W ops K T fuel (listed.setIfInBounds i true) (put f oi.dst v) l) : JD P n W ops K T (fuel + 1) listed f l := by
 intro w hw hT
 simp only [chk, Bool.and_eq_true] at hc
 obtain ⟨⟨⟨c1, c2⟩, c3⟩, c4⟩ := hc
 have hDm : ∀ x ∈ T.map (TS W), i ∉ x.1 := fun x hx => by
  obtain ⟨y, hy, rfl⟩ := List.mem_map.1 hx
  have := List.all_eq_true.1 c4 y hy
  simpa [TS] using this
 refine wpAnyT_first hi (Region.noSelect_spec c1) (v := v) (fun _ _ _ hq => nomatch hq.1) (S := fun _ => True) (D := []) (C := []) hDm
  (by simp) (by simp) (by simp) fuel listed _ w (Region.free_spec hi c2) (by simp) (by simpa using c3) ?_ trivial hT ?_
 ·rcases hy with ⟨h1, h2⟩ | ⟨h1, h2⟩
  ·exact .inl ⟨by rw [act_wanted]; exact h1, fun w _ => by rw [act_eval]; exact h2 w⟩
  ·exact .inr ⟨by rw [act_wanted]; exact h1, h2⟩
 ·rw [act_put]
  refine wpAnyT_sub (fun x hx => ?_) _ _ _ _ (h w hw fun x hx hl => hT x hx fun j hj => unlisted_of_set (hl j hj))
  rcases List.mem_cons.1 hx with rfl | hx
  ·exact .inr fun _ => trivial
  ·exact .inl hx
section
variable {d : Option Tmp} {op : Op} {ty : TypeId} {pos : String} {af : Array Edge} {gd : Option (Nat × Bool)}
theorem JD.pure (i : Nat) {v : Value} (hi : ops[i]? = some ⟨d, op, ty, pos, af, gd⟩) (hc : chk ops T listed i = true) (hw : wantF ops n f gd = true) (hy : Yld P ⟨d, op, ty, pos, af, gd⟩ (ev n f) v)
  (h : JD P n W ops K T fuel (listed.setIfInBounds i true) (put f d v) l) : JD P n W ops K T (fuel + 1) listed f l := .pure_ hi hc (.inl ⟨hw, hy⟩) h
theorem JD.omit (i : Nat) (hi : ops[i]? = some ⟨d, op, ty, pos, af, gd⟩) (hc : chk ops T listed i = true) (hw : wantF ops n f gd = false)
  (h : JD P n W ops K T fuel (listed.setIfInBounds i true) (put f d undef) l) : JD P n W ops K T (fuel + 1) listed f l := .pure_ hi hc (.inr ⟨hw, rfl⟩) h
theorem JD.read (i : Nat) (idx : Nat) {v : Value} {b : Nat} {p : Obj → Prop} (he : l[idx]? = some (b, p)) (hi : ops[i]? = some ⟨d, op, ty, pos, af, gd⟩) (hc : chk ops T listed i = true) (hcr : chkR ops listed i (desc ops i) = true) (hw : wantF ops n f gd = true)
  (hy : YldIf P (At b p) ⟨d, op, ty, pos, af, gd⟩ (ev n f) v) (h : JD P n W ops K ((effs ops (desc ops i), some (b, p)) :: T) fuel (listed.setIfInBounds i true) (put f d v) l) : JD P n W ops K T (fuel + 1) listed f l :=
 .read_ (some (b, p)) (desc ops i) hi hc hcr (.inl ⟨hw, hy⟩) (fun _ hs => (hs.at_ he).2) h
end
theorem JD.step_ {j : Nat} {oj : Oper} (hj : ops[j]? = some oj) (hw : wantF ops n f oj.guard = true)
  (h : Eff P W l oj (ev n f) fun v l' => TOk T (listed.setIfInBounds j true) l' ∧ JD P n W ops K T fuel (listed.setIfInBounds j true) (put f oj.dst v) l') {w : World} (hs : SH W l w) :
  wpOp P ops (fun e a w => e = .normal ∧ K.post P .normal a w) j (fun a' w' => Tk (T.map (TS W)) (listed.setIfInBounds j true) w' ∧
   wpAnyT P .any ops (fun e a w => e = .normal ∧ K.post P .normal a w) (T.map (TS W)) fuel (listed.setIfInBounds j true) a' w') (act n f) w := by
 unfold wpOp
 simp only [hj]
 rw [act_wanted, if_pos hw]
 refine .inl (OpW.wp ?_)
 rw [act_eval]
 refine (h w hs).mono fun v w' ⟨l', hs', ht, hj⟩ => ?_
 rw [act_put]
 exact ⟨ht.tk w' hs', hj w' hs' (ht.tk w' hs')⟩
section
variable {d d' : Option Tmp} {op op' : Op} {ty ty' : TypeId} {pos pos' : String} {af af' : Array Edge} {gd gd' : Option (Nat × Bool)}
theorem JD.eff (j : Nat) (hr : Region.ready .any ops listed = [j]) (hj : ops[j]? = some ⟨d, op, ty, pos, af, gd⟩) (hw : wantF ops n f gd = true)
  (h : Eff P W l ⟨d, op, ty, pos, af, gd⟩ (ev n f) fun v l' => TOk T (listed.setIfInBounds j true) l' ∧ JD P n W ops K T fuel (listed.setIfInBounds j true) (put f d v) l') : JD P n W ops K T (fuel + 1) listed f l := by
 intro w hs _
 refine ⟨fun h0 => absurd (h0.symm.trans hr) (by simp), fun i hi => ?_⟩
 rw [hr] at hi
 obtain rfl : i = j := by simpa using hi
 exact JD.step_ hj hw h hs
theorem JD.eff2 (j k : Nat) (hr : Region.ready .any ops listed = [j, k]) (hj : ops[j]? = some ⟨d, op, ty, pos, af, gd⟩) (hw : wantF ops n f gd = true) (hk : ops[k]? = some ⟨d', op', ty', pos', af', gd'⟩) (hwk : wantF ops n f gd' = true)
  (h : Eff P W l ⟨d, op, ty, pos, af, gd⟩ (ev n f) fun v l' => TOk T (listed.setIfInBounds j true) l' ∧ JD P n W ops K T fuel (listed.setIfInBounds j true) (put f d v) l')
  (h' : Eff P W l ⟨d', op', ty', pos', af', gd'⟩ (ev n f) fun v l' => TOk T (listed.setIfInBounds k true) l' ∧ JD P n W ops K T fuel (listed.setIfInBounds k true) (put f d' v) l') : JD P n W ops K T (fuel + 1) listed f l := by
 intro w hs _
 refine ⟨fun h0 => absurd (h0.symm.trans hr) (by simp), fun i hi => ?_⟩
 rw [hr] at hi
 rcases List.mem_cons.1 hi with rfl | hi
 ·exact JD.step_ hj hw h hs
 ·obtain rfl : i = k := by simpa using hi
  exact JD.step_ hk hwk h' hs
end
end
end Go.Lg
namespace Go.Lg
open Go.RowKit
def isC (T : TypeId) (cs : List Value) : Obj → Prop := fun o => ∃ fz : Nat × Nat, o = .cells cs.toArray T fz ∧ (fz.1 = fz.2 ∨ cs.length ≤ fz.1)
def isR (T : TypeId) (tot : Nat) (xs : List Value) : Obj → Prop := fun o => ∃ cur : Array Value, o = .cells cur T (0, 0) ∧ cur.size = tot ∧ cur.toList.take xs.length = xs
theorem isC_mk (T : TypeId) (cs : Array Value) : isC T cs.toList (.cells cs T) := ⟨(0, 0), rfl, .inl rfl⟩
def nth : List Value → Nat → Option Value
 | [], _ => none
 | c :: _, 0 => some c
 | _ :: cs, j + 1 => nth cs j
theorem nth_eq : ∀ (cs : List Value) (j : Nat), nth cs j = cs[j]?
 | [], j => by simp [nth]
 | c :: cs, 0 => rfl
 | c :: cs, j + 1 => by simpa [nth] using nth_eq cs j
def seg (cs : List Value) (o n : Nat) : List Value := (cs.drop o).take n
def spl : List Value → Nat → List Value → List Value
 | cs, _, [] => cs
 | [], _, _ :: _ => []
 | _ :: cs, 0, v :: vs => v :: spl cs 0 vs
 | c :: cs, o + 1, v :: vs => c :: spl cs o (v :: vs)
theorem spl_length : ∀ (cs : List Value) (o : Nat) (vs : List Value), (spl cs o vs).length = cs.length
 | cs, _, [] => by simp [spl]
 | [], _, _ :: _ => by simp [spl]
 | _ :: cs, 0, v :: vs => by simp [spl, spl_length cs 0 vs]
 | c :: cs, o + 1, v :: vs => by simp [spl, spl_length cs o (v :: vs)]
theorem spl_get : ∀ (cs : List Value) (o : Nat) (vs : List Value) (i : Nat), o + vs.length ≤ cs.length → (spl cs o vs)[i]? = if o ≤ i ∧ i < o + vs.length then vs[i - o]? else cs[i]?
 | cs, o, [], i, _ => by rw [if_neg (by simp only [List.length_nil]; omega)]; simp [spl]
 | [], _, v :: vs, _, h => by simp at h
 | c :: cs, 0, v :: vs, i, h => by
  cases i with
  | zero => simp [spl]
  | succ i =>
   simp only [List.length_cons] at h
   simp only [spl, List.getElem?_cons_succ, spl_get cs 0 vs i (by omega), List.length_cons]
   by_cases hi : i < vs.length
   ·rw [if_pos (by omega), if_pos (by omega)]; simp
   ·rw [if_neg (by omega), if_neg (by omega)]
 | c :: cs, o + 1, v :: vs, i, h => by
  simp only [List.length_cons] at h
  cases i with
  | zero => rw [if_neg (by omega)]; simp [spl]
  | succ i =>
   simp only [spl, List.getElem?_cons_succ, spl_get cs o (v :: vs) i (by simp only [List.length_cons]; omega), List.length_cons]
   by_cases hi : o ≤ i ∧ i < o + (vs.length + 1)
   ·rw [if_pos hi, if_pos (by omega)]; congr 1; omega
   ·rw [if_neg hi, if_neg (by omega)]
theorem isR_mk (T : TypeId) (cs : Array Value) : isR T cs.size cs.toList (.cells cs T) := ⟨cs, rfl, rfl, List.take_length⟩
theorem fz_no {fz : Nat × Nat} {s j : Nat} (h : fz.1 = fz.2 ∨ s ≤ fz.1) (hj : j < s) : (fz.1 ≤ j && j < fz.2) = false := by
 obtain ⟨a, b⟩ := fz
 simp only at h ⊢
 by_cases h1 : a ≤ j <;> by_cases h2 : j < b <;> simp [h1, h2] <;> omega
theorem cell_at {w : World} {b : Nat} {cs : Array Value} {T : TypeId} {fz : Nat × Nat} (h : w.heap[b]? = some (.cells cs T fz)) (j : Nat) : w.cell? ⟨b, j, none⟩ = cs[j]? := cell_of_row w b j cs T fz h
theorem frozen_at {w : World} {b : Nat} {cs : Array Value} {T : TypeId} {fz : Nat × Nat} (h : w.heap[b]? = some (.cells cs T fz)) (hf : fz.1 = fz.2 ∨ cs.size ≤ fz.1) {j : Nat} (hj : j < cs.size) : w.frozen? ⟨b, j, none⟩ = false := by
 simp only [World.frozen?, h]
 exact fz_no hf hj
theorem addr_add (b o j : Nat) : (⟨b, o, none⟩ : Addr).add j = ⟨b, o + j, none⟩ := by unfold Addr.add; split <;> simp_all
def setB (w : World) (b : Nat) (o : Obj) : World := { w with heap := w.heap.setIfInBounds b o }
theorem setB_ok (w : World) {b : Nat} {o0 : Obj} (h : w.heap[b]? = some o0) (o : Obj) :
  (setB w b o).os = w.os ∧ (setB w b o).tape = w.tape ∧ (setB w b o).output = w.output ∧ (setB w b o).heap.size = w.heap.size ∧ (setB w b o).heap[b]? = some o ∧ ∀ k, k ≠ b → (setB w b o).heap[k]? = w.heap[k]? := by
 have hlt := (Array.getElem?_eq_some_iff.1 h).1
 refine ⟨rfl, rfl, rfl, by simp [setB], by simp [setB, hlt], fun k hk => ?_⟩
 simp only [setB]
 rw [Array.getElem?_setIfInBounds_ne (Ne.symm hk)]
theorem setB_setB (w : World) (b : Nat) (o o' : Obj) : setB (setB w b o) b o' = setB w b o' := by simp [setB]
theorem setB_same (w : World) (b : Nat) (o : Obj) (h : w.heap[b]? = some o) : setB w b o = w := by
 have hlt := (Array.getElem?_eq_some_iff.1 h).1
 have : w.heap.setIfInBounds b o = w.heap := by
  apply Array.ext_getElem?
  intro i
  by_cases hi : b = i
  ·subst hi; rw [Array.getElem?_setIfInBounds_self_of_lt hlt, h]
  ·rw [Array.getElem?_setIfInBounds_ne hi]
 unfold setB
 rw [this]
theorem setCell_setB {w : World} {b : Nat} {cs : Array Value} {T : TypeId} {fz : Nat × Nat} (h : w.heap[b]? = some (.cells cs T fz)) (j : Nat) (v : Value) : w.setCell ⟨b, j, none⟩ v = setB w b (.cells (cs.setIfInBounds j v) T fz) := by
 have hlt := (Array.getElem?_eq_some_iff.1 h).1
 unfold World.setCell setB
 congr 1
 apply Array.ext_getElem?
 intro i
 by_cases hi : b = i
 ·subst hi
  rw [Array.getElem?_modify, if_pos rfl, h, Array.getElem?_setIfInBounds_self_of_lt hlt]
  rfl
 ·rw [Array.getElem?_modify, if_neg hi, Array.getElem?_setIfInBounds_ne hi]
def splice (cur : Array Value) : Nat → List Value → Array Value
 | _, [] => cur
 | o, v :: vs => splice (cur.setIfInBounds o v) (o + 1) vs
theorem splice_size : ∀ (vs : List Value) (o : Nat) (cur : Array Value), (splice cur o vs).size = cur.size
 | [], _, _ => rfl
 | v :: vs, o, cur => by rw [splice, splice_size vs]; simp
theorem splice_get : ∀ (vs : List Value) (o : Nat) (cur : Array Value) (i : Nat), o + vs.length ≤ cur.size → (splice cur o vs)[i]? = if o ≤ i ∧ i < o + vs.length then vs[i - o]? else cur[i]?
 | [], o, cur, i, _ => by
  rw [if_neg (by simp only [List.length_nil]; omega)]; rfl
 | v :: vs, o, cur, i, h => by
  simp only [List.length_cons] at h
  rw [splice, splice_get vs (o + 1) _ i (by simp; omega)]
  by_cases h1 : o + 1 ≤ i ∧ i < o + 1 + vs.length
  ·rw [if_pos h1, if_pos (by simp; omega)]
   rw [show i - o = (i - (o + 1)) + 1 from by omega, List.getElem?_cons_succ]
  ·rw [if_neg h1]
   by_cases h2 : i = o
   ·subst h2
    rw [if_pos (by simp), Array.getElem?_setIfInBounds_self_of_lt (by omega)]
    simp
   ·rw [if_neg (by simp; omega), Array.getElem?_setIfInBounds_ne (by omega)]
theorem spl_splice (cs : List Value) (o : Nat) (vs : List Value) (h : o + vs.length ≤ cs.length) : splice cs.toArray o vs = (spl cs o vs).toArray := by
 apply Array.ext_getElem?
 intro i
 rw [splice_get vs o cs.toArray i (by simpa using h)]
 simp only [List.getElem?_toArray]
 rw [spl_get cs o vs i h]
theorem run_storeCells (P : Program) {b : Nat} {T : TypeId} {fz : Nat × Nat} : ∀ (vs : List Value) (o i : Nat) (cur : Array Value) (w : World), w.heap[b]? = some (.cells cur T fz) → (fz.1 = fz.2 ∨ cur.size ≤ fz.1) → o + i + vs.length ≤ cur.size →
  (∀ v ∈ vs, v.oneCell' = true) → (storeCells ⟨b, o, none⟩ vs i).run P w = .ok () (setB w b (.cells (splice cur (o + i) vs) T fz))
 | [], o, i, cur, w, h, _, _, _ => by simp [storeCells, splice, setB_same w b _ h]
 | v :: vs, o, i, cur, w, h, hf, hl, h1 => by
  simp only [List.length_cons] at hl
  have hc : w.cell? ⟨b, o + i, none⟩ = some (cur[o + i]'(by omega)) := by rw [cell_at h]; exact Array.getElem?_eq_getElem _
  have hz := frozen_at h hf (j := o + i) (by omega)
  have hv : v.oneCell' = true := h1 v (List.mem_cons_self ..)
  rw [storeCells, Sem.run_bind, addr_add, run_store P w _ v .plain hv]
  simp only [stored, hc, hz, Bool.false_eq_true, if_false, Result.andThen_ok]
  rw [setCell_setB h]
  have hb' := (setB_ok w h (.cells (cur.setIfInBounds (o + i) v) T fz)).2.2.2.2.1
  rw [run_storeCells P vs o (i + 1) (cur.setIfInBounds (o + i) v) _ hb' (by simpa using hf) (by simp; omega) (fun u hu => h1 u (List.mem_cons_of_mem _ hu)), setB_setB]
  rfl
def aggB (P : Program) (t : TypeId) : Option Bool :=
 match P.underlying t with
 | some (.struct _) | some (.array _ _) => some true
 | some _ => some false
 | none => none
def szB (P : Program) (t : TypeId) : Option Nat := (P.info? t).map (·.size)
def fldB (P : Program) (s : TypeId) (i : Nat) : Option Nat :=
 match P.underlying s with
 | some (.struct fs) => match fs[i]? with
  | some f => (match P.info? f.type with | some inf => if inf.size = 0 then none else some f.offset | none => none)
  | none => none
 | _ => none
class Fld (P : Program) (s i : Nat) (k : outParam Nat) : Prop where
 h : fldB P s i = some k
class Agg (P : Program) (t : Nat) (r : outParam Bool) : Prop where
 h : aggB P t = some r
class Sz (P : Program) (t : Nat) (n : outParam Nat) : Prop where
 h : szB P t = some n
class SliceT (P : Program) (t : Nat) (e : outParam Nat) : Prop where
 h : P.underlying t = some (.slice e)
class PtrT (P : Program) (t : Nat) (e : outParam Nat) : Prop where
 h : P.underlying t = some (.pointer e)
class ArrT (P : Program) (t : Nat) (n e : outParam Nat) : Prop where
 h : P.underlying t = some (.array n e)
class IntT (P : Program) (t : Nat) (k : outParam IntKind) : Prop where
 h : P.underlying t = some (.int k)
class MapT (P : Program) (t : Nat) (k e : outParam Nat) : Prop where
 h : P.underlying t = some (.map k e)
class StrT (P : Program) (t : Nat) : Prop where
 h : P.underlying t = some .string
class BoolT (P : Program) (t : Nat) : Prop where
 h : P.underlying t = some .bool
theorem run_isAgg {P : Program} {t : TypeId} {r : Bool} (h : aggB P t = some r) (w : World) : (isAgg t).run P w = .ok r w := by
 unfold aggB at h
 unfold isAgg
 cases hu : P.underlying t with
 | none => rw [hu] at h; cases h
 | some d =>
  rw [hu] at h
  rw [Sem.run_bind, run_underlying hu w]
  cases d <;> simp_all
theorem run_sizeOf {P : Program} {t : TypeId} {n : Nat} (h : szB P t = some n) (w : World) : (sizeOf t).run P w = .ok n w := by
 unfold szB at h
 obtain ⟨i, hi, rfl⟩ := Option.map_eq_some_iff.1 h
 simp [sizeOf, typeInfo, hi]
section
variable {P : Program} {ρ : Operand → Value} {d : Option Tmp} {ty : TypeId} {pos : String} {af : Array Edge} {gd : Option (Nat × Bool)}
theorem y_move {x : Operand} {v : Value} (h : ρ x = v) : Yld P ⟨d, .move x, ty, pos, af, gd⟩ ρ v := fun w => by simp [execOp, h]
theorem y_assign {x : Operand} {v : Value} (h : ρ x = v) : Yld P ⟨d, .assign x, ty, pos, af, gd⟩ ρ v := fun w => by simp [execOp, h]
theorem y_pick_t {c a b : Operand} {v : Value} (hc : ρ c = .bool true) (h : ρ a = v) : Yld P ⟨d, .pick c a b, ty, pos, af, gd⟩ ρ v := fun w => by simp [execOp, hc, h, asBool]
theorem y_pick_f {c a b : Operand} {v : Value} (hc : ρ c = .bool false) (h : ρ b = v) : Yld P ⟨d, .pick c a b, ty, pos, af, gd⟩ ρ v := fun w => by simp [execOp, hc, h, asBool]
theorem y_extract {t : Operand} {i : Nat} {vs : Array Value} {v : Value} (h : ρ t = .tuple vs) (hv : vs[i]? = some v) : Yld P ⟨d, .extract t i, ty, pos, af, gd⟩ ρ v := fun w => by simp [execOp, h, Instr.extract, hv]
theorem y_not {t : TypeId} {x : Operand} {b : Bool} (h : ρ x = .bool b) : Yld P ⟨d, .unOp .not t x, ty, pos, af, gd⟩ ρ (.bool !b) := fun w => by simp [execOp, h, Op.unary]
theorem y_makeFunc {fn : Fn} {first captured : Array Operand} {v : Value} (h : Value.func fn (first.map ρ) (captured.map ρ) = v) : Yld P ⟨d, .makeFunc fn first captured, ty, pos, af, gd⟩ ρ v := fun w => by simp [execOp, Instr.makeFunc, h]
theorem y_nilCheck {x : Operand} {a : Addr} (h : ρ x = .pointer (some a)) : Yld P ⟨d, .nilCheck x, ty, pos, af, gd⟩ ρ (.pointer (some a)) := fun w => by simp [execOp, h]
theorem run_bin {op : BinOp} {t yt : TypeId} {x y : Operand} {v : Value} (w : World) (hg : (eqGuard op t x y (ρ x) (ρ y)).run P w = .ok () w) (h : (binOp op t (ρ x) (ρ y)).run P w = .ok v w) :
  (execOp ρ ⟨d, .binOp op t x y yt, ty, pos, af, gd⟩).run P w = .ok (.value v) w := by
 simp [execOp, hg, h]
theorem guard_plain {op : BinOp} {t : TypeId} {x y : Operand} {a b : Value} (w : World) (h : (match a, b with | .nilIface, .nilIface => false | .agg _, .agg _ => false | _, _ => true) = true) : (eqGuard op t x y a b).run P w = .ok () w := by
 cases op <;> (first | rfl | (cases a <;> cases b <;> first | rfl | cases h))
theorem y_bin {op : BinOp} {t yt : TypeId} {x y : Operand} {k : IntKind} {a b : Int} {v : Value} (hx : ρ x = .int k a) (hy : ρ y = .int k b) (h : ∀ w, (binOp op t (.int k a) (.int k b)).run P w = .ok v w) :
  Yld P ⟨d, .binOp op t x y yt, ty, pos, af, gd⟩ ρ v := fun w => run_bin w (by rw [hx, hy]; exact guard_plain w rfl) (by rw [hx, hy]; exact h w)
theorem y_add {t yt : TypeId} {x y : Operand} {k : IntKind} {a b c : Int} (hx : ρ x = .int k a) (hy : ρ y = .int k b) (hc : k.wrap (a + b) = c) : Yld P ⟨d, .binOp .add t x y yt, ty, pos, af, gd⟩ ρ (.int k c) :=
 y_bin hx hy fun w => by subst hc; simp [binOp, Op.intArith]
theorem y_sub {t yt : TypeId} {x y : Operand} {k : IntKind} {a b c : Int} (hx : ρ x = .int k a) (hy : ρ y = .int k b) (hc : k.wrap (a - b) = c) : Yld P ⟨d, .binOp .sub t x y yt, ty, pos, af, gd⟩ ρ (.int k c) :=
 y_bin hx hy fun w => by subst hc; simp [binOp, Op.intArith]
theorem y_mul {t yt : TypeId} {x y : Operand} {k : IntKind} {a b c : Int} (hx : ρ x = .int k a) (hy : ρ y = .int k b) (hc : k.wrap (a * b) = c) : Yld P ⟨d, .binOp .mul t x y yt, ty, pos, af, gd⟩ ρ (.int k c) :=
 y_bin hx hy fun w => by subst hc; simp [binOp, Op.intArith]
theorem y_lss {t yt : TypeId} {x y : Operand} {k : IntKind} {a b : Int} {r : Bool} (hx : ρ x = .int k a) (hy : ρ y = .int k b) (hr : decide (a < b) = r) : Yld P ⟨d, .binOp .lss t x y yt, ty, pos, af, gd⟩ ρ (.bool r) :=
 y_bin hx hy fun w => by subst hr; simp [binOp, Op.intCmp]
theorem y_leq {t yt : TypeId} {x y : Operand} {k : IntKind} {a b : Int} {r : Bool} (hx : ρ x = .int k a) (hy : ρ y = .int k b) (hr : decide (a ≤ b) = r) : Yld P ⟨d, .binOp .leq t x y yt, ty, pos, af, gd⟩ ρ (.bool r) :=
 y_bin hx hy fun w => by subst hr; simp [binOp, Op.intCmp]
theorem y_gtr {t yt : TypeId} {x y : Operand} {k : IntKind} {a b : Int} {r : Bool} (hx : ρ x = .int k a) (hy : ρ y = .int k b) (hr : decide (b < a) = r) : Yld P ⟨d, .binOp .gtr t x y yt, ty, pos, af, gd⟩ ρ (.bool r) :=
 y_bin hx hy fun w => by subst hr; simp [binOp, Op.intCmp]
theorem y_geq {t yt : TypeId} {x y : Operand} {k : IntKind} {a b : Int} {r : Bool} (hx : ρ x = .int k a) (hy : ρ y = .int k b) (hr : decide (b ≤ a) = r) : Yld P ⟨d, .binOp .geq t x y yt, ty, pos, af, gd⟩ ρ (.bool r) :=
 y_bin hx hy fun w => by subst hr; simp [binOp, Op.intCmp]
theorem y_eql {t yt : TypeId} {x y : Operand} {k : IntKind} {a b : Int} {r : Bool} (hx : ρ x = .int k a) (hy : ρ y = .int k b) (hr : decide (a = b) = r) : Yld P ⟨d, .binOp .eql t x y yt, ty, pos, af, gd⟩ ρ (.bool r) :=
 y_bin hx hy fun w => by
  have : (a == b) = r := by rw [← hr]; by_cases h : a = b <;> simp [h]
  simp [binOp, Op.intCmp, this]
theorem y_neq {t yt : TypeId} {x y : Operand} {k : IntKind} {a b : Int} {r : Bool} (hx : ρ x = .int k a) (hy : ρ y = .int k b) (hr : decide (a = b) = !r) : Yld P ⟨d, .binOp .neq t x y yt, ty, pos, af, gd⟩ ρ (.bool r) :=
 y_bin hx hy fun w => by
  have : (a != b) = r := by
   have h2 : r = !decide (a = b) := by rw [hr]; simp
   rw [h2]; by_cases h : a = b <;> simp [h]
  simp [binOp, Op.intCmp, this]
theorem y_bits {op : BinOp} {t yt : TypeId} {x y : Operand} {k : IntKind} {a b : Int} (hx : ρ x = .int k a) (hy : ρ y = .int k b) (ho : op = .and ∨ op = .or ∨ op = .xor) : Yld P ⟨d, .binOp op t x y yt, ty, pos, af, gd⟩ ρ (.int k (bits op k a b)) :=
 y_bin hx hy fun w => by
  rcases ho with rfl | rfl | rfl <;> simp [binOp, Op.intBits, bits]
theorem y_shl {t yt : TypeId} {x y : Operand} {k yk : IntKind} {a b c : Int} (hx : ρ x = .int k a) (hy : ρ y = .int yk b) (hb : 0 ≤ b) (hc : k.wrap (a * 2 ^ (min b.toNat k.bits)) = c) : Yld P ⟨d, .binOp .shl t x y yt, ty, pos, af, gd⟩ ρ (.int k c) := fun w => by
 subst hc
 refine run_bin w (by rw [hx, hy]; exact guard_plain w rfl) ?_
 rw [hx, hy]
 simp [binOp, Op.shift, show ¬ b < 0 from by omega]
theorem y_shr {t yt : TypeId} {x y : Operand} {k yk : IntKind} {a b c : Int} (hx : ρ x = .int k a) (hy : ρ y = .int yk b) (hb : 0 ≤ b) (hc : a.fdiv (2 ^ (min b.toNat k.bits)) = c) : Yld P ⟨d, .binOp .shr t x y yt, ty, pos, af, gd⟩ ρ (.int k c) := fun w => by
 subst hc
 refine run_bin w (by rw [hx, hy]; exact guard_plain w rfl) ?_
 rw [hx, hy]
 simp [binOp, Op.shift, show ¬ b < 0 from by omega]
theorem y_eqlB {t yt : TypeId} {x y : Operand} {a b : Bool} [ht : BoolT P t] (hx : ρ x = .bool a) (hy : ρ y = .bool b) : Yld P ⟨d, .binOp .eql t x y yt, ty, pos, af, gd⟩ ρ (.bool (a == b)) := fun w => by
 refine run_bin w (by rw [hx, hy]; exact guard_plain w rfl) ?_
 rw [hx, hy]
 have h : ∀ q, (Op.equalIn (q + 1) t (.bool a) (.bool b)).run P w = .ok (a == b) w := fun q => by simp [Op.equalIn, run_underlying ht.h]
 simp only [binOp]
 simp [Op.equal, Op.maxDepth, h 9999]
theorem y_eqlNil {t e yt : TypeId} {x y : Operand} {a : Option Addr} {r : Bool} [ht : PtrT P t e] (hx : ρ x = .pointer a) (hy : ρ y = .pointer none) (hr : a.isNone = r) : Yld P ⟨d, .binOp .eql t x y yt, ty, pos, af, gd⟩ ρ (.bool r) := fun w => by
 subst hr
 refine run_bin w (by rw [hx, hy]; exact guard_plain w rfl) ?_
 rw [hx, hy]
 have h : ∀ q, (Op.equalIn (q + 1) t (.pointer a) (.pointer none)).run P w = .ok a.isNone w := fun q => by cases a <;> simp [Op.equalIn, run_underlying ht.h]
 have h' := h 9999
 cases a <;> (simp only [binOp]; simp only [Op.equal, Op.maxDepth, Sem.run_bind, h', Result.andThen_ok]; rfl)
theorem y_neqNil {t e yt : TypeId} {x y : Operand} {a : Option Addr} {r : Bool} [ht : PtrT P t e] (hx : ρ x = .pointer a) (hy : ρ y = .pointer none) (hr : (!a.isNone) = r) : Yld P ⟨d, .binOp .neq t x y yt, ty, pos, af, gd⟩ ρ (.bool r) := fun w => by
 subst hr
 refine run_bin w (by rw [hx, hy]; exact guard_plain w rfl) ?_
 rw [hx, hy]
 have h : ∀ q, (Op.equalIn (q + 1) t (.pointer a) (.pointer none)).run P w = .ok a.isNone w := fun q => by cases a <;> simp [Op.equalIn, run_underlying ht.h]
 have h' := h 9999
 cases a <;> (simp only [binOp]; simp only [Op.equal, Op.maxDepth, Sem.run_bind, h', Result.andThen_ok]; rfl)
theorem y_eqlSNil {t e yt : TypeId} {x y : Operand} {a : Option Addr} {n c n' c' : Nat} {r : Bool} [ht : SliceT P t e] (hx : ρ x = .slice a n c) (hy : ρ y = .slice none n' c') (hr : a.isNone = r) : Yld P ⟨d, .binOp .eql t x y yt, ty, pos, af, gd⟩ ρ (.bool r) := fun w => by
 subst hr
 refine run_bin w (by rw [hx, hy]; exact guard_plain w rfl) ?_
 rw [hx, hy]
 exact Lib.run_eql_slice_nil (P := P) w t e a n c n' c' ht.h
theorem y_eqlS {t yt : TypeId} {x y : Operand} {a b : ByteArray} {r : Bool} (hx : ρ x = .string a) (hy : ρ y = .string b) (hr : (a.toList == b.toList) = r) : Yld P ⟨d, .binOp .eql t x y yt, ty, pos, af, gd⟩ ρ (.bool r) := fun w => by
 subst hr
 refine run_bin w (by rw [hx, hy]; exact guard_plain w rfl) ?_
 rw [hx, hy]
 simp [binOp, Op.stringOp]
theorem y_neqS {t yt : TypeId} {x y : Operand} {a b : ByteArray} {r : Bool} (hx : ρ x = .string a) (hy : ρ y = .string b) (hr : (!(a.toList == b.toList)) = r) : Yld P ⟨d, .binOp .neq t x y yt, ty, pos, af, gd⟩ ρ (.bool r) := fun w => by
 subst hr
 refine run_bin w (by rw [hx, hy]; exact guard_plain w rfl) ?_
 rw [hx, hy]
 simp [binOp, Op.stringOp]
theorem y_fieldAddr {s : TypeId} {x : Operand} {i b o k : Nat} [hf : Fld P s i k] (h : ρ x = .pointer (some ⟨b, o, none⟩)) : Yld P ⟨d, .fieldAddr s x i, ty, pos, af, gd⟩ ρ (.pointer (some ⟨b, o + k, none⟩)) := fun w => by
 have hf := hf.h
 unfold fldB at hf
 cases hu : P.underlying s with
 | none => rw [hu] at hf; cases hf
 | some de =>
  cases de <;> rw [hu] at hf <;> try cases hf
  rename_i fs
  simp only at hf
  cases hfi : fs[i]? with
  | none => rw [hfi] at hf; cases hf
  | some f =>
   rw [hfi] at hf
   simp only at hf
   cases hinf : P.info? f.type with
   | none => rw [hinf] at hf; cases hf
   | some inf =>
    rw [hinf] at hf
    simp only at hf
    split at hf
    ·cases hf
    ·rename_i hne
     obtain rfl := Option.some.inj hf
     simp [execOp, h, Instr.fieldAt, run_underlying hu, hfi, Instr.sureAddr, fieldPlace, sizeOf, typeInfo, hinf, hne, addr_add]
theorem y_index {t e : TypeId} {x i : Operand} {b o len cap sz j : Nat} {k : IntKind} [ht : SliceT P t e] [hs : Sz P e sz] (hx : ρ x = .slice (some ⟨b, o, none⟩) len cap) (hi : ρ i = .int k (j : Int)) (hj : j < len) :
  Yld P ⟨d, .indexAddr t x i, ty, pos, af, gd⟩ ρ (.pointer (some ⟨b, o + j * sz, none⟩)) := fun w => by
 have h0 : (0 : Int) ≤ (j : Int) ∧ (j : Int) < (len : Int) := ⟨by omega, by omega⟩
 simp [execOp, hx, hi, Instr.indexAt, asIntOf, run_underlying ht.h, run_sizeOf hs.h, addr_add, hj]
theorem y_indexA {t e : TypeId} {x i : Operand} {b o len sz j : Nat} {k : IntKind} [ht : ArrT P t len e] [hs : Sz P e sz] (hx : ρ x = .pointer (some ⟨b, o, none⟩)) (hi : ρ i = .int k (j : Int)) (hj : j < len) :
  Yld P ⟨d, .indexAddr t x i, ty, pos, af, gd⟩ ρ (.pointer (some ⟨b, o + j * sz, none⟩)) := fun w => by
 simp [execOp, hx, hi, Instr.indexAt, asIntOf, run_underlying ht.h, run_sizeOf hs.h, addr_add, hj, Instr.sureAddr]
theorem y_len {t e : TypeId} {x : Operand} {a : Option Addr} {len cap : Nat} [ht : SliceT P t e] (hx : ρ x = .slice a len cap) : Yld P ⟨d, .call { callee := .builtin .len, args := #[x], argTypes := #[t] }, ty, pos, af, gd⟩ ρ (.int .i64 (len : Int)) := fun w => by
 simp [execOp, resolve, invoke, builtin, Builtin.len_, hx, run_underlying ht.h, goInt]
theorem y_lenS {t : TypeId} {x : Operand} {s : ByteArray} [ht : StrT P t] (hx : ρ x = .string s) : Yld P ⟨d, .call { callee := .builtin .len, args := #[x], argTypes := #[t] }, ty, pos, af, gd⟩ ρ (.int .i64 (s.size : Int)) := fun w => by
 simp [execOp, resolve, invoke, builtin, Builtin.len_, hx, run_underlying ht.h, goInt]
theorem y_min {t t' : TypeId} {x y : Operand} {k : IntKind} {a b c : Int} (hx : ρ x = .int k a) (hy : ρ y = .int k b) (hc : (if b < a then b else a) = c) : Yld P ⟨d, .call { callee := .builtin .min, args := #[x, y], argTypes := #[t, t'] }, ty, pos, af, gd⟩ ρ (.int k c) := fun w => by
 subst hc
 simp [execOp, resolve, invoke, builtin, Builtin.min_, hx, hy, Builtin.min2, List.foldlM]
theorem y_conv {s t : TypeId} {x : Operand} {k k' : IntKind} {a c : Int} {k0 : IntKind} [hs : IntT P s k0] [ht : IntT P t k'] (hx : ρ x = .int k a) (hc : k'.wrap a = c) : Yld P ⟨d, .convert s t x, ty, pos, af, gd⟩ ρ (.int k' c) := fun w => by
 subst hc
 simp [execOp, hx, convert, run_underlying hs.h, run_underlying ht.h, Conv.intToInt]
theorem y_build {t : TypeId} {parts : Array (Nat × Operand)} {cells : Array Value} (h : P.built t (parts.toList.map fun x => (x.1, ρ x.2)) = some cells) : Yld P ⟨d, .build t parts, ty, pos, af, gd⟩ ρ (.agg cells) := fun w => by
 have := run_build (P := P) w t (parts.map fun x => (x.1, ρ x.2)) cells (by simpa using h)
 simp [execOp, this]
theorem y_slice {t e : TypeId} {x : Operand} {lo hi : Option Operand} {b o len cap sz l h : Nat} [ht : SliceT P t e] [hs : Sz P e sz] (hx : ρ x = .slice (some ⟨b, o, none⟩) len cap)
  (hlo : match lo with | none => l = 0 | some y => ∃ k, ρ y = .int k (l : Int)) (hhi : match hi with | none => h = len | some y => ∃ k, ρ y = .int k (h : Int)) (hlh : l ≤ h) (hhc : h ≤ cap) :
  Yld P ⟨d, .slice t x lo hi none, ty, pos, af, gd⟩ ρ (.slice (if cap = l then some ⟨b, o, none⟩ else some ⟨b, o + l * sz, none⟩) (h - l) (cap - l)) := fun w => by
 have e1 : (Instr.sliceBounds true len cap (lo.map ρ) (hi.map ρ) none).run P w = .ok (l, h, cap) w := by
  cases lo with
  | none =>
   subst hlo
   cases hi with
   | none => subst hhi; simp [Instr.sliceBounds]
   | some y => obtain ⟨k, hk⟩ := hhi; simp [Instr.sliceBounds, Instr.sliceBound, hk, asIntOf, hhc]
  | some z =>
   obtain ⟨k', hk'⟩ := hlo
   cases hi with
   | none => subst hhi; simp [Instr.sliceBounds, Instr.sliceBound, hk', asIntOf, hlh]
   | some y => obtain ⟨k, hk⟩ := hhi; simp [Instr.sliceBounds, Instr.sliceBound, hk, hk', asIntOf, hhc, hlh]
 have e2 : (Instr.sliceAt t (.slice (some ⟨b, o, none⟩) len cap) (lo.map ρ) (hi.map ρ) none).run P w = .ok (.slice (if cap = l then some ⟨b, o, none⟩ else some ⟨b, o + l * sz, none⟩) (h - l) (cap - l)) w := by
  simp only [Instr.sliceAt, Sem.run_bind, run_underlying ht.h, Result.andThen_ok, Instr.slice, e1, run_sizeOf hs.h]
  simp [addr_add]
 simp [execOp, hx, e2]
theorem y_sliceNil {t e : TypeId} {x : Operand} {lo hi : Option Operand} {sz : Nat} [ht : SliceT P t e] [hs : Sz P e sz] (hx : ρ x = .slice none 0 0)
  (hlo : match lo with | none => True | some y => ∃ k, ρ y = .int k 0) (hhi : match hi with | none => True | some y => ∃ k, ρ y = .int k 0) :
  Yld P ⟨d, .slice t x lo hi none, ty, pos, af, gd⟩ ρ (.slice none 0 0) := fun w => by
 have e1 : (Instr.sliceBounds true 0 0 (lo.map ρ) (hi.map ρ) none).run P w = .ok (0, 0, 0) w := by
  cases lo with
  | none =>
   cases hi with
   | none => simp [Instr.sliceBounds]
   | some y => obtain ⟨k, hk⟩ := hhi; simp [Instr.sliceBounds, Instr.sliceBound, hk, asIntOf]
  | some z =>
   obtain ⟨k', hk'⟩ := hlo
   cases hi with
   | none => simp [Instr.sliceBounds, Instr.sliceBound, hk', asIntOf]
   | some y => obtain ⟨k, hk⟩ := hhi; simp [Instr.sliceBounds, Instr.sliceBound, hk, hk', asIntOf]
 have e2 : (Instr.sliceAt t (.slice none 0 0) (lo.map ρ) (hi.map ρ) none).run P w = .ok (.slice none 0 0) w := by
  simp only [Instr.sliceAt, Sem.run_bind, run_underlying ht.h, Result.andThen_ok, Instr.slice, e1, run_sizeOf hs.h]
  simp
 simp [execOp, hx, e2]
end
end Go.Lg
namespace Go.Lg
open Go.RowKit
theorem loadFrom_agg (P : Program) {w : World} {b o : Nat} {cs : Array Value} {T : TypeId} {fz : Nat × Nat} (h : w.heap[b]? = some (.cells cs T fz)) : ∀ (n i : Nat) (acc : Array Value), o + i + n ≤ cs.size →
  (loadCellsFrom ⟨b, o, none⟩ i n acc).run P w = .ok (acc ++ cs.extract (o + i) (o + i + n)) w
 | 0, i, acc, _ => by
  have : cs.extract (o + i) (o + i + 0) = #[] := by apply Array.ext'; simp
  rw [this]; simp [loadCellsFrom]
 | n + 1, i, acc, hl => by
  have hc : w.cell? ⟨b, o + i, none⟩ = some (cs[o + i]'(by omega)) := by rw [cell_at h]; exact Array.getElem?_eq_getElem _
  rw [loadCellsFrom, Sem.run_bind, addr_add]
  simp only [load, Sem.run, hc, Result.andThen_ok]
  rw [loadFrom_agg P h n (i + 1) _ (by omega)]
  congr 1
  apply Array.ext'
  simp only [Array.toList_append, Array.toList_push, Array.toList_extract, List.append_assoc, List.singleton_append]
  congr 1
  rw [List.extract_eq_take_drop, List.extract_eq_take_drop]
  rw [show o + i + (n + 1) - (o + i) = n + 1 from by omega, show o + (i + 1) + n - (o + (i + 1)) = n from by omega]
  rw [show o + (i + 1) = o + i + 1 from by omega]
  rw [List.drop_eq_getElem_cons (i := o + i) (by simp; omega), List.take_succ_cons]
  simp
theorem run_loadVar_agg (P : Program) {w : World} {b o : Nat} {cs : Array Value} {T t : TypeId} {fz : Nat × Nat} {n : Nat} (h : w.heap[b]? = some (.cells cs T fz)) (ha : aggB P t = some true) (hs : szB P t = some n) (hl : o + n ≤ cs.size) :
  (loadVar t ⟨b, o, none⟩).run P w = .ok (.agg (cs.extract o (o + n))) w := by
 have := loadFrom_agg P h n 0 #[] (by omega)
 simp only [loadVar, Sem.run_bind, run_isAgg ha, Result.andThen_ok, if_true, run_sizeOf hs, loadCells, this]
 simp
theorem run_loadVar_one (P : Program) {w : World} {a : Addr} {t : TypeId} {v : Value} (hc : w.cell? a = some v) (ha : aggB P t = some false) : (loadVar t a).run P w = .ok v w := by
 simp [loadVar, Sem.run_bind, run_isAgg ha, load, Sem.run, hc]
section
variable {P : Program} {ρ : Operand → Value} {d : Option Tmp} {ty : TypeId} {pos : String} {af : Array Edge} {gd : Option (Nat × Bool)} {W : World} {l : List Ent} {Ψ : Value → List Ent → Prop}
theorem r_load1 {t T : TypeId} {x : Operand} {b o : Nat} {cs : List Value} {v : Value} [ha : Agg P t false] (h : ρ x = .pointer (some ⟨b, o, none⟩)) (hv : nth cs o = some v) : YldIf P (At b (isC T cs)) ⟨d, .load t x, ty, pos, af, gd⟩ ρ v := by
 rintro w ⟨_, hb, fz, rfl, _⟩
 rw [nth_eq] at hv
 simp [execOp, h, Instr.loadAt, Instr.sureAddr, run_loadVar_one P (by rw [cell_at hb]; simpa using hv) ha.h]
theorem r_loadA {t T : TypeId} {x : Operand} {b o n : Nat} {cs v : List Value} [ha : Agg P t true] [hs : Sz P t n] (h : ρ x = .pointer (some ⟨b, o, none⟩)) (hl : o + n ≤ cs.length) (hv : seg cs o n = v) : YldIf P (At b (isC T cs)) ⟨d, .load t x, ty, pos, af, gd⟩ ρ (.agg v.toArray) := by
 rintro w ⟨_, hb, fz, rfl, _⟩
 subst hv
 have he : cs.toArray.extract o (o + n) = (seg cs o n).toArray := by
  apply Array.ext'
  rw [Array.toList_extract, List.extract_eq_take_drop, show o + n - o = n from by omega]
  rfl
 simp [execOp, h, Instr.loadAt, Instr.sureAddr, run_loadVar_agg P hb ha.h hs.h (by simpa using hl), he]
theorem r_loadW {t T : TypeId} {x : Operand} {b n : Nat} {cs : List Value} [ha : Agg P t true] [hs : Sz P t n] (h : ρ x = .pointer (some ⟨b, 0, none⟩)) (hl : cs.length = n) : YldIf P (At b (isC T cs)) ⟨d, .load t x, ty, pos, af, gd⟩ ρ (.agg cs.toArray) :=
 r_loadA h (by omega) (by unfold seg; rw [List.drop_zero, List.take_of_length_le (by omega)])
theorem row_get {cur : Array Value} {xs : List Value} (h : cur.toList.take xs.length = xs) {j : Nat} {v : Value} (hv : xs[j]? = some v) : cur[j]? = some v := by
 rw [← h, List.getElem?_take] at hv
 split at hv
 ·simpa using hv
 ·cases hv
theorem row_len {cur : Array Value} {xs : List Value} (h : cur.toList.take xs.length = xs) : xs.length ≤ cur.size := by
 have := congrArg List.length h
 simp at this
 omega
theorem r_loadR1 {t T : TypeId} {x : Operand} {b o tot : Nat} {xs : List Value} {v : Value} [ha : Agg P t false] (h : ρ x = .pointer (some ⟨b, o, none⟩)) (hv : xs[o]? = some v) : YldIf P (At b (isR T tot xs)) ⟨d, .load t x, ty, pos, af, gd⟩ ρ v := by
 rintro w ⟨_, hb, cur, rfl, _, hx⟩
 simp [execOp, h, Instr.loadAt, Instr.sureAddr, run_loadVar_one P (by rw [cell_at hb]; exact row_get hx hv) ha.h]
theorem r_loadRA {t T : TypeId} {x : Operand} {b o n tot : Nat} {xs : List Value} {v : List Value} [ha : Agg P t true] [hs : Sz P t n] (h : ρ x = .pointer (some ⟨b, o, none⟩)) (hl : o + n ≤ xs.length) (hv : (xs.drop o).take n = v) : YldIf P (At b (isR T tot xs)) ⟨d, .load t x, ty, pos, af, gd⟩ ρ (.agg v.toArray) := by
 rintro w ⟨_, hb, cur, rfl, _, hx⟩
 subst hv
 have h1 := row_len hx
 have he : cur.extract o (o + n) = ((xs.drop o).take n).toArray := by
  apply Array.ext'
  rw [Array.toList_extract, List.extract_eq_take_drop, show o + n - o = n from by omega]
  show _ = (xs.drop o).take n
  apply List.ext_getElem?
  intro i
  rw [List.getElem?_take, List.getElem?_take, List.getElem?_drop, List.getElem?_drop]
  split
  ·rename_i hi
   have hlt : o + i < xs.length := by omega
   rw [Array.getElem?_toList, row_get hx (List.getElem?_eq_getElem hlt), List.getElem?_eq_getElem hlt]
  ·rfl
 simp [execOp, h, Instr.loadAt, Instr.sureAddr, run_loadVar_agg P hb ha.h hs.h (by omega : o + n ≤ cur.size), he]
theorem e_new {o : Oper} {ob : Obj} {p : Obj → Prop} {v : Nat → Value} (hr : ∀ w, (execOp ρ o).run P w = .ok (.value (v w.heap.size)) (w.alloc ob)) (hp : p ob) (h : ∀ b, Ψ (v b) ((b, p) :: l)) : Eff P W l o ρ Ψ := by
 intro w hs
 unfold OpW
 rw [hr w]
 exact ⟨_, hs.alloc ob hp, h _⟩
def zeroB (P : Program) (t : TypeId) : Option (Array Value) := ((P.info? t).bind (·.zero)).map (·.cells)
theorem run_zero {P : Program} {t : TypeId} {z : Array Value} (h : zeroB P t = some z) : ∃ zv : Value, zv.cells = z ∧ ∀ w, (zeroValue t).run P w = .ok zv w := by
 unfold zeroB at h
 obtain ⟨zv, hz, rfl⟩ := Option.map_eq_some_iff.1 h
 obtain ⟨i, hi, hz⟩ := Option.bind_eq_some_iff.1 hz
 exact ⟨zv, rfl, fun w => by simp [zeroValue, typeInfo, hi, hz]⟩
class Zr (P : Program) (t : Nat) (z : outParam (List Value)) : Prop where
 h : zeroB P t = some z.toArray
theorem e_alloc {t : TypeId} {z : List Value} [hz : Zr P t z] (h : ∀ b, Ψ (.pointer (some ⟨b, 0, none⟩)) ((b, isC t z) :: l)) : Eff P W l ⟨d, .alloc t, ty, pos, af, gd⟩ ρ Ψ := by
 obtain ⟨zv, hzv, hr⟩ := run_zero hz.h
 refine e_new (v := fun b => .pointer (some ⟨b, 0, none⟩)) (fun w => ?_) (isC_mk t z.toArray) h
 simp [execOp, Instr.alloc, hr w, newVar, newRow, newObj, Sem.run, hzv]
theorem e_box {t : TypeId} {x : Operand} {v : Value} {cs : List Value} (hx : ρ x = v) (hc : v.cells = cs.toArray) (h : ∀ b, Ψ (.pointer (some ⟨b, 0, none⟩)) ((b, isC t cs) :: l)) : Eff P W l ⟨d, .box t x, ty, pos, af, gd⟩ ρ Ψ := by
 subst hx
 refine e_new (v := fun b => .pointer (some ⟨b, 0, none⟩)) (fun w => ?_) (isC_mk t cs.toArray) h
 simp [execOp, Instr.box, newVar, newRow, newObj, Sem.run, hc]
def enumF : Nat → List Value → List (Nat × Value)
 | _, [] => []
 | k, v :: vs => (k, v) :: enumF (k + 1) vs
theorem foldl_splice (off : Nat) : ∀ (vs : List Value) (k : Nat) (cs : Array Value), (vs.zipIdx k).foldl (fun cs x => cs.setIfInBounds (off + x.2) x.1) cs = splice cs (off + k) vs
 | [], _, _ => rfl
 | v :: vs, k, cs => by
  rw [List.zipIdx_cons, List.foldl_cons, foldl_splice off vs (k + 1) _]
  rfl
theorem splice_append : ∀ (a b : List Value) (o : Nat) (cs : Array Value), splice cs o (a ++ b) = splice (splice cs o a) (o + a.length) b
 | [], _, _, _ => rfl
 | v :: a, b, o, cs => by
  simp only [List.cons_append, splice, List.length_cons]
  rw [splice_append a b (o + 1) _, show o + 1 + a.length = o + (a.length + 1) from by omega]
theorem fill_seq (sz : Nat) : ∀ (vs : List Value) (k : Nat) (cs : Array Value), (∀ v ∈ vs, v.cells.size = sz) → (k + vs.length) * sz ≤ cs.size →
  Instr.fill (fun i => some (i * sz, sz)) cs (enumF k vs) = some (splice cs (k * sz) (vs.flatMap fun v => v.cells.toList))
 | [], k, cs, _, _ => rfl
 | v :: vs, k, cs, h, hl => by
  have hv := h v (List.mem_cons_self ..)
  have hle : (k + 1) * sz ≤ (k + (v :: vs).length) * sz := Nat.mul_le_mul_right _ (by simp only [List.length_cons]; omega)
  have hle2 := Nat.le_trans hle hl
  rw [Nat.add_mul, Nat.one_mul] at hle2
  simp only [enumF, Instr.fill]
  rw [if_neg (by rw [hv]; simp; omega)]
  have e1 : v.cells.zipIdx.foldl (fun cs x => cs.setIfInBounds (k * sz + x.2) x.1) cs = splice cs (k * sz) v.cells.toList := by
   rw [← Array.foldl_toList, Array.toList_zipIdx]
   exact foldl_splice (k * sz) v.cells.toList 0 cs
  have e2 := fill_seq sz vs (k + 1) (splice cs (k * sz) v.cells.toList) (fun u hu => h u (List.mem_cons_of_mem _ hu)) (by rw [splice_size]; simp only [List.length_cons] at hl; rw [show k + 1 + vs.length = k + (vs.length + 1) from by omega]; exact hl)
  rw [Nat.add_mul, Nat.one_mul] at e2
  have hlv : v.cells.toList.length = sz := by simpa using hv
  rw [List.flatMap_cons, splice_append, hlv, ← e2]
  exact congrArg (fun c => Instr.fill (fun i => some (i * sz, sz)) c (enumF (k + 1) vs)) e1
theorem splice_all {cs : Array Value} {vs : List Value} (h : vs.length = cs.size) : splice cs 0 vs = vs.toArray := by
 apply Array.ext_getElem?
 intro i
 rw [splice_get vs 0 cs i (by omega)]
 simp only [List.getElem?_toArray]
 by_cases hi : i < vs.length
 ·rw [if_pos (by omega)]; rfl
 ·rw [if_neg (by omega), Array.getElem?_eq_none (by omega), List.getElem?_eq_none (by omega)]
theorem flatMap_len {sz : Nat} : ∀ {vs : List Value}, (∀ v ∈ vs, v.cells.size = sz) → (vs.flatMap fun v => v.cells.toList).length = vs.length * sz
 | [], _ => by simp
 | v :: vs, h => by
  rw [List.flatMap_cons, List.length_append, flatMap_len (fun u hu => h u (List.mem_cons_of_mem _ hu)), List.length_cons, Nat.add_mul]
  have := h v (List.mem_cons_self ..)
  simp only [Array.length_toList, this, Nat.one_mul]
  omega
theorem e_buildSlice {t e : TypeId} {len sz : Nat} {parts : Array (Nat × Operand)} {z cells : List Value} (vs : List Value) [ht : SliceT P t e] [hs : Sz P e sz] [hz : Zr P e z] (hp : (parts.toList.map fun x => (x.1, ρ x.2)) = enumF 0 vs) (hlen : len * sz ≤ 2 ^ 24) (hn : vs.length = len)
  (h1 : ∀ v ∈ vs, v.cells.size = sz) (hc : (vs.flatMap fun v => v.cells.toList) = cells) (h : ∀ b, Ψ (.slice (some ⟨b, 0, none⟩) len len) ((b, isR e (len * sz) cells) :: l)) : Eff P W l ⟨d, .buildSlice t len parts, ty, pos, af, gd⟩ ρ Ψ := by
 obtain ⟨zv, hzv, hr⟩ := run_zero hz.h
 subst hn
 have hcl : cells.length = vs.length * sz := by rw [← hc]; exact flatMap_len h1
 have hpr : isR e (vs.length * sz) cells (.cells cells.toArray e) := by rw [← hcl]; exact isR_mk e cells.toArray
 refine e_new (v := fun b => .slice (some ⟨b, 0, none⟩) vs.length vs.length) (fun w => ?_) hpr h
 have hlen' : ¬ vs.length * sz > 2 ^ 24 := by omega
 have e1 : (parts.map fun x => (x.1, ρ x.2)).toList = enumF 0 vs := by simpa using hp
 have key : ∀ zs : Array Value, Instr.fill (fun i => some (i * sz, sz)) ((Array.range (vs.length * sz)).map (zs[· % zs.size]!)) (enumF 0 vs) = some cells.toArray := fun zs => by
  rw [fill_seq sz vs 0 _ h1 (by simp), Nat.zero_mul, hc, splice_all (by simpa using hcl)]
 by_cases h0 : vs.length * sz = 0
 ·have key := key #[]
  rw [h0] at key
  simp only [execOp, Instr.buildSlice, Sem.run_bind, run_underlying ht.h, Result.andThen_ok, run_sizeOf hs.h, hlen', if_false, h0, if_true, Sem.run_pure, e1]
  rw [if_neg (by omega), Sem.run_bind, Sem.run_pure, Result.andThen_ok, key]
  simp [newRow, newObj, Sem.run]
 ·simp only [execOp, Instr.buildSlice, Sem.run_bind, run_underlying ht.h, Result.andThen_ok, run_sizeOf hs.h, hlen', if_false, h0, hr w, Sem.run_pure, e1, key]
  simp [newRow, newObj, Sem.run]
theorem e_store {t T : TypeId} {x y : Operand} {b o n : Nat} {cs vs : List Value} {v : Value} (i : Nat) (he : l[i]? = some (b, isC T cs)) [hs : Sz P t n] (hx : ρ x = .pointer (some ⟨b, o, none⟩)) (hy : ρ y = v) (hv : v.cells = vs.toArray) (hn : vs.length = n) (h1 : vs.all (·.oneCell') = true) (hl : o + n ≤ cs.length)
  (h : Ψ undef (l.set i (b, isC T (spl cs o vs)))) : Eff P W l ⟨d, .store t x y, ty, pos, af, gd⟩ ρ Ψ := by
 intro w hw
 obtain ⟨_, ob, hb, fz, rfl, hf⟩ := hw.at_ he
 have hr := run_storeCells P vs o 0 cs.toArray w hb (by simpa using hf) (by simp; omega) (fun u hu => List.all_eq_true.1 h1 u hu)
 simp only [Nat.add_zero] at hr
 rw [spl_splice cs o vs (by omega)] at hr
 have e1 : (Instr.storeAt t (.pointer (some ⟨b, o, none⟩)) v).run P w = .ok () (setB w b (.cells (spl cs o vs).toArray T fz)) := by
  simp [Instr.storeAt, Instr.sureAddr, storeVar, run_sizeOf hs.h, hv, hn, hr]
 unfold OpW
 simp only [execOp, hx, hy, Sem.run_bind, e1, Result.andThen_ok, Sem.run_pure]
 exact ⟨_, hw.set_ he (setB_ok w hb _) ⟨fz, rfl, by rw [spl_length]; exact hf⟩, h⟩
theorem e_storeR {t T : TypeId} {x y : Operand} {b o n tot : Nat} {xs : List Value} {v : Value} (i : Nat) (he : l[i]? = some (b, isR T tot xs)) [hs : Sz P t n] (hx : ρ x = .pointer (some ⟨b, o, none⟩)) (hy : ρ y = v) (hn : v.cells.size = n) (h1 : v.cells.all (·.oneCell') = true) (hl : o + n ≤ xs.length)
  (h : Ψ undef (l.set i (b, isR T tot (xs.take o ++ v.cells.toList ++ xs.drop (o + n))))) : Eff P W l ⟨d, .store t x y, ty, pos, af, gd⟩ ρ Ψ := by
 intro w hw
 obtain ⟨_, ob, hb, cur, rfl, ht, hxs⟩ := hw.at_ he
 have hlen := row_len hxs
 have hr := run_storeCells P v.cells.toList o 0 cur w hb (.inl rfl) (by simp; omega) (fun u hu => Array.all_eq_true_iff_forall_mem.1 h1 u (by simpa using hu))
 have e1 : (Instr.storeAt t (.pointer (some ⟨b, o, none⟩)) v).run P w = .ok () (setB w b (.cells (splice cur o v.cells.toList) T (0, 0))) := by
  simp only [Nat.add_zero] at hr
  simp [Instr.storeAt, Instr.sureAddr, storeVar, run_sizeOf hs.h, hn, hr]
 unfold OpW
 simp only [execOp, hx, hy, Sem.run_bind, e1, Result.andThen_ok, Sem.run_pure]
 refine ⟨_, hw.set_ he (setB_ok w hb _) ⟨splice cur o v.cells.toList, rfl, by rw [splice_size]; exact ht, ?_⟩, h⟩
 have hvl : v.cells.toList.length = n := by simpa using hn
 apply List.ext_getElem?
 intro j
 rw [List.getElem?_take, Array.getElem?_toList, splice_get _ _ _ _ (by rw [hvl]; omega)]
 have hL : (xs.take o ++ v.cells.toList ++ xs.drop (o + n)).length = xs.length := by simp; omega
 rw [hL]
 by_cases hj : j < xs.length
 ·rw [if_pos hj]
  have hcj : cur[j]? = xs[j]? := by rw [row_get hxs (List.getElem?_eq_getElem hj), List.getElem?_eq_getElem hj]
  by_cases h2 : o ≤ j ∧ j < o + v.cells.toList.length
  ·rw [if_pos h2, List.getElem?_append_left (by simp; omega), List.getElem?_append_right (by simp; omega)]
   congr 1; simp; omega
  ·rw [if_neg h2, hcj]
   by_cases h3 : j < o
   ·rw [List.getElem?_append_left (by simp; omega), List.getElem?_append_left (by simp; omega), List.getElem?_take, if_pos h3]
   ·rw [List.getElem?_append_right (by simp; omega), List.getElem?_drop]
    congr 1; simp; omega
 ·rw [if_neg hj, List.getElem?_eq_none (by rw [hL]; omega)]
theorem run_enter {g : FuncId} {fn : Func} (hf : P.funcs[g]? = some fn) (hb : fn.body.isNone = false) (hn : (fn.name == "runtime.NumGoroutine") = false) (vs : Array Value) (w : World) : (callFunc g vs).run P w = .ok (.enter g vs) w := by
 simp only [callFunc, Sem.run_bind, run_program, Result.andThen_ok, hf, hn, hb, Bool.false_eq_true, if_false]
 rfl
class FnT (P : Program) (g : Nat) : Prop where
 h : ∃ fn, P.funcs[g]? = some fn ∧ fn.body.isNone = false ∧ (fn.name == "runtime.NumGoroutine") = false
theorem e_call {g : FuncId} {fo : Operand} {first cap : Array Value} {args : Array Operand} {ats : Array TypeId} {vs : List Value} {Φ : Value → List Ent → Prop} [hf : FnT P g]
  (hfo : ρ fo = .func (.func g) first cap) (ha : first.toList ++ (args.toList.map ρ ++ cap.toList) = vs) (hc : Tr P g vs.toArray W l Φ) (h : ∀ v l', Φ v l' → Ψ v l') : Eff P W l ⟨d, .call { callee := .value fo, args := args, argTypes := ats }, ty, pos, af, gd⟩ ρ Ψ := by
 intro w hw
 subst ha
 have e1 : (execOp ρ ⟨d, .call { callee := .value fo, args := args, argTypes := ats }, ty, pos, af, gd⟩).run P w = .ok (.enter g (first ++ args.map ρ ++ cap)) w := by
  simp only [execOp, resolve, hfo, Deferred.ofValue, Sem.run_bind, Sem.run_pure, Result.andThen_ok, invoke]
  obtain ⟨fn, hf, hb, hn⟩ := hf.h
  exact run_enter hf hb hn _ w
 unfold OpW
 rw [e1]
 have e2 : first ++ args.map ρ ++ cap = (first.toList ++ (args.toList.map ρ ++ cap.toList)).toArray := by
  apply Array.ext'
  simp
 rw [e2]
 exact (hc w hw).mono fun e w' ⟨v, l', he, hs, hp⟩ => ⟨v, he, l', hs, h v l' hp⟩
end
theorem SH.turn {W w w' : World} {le le' r : List Ent} (h : SH W (le ++ r) w) (ho : w'.os = w.os) (ht : w'.tape = w.tape) (hu : w'.output = w.output) (hz : w.heap.size ≤ w'.heap.size)
  (hk : ∀ k, k < w.heap.size → k ∉ le.map (·.1) → w'.heap[k]? = w.heap[k]?) (hn : (le'.map (·.1)).Nodup) (hm : ∀ e ∈ le', W.heap.size ≤ e.1 ∧ (e.1 ∈ le.map (·.1) ∨ w.heap.size ≤ e.1) ∧ ∃ o, w'.heap[e.1]? = some o ∧ e.2 o) : SH W (le' ++ r) w' := by
 have hd := h.nodup
 rw [List.map_append, List.nodup_append] at hd
 obtain ⟨d1, d2, d3⟩ := hd
 have hr : ∀ e ∈ r, e.1 < w.heap.size ∧ e.1 ∉ le.map (·.1) := fun e he =>
  ⟨h.lt (List.mem_append_right _ he), fun hx => d3 _ hx _ (List.mem_map.2 ⟨e, he, rfl⟩) rfl⟩
 refine ⟨h.below.trans ⟨ho, ht, hu, hz, fun k hkk => hk k (Nat.lt_of_lt_of_le hkk h.below.size) fun hx => ?_⟩, ?_, fun e he => ?_⟩
 ·obtain ⟨e, he, rfl⟩ := List.mem_map.1 hx
  have := (h.ents e (List.mem_append_left _ he)).1
  omega
 ·rw [List.map_append, List.nodup_append]
  refine ⟨hn, d2, fun a ha b hb hab => ?_⟩
  obtain ⟨e, he, rfl⟩ := List.mem_map.1 ha
  obtain ⟨e', he', rfl⟩ := List.mem_map.1 hb
  have h1 := hr e' he'
  rcases (hm e he).2.1 with hx | hx
  ·exact h1.2 (hab ▸ hx)
  ·omega
 ·rcases List.mem_append.1 he with he | he
  ·exact ⟨(hm e he).1, (hm e he).2.2⟩
  ·obtain ⟨h1, o, h2, h3⟩ := h.ents e (List.mem_append_right _ he)
   have := hr e he
   exact ⟨h1, o, by rw [hk _ this.1 this.2]; exact h2, h3⟩
def Own (e : TypeId) (sz : Nat) (v : Value) (n : Nat) (xs : List Value) (le : List Ent) : Prop :=
 xs.length = n * sz ∧ ((v = .slice none 0 0 ∧ n = 0 ∧ le = []) ∨ ∃ g cap, v = .slice (some ⟨g, 0, none⟩) n cap ∧ n ≤ cap ∧ cap ≤ maxLen ∧ le = [(g, isR e (cap * sz) xs)])
theorem Own.nil (e : TypeId) (sz : Nat) : Own e sz (.slice none 0 0) 0 [] [] := ⟨by simp, .inl ⟨rfl, rfl, rfl⟩⟩
theorem Own.to {W w : World} {e : TypeId} {sz n : Nat} {v : Value} {xs : List Value} {le r : List Ent} (h : Own e sz v n xs le) (hs : SH W (le ++ r) w) : w.ownsRow W.heap.size e sz v n xs := by
 refine ⟨h.1, ?_⟩
 rcases h.2 with ⟨rfl, rfl, rfl⟩ | ⟨g, cap, rfl, hn, hc, rfl⟩
 ·exact .inl ⟨rfl, rfl⟩
 ·obtain ⟨hb, o, ho, cur, rfl, hz, hx⟩ := hs.ents (g, isR e (cap * sz) xs) (List.mem_append_left _ (List.mem_singleton.2 rfl))
  exact .inr ⟨g, cap, cur, rfl, hb, ho, hn, hc, hz, by rw [← h.1]; exact hx⟩
theorem Own.back {W w w' : World} {e : TypeId} {sz n n' : Nat} {v v' : Value} {xs xs' : List Value} {le r : List Ent} (h : Own e sz v n xs le) (hs : SH W (le ++ r) w)
  (ho : w'.ownsRow W.heap.size e sz v' n' xs') (hg : w.grownBy w' v.ownBlock) (hb : v'.ownBlock = v.ownBlock ∨ v'.ownBlock = some w.heap.size) : ∃ le', Own e sz v' n' xs' le' ∧ SH W (le' ++ r) w' := by
 have hids : ∀ k, some k ≠ v.ownBlock ↔ k ∉ le.map (·.1) := fun k => by
  rcases h.2 with ⟨rfl, rfl, rfl⟩ | ⟨g, cap, rfl, _, _, rfl⟩
  ·simp [Value.ownBlock]
  ·simp [Value.ownBlock]
 have hin : ∀ k, some k = v.ownBlock → k ∈ le.map (·.1) := fun k hk => Classical.byContradiction fun hx => (hids k).2 hx hk
 rcases ho.2 with ⟨rfl, rfl⟩ | ⟨g, cap, cur, rfl, h1, h2, h3, h4, h5, h6⟩
 ·exact ⟨[], ⟨ho.1, .inl ⟨rfl, rfl, rfl⟩⟩, hs.turn hg.os hg.tape hg.output hg.size (fun k hk hx => hg.block k hk ((hids k).2 hx)) (by simp) (by simp)⟩
 ·refine ⟨[(g, isR e (cap * sz) xs')], ⟨ho.1, .inr ⟨g, cap, rfl, h3, h4, rfl⟩⟩, hs.turn hg.os hg.tape hg.output hg.size (fun k hk hx => hg.block k hk ((hids k).2 hx)) (by simp) ?_⟩
  intro x hx
  obtain rfl := List.mem_singleton.1 hx
  refine ⟨h1, ?_, _, h2, cur, rfl, h5, by rw [ho.1]; exact h6⟩
  rcases hb with hb | hb
  ·exact .inl (hin g (by rw [← hb]; rfl))
  ·have : g = w.heap.size := by simpa [Value.ownBlock] using hb
   exact .inr (by omega)
def Rd (W : World) (l : List Ent) (A : Option Addr) (xs : List Value) : Prop := xs = [] ∨ ∃ a, A = some a ∧ ∀ w, SH W l w → ∀ j u, xs[j]? = some u → w.cell? (a.add j) = some u
theorem Rd.row {W : World} {l : List Ent} {T : TypeId} {g tot : Nat} {ys : List Value} (i : Nat) (he : l[i]? = some (g, isR T tot ys)) (o : Nat) {xs : List Value} (hx : ∀ j u, xs[j]? = some u → ys[o + j]? = some u) : Rd W l (some ⟨g, o, none⟩) xs :=
 .inr ⟨_, rfl, fun w hs j u hu => by
  obtain ⟨_, ob, hb, cur, rfl, _, ht⟩ := hs.at_ he
  rw [addr_add, cell_at hb]
  exact row_get ht (hx j u hu)⟩
theorem Rd.cells {W : World} {l : List Ent} {T : TypeId} {g : Nat} {cs : List Value} (i : Nat) (he : l[i]? = some (g, isC T cs)) (o : Nat) {xs : List Value} (hx : ∀ j u, xs[j]? = some u → cs[o + j]? = some u) : Rd W l (some ⟨g, o, none⟩) xs :=
 .inr ⟨_, rfl, fun w hs j u hu => by
  obtain ⟨_, ob, hb, fz, rfl, _⟩ := hs.at_ he
  rw [addr_add, cell_at hb, List.getElem?_toArray]
  exact hx j u hu⟩
theorem Rd.was {W : World} {l : List Ent} {a : Addr} {xs : List Value} (hx : ∀ j u, xs[j]? = some u → W.cell? (a.add j) = some u) : Rd W l (some a) xs :=
 .inr ⟨_, rfl, fun w hs j u hu => by
  have := hx j u hu
  exact (Below.cell hs.below (World.block_lt_of_cell? W _ this)).trans this⟩
def rowB (P : Program) (e : TypeId) : Option (Nat × Nat) := (P.info? e).bind fun i => i.zero.bind fun z => if z.cells.size = i.size ∧ 0 < i.size then some (i.size, i.bytes) else none
class RowT (P : Program) (e : Nat) (sz by_ : outParam Nat) : Prop where
 h : rowB P e = some (sz, by_)
theorem rowB_spec {P : Program} {e : TypeId} {sz by_ : Nat} (h : rowB P e = some (sz, by_)) : ∃ i z, P.info? e = some i ∧ i.zero = some z ∧ i.size = sz ∧ i.bytes = by_ ∧ z.cells.size = sz ∧ 0 < sz := by
 unfold rowB at h
 obtain ⟨i, hi, h⟩ := Option.bind_eq_some_iff.1 h
 obtain ⟨z, hz, h⟩ := Option.bind_eq_some_iff.1 h
 split at h
 ·rename_i hc
  obtain ⟨h1, h2⟩ := Prod.mk.inj (Option.some.inj h)
  exact ⟨i, z, hi, hz, h1, h2, by omega, by omega⟩
 ·cases h
section
variable {P : Program} {ρ : Operand → Value} {d : Option Tmp} {ty : TypeId} {pos : String} {af : Array Edge} {gd : Option (Nat × Bool)} {W : World} {l : List Ent} {Ψ : Value → List Ent → Prop}
theorem e_append {t e : TypeId} {sz by_ n m c : Nat} {s x : Operand} {v : Value} {A : Option Addr} {xs news : List Value} {le r : List Ent} [ht : SliceT P t e] [hi : RowT P e sz by_]
  (hx : ρ s = v) (hv : Own e sz v n xs le) (hy : ρ x = .slice A m c) (hl : news.length = m * sz) (hrd : Rd W (le ++ r) A news) (h1 : ∀ u ∈ news, u.oneCell' = true) (hb : (n + m) * by_ ≤ 140737488355328) (h63 : n + m ≤ maxLen)
  (h : ∀ v' le', Own e sz v' (n + m) (xs ++ news) le' → (v' = .slice none 0 0 → v = .slice none 0 0 ∧ m = 0) → Ψ v' (le' ++ r)) : Eff P W (le ++ r) ⟨d, .call { callee := .builtin .append, args := #[s, x], argTypes := #[t, t] }, ty, pos, af, gd⟩ ρ Ψ := by
 intro w hw
 obtain ⟨i, z, hi1, hi2, hi3, hi4, hi5, hi6⟩ := rowB_spec hi.h
 have hown := hv.to hw
 have fin : ∀ (v' : Value) (w' : World), (Builtin.append_ #[t, t] ty #[v, .slice A m c]).run P w = .ok v' w' → (∃ le', Own e sz v' (n + m) (xs ++ news) le' ∧ SH W (le' ++ r) w') → (v' = .slice none 0 0 → v = .slice none 0 0 ∧ m = 0) →
   OpW P ⟨d, .call { callee := .builtin .append, args := #[s, x], argTypes := #[t, t] }, ty, pos, af, gd⟩ ρ w fun v w' => ∃ l', SH W l' w' ∧ Ψ v l' := by
  intro v' w' hr ⟨le', ho, hs⟩ hn
  unfold OpW
  simp only [execOp, resolve, Sem.run_bind, Sem.run_pure, Result.andThen_ok, invoke, builtin, List.map_toArray, List.map_cons, List.map_nil, hx, hy, hr]
  exact ⟨_, hs, h v' le' ho hn⟩
 by_cases hm : m = 0
 ·subst hm
  have hnil : news = [] := List.eq_nil_of_length_eq_zero (by simpa using hl)
  subst hnil
  have hr : (Builtin.append_ #[t, t] ty #[v, .slice A 0 c]).run P w = .ok v w := by
   cases A with
   | none =>
    rcases hown.2 with ⟨rfl, rfl⟩ | ⟨g, cap, cur, rfl, _, _, hnc, _⟩
    ·simp [Builtin.append_, run_underlying ht.h, sizeOf, typeInfo, hi1, Builtin.lenOf, Builtin.firstCells]
    ·simp [Builtin.append_, run_underlying ht.h, sizeOf, typeInfo, hi1, Builtin.lenOf, Builtin.firstCells, hnc, storeCells]
   | some a =>
    rcases hown.2 with ⟨rfl, rfl⟩ | ⟨g, cap, cur, rfl, _, _, hnc, _⟩
    ·simp [Builtin.append_, run_underlying ht.h, sizeOf, typeInfo, hi1, Builtin.lenOf, Builtin.firstCells, loadCells, loadCellsFrom]
    ·simp [Builtin.append_, run_underlying ht.h, sizeOf, typeInfo, hi1, Builtin.lenOf, Builtin.firstCells, hnc, storeCells, loadCells, loadCellsFrom]
  exact fin v w hr ⟨le, by simpa using hv, hw⟩ fun hv => ⟨hv, rfl⟩
 ·rcases hrd with rfl | ⟨a, rfl, hc⟩
  ·have : m * sz = 0 := by simpa using hl.symm
   rcases Nat.mul_eq_zero.1 this with h0 | h0 <;> omega
  ·obtain ⟨v', w', hr, h2, h3, h4, h5⟩ := run_append_own_at (P := P) w W.heap.size t ty e i z sz by_ ht.h hi1 hi2 hi3 hi4 hi5 hi6 v n xs hown a m c news hl (hc w hw) h1 h63 hb hw.below.size
   exact fin v' w' hr (hv.back hw h2 h3 h5) fun hv' => h4.1 hv'
end
end Go.Lg
namespace Go.Lg
open Go.RowKit
theorem wrap_add {c : Int} (h1 : -9223372036854775808 ≤ c) (h2 : c ≤ 9223372036854775807) : IntKind.i64.wrap c = c := by
 simp [IntKind.wrap, IntKind.bits, IntKind.signed]; omega
theorem SH.perm {W w : World} {l l' : List Ent} (h : SH W l w) (hp : l.Perm l') : SH W l' w :=
 ⟨h.below, (hp.map _).nodup_iff.1 h.nodup, fun e he => h.ents e (hp.mem_iff.2 he)⟩
theorem SH.sub {W w : World} {l l' : List Ent} (h : SH W l w) (hp : l'.Sublist l) : SH W l' w :=
 ⟨h.below, (hp.map _).nodup h.nodup, fun e he => h.ents e (hp.subset he)⟩
theorem Eff.perm {P : Program} {W : World} {l l' : List Ent} {o : Oper} {ρ : Operand → Value} {Ψ : Value → List Ent → Prop} (hp : l.Perm l') (h : Eff P W l' o ρ Ψ) : Eff P W l o ρ Ψ := fun w hs => h w (hs.perm hp)
section
variable {P : Program} {n : Nat} {W : World} {K : Kont} {f : Fr} {l l' : List Ent} {ops : Array Oper} {rest : List Oper}
theorem JL.perm (hp : l.Perm l') (h : JL P n W ops K rest f l') : JL P n W ops K rest f l := fun w hs => h w (hs.perm hp)
theorem JC.perm {c : Code} (hp : l.Perm l') (h : JC P n W c K f l') : JC P n W c K f l := fun w hs => h w (hs.perm hp)
theorem JC.sub {c : Code} (hp : l'.Sublist l) (h : JC P n W c K f l') : JC P n W c K f l := fun w hs => h w (hs.sub hp)
theorem RN.sub (hp : l'.Sublist l) (h : RN P n W K f l') : RN P n W K f l := fun w hs => h w (hs.sub hp)
theorem JL.sub (hp : l'.Sublist l) (h : JL P n W ops K rest f l') : JL P n W ops K rest f l := fun w hs => h w (hs.sub hp)
end
theorem Tr.perm {P : Program} {g : FuncId} {args : Array Value} {W : World} {l l' : List Ent} {Φ : Value → List Ent → Prop} (hp : l.Perm l') (h : Tr P g args W l' Φ) : Tr P g args W l Φ := fun w hs => h w (hs.perm hp)
theorem JD.perm {P : Program} {n : Nat} {W : World} {K : Kont} {f : Fr} {l l' : List Ent} {ops : Array Oper} {T : Tq} {fuel : Nat} {listed : Array Bool} (hp : l.Perm l') (h : JD P n W ops K T fuel listed f l') : JD P n W ops K T fuel listed f l := fun w hs ht => h w (hs.perm hp) ht
theorem RN.perm {P : Program} {n : Nat} {W : World} {K : Kont} {f : Fr} {l l' : List Ent} (hp : l.Perm l') (h : RN P n W K f l') : RN P n W K f l := fun w hs => h w (hs.perm hp)
theorem RN.cast {P : Program} {n : Nat} {W : World} {K : Kont} {f : Fr} {l l' : List Ent} (hp : l = l') (h : RN P n W K f l') : RN P n W K f l := hp ▸ h
theorem JC.cast {P : Program} {n : Nat} {W : World} {K : Kont} {c : Code} {f : Fr} {l l' : List Ent} (hp : l = l') (h : JC P n W c K f l') : JC P n W c K f l := hp ▸ h
theorem JL.cast {P : Program} {n : Nat} {W : World} {ops : Array Oper} {rest : List Oper} {K : Kont} {f : Fr} {l l' : List Ent} (hp : l = l') (h : JL P n W ops K rest f l') : JL P n W ops K rest f l := hp ▸ h
theorem perm_mid {α : Type} (pre le r : List α) : (pre ++ (le ++ r)).Perm (le ++ (pre ++ r)) := by
 rw [← List.append_assoc, ← List.append_assoc]
 exact List.perm_append_comm.append_right r
def Src (W : World) (r : List Ent) (A : Option Addr) (xs : List Value) : Prop :=
 xs = [] ∨ (∃ a, A = some a ∧ ∀ j u, xs[j]? = some u → W.cell? (a.add j) = some u) ∨
 ∃ g o T ys p, A = some ⟨g, o, none⟩ ∧ (g, p) ∈ r ∧ (p = isC T ys ∨ ∃ tot, p = isR T tot ys) ∧ ∀ j u, xs[j]? = some u → ys[o + j]? = some u
theorem Src.nil (W : World) (r : List Ent) (A : Option Addr) : Src W r A [] := .inl rfl
theorem Src.mono {W : World} {r r' : List Ent} {A : Option Addr} {xs : List Value} (h : Src W r A xs) (hr : ∀ e ∈ r, e ∈ r') : Src W r' A xs := by
 rcases h with h | h | ⟨g, o, T, ys, p, h1, h2, h3⟩
 ·exact .inl h
 ·exact .inr (.inl h)
 ·exact .inr (.inr ⟨g, o, T, ys, p, h1, hr _ h2, h3⟩)
theorem Src.rd {W : World} {r l : List Ent} {A : Option Addr} {xs : List Value} (h : Src W r A xs) (hr : ∀ e ∈ r, e ∈ l) : Rd W l A xs := by
 rcases h with h | ⟨a, rfl, h⟩ | ⟨g, o, T, ys, p, rfl, h2, h3, h4⟩
 ·exact .inl h
 ·exact Rd.was h
 ·obtain ⟨i, hi⟩ := List.mem_iff_getElem?.1 (hr _ h2)
  rcases h3 with rfl | ⟨tot, rfl⟩
  ·exact Rd.cells i hi o h4
  ·exact Rd.row i hi o h4
theorem Src.row {W : World} {r : List Ent} {T g tot : Nat} {ys : List Value} (h : (g, isR T tot ys) ∈ r) (o : Nat) {xs : List Value} (hx : ∀ j u, xs[j]? = some u → ys[o + j]? = some u) : Src W r (some ⟨g, o, none⟩) xs :=
 .inr (.inr ⟨g, o, T, ys, _, rfl, h, .inr ⟨tot, rfl⟩, hx⟩)
theorem Src.whole {W : World} {r : List Ent} {T g tot : Nat} {ys : List Value} (h : (g, isR T tot ys) ∈ r) : Src W r (some ⟨g, 0, none⟩) ys := Src.row h 0 (by simp)
theorem Src.cells {W : World} {r : List Ent} {T g : Nat} {ys : List Value} (h : (g, isC T ys) ∈ r) (o : Nat) {xs : List Value} (hx : ∀ j u, xs[j]? = some u → ys[o + j]? = some u) : Src W r (some ⟨g, o, none⟩) xs :=
 .inr (.inr ⟨g, o, T, ys, _, rfl, h, .inl rfl, hx⟩)
theorem Src.was {W : World} {r : List Ent} {a : Addr} {xs : List Value} (h : ∀ j u, xs[j]? = some u → W.cell? (a.add j) = some u) : Src W r (some a) xs := .inr (.inl ⟨a, rfl, h⟩)
theorem Own.len {e : TypeId} {sz n : Nat} {v : Value} {xs : List Value} {le : List Ent} (h : Own e sz v n xs le) : xs.length = n * sz := h.1
theorem Own.src {W : World} {e : TypeId} {sz n : Nat} {v : Value} {xs : List Value} {le : List Ent} (h : Own e sz v n xs le) : ∃ A c, v = .slice A n c ∧ Src W le A xs ∧ n ≤ c := by
 rcases h.2 with ⟨rfl, rfl, rfl⟩ | ⟨g, cap, rfl, h1, _, rfl⟩
 ·have : xs = [] := List.eq_nil_of_length_eq_zero (by simpa using h.1)
  exact ⟨none, 0, rfl, .inl this, Nat.le_refl _⟩
 ·exact ⟨_, cap, rfl, Src.whole (List.mem_singleton.2 rfl), h1⟩
theorem isR_take {T tot : Nat} {xs ys : List Value} (h : ys = xs.take ys.length) {o : Obj} (ho : isR T tot xs o) : isR T tot ys o := by
 obtain ⟨cur, rfl, h1, h2⟩ := ho
 refine ⟨cur, rfl, h1, ?_⟩
 have hl : ys.length ≤ xs.length := by have := congrArg List.length h; simp at this; omega
 rw [h, ← h2, List.take_take, List.length_take]
 simp only [List.length_take, Array.length_toList]
 have := row_len h2
 congr 1
 omega
theorem SH.weaken1 {W w : World} {b : Nat} {p p' : Obj → Prop} {pre r : List Ent} (h : SH W (pre ++ ((b, p) :: r)) w) (hp : ∀ o, p o → p' o) : SH W (pre ++ ((b, p') :: r)) w := by
 refine ⟨h.below, ?_, fun e he => ?_⟩
 ·have := h.nodup; simpa using this
 ·rcases List.mem_append.1 he with he | he
  ·exact h.ents e (List.mem_append_left _ he)
  ·rcases List.mem_cons.1 he with rfl | he
   ·obtain ⟨h1, o, h2, h3⟩ := h.ents (b, p) (List.mem_append_right _ (List.mem_cons_self ..))
    exact ⟨h1, o, h2, hp o h3⟩
   ·exact h.ents e (List.mem_append_right _ (List.mem_cons_of_mem _ he))
section
variable {P : Program} {ρ : Operand → Value} {d : Option Tmp} {ty : TypeId} {pos : String} {af : Array Edge} {gd : Option (Nat × Bool)} {W : World} {l : List Ent} {Ψ : Value → List Ent → Prop}
theorem e_appendP {t e : TypeId} {sz by_ n m c : Nat} {s x : Operand} {v : Value} {A : Option Addr} {xs news : List Value} (pre le : List Ent) {r : List Ent} [ht : SliceT P t e] [hi : RowT P e sz by_] (hpl : l = pre ++ (le ++ r))
  (hx : ρ s = v) (hv : Own e sz v n xs le) (hy : ρ x = .slice A m c) (hl : news.length = m * sz) (hrd : Src W l A news) (h1 : ∀ u ∈ news, u.oneCell' = true) (hb : (n + m) * by_ ≤ 140737488355328) (h63 : n + m ≤ maxLen)
  (h : ∀ v' le', Own e sz v' (n + m) (xs ++ news) le' → (v' = .slice none 0 0 → v = .slice none 0 0 ∧ m = 0) → Ψ v' (pre ++ (le' ++ r))) : Eff P W l ⟨d, .call { callee := .builtin .append, args := #[s, x], argTypes := #[t, t] }, ty, pos, af, gd⟩ ρ Ψ := by
 subst hpl
 refine Eff.perm (perm_mid pre le r) ?_
 have := e_append (P := P) (ρ := ρ) (d := d) (ty := ty) (pos := pos) (af := af) (gd := gd) (W := W) (Ψ := fun v l' => ∃ le', l' = le' ++ (pre ++ r) ∧ Ψ v (pre ++ (le' ++ r))) (s := s) (x := x) (t := t) (r := pre ++ r) hx hv hy hl
  (hrd.rd fun e he => ((perm_mid pre le r).mem_iff).1 he) h1 hb h63 fun v' le' ho hn => ⟨le', rfl, h v' le' ho hn⟩
 intro w hs
 refine (this w hs).mono fun v w' ⟨l', hs', le', e1, e2⟩ => ⟨_, ?_, e2⟩
 subst e1
 exact hs'.perm (perm_mid pre le' r).symm
theorem e_appendRoom {t e : TypeId} {sz by_ g k cap m c tot : Nat} {s x : Operand} {A : Option Addr} {xs news : List Value} (i : Nat) (he : l[i]? = some (g, isR e tot xs)) [ht : SliceT P t e] [hi : RowT P e sz by_]
  (hx : ρ s = .slice (some ⟨g, 0, none⟩) k cap) (hy : ρ x = .slice A m c) (hl : news.length = m * sz) (hrd : Src W l A news) (h1 : ∀ u ∈ news, u.oneCell' = true) (hroom : k + m ≤ cap) (hfit : (k + m) * sz ≤ tot) (hk : k * sz ≤ xs.length)
  (h : Ψ (.slice (some ⟨g, 0, none⟩) (k + m) cap) (l.set i (g, isR e tot (xs.take (k * sz) ++ news ++ xs.drop ((k + m) * sz))))) : Eff P W l ⟨d, .call { callee := .builtin .append, args := #[s, x], argTypes := #[t, t] }, ty, pos, af, gd⟩ ρ Ψ := by
 intro w hw
 obtain ⟨io, z, hi1, hi2, hi3, hi4, hi5, hi6⟩ := rowB_spec hi.h
 obtain ⟨_, ob, hb, cur, rfl, htot, hxs⟩ := hw.at_ he
 have hrl := row_len hxs
 have hfit2 := hfit
 rw [Nat.add_mul] at hfit2
 have hnl : k * sz + news.length ≤ cur.size := by rw [hl]; omega
 have hst : (storeCells ⟨g, k * sz, none⟩ news).run P w = .ok () (setB w g (.cells (splice cur (k * sz) news) e (0, 0))) := by
  have := run_storeCells P news (k * sz) 0 cur w hb (.inl rfl) (by omega) h1
  simpa using this
 have hfirst : (Builtin.firstCells sz m (.slice A m c)).run P w = .ok news.toArray w := by
  rcases hrd with rfl | hrd
  ·have hm : m * sz = 0 := by simpa using hl.symm
   cases A with
   | none => simp [Builtin.firstCells]
   | some a => simp [Builtin.firstCells, hm, loadCells, loadCellsFrom]
  ·have hr2 : Rd W l A news := Src.rd (.inr hrd) fun _ h => h
   rcases hr2 with h0 | ⟨a, rfl, hc⟩
   ·subst h0
    have hm : m * sz = 0 := by simpa using hl.symm
    cases A with
    | none => simp [Builtin.firstCells]
    | some a => simp [Builtin.firstCells, hm, loadCells, loadCellsFrom]
   ·simp only [Builtin.firstCells]
    rw [← hl]
    exact run_loadCells_list (P := P) w a news (hc w hw)
 have hr : (Builtin.append_ #[t, t] ty #[.slice (some ⟨g, 0, none⟩) k cap, .slice A m c]).run P w = .ok (.slice (some ⟨g, 0, none⟩) (k + m) cap) (setB w g (.cells (splice cur (k * sz) news) e (0, 0))) := by
  simp [Builtin.append_, run_underlying ht.h, sizeOf, typeInfo, hi1, hi3, Builtin.lenOf, hroom, hfirst, addr_add, hst]
 unfold OpW
 simp only [execOp, resolve, Sem.run_bind, Sem.run_pure, Result.andThen_ok, invoke, builtin, List.map_toArray, List.map_cons, List.map_nil, hx, hy, hr]
 refine ⟨_, hw.set_ he (setB_ok w hb _) ⟨_, rfl, by rw [splice_size]; exact htot, ?_⟩, h⟩
 apply List.ext_getElem?
 intro j
 rw [List.getElem?_take, Array.getElem?_toList, splice_get _ _ _ _ hnl]
 simp only [List.length_append, List.length_take, List.length_drop]
 have hmin : min (k * sz) xs.length = k * sz := by omega
 rw [hmin, hl]
 have ekm : (k + m) * sz = k * sz + m * sz := Nat.add_mul ..
 by_cases hj : j < k * sz + m * sz + (xs.length - (k + m) * sz)
 ·rw [if_pos hj]
  by_cases h2 : k * sz ≤ j ∧ j < k * sz + m * sz
  ·rw [if_pos h2, List.getElem?_append_left (by simp only [List.length_append, List.length_take, hl]; omega), List.getElem?_append_right (by simp only [List.length_take]; omega)]
   congr 1; simp only [List.length_take]; omega
  ·rw [if_neg h2]
   have hjx : j < xs.length := by omega
   have hcj : cur[j]? = xs[j]? := by rw [row_get hxs (List.getElem?_eq_getElem hjx), List.getElem?_eq_getElem hjx]
   rw [hcj]
   by_cases h3 : j < k * sz
   ·rw [List.getElem?_append_left (by simp only [List.length_append, List.length_take, hl]; omega), List.getElem?_append_left (by simp only [List.length_take]; omega), List.getElem?_take, if_pos h3]
   ·rw [List.getElem?_append_right (by simp only [List.length_append, List.length_take, hl]; omega), List.getElem?_drop]
    congr 1; simp only [List.length_append, List.length_take, hl]; omega
 ·rw [if_neg hj, List.getElem?_eq_none (by simp only [List.length_append, List.length_take, List.length_drop, hl]; omega)]
theorem e_clear {t e : TypeId} {sz by_ g o m c tot : Nat} {z : List Value} {x : Operand} {xs : List Value} (i : Nat) (he : l[i]? = some (g, isR e tot xs)) [ht : SliceT P t e] [hi : RowT P e sz by_] [hz : Zr P e z]
  (hx : ρ x = .slice (some ⟨g, o, none⟩) m c) (hm : m = 1) (hfit : o + sz ≤ xs.length) (hz1 : ∀ u ∈ z, u.oneCell' = true)
  (h : Ψ (.tuple #[]) (l.set i (g, isR e tot (xs.take o ++ z ++ xs.drop (o + sz))))) : Eff P W l ⟨d, .call { callee := .builtin .clear, args := #[x], argTypes := #[t] }, ty, pos, af, gd⟩ ρ Ψ := by
 intro w hw
 subst hm
 obtain ⟨io, zv', hi1, hi2, hi3, hi4, hi5, hi6⟩ := rowB_spec hi.h
 obtain ⟨zv, hzv, hrz⟩ := run_zero hz.h
 obtain ⟨_, ob, hb, cur, rfl, htot, hxs⟩ := hw.at_ he
 have hrl := row_len hxs
 have hzs : z.length = sz := by
  have h1 := hz.h
  unfold zeroB at h1
  rw [hi1] at h1
  simp only [Option.bind_some, hi2, Option.map_some] at h1
  have := congrArg Array.size (Option.some.inj h1)
  rw [hi5] at this
  simpa using this.symm
 have hzc : Builtin.zeroCells zv.cells 1 = z.toArray := by
  rw [hzv]
  unfold Builtin.zeroCells
  apply Array.ext
  ·simp
  ·intro j h1 h2
   simp only [Array.getElem_map, Array.getElem_range]
   have hj : j < z.length := by simpa using h2
   have : j % z.toArray.size = j := Nat.mod_eq_of_lt (by simpa using hj)
   rw [this]
   simp [hj]
 have hst := run_storeCells P z o 0 cur w hb (.inl rfl) (by omega) hz1
 simp only [Nat.add_zero] at hst
 have hr : (Builtin.clear_ #[t] ty #[.slice (some ⟨g, o, none⟩) 1 c]).run P w = .ok (.tuple #[]) (setB w g (.cells (splice cur o z) e (0, 0))) := by
  simp [Builtin.clear_, run_underlying ht.h, hrz w, hzc, hst]
 unfold OpW
 simp only [execOp, resolve, Sem.run_bind, Sem.run_pure, Result.andThen_ok, invoke, builtin, List.map_toArray, List.map_cons, List.map_nil, hx, hr]
 refine ⟨_, hw.set_ he (setB_ok w hb _) ⟨_, rfl, by rw [splice_size]; exact htot, ?_⟩, h⟩
 apply List.ext_getElem?
 intro j
 rw [List.getElem?_take, Array.getElem?_toList, splice_get _ _ _ _ (by omega)]
 have hL : (xs.take o ++ z ++ xs.drop (o + sz)).length = xs.length := by simp; omega
 rw [hL]
 by_cases hj : j < xs.length
 ·rw [if_pos hj]
  have hcj : cur[j]? = xs[j]? := by rw [row_get hxs (List.getElem?_eq_getElem hj), List.getElem?_eq_getElem hj]
  by_cases h2 : o ≤ j ∧ j < o + z.length
  ·rw [if_pos h2, List.getElem?_append_left (by simp; omega), List.getElem?_append_right (by simp; omega)]
   congr 1; simp; omega
  ·rw [if_neg h2, hcj]
   by_cases h3 : j < o
   ·rw [List.getElem?_append_left (by simp; omega), List.getElem?_append_left (by simp; omega), List.getElem?_take, if_pos h3]
   ·rw [List.getElem?_append_right (by simp; omega), List.getElem?_drop]
    congr 1; simp; omega
 ·rw [if_neg hj, List.getElem?_eq_none (by rw [hL]; omega)]
theorem y_sliceTo {t e : TypeId} {x hi : Operand} {b o len cap sz h : Nat} {k : IntKind} [ht : SliceT P t e] [hs : Sz P e sz] (hx : ρ x = .slice (some ⟨b, o, none⟩) len cap) (hhi : ρ hi = .int k (h : Int)) (hhc : h ≤ cap) :
  Yld P ⟨d, .slice t x none (some hi) none, ty, pos, af, gd⟩ ρ (.slice (some ⟨b, o, none⟩) h cap) := by
 have := y_slice (P := P) (ρ := ρ) (d := d) (ty := ty) (pos := pos) (af := af) (gd := gd) (t := t) (lo := none) (hi := some hi) (h := h) hx rfl ⟨k, hhi⟩ (Nat.zero_le _) hhc
 simpa using this
theorem y_sliceIn {t e : TypeId} {x lo hi : Operand} {b o len cap sz l h : Nat} {k k' : IntKind} [ht : SliceT P t e] [hs : Sz P e sz] (hx : ρ x = .slice (some ⟨b, o, none⟩) len cap) (hlo : ρ lo = .int k' (l : Int)) (hhi : ρ hi = .int k (h : Int)) (hlh : l ≤ h) (hhc : h ≤ cap) (hl : l < cap) :
  Yld P ⟨d, .slice t x (some lo) (some hi) none, ty, pos, af, gd⟩ ρ (.slice (some ⟨b, o + l * sz, none⟩) (h - l) (cap - l)) := by
 have := y_slice (P := P) (ρ := ρ) (d := d) (ty := ty) (pos := pos) (af := af) (gd := gd) (t := t) (lo := some lo) (hi := some hi) (h := h) (l := l) hx ⟨k', hlo⟩ ⟨k, hhi⟩ hlh hhc
 rwa [if_neg (by omega)] at this
theorem y_sliceFrom {t e : TypeId} {x lo : Operand} {b o len cap sz l : Nat} {k' : IntKind} [ht : SliceT P t e] [hs : Sz P e sz] (hx : ρ x = .slice (some ⟨b, o, none⟩) len cap) (hlo : ρ lo = .int k' (l : Int)) (hlh : l ≤ len) (hc : len ≤ cap) :
  Yld P ⟨d, .slice t x (some lo) none none, ty, pos, af, gd⟩ ρ (.slice (if cap = l then some ⟨b, o, none⟩ else some ⟨b, o + l * sz, none⟩) (len - l) (cap - l)) :=
 y_slice (P := P) (ρ := ρ) (d := d) (ty := ty) (pos := pos) (af := af) (gd := gd) (t := t) (lo := some lo) (hi := none) (h := len) (l := l) hx ⟨k', hlo⟩ rfl hlh hc
theorem y_slice3 {t e : TypeId} {x lo hi mx : Operand} {b o len cap sz lw h m : Nat} {k1 k2 k3 : IntKind} [ht : SliceT P t e] [hs : Sz P e sz] (hx : ρ x = .slice (some ⟨b, o, none⟩) len cap)
  (hlo : ρ lo = .int k1 (lw : Int)) (hhi : ρ hi = .int k2 (h : Int)) (hmx : ρ mx = .int k3 (m : Int)) (hlh : lw ≤ h) (hhm : h ≤ m) (hmc : m ≤ cap) :
  Yld P ⟨d, .slice t x (some lo) (some hi) (some mx), ty, pos, af, gd⟩ ρ (.slice (if m = lw then some ⟨b, o, none⟩ else some ⟨b, o + lw * sz, none⟩) (h - lw) (m - lw)) := fun w => by
 have e1 : (Instr.sliceBounds true len cap (some (ρ lo)) (some (ρ hi)) (some (ρ mx))).run P w = .ok (lw, h, m) w := by
  simp [Instr.sliceBounds, Instr.sliceBound, hlo, hhi, hmx, asIntOf, hlh, hhm, hmc]
 have e2 : (Instr.sliceAt t (.slice (some ⟨b, o, none⟩) len cap) (some (ρ lo)) (some (ρ hi)) (some (ρ mx))).run P w = .ok (.slice (if m = lw then some ⟨b, o, none⟩ else some ⟨b, o + lw * sz, none⟩) (h - lw) (m - lw)) w := by
  simp only [Instr.sliceAt, Sem.run_bind, run_underlying ht.h, Result.andThen_ok, Instr.slice, e1, run_sizeOf hs.h]
  simp [addr_add]
 simp [execOp, hx, e2]
end
section
variable {P : Program} {fn : Func} {W : World} {Φ : Value → List Ent → Prop} {n : Nat} {f : Fr} {l : List Ent}
theorem fin_ret_sub {v : Value} (hr : ∀ w, SH W l w → (results fn (act n f).tmps).run P w = .ok v w) {l' : List Ent} (hsub : l'.Sublist l) (h : Φ v l') :
  ∀ w, SH W l w → bodyPost P fn (fun e w' => ∃ v l', e = .returned v ∧ SH W l' w' ∧ Φ v l') .ret (act n f) w := fun w hs => ⟨rfl, v, hr w hs, v, l', rfl, hs.sub hsub, h⟩
theorem res_cell {P : Program} {fn : Func} {t : Tmp} {T : Nat} {w : World} {tmps : Array Value} {a : Addr} {x : Value} (hr : fn.results = #[.cell t T]) (hp : tmps.getD t undef = .pointer (some a)) (h1 : (loadVar T a).run P w = .ok x w) :
  (results fn tmps).run P w = .ok x w := by
 rw [Array.getD_eq_getD_getElem?] at hp
 simp [results, hr, hp, asAddr, h1]
theorem res_cell2 {P : Program} {fn : Func} {t u : Tmp} {T : Nat} {w : World} {tmps : Array Value} {a : Addr} {x v : Value} (hr : fn.results = #[.cell t T, .tmp u]) (hp : tmps.getD t undef = .pointer (some a)) (hv : tmps.getD u undef = v) (h1 : (loadVar T a).run P w = .ok x w) :
  (results fn tmps).run P w = .ok (.tuple #[x, v]) w := by
 rw [Array.getD_eq_getD_getElem?] at hp hv
 simp [results, hr, hp, hv, asAddr, h1]
theorem ret_cell {t : Tmp} {T T' b sz : Nat} {cs : List Value} (hr : fn.results = #[.cell t T]) {K : Kont} (hK : K.bottom = (Fin P fn W Φ).bottom) [ha : Agg P T true] [hs : Sz P T sz] (i : Nat) (he : l[i]? = some (b, isC T' cs))
  (hp : ev n f (.tmp t) = .pointer (some ⟨b, 0, none⟩)) (hl : cs.length = sz) {l' : List Ent} (hsub : l'.Sublist l) (h : Φ (.agg cs.toArray) l') : RT n W K f l := by
 intro w hw
 rw [hK]
 refine fin_ret_sub (fun w hw => ?_) hsub h w hw
 obtain ⟨_, ob, hb, fz, rfl, _⟩ := hw.at_ he
 have h1 := run_loadVar_agg P hb ha.h hs.h (o := 0) (by simp only [List.size_toArray]; omega)
 have e1 : cs.toArray.extract 0 (0 + sz) = cs.toArray := by
  rw [← hl]; simp
 rw [e1] at h1
 have hp' := hp
 rw [← act_getD] at hp'
 exact res_cell hr hp' h1
theorem ret_cell2 {t u : Tmp} {T T' b sz : Nat} {cs : List Value} {v : Value} (hr : fn.results = #[.cell t T, .tmp u]) {K : Kont} (hK : K.bottom = (Fin P fn W Φ).bottom) [ha : Agg P T true] [hs : Sz P T sz] (i : Nat) (he : l[i]? = some (b, isC T' cs))
  (hp : ev n f (.tmp t) = .pointer (some ⟨b, 0, none⟩)) (hl : cs.length = sz) (hv : ev n f (.tmp u) = v) {l' : List Ent} (hsub : l'.Sublist l) (h : Φ (.tuple #[.agg cs.toArray, v]) l') : RT n W K f l := by
 intro w hw
 rw [hK]
 refine fin_ret_sub (fun w hw => ?_) hsub h w hw
 obtain ⟨_, ob, hb, fz, rfl, _⟩ := hw.at_ he
 have h1 := run_loadVar_agg P hb ha.h hs.h (o := 0) (by simp only [List.size_toArray]; omega)
 have e1 : cs.toArray.extract 0 (0 + sz) = cs.toArray := by
  rw [← hl]; simp
 rw [e1] at h1
 have hp' := hp
 rw [← act_getD] at hp'
 have hv' := hv
 rw [← act_getD] at hv'
 exact res_cell2 hr hp' hv' h1
end
def FrOk (f : Fr) : List (Nat × Value) → Prop
 | [] => True
 | x :: hs => f x.1 = x.2 ∧ FrOk f hs
def puts (f : Fr) : List (Nat × Value) → Fr
 | [] => f
 | x :: hs => put (puts f hs) (some x.1) x.2
theorem put_self (f : Fr) (i : Nat) : put f (some i) (f i) = f := by
 funext j
 show (bif Nat.beq j i then f i else f j) = f j
 cases h : Nat.beq j i with
 | true => rw [Nat.eq_of_beq_eq_true h]; rfl
 | false => rfl
theorem puts_self (f : Fr) : ∀ hs : List (Nat × Value), FrOk f hs → puts f hs = f
 | [], _ => rfl
 | x :: hs, h => by
  rw [puts, puts_self f hs h.2, ← h.1, put_self]
theorem JC.frame {P : Program} {n : Nat} {W : World} {K : Kont} {c : Code} {f : Fr} {l : List Ent} (hs : List (Nat × Value)) (h : FrOk f hs) (hJ : ∀ f', JC P n W c K (puts f' hs) l) : JC P n W c K f l := by
 rw [← puts_self f hs h]
 exact hJ f
section
variable {P : Program} {n : Nat} {W : World} {K : Kont} {f : Fr} {l pre r : List Ent} {ops : Array Oper} {T : Tq} {fuel : Nat} {listed : Array Bool} {b : Nat} {p p' : Obj → Prop}
theorem JC.weak {c : Code} (pre : List Ent) (hl : l = pre ++ ((b, p) :: r)) (hp : ∀ o, p o → p' o) (h : JC P n W c K f (pre ++ ((b, p') :: r))) : JC P n W c K f l := fun w hs => h w ((hl ▸ hs).weaken1 hp)
theorem JL.weak {rest : List Oper} (pre : List Ent) (hl : l = pre ++ ((b, p) :: r)) (hp : ∀ o, p o → p' o) (h : JL P n W ops K rest f (pre ++ ((b, p') :: r))) : JL P n W ops K rest f l := fun w hs => h w ((hl ▸ hs).weaken1 hp)
end
def bv (b : UInt8) : Value := .int .u8 b.toNat
theorem bv_one (bs : List UInt8) : ∀ u ∈ bs.map bv, u.oneCell' = true := fun u hu => by
 obtain ⟨b, _, rfl⟩ := List.mem_map.1 hu
 rfl
end Go.Lg
namespace Go.Lg
open Go.RowKit
variable {P : Program} {ρ : Operand → Value} {d : Option Tmp} {ty : TypeId} {pos : String} {af : Array Edge} {gd : Option (Nat × Bool)} {W : World} {l : List Ent} {Ψ : Value → List Ent → Prop}
theorem e_make {t e : TypeId} {x y : Operand} {n by_ : Nat} {z : Value} {k k' : IntKind} [ht : SliceT P t e] [hi : RowT P e 1 by_] [hz : Zr P e [z]] (hx : ρ x = .int k (n : Int)) (hy : ρ y = .int k' (n : Int)) (hb : by_ * n ≤ 281474976710656) (h63 : n ≤ maxLen)
  (h : ∀ b, Ψ (.slice (some ⟨b, 0, none⟩) n n) ((b, isR e (n * 1) (List.replicate n z)) :: l)) : Eff P W l ⟨d, .makeSlice t x y, ty, pos, af, gd⟩ ρ Ψ := by
 obtain ⟨i, zv, hi1, hi2, hi3, hi4, hi5, hi6⟩ := rowB_spec hi.h
 have hzc : zv.cells = #[z] := by
  have := hz.h
  simp [zeroB, hi1, hi2] at this
  exact this
 have hcells : madeCells zv.cells (n * i.size) = (List.replicate n z).toArray := by
  rw [hi3, hzc]
  apply Array.ext
  ·simp [madeCells]
  ·intro j h1 h2
   simp [madeCells, Nat.mod_one]
 refine e_new (ob := .cells (List.replicate n z).toArray e) (v := fun b => .slice (some ⟨b, 0, none⟩) n n) (fun w => ?_) ?_ h
 ·have h63' : (n : Int) ≤ 9223372036854775807 := by
   have h := h63
   simp [maxLen] at h
   omega
  have hb' : (i.bytes : Int) * (n : Int) ≤ 281474976710656 := by
   have h : ((i.bytes * n : Nat) : Int) ≤ 281474976710656 := by rw [hi4]; omega
   rwa [Int.natCast_mul] at h
  have hr := run_make (P := P) w t e i zv ht.h hi1 hi2 k k' n n (by omega) (Int.le_refl _) hb' h63'
  simp only [Int.toNat_natCast, hcells] at hr
  simp only [execOp, hx, hy, Sem.run_bind, hr, Result.andThen_ok, Sem.run_pure]
 ·have := isR_mk e (List.replicate n z).toArray
  simpa using this
def ba (bs : List UInt8) : ByteArray := ⟨bs.toArray⟩
theorem foldl_push_ba : ∀ (bs : List UInt8) (s : ByteArray), (bs.map fun b => (b.toNat : Int)).foldl (fun r n => r.push (UInt8.ofNat n.toNat)) s = ⟨s.data ++ bs.toArray⟩
 | [], s => by simp
 | b :: bs, s => by
  simp only [List.map_cons, List.foldl_cons]
  rw [foldl_push_ba bs]
  congr 1
  simp [ByteArray.push]
theorem loop_toList (a : ByteArray) : ∀ (k i : Nat) (r : List UInt8), a.size - i = k → ByteArray.toList.loop a i r = r.reverse ++ a.data.toList.drop i := by
 intro k
 induction k with
 | zero =>
  intro i r h
  unfold ByteArray.toList.loop
  have hs : a.data.toList.length = a.size := rfl
  rw [if_neg (by omega), List.drop_of_length_le (by omega), List.append_nil]
 | succ k ih =>
  intro i r h
  unfold ByteArray.toList.loop
  rw [if_pos (by omega), ih (i + 1) _ (by omega)]
  have hs : a.data.toList.length = a.size := rfl
  rw [List.reverse_cons, List.append_assoc, List.drop_eq_getElem_cons (i := i) (by omega)]
  congr 2
  have hi : i < a.data.size := by
   have : a.data.size = a.size := rfl
   omega
  simp [ByteArray.get!, getElem!_def, Array.getElem?_eq_getElem hi]
theorem ba_toList (bs : List UInt8) : (ba bs).toList = bs := by
 unfold ByteArray.toList
 rw [loop_toList (ba bs) _ 0 [] rfl]
 simp [ba]
theorem run_str {t s e : TypeId} [ht : SliceT P t e] [hu : IntT P e .u8] [hs : StrT P s] {w : World} {a : Addr} {n c : Nat} {bs : List UInt8} (hl : bs.length = n) (hc : ∀ j u, (bs.map bv)[j]? = some u → w.cell? (a.add j) = some u) :
  (convert t s (.slice (some a) n c)).run P w = .ok (.string (ba bs)) w := by
 have h1 := run_loadCells_list (P := P) w a (bs.map bv) hc
 have h2 : bs.map bv = (bs.map fun b => (b.toNat : Int)).map (Value.int .u8) := by simp [bv]
 rw [List.length_map, hl, h2] at h1
 rw [run_convert_bytes_string w t s e _ n c ht.h hu.h hs.h, run_bytesToString w a n c _ h1, foldl_push_ba]
 simp [ba, ByteArray.empty, ByteArray.emptyWithCapacity]
 rfl
theorem e_str {t s e : TypeId} {x : Operand} {A : Option Addr} {n c : Nat} {bs : List UInt8} [ht : SliceT P t e] [hu : IntT P e .u8] [hs : StrT P s] (h : ρ x = .slice A n c) (hl : bs.length = n) (hr : Src W l A (bs.map bv)) (hA : A = none → bs = [])
  (hΨ : Ψ (.string (ba bs)) l) : Eff P W l ⟨d, .convert t s x, ty, pos, af, gd⟩ ρ Ψ := by
 intro w hw
 have hcv : (convert t s (.slice A n c)).run P w = .ok (.string (ba bs)) w := by
  cases A with
  | none =>
   rw [hA rfl, run_convert_bytes_string w t s e _ n c ht.h hu.h hs.h]
   simp [Conv.bytesToString, ba, ByteArray.empty, ByteArray.emptyWithCapacity]
   rfl
  | some a =>
   rcases hr.rd (l := l) (fun _ h => h) with h0 | ⟨a', ha, hc⟩
   ·have : bs = [] := List.map_eq_nil_iff.1 h0
    subst this
    exact run_str hl (by simp)
   ·cases ha
    exact run_str hl (hc w hw)
 unfold OpW
 simp only [execOp, h, Sem.run_bind, hcv, Result.andThen_ok, Sem.run_pure]
 exact ⟨_, hw, hΨ⟩
end Go.Lg
namespace Go.Lg
open Go.RowKit
theorem tok_ {listed : Array Bool} {T : Tq} {l : List Ent} (h : TOk T listed l := by repeat (first | exact TOk.nil | refine TOk.was ?_ | refine TOk.past (by decide +kernel) ?_ | refine TOk.mem (by simp) ?_)) : TOk T listed l := h
theorem lE_ {a b : Nat} (h : Nat.ble a b = true := by rfl) : a ≤ b := Nat.le_of_ble_eq_true h
theorem prm_ {α : Type} {a b : List α} (h : a.Perm b := by classical exact List.perm_iff_count.2 fun q => by simp only [List.count_append, List.count_cons, List.count_nil, List.cons_append, List.append_assoc, List.nil_append, List.append_eq, List.append_nil] <;> omega) : a.Perm b := h

section
variable {P : Program} {n : Nat} {W : World} {K : Kont} {f : Fr} {l : List Ent} {ops : Array Oper} {T : Tq} {fuel : Nat} {listed : Array Bool} {d : Option Tmp} {op : Op} {ty : TypeId} {pos : String} {af : Array Edge} {gd : Option (Nat × Bool)}
theorem JDp (i : Nat) {v : Value} (hi : ops[i]? = some ⟨d, op, ty, pos, af, gd⟩) (hy : Yld P ⟨d, op, ty, pos, af, gd⟩ (ev n f) v) (h : JD P n W ops K T fuel (listed.setIfInBounds i true) (put f d v) l) (hc : chk ops T listed i = true := by kernel_rfl) (hw : wantF ops n f gd = true := by rfl) : JD P n W ops K T (fuel + 1) listed f l := .pure i hi hc hw hy h
theorem JDo (i : Nat) (hi : ops[i]? = some ⟨d, op, ty, pos, af, gd⟩) (h : JD P n W ops K T fuel (listed.setIfInBounds i true) (put f d undef) l) (hc : chk ops T listed i = true := by kernel_rfl) (hw : wantF ops n f gd = false := by rfl) : JD P n W ops K T (fuel + 1) listed f l := .omit i hi hc hw h
theorem JDr (i : Nat) (idx : Nat) {v : Value} {b : Nat} {p : Obj → Prop} (he : l[idx]? = some (b, p)) (hi : ops[i]? = some ⟨d, op, ty, pos, af, gd⟩) (hy : YldIf P (At b p) ⟨d, op, ty, pos, af, gd⟩ (ev n f) v) (h : JD P n W ops K ((effs ops (desc ops i), some (b, p)) :: T) fuel (listed.setIfInBounds i true) (put f d v) l) (hc : chk ops T listed i = true := by kernel_rfl) (hcr : chkR ops listed i (desc ops i) = true := by kernel_rfl) (hw : wantF ops n f gd = true := by rfl) : JD P n W ops K T (fuel + 1) listed f l := .read i idx he hi hc hcr hw hy h
theorem JDd (h : RN P n W K f l) (hr : Region.ready .any ops listed = [] := by kernel_rfl) : JD P n W ops K T fuel listed f l := .done hr h
theorem JLs {rest : List Oper} (h : Eff P W l ⟨d, op, ty, pos, af, gd⟩ (ev n f) fun v l' => JL P n W ops K rest (put f d v) l') (hw : wantF ops n f gd = true := by rfl) : JL P n W ops K (⟨d, op, ty, pos, af, gd⟩ :: rest) f l := .step hw h
theorem JLp {rest : List Oper} {v : Value} (hy : Yld P ⟨d, op, ty, pos, af, gd⟩ (ev n f) v) (h : JL P n W ops K rest (put f d v) l) (hw : wantF ops n f gd = true := by rfl) : JL P n W ops K (⟨d, op, ty, pos, af, gd⟩ :: rest) f l := .pure hw hy h
theorem JDe (j : Nat) (hj : ops[j]? = some ⟨d, op, ty, pos, af, gd⟩) (h : Eff P W l ⟨d, op, ty, pos, af, gd⟩ (ev n f) fun v l' => TOk T (listed.setIfInBounds j true) l' ∧ JD P n W ops K T fuel (listed.setIfInBounds j true) (put f d v) l') (hr : Region.ready .any ops listed = [j] := by kernel_rfl) (hw : wantF ops n f gd = true := by rfl) : JD P n W ops K T (fuel + 1) listed f l := .eff j hr hj hw h
end
section
variable {P : Program} {ρ : Operand → Value} {d : Option Tmp} {ty : TypeId} {pos : String} {af : Array Edge} {gd : Option (Nat × Bool)}
theorem y_mv {x : Operand} {v : Value} (h : ρ x = v := by conv => lhs; whnf) : Yld P ⟨d, .move x, ty, pos, af, gd⟩ ρ v := y_move h
theorem y_as {x : Operand} {v : Value} (h : ρ x = v := by conv => lhs; whnf) : Yld P ⟨d, .assign x, ty, pos, af, gd⟩ ρ v := y_assign h
end
end Go.Lg
namespace Go.Lg
open Go.RowKit
structure Hold (Q : Prop) : Type where
 out : Q
theorem AU0 {Q G : Prop} (hQ : Q) (h : Hold Q → G := by intro hQ; (repeat (first | refine JC.seq ?_ | refine JL.nil ?_ | refine RN.seq ?_ | refine RN.blk ?_ | refine JC.region ?_ | refine JC.skip ?_ | refine JC.block ?_ | refine JC.exit ?_ | refine JC.cond_t rfl ?_ | refine JC.cond_f rfl ?_ | refine JL.omit rfl ?_ | refine JLp y_mv ?_ | refine JLp y_as ?_ | refine JLp (y_extract rfl rfl) ?_ | refine JLp (y_fieldAddr rfl) ?_ | refine JLp (y_nilCheck rfl) ?_ | refine JLp (y_not rfl) ?_ | refine JLp (y_pick_t rfl (by conv => lhs; whnf)) ?_ | refine JLp (y_pick_f rfl (by conv => lhs; whnf)) ?_ | refine JLp (y_eqlNil rfl rfl rfl) ?_ | refine JLp (y_neqNil rfl rfl rfl) ?_ | refine JLp (y_eqlSNil rfl rfl rfl) ?_ | refine JLp (y_len rfl) ?_ | refine JLp (y_lenS rfl) ?_ | refine JLp (y_makeFunc rfl) ?_ | refine JLp (y_lss rfl rfl (decide_eq_true (by omega))) ?_ | refine JLp (y_lss rfl rfl (decide_eq_false (by omega))) ?_ | refine JLp (y_leq rfl rfl (decide_eq_true (by omega))) ?_ | refine JLp (y_leq rfl rfl (decide_eq_false (by omega))) ?_ | refine JLp (y_gtr rfl rfl (decide_eq_true (by omega))) ?_ | refine JLp (y_gtr rfl rfl (decide_eq_false (by omega))) ?_ | refine JLp (y_geq rfl rfl (decide_eq_true (by omega))) ?_ | refine JLp (y_geq rfl rfl (decide_eq_false (by omega))) ?_ | refine JLp (y_eql rfl rfl (decide_eq_true (by omega))) ?_ | refine JLp (y_eql rfl rfl (decide_eq_false (by omega))) ?_ | refine JLp (y_neq rfl rfl (r := false) (decide_eq_true (by omega))) ?_ | refine JLp (y_neq rfl rfl (r := true) (decide_eq_false (by omega))) ?_ | refine JLp (y_add rfl rfl (wrap_add (by omega) (by omega))) ?_ | refine JLp (y_sub rfl rfl (wrap_add (by omega) (by omega))) ?_ | refine JLp (y_index rfl rfl (by omega)) ?_ | refine JLp (y_index (j := 0) rfl rfl (by omega)) ?_ | refine JL.was rfl (w_load1 rfl (by assumption)) ?_)); exact hQ.out) : G := h ⟨hQ⟩
theorem AS0 {Q G : Prop} (hQ : Q) (h : Hold Q → G := by intro hQ; (first | refine JC.seq ?_ | refine JL.nil ?_ | refine RN.seq ?_ | refine RN.blk ?_ | refine JC.region ?_ | refine JC.skip ?_ | refine JC.block ?_ | refine JC.exit ?_ | refine JC.cond_t rfl ?_ | refine JC.cond_f rfl ?_ | refine JL.omit rfl ?_ | refine JLp y_mv ?_ | refine JLp y_as ?_ | refine JLp (y_extract rfl rfl) ?_ | refine JLp (y_fieldAddr rfl) ?_ | refine JLp (y_nilCheck rfl) ?_ | refine JLp (y_not rfl) ?_ | refine JLp (y_pick_t rfl (by conv => lhs; whnf)) ?_ | refine JLp (y_pick_f rfl (by conv => lhs; whnf)) ?_ | refine JLp (y_eqlNil rfl rfl rfl) ?_ | refine JLp (y_neqNil rfl rfl rfl) ?_ | refine JLp (y_eqlSNil rfl rfl rfl) ?_ | refine JLp (y_len rfl) ?_ | refine JLp (y_lenS rfl) ?_ | refine JLp (y_makeFunc rfl) ?_ | refine JLp (y_lss rfl rfl (decide_eq_true (by omega))) ?_ | refine JLp (y_lss rfl rfl (decide_eq_false (by omega))) ?_ | refine JLp (y_leq rfl rfl (decide_eq_true (by omega))) ?_ | refine JLp (y_leq rfl rfl (decide_eq_false (by omega))) ?_ | refine JLp (y_gtr rfl rfl (decide_eq_true (by omega))) ?_ | refine JLp (y_gtr rfl rfl (decide_eq_false (by omega))) ?_ | refine JLp (y_geq rfl rfl (decide_eq_true (by omega))) ?_ | refine JLp (y_geq rfl rfl (decide_eq_false (by omega))) ?_ | refine JLp (y_eql rfl rfl (decide_eq_true (by omega))) ?_ | refine JLp (y_eql rfl rfl (decide_eq_false (by omega))) ?_ | refine JLp (y_neq rfl rfl (r := false) (decide_eq_true (by omega))) ?_ | refine JLp (y_neq rfl rfl (r := true) (decide_eq_false (by omega))) ?_ | refine JLp (y_add rfl rfl (wrap_add (by omega) (by omega))) ?_ | refine JLp (y_sub rfl rfl (wrap_add (by omega) (by omega))) ?_ | refine JLp (y_index rfl rfl (by omega)) ?_ | refine JLp (y_index (j := 0) rfl rfl (by omega)) ?_ | refine JL.was rfl (w_load1 rfl (by assumption)) ?_); exact hQ.out) : G := h ⟨hQ⟩
theorem AU1 {Q G : Prop} (hQ : Q) (h : Hold Q → G := by intro hQ; (repeat (first | refine JC.seq ?_ | refine JL.nil ?_ | refine RN.seq ?_ | refine RN.blk ?_ | refine JC.region ?_ | refine JC.skip ?_ | refine JC.block ?_ | refine JC.exit ?_ | refine JC.cond_t rfl ?_ | refine JC.cond_f rfl ?_ | refine JL.omit rfl ?_ | refine JLp y_mv ?_ | refine JLp y_as ?_ | refine JLp (y_extract rfl rfl) ?_ | refine JLp (y_fieldAddr rfl) ?_ | refine JLp (y_nilCheck rfl) ?_ | refine JLp (y_not rfl) ?_ | refine JLp (y_pick_t rfl (by conv => lhs; whnf)) ?_ | refine JLp (y_pick_f rfl (by conv => lhs; whnf)) ?_ | refine JLp (y_eqlNil rfl rfl rfl) ?_ | refine JLp (y_neqNil rfl rfl rfl) ?_ | refine JLp (y_eqlSNil rfl rfl rfl) ?_ | refine JLp (y_len rfl) ?_ | refine JLp (y_lenS rfl) ?_ | refine JLp (y_makeFunc rfl) ?_ | refine JLp (y_lss rfl rfl (decide_eq_true (by omega))) ?_ | refine JLp (y_lss rfl rfl (decide_eq_false (by omega))) ?_ | refine JLp (y_leq rfl rfl (decide_eq_true (by omega))) ?_ | refine JLp (y_leq rfl rfl (decide_eq_false (by omega))) ?_ | refine JLp (y_gtr rfl rfl (decide_eq_true (by omega))) ?_ | refine JLp (y_gtr rfl rfl (decide_eq_false (by omega))) ?_ | refine JLp (y_geq rfl rfl (decide_eq_true (by omega))) ?_ | refine JLp (y_geq rfl rfl (decide_eq_false (by omega))) ?_ | refine JLp (y_eql rfl rfl (decide_eq_true (by omega))) ?_ | refine JLp (y_eql rfl rfl (decide_eq_false (by omega))) ?_ | refine JLp (y_neq rfl rfl (r := false) (decide_eq_true (by omega))) ?_ | refine JLp (y_neq rfl rfl (r := true) (decide_eq_false (by omega))) ?_ | refine JLp (y_add rfl rfl (wrap_add (by omega) (by omega))) ?_ | refine JLp (y_sub rfl rfl (wrap_add (by omega) (by omega))) ?_ | refine JLp (y_index rfl rfl (by omega)) ?_ | refine JLp (y_index (j := 0) rfl rfl (by omega)) ?_ | refine JL.read 0 rfl rfl (r_load1 rfl rfl) ?_ | refine JL.read 0 rfl rfl (r_loadA rfl lE_ rfl) ?_ | refine JL.read 0 rfl rfl (r_loadW rfl (by first | rfl | assumption)) ?_ | refine JL.read 0 rfl rfl (r_loadR1 rfl (by first | rfl | assumption)) ?_ | refine JL.was rfl (w_load1 rfl (by assumption)) ?_)); exact hQ.out) : G := h ⟨hQ⟩
theorem AS1 {Q G : Prop} (hQ : Q) (h : Hold Q → G := by intro hQ; (first | refine JC.seq ?_ | refine JL.nil ?_ | refine RN.seq ?_ | refine RN.blk ?_ | refine JC.region ?_ | refine JC.skip ?_ | refine JC.block ?_ | refine JC.exit ?_ | refine JC.cond_t rfl ?_ | refine JC.cond_f rfl ?_ | refine JL.omit rfl ?_ | refine JLp y_mv ?_ | refine JLp y_as ?_ | refine JLp (y_extract rfl rfl) ?_ | refine JLp (y_fieldAddr rfl) ?_ | refine JLp (y_nilCheck rfl) ?_ | refine JLp (y_not rfl) ?_ | refine JLp (y_pick_t rfl (by conv => lhs; whnf)) ?_ | refine JLp (y_pick_f rfl (by conv => lhs; whnf)) ?_ | refine JLp (y_eqlNil rfl rfl rfl) ?_ | refine JLp (y_neqNil rfl rfl rfl) ?_ | refine JLp (y_eqlSNil rfl rfl rfl) ?_ | refine JLp (y_len rfl) ?_ | refine JLp (y_lenS rfl) ?_ | refine JLp (y_makeFunc rfl) ?_ | refine JLp (y_lss rfl rfl (decide_eq_true (by omega))) ?_ | refine JLp (y_lss rfl rfl (decide_eq_false (by omega))) ?_ | refine JLp (y_leq rfl rfl (decide_eq_true (by omega))) ?_ | refine JLp (y_leq rfl rfl (decide_eq_false (by omega))) ?_ | refine JLp (y_gtr rfl rfl (decide_eq_true (by omega))) ?_ | refine JLp (y_gtr rfl rfl (decide_eq_false (by omega))) ?_ | refine JLp (y_geq rfl rfl (decide_eq_true (by omega))) ?_ | refine JLp (y_geq rfl rfl (decide_eq_false (by omega))) ?_ | refine JLp (y_eql rfl rfl (decide_eq_true (by omega))) ?_ | refine JLp (y_eql rfl rfl (decide_eq_false (by omega))) ?_ | refine JLp (y_neq rfl rfl (r := false) (decide_eq_true (by omega))) ?_ | refine JLp (y_neq rfl rfl (r := true) (decide_eq_false (by omega))) ?_ | refine JLp (y_add rfl rfl (wrap_add (by omega) (by omega))) ?_ | refine JLp (y_sub rfl rfl (wrap_add (by omega) (by omega))) ?_ | refine JLp (y_index rfl rfl (by omega)) ?_ | refine JLp (y_index (j := 0) rfl rfl (by omega)) ?_ | refine JL.read 0 rfl rfl (r_load1 rfl rfl) ?_ | refine JL.read 0 rfl rfl (r_loadA rfl lE_ rfl) ?_ | refine JL.read 0 rfl rfl (r_loadW rfl (by first | rfl | assumption)) ?_ | refine JL.read 0 rfl rfl (r_loadR1 rfl (by first | rfl | assumption)) ?_ | refine JL.was rfl (w_load1 rfl (by assumption)) ?_); exact hQ.out) : G := h ⟨hQ⟩
theorem AU2 {Q G : Prop} (hQ : Q) (h : Hold Q → G := by intro hQ; (repeat (first | refine JC.seq ?_ | refine JL.nil ?_ | refine RN.seq ?_ | refine RN.blk ?_ | refine JC.region ?_ | refine JC.skip ?_ | refine JC.block ?_ | refine JC.exit ?_ | refine JC.cond_t rfl ?_ | refine JC.cond_f rfl ?_ | refine JL.omit rfl ?_ | refine JLp y_mv ?_ | refine JLp y_as ?_ | refine JLp (y_extract rfl rfl) ?_ | refine JLp (y_fieldAddr rfl) ?_ | refine JLp (y_nilCheck rfl) ?_ | refine JLp (y_not rfl) ?_ | refine JLp (y_pick_t rfl (by conv => lhs; whnf)) ?_ | refine JLp (y_pick_f rfl (by conv => lhs; whnf)) ?_ | refine JLp (y_eqlNil rfl rfl rfl) ?_ | refine JLp (y_neqNil rfl rfl rfl) ?_ | refine JLp (y_eqlSNil rfl rfl rfl) ?_ | refine JLp (y_len rfl) ?_ | refine JLp (y_lenS rfl) ?_ | refine JLp (y_makeFunc rfl) ?_ | refine JLp (y_lss rfl rfl (decide_eq_true (by omega))) ?_ | refine JLp (y_lss rfl rfl (decide_eq_false (by omega))) ?_ | refine JLp (y_leq rfl rfl (decide_eq_true (by omega))) ?_ | refine JLp (y_leq rfl rfl (decide_eq_false (by omega))) ?_ | refine JLp (y_gtr rfl rfl (decide_eq_true (by omega))) ?_ | refine JLp (y_gtr rfl rfl (decide_eq_false (by omega))) ?_ | refine JLp (y_geq rfl rfl (decide_eq_true (by omega))) ?_ | refine JLp (y_geq rfl rfl (decide_eq_false (by omega))) ?_ | refine JLp (y_eql rfl rfl (decide_eq_true (by omega))) ?_ | refine JLp (y_eql rfl rfl (decide_eq_false (by omega))) ?_ | refine JLp (y_neq rfl rfl (r := false) (decide_eq_true (by omega))) ?_ | refine JLp (y_neq rfl rfl (r := true) (decide_eq_false (by omega))) ?_ | refine JLp (y_add rfl rfl (wrap_add (by omega) (by omega))) ?_ | refine JLp (y_sub rfl rfl (wrap_add (by omega) (by omega))) ?_ | refine JLp (y_index rfl rfl (by omega)) ?_ | refine JLp (y_index (j := 0) rfl rfl (by omega)) ?_ | refine JL.read 0 rfl rfl (r_load1 rfl rfl) ?_ | refine JL.read 0 rfl rfl (r_loadA rfl lE_ rfl) ?_ | refine JL.read 0 rfl rfl (r_loadW rfl (by first | rfl | assumption)) ?_ | refine JL.read 0 rfl rfl (r_loadR1 rfl (by first | rfl | assumption)) ?_ | refine JL.read 1 rfl rfl (r_load1 rfl rfl) ?_ | refine JL.read 1 rfl rfl (r_loadA rfl lE_ rfl) ?_ | refine JL.read 1 rfl rfl (r_loadW rfl (by first | rfl | assumption)) ?_ | refine JL.read 1 rfl rfl (r_loadR1 rfl (by first | rfl | assumption)) ?_ | refine JL.was rfl (w_load1 rfl (by assumption)) ?_)); exact hQ.out) : G := h ⟨hQ⟩
theorem AS2 {Q G : Prop} (hQ : Q) (h : Hold Q → G := by intro hQ; (first | refine JC.seq ?_ | refine JL.nil ?_ | refine RN.seq ?_ | refine RN.blk ?_ | refine JC.region ?_ | refine JC.skip ?_ | refine JC.block ?_ | refine JC.exit ?_ | refine JC.cond_t rfl ?_ | refine JC.cond_f rfl ?_ | refine JL.omit rfl ?_ | refine JLp y_mv ?_ | refine JLp y_as ?_ | refine JLp (y_extract rfl rfl) ?_ | refine JLp (y_fieldAddr rfl) ?_ | refine JLp (y_nilCheck rfl) ?_ | refine JLp (y_not rfl) ?_ | refine JLp (y_pick_t rfl (by conv => lhs; whnf)) ?_ | refine JLp (y_pick_f rfl (by conv => lhs; whnf)) ?_ | refine JLp (y_eqlNil rfl rfl rfl) ?_ | refine JLp (y_neqNil rfl rfl rfl) ?_ | refine JLp (y_eqlSNil rfl rfl rfl) ?_ | refine JLp (y_len rfl) ?_ | refine JLp (y_lenS rfl) ?_ | refine JLp (y_makeFunc rfl) ?_ | refine JLp (y_lss rfl rfl (decide_eq_true (by omega))) ?_ | refine JLp (y_lss rfl rfl (decide_eq_false (by omega))) ?_ | refine JLp (y_leq rfl rfl (decide_eq_true (by omega))) ?_ | refine JLp (y_leq rfl rfl (decide_eq_false (by omega))) ?_ | refine JLp (y_gtr rfl rfl (decide_eq_true (by omega))) ?_ | refine JLp (y_gtr rfl rfl (decide_eq_false (by omega))) ?_ | refine JLp (y_geq rfl rfl (decide_eq_true (by omega))) ?_ | refine JLp (y_geq rfl rfl (decide_eq_false (by omega))) ?_ | refine JLp (y_eql rfl rfl (decide_eq_true (by omega))) ?_ | refine JLp (y_eql rfl rfl (decide_eq_false (by omega))) ?_ | refine JLp (y_neq rfl rfl (r := false) (decide_eq_true (by omega))) ?_ | refine JLp (y_neq rfl rfl (r := true) (decide_eq_false (by omega))) ?_ | refine JLp (y_add rfl rfl (wrap_add (by omega) (by omega))) ?_ | refine JLp (y_sub rfl rfl (wrap_add (by omega) (by omega))) ?_ | refine JLp (y_index rfl rfl (by omega)) ?_ | refine JLp (y_index (j := 0) rfl rfl (by omega)) ?_ | refine JL.read 0 rfl rfl (r_load1 rfl rfl) ?_ | refine JL.read 0 rfl rfl (r_loadA rfl lE_ rfl) ?_ | refine JL.read 0 rfl rfl (r_loadW rfl (by first | rfl | assumption)) ?_ | refine JL.read 0 rfl rfl (r_loadR1 rfl (by first | rfl | assumption)) ?_ | refine JL.read 1 rfl rfl (r_load1 rfl rfl) ?_ | refine JL.read 1 rfl rfl (r_loadA rfl lE_ rfl) ?_ | refine JL.read 1 rfl rfl (r_loadW rfl (by first | rfl | assumption)) ?_ | refine JL.read 1 rfl rfl (r_loadR1 rfl (by first | rfl | assumption)) ?_ | refine JL.was rfl (w_load1 rfl (by assumption)) ?_); exact hQ.out) : G := h ⟨hQ⟩
theorem AU3 {Q G : Prop} (hQ : Q) (h : Hold Q → G := by intro hQ; (repeat (first | refine JC.seq ?_ | refine JL.nil ?_ | refine RN.seq ?_ | refine RN.blk ?_ | refine JC.region ?_ | refine JC.skip ?_ | refine JC.block ?_ | refine JC.exit ?_ | refine JC.cond_t rfl ?_ | refine JC.cond_f rfl ?_ | refine JL.omit rfl ?_ | refine JLp y_mv ?_ | refine JLp y_as ?_ | refine JLp (y_extract rfl rfl) ?_ | refine JLp (y_fieldAddr rfl) ?_ | refine JLp (y_nilCheck rfl) ?_ | refine JLp (y_not rfl) ?_ | refine JLp (y_pick_t rfl (by conv => lhs; whnf)) ?_ | refine JLp (y_pick_f rfl (by conv => lhs; whnf)) ?_ | refine JLp (y_eqlNil rfl rfl rfl) ?_ | refine JLp (y_neqNil rfl rfl rfl) ?_ | refine JLp (y_eqlSNil rfl rfl rfl) ?_ | refine JLp (y_len rfl) ?_ | refine JLp (y_lenS rfl) ?_ | refine JLp (y_makeFunc rfl) ?_ | refine JLp (y_lss rfl rfl (decide_eq_true (by omega))) ?_ | refine JLp (y_lss rfl rfl (decide_eq_false (by omega))) ?_ | refine JLp (y_leq rfl rfl (decide_eq_true (by omega))) ?_ | refine JLp (y_leq rfl rfl (decide_eq_false (by omega))) ?_ | refine JLp (y_gtr rfl rfl (decide_eq_true (by omega))) ?_ | refine JLp (y_gtr rfl rfl (decide_eq_false (by omega))) ?_ | refine JLp (y_geq rfl rfl (decide_eq_true (by omega))) ?_ | refine JLp (y_geq rfl rfl (decide_eq_false (by omega))) ?_ | refine JLp (y_eql rfl rfl (decide_eq_true (by omega))) ?_ | refine JLp (y_eql rfl rfl (decide_eq_false (by omega))) ?_ | refine JLp (y_neq rfl rfl (r := false) (decide_eq_true (by omega))) ?_ | refine JLp (y_neq rfl rfl (r := true) (decide_eq_false (by omega))) ?_ | refine JLp (y_add rfl rfl (wrap_add (by omega) (by omega))) ?_ | refine JLp (y_sub rfl rfl (wrap_add (by omega) (by omega))) ?_ | refine JLp (y_index rfl rfl (by omega)) ?_ | refine JLp (y_index (j := 0) rfl rfl (by omega)) ?_ | refine JL.read 0 rfl rfl (r_load1 rfl rfl) ?_ | refine JL.read 0 rfl rfl (r_loadA rfl lE_ rfl) ?_ | refine JL.read 0 rfl rfl (r_loadW rfl (by first | rfl | assumption)) ?_ | refine JL.read 0 rfl rfl (r_loadR1 rfl (by first | rfl | assumption)) ?_ | refine JL.read 1 rfl rfl (r_load1 rfl rfl) ?_ | refine JL.read 1 rfl rfl (r_loadA rfl lE_ rfl) ?_ | refine JL.read 1 rfl rfl (r_loadW rfl (by first | rfl | assumption)) ?_ | refine JL.read 1 rfl rfl (r_loadR1 rfl (by first | rfl | assumption)) ?_ | refine JL.read 2 rfl rfl (r_load1 rfl rfl) ?_ | refine JL.read 2 rfl rfl (r_loadA rfl lE_ rfl) ?_ | refine JL.read 2 rfl rfl (r_loadW rfl (by first | rfl | assumption)) ?_ | refine JL.read 2 rfl rfl (r_loadR1 rfl (by first | rfl | assumption)) ?_ | refine JL.was rfl (w_load1 rfl (by assumption)) ?_)); exact hQ.out) : G := h ⟨hQ⟩
theorem AS3 {Q G : Prop} (hQ : Q) (h : Hold Q → G := by intro hQ; (first | refine JC.seq ?_ | refine JL.nil ?_ | refine RN.seq ?_ | refine RN.blk ?_ | refine JC.region ?_ | refine JC.skip ?_ | refine JC.block ?_ | refine JC.exit ?_ | refine JC.cond_t rfl ?_ | refine JC.cond_f rfl ?_ | refine JL.omit rfl ?_ | refine JLp y_mv ?_ | refine JLp y_as ?_ | refine JLp (y_extract rfl rfl) ?_ | refine JLp (y_fieldAddr rfl) ?_ | refine JLp (y_nilCheck rfl) ?_ | refine JLp (y_not rfl) ?_ | refine JLp (y_pick_t rfl (by conv => lhs; whnf)) ?_ | refine JLp (y_pick_f rfl (by conv => lhs; whnf)) ?_ | refine JLp (y_eqlNil rfl rfl rfl) ?_ | refine JLp (y_neqNil rfl rfl rfl) ?_ | refine JLp (y_eqlSNil rfl rfl rfl) ?_ | refine JLp (y_len rfl) ?_ | refine JLp (y_lenS rfl) ?_ | refine JLp (y_makeFunc rfl) ?_ | refine JLp (y_lss rfl rfl (decide_eq_true (by omega))) ?_ | refine JLp (y_lss rfl rfl (decide_eq_false (by omega))) ?_ | refine JLp (y_leq rfl rfl (decide_eq_true (by omega))) ?_ | refine JLp (y_leq rfl rfl (decide_eq_false (by omega))) ?_ | refine JLp (y_gtr rfl rfl (decide_eq_true (by omega))) ?_ | refine JLp (y_gtr rfl rfl (decide_eq_false (by omega))) ?_ | refine JLp (y_geq rfl rfl (decide_eq_true (by omega))) ?_ | refine JLp (y_geq rfl rfl (decide_eq_false (by omega))) ?_ | refine JLp (y_eql rfl rfl (decide_eq_true (by omega))) ?_ | refine JLp (y_eql rfl rfl (decide_eq_false (by omega))) ?_ | refine JLp (y_neq rfl rfl (r := false) (decide_eq_true (by omega))) ?_ | refine JLp (y_neq rfl rfl (r := true) (decide_eq_false (by omega))) ?_ | refine JLp (y_add rfl rfl (wrap_add (by omega) (by omega))) ?_ | refine JLp (y_sub rfl rfl (wrap_add (by omega) (by omega))) ?_ | refine JLp (y_index rfl rfl (by omega)) ?_ | refine JLp (y_index (j := 0) rfl rfl (by omega)) ?_ | refine JL.read 0 rfl rfl (r_load1 rfl rfl) ?_ | refine JL.read 0 rfl rfl (r_loadA rfl lE_ rfl) ?_ | refine JL.read 0 rfl rfl (r_loadW rfl (by first | rfl | assumption)) ?_ | refine JL.read 0 rfl rfl (r_loadR1 rfl (by first | rfl | assumption)) ?_ | refine JL.read 1 rfl rfl (r_load1 rfl rfl) ?_ | refine JL.read 1 rfl rfl (r_loadA rfl lE_ rfl) ?_ | refine JL.read 1 rfl rfl (r_loadW rfl (by first | rfl | assumption)) ?_ | refine JL.read 1 rfl rfl (r_loadR1 rfl (by first | rfl | assumption)) ?_ | refine JL.read 2 rfl rfl (r_load1 rfl rfl) ?_ | refine JL.read 2 rfl rfl (r_loadA rfl lE_ rfl) ?_ | refine JL.read 2 rfl rfl (r_loadW rfl (by first | rfl | assumption)) ?_ | refine JL.read 2 rfl rfl (r_loadR1 rfl (by first | rfl | assumption)) ?_ | refine JL.was rfl (w_load1 rfl (by assumption)) ?_); exact hQ.out) : G := h ⟨hQ⟩
theorem AU4 {Q G : Prop} (hQ : Q) (h : Hold Q → G := by intro hQ; (repeat (first | refine JC.seq ?_ | refine JL.nil ?_ | refine RN.seq ?_ | refine RN.blk ?_ | refine JC.region ?_ | refine JC.skip ?_ | refine JC.block ?_ | refine JC.exit ?_ | refine JC.cond_t rfl ?_ | refine JC.cond_f rfl ?_ | refine JL.omit rfl ?_ | refine JLp y_mv ?_ | refine JLp y_as ?_ | refine JLp (y_extract rfl rfl) ?_ | refine JLp (y_fieldAddr rfl) ?_ | refine JLp (y_nilCheck rfl) ?_ | refine JLp (y_not rfl) ?_ | refine JLp (y_pick_t rfl (by conv => lhs; whnf)) ?_ | refine JLp (y_pick_f rfl (by conv => lhs; whnf)) ?_ | refine JLp (y_eqlNil rfl rfl rfl) ?_ | refine JLp (y_neqNil rfl rfl rfl) ?_ | refine JLp (y_eqlSNil rfl rfl rfl) ?_ | refine JLp (y_len rfl) ?_ | refine JLp (y_lenS rfl) ?_ | refine JLp (y_makeFunc rfl) ?_ | refine JLp (y_lss rfl rfl (decide_eq_true (by omega))) ?_ | refine JLp (y_lss rfl rfl (decide_eq_false (by omega))) ?_ | refine JLp (y_leq rfl rfl (decide_eq_true (by omega))) ?_ | refine JLp (y_leq rfl rfl (decide_eq_false (by omega))) ?_ | refine JLp (y_gtr rfl rfl (decide_eq_true (by omega))) ?_ | refine JLp (y_gtr rfl rfl (decide_eq_false (by omega))) ?_ | refine JLp (y_geq rfl rfl (decide_eq_true (by omega))) ?_ | refine JLp (y_geq rfl rfl (decide_eq_false (by omega))) ?_ | refine JLp (y_eql rfl rfl (decide_eq_true (by omega))) ?_ | refine JLp (y_eql rfl rfl (decide_eq_false (by omega))) ?_ | refine JLp (y_neq rfl rfl (r := false) (decide_eq_true (by omega))) ?_ | refine JLp (y_neq rfl rfl (r := true) (decide_eq_false (by omega))) ?_ | refine JLp (y_add rfl rfl (wrap_add (by omega) (by omega))) ?_ | refine JLp (y_sub rfl rfl (wrap_add (by omega) (by omega))) ?_ | refine JLp (y_index rfl rfl (by omega)) ?_ | refine JLp (y_index (j := 0) rfl rfl (by omega)) ?_ | refine JL.read 0 rfl rfl (r_load1 rfl rfl) ?_ | refine JL.read 0 rfl rfl (r_loadA rfl lE_ rfl) ?_ | refine JL.read 0 rfl rfl (r_loadW rfl (by first | rfl | assumption)) ?_ | refine JL.read 0 rfl rfl (r_loadR1 rfl (by first | rfl | assumption)) ?_ | refine JL.read 1 rfl rfl (r_load1 rfl rfl) ?_ | refine JL.read 1 rfl rfl (r_loadA rfl lE_ rfl) ?_ | refine JL.read 1 rfl rfl (r_loadW rfl (by first | rfl | assumption)) ?_ | refine JL.read 1 rfl rfl (r_loadR1 rfl (by first | rfl | assumption)) ?_ | refine JL.read 2 rfl rfl (r_load1 rfl rfl) ?_ | refine JL.read 2 rfl rfl (r_loadA rfl lE_ rfl) ?_ | refine JL.read 2 rfl rfl (r_loadW rfl (by first | rfl | assumption)) ?_ | refine JL.read 2 rfl rfl (r_loadR1 rfl (by first | rfl | assumption)) ?_ | refine JL.read 3 rfl rfl (r_load1 rfl rfl) ?_ | refine JL.read 3 rfl rfl (r_loadA rfl lE_ rfl) ?_ | refine JL.read 3 rfl rfl (r_loadW rfl (by first | rfl | assumption)) ?_ | refine JL.read 3 rfl rfl (r_loadR1 rfl (by first | rfl | assumption)) ?_ | refine JL.was rfl (w_load1 rfl (by assumption)) ?_)); exact hQ.out) : G := h ⟨hQ⟩
theorem AS4 {Q G : Prop} (hQ : Q) (h : Hold Q → G := by intro hQ; (first | refine JC.seq ?_ | refine JL.nil ?_ | refine RN.seq ?_ | refine RN.blk ?_ | refine JC.region ?_ | refine JC.skip ?_ | refine JC.block ?_ | refine JC.exit ?_ | refine JC.cond_t rfl ?_ | refine JC.cond_f rfl ?_ | refine JL.omit rfl ?_ | refine JLp y_mv ?_ | refine JLp y_as ?_ | refine JLp (y_extract rfl rfl) ?_ | refine JLp (y_fieldAddr rfl) ?_ | refine JLp (y_nilCheck rfl) ?_ | refine JLp (y_not rfl) ?_ | refine JLp (y_pick_t rfl (by conv => lhs; whnf)) ?_ | refine JLp (y_pick_f rfl (by conv => lhs; whnf)) ?_ | refine JLp (y_eqlNil rfl rfl rfl) ?_ | refine JLp (y_neqNil rfl rfl rfl) ?_ | refine JLp (y_eqlSNil rfl rfl rfl) ?_ | refine JLp (y_len rfl) ?_ | refine JLp (y_lenS rfl) ?_ | refine JLp (y_makeFunc rfl) ?_ | refine JLp (y_lss rfl rfl (decide_eq_true (by omega))) ?_ | refine JLp (y_lss rfl rfl (decide_eq_false (by omega))) ?_ | refine JLp (y_leq rfl rfl (decide_eq_true (by omega))) ?_ | refine JLp (y_leq rfl rfl (decide_eq_false (by omega))) ?_ | refine JLp (y_gtr rfl rfl (decide_eq_true (by omega))) ?_ | refine JLp (y_gtr rfl rfl (decide_eq_false (by omega))) ?_ | refine JLp (y_geq rfl rfl (decide_eq_true (by omega))) ?_ | refine JLp (y_geq rfl rfl (decide_eq_false (by omega))) ?_ | refine JLp (y_eql rfl rfl (decide_eq_true (by omega))) ?_ | refine JLp (y_eql rfl rfl (decide_eq_false (by omega))) ?_ | refine JLp (y_neq rfl rfl (r := false) (decide_eq_true (by omega))) ?_ | refine JLp (y_neq rfl rfl (r := true) (decide_eq_false (by omega))) ?_ | refine JLp (y_add rfl rfl (wrap_add (by omega) (by omega))) ?_ | refine JLp (y_sub rfl rfl (wrap_add (by omega) (by omega))) ?_ | refine JLp (y_index rfl rfl (by omega)) ?_ | refine JLp (y_index (j := 0) rfl rfl (by omega)) ?_ | refine JL.read 0 rfl rfl (r_load1 rfl rfl) ?_ | refine JL.read 0 rfl rfl (r_loadA rfl lE_ rfl) ?_ | refine JL.read 0 rfl rfl (r_loadW rfl (by first | rfl | assumption)) ?_ | refine JL.read 0 rfl rfl (r_loadR1 rfl (by first | rfl | assumption)) ?_ | refine JL.read 1 rfl rfl (r_load1 rfl rfl) ?_ | refine JL.read 1 rfl rfl (r_loadA rfl lE_ rfl) ?_ | refine JL.read 1 rfl rfl (r_loadW rfl (by first | rfl | assumption)) ?_ | refine JL.read 1 rfl rfl (r_loadR1 rfl (by first | rfl | assumption)) ?_ | refine JL.read 2 rfl rfl (r_load1 rfl rfl) ?_ | refine JL.read 2 rfl rfl (r_loadA rfl lE_ rfl) ?_ | refine JL.read 2 rfl rfl (r_loadW rfl (by first | rfl | assumption)) ?_ | refine JL.read 2 rfl rfl (r_loadR1 rfl (by first | rfl | assumption)) ?_ | refine JL.read 3 rfl rfl (r_load1 rfl rfl) ?_ | refine JL.read 3 rfl rfl (r_loadA rfl lE_ rfl) ?_ | refine JL.read 3 rfl rfl (r_loadW rfl (by first | rfl | assumption)) ?_ | refine JL.read 3 rfl rfl (r_loadR1 rfl (by first | rfl | assumption)) ?_ | refine JL.was rfl (w_load1 rfl (by assumption)) ?_); exact hQ.out) : G := h ⟨hQ⟩
theorem AU5 {Q G : Prop} (hQ : Q) (h : Hold Q → G := by intro hQ; (repeat (first | refine JC.seq ?_ | refine JL.nil ?_ | refine RN.seq ?_ | refine RN.blk ?_ | refine JC.region ?_ | refine JC.skip ?_ | refine JC.block ?_ | refine JC.exit ?_ | refine JC.cond_t rfl ?_ | refine JC.cond_f rfl ?_ | refine JL.omit rfl ?_ | refine JLp y_mv ?_ | refine JLp y_as ?_ | refine JLp (y_extract rfl rfl) ?_ | refine JLp (y_fieldAddr rfl) ?_ | refine JLp (y_nilCheck rfl) ?_ | refine JLp (y_not rfl) ?_ | refine JLp (y_pick_t rfl (by conv => lhs; whnf)) ?_ | refine JLp (y_pick_f rfl (by conv => lhs; whnf)) ?_ | refine JLp (y_eqlNil rfl rfl rfl) ?_ | refine JLp (y_neqNil rfl rfl rfl) ?_ | refine JLp (y_eqlSNil rfl rfl rfl) ?_ | refine JLp (y_len rfl) ?_ | refine JLp (y_lenS rfl) ?_ | refine JLp (y_makeFunc rfl) ?_ | refine JLp (y_lss rfl rfl (decide_eq_true (by omega))) ?_ | refine JLp (y_lss rfl rfl (decide_eq_false (by omega))) ?_ | refine JLp (y_leq rfl rfl (decide_eq_true (by omega))) ?_ | refine JLp (y_leq rfl rfl (decide_eq_false (by omega))) ?_ | refine JLp (y_gtr rfl rfl (decide_eq_true (by omega))) ?_ | refine JLp (y_gtr rfl rfl (decide_eq_false (by omega))) ?_ | refine JLp (y_geq rfl rfl (decide_eq_true (by omega))) ?_ | refine JLp (y_geq rfl rfl (decide_eq_false (by omega))) ?_ | refine JLp (y_eql rfl rfl (decide_eq_true (by omega))) ?_ | refine JLp (y_eql rfl rfl (decide_eq_false (by omega))) ?_ | refine JLp (y_neq rfl rfl (r := false) (decide_eq_true (by omega))) ?_ | refine JLp (y_neq rfl rfl (r := true) (decide_eq_false (by omega))) ?_ | refine JLp (y_add rfl rfl (wrap_add (by omega) (by omega))) ?_ | refine JLp (y_sub rfl rfl (wrap_add (by omega) (by omega))) ?_ | refine JLp (y_index rfl rfl (by omega)) ?_ | refine JLp (y_index (j := 0) rfl rfl (by omega)) ?_ | refine JL.read 0 rfl rfl (r_load1 rfl rfl) ?_ | refine JL.read 0 rfl rfl (r_loadA rfl lE_ rfl) ?_ | refine JL.read 0 rfl rfl (r_loadW rfl (by first | rfl | assumption)) ?_ | refine JL.read 0 rfl rfl (r_loadR1 rfl (by first | rfl | assumption)) ?_ | refine JL.read 1 rfl rfl (r_load1 rfl rfl) ?_ | refine JL.read 1 rfl rfl (r_loadA rfl lE_ rfl) ?_ | refine JL.read 1 rfl rfl (r_loadW rfl (by first | rfl | assumption)) ?_ | refine JL.read 1 rfl rfl (r_loadR1 rfl (by first | rfl | assumption)) ?_ | refine JL.read 2 rfl rfl (r_load1 rfl rfl) ?_ | refine JL.read 2 rfl rfl (r_loadA rfl lE_ rfl) ?_ | refine JL.read 2 rfl rfl (r_loadW rfl (by first | rfl | assumption)) ?_ | refine JL.read 2 rfl rfl (r_loadR1 rfl (by first | rfl | assumption)) ?_ | refine JL.read 3 rfl rfl (r_load1 rfl rfl) ?_ | refine JL.read 3 rfl rfl (r_loadA rfl lE_ rfl) ?_ | refine JL.read 3 rfl rfl (r_loadW rfl (by first | rfl | assumption)) ?_ | refine JL.read 3 rfl rfl (r_loadR1 rfl (by first | rfl | assumption)) ?_ | refine JL.read 4 rfl rfl (r_load1 rfl rfl) ?_ | refine JL.read 4 rfl rfl (r_loadA rfl lE_ rfl) ?_ | refine JL.read 4 rfl rfl (r_loadW rfl (by first | rfl | assumption)) ?_ | refine JL.read 4 rfl rfl (r_loadR1 rfl (by first | rfl | assumption)) ?_ | refine JL.was rfl (w_load1 rfl (by assumption)) ?_)); exact hQ.out) : G := h ⟨hQ⟩
end Go.Lg
namespace Go.Proofs.YtbalcgjphkdecaaGreatDoor
open Go.Lg
set_option maxRecDepth 100000
noncomputable def Pg : Program := Tryz.prog
instance : IntT Pg 2 .i64 := ⟨rfl⟩
instance : Sz Pg 3 1 := ⟨rfl⟩
instance : Agg Pg 3 false := ⟨rfl⟩
instance : IntT Pg 3 .i64 := ⟨rfl⟩
instance : Zr Pg 3 [.int .i64 0] := ⟨rfl⟩
instance : Sz Pg 4 1 := ⟨rfl⟩
instance : Agg Pg 4 false := ⟨rfl⟩
instance : BoolT Pg 4 := ⟨rfl⟩
instance : Zr Pg 4 [.bool false] := ⟨rfl⟩
instance : Sz Pg 5 1 := ⟨rfl⟩
instance : Agg Pg 5 false := ⟨rfl⟩
instance : IntT Pg 5 .u8 := ⟨rfl⟩
instance : Zr Pg 5 [.int .u8 0] := ⟨rfl⟩
instance : RowT Pg 5 1 1 := ⟨rfl⟩
instance : Sz Pg 9 1 := ⟨rfl⟩
instance : Agg Pg 9 false := ⟨rfl⟩
instance : StrT Pg 9 := ⟨rfl⟩
instance : Zr Pg 9 [.string ByteArray.empty] := ⟨rfl⟩
instance : RowT Pg 9 1 16 := ⟨rfl⟩
instance : Agg Pg 21 false := ⟨rfl⟩
instance : PtrT Pg 22 81 := ⟨rfl⟩
instance : Sz Pg 24 1 := ⟨rfl⟩
instance : Agg Pg 24 false := ⟨rfl⟩
instance : IntT Pg 24 .i64 := ⟨rfl⟩
instance : Sz Pg 26 1 := ⟨rfl⟩
instance : Agg Pg 26 false := ⟨rfl⟩
instance : SliceT Pg 26 5 := ⟨rfl⟩
instance : Zr Pg 26 [.slice none 0 0] := ⟨rfl⟩
instance : Sz Pg 28 5 := ⟨rfl⟩
instance : Agg Pg 28 true := ⟨rfl⟩
instance : Fld Pg 28 0 0 := ⟨rfl⟩
instance : Fld Pg 28 1 1 := ⟨rfl⟩
instance : Fld Pg 28 2 2 := ⟨rfl⟩
instance : Fld Pg 28 3 3 := ⟨rfl⟩
instance : Sz Pg 30 1 := ⟨rfl⟩
instance : Agg Pg 30 false := ⟨rfl⟩
instance : SliceT Pg 30 57 := ⟨rfl⟩
instance : SliceT Pg 35 3 := ⟨rfl⟩
instance : Sz Pg 36 1 := ⟨rfl⟩
instance : Agg Pg 36 false := ⟨rfl⟩
instance : SliceT Pg 36 9 := ⟨rfl⟩
instance : Zr Pg 36 [.slice none 0 0] := ⟨rfl⟩
instance : Sz Pg 39 3 := ⟨rfl⟩
instance : Agg Pg 39 true := ⟨rfl⟩
instance : Fld Pg 39 0 0 := ⟨rfl⟩
instance : Fld Pg 39 1 1 := ⟨rfl⟩
instance : Fld Pg 39 2 2 := ⟨rfl⟩
instance : Zr Pg 39 [.string ByteArray.empty, .string ByteArray.empty, .slice none 0 0] := ⟨rfl⟩
instance : RowT Pg 39 3 56 := ⟨rfl⟩
instance : Sz Pg 40 1 := ⟨rfl⟩
instance : Agg Pg 40 false := ⟨rfl⟩
instance : SliceT Pg 40 39 := ⟨rfl⟩
instance : Sz Pg 41 1 := ⟨rfl⟩
instance : Agg Pg 41 false := ⟨rfl⟩
instance : SliceT Pg 41 44 := ⟨rfl⟩
instance : Sz Pg 43 3 := ⟨rfl⟩
instance : Agg Pg 43 true := ⟨rfl⟩
instance : Fld Pg 43 0 0 := ⟨rfl⟩
instance : Fld Pg 43 1 1 := ⟨rfl⟩
instance : Fld Pg 43 2 2 := ⟨rfl⟩
instance : Zr Pg 43 [.slice none 0 0, .slice none 0 0, .slice none 0 0] := ⟨rfl⟩
instance : Sz Pg 44 2 := ⟨rfl⟩
instance : Agg Pg 44 true := ⟨rfl⟩
instance : ArrT Pg 44 2 9 := ⟨rfl⟩
instance : Zr Pg 44 [.string ByteArray.empty, .string ByteArray.empty] := ⟨rfl⟩
instance : RowT Pg 44 2 32 := ⟨rfl⟩
instance : Sz Pg 48 2 := ⟨rfl⟩
instance : Agg Pg 48 true := ⟨rfl⟩
instance : Fld Pg 48 0 0 := ⟨rfl⟩
instance : Fld Pg 48 1 1 := ⟨rfl⟩
instance : Zr Pg 48 [.string ByteArray.empty, .string ByteArray.empty] := ⟨rfl⟩
instance : RowT Pg 48 2 32 := ⟨rfl⟩
instance : Sz Pg 49 1 := ⟨rfl⟩
instance : Agg Pg 49 false := ⟨rfl⟩
instance : SliceT Pg 49 48 := ⟨rfl⟩
instance : Zr Pg 49 [.slice none 0 0] := ⟨rfl⟩
instance : Agg Pg 50 false := ⟨rfl⟩
instance : PtrT Pg 50 122 := ⟨rfl⟩
instance : Sz Pg 52 1 := ⟨rfl⟩
instance : Agg Pg 52 false := ⟨rfl⟩
instance : PtrT Pg 52 183 := ⟨rfl⟩
instance : Zr Pg 52 [.pointer none] := ⟨rfl⟩
instance : RowT Pg 52 1 8 := ⟨rfl⟩
instance : Sz Pg 55 32 := ⟨rfl⟩
instance : Agg Pg 55 true := ⟨rfl⟩
instance : ArrT Pg 55 32 5 := ⟨rfl⟩
instance : Zr Pg 55 [.int .u8 0, .int .u8 0, .int .u8 0, .int .u8 0, .int .u8 0, .int .u8 0, .int .u8 0, .int .u8 0, .int .u8 0, .int .u8 0, .int .u8 0, .int .u8 0, .int .u8 0, .int .u8 0, .int .u8 0, .int .u8 0, .int .u8 0, .int .u8 0, .int .u8 0, .int .u8 0, .int .u8 0, .int .u8 0, .int .u8 0, .int .u8 0, .int .u8 0, .int .u8 0, .int .u8 0, .int .u8 0, .int .u8 0, .int .u8 0, .int .u8 0, .int .u8 0] := ⟨rfl⟩
instance : Sz Pg 57 39 := ⟨rfl⟩
instance : Agg Pg 57 true := ⟨rfl⟩
instance : Fld Pg 57 3 36 := ⟨rfl⟩
instance : Zr Pg 57 [.string ByteArray.empty, .string ByteArray.empty, .string ByteArray.empty, .string ByteArray.empty, .int .u8 0, .int .u8 0, .int .u8 0, .int .u8 0, .int .u8 0, .int .u8 0, .int .u8 0, .int .u8 0, .int .u8 0, .int .u8 0, .int .u8 0, .int .u8 0, .int .u8 0, .int .u8 0, .int .u8 0, .int .u8 0, .int .u8 0, .int .u8 0, .int .u8 0, .int .u8 0, .int .u8 0, .int .u8 0, .int .u8 0, .int .u8 0, .int .u8 0, .int .u8 0, .int .u8 0, .int .u8 0, .int .u8 0, .int .u8 0, .int .u8 0, .int .u8 0, .slice none 0 0, .int .i64 0, .int .i64 0] := ⟨rfl⟩
instance : RowT Pg 57 39 136 := ⟨rfl⟩
instance : Sz Pg 64 3 := ⟨rfl⟩
instance : Agg Pg 64 true := ⟨rfl⟩
instance : Fld Pg 64 0 0 := ⟨rfl⟩
instance : Fld Pg 64 1 1 := ⟨rfl⟩
instance : Fld Pg 64 2 2 := ⟨rfl⟩
instance : Zr Pg 64 [.int .i64 0, .int .i64 0, .slice none 0 0] := ⟨rfl⟩
instance : RowT Pg 64 3 40 := ⟨rfl⟩
instance : Sz Pg 66 1 := ⟨rfl⟩
instance : Agg Pg 66 false := ⟨rfl⟩
instance : SliceT Pg 66 100 := ⟨rfl⟩
instance : Sz Pg 67 1 := ⟨rfl⟩
instance : Agg Pg 67 false := ⟨rfl⟩
instance : SliceT Pg 67 106 := ⟨rfl⟩
instance : Sz Pg 68 1 := ⟨rfl⟩
instance : Agg Pg 68 false := ⟨rfl⟩
instance : SliceT Pg 68 52 := ⟨rfl⟩
instance : Sz Pg 69 1 := ⟨rfl⟩
instance : Agg Pg 69 false := ⟨rfl⟩
instance : SliceT Pg 69 87 := ⟨rfl⟩
instance : Agg Pg 70 false := ⟨rfl⟩
instance : Fld Pg 75 2 0 := ⟨rfl⟩
instance : Agg Pg 76 false := ⟨rfl⟩
instance : PtrT Pg 76 161 := ⟨rfl⟩
instance : Sz Pg 77 1 := ⟨rfl⟩
instance : Agg Pg 77 false := ⟨rfl⟩
instance : SliceT Pg 77 212 := ⟨rfl⟩
instance : Fld Pg 81 0 0 := ⟨rfl⟩
instance : Fld Pg 81 1 3 := ⟨rfl⟩
instance : Fld Pg 81 2 4 := ⟨rfl⟩
instance : Fld Pg 81 3 5 := ⟨rfl⟩
instance : Fld Pg 81 4 6 := ⟨rfl⟩
instance : Fld Pg 81 5 7 := ⟨rfl⟩
instance : Fld Pg 81 6 8 := ⟨rfl⟩
instance : Fld Pg 81 7 9 := ⟨rfl⟩
instance : Fld Pg 81 8 10 := ⟨rfl⟩
instance : Fld Pg 81 9 11 := ⟨rfl⟩
instance : Fld Pg 81 10 12 := ⟨rfl⟩
instance : Fld Pg 81 11 13 := ⟨rfl⟩
instance : Sz Pg 87 1 := ⟨rfl⟩
instance : Agg Pg 87 false := ⟨rfl⟩
instance : PtrT Pg 87 131 := ⟨rfl⟩
instance : Zr Pg 87 [.pointer none] := ⟨rfl⟩
instance : RowT Pg 87 1 8 := ⟨rfl⟩
instance : Sz Pg 98 16 := ⟨rfl⟩
instance : Agg Pg 98 true := ⟨rfl⟩
instance : ArrT Pg 98 16 5 := ⟨rfl⟩
instance : Sz Pg 100 1 := ⟨rfl⟩
instance : Agg Pg 100 false := ⟨rfl⟩
instance : PtrT Pg 100 164 := ⟨rfl⟩
instance : Zr Pg 100 [.pointer none] := ⟨rfl⟩
instance : RowT Pg 100 1 8 := ⟨rfl⟩
instance : Sz Pg 106 1 := ⟨rfl⟩
instance : Agg Pg 106 false := ⟨rfl⟩
instance : PtrT Pg 106 177 := ⟨rfl⟩
instance : Zr Pg 106 [.pointer none] := ⟨rfl⟩
instance : RowT Pg 106 1 8 := ⟨rfl⟩
instance : Sz Pg 119 1 := ⟨rfl⟩
instance : Agg Pg 119 false := ⟨rfl⟩
instance : SliceT Pg 119 64 := ⟨rfl⟩
instance : Fld Pg 122 0 0 := ⟨rfl⟩
instance : Fld Pg 122 1 1 := ⟨rfl⟩
instance : Agg Pg 129 false := ⟨rfl⟩
instance : PtrT Pg 129 220 := ⟨rfl⟩
instance : Fld Pg 131 0 0 := ⟨rfl⟩
instance : Fld Pg 131 1 2 := ⟨rfl⟩
instance : Fld Pg 131 2 5 := ⟨rfl⟩
instance : Fld Pg 131 3 6 := ⟨rfl⟩
instance : Fld Pg 131 4 7 := ⟨rfl⟩
instance : Fld Pg 131 5 8 := ⟨rfl⟩
instance : SliceT Pg 145 49 := ⟨rfl⟩
instance : Sz Pg 150 1 := ⟨rfl⟩
instance : Agg Pg 150 false := ⟨rfl⟩
instance : IntT Pg 150 .u32 := ⟨rfl⟩
instance : Zr Pg 150 [.int .u32 0] := ⟨rfl⟩
instance : RowT Pg 150 1 4 := ⟨rfl⟩
instance : Fld Pg 152 1 0 := ⟨rfl⟩
instance : Fld Pg 154 0 0 := ⟨rfl⟩
instance : Fld Pg 156 1 0 := ⟨rfl⟩
instance : Fld Pg 158 1 0 := ⟨rfl⟩
instance : Fld Pg 158 2 1 := ⟨rfl⟩
instance : ArrT Pg 159 27 150 := ⟨rfl⟩
instance : Fld Pg 161 0 0 := ⟨rfl⟩
instance : Fld Pg 161 1 16 := ⟨rfl⟩
instance : Fld Pg 161 2 19 := ⟨rfl⟩
instance : Fld Pg 161 3 46 := ⟨rfl⟩
instance : Sz Pg 162 1 := ⟨rfl⟩
instance : Agg Pg 162 false := ⟨rfl⟩
instance : SliceT Pg 162 170 := ⟨rfl⟩
instance : Fld Pg 164 0 0 := ⟨rfl⟩
instance : PtrT Pg 166 170 := ⟨rfl⟩
instance : Agg Pg 168 false := ⟨rfl⟩
instance : PtrT Pg 168 234 := ⟨rfl⟩
instance : Sz Pg 170 36 := ⟨rfl⟩
instance : Agg Pg 170 true := ⟨rfl⟩
instance : Fld Pg 170 0 0 := ⟨rfl⟩
instance : Fld Pg 170 1 2 := ⟨rfl⟩
instance : Fld Pg 170 3 35 := ⟨rfl⟩
instance : Zr Pg 170 [.string ByteArray.empty, .string ByteArray.empty, .int .i64 0, .int .u8 0, .int .u8 0, .int .u8 0, .int .u8 0, .int .u8 0, .int .u8 0, .int .u8 0, .int .u8 0, .int .u8 0, .int .u8 0, .int .u8 0, .int .u8 0, .int .u8 0, .int .u8 0, .int .u8 0, .int .u8 0, .int .u8 0, .int .u8 0, .int .u8 0, .int .u8 0, .int .u8 0, .int .u8 0, .int .u8 0, .int .u8 0, .int .u8 0, .int .u8 0, .int .u8 0, .int .u8 0, .int .u8 0, .int .u8 0, .int .u8 0, .int .u8 0, .pointer none] := ⟨rfl⟩
instance : RowT Pg 170 36 80 := ⟨rfl⟩
instance : Sz Pg 172 1 := ⟨rfl⟩
instance : Agg Pg 172 false := ⟨rfl⟩
instance : IntT Pg 172 .u64 := ⟨rfl⟩
instance : IntT Pg 175 .u64 := ⟨rfl⟩
instance : Fld Pg 177 0 0 := ⟨rfl⟩
instance : Fld Pg 177 1 1 := ⟨rfl⟩
instance : Fld Pg 177 2 4 := ⟨rfl⟩
instance : Fld Pg 177 3 5 := ⟨rfl⟩
instance : Fld Pg 177 4 6 := ⟨rfl⟩
instance : Agg Pg 178 false := ⟨rfl⟩
instance : PtrT Pg 178 243 := ⟨rfl⟩
instance : Sz Pg 181 4 := ⟨rfl⟩
instance : Agg Pg 181 true := ⟨rfl⟩
instance : Fld Pg 181 0 0 := ⟨rfl⟩
instance : Fld Pg 181 1 1 := ⟨rfl⟩
instance : Fld Pg 181 2 2 := ⟨rfl⟩
instance : Fld Pg 181 3 3 := ⟨rfl⟩
instance : Fld Pg 183 0 0 := ⟨rfl⟩
instance : Fld Pg 183 1 2 := ⟨rfl⟩
instance : Fld Pg 183 2 34 := ⟨rfl⟩
instance : Fld Pg 183 3 35 := ⟨rfl⟩
instance : Fld Pg 183 4 36 := ⟨rfl⟩
instance : Fld Pg 183 5 37 := ⟨rfl⟩
instance : Fld Pg 183 6 38 := ⟨rfl⟩
instance : Fld Pg 183 7 39 := ⟨rfl⟩
instance : Fld Pg 183 8 40 := ⟨rfl⟩
instance : Fld Pg 183 9 41 := ⟨rfl⟩
instance : Fld Pg 183 10 43 := ⟨rfl⟩
instance : Fld Pg 183 11 44 := ⟨rfl⟩
instance : Sz Pg 186 4 := ⟨rfl⟩
instance : Agg Pg 186 true := ⟨rfl⟩
instance : Fld Pg 186 0 0 := ⟨rfl⟩
instance : Fld Pg 186 1 2 := ⟨rfl⟩
instance : Fld Pg 186 2 3 := ⟨rfl⟩
instance : Zr Pg 186 [.string ByteArray.empty, .string ByteArray.empty, .int .i64 0, .slice none 0 0] := ⟨rfl⟩
instance : Sz Pg 188 37 := ⟨rfl⟩
instance : Agg Pg 188 true := ⟨rfl⟩
instance : Fld Pg 188 0 0 := ⟨rfl⟩
instance : Fld Pg 188 1 4 := ⟨rfl⟩
instance : Fld Pg 188 2 36 := ⟨rfl⟩
instance : Zr Pg 188 [.string ByteArray.empty, .string ByteArray.empty, .int .i64 0, .slice none 0 0, .int .u8 0, .int .u8 0, .int .u8 0, .int .u8 0, .int .u8 0, .int .u8 0, .int .u8 0, .int .u8 0, .int .u8 0, .int .u8 0, .int .u8 0, .int .u8 0, .int .u8 0, .int .u8 0, .int .u8 0, .int .u8 0, .int .u8 0, .int .u8 0, .int .u8 0, .int .u8 0, .int .u8 0, .int .u8 0, .int .u8 0, .int .u8 0, .int .u8 0, .int .u8 0, .int .u8 0, .int .u8 0, .int .u8 0, .int .u8 0, .int .u8 0, .int .u8 0, .int .i64 0] := ⟨rfl⟩
instance : Sz Pg 197 5 := ⟨rfl⟩
instance : Agg Pg 197 true := ⟨rfl⟩
instance : Fld Pg 197 0 0 := ⟨rfl⟩
instance : Fld Pg 197 1 4 := ⟨rfl⟩
instance : Zr Pg 197 [.string ByteArray.empty, .string ByteArray.empty, .int .i64 0, .slice none 0 0, .slice none 0 0] := ⟨rfl⟩
instance : Sz Pg 199 6 := ⟨rfl⟩
instance : Agg Pg 199 true := ⟨rfl⟩
instance : Fld Pg 199 0 0 := ⟨rfl⟩
instance : Fld Pg 199 1 2 := ⟨rfl⟩
instance : Fld Pg 199 2 4 := ⟨rfl⟩
instance : Fld Pg 199 3 5 := ⟨rfl⟩
instance : Zr Pg 199 [.string ByteArray.empty, .string ByteArray.empty, .string ByteArray.empty, .string ByteArray.empty, .int .i64 0, .int .i64 0] := ⟨rfl⟩
instance : Sz Pg 201 9 := ⟨rfl⟩
instance : Agg Pg 201 true := ⟨rfl⟩
instance : Fld Pg 201 0 0 := ⟨rfl⟩
instance : Fld Pg 201 1 4 := ⟨rfl⟩
instance : Fld Pg 201 2 5 := ⟨rfl⟩
instance : Fld Pg 201 3 7 := ⟨rfl⟩
instance : Fld Pg 201 4 8 := ⟨rfl⟩
instance : Zr Pg 201 [.string ByteArray.empty, .string ByteArray.empty, .int .i64 0, .slice none 0 0, .slice none 0 0, .string ByteArray.empty, .string ByteArray.empty, .int .i64 0, .int .i64 0] := ⟨rfl⟩
instance : Sz Pg 203 7 := ⟨rfl⟩
instance : Agg Pg 203 true := ⟨rfl⟩
instance : Fld Pg 203 0 0 := ⟨rfl⟩
instance : Fld Pg 203 1 2 := ⟨rfl⟩
instance : Fld Pg 203 2 6 := ⟨rfl⟩
instance : Zr Pg 203 [.string ByteArray.empty, .string ByteArray.empty, .string ByteArray.empty, .string ByteArray.empty, .int .i64 0, .slice none 0 0, .slice none 0 0] := ⟨rfl⟩
instance : Sz Pg 205 2 := ⟨rfl⟩
instance : Agg Pg 205 true := ⟨rfl⟩
instance : Sz Pg 207 30 := ⟨rfl⟩
instance : Agg Pg 207 true := ⟨rfl⟩
instance : Fld Pg 207 0 0 := ⟨rfl⟩
instance : Fld Pg 207 1 1 := ⟨rfl⟩
instance : Fld Pg 207 2 7 := ⟨rfl⟩
instance : Fld Pg 207 3 16 := ⟨rfl⟩
instance : Fld Pg 207 4 23 := ⟨rfl⟩
instance : Fld Pg 207 5 28 := ⟨rfl⟩
instance : Zr Pg 207 [.int .i64 0, .string ByteArray.empty, .string ByteArray.empty, .string ByteArray.empty, .string ByteArray.empty, .int .i64 0, .int .i64 0, .string ByteArray.empty, .string ByteArray.empty, .int .i64 0, .slice none 0 0, .slice none 0 0, .string ByteArray.empty, .string ByteArray.empty, .int .i64 0, .int .i64 0, .string ByteArray.empty, .string ByteArray.empty, .string ByteArray.empty, .string ByteArray.empty, .int .i64 0, .slice none 0 0, .slice none 0 0, .string ByteArray.empty, .string ByteArray.empty, .int .i64 0, .slice none 0 0, .slice none 0 0, .int .i64 0, .int .i64 0] := ⟨rfl⟩
instance : Sz Pg 212 9 := ⟨rfl⟩
instance : Zr Pg 212 [.string ByteArray.empty, .string ByteArray.empty, .string ByteArray.empty, .int .i64 0, .slice none 0 0, .string ByteArray.empty, .string ByteArray.empty, .int .i64 0, .slice none 0 0] := ⟨rfl⟩
instance : RowT Pg 212 9 144 := ⟨rfl⟩
instance : Sz Pg 218 1 := ⟨rfl⟩
instance : Agg Pg 218 false := ⟨rfl⟩
instance : SliceT Pg 218 250 := ⟨rfl⟩
instance : Fld Pg 220 0 0 := ⟨rfl⟩
instance : Fld Pg 220 1 1 := ⟨rfl⟩
instance : Fld Pg 234 0 0 := ⟨rfl⟩
instance : Fld Pg 234 1 1 := ⟨rfl⟩
instance : Fld Pg 234 2 17 := ⟨rfl⟩
instance : Fld Pg 234 3 18 := ⟨rfl⟩
instance : Fld Pg 234 4 19 := ⟨rfl⟩
instance : SliceT Pg 240 150 := ⟨rfl⟩
instance : Agg Pg 241 false := ⟨rfl⟩
instance : MapT Pg 241 48 188 := ⟨rfl⟩
instance : Fld Pg 243 0 0 := ⟨rfl⟩
instance : Sz Pg 250 4 := ⟨rfl⟩
instance : Agg Pg 250 true := ⟨rfl⟩
instance : Fld Pg 250 0 0 := ⟨rfl⟩
instance : Fld Pg 250 1 2 := ⟨rfl⟩
instance : Fld Pg 250 2 3 := ⟨rfl⟩
instance : Zr Pg 250 [.string ByteArray.empty, .string ByteArray.empty, .int .i64 0, .int .i64 0] := ⟨rfl⟩
instance : RowT Pg 250 4 48 := ⟨rfl⟩
instance : Sz Pg 263 37 := ⟨rfl⟩
instance : Agg Pg 263 true := ⟨rfl⟩
instance : Fld Pg 263 0 0 := ⟨rfl⟩
instance : Fld Pg 263 1 32 := ⟨rfl⟩
instance : Fld Pg 263 2 34 := ⟨rfl⟩
instance : Fld Pg 263 3 35 := ⟨rfl⟩
instance : Fld Pg 263 4 36 := ⟨rfl⟩
instance : Zr Pg 263 [.int .u8 0, .int .u8 0, .int .u8 0, .int .u8 0, .int .u8 0, .int .u8 0, .int .u8 0, .int .u8 0, .int .u8 0, .int .u8 0, .int .u8 0, .int .u8 0, .int .u8 0, .int .u8 0, .int .u8 0, .int .u8 0, .int .u8 0, .int .u8 0, .int .u8 0, .int .u8 0, .int .u8 0, .int .u8 0, .int .u8 0, .int .u8 0, .int .u8 0, .int .u8 0, .int .u8 0, .int .u8 0, .int .u8 0, .int .u8 0, .int .u8 0, .int .u8 0, .string ByteArray.empty, .string ByteArray.empty, .int .i64 0, .int .i64 0, .int .i64 0] := ⟨rfl⟩
instance : Sz Pg 269 37 := ⟨rfl⟩
instance : Agg Pg 269 true := ⟨rfl⟩
instance : Fld Pg 269 0 0 := ⟨rfl⟩
instance : Fld Pg 269 1 2 := ⟨rfl⟩
instance : Fld Pg 269 2 34 := ⟨rfl⟩
instance : Fld Pg 269 3 35 := ⟨rfl⟩
instance : Fld Pg 269 4 36 := ⟨rfl⟩
instance : Zr Pg 269 [.string ByteArray.empty, .string ByteArray.empty, .int .u8 0, .int .u8 0, .int .u8 0, .int .u8 0, .int .u8 0, .int .u8 0, .int .u8 0, .int .u8 0, .int .u8 0, .int .u8 0, .int .u8 0, .int .u8 0, .int .u8 0, .int .u8 0, .int .u8 0, .int .u8 0, .int .u8 0, .int .u8 0, .int .u8 0, .int .u8 0, .int .u8 0, .int .u8 0, .int .u8 0, .int .u8 0, .int .u8 0, .int .u8 0, .int .u8 0, .int .u8 0, .int .u8 0, .int .u8 0, .int .u8 0, .int .u8 0, .string ByteArray.empty, .int .i64 0, .int .i64 0] := ⟨rfl⟩
instance : Fld Pg 300 0 0 := ⟨rfl⟩
instance : Fld Pg 300 1 2 := ⟨rfl⟩
instance : Fld Pg 300 2 39 := ⟨rfl⟩
instance : Fld Pg 300 3 40 := ⟨rfl⟩
instance : Fld Pg 300 4 41 := ⟨rfl⟩
instance : Agg Pg 307 false := ⟨rfl⟩
instance : PtrT Pg 307 379 := ⟨rfl⟩
instance : Sz Pg 309 1 := ⟨rfl⟩
instance : Agg Pg 309 true := ⟨rfl⟩
instance : Fld Pg 309 0 0 := ⟨rfl⟩
instance : Zr Pg 309 [.pointer none] := ⟨rfl⟩
instance : SliceT Pg 335 26 := ⟨rfl⟩
instance : Fld Pg 352 0 0 := ⟨rfl⟩
instance : Fld Pg 352 1 1 := ⟨rfl⟩
instance : Fld Pg 352 2 2 := ⟨rfl⟩
instance : ArrT Pg 364 4 150 := ⟨rfl⟩
instance : Zr Pg 364 [.int .u32 0, .int .u32 0, .int .u32 0, .int .u32 0] := ⟨rfl⟩
instance : ArrT Pg 369 4 172 := ⟨rfl⟩
instance : Fld Pg 379 0 0 := ⟨rfl⟩
instance : Fld Pg 379 1 1 := ⟨rfl⟩
instance : FnT Pg 6 := ⟨_, rfl, rfl, rfl⟩
instance : FnT Pg 7 := ⟨_, rfl, rfl, rfl⟩
instance : FnT Pg 8 := ⟨_, rfl, rfl, rfl⟩
instance : FnT Pg 9 := ⟨_, rfl, rfl, rfl⟩
instance : FnT Pg 10 := ⟨_, rfl, rfl, rfl⟩
instance : FnT Pg 11 := ⟨_, rfl, rfl, rfl⟩
instance : FnT Pg 12 := ⟨_, rfl, rfl, rfl⟩
instance : FnT Pg 13 := ⟨_, rfl, rfl, rfl⟩
instance : FnT Pg 14 := ⟨_, rfl, rfl, rfl⟩
instance : FnT Pg 15 := ⟨_, rfl, rfl, rfl⟩
instance : FnT Pg 16 := ⟨_, rfl, rfl, rfl⟩
instance : FnT Pg 17 := ⟨_, rfl, rfl, rfl⟩
instance : FnT Pg 18 := ⟨_, rfl, rfl, rfl⟩
instance : FnT Pg 19 := ⟨_, rfl, rfl, rfl⟩
instance : FnT Pg 20 := ⟨_, rfl, rfl, rfl⟩
instance : FnT Pg 21 := ⟨_, rfl, rfl, rfl⟩
instance : FnT Pg 23 := ⟨_, rfl, rfl, rfl⟩
instance : FnT Pg 26 := ⟨_, rfl, rfl, rfl⟩
instance : FnT Pg 27 := ⟨_, rfl, rfl, rfl⟩
instance : FnT Pg 28 := ⟨_, rfl, rfl, rfl⟩
instance : FnT Pg 29 := ⟨_, rfl, rfl, rfl⟩
instance : FnT Pg 30 := ⟨_, rfl, rfl, rfl⟩
instance : FnT Pg 31 := ⟨_, rfl, rfl, rfl⟩
instance : FnT Pg 32 := ⟨_, rfl, rfl, rfl⟩
instance : FnT Pg 33 := ⟨_, rfl, rfl, rfl⟩
instance : FnT Pg 34 := ⟨_, rfl, rfl, rfl⟩
instance : FnT Pg 35 := ⟨_, rfl, rfl, rfl⟩
instance : FnT Pg 36 := ⟨_, rfl, rfl, rfl⟩
instance : FnT Pg 37 := ⟨_, rfl, rfl, rfl⟩
instance : FnT Pg 38 := ⟨_, rfl, rfl, rfl⟩
instance : FnT Pg 39 := ⟨_, rfl, rfl, rfl⟩
instance : FnT Pg 40 := ⟨_, rfl, rfl, rfl⟩
instance : FnT Pg 41 := ⟨_, rfl, rfl, rfl⟩
instance : FnT Pg 42 := ⟨_, rfl, rfl, rfl⟩
instance : FnT Pg 43 := ⟨_, rfl, rfl, rfl⟩
instance : FnT Pg 44 := ⟨_, rfl, rfl, rfl⟩
instance : FnT Pg 45 := ⟨_, rfl, rfl, rfl⟩
instance : FnT Pg 46 := ⟨_, rfl, rfl, rfl⟩
instance : FnT Pg 47 := ⟨_, rfl, rfl, rfl⟩
instance : FnT Pg 48 := ⟨_, rfl, rfl, rfl⟩
instance : FnT Pg 49 := ⟨_, rfl, rfl, rfl⟩
instance : FnT Pg 50 := ⟨_, rfl, rfl, rfl⟩
instance : FnT Pg 51 := ⟨_, rfl, rfl, rfl⟩
instance : FnT Pg 52 := ⟨_, rfl, rfl, rfl⟩
instance : FnT Pg 53 := ⟨_, rfl, rfl, rfl⟩
instance : FnT Pg 54 := ⟨_, rfl, rfl, rfl⟩
instance : FnT Pg 55 := ⟨_, rfl, rfl, rfl⟩
instance : FnT Pg 56 := ⟨_, rfl, rfl, rfl⟩
instance : FnT Pg 60 := ⟨_, rfl, rfl, rfl⟩
instance : FnT Pg 61 := ⟨_, rfl, rfl, rfl⟩
instance : FnT Pg 62 := ⟨_, rfl, rfl, rfl⟩
instance : FnT Pg 63 := ⟨_, rfl, rfl, rfl⟩
instance : FnT Pg 64 := ⟨_, rfl, rfl, rfl⟩
instance : FnT Pg 65 := ⟨_, rfl, rfl, rfl⟩
instance : FnT Pg 66 := ⟨_, rfl, rfl, rfl⟩
instance : FnT Pg 67 := ⟨_, rfl, rfl, rfl⟩
instance : FnT Pg 68 := ⟨_, rfl, rfl, rfl⟩
instance : FnT Pg 69 := ⟨_, rfl, rfl, rfl⟩
instance : FnT Pg 70 := ⟨_, rfl, rfl, rfl⟩
instance : FnT Pg 71 := ⟨_, rfl, rfl, rfl⟩
instance : FnT Pg 72 := ⟨_, rfl, rfl, rfl⟩
instance : FnT Pg 73 := ⟨_, rfl, rfl, rfl⟩
instance : FnT Pg 74 := ⟨_, rfl, rfl, rfl⟩
instance : FnT Pg 75 := ⟨_, rfl, rfl, rfl⟩
instance : FnT Pg 76 := ⟨_, rfl, rfl, rfl⟩
instance : FnT Pg 77 := ⟨_, rfl, rfl, rfl⟩
instance : FnT Pg 78 := ⟨_, rfl, rfl, rfl⟩
instance : FnT Pg 79 := ⟨_, rfl, rfl, rfl⟩
instance : FnT Pg 80 := ⟨_, rfl, rfl, rfl⟩
instance : FnT Pg 81 := ⟨_, rfl, rfl, rfl⟩
instance : FnT Pg 82 := ⟨_, rfl, rfl, rfl⟩
instance : FnT Pg 83 := ⟨_, rfl, rfl, rfl⟩
instance : FnT Pg 84 := ⟨_, rfl, rfl, rfl⟩
instance : FnT Pg 85 := ⟨_, rfl, rfl, rfl⟩
instance : FnT Pg 86 := ⟨_, rfl, rfl, rfl⟩
instance : FnT Pg 87 := ⟨_, rfl, rfl, rfl⟩
instance : FnT Pg 88 := ⟨_, rfl, rfl, rfl⟩
instance : FnT Pg 89 := ⟨_, rfl, rfl, rfl⟩
instance : FnT Pg 90 := ⟨_, rfl, rfl, rfl⟩
instance : FnT Pg 91 := ⟨_, rfl, rfl, rfl⟩
instance : FnT Pg 92 := ⟨_, rfl, rfl, rfl⟩
instance : FnT Pg 93 := ⟨_, rfl, rfl, rfl⟩
instance : FnT Pg 94 := ⟨_, rfl, rfl, rfl⟩
instance : FnT Pg 95 := ⟨_, rfl, rfl, rfl⟩
instance : FnT Pg 97 := ⟨_, rfl, rfl, rfl⟩
instance : FnT Pg 98 := ⟨_, rfl, rfl, rfl⟩
instance : FnT Pg 99 := ⟨_, rfl, rfl, rfl⟩
instance : FnT Pg 100 := ⟨_, rfl, rfl, rfl⟩
instance : FnT Pg 102 := ⟨_, rfl, rfl, rfl⟩
instance : FnT Pg 103 := ⟨_, rfl, rfl, rfl⟩
instance : FnT Pg 104 := ⟨_, rfl, rfl, rfl⟩
instance : FnT Pg 105 := ⟨_, rfl, rfl, rfl⟩
instance : FnT Pg 106 := ⟨_, rfl, rfl, rfl⟩
instance : FnT Pg 107 := ⟨_, rfl, rfl, rfl⟩
instance : FnT Pg 108 := ⟨_, rfl, rfl, rfl⟩
instance : FnT Pg 109 := ⟨_, rfl, rfl, rfl⟩
instance : FnT Pg 110 := ⟨_, rfl, rfl, rfl⟩
instance : FnT Pg 111 := ⟨_, rfl, rfl, rfl⟩
instance : FnT Pg 112 := ⟨_, rfl, rfl, rfl⟩
instance : FnT Pg 114 := ⟨_, rfl, rfl, rfl⟩
instance : FnT Pg 115 := ⟨_, rfl, rfl, rfl⟩
instance : FnT Pg 116 := ⟨_, rfl, rfl, rfl⟩
instance : FnT Pg 117 := ⟨_, rfl, rfl, rfl⟩
instance : FnT Pg 118 := ⟨_, rfl, rfl, rfl⟩
instance : FnT Pg 119 := ⟨_, rfl, rfl, rfl⟩
instance : FnT Pg 120 := ⟨_, rfl, rfl, rfl⟩
instance : FnT Pg 121 := ⟨_, rfl, rfl, rfl⟩
instance : FnT Pg 122 := ⟨_, rfl, rfl, rfl⟩
instance : FnT Pg 123 := ⟨_, rfl, rfl, rfl⟩
instance : FnT Pg 124 := ⟨_, rfl, rfl, rfl⟩
instance : FnT Pg 125 := ⟨_, rfl, rfl, rfl⟩
instance : FnT Pg 126 := ⟨_, rfl, rfl, rfl⟩
instance : FnT Pg 127 := ⟨_, rfl, rfl, rfl⟩
instance : FnT Pg 128 := ⟨_, rfl, rfl, rfl⟩
instance : FnT Pg 129 := ⟨_, rfl, rfl, rfl⟩
instance : FnT Pg 130 := ⟨_, rfl, rfl, rfl⟩
instance : FnT Pg 131 := ⟨_, rfl, rfl, rfl⟩
instance : FnT Pg 132 := ⟨_, rfl, rfl, rfl⟩
instance : FnT Pg 133 := ⟨_, rfl, rfl, rfl⟩
instance : FnT Pg 134 := ⟨_, rfl, rfl, rfl⟩
instance : FnT Pg 135 := ⟨_, rfl, rfl, rfl⟩
instance : FnT Pg 136 := ⟨_, rfl, rfl, rfl⟩
instance : FnT Pg 137 := ⟨_, rfl, rfl, rfl⟩
instance : FnT Pg 138 := ⟨_, rfl, rfl, rfl⟩
instance : FnT Pg 139 := ⟨_, rfl, rfl, rfl⟩
instance : FnT Pg 140 := ⟨_, rfl, rfl, rfl⟩
instance : FnT Pg 141 := ⟨_, rfl, rfl, rfl⟩
instance : FnT Pg 142 := ⟨_, rfl, rfl, rfl⟩
instance : FnT Pg 143 := ⟨_, rfl, rfl, rfl⟩
instance : FnT Pg 144 := ⟨_, rfl, rfl, rfl⟩
instance : FnT Pg 145 := ⟨_, rfl, rfl, rfl⟩
instance : FnT Pg 146 := ⟨_, rfl, rfl, rfl⟩
instance : FnT Pg 147 := ⟨_, rfl, rfl, rfl⟩
instance : FnT Pg 148 := ⟨_, rfl, rfl, rfl⟩
instance : FnT Pg 149 := ⟨_, rfl, rfl, rfl⟩
instance : FnT Pg 150 := ⟨_, rfl, rfl, rfl⟩
instance : FnT Pg 151 := ⟨_, rfl, rfl, rfl⟩
instance : FnT Pg 152 := ⟨_, rfl, rfl, rfl⟩
instance : FnT Pg 153 := ⟨_, rfl, rfl, rfl⟩
instance : FnT Pg 154 := ⟨_, rfl, rfl, rfl⟩
instance : FnT Pg 155 := ⟨_, rfl, rfl, rfl⟩
instance : FnT Pg 156 := ⟨_, rfl, rfl, rfl⟩
instance : FnT Pg 157 := ⟨_, rfl, rfl, rfl⟩
instance : FnT Pg 158 := ⟨_, rfl, rfl, rfl⟩
instance : FnT Pg 160 := ⟨_, rfl, rfl, rfl⟩
instance : FnT Pg 161 := ⟨_, rfl, rfl, rfl⟩
instance : FnT Pg 162 := ⟨_, rfl, rfl, rfl⟩
instance : FnT Pg 163 := ⟨_, rfl, rfl, rfl⟩
instance : FnT Pg 164 := ⟨_, rfl, rfl, rfl⟩
instance : FnT Pg 165 := ⟨_, rfl, rfl, rfl⟩
instance : FnT Pg 166 := ⟨_, rfl, rfl, rfl⟩
instance : FnT Pg 167 := ⟨_, rfl, rfl, rfl⟩
instance : FnT Pg 168 := ⟨_, rfl, rfl, rfl⟩
instance : FnT Pg 169 := ⟨_, rfl, rfl, rfl⟩
instance : FnT Pg 170 := ⟨_, rfl, rfl, rfl⟩
instance : FnT Pg 171 := ⟨_, rfl, rfl, rfl⟩
instance : FnT Pg 172 := ⟨_, rfl, rfl, rfl⟩
instance : FnT Pg 173 := ⟨_, rfl, rfl, rfl⟩
instance : FnT Pg 174 := ⟨_, rfl, rfl, rfl⟩
instance : FnT Pg 175 := ⟨_, rfl, rfl, rfl⟩
instance : FnT Pg 176 := ⟨_, rfl, rfl, rfl⟩
instance : FnT Pg 177 := ⟨_, rfl, rfl, rfl⟩
instance : FnT Pg 178 := ⟨_, rfl, rfl, rfl⟩
instance : FnT Pg 179 := ⟨_, rfl, rfl, rfl⟩
instance : FnT Pg 180 := ⟨_, rfl, rfl, rfl⟩
instance : FnT Pg 181 := ⟨_, rfl, rfl, rfl⟩
instance : FnT Pg 182 := ⟨_, rfl, rfl, rfl⟩
instance : FnT Pg 183 := ⟨_, rfl, rfl, rfl⟩
instance : FnT Pg 184 := ⟨_, rfl, rfl, rfl⟩
instance : FnT Pg 186 := ⟨_, rfl, rfl, rfl⟩
instance : FnT Pg 187 := ⟨_, rfl, rfl, rfl⟩
instance : FnT Pg 188 := ⟨_, rfl, rfl, rfl⟩
instance : FnT Pg 189 := ⟨_, rfl, rfl, rfl⟩
instance : FnT Pg 190 := ⟨_, rfl, rfl, rfl⟩
instance : FnT Pg 199 := ⟨_, rfl, rfl, rfl⟩
instance : FnT Pg 200 := ⟨_, rfl, rfl, rfl⟩
instance : FnT Pg 201 := ⟨_, rfl, rfl, rfl⟩
instance : FnT Pg 202 := ⟨_, rfl, rfl, rfl⟩
instance : FnT Pg 203 := ⟨_, rfl, rfl, rfl⟩
instance : FnT Pg 204 := ⟨_, rfl, rfl, rfl⟩
instance : FnT Pg 205 := ⟨_, rfl, rfl, rfl⟩
instance : FnT Pg 206 := ⟨_, rfl, rfl, rfl⟩
instance : FnT Pg 207 := ⟨_, rfl, rfl, rfl⟩
instance : FnT Pg 208 := ⟨_, rfl, rfl, rfl⟩
instance : FnT Pg 209 := ⟨_, rfl, rfl, rfl⟩
instance : FnT Pg 210 := ⟨_, rfl, rfl, rfl⟩
instance : FnT Pg 211 := ⟨_, rfl, rfl, rfl⟩
instance : FnT Pg 212 := ⟨_, rfl, rfl, rfl⟩
instance : FnT Pg 213 := ⟨_, rfl, rfl, rfl⟩
instance : FnT Pg 214 := ⟨_, rfl, rfl, rfl⟩
instance : FnT Pg 215 := ⟨_, rfl, rfl, rfl⟩
instance : FnT Pg 216 := ⟨_, rfl, rfl, rfl⟩
instance : FnT Pg 217 := ⟨_, rfl, rfl, rfl⟩
instance : FnT Pg 218 := ⟨_, rfl, rfl, rfl⟩
instance : FnT Pg 219 := ⟨_, rfl, rfl, rfl⟩
instance : FnT Pg 220 := ⟨_, rfl, rfl, rfl⟩
instance : FnT Pg 221 := ⟨_, rfl, rfl, rfl⟩
instance : FnT Pg 222 := ⟨_, rfl, rfl, rfl⟩
instance : FnT Pg 223 := ⟨_, rfl, rfl, rfl⟩
instance : FnT Pg 224 := ⟨_, rfl, rfl, rfl⟩
instance : FnT Pg 225 := ⟨_, rfl, rfl, rfl⟩
instance : FnT Pg 226 := ⟨_, rfl, rfl, rfl⟩
instance : FnT Pg 227 := ⟨_, rfl, rfl, rfl⟩
instance : FnT Pg 233 := ⟨_, rfl, rfl, rfl⟩
instance : FnT Pg 234 := ⟨_, rfl, rfl, rfl⟩
instance : FnT Pg 235 := ⟨_, rfl, rfl, rfl⟩
instance : FnT Pg 236 := ⟨_, rfl, rfl, rfl⟩
instance : FnT Pg 237 := ⟨_, rfl, rfl, rfl⟩
instance : FnT Pg 238 := ⟨_, rfl, rfl, rfl⟩
instance : FnT Pg 239 := ⟨_, rfl, rfl, rfl⟩
instance : FnT Pg 240 := ⟨_, rfl, rfl, rfl⟩
instance : FnT Pg 241 := ⟨_, rfl, rfl, rfl⟩
instance : FnT Pg 242 := ⟨_, rfl, rfl, rfl⟩
instance : FnT Pg 243 := ⟨_, rfl, rfl, rfl⟩
instance : FnT Pg 244 := ⟨_, rfl, rfl, rfl⟩
instance : FnT Pg 245 := ⟨_, rfl, rfl, rfl⟩
instance : FnT Pg 246 := ⟨_, rfl, rfl, rfl⟩
instance : FnT Pg 247 := ⟨_, rfl, rfl, rfl⟩
instance : FnT Pg 248 := ⟨_, rfl, rfl, rfl⟩
instance : FnT Pg 256 := ⟨_, rfl, rfl, rfl⟩
instance : FnT Pg 257 := ⟨_, rfl, rfl, rfl⟩
instance : FnT Pg 259 := ⟨_, rfl, rfl, rfl⟩
instance : FnT Pg 260 := ⟨_, rfl, rfl, rfl⟩
instance : FnT Pg 261 := ⟨_, rfl, rfl, rfl⟩
instance : FnT Pg 262 := ⟨_, rfl, rfl, rfl⟩
instance : FnT Pg 263 := ⟨_, rfl, rfl, rfl⟩
instance : FnT Pg 264 := ⟨_, rfl, rfl, rfl⟩
instance : FnT Pg 266 := ⟨_, rfl, rfl, rfl⟩
instance : FnT Pg 267 := ⟨_, rfl, rfl, rfl⟩
instance : FnT Pg 268 := ⟨_, rfl, rfl, rfl⟩
instance : FnT Pg 270 := ⟨_, rfl, rfl, rfl⟩
instance : FnT Pg 271 := ⟨_, rfl, rfl, rfl⟩
instance : FnT Pg 272 := ⟨_, rfl, rfl, rfl⟩
instance : FnT Pg 280 := ⟨_, rfl, rfl, rfl⟩
instance : FnT Pg 281 := ⟨_, rfl, rfl, rfl⟩
instance : FnT Pg 282 := ⟨_, rfl, rfl, rfl⟩
instance : FnT Pg 283 := ⟨_, rfl, rfl, rfl⟩
theorem mixed : Pg.follows .mixedOrders = true := rfl
end Go.Proofs.YtbalcgjphkdecaaGreatDoor
namespace Go.Proofs.YtbalcgjphkdecaaGreatDoor
open Go.RowKit Go.Lg
set_option maxRecDepth 100000
attribute [local irreducible] JC JL JD RN RT Eff Yld YldIf Tr
theorem Clone_ok {A : Option Addr} {m c : Nat} {bs : List UInt8} {W : World} {r : List Ent} (hl : bs.length = m) (hm : m ≤ 70368744177664) (hs : Src W r A (bs.map bv)) (hA : A = none → m = 0 ∧ c = 0) :
  Tr Pg 102 #[.slice A m c] W r fun v l' => ∃ le, Lg.Own 5 1 v m (bs.map bv) le ∧ l' = le ++ r ∧ (v = .slice none 0 0 ↔ A = none) := by
 cases A with
 | none =>
  obtain ⟨rfl, rfl⟩ := hA rfl
  obtain rfl : bs = [] := List.eq_nil_of_length_eq_zero hl
  refine Tr.of_code (args := [_]) Tryz.func102 rfl Tryz.ntmps102 lE_ ?_
  refine AU1 ?_
  refine JC.ret (RT.one rfl rfl (by conv => lhs; whnf) ?_)
  exact ⟨[], Lg.Own.nil _ _, rfl, by simp⟩
 | some a =>
  refine Tr.of_code (args := [_]) Tryz.func102 rfl Tryz.ntmps102 lE_ ?_
  refine AU1 ?_
  refine JLs (e_buildSlice [] rfl lE_ rfl (by simp) rfl fun b => ?_)
  refine AU1 ?_
  refine JLs (e_appendP [] [_] rfl rfl (n := 0) (xs := []) ⟨rfl, .inr ⟨b, 0, rfl, Nat.le_refl _, Nat.zero_le _, rfl⟩⟩ rfl (by simpa using hl) (hs.mono fun e he => List.mem_cons_of_mem _ he) (bv_one bs) (by omega) (by unfold maxLen; omega) fun v' le' ho hn => ?_)
  refine AU1 ?_
  refine JC.ret (RT.one rfl rfl (by conv => lhs; whnf) ?_)
  refine ⟨le', by simpa using ho, rfl, fun hv => ?_, fun h => by cases h⟩
  have := (hn hv).1
  cases this
end Go.Proofs.YtbalcgjphkdecaaGreatDoor
namespace Go.Lg
open Go.RowKit
theorem wrap_u {k : IntKind} (hs : k.signed = false) (m : Nat) : k.wrap (m : Int) = ((m % 2 ^ k.bits : Nat) : Int) := by
 simp only [IntKind.wrap, hs, Bool.false_and, Bool.false_eq_true, if_false]
 norm_cast
theorem wrap_lt {k : IntKind} (hs : k.signed = false) {m : Nat} (h : m < 2 ^ k.bits) : k.wrap (m : Int) = (m : Int) := by
 rw [wrap_u hs, Nat.mod_eq_of_lt h]
theorem ofInt_toNat {n : Nat} (a : BitVec n) : BitVec.ofInt n (a.toNat : Int) = a := by
 rw [BitVec.ofInt_natCast, BitVec.ofNat_toNat, BitVec.setWidth_eq]
theorem bits_xor {k : IntKind} (hs : k.signed = false) (a b : BitVec k.bits) : bits .xor k a.toNat b.toNat = ((a ^^^ b).toNat : Int) := by
 simp only [bits, ofInt_toNat]
 exact wrap_lt hs (a ^^^ b).isLt
theorem bits_or {k : IntKind} (hs : k.signed = false) (a b : BitVec k.bits) : bits .or k a.toNat b.toNat = ((a ||| b).toNat : Int) := by
 simp only [bits, ofInt_toNat]
 exact wrap_lt hs (a ||| b).isLt
theorem add_bv {k : IntKind} (hs : k.signed = false) (a b : BitVec k.bits) : k.wrap ((a.toNat : Int) + b.toNat) = ((a + b).toNat : Int) := by
 rw [← Int.natCast_add, wrap_u hs, BitVec.toNat_add]
theorem shl_bv {k : IntKind} (hs : k.signed = false) (a : BitVec k.bits) {n : Nat} (hn : n ≤ k.bits) : k.wrap ((a.toNat : Int) * 2 ^ (min ((n : Int)).toNat k.bits)) = ((a <<< n).toNat : Int) := by
 rw [Int.toNat_natCast, Nat.min_eq_left hn, BitVec.toNat_shiftLeft, Nat.shiftLeft_eq]
 have : (a.toNat : Int) * 2 ^ n = ((a.toNat * 2 ^ n : Nat) : Int) := by norm_cast
 rw [this, wrap_u hs]
theorem shr_bv {k : IntKind} (a : BitVec k.bits) {n : Nat} (hn : n ≤ k.bits) : (a.toNat : Int).fdiv (2 ^ (min ((n : Int)).toNat k.bits)) = ((a >>> n).toNat : Int) := by
 rw [Int.toNat_natCast, Nat.min_eq_left hn, BitVec.toNat_ushiftRight, Nat.shiftRight_eq_div_pow]
 rw [Int.fdiv_eq_ediv_of_nonneg _ (Int.le_of_lt (Int.pow_pos (by decide)))]
 simp [Int.natCast_ediv, Int.natCast_pow]
def w64 (x : BitVec 64) : Value := .int .u64 (x.toNat : Int)
def w32 (x : BitVec 32) : Value := .int .u32 (x.toNat : Int)
section
variable {P : Program} {ρ : Operand → Value} {d : Option Tmp} {ty : TypeId} {pos : String} {af : Array Edge} {gd : Option (Nat × Bool)} {W : World} {l : List Ent} {Ψ : Value → List Ent → Prop}
variable {t yt : TypeId} {x y : Operand}
theorem y_add64 {a b : BitVec 64} (hx : ρ x = w64 a) (hy : ρ y = w64 b) : Yld P ⟨d, .binOp .add t x y yt, ty, pos, af, gd⟩ ρ (w64 (a + b)) := y_add hx hy (add_bv (k := .u64) rfl a b)
theorem y_xor64 {a b : BitVec 64} (hx : ρ x = w64 a) (hy : ρ y = w64 b) : Yld P ⟨d, .binOp .xor t x y yt, ty, pos, af, gd⟩ ρ (w64 (a ^^^ b)) := by
 have := y_bits (P := P) (ρ := ρ) (d := d) (ty := ty) (pos := pos) (af := af) (gd := gd) (t := t) (yt := yt) (op := .xor) hx hy (.inr (.inr rfl))
 rwa [show bits .xor .u64 (a.toNat : Int) b.toNat = ((a ^^^ b).toNat : Int) from bits_xor (k := .u64) rfl a b] at this
theorem y_or64 {a b : BitVec 64} (hx : ρ x = w64 a) (hy : ρ y = w64 b) : Yld P ⟨d, .binOp .or t x y yt, ty, pos, af, gd⟩ ρ (w64 (a ||| b)) := by
 have := y_bits (P := P) (ρ := ρ) (d := d) (ty := ty) (pos := pos) (af := af) (gd := gd) (t := t) (yt := yt) (op := .or) hx hy (.inr (.inl rfl))
 rwa [show bits .or .u64 (a.toNat : Int) b.toNat = ((a ||| b).toNat : Int) from bits_or (k := .u64) rfl a b] at this
theorem y_andC {k : IntKind} {a b c : Int} (hx : ρ x = .int k a) (hy : ρ y = .int k b) (hc : bits .and k a b = c) : Yld P ⟨d, .binOp .and t x y yt, ty, pos, af, gd⟩ ρ (.int k c) := by
 have := y_bits (P := P) (ρ := ρ) (d := d) (ty := ty) (pos := pos) (af := af) (gd := gd) (t := t) (yt := yt) (op := .and) hx hy (.inl rfl)
 rwa [hc] at this
theorem y_shl64 {a : BitVec 64} {yk : IntKind} {n : Nat} (hx : ρ x = w64 a) (hy : ρ y = .int yk (n : Int)) (hn : n ≤ 64) : Yld P ⟨d, .binOp .shl t x y yt, ty, pos, af, gd⟩ ρ (w64 (a <<< n)) :=
 y_shl hx hy (Int.natCast_nonneg n) (shl_bv (k := .u64) rfl a hn)
theorem y_shr64 {a : BitVec 64} {yk : IntKind} {n : Nat} (hx : ρ x = w64 a) (hy : ρ y = .int yk (n : Int)) (hn : n ≤ 64) : Yld P ⟨d, .binOp .shr t x y yt, ty, pos, af, gd⟩ ρ (w64 (a >>> n)) :=
 y_shr hx hy (Int.natCast_nonneg n) (shr_bv (k := .u64) a hn)
theorem y_add32 {a b : BitVec 32} (hx : ρ x = w32 a) (hy : ρ y = w32 b) : Yld P ⟨d, .binOp .add t x y yt, ty, pos, af, gd⟩ ρ (w32 (a + b)) := y_add hx hy (add_bv (k := .u32) rfl a b)
theorem y_xor32 {a b : BitVec 32} (hx : ρ x = w32 a) (hy : ρ y = w32 b) : Yld P ⟨d, .binOp .xor t x y yt, ty, pos, af, gd⟩ ρ (w32 (a ^^^ b)) := by
 have := y_bits (P := P) (ρ := ρ) (d := d) (ty := ty) (pos := pos) (af := af) (gd := gd) (t := t) (yt := yt) (op := .xor) hx hy (.inr (.inr rfl))
 rwa [show bits .xor .u32 (a.toNat : Int) b.toNat = ((a ^^^ b).toNat : Int) from bits_xor (k := .u32) rfl a b] at this
theorem y_or32 {a b : BitVec 32} (hx : ρ x = w32 a) (hy : ρ y = w32 b) : Yld P ⟨d, .binOp .or t x y yt, ty, pos, af, gd⟩ ρ (w32 (a ||| b)) := by
 have := y_bits (P := P) (ρ := ρ) (d := d) (ty := ty) (pos := pos) (af := af) (gd := gd) (t := t) (yt := yt) (op := .or) hx hy (.inr (.inl rfl))
 rwa [show bits .or .u32 (a.toNat : Int) b.toNat = ((a ||| b).toNat : Int) from bits_or (k := .u32) rfl a b] at this
theorem y_shl32 {a : BitVec 32} {yk : IntKind} {n : Nat} (hx : ρ x = w32 a) (hy : ρ y = .int yk (n : Int)) (hn : n ≤ 32) : Yld P ⟨d, .binOp .shl t x y yt, ty, pos, af, gd⟩ ρ (w32 (a <<< n)) :=
 y_shl hx hy (Int.natCast_nonneg n) (shl_bv (k := .u32) rfl a hn)
theorem y_shr32 {a : BitVec 32} {yk : IntKind} {n : Nat} (hx : ρ x = w32 a) (hy : ρ y = .int yk (n : Int)) (hn : n ≤ 32) : Yld P ⟨d, .binOp .shr t x y yt, ty, pos, af, gd⟩ ρ (w32 (a >>> n)) :=
 y_shr hx hy (Int.natCast_nonneg n) (shr_bv (k := .u32) a hn)
theorem y_conv64 {s : TypeId} {k k0 : IntKind} {n : Nat} [hs : IntT P s k0] [ht : IntT P t .u64] (hx : ρ x = .int k (n : Int)) : Yld P ⟨d, .convert s t x, ty, pos, af, gd⟩ ρ (w64 (BitVec.ofNat 64 n)) :=
 y_conv hx (by rw [wrap_u rfl, BitVec.toNat_ofNat]; rfl)
theorem y_conv32 {s : TypeId} {k k0 : IntKind} {n : Nat} [hs : IntT P s k0] [ht : IntT P t .u32] (hx : ρ x = .int k (n : Int)) : Yld P ⟨d, .convert s t x, ty, pos, af, gd⟩ ρ (w32 (BitVec.ofNat 32 n)) :=
 y_conv hx (by rw [wrap_u rfl, BitVec.toNat_ofNat]; rfl)
theorem y_conv8 {s : TypeId} {k k0 : IntKind} {n : Nat} [hs : IntT P s k0] [ht : IntT P t .u8] (hx : ρ x = .int k (n : Int)) : Yld P ⟨d, .convert s t x, ty, pos, af, gd⟩ ρ (bv (UInt8.ofNat n)) :=
 y_conv hx (by rw [wrap_u rfl]; simp [IntKind.bits])
theorem y_xor8 {a b : UInt8} (hx : ρ x = bv a) (hy : ρ y = bv b) : Yld P ⟨d, .binOp .xor t x y yt, ty, pos, af, gd⟩ ρ (bv (a ^^^ b)) := by
 have := y_bits (P := P) (ρ := ρ) (d := d) (ty := ty) (pos := pos) (af := af) (gd := gd) (t := t) (yt := yt) (op := .xor) hx hy (.inr (.inr rfl))
 rwa [show bits .xor .u8 (a.toNat : Int) b.toNat = ((a ^^^ b).toNat : Int) from bits_xor (k := .u8) rfl a.toBitVec b.toBitVec] at this
theorem y_sliceA {e : TypeId} {lo hi : Option Operand} {b o n sz p q : Nat} [ht : ArrT P t n e] [hs : Sz P e sz] (hx : ρ x = .pointer (some ⟨b, o, none⟩))
  (hlo : match lo with | none => p = 0 | some y => ∃ k, ρ y = .int k (p : Int)) (hhi : match hi with | none => q = n | some y => ∃ k, ρ y = .int k (q : Int)) (hpq : p ≤ q) (hqn : q ≤ n) (hpn : p < n) :
  Yld P ⟨d, .slice t x lo hi none, ty, pos, af, gd⟩ ρ (.slice (some ⟨b, o + p * sz, none⟩) (q - p) (n - p)) := fun w => by
 have e1 : (Instr.sliceBounds false n n (lo.map ρ) (hi.map ρ) none).run P w = .ok (p, q, n) w := by
  cases lo with
  | none =>
   subst hlo
   cases hi with
   | none => subst hhi; simp [Instr.sliceBounds]
   | some y => obtain ⟨k, hk⟩ := hhi; simp [Instr.sliceBounds, Instr.sliceBound, hk, asIntOf, hqn]
  | some z =>
   obtain ⟨k', hk'⟩ := hlo
   cases hi with
   | none => subst hhi; simp [Instr.sliceBounds, Instr.sliceBound, hk', asIntOf, hpq]
   | some y => obtain ⟨k, hk⟩ := hhi; simp [Instr.sliceBounds, Instr.sliceBound, hk, hk', asIntOf, hqn, hpq]
 have e2 : (Instr.sliceAt t (.pointer (some ⟨b, o, none⟩)) (lo.map ρ) (hi.map ρ) none).run P w = .ok (.slice (some ⟨b, o + p * sz, none⟩) (q - p) (n - p)) w := by
  simp only [Instr.sliceAt, Sem.run_bind, run_underlying ht.h, Result.andThen_ok, Instr.sureAddr, Sem.run_pure, e1, run_sizeOf hs.h]
  simp [addr_add, show ¬ n = p from by omega]
 simp [execOp, hx, e2]
theorem y_cap {e : TypeId} {a : Option Addr} {len cap : Nat} [ht : SliceT P t e] (hx : ρ x = .slice a len cap) : Yld P ⟨d, .call { callee := .builtin .cap, args := #[x], argTypes := #[t] }, ty, pos, af, gd⟩ ρ (.int .i64 (cap : Int)) := fun w => by
 simp [execOp, resolve, invoke, builtin, Builtin.cap_, hx, run_underlying ht.h, goInt]
theorem Src.at_ {r : List Ent} {A : Option Addr} {xs : List Value} (h : Src W r A xs) (h0 : 0 < xs.length) : ∃ b o, A = some ⟨b, o, none⟩ ∧ ∀ l, (∀ e ∈ r, e ∈ l) → ∀ w, SH W l w → ∀ j u, xs[j]? = some u → w.cell? ⟨b, o + j, none⟩ = some u := by
 rcases h with h | ⟨a, rfl, h⟩ | ⟨g, o, T, ys, p, rfl, h2, h3, h4⟩
 ·subst h; simp at h0
 ·obtain ⟨b, o, spot⟩ := a
  have hc := h 0 _ (List.getElem?_eq_getElem h0)
  have hspot : spot = none := by simpa [Addr.add] using World.cell?_spot hc
  subst hspot
  refine ⟨b, o, rfl, fun l _ w hs j u hu => ?_⟩
  have := h j u hu
  rw [addr_add] at this
  exact (Below.cell hs.below (World.block_lt_of_cell? W _ this)).trans this
 ·refine ⟨g, o, rfl, fun l hl w hs j u hu => ?_⟩
  have hr := Src.rd (.inr (.inr ⟨g, o, T, ys, p, rfl, h2, h3, h4⟩) : Src W r (some ⟨g, o, none⟩) xs) hl
  rcases hr with h0' | ⟨a, ha, hc⟩
  ·subst h0'; simp at h0
  ·cases ha
   have := hc w hs j u hu
   rwa [addr_add] at this
theorem e_loadS {a : Addr} {u : Value} [ha : Agg P t false] (hx : ρ x = .pointer (some a)) (hc : ∀ w, SH W l w → w.cell? a = some u) (h : Ψ u l) : Eff P W l ⟨d, .load t x, ty, pos, af, gd⟩ ρ Ψ := by
 intro w hw
 unfold OpW
 simp only [execOp, hx, Instr.loadAt, Instr.sureAddr, Sem.run_bind, Sem.run_pure, Result.andThen_ok, run_loadVar_one P (hc w hw) ha.h]
 exact ⟨_, hw, h⟩
theorem e_growNil {e u : TypeId} {by_ n : Nat} {z : Value} {s : Operand} {k ku : IntKind} [ht : SliceT P t e] [hi : RowT P e 1 by_] [hz : Zr P e [z]] [hu : IntT P u ku]
  (hx : ρ s = .slice none 0 0) (hy : ρ x = .int k (n : Int)) (h0 : 0 < n) (hb : n * by_ ≤ 140737488355328) (h63 : n ≤ maxLen)
  (h : ∀ b cap, n ≤ cap → cap ≤ maxLen → Ψ (.slice (some ⟨b, 0, none⟩) n cap) ((b, isR e (cap * 1) []) :: l)) : Eff P W l ⟨d, .call { callee := .builtin .append, args := #[s, x], argTypes := #[t, u] }, ty, pos, af, gd⟩ ρ Ψ := by
 intro w hw
 obtain ⟨i, zv, hi1, hi2, hi3, hi4, hi5, hi6⟩ := rowB_spec hi.h
 have h63' : n ≤ 9223372036854775807 := by simp only [maxLen] at h63; omega
 have hwr : IntKind.i64.wrap (n : Int) = (n : Int) := wrap_add (by omega) (by omega)
 have hn : ¬ n = 0 := by omega
 have hb' : ¬ (281474976710656 < (n : Int) * (i.bytes : Int)) := by
  rw [hi4, ← Int.natCast_mul]
  omega
 have h48' : ¬ (281474976710656 < Builtin.nextslicecap n 0 * i.bytes) := by rw [nextslicecap_zero h0, hi4]; omega
 have hge := grownCap_ge w n 0 e
 have hcm := grownCap_le_maxLen w n 0 e h63
 have hr : (Builtin.append_ #[t, u] ty #[.slice none 0 0, .int k (n : Int)]).run P w =
   .ok (.slice (some ⟨w.heap.size, 0, none⟩) n (grownCap w n 0 e)) (w.drew.alloc (.cells (Builtin.zeroCells zv.cells n ++ Builtin.zeroCells zv.cells (grownCap w n 0 e - n)) e)) := by
  have h63'' : ¬ (9223372036854775807 < (n : Int)) := by omega
  simp [Builtin.append_, run_underlying ht.h, run_underlying hu.h, sizeOf, typeInfo, zeroValue, hi1, hi2, hi3, asInt, asIntOf, hwr, show ¬ ((n : Int) < 0) from by omega, hb', hn, h63'', h48', Question.forced, run_firstCells_none, newRow, grownCap]
 unfold OpW
 simp only [execOp, resolve, Sem.run_bind, Sem.run_pure, Result.andThen_ok, invoke, builtin, List.map_toArray, List.map_cons, List.map_nil, hx, hy, hr]
 refine ⟨_, hw.drew.alloc _ (p := isR e (grownCap w n 0 e * 1) []) ?_, h _ _ hge hcm⟩
 refine ⟨_, rfl, ?_, by simp⟩
 simp only [Array.size_append, size_zeroCells, hi5]
 omega
end
theorem Src.sub {W : World} {r : List Ent} {b o : Nat} {xs ys : List Value} (h : Src W r (some ⟨b, o, none⟩) xs) (k : Nat) (hx : ∀ j u, ys[j]? = some u → xs[k + j]? = some u) : Src W r (some ⟨b, o + k, none⟩) ys := by
 rcases h with h | ⟨a, ha, h⟩ | ⟨g, o', T, zs, p, h1, h2, h3, h4⟩
 ·subst h
  refine .inl (List.eq_nil_iff_forall_not_mem.2 fun u hu => ?_)
  obtain ⟨j, hj⟩ := List.mem_iff_getElem?.1 hu
  have := hx j u hj
  simp at this
 ·cases ha
  refine .inr (.inl ⟨_, rfl, fun j u hu => ?_⟩)
  have := h (k + j) u (hx j u hu)
  rw [addr_add] at this ⊢
  rw [Nat.add_assoc]
  exact this
 ·cases h1
  exact .inr (.inr ⟨_, _, T, zs, p, rfl, h2, h3, fun j u hu => by rw [Nat.add_assoc]; exact h4 _ _ (hx j u hu)⟩)
theorem Src.take {W : World} {r : List Ent} {A : Option Addr} {xs : List Value} (h : Src W r A xs) (k : Nat) : Src W r A (xs.take k) := by
 have hx : ∀ j u, (xs.take k)[j]? = some u → xs[j]? = some u := fun j u hu => by
  rw [List.getElem?_take] at hu
  split at hu
  ·exact hu
  ·cases hu
 rcases h with h | ⟨a, ha, h⟩ | ⟨g, o', T, zs, p, h1, h2, h3, h4⟩
 ·subst h; exact .inl (by simp)
 ·exact .inr (.inl ⟨a, ha, fun j u hu => h j u (hx j u hu)⟩)
 ·exact .inr (.inr ⟨g, o', T, zs, p, h1, h2, h3, fun j u hu => h4 j u (hx j u hu)⟩)
theorem Src.drop {W : World} {r : List Ent} {b o : Nat} {xs : List Value} (h : Src W r (some ⟨b, o, none⟩) xs) (k : Nat) : Src W r (some ⟨b, o + k, none⟩) (xs.drop k) :=
 h.sub k fun j u hu => by rwa [List.getElem?_drop] at hu
theorem Src.from_ {W : World} {r : List Ent} {b o cap : Nat} {xs : List Value} (h : Src W r (some ⟨b, o, none⟩) xs) (hc : xs.length ≤ cap) (k : Nat) :
  Src W r (if cap = k then some ⟨b, o, none⟩ else some ⟨b, o + k * 1, none⟩) (xs.drop k) := by
 by_cases hk : cap = k
 ·rw [if_pos hk, List.drop_of_length_le (by omega)]
  exact Src.nil ..
 ·rw [if_neg hk, Nat.mul_one]
  exact h.drop k
theorem spl_one : ∀ (cs : List Value) (o : Nat) (v : Value), spl cs o [v] = cs.set o v
 | [], _, _ => rfl
 | c :: cs, 0, v => by simp [spl]
 | c :: cs, o + 1, v => by simp [spl, spl_one cs o v]
theorem spl_all : ∀ (cs vs : List Value), cs.length = vs.length → spl cs 0 vs = vs
 | [], [], _ => rfl
 | c :: cs, v :: vs, h => by simp [spl, spl_all cs vs (by simpa using h)]
def RowsAt (W : World) (r : List Ent) (A : Option Addr) (bss : List (List UInt8)) : Prop :=
 ∃ hs : List Value, hs.length = bss.length ∧ Src W r A hs ∧ ∀ (i : Nat) (bs : List UInt8), bss[i]? = some bs → ∃ (Ai : Option Addr) (c : Nat), hs[i]? = some (Value.slice Ai bs.length c) ∧ Src W r Ai (bs.map bv) ∧ (Ai = none → bs.length = 0 ∧ c = 0)
theorem RowsAt.mono {W : World} {r r' : List Ent} {A : Option Addr} {bss : List (List UInt8)} (h : RowsAt W r A bss) (hr : ∀ e ∈ r, e ∈ r') : RowsAt W r' A bss := by
 obtain ⟨hs, h1, h2, h3⟩ := h
 refine ⟨hs, h1, h2.mono hr, fun i bs hb => ?_⟩
 obtain ⟨Ai, c, h4, h5, h6⟩ := h3 i bs hb
 exact ⟨Ai, c, h4, h5.mono hr, h6⟩
theorem y_sliceG {P : Program} {ρ : Operand → Value} {d : Option Tmp} {ty : TypeId} {pos : String} {af : Array Edge} {gd : Option (Nat × Bool)} {t e : TypeId} {x : Operand} {lo hi : Option Operand} {A : Option Addr} {len cap sz l h : Nat} [ht : SliceT P t e] [hs : Sz P e sz] (hx : ρ x = .slice A len cap)
  (hlo : match lo with | none => l = 0 | some y => ∃ k, ρ y = .int k (l : Int)) (hhi : match hi with | none => h = len | some y => ∃ k, ρ y = .int k (h : Int)) (hlh : l ≤ h) (hhc : h ≤ cap) :
  Yld P ⟨d, .slice t x lo hi none, ty, pos, af, gd⟩ ρ (.slice (if cap = l then A else A.map (·.add (l * sz))) (h - l) (cap - l)) := fun w => by
 have e1 : (Instr.sliceBounds true len cap (lo.map ρ) (hi.map ρ) none).run P w = .ok (l, h, cap) w := by
  cases lo with
  | none =>
   subst hlo
   cases hi with
   | none => subst hhi; simp [Instr.sliceBounds]
   | some y => obtain ⟨k, hk⟩ := hhi; simp [Instr.sliceBounds, Instr.sliceBound, hk, asIntOf, hhc]
  | some z =>
   obtain ⟨k', hk'⟩ := hlo
   cases hi with
   | none => subst hhi; simp [Instr.sliceBounds, Instr.sliceBound, hk', asIntOf, hlh]
   | some y => obtain ⟨k, hk⟩ := hhi; simp [Instr.sliceBounds, Instr.sliceBound, hk, hk', asIntOf, hhc, hlh]
 have e2 : (Instr.sliceAt t (.slice A len cap) (lo.map ρ) (hi.map ρ) none).run P w = .ok (.slice (if cap = l then A else A.map (·.add (l * sz))) (h - l) (cap - l)) w := by
  simp only [Instr.sliceAt, Sem.run_bind, run_underlying ht.h, Result.andThen_ok, Instr.slice, e1, run_sizeOf hs.h]
  simp
 simp [execOp, hx, e2]
theorem Src.fromG {W : World} {r : List Ent} {A : Option Addr} {cap : Nat} {xs : List Value} (h : Src W r A xs) (hc : xs.length ≤ cap) (k : Nat) :
  Src W r (if cap = k then A else A.map (·.add (k * 1))) (xs.drop k) := by
 rcases Nat.eq_zero_or_pos xs.length with h0 | h0
 ·rw [List.eq_nil_of_length_eq_zero h0, List.drop_nil]
  exact Src.nil ..
 ·obtain ⟨b, o, rfl, -⟩ := h.at_ h0
  have := h.from_ hc k
  simpa [addr_add] using this
end Go.Lg
namespace Go.Lg
open Go.RowKit
section
variable {P : Program} {ρ : Operand → Value} {d : Option Tmp} {ty : TypeId} {pos : String} {af : Array Edge} {gd : Option (Nat × Bool)} {W : World} {l : List Ent} {Ψ : Value → List Ent → Prop}
theorem y_quo {t yt : TypeId} {x y : Operand} {a b : Nat} (hx : ρ x = .int .i64 (a : Int)) (hy : ρ y = .int .i64 (b : Int)) (hb : 0 < b) (ha : a ≤ 9223372036854775807) : Yld P ⟨d, .binOp .quo t x y yt, ty, pos, af, gd⟩ ρ (.int .i64 ((a / b : Nat) : Int)) :=
 y_bin hx hy fun w => by
  have hb0 : ¬ ((b : Int) = 0) := by omega
  have hq : (a : Int).tdiv (b : Int) = ((a / b : Nat) : Int) := by rw [Int.tdiv_eq_ediv_of_nonneg (by omega)]; norm_cast
  have hd : a / b ≤ a := Nat.div_le_self ..
  have hw0 : ∀ q : Nat, q ≤ a → IntKind.i64.wrap (q : Int) = (q : Int) := fun q h => wrap_add (by omega) (by omega)
  have hw := hw0 _ hd
  simp only [binOp, if_false, Op.intDiv, hb0, hq, hw, ne_eq, not_true]
  simp
theorem y_rem {t yt : TypeId} {x y : Operand} {a b : Nat} (hx : ρ x = .int .i64 (a : Int)) (hy : ρ y = .int .i64 (b : Int)) (hb : 0 < b) : Yld P ⟨d, .binOp .rem t x y yt, ty, pos, af, gd⟩ ρ (.int .i64 ((a % b : Nat) : Int)) :=
 y_bin hx hy fun w => by
  have hb0 : ¬ ((b : Int) = 0) := by omega
  have hq : (a : Int).tmod (b : Int) = ((a % b : Nat) : Int) := by rw [Int.tmod_eq_emod_of_nonneg (by omega)]; norm_cast
  simp only [binOp, if_false, Op.intDiv, hb0, hq, ne_eq, not_true]
  simp
theorem y_indexV {t e : TypeId} {x i : Operand} {cs : Array Value} {len j : Nat} {k : IntKind} {v : Value} [ht : ArrT P t len e] [hs : Sz P e 1] [ha : Agg P e false] (hx : ρ x = .agg cs) (hi : ρ i = .int k (j : Int)) (hj : j < len) (hv : cs[j]? = some v) :
  Yld P ⟨d, .index t x i, ty, pos, af, gd⟩ ρ v := fun w => by
 have h0 : (0 : Int) ≤ (j : Int) ∧ (j : Int) < (len : Int) := ⟨by omega, by omega⟩
 simp [execOp, hx, hi, Instr.index, asIntOf, run_underlying ht.h, run_sizeOf hs.h, part, run_isAgg ha.h, hv, hj]
theorem e_appendGrow {t e : TypeId} {by_ n m c cap : Nat} {s x : Operand} {a a' : Addr} {olds news : List Value} [ht : SliceT P t e] [hi : RowT P e 1 by_]
  (hx : ρ s = .slice (some a) n cap) (ho : olds.length = n) (hso : ∀ w, SH W l w → ∀ j u, olds[j]? = some u → w.cell? (a.add j) = some u) (hy : ρ x = .slice (some a') m c) (hl : news.length = m) (hsn : ∀ w, SH W l w → ∀ j u, news[j]? = some u → w.cell? (a'.add j) = some u)
  (hg : cap < n + m) (hb : (n + m) * by_ ≤ 140737488355328) (h63 : n + m ≤ maxLen)
  (h : ∀ b cap', n + m ≤ cap' → cap' ≤ maxLen → Ψ (.slice (some ⟨b, 0, none⟩) (n + m) cap') ((b, isR e (cap' * 1) (olds ++ news)) :: l)) : Eff P W l ⟨d, .call { callee := .builtin .append, args := #[s, x], argTypes := #[t, t] }, ty, pos, af, gd⟩ ρ Ψ := by
 intro w hw
 obtain ⟨i, z, hi1, hi2, hi3, hi4, hi5, hi6⟩ := rowB_spec hi.h
 have h63' : ((n + m : Nat) : Int) ≤ 9223372036854775807 := by simp only [maxLen] at h63; omega
 have hfit : Builtin.nextslicecap (n + m) cap * i.bytes ≤ 281474976710656 := by
  have h1 := nextslicecap_le hg
  have h2 := Nat.mul_le_mul_right i.bytes h1
  rw [hi4] at h2 ⊢
  rw [Nat.mul_assoc] at h2
  omega
 have hr := run_append_grow (P := P) w t ty e i z ht.h hi1 hi2 a n cap olds (by rw [hi3]; omega) (hso w hw) a' m c news (by rw [hi3]; omega) (hsn w hw) hg h63' hfit
 unfold OpW
 simp only [execOp, resolve, Sem.run_bind, Sem.run_pure, Result.andThen_ok, invoke, builtin, List.map_toArray, List.map_cons, List.map_nil, hx, hy, hr]
 refine ⟨_, hw.drew.alloc _ (p := isR e (grownCap w (n + m) cap e * 1) (olds ++ news)) ?_, h _ _ (grownCap_ge w (n + m) cap e) (grownCap_le_maxLen w (n + m) cap e h63)⟩
 refine ⟨_, rfl, ?_, ?_⟩
 ·have := grownCap_ge w (n + m) cap e
  simp only [Array.size_append, List.size_toArray, size_zeroCells, hi5, ho, hl]
  omega
 ·simp only [Array.toList_append, List.append_assoc]
  rw [← List.append_assoc]
  exact List.take_left
theorem e_appendIn {t e : TypeId} {by_ g o n m c cap tot : Nat} {s x : Operand} {a' : Addr} {xs news : List Value} (i : Nat) (he : l[i]? = some (g, isR e tot xs)) [ht : SliceT P t e] [hi : RowT P e 1 by_]
  (hx : ρ s = .slice (some ⟨g, o, none⟩) n cap) (hn : xs.length = o + n) (hy : ρ x = .slice (some a') m c) (hl : news.length = m) (hsn : ∀ w, SH W l w → ∀ j u, news[j]? = some u → w.cell? (a'.add j) = some u)
  (h1 : ∀ u ∈ news, u.oneCell' = true) (hroom : n + m ≤ cap) (hfit : o + cap ≤ tot)
  (h : Ψ (.slice (some ⟨g, o, none⟩) (n + m) cap) (l.set i (g, isR e tot (xs ++ news)))) : Eff P W l ⟨d, .call { callee := .builtin .append, args := #[s, x], argTypes := #[t, t] }, ty, pos, af, gd⟩ ρ Ψ := by
 intro w hw
 obtain ⟨io, z, hi1, hi2, hi3, hi4, hi5, hi6⟩ := rowB_spec hi.h
 obtain ⟨_, ob, hb, cur, rfl, htot, hxs⟩ := hw.at_ he
 have hrl := row_len hxs
 have hst : (storeCells ⟨g, o + n, none⟩ news).run P w = .ok () (setB w g (.cells (splice cur (o + n) news) e (0, 0))) := by
  have := run_storeCells P news (o + n) 0 cur w hb (.inl rfl) (by omega) h1
  simpa using this
 have hfirst : (Builtin.firstCells 1 m (.slice (some a') m c)).run P w = .ok news.toArray w := by
  simp only [Builtin.firstCells]
  rw [Nat.mul_one, ← hl]
  exact run_loadCells_list (P := P) w a' news (hsn w hw)
 have hr : (Builtin.append_ #[t, t] ty #[.slice (some ⟨g, o, none⟩) n cap, .slice (some a') m c]).run P w = .ok (.slice (some ⟨g, o, none⟩) (n + m) cap) (setB w g (.cells (splice cur (o + n) news) e (0, 0))) := by
  simp [Builtin.append_, run_underlying ht.h, sizeOf, typeInfo, hi1, hi3, Builtin.lenOf, hroom, hfirst, addr_add, hst]
 unfold OpW
 simp only [execOp, resolve, Sem.run_bind, Sem.run_pure, Result.andThen_ok, invoke, builtin, List.map_toArray, List.map_cons, List.map_nil, hx, hy, hr]
 refine ⟨_, hw.set_ he (setB_ok w hb _) ⟨_, rfl, by rw [splice_size]; exact htot, ?_⟩, h⟩
 apply List.ext_getElem?
 intro j
 rw [List.getElem?_take, Array.getElem?_toList, splice_get _ _ _ _ (by omega), List.length_append]
 by_cases hj : j < xs.length + news.length
 ·rw [if_pos hj]
  by_cases h2 : o + n ≤ j
  ·rw [if_pos ⟨h2, by omega⟩, List.getElem?_append_right (by omega), hn]
  ·rw [if_neg (by omega), List.getElem?_append_left (by omega)]
   rw [row_get hxs (List.getElem?_eq_getElem (by omega)), List.getElem?_eq_getElem (by omega)]
 ·rw [if_neg hj, List.getElem?_eq_none (by rw [List.length_append]; omega)]
end
theorem y_sliceLt {P : Program} {ρ : Operand → Value} {d : Option Tmp} {ty : TypeId} {pos : String} {af : Array Edge} {gd : Option (Nat × Bool)} {t e : TypeId} {x lo : Operand} {b o len cap sz l : Nat} {k' : IntKind} [ht : SliceT P t e] [hs : Sz P e sz] (hx : ρ x = .slice (some ⟨b, o, none⟩) len cap) (hlo : ρ lo = .int k' (l : Int)) (hlh : l ≤ len) (hc : len ≤ cap) (hl : l < cap) :
  Yld P ⟨d, .slice t x (some lo) none none, ty, pos, af, gd⟩ ρ (.slice (some ⟨b, o + l * sz, none⟩) (len - l) (cap - l)) := by
 have := y_sliceFrom (P := P) (ρ := ρ) (d := d) (ty := ty) (pos := pos) (af := af) (gd := gd) (t := t) hx hlo hlh hc
 rwa [if_neg (by omega)] at this
theorem Src.cell {W : World} {r l : List Ent} {g o j : Nat} {xs : List Value} {u : Value} (h : Src W r (some ⟨g, o, none⟩) xs) (hj : xs[j]? = some u) (hr : ∀ e ∈ r, e ∈ l) {w : World} (hw : SH W l w) : w.cell? ⟨g, o + j, none⟩ = some u := by
 rcases h.rd hr with h0 | ⟨a, ha, hc⟩
 ·subst h0; simp at hj
 ·cases ha
  have := hc w hw j u hj
  rwa [addr_add] at this
end Go.Lg
namespace Go.Proofs.YtbalcgjphkdecaaGreatDoor
open Go.RowKit Go.Lg
set_option maxRecDepth 100000
theorem JD.eff0 {P : Program} {n : Nat} {W : World} {K : Kont} {f : Fr} {l : List Ent} {ops : Array Oper} {T : Tq} {fuel : Nat} {listed : Array Bool} {d : Option Tmp} {op : Op} {ty : TypeId} {pos : String} {af : Array Edge} {gd : Option (Nat × Bool)} (j : Nat) (hr : Region.ready .any ops listed = [j]) (hj : ops[j]? = some ⟨d, op, ty, pos, af, gd⟩) (hw : wantF ops n f gd = false)
  (ht : TOk T (listed.setIfInBounds j true) l) (h : JD P n W ops K T fuel (listed.setIfInBounds j true) (put f d undef) l) : JD P n W ops K T (fuel + 1) listed f l := by
 intro w hs _
 refine ⟨fun h0 => absurd (h0.symm.trans hr) (by simp), fun i hi => ?_⟩
 rw [hr] at hi
 obtain rfl : i = j := by simpa using hi
 unfold wpOp
 simp only [hj]
 rw [act_wanted, if_neg (by rw [hw]; simp), act_put]
 exact ⟨ht.tk w hs, h w hs (ht.tk w hs)⟩
theorem JD.cut {P : Program} {n : Nat} {W : World} {K : Kont} {f : Fr} {l : List Ent} {ops : Array Oper} {T : Tq} {fuel : Nat} {listed : Array Bool} (I : Fr → List Ent → Prop) (fuel' : Nat) (listed' : Array Bool) (ht : ∀ f l, I f l → JD P n W ops K T fuel' listed' f l)
  (h : (∀ f l, I f l → JD P n W ops K T fuel' listed' f l) → JD P n W ops K T fuel listed f l) : JD P n W ops K T fuel listed f l := h ht
theorem JD.lcast {P : Program} {n : Nat} {W : World} {K : Kont} {f : Fr} {l : List Ent} {ops : Array Oper} {T : Tq} {fuel : Nat} {listed listed' : Array Bool} (e : listed = listed') (h : JD P n W ops K T fuel listed' f l) : JD P n W ops K T fuel listed f l := e ▸ h
theorem JD.frame {P : Program} {n : Nat} {W : World} {K : Kont} {f : Fr} {l : List Ent} {ops : Array Oper} {T : Tq} {fuel : Nat} {listed : Array Bool} (hs : List (Nat × Value)) (h : FrOk f hs) (hJ : ∀ f', JD P n W ops K T fuel listed (puts f' hs) l) : JD P n W ops K T fuel listed f l := by
 have := hJ f
 rwa [puts_self f hs h] at this
end Go.Proofs.YtbalcgjphkdecaaGreatDoor
namespace Go.Proofs.YtbalcgjphkdecaaGreatDoor.To
open Go.RowKit Go.Lg
set_option maxRecDepth 100000
abbrev S := List UInt8
def sv (s : S) : Value := .string (ba s)
theorem sv_one (l : List S) : ∀ u ∈ l.map sv, u.oneCell' = true := fun u hu => by
 obtain ⟨s, _, rfl⟩ := List.mem_map.1 hu
 rfl
theorem ba_size (a : S) : (ba a).size = a.length := rfl
theorem Tr.same {P : Program} {g : FuncId} {args : Array Value} {v : Value} (h : ∀ w, Calls P g args w fun e w' => e = .returned v ∧ w' = w) (W : World) (l : List Ent) : Tr P g args W l fun v' l' => v' = v ∧ l' = l :=
 fun w hs => (h w).mono fun _ _ ⟨h1, h2⟩ => ⟨v, l, h1, h2 ▸ hs, rfl, rfl⟩
theorem SH.grow {W w w' : World} {l : List Ent} (hs : SH W l w) (h : Below w.heap.size w w') : SH W l w' := by
 refine ⟨hs.below.trans (h.mono hs.below.size), hs.nodup, fun e he => ?_⟩
 obtain ⟨h1, o, h2, h3⟩ := hs.ents e he
 exact ⟨h1, o, by rw [h.block _ (Array.getElem?_eq_some_iff.1 h2).1]; exact h2, h3⟩
theorem Tr.grows {P : Program} {g : FuncId} {args : Array Value} {v : Value} {W : World} {l : List Ent} (h : ∀ w, SH W l w → Calls P g args w fun e w' => e = .returned v ∧ Below w.heap.size w w') : Tr P g args W l fun v' l' => v' = v ∧ l' = l :=
 fun w hs => (h w hs).mono fun _ _ ⟨h1, h2⟩ => ⟨v, l, h1, SH.grow hs h2, rfl, rfl⟩
section
variable {P : Program} {ρ : Operand → Value} {d : Option Tmp} {ty yt : TypeId} {pos : String} {af : Array Edge} {gd : Option (Nat × Bool)}
theorem y_cat {t : TypeId} {x y : Operand} {a b : S} (hx : ρ x = .string (ba a)) (hy : ρ y = .string (ba b)) (h : a.length + b.length ≤ 9223372036854775807) : Yld P ⟨d, .binOp .add t x y yt, ty, pos, af, gd⟩ ρ (.string (ba (a ++ b))) := fun w => by
 have e : ba a ++ ba b = ba (a ++ b) := by
  apply congrArg ByteArray.mk (a₁ := (ba a ++ ba b).data) (a₂ := (a ++ b).toArray)
  simp [ba]
 refine run_bin w (guard_plain w (by simp [hx, hy])) ?_
 have h' : ¬ (((ba a).size + (ba b).size : Nat) : Int) > IntKind.i64.max := by
  rw [ba_size, ba_size]
  have : IntKind.i64.max = 9223372036854775807 := by decide
  rw [this]
  omega
 rw [hx, hy]
 simp only [binOp, Op.stringOp, h', if_false, e]
 rfl
end
theorem HasPrefix_ok (s p : S) {W : World} {r : List Ent} : Tr Pg 188 #[.string (ba s), .string (ba p)] W r fun v l' => v = .bool (Lib.hasPrefix s p) ∧ l' = r :=
 Tr.same (fun w => Tryz.strings_HasPrefix (ba s) (ba p) w) W r
theorem HasSuffix_ok (s p : S) (h : s.length ≤ maxLen) {W : World} {r : List Ent} : Tr Pg 247 #[.string (ba s), .string (ba p)] W r fun v l' => v = .bool (Lib.hasSuffix s p) ∧ l' = r :=
 Tr.same (fun w => Tryz.strings_HasSuffix (ba s) (ba p) w (by rw [ba_size]; unfold maxLen at h; omega)) W r
theorem CutPrefix_ok (s p : S) {W : World} {r : List Ent} : Tr Pg 140 #[.string (ba s), .string (ba p)] W r fun v l' => v = .tuple #[.string (ba (Lib.trimPrefix s p)), .bool (Lib.hasPrefix s p)] ∧ l' = r :=
 Tr.same (fun w => Tryz.strings_CutPrefix (ba s) (ba p) w) W r
theorem Trim_ok (s cs : S) (h : s.length ≤ maxLen) (hc : cs.length < 4294967281) (ha : cs.all (fun b => decide (b.toNat < 128)) = true) {W : World} {r : List Ent} :
  Tr Pg 141 #[.string (ba s), .string (ba cs)] W r fun v l' => v = .string (ba (Lib.trimS s cs)) ∧ l' = r :=
 Tr.grows fun w _ => Tryz.strings_Trim_set (ba s) (ba cs) w (by rw [ba_size]; unfold maxLen at h; omega) (by rw [ba_size]; exact hc) (fun j b hb => of_decide_eq_true (List.all_eq_true.1 ha b (List.mem_of_getElem? hb)))
def splitL (s : S) (c : UInt8) : List S := (Lib.splitB ⟨#[c]⟩ 0 (Lib.countB (ba s) ⟨#[c]⟩) (ba s)).map fun x => x.data.toList
theorem splitL_len (s : S) (c : UInt8) : (splitL s c).length = Lib.countB (ba s) ⟨#[c]⟩ + 1 := by
 unfold splitL
 rw [List.length_map]
 exact Lib.splitB_all ⟨#[c]⟩ (Nat.le_refl 1) 0 _ (ba s) rfl
theorem genSplit_ok (s : S) (c : UInt8) (h : s.length < 4294967281) {W : World} {r : List Ent} : Tr Pg 227 #[.string (ba s), .string (ba [c]), .int .i64 0, .int .i64 (-1)] W r fun v l' =>
  ∃ b n, v = .slice (some ⟨b, 0, none⟩) n n ∧ n = (splitL s c).length ∧ l' = (b, isR 9 (n * 1) ((splitL s c).map sv)) :: r := fun w hs => by
 refine (Tryz.strings_genSplit_one (ba s) c w (by rw [ba_size]; exact h)).mono ?_
 rintro e w' ⟨rfl, rfl⟩
 have hn := splitL_len s c
 have hl : (Lib.splitB ⟨#[c]⟩ 0 (Lib.countB (ba s) ⟨#[c]⟩ + 1 - 1) (ba s)).length = (splitL s c).length := by unfold splitL; rw [List.length_map]; rfl
 have hcs : Lib.cellsOf (Lib.splitB ⟨#[c]⟩ 0 (Lib.countB (ba s) ⟨#[c]⟩ + 1 - 1) (ba s)) (Lib.countB (ba s) ⟨#[c]⟩ + 1) = ((splitL s c).map sv).toArray := by
  have e0 := Lib.cellsOf_full (Lib.splitB ⟨#[c]⟩ 0 (Lib.countB (ba s) ⟨#[c]⟩) (ba s))
  have e1 : (Lib.splitB ⟨#[c]⟩ 0 (Lib.countB (ba s) ⟨#[c]⟩) (ba s)).length = Lib.countB (ba s) ⟨#[c]⟩ + 1 := hl.trans hn
  rw [e1] at e0
  rw [Nat.add_sub_cancel, e0]
  unfold splitL
  rw [List.map_map]
  rfl
 rw [hl, hcs, ← hn]
 refine ⟨_, _, rfl, SH.alloc hs _ (p := isR 9 ((splitL s c).length * 1) ((splitL s c).map sv)) ?_, w.heap.size, _, rfl, rfl, rfl⟩
 have := isR_mk 9 ((splitL s c).map sv).toArray
 simpa using this
section
attribute [local irreducible] JC JL JD RN RT Eff Yld YldIf Tr
theorem Split_ok (s : S) (c : UInt8) (h : s.length < 4294967281) {W : World} {r : List Ent} : Tr Pg 187 #[.string (ba s), .string (ba [c])] W r fun v l' =>
  ∃ b n, v = .slice (some ⟨b, 0, none⟩) n n ∧ n = (splitL s c).length ∧ l' = (b, isR 9 (n * 1) ((splitL s c).map sv)) :: r := by
 refine Tr.of_code (args := [_, _]) Tryz.func187 rfl Tryz.ntmps187 lE_ ?_
 refine AU0 ?_
 refine JLs (e_call rfl rfl (genSplit_ok s c h) ?_)
 rintro v l' ⟨b, n, rfl, hn, rfl⟩
 refine AU0 ?_
 exact JC.ret (RT.one rfl rfl rfl ⟨b, n, rfl, hn, rfl⟩)
end
theorem Join_ok (sep : S) {A : Option Addr} {n c : Nat} {xs : List S} {W : World} {r : List Ent} (hn : xs.length = n) (hc : n ≤ c) (hb : n ≤ 140737488355328) (hl : (Lib.join xs sep).length ≤ 140737488355328) (hs : Src W r A (xs.map sv)) :
  Tr Pg 268 #[.slice A n c, .string (ba sep)] W r fun v l' => v = .string (ba (Lib.join xs sep)) ∧ l' = r := by
 subst hn
 cases xs with
 | nil => exact Tr.same (fun w => Tryz.strings_Join_none A c (ba sep) w) W r
 | cons x xs =>
  obtain ⟨b, o, rfl, hat⟩ := hs.at_ (by simp)
  refine Tr.grows fun w hw => ?_
  have hcell := hat r (fun e he => he) w hw
  have hm : ((x :: xs).map ba).map (fun y => y.data.toList) = x :: xs := by
   rw [List.map_map]
   exact List.map_id' _
  have hbk : b < w.heap.size := World.block_lt_of_cell? w ⟨b, o, none⟩ (hcell 0 (sv x) rfl)
  have := Tryz.strings_Join b o c ((x :: xs).map ba) (ba sep) w (fun j y hy => by
   refine hcell j (.string y) ?_
   rw [List.getElem?_map] at hy ⊢
   cases hx : (x :: xs)[j]? with
   | none => simp [hx] at hy
   | some z => simp [hx] at hy; simp [sv, hy]) hbk (by simpa using hb) (by simpa using hc) (by rw [hm]; exact hl)
  rw [hm, List.length_map] at this
  exact this
end Go.Proofs.YtbalcgjphkdecaaGreatDoor.To
namespace Go.Lg
open Go.RowKit
variable {P : Program} {ρ : Operand → Value} {d : Option Tmp} {ty : TypeId} {pos : String} {af : Array Edge} {gd : Option (Nat × Bool)} {W : World} {l : List Ent} {Ψ : Value → List Ent → Prop}
theorem y_max {t t' : TypeId} {x y : Operand} {k : IntKind} {a b c : Int} (hx : ρ x = .int k a) (hy : ρ y = .int k b) (hc : (if b > a then b else a) = c) : Yld P ⟨d, .call { callee := .builtin .max, args := #[x, y], argTypes := #[t, t'] }, ty, pos, af, gd⟩ ρ (.int k c) := fun w => by
 subst hc
 simp [execOp, resolve, invoke, builtin, Builtin.max_, hx, hy, Builtin.max2, List.foldlM]
theorem e_makeCap {t e : TypeId} {x y : Operand} {n by_ : Nat} {z : Value} {k k' : IntKind} [ht : SliceT P t e] [hi : RowT P e 1 by_] [hz : Zr P e [z]] (hx : ρ x = .int k 0) (hy : ρ y = .int k' (n : Int)) (hb : by_ * n ≤ 281474976710656) (h63 : n ≤ maxLen)
  (h : ∀ b, Ψ (.slice (some ⟨b, 0, none⟩) 0 n) ((b, isR e (n * 1) []) :: l)) : Eff P W l ⟨d, .makeSlice t x y, ty, pos, af, gd⟩ ρ Ψ := by
 obtain ⟨i, zv, hi1, hi2, hi3, hi4, hi5, hi6⟩ := rowB_spec hi.h
 refine e_new (ob := .cells (madeCells zv.cells (n * i.size)) e) (v := fun b => .slice (some ⟨b, 0, none⟩) 0 n) (fun w => ?_) ?_ h
 ·have h63' : (n : Int) ≤ 9223372036854775807 := by
   have h := h63
   simp [maxLen] at h
   omega
  have hb' : (i.bytes : Int) * (n : Int) ≤ 281474976710656 := by
   have h : ((i.bytes * n : Nat) : Int) ≤ 281474976710656 := by rw [hi4]; omega
   rwa [Int.natCast_mul] at h
  have hr := run_make (P := P) w t e i zv ht.h hi1 hi2 k k' 0 n (by omega) (by omega) hb' h63'
  simp only [Int.toNat_natCast, Int.toNat_zero] at hr
  simp only [execOp, hx, hy, Sem.run_bind, hr, Result.andThen_ok, Sem.run_pure]
 ·refine ⟨_, rfl, ?_, by simp⟩
  rw [hi3]
  simp [madeCells]
end Go.Lg
namespace Go.Lg
open Go.RowKit
section
variable {P : Program} {ρ : Operand → Value} {d : Option Tmp} {ty : TypeId} {pos : String} {af : Array Edge} {gd : Option (Nat × Bool)} {W : World} {l : List Ent} {Ψ : Value → List Ent → Prop}
theorem y_loadIf {S : World → Prop} {t : TypeId} {x : Operand} {a : Addr} {v : Value} [ha : Agg P t false] (h : ρ x = .pointer (some a)) (hv : ∀ w, S w → w.cell? a = some v) : YldIf P S ⟨d, .load t x, ty, pos, af, gd⟩ ρ v := by
 intro w hw
 simp [execOp, h, Instr.loadAt, Instr.sureAddr, run_loadVar_one P (hv w hw) ha.h]
theorem Src.look {r : List Ent} {A : Option Addr} {xs : List Value} (h : Src W r A xs) (h0 : 0 < xs.length) :
  ∃ b o, A = some ⟨b, o, none⟩ ∧ ∃ S : Option Ent, (∀ e, S = some e → e ∈ r) ∧ ∀ j u, xs[j]? = some u → ∀ w, (TS W ([], S)).2 w → w.cell? ⟨b, o + j, none⟩ = some u := by
 rcases h with h | ⟨a, rfl, h⟩ | ⟨g, o, T, ys, p, rfl, h2, h3, h4⟩
 ·subst h; simp at h0
 ·obtain ⟨b, o, spot⟩ := a
  have hc := h 0 _ (List.getElem?_eq_getElem h0)
  have hspot : spot = none := by simpa [Addr.add] using World.cell?_spot hc
  subst hspot
  refine ⟨b, o, rfl, none, (fun e he => by cases he), fun j u hu w hw => ?_⟩
  have := h j u hu
  rw [addr_add] at this
  exact (Below.cell hw (World.block_lt_of_cell? W _ this)).trans this
 ·refine ⟨g, o, rfl, some (g, p), (fun e he => by cases he; exact h2), fun j u hu w hw => ?_⟩
  have hy := h4 j u hu
  rcases h3 with rfl | ⟨tot, rfl⟩
  ·obtain ⟨_, hb, fz, rfl, _⟩ := hw
   rw [cell_at hb, List.getElem?_toArray]
   exact hy
  ·obtain ⟨_, hb, cur, rfl, _, ht⟩ := hw
   rw [cell_at hb]
   exact row_get ht hy
theorem TOk.opt {D : List Nat} {S : Option Ent} {T : Tq} {listed : Array Bool} {l : List Ent} (hS : ∀ e, S = some e → e ∈ l) (h : TOk T listed l) : TOk ((D, S) :: T) listed l := by
 cases S with
 | none => exact TOk.was h
 | some e => exact TOk.mem (hS e rfl) h
theorem TS_of {r : List Ent} {S : Option Ent} (hS : ∀ e, S = some e → e ∈ r) (hr : ∀ e ∈ r, e ∈ l) : ∀ w, SH W l w → (TS W ([], S)).2 w := fun w hs => by
 cases S with
 | none => exact hs.below
 | some e => exact (hs.ents e (hr e (hS e rfl))).2
theorem y_toArr {t e : TypeId} {x : Operand} {n len cap : Nat} {a : Option Addr} [ht : ArrT P t n e] (hx : ρ x = .slice a len cap) (hn : n ≤ len) : Yld P ⟨d, .sliceToArrayPointer t x, ty, pos, af, gd⟩ ρ (.pointer a) := fun w => by
 simp [execOp, hx, Instr.arrayAt, run_underlying ht.h, show ¬ len < n from by omega]
end
section
variable {P : Program} {n : Nat} {W : World} {K : Kont} {f : Fr} {l : List Ent} {ops : Array Oper} {T : Tq} {fuel : Nat} {listed : Array Bool}
variable {d : Option Tmp} {op : Op} {ty : TypeId} {pos : String} {af : Array Edge} {gd : Option (Nat × Bool)}
theorem JD.readS (i : Nat) {v : Value} (S : Option Ent) (r : List Ent) (hi : ops[i]? = some ⟨d, op, ty, pos, af, gd⟩) (hc : chk ops T listed i = true) (hcr : chkR ops listed i (desc ops i) = true) (hw : wantF ops n f gd = true) (hS : ∀ e, S = some e → e ∈ r) (hr : ∀ e ∈ r, e ∈ l)
  (hy : YldIf P (TS W ([], S)).2 ⟨d, op, ty, pos, af, gd⟩ (ev n f) v) (h : JD P n W ops K ((effs ops (desc ops i), S) :: T) fuel (listed.setIfInBounds i true) (put f d v) l) : JD P n W ops K T (fuel + 1) listed f l :=
 .read_ S (desc ops i) hi hc hcr (.inl ⟨hw, hy⟩) (TS_of hS hr) h
end
section
variable {P : Program} {fn : Func} {W : World} {Φ : Value → List Ent → Prop} {n : Nat} {f : Fr} {l : List Ent}
theorem res_cells2 {P : Program} {fn : Func} {t u : Tmp} {T U : Nat} {w : World} {tmps : Array Value} {a b : Addr} {x y : Value} (hr : fn.results = #[.cell t T, .cell u U]) (hp : tmps.getD t undef = .pointer (some a)) (hq : tmps.getD u undef = .pointer (some b)) (h1 : (loadVar T a).run P w = .ok x w) (h2 : (loadVar U b).run P w = .ok y w) :
  (results fn tmps).run P w = .ok (.tuple #[x, y]) w := by
 rw [Array.getD_eq_getD_getElem?] at hp hq
 simp [results, hr, hp, hq, asAddr, h1, h2]
end
end Go.Lg
namespace Go.Lg
open Go.RowKit
section
variable {P : Program} {ρ : Operand → Value} {d : Option Tmp} {ty : TypeId} {pos : String} {af : Array Edge} {gd : Option (Nat × Bool)} {W : World} {l : List Ent} {Ψ : Value → List Ent → Prop}
def EqAns (P : Program) (K : Nat) (t : TypeId) (x y : Value) (r : Bool) : Prop := ∀ q w, (Op.equalIn (q + K) t x y).run P w = .ok r w
theorem EqAns.more {K K' : Nat} {t : TypeId} {x y : Value} {r : Bool} (h : EqAns P K t x y r) (hk : K ≤ K') : EqAns P K' t x y r := fun q w => by
 rw [show q + K' = (q + (K' - K)) + K by omega]
 exact h _ w
theorem EqAns.int {t : TypeId} {k : IntKind} {a b : Int} [ht : IntT P t k] : EqAns P 1 t (.int k a) (.int k b) (decide (a = b)) := fun q w => by
 rw [run_equalIn_int w q t k k a b ht.h]
 by_cases h : a = b <;> simp [h]
theorem EqAns.str {t : TypeId} {a b : ByteArray} [ht : StrT P t] : EqAns P 1 t (.string a) (.string b) (a.toList == b.toList) := fun q w => run_equalIn_string w q t a b ht.h
class NoGuard (P : Program) (t : Nat) : Prop where
 h : P.eqGuardType P.depth t = false
theorem y_eqlAns {K : Nat} {t yt : TypeId} {x y : Operand} {xs ys : Array Value} {r : Bool} [hg : NoGuard P t] (hx : ρ x = .agg xs) (hy : ρ y = .agg ys) (h : EqAns P K t (.agg xs) (.agg ys) r) (hK : K ≤ 10000) : Yld P ⟨d, .binOp .eql t x y yt, ty, pos, af, gd⟩ ρ (.bool r) := fun w => by
 have := h (10000 - K) w
 rw [show 10000 - K + K = 10000 by omega] at this
 refine run_bin w (by rw [hx, hy]; exact run_eqGuard_agg w _ t x y xs ys hg.h) ?_
 rw [hx, hy, run_eql_struct, this]
 rfl
theorem y_neqAns {K : Nat} {t yt : TypeId} {x y : Operand} {xs ys : Array Value} {r : Bool} [hg : NoGuard P t] (hx : ρ x = .agg xs) (hy : ρ y = .agg ys) (h : EqAns P K t (.agg xs) (.agg ys) r) (hK : K ≤ 10000) : Yld P ⟨d, .binOp .neq t x y yt, ty, pos, af, gd⟩ ρ (.bool !r) := fun w => by
 have := h (10000 - K) w
 rw [show 10000 - K + K = 10000 by omega] at this
 refine run_bin w (by rw [hx, hy]; exact run_eqGuard_agg w _ t x y xs ys hg.h) ?_
 rw [hx, hy, run_neq_struct, this]
 rfl
end
end Go.Lg
namespace Go.Lg
open Go.RowKit
variable {P : Program} {ρ : Operand → Value} {d : Option Tmp} {ty : TypeId} {pos : String} {af : Array Edge} {gd : Option (Nat × Bool)} {W : World} {l : List Ent} {Ψ : Value → List Ent → Prop}
def key (a b : ByteArray) : Value := .agg #[.string a, .string b]
structure KE where
 a : ByteArray
 b : ByteArray
 v : Value
 t : Nat
def KE.e (x : KE) : MapEntry := ⟨key x.a x.b, x.v, x.t⟩
structure Mp where
 es : List KE
 clock : Nat
def isMp (m : Mp) : Obj → Prop := fun o => o = .map (m.es.map KE.e).toArray m.clock
def KE.is (a b : ByteArray) (x : KE) : Bool := a == x.a && b == x.b
def kfind (a b : ByteArray) : List KE → Nat → Option (Nat × Value)
 | [], _ => none
 | x :: xs, i => if x.is a b then some (i, x.v) else kfind a b xs (i + 1)
def isIt (bm since : Nat) (seen : List Nat) (last : Nat) : Obj → Prop := fun o => o = .mapIter (some bm) since seen.toArray last
theorem e_makeMap {t : TypeId} (h : ∀ b, Ψ (.map (some b)) ((b, isMp ⟨[], 0⟩) :: l)) : Eff P W l ⟨d, .makeMap t none, ty, pos, af, gd⟩ ρ Ψ :=
 e_new (ob := .map #[] 0) (p := isMp ⟨[], 0⟩) (v := fun b => .map (some b)) (fun w => by simp [execOp, Instr.makeMap, newObj, Sem.run]) rfl h
class KeyT (P : Program) (kt : Nat) : Prop where
 h : ∃ f1 f2 : Field, P.underlying kt = some (.struct #[f1, f2]) ∧ f1.offset = 0 ∧ f2.offset = 1 ∧ f1.name ≠ "_" ∧ f2.name ≠ "_" ∧ P.underlying f1.type = some .string ∧ P.underlying f2.type = some .string ∧
  aggB P f1.type = some false ∧ aggB P f2.type = some false ∧ P.stoodInHeld kt = false
theorem run_part {t : TypeId} {w : World} {cs : Array Value} {o : Nat} {v : Value} (ha : aggB P t = some false) (hv : cs[o]? = some v) : (part t cs o).run P w = .ok v w := by
 simp [part, run_isAgg ha, hv]
theorem run_eqKey2 {kt : TypeId} [hk : KeyT P kt] (a b c e : ByteArray) (q : Nat) (w : World) : (Op.equalIn (q + 2) kt (key a b) (key c e)).run P w = .ok (a == c && b == e) w := by
 obtain ⟨f1, f2, h1, h2, h3, h4, h5, h6, h7, h8, h9, h10⟩ := hk.h
 have e1 : ∀ w, (Op.equalIn (q + 1) f1.type (.string a) (.string c)).run P w = .ok (a == c) w := fun w => by simp [Op.equalIn, run_underlying h6]
 have e2 : ∀ w, (Op.equalIn (q + 1) f2.type (.string b) (.string e)).run P w = .ok (b == e) w := fun w => by simp [Op.equalIn, run_underlying h7]
 have p1 : ∀ (x y : ByteArray) w, (part f1.type #[.string x, .string y] f1.offset).run P w = .ok (.string x) w := fun x y w => run_part h8 (by rw [h2]; rfl)
 have p2 : ∀ (x y : ByteArray) w, (part f2.type #[.string x, .string y] f2.offset).run P w = .ok (.string y) w := fun x y w => run_part h9 (by rw [h3]; rfl)
 unfold key
 rw [Op.equalIn]
 simp only [Sem.run_bind, run_underlying h1, Result.andThen_ok, run_program, h10]
 cases h : a == c
 ·simp [p1, p2, h4, h5, e1, e2, h]
 ·cases h' : b == e <;> simp [p1, p2, h4, h5, e1, e2, h, h']
theorem run_eqKey {kt : TypeId} [hk : KeyT P kt] (a b c e : ByteArray) (w : World) : (Op.equal kt (key a b) (key c e)).run P w = .ok (a == c && b == e) w := run_eqKey2 a b c e 9998 w
theorem run_checkKey2 {kt : TypeId} [hk : KeyT P kt] (em : Bool) (a b : ByteArray) (q : Nat) (w : World) : (Instr.checkKey em (q + 2) kt (key a b)).run P w = .ok () w := by
 obtain ⟨f1, f2, h1, h2, h3, h4, h5, h6, h7, h8, h9, h10⟩ := hk.h
 have p1 : ∀ w, (part f1.type #[.string a, .string b] f1.offset).run P w = .ok (.string a) w := fun w => run_part h8 (by rw [h2]; rfl)
 have p2 : ∀ w, (part f2.type #[.string a, .string b] f2.offset).run P w = .ok (.string b) w := fun w => run_part h9 (by rw [h3]; rfl)
 simp [Instr.checkKey, run_underlying h1, run_underlying h6, run_underlying h7, key, p1, p2, h4, h5]
theorem run_checkKey' {kt : TypeId} [hk : KeyT P kt] (em : Bool) (a b : ByteArray) (w : World) : (Instr.checkKey em 10000 kt (key a b)).run P w = .ok () w := run_checkKey2 em a b 9998 w
theorem run_findAsking {kt : TypeId} [hk : KeyT P kt] (a b : ByteArray) (w : World) : ∀ (xs : List KE) (i : Nat), (Instr.findAsking kt (key a b) (xs.map KE.e) i).run P w = .ok (kfind a b xs i) w
 | [], i => by simp [Instr.findAsking, kfind]
 | x :: xs, i => by
  have he : (Op.equal kt (key a b) x.e.key).run P w = .ok (x.is a b) w := run_eqKey a b x.a x.b w
  simp only [List.map_cons, Instr.findAsking, Sem.run_bind, he, Result.andThen_ok, kfind]
  cases h : x.is a b
  ·simp only [Bool.false_eq_true, if_false]
   exact run_findAsking a b w xs (i + 1)
  ·simp [KE.e]
theorem run_findKey' {kt : TypeId} [hk : KeyT P kt] (a b : ByteArray) (w : World) (xs : List KE) : (Instr.findKey kt (key a b) (xs.map KE.e)).run P w = .ok (kfind a b xs 0) w := by
 obtain ⟨f1, f2, h1, _⟩ := hk.h
 simp only [Instr.findKey, Sem.run_bind, run_underlying h1, Result.andThen_ok]
 cases xs with
 | nil => simp [Instr.findNow, kfind]
 | cons x xs =>
  have : Instr.findNow (.struct #[f1, f2]) (key a b) ((x :: xs).map KE.e) 0 = none := by
   simp [Instr.findNow, Instr.sameNow, key, KE.e]
  rw [this]
  exact run_findAsking a b w (x :: xs) 0
theorem r_lookup {t k e : TypeId} {x y : Operand} {b0 : Nat} {m : Mp} {a b : ByteArray} {z : Value} [ht : MapT P t k e] [hk : KeyT P k] (hz : ∀ w, (zeroValue e).run P w = .ok z w) (hx : ρ x = .map (some b0)) (hy : ρ y = key a b) :
  YldIf P (At b0 (isMp m)) ⟨d, .lookup t x y true, ty, pos, af, gd⟩ ρ (match kfind a b m.es 0 with | some (_, v) => .tuple #[v, .bool true] | none => .tuple #[z, .bool false]) := by
 rintro w ⟨_, hb, rfl⟩
 have h1 : (Instr.lookup t (.map (some b0)) (key a b) true).run P w = .ok (match kfind a b m.es 0 with | some (_, v) => .tuple #[v, .bool true] | none => .tuple #[z, .bool false]) w := by
  simp only [Instr.lookup, Sem.run_bind, run_underlying ht.h, Result.andThen_ok, MapKept.run_getObj_map hb, Sem.run_pure, run_checkKey', run_findKey']
  cases kfind a b m.es 0 with
  | none => simp [hz]
  | some r => simp
 simp only [execOp, hx, hy, Sem.run_bind, h1, Result.andThen_ok, Sem.run_pure]
theorem sameBits_key (a b c e : ByteArray) (h : (a == c && b == e) = true) (n : Nat) : Instr.sameBits (n + 1) (key c e) (key a b) = true := by
 have h1 : a = c := by simp only [Bool.and_eq_true] at h; exact (MapKept.bytes_beq _ _).1 h.1
 have h2 : b = e := by simp only [Bool.and_eq_true] at h; exact (MapKept.bytes_beq _ _).1 h.2
 subst h1; subst h2
 have r : ∀ x : ByteArray, (x == x) = true := fun x => (MapKept.bytes_beq _ _).2 rfl
 cases n <;> simp [Instr.sameBits, key, r]
theorem kfind_spec (a b : ByteArray) : ∀ (xs : List KE) (i j : Nat) (v : Value), kfind a b xs i = some (j, v) → ∃ k x, j = i + k ∧ xs[k]? = some x ∧ x.is a b = true ∧ x.v = v
 | [], _, _, _, h => by simp [kfind] at h
 | x :: xs, i, j, v, h => by
  unfold kfind at h
  split at h
  ·next hc =>
   simp at h
   obtain ⟨rfl, rfl⟩ := h
   exact ⟨0, x, rfl, rfl, hc, rfl⟩
  ·obtain ⟨k, y, h1, h2, h3, h4⟩ := kfind_spec a b xs (i + 1) j v h
   exact ⟨k + 1, y, by omega, by simpa using h2, h3, h4⟩
def Mp.put (m : Mp) (a b : ByteArray) (v : Value) : Mp := match kfind a b m.es 0 with
 | some (i, _) => ⟨m.es.modify i fun x => { x with v := v }, m.clock⟩
 | none => ⟨m.es ++ [⟨a, b, v, m.clock⟩], m.clock + 1⟩
theorem isC_obj {w : World} {l : List Ent} (h : SH W l w) {i b0 : Nat} {m m' : Mp} (he : l[i]? = some (b0, isMp m)) : SH W (l.set i (b0, isMp m')) { w with heap := w.heap.setIfInBounds b0 (.map (m'.es.map KE.e).toArray m'.clock) } := by
 obtain ⟨_, ob, hb, rfl⟩ := h.at_ he
 exact h.set_ he (setB_ok w hb _) rfl
theorem e_mapUpdate {t k e : TypeId} {x y z : Operand} {b0 : Nat} {m : Mp} {a b : ByteArray} {v : Value} (i : Nat) (he : l[i]? = some (b0, isMp m)) [ht : MapT P t k e] [hk : KeyT P k] (hx : ρ x = .map (some b0)) (hy : ρ y = key a b) (hz : ρ z = v)
  (h : Ψ undef (l.set i (b0, isMp (m.put a b v)))) : Eff P W l ⟨d, .mapUpdate t x y z, ty, pos, af, gd⟩ ρ Ψ := by
 intro w hw
 obtain ⟨_, ob, hb, rfl⟩ := hw.at_ he
 have h1 : (Instr.mapUpdate t (.map (some b0)) (key a b) v).run P w = .ok () { w with heap := w.heap.setIfInBounds b0 (.map ((m.put a b v).es.map KE.e).toArray (m.put a b v).clock) } := by
  simp only [Instr.mapUpdate, Sem.run_bind, run_underlying ht.h, Result.andThen_ok, MapKept.run_getObj_map hb, Sem.run_pure, run_checkKey', run_findKey']
  cases hf : kfind a b m.es 0 with
  | none =>
   simp only [MapKept.run_setObj_map _ hb]
   unfold Mp.put
   rw [hf]
   simp [KE.e]
  | some r =>
   obtain ⟨j, v0⟩ := r
   obtain ⟨k0, x0, rfl, h2, h3, h4⟩ := kfind_spec a b m.es 0 j v0 hf
   rw [Nat.zero_add] at hf ⊢
   have hg : ((((m.es.map KE.e).toArray)[k0]?).map (·.key)).getD (key a b) = key x0.a x0.b := by simp [h2, KE.e]
   have hs : Instr.sameBits 10000 (key x0.a x0.b) (key a b) = true := sameBits_key a b x0.a x0.b h3 9999
   have hm : ((m.es.map KE.e).toArray.modify k0 fun e => { e with key := key a b, val := v }) = (((m.es.modify k0 fun x => { x with v := v }).map KE.e).toArray) := by
    apply Array.ext_getElem?
    intro q
    rw [Array.getElem?_modify]
    simp only [List.getElem?_toArray, List.getElem?_map, List.getElem?_modify]
    by_cases hq : k0 = q
    ·subst hq
     have e1 : a = x0.a := by simp only [KE.is, Bool.and_eq_true] at h3; exact (MapKept.bytes_beq _ _).1 h3.1
     have e2 : b = x0.b := by simp only [KE.is, Bool.and_eq_true] at h3; exact (MapKept.bytes_beq _ _).1 h3.2
     simp [h2, KE.e, e1, e2]
    ·simp [hq]
   simp only [hg, Instr.keyThatStays, hs, if_true, Sem.run_pure, Sem.run_bind, Result.andThen_ok, MapKept.run_setObj_map _ hb, hm]
   unfold Mp.put
   rw [hf]
 unfold OpW
 simp only [execOp, hx, hy, hz, Sem.run_bind, h1, Result.andThen_ok, Sem.run_pure]
 exact ⟨_, isC_obj hw he, h⟩
theorem e_delete {t k e k' : TypeId} {x y : Operand} {b0 j : Nat} {v0 : Value} {m : Mp} {a b : ByteArray} (i : Nat) (he : l[i]? = some (b0, isMp m)) [ht : MapT P t k e] [hk : KeyT P k] (hx : ρ x = .map (some b0)) (hy : ρ y = key a b) (hf : kfind a b m.es 0 = some (j, v0))
  (h : Ψ (.tuple #[]) (l.set i (b0, isMp ⟨m.es.eraseIdx j, m.clock⟩))) : Eff P W l ⟨d, .call { callee := .builtin .delete, args := #[x, y], argTypes := #[t, k'] }, ty, pos, af, gd⟩ ρ Ψ := by
 intro w hw
 obtain ⟨_, ob, hb, rfl⟩ := hw.at_ he
 obtain ⟨k0, x0, hj, h2, h3, h4⟩ := kfind_spec a b m.es 0 j v0 hf
 have hlt : j < m.es.length := by
  have := (List.getElem?_eq_some_iff.1 h2).1
  omega
 have hm : ((m.es.map KE.e).toArray.eraseIdxIfInBounds j) = ((m.es.eraseIdx j).map KE.e).toArray := by
  simp only [Array.eraseIdxIfInBounds, List.size_toArray, List.length_map, hlt, dif_pos]
  apply Array.ext'
  simp [List.eraseIdx_eq_take_drop_succ, List.map_take, List.map_drop]
 have h1 : (Builtin.delete_ #[t, k'] ty #[.map (some b0), key a b]).run P w = .ok (.tuple #[]) { w with heap := w.heap.setIfInBounds b0 (.map ((m.es.eraseIdx j).map KE.e).toArray m.clock) } := by
  have hm' : (m.es.map KE.e).eraseIdx j = (m.es.eraseIdx j).map KE.e := by simp [List.eraseIdx_eq_take_drop_succ, List.map_take, List.map_drop]
  simp [Builtin.delete_, run_underlying ht.h, MapKept.run_getObj_map hb, run_checkKey', run_findKey', hf, MapKept.run_setObj_map _ hb, hm']
 unfold OpW
 simp only [execOp, resolve, Sem.run_bind, Sem.run_pure, Result.andThen_ok, invoke, builtin, List.map_toArray, List.map_cons, List.map_nil, hx, hy, h1]
 exact ⟨_, isC_obj (m' := ⟨m.es.eraseIdx j, m.clock⟩) hw he, h⟩
theorem r_lenMap {t k e : TypeId} {x : Operand} {b : Nat} {m : Mp} [ht : MapT P t k e] (hx : ρ x = .map (some b)) : YldIf P (At b (isMp m)) ⟨d, .call { callee := .builtin .len, args := #[x], argTypes := #[t] }, ty, pos, af, gd⟩ ρ (.int .i64 (m.es.length : Int)) := by
 rintro w ⟨_, hb, rfl⟩
 simp [execOp, resolve, invoke, builtin, hx, Builtin.len_, run_underlying ht.h, MapKept.run_getObj_map hb, goInt]
theorem e_range {t k e : TypeId} {x : Operand} {bm : Nat} {m : Mp} (i : Nat) (he : l[i]? = some (bm, isMp m)) [ht : MapT P t k e] (hx : ρ x = .map (some bm)) (h : ∀ b, Ψ (.pointer (some ⟨b, 0, none⟩)) ((b, isIt bm m.clock [] m.clock) :: l)) :
  Eff P W l ⟨d, .range t x, ty, pos, af, gd⟩ ρ Ψ := by
 intro w hw
 obtain ⟨_, ob, hb, rfl⟩ := hw.at_ he
 have h1 := run_range_map (P := P) w t k e bm _ m.clock ht.h hb
 unfold OpW
 simp only [execOp, hx, Sem.run_bind, h1, Result.andThen_ok, Sem.run_pure]
 exact ⟨_, hw.alloc _ (p := isIt bm m.clock [] m.clock) rfl, h _⟩
theorem mem_left {m : Mp} {seen : List Nat} {x : MapEntry} (h : x ∈ (leftOf (m.es.map KE.e).toArray seen.toArray).toList) : ∃ q ∈ m.es, q.e = x ∧ q.t ∉ seen := by
 unfold leftOf at h
 simp only [Array.toList_filter, List.mem_filter, List.mem_map] at h
 obtain ⟨⟨q, hq, rfl⟩, h2⟩ := h
 refine ⟨q, hq, rfl, fun hc => ?_⟩
 simp [KE.e, hc] at h2
theorem left_none {m : Mp} {seen : List Nat} (h : (leftOf (m.es.map KE.e).toArray seen.toArray).size = 0) : ∀ q ∈ m.es, q.t ∈ seen := by
 intro q hq
 refine Classical.byContradiction fun hc => ?_
 have : q.e ∈ (leftOf (m.es.map KE.e).toArray seen.toArray).toList := by
  unfold leftOf
  simp only [Array.toList_filter, List.mem_filter, List.mem_map]
  exact ⟨⟨q, hq, rfl⟩, by simp [KE.e, hc]⟩
 rw [← Array.length_toList] at h
 rw [List.eq_nil_of_length_eq_zero h] at this
 cases this
theorem e_next {x : Operand} {it bm since last : Nat} {seen : List Nat} {m : Mp} (i j : Nat) (hi : l[i]? = some (it, isIt bm since seen last)) (hj : l[j]? = some (bm, isMp m)) (hx : ρ x = .pointer (some ⟨it, 0, none⟩))
  (hold : ∀ q ∈ m.es, q.t < since) (hsc : since ≤ last) (h0 : (∀ q ∈ m.es, q.t ∈ seen) → Ψ (.tuple #[.bool false]) l)
  (h1 : ∀ q ∈ m.es, q.t ∉ seen → Ψ (.tuple #[.bool true, key q.a q.b, q.v]) (l.set i (it, isIt bm since (seen ++ [q.t]) m.clock))) : Eff P W l ⟨d, .next x false, ty, pos, af, gd⟩ ρ Ψ := by
 intro w hw
 obtain ⟨_, oi, hbi, rfl⟩ := hw.at_ hi
 obtain ⟨_, oj, hbj, rfl⟩ := hw.at_ hj
 have hold' : ∀ x ∈ (m.es.map KE.e).toArray.toList, x.born < since := fun x hx => by
  simp only [List.mem_map] at hx
  obtain ⟨q, hq, rfl⟩ := hx
  exact hold q hq
 unfold OpW
 simp only [execOp, hx, Sem.run_bind]
 rcases run_next_at (P := P) w ty it bm since last seen.toArray _ m.clock hbi hbj hold' hsc with ⟨hz, hr⟩ | ⟨x, hx', w1, hw1, hr⟩
 ·simp only [hr, Result.andThen_ok, Sem.run_pure]
  exact ⟨_, hw, h0 (left_none hz)⟩
 ·obtain ⟨q, hq, rfl, hns⟩ := mem_left hx'
  have hw1' : SH W l w1 := by
   rcases hw1 with rfl | rfl
   ·exact hw
   ·exact hw.drew
  obtain ⟨_, oi', hbi', rfl⟩ := hw1'.at_ hi
  simp only [hr, Result.andThen_ok, Sem.run_pure]
  exact ⟨_, hw1'.set_ hi (setB_ok w1 hbi' _) (by show _ = _; simp [KE.e]), h1 q hq hns⟩
theorem e_entry {x : Operand} {it bm since last : Nat} {seen : List Nat} {m : Mp} {q : KE} (i j : Nat) (hi : l[i]? = some (it, isIt bm since (seen ++ [q.t]) m.clock)) (hj : l[j]? = some (bm, isMp m)) (hx : ρ x = .pointer (some ⟨it, 0, none⟩))
  (hq : q ∈ m.es) (hn : (m.es.map (·.t)).Nodup) (h : Ψ (.tuple #[key q.a q.b, q.v]) l) : Eff P W l ⟨d, .entry x, ty, pos, af, gd⟩ ρ Ψ := by
 intro w hw
 obtain ⟨_, oi, hbi, rfl⟩ := hw.at_ hi
 obtain ⟨_, oj, hbj, rfl⟩ := hw.at_ hj
 have h1 := run_entry_at (P := P) w it bm since seen.toArray _ m.clock q.e (by simpa [KE.e] using hbi) hbj (by simpa using List.mem_map_of_mem hq) (by
  have e1 : (m.es.map KE.e).toArray.toList.map (·.born) = m.es.map (·.t) := by simp [KE.e, Function.comp_def]
  rw [e1]
  exact hn)
 unfold OpW
 simp only [execOp, hx, Sem.run_bind, h1, Result.andThen_ok, Sem.run_pure]
 exact ⟨_, hw, h⟩
end Go.Lg
namespace Go.Proofs.YtbalcgjphkdecaaGreatDoor.To
open Go.RowKit Go.Lg
set_option maxRecDepth 100000
theorem row_at {α : Type} (enc : α → List Value) {sz : Nat} (he : ∀ x, (enc x).length = sz) : ∀ (xs : List α) {i : Nat} {x : α}, xs[i]? = some x → ∀ {j : Nat}, j < sz → (xs.flatMap enc)[i * sz + j]? = (enc x)[j]?
 | [], i, x, h, j, hj => by simp at h
 | y :: ys, 0, x, h, j, hj => by
  simp only [List.getElem?_cons_zero, Option.some.injEq] at h
  subst h
  rw [List.flatMap_cons, List.getElem?_append_left (by rw [he]; omega), Nat.zero_mul, Nat.zero_add]
 | y :: ys, i + 1, x, h, j, hj => by
  rw [List.flatMap_cons, List.getElem?_append_right (by rw [he, Nat.succ_mul]; omega), he, show (i + 1) * sz + j - sz = i * sz + j by rw [Nat.succ_mul]; omega]
  exact row_at enc he ys (by simpa using h) hj
theorem row_len {α : Type} (enc : α → List Value) {sz : Nat} (he : ∀ x, (enc x).length = sz) : ∀ xs : List α, (xs.flatMap enc).length = xs.length * sz
 | [] => by simp
 | y :: ys => by rw [List.flatMap_cons, List.length_append, he, row_len enc he ys, List.length_cons, Nat.succ_mul]; omega
section
variable {P : Program} {ρ : Operand → Value} {d : Option Tmp} {ty : TypeId} {pos : String} {af : Array Edge} {gd : Option (Nat × Bool)} {W : World} {l : List Ent} {Ψ : Value → List Ent → Prop}
theorem y_loadIfA {S : World → Prop} {t : TypeId} {x : Operand} {b o : Nat} {cs : List Value} [ha : Agg P t true] [hs : Sz P t cs.length] (h : ρ x = .pointer (some ⟨b, o, none⟩)) (hv : ∀ w, S w → ∀ j u, cs[j]? = some u → w.cell? ⟨b, o + j, none⟩ = some u) : YldIf P S ⟨d, .load t x, ty, pos, af, gd⟩ ρ (.agg cs.toArray) := by
 intro w hw
 have hl : (loadCells ⟨b, o, none⟩ cs.length).run P w = .ok cs.toArray w := run_loadCells_list (P := P) w ⟨b, o, none⟩ cs fun j v hj => by rw [addr_add]; exact hv w hw j v hj
 simp [execOp, h, Instr.loadAt, Instr.sureAddr, loadVar, Sem.run_bind, run_isAgg ha.h, Lg.run_sizeOf hs.h, hl]
theorem e_loadSA {t : TypeId} {x : Operand} {b o : Nat} {cs : List Value} [ha : Agg P t true] [hs : Sz P t cs.length] (hx : ρ x = .pointer (some ⟨b, o, none⟩)) (hc : ∀ w, SH W l w → ∀ j u, cs[j]? = some u → w.cell? ⟨b, o + j, none⟩ = some u) (h : Ψ (.agg cs.toArray) l) : Eff P W l ⟨d, .load t x, ty, pos, af, gd⟩ ρ Ψ :=
 fun w hw => (y_loadIfA (S := SH W l) hx hc).opw hw ⟨l, hw, h⟩
end
theorem Src.elem {α : Type} {W : World} {r l : List Ent} {b o : Nat} (enc : α → List Value) {sz : Nat} (he : ∀ x, (enc x).length = sz) {xs : List α} (hat : ∀ l, (∀ e ∈ r, e ∈ l) → ∀ w, SH W l w → ∀ j u, (xs.flatMap enc)[j]? = some u → w.cell? ⟨b, o + j, none⟩ = some u) (hr : ∀ e ∈ r, e ∈ l) {i : Nat} {x : α} (hi : xs[i]? = some x) :
  ∀ w, SH W l w → ∀ j u, (enc x)[j]? = some u → w.cell? ⟨b, o + i * sz + j, none⟩ = some u := fun w hw j u hu => by
 have hj : j < sz := by rw [← he x]; exact (List.getElem?_eq_some_iff.1 hu).1
 rw [Nat.add_assoc]
 exact hat l hr w hw _ u (by rw [row_at enc he xs hi hj]; exact hu)
section
variable {P : Program}
def EqFs (P : Program) (K : Nat) (xs ys : Array Value) : List (Bool × TypeId × Nat) → Bool → Prop
 | [], r => r = true
 | (u, t, o) :: fs, r => u = false ∧ ∃ x y r1 r2, (∀ w, (part t xs o).run P w = .ok x w) ∧ (∀ w, (part t ys o).run P w = .ok y w) ∧ EqAns P K t x y r1 ∧ EqFs P K xs ys fs r2 ∧ r = (r1 && r2)
theorem EqAns.strct {t : TypeId} {K : Nat} {xs ys : Array Value} {r : Bool} {fs : List (Bool × TypeId × Nat)} (hu : P.underlying t = some (.struct (P.fieldsOf t))) (hp : P.stoodInHeld t = false)
  (hf : ((P.fieldsOf t).toList.map fun f => (f.name == "_", f.type, f.offset)) = fs) (h : EqFs P K xs ys fs r) : EqAns P (K + 1) t (.agg xs) (.agg ys) r := fun q w => by
 rw [show q + (K + 1) = (q + K) + 1 from rfl, run_equalIn_struct w (q + K) t xs ys hu hp]
 clear hu hp
 revert hf h
 generalize (P.fieldsOf t).toList = gs
 induction gs generalizing fs r with
 | nil => rintro rfl h; simp only [List.map_nil, EqFs] at h; subst h; simp [Op.eqFields]
 | cons f gs ih =>
  rintro rfl h
  obtain ⟨h1, x, y, r1, r2, h2, h3, h4, h5, rfl⟩ := h
  have hn : f.name ≠ "_" := by simpa using h1
  simp only [Op.eqFields, Sem.run_bind, Sem.run_ite, hn, ne_eq, not_false_eq_true, if_true, h2, h3, Result.andThen_ok, h4 q w]
  cases r1
  ·simp
  ·simp only [Bool.not_true, Bool.false_eq_true, if_false, Bool.true_and]
   exact ih rfl h5
theorem part_1 {t : TypeId} {cs : Array Value} {o : Nat} {v : Value} [ha : Agg P t false] (hv : cs[o]? = some v) (w : World) : (part t cs o).run P w = .ok v w := run_part ha.h hv
theorem part_n {t : TypeId} {n : Nat} {cs : Array Value} {o : Nat} {vs : Array Value} [ha : Agg P t true] [hs : Sz P t n] (hv : cs.extract o (o + n) = vs) (w : World) : (part t cs o).run P w = .ok (.agg vs) w := by
 simp [part, run_isAgg ha.h, Lg.run_sizeOf hs.h, hv]
end
abbrev P2 := S × S
def enc2 (p : P2) : List Value := [sv p.1, sv p.2]
def pv (p : P2) : Value := .agg (enc2 p).toArray
theorem enc2_len (p : P2) : (enc2 p).length = 2 := rfl
theorem enc2_one (l : List P2) : ∀ u ∈ l.flatMap enc2, u.oneCell' = true := fun u hu => by
 obtain ⟨p, _, hp⟩ := List.mem_flatMap.1 hu
 simp only [enc2, List.mem_cons, List.not_mem_nil, or_false] at hp
 rcases hp with rfl | rfl <;> rfl
theorem p2_eq (p q : P2) : ((ba p.1 == ba q.1) && (ba p.2 == ba q.2)) = decide (p = q) := by
 have hb : ∀ a b : S, (ba a == ba b) = decide (a = b) := fun a b => by
  rw [beq_toListBytes, ba_toList, ba_toList]
  by_cases h : a = b
  ·subst h; simp
  ·rw [decide_eq_false h]; simpa using h
 rw [hb, hb]
 obtain ⟨a, b⟩ := p
 obtain ⟨c, d⟩ := q
 by_cases h1 : a = c <;> by_cases h2 : b = d <;> simp [h1, h2]
theorem eqSS (a b : S) : ((ba a).toList == (ba b).toList) = decide (a = b) := by
 rw [ba_toList, ba_toList]
 by_cases h : a = b
 ·subst h; simp
 ·rw [decide_eq_false h]; simpa using h
instance : KeyT Pg 48 := ⟨⟨_, _, rfl, rfl, rfl, by decide, by decide, rfl, rfl, rfl, rfl, by kernel_rfl⟩⟩
instance : NoGuard Pg 48 := ⟨by kernel_rfl⟩
instance : NoGuard Pg 44 := ⟨by kernel_rfl⟩
theorem eq_princ (p q : P2) : EqAns Pg 2 48 (pv p) (pv q) (decide (p = q)) := fun n w => by
 rw [← p2_eq]
 exact run_eqKey2 (ba p.1) (ba p.2) (ba q.1) (ba q.2) n w
theorem eq_link (p q : P2) : EqAns Pg 2 44 (pv p) (pv q) (decide (p = q)) := fun n w => by
 have hsz := (inferInstance : Sz Pg 9 1).h
 unfold szB at hsz
 obtain ⟨i, hi, h1⟩ := Option.map_eq_some_iff.1 hsz
 have hc : Pg.cellsOf 9 = 1 := by simp [Program.cellsOf, hi, h1]
 have ht : ArrT Pg 44 2 9 := inferInstance
 rw [show n + 2 = (n + 1) + 1 from rfl, pv, pv, run_equalIn_array w (n + 1) _ _ ht.h hi, hc, ← p2_eq]
 have hp : ∀ (q : P2) w, (part 9 (enc2 q).toArray (0 * 1)).run Pg w = .ok (sv q.1) w ∧ (part 9 (enc2 q).toArray (1 * 1)).run Pg w = .ok (sv q.2) w := fun q w => ⟨part_1 rfl w, part_1 rfl w⟩
 have he : ∀ (a b : S) w, (Op.equalIn (n + 1) 9 (sv a) (sv b)).run Pg w = .ok (ba a == ba b) w := fun a b w => by
  rw [beq_toListBytes]
  exact EqAns.str (P := Pg) (t := 9) (a := ba a) (b := ba b) n w
 have hr : List.range 2 = [0, 1] := rfl
 rw [hr]
 simp only [Op.eqItems, Sem.run_bind, (hp _ _).1, (hp _ _).2, he, Result.andThen_ok]
 cases ba p.1 == ba q.1 <;> cases hq : ba p.2 == ba q.2 <;> simp [(hp _ _).2, he, hq]
def idxF {α : Type} (p : α → Bool) : List α → Nat → Int
 | [], _ => -1
 | x :: xs, i => if p x then (i : Int) else idxF p xs (i + 1)
theorem idxF_at {α : Type} (p : α → Bool) : ∀ (xs : List α) (k i : Nat) (x : α), xs[i]? = some x → p x = true → (∀ j y, j < i → xs[j]? = some y → p y = false) → idxF p xs k = ((k + i : Nat) : Int)
 | y :: ys, k, 0, x, h, hp, _ => by
  simp only [List.getElem?_cons_zero, Option.some.injEq] at h
  subst h
  simp [idxF, hp]
 | y :: ys, k, i + 1, x, h, hp, hn => by
  have := hn 0 y (by omega) rfl
  rw [idxF, this, if_neg (by simp), idxF_at p ys (k + 1) i x (by simpa using h) hp (fun j z hj hz => hn (j + 1) z (by omega) (by simpa using hz))]
  congr 1
  omega
theorem idxF_none {α : Type} (p : α → Bool) : ∀ (xs : List α) (k : Nat), (∀ (j : Nat) y, xs[j]? = some y → p y = false) → idxF p xs k = -1
 | [], k, _ => rfl
 | y :: ys, k, hn => by
  rw [idxF, hn 0 y rfl, if_neg (by simp), idxF_none p ys (k + 1) (fun j z hz => hn (j + 1) z (by simpa using hz))]
theorem idxF_nonneg {α : Type} (p : α → Bool) : ∀ (xs : List α) (k : Nat), decide (0 ≤ idxF p xs k) = xs.any p
 | [], k => rfl
 | y :: ys, k => by
  rw [idxF, List.any_cons]
  by_cases h : p y = true
  ·rw [if_pos h, h, Bool.true_or]; exact decide_eq_true (by omega)
  ·rw [if_neg h, idxF_nonneg p ys (k + 1), Bool.eq_false_iff.2 h, Bool.false_or]
attribute [local irreducible] JC JL JD RN RT Eff Yld YldIf Tr
theorem CloneS_ok {A : Option Addr} {m c : Nat} {xs : List Value} {W : World} {r : List Ent} (hl : xs.length = m * 1) (hm : m ≤ 1000000) (h1 : ∀ u ∈ xs, u.oneCell' = true) (hs : Src W r A xs) (hA : A = none → m = 0 ∧ c = 0) :
  Tr Pg 29 #[.slice A m c] W r fun v l' => ∃ le, Lg.Own 9 1 v m xs le ∧ l' = le ++ r := by
 cases A with
 | none =>
  obtain ⟨rfl, rfl⟩ := hA rfl
  obtain rfl : xs = [] := List.eq_nil_of_length_eq_zero (by simpa using hl)
  refine Tr.of_code (args := [_]) Tryz.func29 rfl Tryz.ntmps29 lE_ ?_
  refine AU1 ?_
  exact JC.ret (RT.one rfl rfl (by conv => lhs; whnf) ⟨[], Lg.Own.nil _ _, rfl⟩)
 | some a =>
  refine Tr.of_code (args := [_]) Tryz.func29 rfl Tryz.ntmps29 lE_ ?_
  refine AU1 ?_
  refine JLs (e_buildSlice [] rfl lE_ rfl (by simp) rfl fun b => ?_)
  refine AU1 ?_
  refine JLs (e_appendP [] [_] rfl rfl (n := 0) (xs := []) ⟨rfl, .inr ⟨b, 0, rfl, Nat.le_refl _, Nat.zero_le _, rfl⟩⟩ rfl (by simpa using hl) (hs.mono fun e he => List.mem_cons_of_mem _ he) h1 (by omega) (by unfold maxLen; omega) fun v' le' ho hn => ?_)
  refine AU1 ?_
  exact JC.ret (RT.one rfl rfl (by conv => lhs; whnf) ⟨le', by simpa using ho, rfl⟩)
theorem CloneL_ok {A : Option Addr} {m c : Nat} {xs : List Value} {W : World} {r : List Ent} (hl : xs.length = m * 2) (hm : m ≤ 1000000) (h1 : ∀ u ∈ xs, u.oneCell' = true) (hs : Src W r A xs) (hA : A = none → m = 0 ∧ c = 0) :
  Tr Pg 73 #[.slice A m c] W r fun v l' => ∃ le, Lg.Own 44 2 v m xs le ∧ l' = le ++ r := by
 cases A with
 | none =>
  obtain ⟨rfl, rfl⟩ := hA rfl
  obtain rfl : xs = [] := List.eq_nil_of_length_eq_zero (by simpa using hl)
  refine Tr.of_code (args := [_]) Tryz.func73 rfl Tryz.ntmps73 lE_ ?_
  refine AU1 ?_
  exact JC.ret (RT.one rfl rfl (by conv => lhs; whnf) ⟨[], Lg.Own.nil _ _, rfl⟩)
 | some a =>
  refine Tr.of_code (args := [_]) Tryz.func73 rfl Tryz.ntmps73 lE_ ?_
  refine AU1 ?_
  refine JLs (e_buildSlice [] rfl lE_ rfl (by simp) rfl fun b => ?_)
  refine AU1 ?_
  refine JLs (e_appendP [] [_] rfl rfl (n := 0) (xs := []) ⟨rfl, .inr ⟨b, 0, rfl, Nat.le_refl _, Nat.zero_le _, rfl⟩⟩ rfl (by simpa using hl) (hs.mono fun e he => List.mem_cons_of_mem _ he) h1 (by omega) (by unfold maxLen; omega) fun v' le' ho hn => ?_)
  refine AU1 ?_
  exact JC.ret (RT.one rfl rfl (by conv => lhs; whnf) ⟨le', by simpa using ho, rfl⟩)
theorem CloneW_ok {A : Option Addr} {m c : Nat} {xs : List Value} {W : World} {r : List Ent} (hl : xs.length = m * 3) (hm : m ≤ 1000000) (h1 : ∀ u ∈ xs, u.oneCell' = true) (hs : Src W r A xs) (hA : A = none → m = 0 ∧ c = 0) :
  Tr Pg 74 #[.slice A m c] W r fun v l' => ∃ le, Lg.Own 39 3 v m xs le ∧ l' = le ++ r := by
 cases A with
 | none =>
  obtain ⟨rfl, rfl⟩ := hA rfl
  obtain rfl : xs = [] := List.eq_nil_of_length_eq_zero (by simpa using hl)
  refine Tr.of_code (args := [_]) Tryz.func74 rfl Tryz.ntmps74 lE_ ?_
  refine AU1 ?_
  exact JC.ret (RT.one rfl rfl (by conv => lhs; whnf) ⟨[], Lg.Own.nil _ _, rfl⟩)
 | some a =>
  refine Tr.of_code (args := [_]) Tryz.func74 rfl Tryz.ntmps74 lE_ ?_
  refine AU1 ?_
  refine JLs (e_buildSlice [] rfl lE_ rfl (by simp) rfl fun b => ?_)
  refine AU1 ?_
  refine JLs (e_appendP [] [_] rfl rfl (n := 0) (xs := []) ⟨rfl, .inr ⟨b, 0, rfl, Nat.le_refl _, Nat.zero_le _, rfl⟩⟩ rfl (by simpa using hl) (hs.mono fun e he => List.mem_cons_of_mem _ he) h1 (by omega) (by unfold maxLen; omega) fun v' le' ho hn => ?_)
  refine AU1 ?_
  exact JC.ret (RT.one rfl rfl (by conv => lhs; whnf) ⟨le', by simpa using ho, rfl⟩)
theorem CloneP_ok {A : Option Addr} {m c : Nat} {xs : List Value} {W : World} {r : List Ent} (hl : xs.length = m * 2) (hm : m ≤ 1000000) (h1 : ∀ u ∈ xs, u.oneCell' = true) (hs : Src W r A xs) (hA : A = none → m = 0 ∧ c = 0) :
  Tr Pg 36 #[.slice A m c] W r fun v l' => ∃ le, Lg.Own 48 2 v m xs le ∧ l' = le ++ r := by
 cases A with
 | none =>
  obtain ⟨rfl, rfl⟩ := hA rfl
  obtain rfl : xs = [] := List.eq_nil_of_length_eq_zero (by simpa using hl)
  refine Tr.of_code (args := [_]) Tryz.func36 rfl Tryz.ntmps36 lE_ ?_
  refine AU1 ?_
  exact JC.ret (RT.one rfl rfl (by conv => lhs; whnf) ⟨[], Lg.Own.nil _ _, rfl⟩)
 | some a =>
  refine Tr.of_code (args := [_]) Tryz.func36 rfl Tryz.ntmps36 lE_ ?_
  refine AU1 ?_
  refine JLs (e_buildSlice [] rfl lE_ rfl (by simp) rfl fun b => ?_)
  refine AU1 ?_
  refine JLs (e_appendP [] [_] rfl rfl (n := 0) (xs := []) ⟨rfl, .inr ⟨b, 0, rfl, Nat.le_refl _, Nat.zero_le _, rfl⟩⟩ rfl (by simpa using hl) (hs.mono fun e he => List.mem_cons_of_mem _ he) h1 (by omega) (by unfold maxLen; omega) fun v' le' ho hn => ?_)
  refine AU1 ?_
  exact JC.ret (RT.one rfl rfl (by conv => lhs; whnf) ⟨le', by simpa using ho, rfl⟩)
end Go.Proofs.YtbalcgjphkdecaaGreatDoor.To
