/- Contracts of the library at this program: part 1. No conditions beyond those of the row. -/
import Derived.Shelf.Strings.Builder1
import Derived.Shelf.Strings.Builder2
import Derived.Shelf.Small.Bits
import Derived.Shelf.Small.Strs
import Derived.Shelf.Utf8.RuneCount
import Derived.Shelf.Strconv.Atoi
import Derived.Shelf.Strconv.Itoa0
import Derived.Shelf.Strconv.Itoa1
import Derived.Shelf.LaysM
import Derived.Shelf.Strconv.Itoa2
import Derived.Shelf.Strconv.Itoa3
import Derived.Shelf.Strconv.AtoiErrFast
import Derived.Shelf.Strconv.ParseIntEmpty
import Derived.Shelf.Strconv.AtoiFail
import Derived.Shelf.Strconv.Clone
import Derived.Shelf.Strconv.SyntaxError
import Derived.Shelf.LaysC
import Derived.Shelf.Strconv.ToError
import Derived.Shelf.Strconv.Lower
import Derived.Shelf.Strconv.ParseUint10
import Derived.Shelf.Strconv.ParseUint10Empty
import Derived.Shelf.Strconv.ParseUint10Any
import Derived.Shelf.Strconv.ParseInt10
import Derived.Shelf.Strconv.AtoiLong
import Derived.Shelf.Strconv.AtoiInnerAll
import Derived.Shelf.Strconv.RangeError
import Derived.Shelf.Strconv.ToErrorRange
import Derived.Shelf.Strconv.AtoiAll
import Derived.Shelf.Strconv.ErrVarAll
import Derived.Shelf.Strings.Search1
import Derived.Shelf.Strings.Search2
import Derived.Shelf.Strings.Search3
import Derived.Shelf.Strings.Count
import Derived.Shelf.Strings.Shaped
import Derived.Shelf.Strings.Split
import Derived.Shelf.Strings.Replace
import Derived.Shelf.Strings.SplitShaped
import Derived.Shelf.Unicode.Decode
import Derived.Shelf.Strings.RuneCount
import Derived.Shelf.Unicode.DecodeSlow
import Derived.Shelf.Unicode.DecodeAny
import Derived.Ground.Names2Prog
import Derived.Shelf.Slices.Clone
import Derived.Shelf.Slices.CompactS
import Derived.Shelf.Slices.Cells
import Derived.Ground.SlgnProg
import Derived.Shelf.SlicesE.Clone
import Derived.Test.YtkeaedhoaamfnaaGreatDoorChecked
set_option linter.unusedVariables false
set_option linter.unusedSimpArgs false
noncomputable section
namespace Go.Proofs
open Go.Shelf
open Go.RowKit Go.Sort Go.Lib in
def Tryz.laysM171_ren : Go.Shelf.Ren := ⟨fun | 171 => 112 | 243 => 157 | 246 => 205 | 283 => 247 | 284 => 248 | 285 => 249 | 286 => 250 | 129 => 270 | 317 => 274 | 318 => 275 | 319 => 276 | 320 => 277 | 337 => 291 | 338 => 292 | n => n, fun | 3 => 3 | 9 => 9 | 2 => 2 | 4 => 4 | 171 => 300 | 0 => 0 | 53 => 301 | 37 => 304 | 5 => 5 | 173 => 305 | 212 => 325 | 51 => 321 | 20 => 20 | 213 => 326 | 46 => 288 | 232 => 350 | 233 => 351 | n => n, fun | 17 => 0 | 18 => 2 | 19 => 3 | n => n⟩
theorem Tryz.laysM171 : Go.Proofs.LaysM.n171 Tryz.prog Tryz.laysM171_ren := {
 mixed := by kernel_rfl
 f129 := Tryz.func270.trans (congrArg some (by kernel_rfl))
 f171 := Tryz.func112.trans (congrArg some (by kernel_rfl))
 f243 := Tryz.func157.trans (congrArg some (by kernel_rfl))
 f246 := Tryz.func205.trans (congrArg some (by kernel_rfl))
 f283 := Tryz.func247.trans (congrArg some (by kernel_rfl))
 f284 := Tryz.func248.trans (congrArg some (by kernel_rfl))
 f285 := Tryz.func249.trans (congrArg some (by kernel_rfl))
 f286 := Tryz.func250.trans (congrArg some (by kernel_rfl))
 f317 := Tryz.func274.trans (congrArg some (by kernel_rfl))
 f318 := Tryz.func275.trans (congrArg some (by kernel_rfl))
 f319 := Tryz.func276.trans (congrArg some (by kernel_rfl))
 f320 := Tryz.func277.trans (congrArg some (by kernel_rfl))
 f337 := Tryz.func291.trans (congrArg some (by kernel_rfl))
 f338 := Tryz.func292.trans (congrArg some (by kernel_rfl))
 t0 := Tryz.underlying0
 a0 := Tryz.isAgg0
 z0 := Tryz.sizeOf0
 v0 := Tryz.zeroValue0
 t2 := Tryz.underlying2
 a2 := Tryz.isAgg2
 z2 := Tryz.sizeOf2
 v2 := Tryz.zeroValue2
 t3 := Tryz.underlying3
 a3 := Tryz.isAgg3
 z3 := Tryz.sizeOf3
 v3 := Tryz.zeroValue3
 t4 := Tryz.underlying4
 a4 := Tryz.isAgg4
 z4 := Tryz.sizeOf4
 v4 := Tryz.zeroValue4
 t5 := Tryz.underlying5
 a5 := Tryz.isAgg5
 z5 := Tryz.sizeOf5
 v5 := Tryz.zeroValue5
 t9 := Tryz.underlying9
 a9 := Tryz.isAgg9
 z9 := Tryz.sizeOf9
 v9 := Tryz.zeroValue9
 t20 := Tryz.underlying20
 a20 := Tryz.isAgg20
 z20 := Tryz.sizeOf20
 v20 := Tryz.zeroValue20
 t37 := Tryz.underlying304
 a37 := Tryz.isAgg304
 z37 := Tryz.sizeOf304
 v37 := Tryz.zeroValue304
 t46 := Tryz.underlying288
 a46 := Tryz.isAgg288
 z46 := Tryz.sizeOf288
 v46 := Tryz.zeroValue288
 t51 := Tryz.underlying321
 a51 := Tryz.isAgg321
 z51 := Tryz.sizeOf321
 v51 := Tryz.zeroValue321
 t53 := Tryz.underlying301
 a53 := Tryz.isAgg301
 z53 := Tryz.sizeOf301
 v53 := Tryz.zeroValue301
 t171 := Tryz.underlying300
 a171 := Tryz.isAgg300
 z171 := Tryz.sizeOf300
 v171 := Tryz.zeroValue300
 t173 := Tryz.underlying305
 a173 := Tryz.isAgg305
 z173 := Tryz.sizeOf305
 v173 := Tryz.zeroValue305
 t212 := Tryz.underlying325
 a212 := Tryz.isAgg325
 z212 := Tryz.sizeOf325
 v212 := Tryz.zeroValue325
 t213 := Tryz.underlying326
 a213 := Tryz.isAgg326
 z213 := Tryz.sizeOf326
 t232 := Tryz.underlying350
 a232 := Tryz.isAgg350
 z232 := Tryz.sizeOf350
 v232 := Tryz.zeroValue350
 t233 := Tryz.underlying351
 a233 := Tryz.isAgg351
 z233 := Tryz.sizeOf351
 v233 := Tryz.zeroValue351
 g17 := by kernel_rfl
 g18 := by kernel_rfl
 g19 := by kernel_rfl
 i0 := by kernel_rfl
 i2 := by kernel_rfl
 i3 := by kernel_rfl
 i4 := by kernel_rfl
 i5 := by kernel_rfl
 i9 := by kernel_rfl
 i20 := by kernel_rfl
 i37 := by kernel_rfl
 i46 := by kernel_rfl
 i51 := by kernel_rfl
 i53 := by kernel_rfl
 i171 := by kernel_rfl
 i173 := by kernel_rfl
 i212 := by kernel_rfl
 i232 := by kernel_rfl
 i233 := by kernel_rfl
 m17 := by kernel_rfl
 m18 := by kernel_rfl
 m19 := by kernel_rfl }
open Go.RowKit Go.Sort Go.Lib in
theorem Tryz.strconv_Itoa (n : Int) (h0 : -9223372036854775808 ≤ n) (h1 : n ≤ 9223372036854775807) (w : World) (htab : Lib.TabIs Tryz.prog w "internal/strconv.uint64pow10" .u64 Lib.pow10Tab) :
 Calls Tryz.prog 112 #[.int .i64 n] w fun e w' => e = .returned (.string ⟨(Lib.itoa n).toArray⟩) ∧ ∃ k os, w' = grow (w.drewN k) os := Any.strconv_Itoa Tryz.laysM171 n h0 h1 w htab
open Go.RowKit in
def Tryz.laysC172_ren : Go.Shelf.Ren := ⟨fun | 172 => 287 | 244 => 296 | 245 => 297 | 247 => 305 | 279 => 306 | 280 => 307 | 281 => 308 | 282 => 309 | 287 => 316 | 316 => 317 | 171 => 112 | 205 => 318 | 321 => 324 | 322 => 325 | 243 => 157 | 246 => 205 | 283 => 247 | 284 => 248 | 285 => 249 | 286 => 250 | 129 => 270 | 317 => 274 | 318 => 275 | 319 => 276 | 320 => 277 | 337 => 291 | 338 => 292 | n => n, fun | 9 => 9 | 3 => 3 | 75 => 335 | 76 => 336 | 4 => 4 | 5 => 5 | 167 => 353 | 37 => 304 | 0 => 0 | 85 => 354 | 2 => 2 | 168 => 356 | 53 => 301 | 175 => 360 | 46 => 288 | 210 => 364 | 127 => 359 | 145 => 376 | 143 => 374 | 21 => 21 | 171 => 300 | 173 => 305 | 212 => 325 | 51 => 321 | 20 => 20 | 213 => 326 | 232 => 350 | 233 => 351 | 80 => 180 | n => n, fun | 15 => 4 | 16 => 5 | 17 => 0 | 18 => 2 | 19 => 3 | n => n⟩
theorem Tryz.laysC172 : Go.Proofs.LaysC.n172 Tryz.prog Tryz.laysC172_ren := {
 mixed := by kernel_rfl
 f129 := Tryz.func270.trans (congrArg some (by kernel_rfl))
 f171 := Tryz.func112.trans (congrArg some (by kernel_rfl))
 f172 := Tryz.func287.trans (congrArg some (by kernel_rfl))
 f205 := Tryz.func318.trans (congrArg some (by kernel_rfl))
 f243 := Tryz.func157.trans (congrArg some (by kernel_rfl))
 f244 := Tryz.func296.trans (congrArg some (by kernel_rfl))
 f245 := Tryz.func297.trans (congrArg some (by kernel_rfl))
 f246 := Tryz.func205.trans (congrArg some (by kernel_rfl))
 f247 := Tryz.func305.trans (congrArg some (by kernel_rfl))
 f279 := Tryz.func306.trans (congrArg some (by kernel_rfl))
 f280 := Tryz.func307.trans (congrArg some (by kernel_rfl))
 f281 := Tryz.func308.trans (congrArg some (by kernel_rfl))
 f282 := Tryz.func309.trans (congrArg some (by kernel_rfl))
 f283 := Tryz.func247.trans (congrArg some (by kernel_rfl))
 f284 := Tryz.func248.trans (congrArg some (by kernel_rfl))
 f285 := Tryz.func249.trans (congrArg some (by kernel_rfl))
 f286 := Tryz.func250.trans (congrArg some (by kernel_rfl))
 f287 := Tryz.func316.trans (congrArg some (by kernel_rfl))
 f316 := Tryz.func317.trans (congrArg some (by kernel_rfl))
 f317 := Tryz.func274.trans (congrArg some (by kernel_rfl))
 f318 := Tryz.func275.trans (congrArg some (by kernel_rfl))
 f319 := Tryz.func276.trans (congrArg some (by kernel_rfl))
 f320 := Tryz.func277.trans (congrArg some (by kernel_rfl))
 f321 := Tryz.func324.trans (congrArg some (by kernel_rfl))
 f322 := Tryz.func325.trans (congrArg some (by kernel_rfl))
 f337 := Tryz.func291.trans (congrArg some (by kernel_rfl))
 f338 := Tryz.func292.trans (congrArg some (by kernel_rfl))
 t0 := Tryz.underlying0
 a0 := Tryz.isAgg0
 z0 := Tryz.sizeOf0
 v0 := Tryz.zeroValue0
 t2 := Tryz.underlying2
 a2 := Tryz.isAgg2
 z2 := Tryz.sizeOf2
 v2 := Tryz.zeroValue2
 t3 := Tryz.underlying3
 a3 := Tryz.isAgg3
 z3 := Tryz.sizeOf3
 v3 := Tryz.zeroValue3
 t4 := Tryz.underlying4
 a4 := Tryz.isAgg4
 z4 := Tryz.sizeOf4
 v4 := Tryz.zeroValue4
 t5 := Tryz.underlying5
 a5 := Tryz.isAgg5
 z5 := Tryz.sizeOf5
 v5 := Tryz.zeroValue5
 t9 := Tryz.underlying9
 a9 := Tryz.isAgg9
 z9 := Tryz.sizeOf9
 v9 := Tryz.zeroValue9
 t20 := Tryz.underlying20
 a20 := Tryz.isAgg20
 z20 := Tryz.sizeOf20
 v20 := Tryz.zeroValue20
 t21 := Tryz.underlying21
 a21 := Tryz.isAgg21
 z21 := Tryz.sizeOf21
 v21 := Tryz.zeroValue21
 t37 := Tryz.underlying304
 a37 := Tryz.isAgg304
 z37 := Tryz.sizeOf304
 v37 := Tryz.zeroValue304
 t46 := Tryz.underlying288
 a46 := Tryz.isAgg288
 z46 := Tryz.sizeOf288
 v46 := Tryz.zeroValue288
 t51 := Tryz.underlying321
 a51 := Tryz.isAgg321
 z51 := Tryz.sizeOf321
 v51 := Tryz.zeroValue321
 t53 := Tryz.underlying301
 a53 := Tryz.isAgg301
 z53 := Tryz.sizeOf301
 v53 := Tryz.zeroValue301
 t75 := Tryz.underlying335
 a75 := Tryz.isAgg335
 z75 := Tryz.sizeOf335
 v75 := Tryz.zeroValue335
 t76 := Tryz.underlying336
 a76 := Tryz.isAgg336
 z76 := Tryz.sizeOf336
 v76 := Tryz.zeroValue336
 t85 := Tryz.underlying354
 a85 := Tryz.isAgg354
 z85 := Tryz.sizeOf354
 v85 := Tryz.zeroValue354
 t127 := Tryz.underlying359
 a127 := Tryz.isAgg359
 z127 := Tryz.sizeOf359
 v127 := Tryz.zeroValue359
 t143 := Tryz.underlying374
 a143 := Tryz.isAgg374
 z143 := Tryz.sizeOf374
 v143 := Tryz.zeroValue374
 t145 := Tryz.underlying376
 a145 := Tryz.isAgg376
 z145 := Tryz.sizeOf376
 v145 := Tryz.zeroValue376
 t167 := Tryz.underlying353
 a167 := Tryz.isAgg353
 z167 := Tryz.sizeOf353
 v167 := Tryz.zeroValue353
 t168 := Tryz.underlying356
 a168 := Tryz.isAgg356
 z168 := Tryz.sizeOf356
 v168 := Tryz.zeroValue356
 t171 := Tryz.underlying300
 a171 := Tryz.isAgg300
 z171 := Tryz.sizeOf300
 v171 := Tryz.zeroValue300
 t173 := Tryz.underlying305
 a173 := Tryz.isAgg305
 z173 := Tryz.sizeOf305
 v173 := Tryz.zeroValue305
 t175 := Tryz.underlying360
 a175 := Tryz.isAgg360
 z175 := Tryz.sizeOf360
 v175 := Tryz.zeroValue360
 t210 := Tryz.underlying364
 a210 := Tryz.isAgg364
 z210 := Tryz.sizeOf364
 v210 := Tryz.zeroValue364
 t212 := Tryz.underlying325
 a212 := Tryz.isAgg325
 z212 := Tryz.sizeOf325
 v212 := Tryz.zeroValue325
 t213 := Tryz.underlying326
 a213 := Tryz.isAgg326
 z213 := Tryz.sizeOf326
 t232 := Tryz.underlying350
 a232 := Tryz.isAgg350
 z232 := Tryz.sizeOf350
 v232 := Tryz.zeroValue350
 t233 := Tryz.underlying351
 a233 := Tryz.isAgg351
 z233 := Tryz.sizeOf351
 v233 := Tryz.zeroValue351
 g15 := by kernel_rfl
 g16 := by kernel_rfl
 g17 := by kernel_rfl
 g18 := by kernel_rfl
 g19 := by kernel_rfl
 t80 := Tryz.underlying180
 a80 := Tryz.isAgg180
 z80 := Tryz.sizeOf180
 v80 := Tryz.zeroValue180
 i0 := by kernel_rfl
 i2 := by kernel_rfl
 i3 := by kernel_rfl
 i4 := by kernel_rfl
 i5 := by kernel_rfl
 i9 := by kernel_rfl
 i20 := by kernel_rfl
 i21 := by kernel_rfl
 i37 := by kernel_rfl
 i46 := by kernel_rfl
 i51 := by kernel_rfl
 i53 := by kernel_rfl
 i75 := by kernel_rfl
 i76 := by kernel_rfl
 i80 := by kernel_rfl
 i85 := by kernel_rfl
 i127 := by kernel_rfl
 i143 := by kernel_rfl
 i145 := by kernel_rfl
 i167 := by kernel_rfl
 i168 := by kernel_rfl
 i171 := by kernel_rfl
 i173 := by kernel_rfl
 i175 := by kernel_rfl
 i210 := by kernel_rfl
 i212 := by kernel_rfl
 i232 := by kernel_rfl
 i233 := by kernel_rfl
 m15 := by kernel_rfl
 m16 := by kernel_rfl
 m17 := by kernel_rfl
 m18 := by kernel_rfl
 m19 := by kernel_rfl
 c0 := by kernel_rfl
 c2 := by kernel_rfl
 c3 := by kernel_rfl
 c4 := by kernel_rfl
 c5 := by kernel_rfl
 c9 := by kernel_rfl
 c20 := by kernel_rfl
 c21 := by kernel_rfl
 c37 := by kernel_rfl
 c46 := by kernel_rfl
 c51 := by kernel_rfl
 c53 := by kernel_rfl
 c75 := by kernel_rfl
 c76 := by kernel_rfl
 c80 := by kernel_rfl
 c85 := by kernel_rfl
 c127 := by kernel_rfl
 c143 := by kernel_rfl
 c145 := by kernel_rfl
 c167 := by kernel_rfl
 c168 := by kernel_rfl
 c171 := by kernel_rfl
 c173 := by kernel_rfl
 c175 := by kernel_rfl
 c210 := by kernel_rfl
 c212 := by kernel_rfl
 c213 := by kernel_rfl
 c232 := by kernel_rfl
 c233 := by kernel_rfl }
open Go.RowKit in
theorem Tryz.strconv_Atoi_ok (s : ByteArray) (hmax : s.size ≤ 9223372036854775806) (v : Int) (h : Lib.atoiAll s.data.toList = .ok v) (w : World) :
 Calls Tryz.prog 287 #[.string s] w fun e w' => e = .returned (.tuple #[.int .i64 v, .nilIface]) ∧ (w' = w ∨ ∃ t, w' = Lib.bytesWorld w 5 t) := Any.strconv_Atoi_ok Tryz.laysC172 s hmax v h w
open Go.RowKit in
theorem Tryz.strconv_Atoi_range (s : ByteArray) (hlim : s.size ≤ 281474976710656) (h : Lib.atoiAll s.data.toList = .range) (ev : Value) (w : World) (hv : w.cell? ⟨5, 0, none⟩ = some ev) (hev : ev = .nilIface ∨ ∃ te pe, ev = .iface te pe) :
 Calls Tryz.prog 287 #[.string s] w fun e w' => ∃ N, e = .returned (.tuple #[.int .i64 (Lib.atoiSat s.data.toList), .iface 356 (.pointer (some ⟨N, 0, none⟩))]) ∧ w.heap.size ≤ N ∧ w'.heap[N]? = some (.cells #[.string ⟨#[65, 116, 111, 105]⟩, .string s, ev] 364 (0, 0)) ∧ Below w.heap.size w w' := Any.strconv_Atoi_range Tryz.laysC172 s hlim h ev w hv hev
open Go.RowKit Go.Lib in
def Tryz.lays154_ren : Go.Shelf.Ren := ⟨fun | 154 => 288 | 138 => 298 | 165 => 299 | 143 => 300 | 166 => 301 | 197 => 302 | 169 => 303 | 195 => 310 | 218 => 311 | 240 => 312 | 241 => 313 | 219 => 314 | 260 => 315 | 276 => 319 | 277 => 320 | 217 => 273 | 225 => 321 | 224 => 322 | 267 => 323 | 266 => 290 | 314 => 326 | n => n, fun | 9 => 9 | 3 => 3 | 4 => 4 | 72 => 346 | 0 => 0 | 76 => 336 | 105 => 348 | 21 => 21 | 5 => 5 | 70 => 344 | 20 => 20 | 37 => 304 | 75 => 335 | 127 => 359 | 164 => 366 | 46 => 288 | 119 => 369 | 139 => 372 | 138 => 371 | 146 => 377 | 51 => 321 | 80 => 180 | n => n, fun | 1 => 1 | 3 => 6 | 4 => 7 | n => n⟩
theorem Tryz.lays154 : Go.Proofs.Lays.n154 Tryz.prog Tryz.lays154_ren := {
 mixed := by kernel_rfl
 f138 := Tryz.func298.trans (congrArg some (by kernel_rfl))
 f143 := Tryz.func300.trans (congrArg some (by kernel_rfl))
 f154 := Tryz.func288.trans (congrArg some (by kernel_rfl))
 f165 := Tryz.func299.trans (congrArg some (by kernel_rfl))
 f166 := Tryz.func301.trans (congrArg some (by kernel_rfl))
 f169 := Tryz.func303.trans (congrArg some (by kernel_rfl))
 f195 := Tryz.func310.trans (congrArg some (by kernel_rfl))
 f197 := Tryz.func302.trans (congrArg some (by kernel_rfl))
 f217 := Tryz.func273.trans (congrArg some (by kernel_rfl))
 f218 := Tryz.func311.trans (congrArg some (by kernel_rfl))
 f219 := Tryz.func314.trans (congrArg some (by kernel_rfl))
 f224 := Tryz.func322.trans (congrArg some (by kernel_rfl))
 f225 := Tryz.func321.trans (congrArg some (by kernel_rfl))
 f240 := Tryz.func312.trans (congrArg some (by kernel_rfl))
 f241 := Tryz.func313.trans (congrArg some (by kernel_rfl))
 f260 := Tryz.func315.trans (congrArg some (by kernel_rfl))
 f266 := Tryz.func290.trans (congrArg some (by kernel_rfl))
 f267 := Tryz.func323.trans (congrArg some (by kernel_rfl))
 f276 := Tryz.func319.trans (congrArg some (by kernel_rfl))
 f277 := Tryz.func320.trans (congrArg some (by kernel_rfl))
 f314 := Tryz.func326.trans (congrArg some (by kernel_rfl))
 t0 := Tryz.underlying0
 a0 := Tryz.isAgg0
 z0 := Tryz.sizeOf0
 v0 := Tryz.zeroValue0
 t3 := Tryz.underlying3
 a3 := Tryz.isAgg3
 z3 := Tryz.sizeOf3
 v3 := Tryz.zeroValue3
 t4 := Tryz.underlying4
 a4 := Tryz.isAgg4
 z4 := Tryz.sizeOf4
 v4 := Tryz.zeroValue4
 t5 := Tryz.underlying5
 a5 := Tryz.isAgg5
 z5 := Tryz.sizeOf5
 v5 := Tryz.zeroValue5
 t9 := Tryz.underlying9
 a9 := Tryz.isAgg9
 z9 := Tryz.sizeOf9
 v9 := Tryz.zeroValue9
 t20 := Tryz.underlying20
 a20 := Tryz.isAgg20
 z20 := Tryz.sizeOf20
 v20 := Tryz.zeroValue20
 t21 := Tryz.underlying21
 a21 := Tryz.isAgg21
 z21 := Tryz.sizeOf21
 v21 := Tryz.zeroValue21
 t37 := Tryz.underlying304
 a37 := Tryz.isAgg304
 z37 := Tryz.sizeOf304
 v37 := Tryz.zeroValue304
 t46 := Tryz.underlying288
 a46 := Tryz.isAgg288
 z46 := Tryz.sizeOf288
 v46 := Tryz.zeroValue288
 t51 := Tryz.underlying321
 a51 := Tryz.isAgg321
 z51 := Tryz.sizeOf321
 v51 := Tryz.zeroValue321
 t70 := Tryz.underlying344
 a70 := Tryz.isAgg344
 z70 := Tryz.sizeOf344
 v70 := Tryz.zeroValue344
 t72 := Tryz.underlying346
 a72 := Tryz.isAgg346
 z72 := Tryz.sizeOf346
 v72 := Tryz.zeroValue346
 t75 := Tryz.underlying335
 a75 := Tryz.isAgg335
 z75 := Tryz.sizeOf335
 v75 := Tryz.zeroValue335
 t76 := Tryz.underlying336
 a76 := Tryz.isAgg336
 z76 := Tryz.sizeOf336
 v76 := Tryz.zeroValue336
 t105 := Tryz.underlying348
 a105 := Tryz.isAgg348
 z105 := Tryz.sizeOf348
 v105 := Tryz.zeroValue348
 t119 := Tryz.underlying369
 a119 := Tryz.isAgg369
 z119 := Tryz.sizeOf369
 t127 := Tryz.underlying359
 a127 := Tryz.isAgg359
 z127 := Tryz.sizeOf359
 v127 := Tryz.zeroValue359
 t138 := Tryz.underlying371
 a138 := Tryz.isAgg371
 z138 := Tryz.sizeOf371
 v138 := Tryz.zeroValue371
 t139 := Tryz.underlying372
 a139 := Tryz.isAgg372
 z139 := Tryz.sizeOf372
 v139 := Tryz.zeroValue372
 t146 := Tryz.underlying377
 a146 := Tryz.isAgg377
 z146 := Tryz.sizeOf377
 v146 := Tryz.zeroValue377
 t164 := Tryz.underlying366
 a164 := Tryz.isAgg366
 z164 := Tryz.sizeOf366
 v164 := Tryz.zeroValue366
 g1 := by kernel_rfl
 g3 := by kernel_rfl
 g4 := by kernel_rfl }
theorem Tryz.Builder_Extra_154 : Builder.Extra Tryz.prog Tryz.lays154_ren := {
 sizeBuilder := by kernel_rfl
 liesBuilder := by kernel_rfl
 t5 := Tryz.underlying5
 a5 := Tryz.isAgg5
 z5 := Tryz.sizeOf5
 v5 := Tryz.zeroValue5
 infoByte := by kernel_rfl
 cellsByte := by kernel_rfl
 sizeByte := by kernel_rfl
 neB5 := by decide }
open Go.RowKit Go.Lib in
theorem Tryz.strings_Replace (s old new : ByteArray) (n : Int) (m : Int) (w : World) (hs : s.size < 4294967281) (hm : w.cell? ⟨1, 0, none⟩ = some (.int .i64 m)) (h1 : 1 ≤ old.size) (hlen : s.size + Lib.countB s old * new.size ≤ 140737488355328) :
 Calls Tryz.prog 288 #[.string s, .string old, .string new, .int .i64 n] w fun e w' =>
  e = .returned (.string ⟨(Lib.replace s.data.toList old.data.toList new.data.toList n).toArray⟩) ∧ Below w.heap.size w w' := Any.strings_Replace Tryz.lays154 Tryz.Builder_Extra_154 s old new n m w hs hm h1 hlen
end Go.Proofs
