/- Contracts of the library at this program: part 1. No conditions beyond those of the row. -/
import Derived.Shelf.Strings.Builder1
import Derived.Shelf.Strings.Builder2
import Derived.Shelf.Small.Strs
import Derived.Shelf.Strconv.Atoi
import Derived.Shelf.Strconv.Itoa0
import Derived.Shelf.Strconv.Itoa1
import Derived.Shelf.LaysM
import Derived.Shelf.Strconv.Itoa2
import Derived.Shelf.Strconv.Itoa3
import Derived.Shelf.Strconv.AtoiErrFast
import Derived.Shelf.Strconv.ParseIntEmpty
import Derived.Shelf.Strconv.AtoiFail
import Derived.Shelf.Strconv.Clone
import Derived.Shelf.Strconv.SyntaxError
import Derived.Shelf.LaysC
import Derived.Shelf.Strconv.ToError
import Derived.Shelf.Strconv.Lower
import Derived.Shelf.Strconv.ParseUint10
import Derived.Shelf.Strconv.ParseUint10Empty
import Derived.Shelf.Strconv.ParseUint10Any
import Derived.Shelf.Strconv.ParseInt10
import Derived.Shelf.Strconv.AtoiLong
import Derived.Shelf.Strconv.AtoiInnerAll
import Derived.Shelf.Strconv.RangeError
import Derived.Shelf.Strconv.ToErrorRange
import Derived.Shelf.Strconv.AtoiAll
import Derived.Shelf.Strconv.ErrVarAll
import Derived.Shelf.Strings.Search1
import Derived.Shelf.Strings.Search2
import Derived.Shelf.Strings.Search3
import Derived.Shelf.Strings.Count
import Derived.Shelf.Strings.Shaped
import Derived.Shelf.Strings.Split
import Derived.Shelf.Strings.Replace
import Derived.Shelf.Unicode.DecodeSlow
import Derived.Test.YtpghiabjaglpgaaGreatDoorChecked
set_option linter.all false
noncomputable section
namespace Go.Proofs
open Go.Shelf
def Tryz.lays137_ren : Go.Shelf.Ren := ⟨fun | 137 => 351 | 217 => 356 | 266 => 363 | n => n, fun | 9 => 9 | 5 => 5 | 3 => 3 | n => n, fun | n => n⟩
theorem Tryz.lays137 : Go.Proofs.Lays.n137 Tryz.prog Tryz.lays137_ren := {
 mixed := by kernel_rfl
 f137 := Tryz.func351.trans (congrArg some (by kernel_rfl))
 f217 := Tryz.func356.trans (congrArg some (by kernel_rfl))
 f266 := Tryz.func363.trans (congrArg some (by kernel_rfl))
 t3 := Tryz.underlying3
 a3 := Tryz.isAgg3
 z3 := Tryz.sizeOf3
 v3 := Tryz.zeroValue3
 t5 := Tryz.underlying5
 a5 := Tryz.isAgg5
 z5 := Tryz.sizeOf5
 v5 := Tryz.zeroValue5
 t9 := Tryz.underlying9
 a9 := Tryz.isAgg9
 z9 := Tryz.sizeOf9
 v9 := Tryz.zeroValue9 }
open Go.RowKit in
theorem Tryz.strings_IndexByte (s : ByteArray) (c : Int) (w : World) :
 Calls Tryz.prog 351 #[.string s, .int .u8 c] w fun e w' => e = .returned (.int .i64 (Lib.indexByte s.data.toList c.toNat.toUInt8)) ∧ w' = w := Any.strings_IndexByte Tryz.lays137 s c w
def Tryz.laysM171_ren : Go.Shelf.Ren := ⟨fun | 171 => 373 | 243 => 385 | 246 => 394 | 283 => 398 | 284 => 399 | 285 => 400 | 286 => 401 | 129 => 403 | 317 => 402 | 318 => 404 | 319 => 405 | 320 => 406 | 337 => 407 | 338 => 408 | n => n, fun | 3 => 3 | 9 => 9 | 2 => 2 | 4 => 4 | 171 => 446 | 0 => 0 | 53 => 423 | 37 => 411 | 5 => 5 | 173 => 449 | 212 => 452 | 51 => 443 | 20 => 20 | 213 => 453 | 46 => 426 | 232 => 457 | 233 => 458 | n => n, fun | 17 => 5 | 18 => 6 | 19 => 7 | n => n⟩
theorem Tryz.laysM171 : Go.Proofs.LaysM.n171 Tryz.prog Tryz.laysM171_ren := {
 mixed := by kernel_rfl
 f129 := Tryz.func403.trans (congrArg some (by kernel_rfl))
 f171 := Tryz.func373.trans (congrArg some (by kernel_rfl))
 f243 := Tryz.func385.trans (congrArg some (by kernel_rfl))
 f246 := Tryz.func394.trans (congrArg some (by kernel_rfl))
 f283 := Tryz.func398.trans (congrArg some (by kernel_rfl))
 f284 := Tryz.func399.trans (congrArg some (by kernel_rfl))
 f285 := Tryz.func400.trans (congrArg some (by kernel_rfl))
 f286 := Tryz.func401.trans (congrArg some (by kernel_rfl))
 f317 := Tryz.func402.trans (congrArg some (by kernel_rfl))
 f318 := Tryz.func404.trans (congrArg some (by kernel_rfl))
 f319 := Tryz.func405.trans (congrArg some (by kernel_rfl))
 f320 := Tryz.func406.trans (congrArg some (by kernel_rfl))
 f337 := Tryz.func407.trans (congrArg some (by kernel_rfl))
 f338 := Tryz.func408.trans (congrArg some (by kernel_rfl))
 t0 := Tryz.underlying0
 a0 := Tryz.isAgg0
 z0 := Tryz.sizeOf0
 v0 := Tryz.zeroValue0
 t2 := Tryz.underlying2
 a2 := Tryz.isAgg2
 z2 := Tryz.sizeOf2
 v2 := Tryz.zeroValue2
 t3 := Tryz.underlying3
 a3 := Tryz.isAgg3
 z3 := Tryz.sizeOf3
 v3 := Tryz.zeroValue3
 t4 := Tryz.underlying4
 a4 := Tryz.isAgg4
 z4 := Tryz.sizeOf4
 v4 := Tryz.zeroValue4
 t5 := Tryz.underlying5
 a5 := Tryz.isAgg5
 z5 := Tryz.sizeOf5
 v5 := Tryz.zeroValue5
 t9 := Tryz.underlying9
 a9 := Tryz.isAgg9
 z9 := Tryz.sizeOf9
 v9 := Tryz.zeroValue9
 t20 := Tryz.underlying20
 a20 := Tryz.isAgg20
 z20 := Tryz.sizeOf20
 v20 := Tryz.zeroValue20
 t37 := Tryz.underlying411
 a37 := Tryz.isAgg411
 z37 := Tryz.sizeOf411
 v37 := Tryz.zeroValue411
 t46 := Tryz.underlying426
 a46 := Tryz.isAgg426
 z46 := Tryz.sizeOf426
 v46 := Tryz.zeroValue426
 t51 := Tryz.underlying443
 a51 := Tryz.isAgg443
 z51 := Tryz.sizeOf443
 v51 := Tryz.zeroValue443
 t53 := Tryz.underlying423
 a53 := Tryz.isAgg423
 z53 := Tryz.sizeOf423
 v53 := Tryz.zeroValue423
 t171 := Tryz.underlying446
 a171 := Tryz.isAgg446
 z171 := Tryz.sizeOf446
 v171 := Tryz.zeroValue446
 t173 := Tryz.underlying449
 a173 := Tryz.isAgg449
 z173 := Tryz.sizeOf449
 v173 := Tryz.zeroValue449
 t212 := Tryz.underlying452
 a212 := Tryz.isAgg452
 z212 := Tryz.sizeOf452
 v212 := Tryz.zeroValue452
 t213 := Tryz.underlying453
 a213 := Tryz.isAgg453
 z213 := Tryz.sizeOf453
 t232 := Tryz.underlying457
 a232 := Tryz.isAgg457
 z232 := Tryz.sizeOf457
 v232 := Tryz.zeroValue457
 t233 := Tryz.underlying458
 a233 := Tryz.isAgg458
 z233 := Tryz.sizeOf458
 v233 := Tryz.zeroValue458
 g17 := by kernel_rfl
 g18 := by kernel_rfl
 g19 := by kernel_rfl
 i0 := by kernel_rfl
 i2 := by kernel_rfl
 i3 := by kernel_rfl
 i4 := by kernel_rfl
 i5 := by kernel_rfl
 i9 := by kernel_rfl
 i20 := by kernel_rfl
 i37 := by kernel_rfl
 i46 := by kernel_rfl
 i51 := by kernel_rfl
 i53 := by kernel_rfl
 i171 := by kernel_rfl
 i173 := by kernel_rfl
 i212 := by kernel_rfl
 i232 := by kernel_rfl
 i233 := by kernel_rfl
 m17 := by kernel_rfl
 m18 := by kernel_rfl
 m19 := by kernel_rfl }
open Go.RowKit Go.Sort Go.Lib in
theorem Tryz.strconv_Itoa (n : Int) (h0 : -9223372036854775808 ≤ n) (h1 : n ≤ 9223372036854775807) (w : World) (htab : Lib.TabIs Tryz.prog w "internal/strconv.uint64pow10" .u64 Lib.pow10Tab) :
 Calls Tryz.prog 373 #[.int .i64 n] w fun e w' => e = .returned (.string ⟨(Lib.itoa n).toArray⟩) ∧ ∃ k os, w' = grow (w.drewN k) os := Any.strconv_Itoa Tryz.laysM171 n h0 h1 w htab
def Tryz.laysC172_ren : Go.Shelf.Ren := ⟨fun | 172 => 360 | 244 => 365 | 245 => 366 | 247 => 374 | 279 => 375 | 280 => 376 | 281 => 377 | 282 => 378 | 287 => 386 | 316 => 387 | 171 => 373 | 205 => 388 | 321 => 395 | 322 => 396 | 243 => 385 | 246 => 394 | 283 => 398 | 284 => 399 | 285 => 400 | 286 => 401 | 129 => 403 | 317 => 402 | 318 => 404 | 319 => 405 | 320 => 406 | 337 => 407 | 338 => 408 | n => n, fun | 9 => 9 | 3 => 3 | 75 => 402 | 76 => 403 | 4 => 4 | 5 => 5 | 167 => 416 | 37 => 411 | 0 => 0 | 85 => 417 | 2 => 2 | 168 => 419 | 53 => 423 | 175 => 424 | 46 => 426 | 210 => 429 | 127 => 422 | 145 => 442 | 143 => 440 | 21 => 21 | 171 => 446 | 173 => 449 | 212 => 452 | 51 => 443 | 20 => 20 | 213 => 453 | 232 => 457 | 233 => 458 | 80 => 258 | n => n, fun | 15 => 1 | 16 => 2 | 17 => 5 | 18 => 6 | 19 => 7 | n => n⟩
theorem Tryz.laysC172 : Go.Proofs.LaysC.n172 Tryz.prog Tryz.laysC172_ren := {
 mixed := by kernel_rfl
 f129 := Tryz.func403.trans (congrArg some (by kernel_rfl))
 f171 := Tryz.func373.trans (congrArg some (by kernel_rfl))
 f172 := Tryz.func360.trans (congrArg some (by kernel_rfl))
 f205 := Tryz.func388.trans (congrArg some (by kernel_rfl))
 f243 := Tryz.func385.trans (congrArg some (by kernel_rfl))
 f244 := Tryz.func365.trans (congrArg some (by kernel_rfl))
 f245 := Tryz.func366.trans (congrArg some (by kernel_rfl))
 f246 := Tryz.func394.trans (congrArg some (by kernel_rfl))
 f247 := Tryz.func374.trans (congrArg some (by kernel_rfl))
 f279 := Tryz.func375.trans (congrArg some (by kernel_rfl))
 f280 := Tryz.func376.trans (congrArg some (by kernel_rfl))
 f281 := Tryz.func377.trans (congrArg some (by kernel_rfl))
 f282 := Tryz.func378.trans (congrArg some (by kernel_rfl))
 f283 := Tryz.func398.trans (congrArg some (by kernel_rfl))
 f284 := Tryz.func399.trans (congrArg some (by kernel_rfl))
 f285 := Tryz.func400.trans (congrArg some (by kernel_rfl))
 f286 := Tryz.func401.trans (congrArg some (by kernel_rfl))
 f287 := Tryz.func386.trans (congrArg some (by kernel_rfl))
 f316 := Tryz.func387.trans (congrArg some (by kernel_rfl))
 f317 := Tryz.func402.trans (congrArg some (by kernel_rfl))
 f318 := Tryz.func404.trans (congrArg some (by kernel_rfl))
 f319 := Tryz.func405.trans (congrArg some (by kernel_rfl))
 f320 := Tryz.func406.trans (congrArg some (by kernel_rfl))
 f321 := Tryz.func395.trans (congrArg some (by kernel_rfl))
 f322 := Tryz.func396.trans (congrArg some (by kernel_rfl))
 f337 := Tryz.func407.trans (congrArg some (by kernel_rfl))
 f338 := Tryz.func408.trans (congrArg some (by kernel_rfl))
 t0 := Tryz.underlying0
 a0 := Tryz.isAgg0
 z0 := Tryz.sizeOf0
 v0 := Tryz.zeroValue0
 t2 := Tryz.underlying2
 a2 := Tryz.isAgg2
 z2 := Tryz.sizeOf2
 v2 := Tryz.zeroValue2
 t3 := Tryz.underlying3
 a3 := Tryz.isAgg3
 z3 := Tryz.sizeOf3
 v3 := Tryz.zeroValue3
 t4 := Tryz.underlying4
 a4 := Tryz.isAgg4
 z4 := Tryz.sizeOf4
 v4 := Tryz.zeroValue4
 t5 := Tryz.underlying5
 a5 := Tryz.isAgg5
 z5 := Tryz.sizeOf5
 v5 := Tryz.zeroValue5
 t9 := Tryz.underlying9
 a9 := Tryz.isAgg9
 z9 := Tryz.sizeOf9
 v9 := Tryz.zeroValue9
 t20 := Tryz.underlying20
 a20 := Tryz.isAgg20
 z20 := Tryz.sizeOf20
 v20 := Tryz.zeroValue20
 t21 := Tryz.underlying21
 a21 := Tryz.isAgg21
 z21 := Tryz.sizeOf21
 v21 := Tryz.zeroValue21
 t37 := Tryz.underlying411
 a37 := Tryz.isAgg411
 z37 := Tryz.sizeOf411
 v37 := Tryz.zeroValue411
 t46 := Tryz.underlying426
 a46 := Tryz.isAgg426
 z46 := Tryz.sizeOf426
 v46 := Tryz.zeroValue426
 t51 := Tryz.underlying443
 a51 := Tryz.isAgg443
 z51 := Tryz.sizeOf443
 v51 := Tryz.zeroValue443
 t53 := Tryz.underlying423
 a53 := Tryz.isAgg423
 z53 := Tryz.sizeOf423
 v53 := Tryz.zeroValue423
 t75 := Tryz.underlying402
 a75 := Tryz.isAgg402
 z75 := Tryz.sizeOf402
 v75 := Tryz.zeroValue402
 t76 := Tryz.underlying403
 a76 := Tryz.isAgg403
 z76 := Tryz.sizeOf403
 v76 := Tryz.zeroValue403
 t85 := Tryz.underlying417
 a85 := Tryz.isAgg417
 z85 := Tryz.sizeOf417
 v85 := Tryz.zeroValue417
 t127 := Tryz.underlying422
 a127 := Tryz.isAgg422
 z127 := Tryz.sizeOf422
 v127 := Tryz.zeroValue422
 t143 := Tryz.underlying440
 a143 := Tryz.isAgg440
 z143 := Tryz.sizeOf440
 v143 := Tryz.zeroValue440
 t145 := Tryz.underlying442
 a145 := Tryz.isAgg442
 z145 := Tryz.sizeOf442
 v145 := Tryz.zeroValue442
 t167 := Tryz.underlying416
 a167 := Tryz.isAgg416
 z167 := Tryz.sizeOf416
 v167 := Tryz.zeroValue416
 t168 := Tryz.underlying419
 a168 := Tryz.isAgg419
 z168 := Tryz.sizeOf419
 v168 := Tryz.zeroValue419
 t171 := Tryz.underlying446
 a171 := Tryz.isAgg446
 z171 := Tryz.sizeOf446
 v171 := Tryz.zeroValue446
 t173 := Tryz.underlying449
 a173 := Tryz.isAgg449
 z173 := Tryz.sizeOf449
 v173 := Tryz.zeroValue449
 t175 := Tryz.underlying424
 a175 := Tryz.isAgg424
 z175 := Tryz.sizeOf424
 v175 := Tryz.zeroValue424
 t210 := Tryz.underlying429
 a210 := Tryz.isAgg429
 z210 := Tryz.sizeOf429
 v210 := Tryz.zeroValue429
 t212 := Tryz.underlying452
 a212 := Tryz.isAgg452
 z212 := Tryz.sizeOf452
 v212 := Tryz.zeroValue452
 t213 := Tryz.underlying453
 a213 := Tryz.isAgg453
 z213 := Tryz.sizeOf453
 t232 := Tryz.underlying457
 a232 := Tryz.isAgg457
 z232 := Tryz.sizeOf457
 v232 := Tryz.zeroValue457
 t233 := Tryz.underlying458
 a233 := Tryz.isAgg458
 z233 := Tryz.sizeOf458
 v233 := Tryz.zeroValue458
 g15 := by kernel_rfl
 g16 := by kernel_rfl
 g17 := by kernel_rfl
 g18 := by kernel_rfl
 g19 := by kernel_rfl
 t80 := Tryz.underlying258
 a80 := Tryz.isAgg258
 z80 := Tryz.sizeOf258
 v80 := Tryz.zeroValue258
 i0 := by kernel_rfl
 i2 := by kernel_rfl
 i3 := by kernel_rfl
 i4 := by kernel_rfl
 i5 := by kernel_rfl
 i9 := by kernel_rfl
 i20 := by kernel_rfl
 i21 := by kernel_rfl
 i37 := by kernel_rfl
 i46 := by kernel_rfl
 i51 := by kernel_rfl
 i53 := by kernel_rfl
 i75 := by kernel_rfl
 i76 := by kernel_rfl
 i80 := by kernel_rfl
 i85 := by kernel_rfl
 i127 := by kernel_rfl
 i143 := by kernel_rfl
 i145 := by kernel_rfl
 i167 := by kernel_rfl
 i168 := by kernel_rfl
 i171 := by kernel_rfl
 i173 := by kernel_rfl
 i175 := by kernel_rfl
 i210 := by kernel_rfl
 i212 := by kernel_rfl
 i232 := by kernel_rfl
 i233 := by kernel_rfl
 m15 := by kernel_rfl
 m16 := by kernel_rfl
 m17 := by kernel_rfl
 m18 := by kernel_rfl
 m19 := by kernel_rfl
 c0 := by kernel_rfl
 c2 := by kernel_rfl
 c3 := by kernel_rfl
 c4 := by kernel_rfl
 c5 := by kernel_rfl
 c9 := by kernel_rfl
 c20 := by kernel_rfl
 c21 := by kernel_rfl
 c37 := by kernel_rfl
 c46 := by kernel_rfl
 c51 := by kernel_rfl
 c53 := by kernel_rfl
 c75 := by kernel_rfl
 c76 := by kernel_rfl
 c80 := by kernel_rfl
 c85 := by kernel_rfl
 c127 := by kernel_rfl
 c143 := by kernel_rfl
 c145 := by kernel_rfl
 c167 := by kernel_rfl
 c168 := by kernel_rfl
 c171 := by kernel_rfl
 c173 := by kernel_rfl
 c175 := by kernel_rfl
 c210 := by kernel_rfl
 c212 := by kernel_rfl
 c213 := by kernel_rfl
 c232 := by kernel_rfl
 c233 := by kernel_rfl }
open Go.RowKit in
theorem Tryz.strconv_Atoi_ok (s : ByteArray) (hmax : s.size ≤ 9223372036854775806) (v : Int) (h : Lib.atoiAll s.data.toList = .ok v) (w : World) :
 Calls Tryz.prog 360 #[.string s] w fun e w' => e = .returned (.tuple #[.int .i64 v, .nilIface]) ∧ (w' = w ∨ ∃ t, w' = Lib.bytesWorld w 5 t) := Any.strconv_Atoi_ok Tryz.laysC172 s hmax v h w
open Go.RowKit in
theorem Tryz.strconv_Atoi_range (s : ByteArray) (hlim : s.size ≤ 281474976710656) (h : Lib.atoiAll s.data.toList = .range) (ev : Value) (w : World) (hv : w.cell? ⟨2, 0, none⟩ = some ev) (hev : ev = .nilIface ∨ ∃ te pe, ev = .iface te pe) :
 Calls Tryz.prog 360 #[.string s] w fun e w' => ∃ N, e = .returned (.tuple #[.int .i64 (Lib.atoiSat s.data.toList), .iface 419 (.pointer (some ⟨N, 0, none⟩))]) ∧ w.heap.size ≤ N ∧ w'.heap[N]? = some (.cells #[.string ⟨#[65, 116, 111, 105]⟩, .string s, ev] 429 (0, 0)) ∧ Below w.heap.size w w' := Any.strconv_Atoi_range Tryz.laysC172 s hlim h ev w hv hev
def Tryz.lays154_ren : Go.Shelf.Ren := ⟨fun | 154 => 361 | 138 => 367 | 165 => 368 | 143 => 369 | 166 => 370 | 197 => 371 | 169 => 372 | 195 => 379 | 218 => 380 | 240 => 381 | 241 => 382 | 219 => 383 | 260 => 384 | 276 => 389 | 277 => 390 | 217 => 356 | 225 => 391 | 224 => 392 | 267 => 393 | 266 => 363 | 314 => 397 | n => n, fun | 9 => 9 | 3 => 3 | 4 => 4 | 72 => 413 | 0 => 0 | 76 => 403 | 105 => 414 | 21 => 21 | 5 => 5 | 70 => 410 | 20 => 20 | 37 => 411 | 75 => 402 | 127 => 422 | 164 => 431 | 46 => 426 | 119 => 434 | 139 => 437 | 138 => 436 | 146 => 444 | 51 => 443 | 80 => 258 | n => n, fun | 1 => 0 | 3 => 3 | 4 => 4 | n => n⟩
theorem Tryz.lays154 : Go.Proofs.Lays.n154 Tryz.prog Tryz.lays154_ren := {
 mixed := by kernel_rfl
 f138 := Tryz.func367.trans (congrArg some (by kernel_rfl))
 f143 := Tryz.func369.trans (congrArg some (by kernel_rfl))
 f154 := Tryz.func361.trans (congrArg some (by kernel_rfl))
 f165 := Tryz.func368.trans (congrArg some (by kernel_rfl))
 f166 := Tryz.func370.trans (congrArg some (by kernel_rfl))
 f169 := Tryz.func372.trans (congrArg some (by kernel_rfl))
 f195 := Tryz.func379.trans (congrArg some (by kernel_rfl))
 f197 := Tryz.func371.trans (congrArg some (by kernel_rfl))
 f217 := Tryz.func356.trans (congrArg some (by kernel_rfl))
 f218 := Tryz.func380.trans (congrArg some (by kernel_rfl))
 f219 := Tryz.func383.trans (congrArg some (by kernel_rfl))
 f224 := Tryz.func392.trans (congrArg some (by kernel_rfl))
 f225 := Tryz.func391.trans (congrArg some (by kernel_rfl))
 f240 := Tryz.func381.trans (congrArg some (by kernel_rfl))
 f241 := Tryz.func382.trans (congrArg some (by kernel_rfl))
 f260 := Tryz.func384.trans (congrArg some (by kernel_rfl))
 f266 := Tryz.func363.trans (congrArg some (by kernel_rfl))
 f267 := Tryz.func393.trans (congrArg some (by kernel_rfl))
 f276 := Tryz.func389.trans (congrArg some (by kernel_rfl))
 f277 := Tryz.func390.trans (congrArg some (by kernel_rfl))
 f314 := Tryz.func397.trans (congrArg some (by kernel_rfl))
 t0 := Tryz.underlying0
 a0 := Tryz.isAgg0
 z0 := Tryz.sizeOf0
 v0 := Tryz.zeroValue0
 t3 := Tryz.underlying3
 a3 := Tryz.isAgg3
 z3 := Tryz.sizeOf3
 v3 := Tryz.zeroValue3
 t4 := Tryz.underlying4
 a4 := Tryz.isAgg4
 z4 := Tryz.sizeOf4
 v4 := Tryz.zeroValue4
 t5 := Tryz.underlying5
 a5 := Tryz.isAgg5
 z5 := Tryz.sizeOf5
 v5 := Tryz.zeroValue5
 t9 := Tryz.underlying9
 a9 := Tryz.isAgg9
 z9 := Tryz.sizeOf9
 v9 := Tryz.zeroValue9
 t20 := Tryz.underlying20
 a20 := Tryz.isAgg20
 z20 := Tryz.sizeOf20
 v20 := Tryz.zeroValue20
 t21 := Tryz.underlying21
 a21 := Tryz.isAgg21
 z21 := Tryz.sizeOf21
 v21 := Tryz.zeroValue21
 t37 := Tryz.underlying411
 a37 := Tryz.isAgg411
 z37 := Tryz.sizeOf411
 v37 := Tryz.zeroValue411
 t46 := Tryz.underlying426
 a46 := Tryz.isAgg426
 z46 := Tryz.sizeOf426
 v46 := Tryz.zeroValue426
 t51 := Tryz.underlying443
 a51 := Tryz.isAgg443
 z51 := Tryz.sizeOf443
 v51 := Tryz.zeroValue443
 t70 := Tryz.underlying410
 a70 := Tryz.isAgg410
 z70 := Tryz.sizeOf410
 v70 := Tryz.zeroValue410
 t72 := Tryz.underlying413
 a72 := Tryz.isAgg413
 z72 := Tryz.sizeOf413
 v72 := Tryz.zeroValue413
 t75 := Tryz.underlying402
 a75 := Tryz.isAgg402
 z75 := Tryz.sizeOf402
 v75 := Tryz.zeroValue402
 t76 := Tryz.underlying403
 a76 := Tryz.isAgg403
 z76 := Tryz.sizeOf403
 v76 := Tryz.zeroValue403
 t105 := Tryz.underlying414
 a105 := Tryz.isAgg414
 z105 := Tryz.sizeOf414
 v105 := Tryz.zeroValue414
 t119 := Tryz.underlying434
 a119 := Tryz.isAgg434
 z119 := Tryz.sizeOf434
 t127 := Tryz.underlying422
 a127 := Tryz.isAgg422
 z127 := Tryz.sizeOf422
 v127 := Tryz.zeroValue422
 t138 := Tryz.underlying436
 a138 := Tryz.isAgg436
 z138 := Tryz.sizeOf436
 v138 := Tryz.zeroValue436
 t139 := Tryz.underlying437
 a139 := Tryz.isAgg437
 z139 := Tryz.sizeOf437
 v139 := Tryz.zeroValue437
 t146 := Tryz.underlying444
 a146 := Tryz.isAgg444
 z146 := Tryz.sizeOf444
 v146 := Tryz.zeroValue444
 t164 := Tryz.underlying431
 a164 := Tryz.isAgg431
 z164 := Tryz.sizeOf431
 v164 := Tryz.zeroValue431
 g1 := by kernel_rfl
 g3 := by kernel_rfl
 g4 := by kernel_rfl }
theorem Tryz.Builder_Extra_154 : Builder.Extra Tryz.prog Tryz.lays154_ren := {
 sizeBuilder := by kernel_rfl
 liesBuilder := by kernel_rfl
 t5 := Tryz.underlying5
 a5 := Tryz.isAgg5
 z5 := Tryz.sizeOf5
 v5 := Tryz.zeroValue5
 infoByte := by kernel_rfl
 cellsByte := by kernel_rfl
 sizeByte := by kernel_rfl
 neB5 := by decide }
open Go.RowKit Go.Lib in
theorem Tryz.strings_Replace (s old new : ByteArray) (n : Int) (m : Int) (w : World) (hs : s.size < 4294967281) (hm : w.cell? ⟨0, 0, none⟩ = some (.int .i64 m)) (h1 : 1 ≤ old.size) (hlen : s.size + Lib.countB s old * new.size ≤ 140737488355328) :
 Calls Tryz.prog 361 #[.string s, .string old, .string new, .int .i64 n] w fun e w' =>
  e = .returned (.string ⟨(Lib.replace s.data.toList old.data.toList new.data.toList n).toArray⟩) ∧ Below w.heap.size w w' := Any.strings_Replace Tryz.lays154 Tryz.Builder_Extra_154 s old new n m w hs hm h1 hlen
end Go.Proofs
