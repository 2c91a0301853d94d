/- The machine's states as data. No conditions. -/
import Derived.Test.YthedakdjiljmhaaGreatDoorA13
import Derived.Test.YthedakdjiljmhaaGreatDoorChecked
import Derived.KernelRfl
set_option linter.unusedVariables false
set_option linter.unusedSimpArgs false
noncomputable section
/- The types of the machine's states, and how states of the evaluator read as data. -/
namespace Go.AI.Sv
open Go.Proofs
noncomputable def envL : Env := { P := Tryz.prog, ext := fun _ => none, orc := fun f args s => bif Nat.beq f 4 && args.isEmpty then some (.bool true, s) else none }
theorem evP : envL.P = Tryz.prog := rfl
theorem ty_size3 : size Tryz.prog 3 = some 1 := by kernel_rfl
theorem ty_agg3 : isAggT Tryz.prog 3 = some false := by kernel_rfl
theorem al3 (s : S) : doAlloc Tryz.prog s 3 = some (.val (.ptr ⟨s.next, 0, 0⟩) (s.alloc (.cells 3 false 1 [⟨0, 0, [.int .i64 0]⟩]))) := by kernel_rfl
theorem lv3 (s : S) (a : Ad) : loadVar Tryz.prog s 3 a = loadCell s a := by simp only [loadVar, ty_agg3]
theorem sv3 (s : S) (a : Ad) (v : V) (h : v.cells = [v]) : storeVar Tryz.prog s 3 a v = storeCells s a [v] := by
  simp only [storeVar, ty_size3, h]; rfl
theorem ty_size4 : size Tryz.prog 4 = some 1 := by kernel_rfl
theorem ty_agg4 : isAggT Tryz.prog 4 = some false := by kernel_rfl
theorem al4 (s : S) : doAlloc Tryz.prog s 4 = some (.val (.ptr ⟨s.next, 0, 0⟩) (s.alloc (.cells 4 false 1 [⟨0, 0, [.bool false]⟩]))) := by kernel_rfl
theorem lv4 (s : S) (a : Ad) : loadVar Tryz.prog s 4 a = loadCell s a := by simp only [loadVar, ty_agg4]
theorem sv4 (s : S) (a : Ad) (v : V) (h : v.cells = [v]) : storeVar Tryz.prog s 4 a v = storeCells s a [v] := by
  simp only [storeVar, ty_size4, h]; rfl
theorem ty_size9 : size Tryz.prog 9 = some 1 := by kernel_rfl
theorem ty_agg9 : isAggT Tryz.prog 9 = some false := by kernel_rfl
theorem al9 (s : S) : doAlloc Tryz.prog s 9 = some (.val (.ptr ⟨s.next, 0, 0⟩) (s.alloc (.cells 9 false 1 [⟨0, 0, [.str []]⟩]))) := by kernel_rfl
theorem lv9 (s : S) (a : Ad) : loadVar Tryz.prog s 9 a = loadCell s a := by simp only [loadVar, ty_agg9]
theorem sv9 (s : S) (a : Ad) (v : V) (h : v.cells = [v]) : storeVar Tryz.prog s 9 a v = storeCells s a [v] := by
  simp only [storeVar, ty_size9, h]; rfl
theorem ty_size23 : size Tryz.prog 23 = some 2 := by kernel_rfl
theorem ty_agg23 : isAggT Tryz.prog 23 = some true := by kernel_rfl
theorem al23 (s : S) : doAlloc Tryz.prog s 23 = some (.val (.ptr ⟨s.next, 0, 0⟩) (s.alloc (.cells 23 false 1 [⟨0, 0, [.bool false, .int .i64 0]⟩]))) := by kernel_rfl
theorem lv23 (s : S) (a : Ad) : loadVar Tryz.prog s 23 a = (loadCells s a 2).map .agg := by simp only [loadVar, ty_agg23, ty_size23, Option.bind]
theorem sv23 (s : S) (a : Ad) (l : List V) (h : l.length = 2) : storeVar Tryz.prog s 23 a (.agg l) = storeCells s a l := by
  simp only [storeVar, ty_size23, V.cells, h]; rfl
theorem nw23 (s : S) (l : List V) (h1 : l.all V.one = true) (h2 : l.length = 2) : storeCells (s.alloc (.cells 23 false 1 [⟨0, 0, [.bool false, .int .i64 0]⟩])) ⟨s.next, 0, 0⟩ l = some (s.alloc (.cells 23 false 1 [⟨0, 0, l⟩])) := st_new s 23 _ l h1 h2
theorem fa23_0 (f v c : Nat) : doFieldAddr Tryz.prog 23 (some (.ptr ⟨f, v, c⟩)) 0 = some (.ptr ⟨f, v, c + 0⟩) := by kernel_rfl
theorem fb23_0 (a : Ad) : doFieldAddr Tryz.prog 23 (some (.ptr a)) 0 = some (.ptr (addC a 0)) := by kernel_rfl
theorem fa23_1 (f v c : Nat) : doFieldAddr Tryz.prog 23 (some (.ptr ⟨f, v, c⟩)) 1 = some (.ptr ⟨f, v, c + 1⟩) := by kernel_rfl
theorem fb23_1 (a : Ad) : doFieldAddr Tryz.prog 23 (some (.ptr a)) 1 = some (.ptr (addC a 1)) := by kernel_rfl
theorem ty_size24 : size Tryz.prog 24 = some 1 := by kernel_rfl
theorem ty_agg24 : isAggT Tryz.prog 24 = some false := by kernel_rfl
theorem al24 (s : S) : doAlloc Tryz.prog s 24 = some (.val (.ptr ⟨s.next, 0, 0⟩) (s.alloc (.cells 24 false 1 [⟨0, 0, [.nilslice]⟩]))) := by kernel_rfl
theorem lv24 (s : S) (a : Ad) : loadVar Tryz.prog s 24 a = loadCell s a := by simp only [loadVar, ty_agg24]
theorem sv24 (s : S) (a : Ad) (v : V) (h : v.cells = [v]) : storeVar Tryz.prog s 24 a v = storeCells s a [v] := by
  simp only [storeVar, ty_size24, h]; rfl
theorem ty_size25 : size Tryz.prog 25 = some 1 := by kernel_rfl
theorem ty_agg25 : isAggT Tryz.prog 25 = some false := by kernel_rfl
theorem al25 (s : S) : doAlloc Tryz.prog s 25 = some (.val (.ptr ⟨s.next, 0, 0⟩) (s.alloc (.cells 25 false 1 [⟨0, 0, [.nilslice]⟩]))) := by kernel_rfl
theorem lv25 (s : S) (a : Ad) : loadVar Tryz.prog s 25 a = loadCell s a := by simp only [loadVar, ty_agg25]
theorem sv25 (s : S) (a : Ad) (v : V) (h : v.cells = [v]) : storeVar Tryz.prog s 25 a v = storeCells s a [v] := by
  simp only [storeVar, ty_size25, h]; rfl
theorem ty_size26 : size Tryz.prog 26 = some 1 := by kernel_rfl
theorem ty_agg26 : isAggT Tryz.prog 26 = some false := by kernel_rfl
theorem al26 (s : S) : doAlloc Tryz.prog s 26 = some (.val (.ptr ⟨s.next, 0, 0⟩) (s.alloc (.cells 26 false 1 [⟨0, 0, [.nilslice]⟩]))) := by kernel_rfl
theorem lv26 (s : S) (a : Ad) : loadVar Tryz.prog s 26 a = loadCell s a := by simp only [loadVar, ty_agg26]
theorem sv26 (s : S) (a : Ad) (v : V) (h : v.cells = [v]) : storeVar Tryz.prog s 26 a v = storeCells s a [v] := by
  simp only [storeVar, ty_size26, h]; rfl
theorem ty_size27 : size Tryz.prog 27 = some 1 := by kernel_rfl
theorem ty_agg27 : isAggT Tryz.prog 27 = some false := by kernel_rfl
theorem al27 (s : S) : doAlloc Tryz.prog s 27 = some (.val (.ptr ⟨s.next, 0, 0⟩) (s.alloc (.cells 27 false 1 [⟨0, 0, [.nilslice]⟩]))) := by kernel_rfl
theorem lv27 (s : S) (a : Ad) : loadVar Tryz.prog s 27 a = loadCell s a := by simp only [loadVar, ty_agg27]
theorem sv27 (s : S) (a : Ad) (v : V) (h : v.cells = [v]) : storeVar Tryz.prog s 27 a v = storeCells s a [v] := by
  simp only [storeVar, ty_size27, h]; rfl
theorem ty_size29 : size Tryz.prog 29 = some 11 := by kernel_rfl
theorem ty_agg29 : isAggT Tryz.prog 29 = some true := by kernel_rfl
theorem al29 (s : S) : doAlloc Tryz.prog s 29 = some (.val (.ptr ⟨s.next, 0, 0⟩) (s.alloc (.cells 29 false 1 [⟨0, 0, [.int .i64 0, .int .i64 0, .int .i64 0, .bool false, .int .i64 0, .nilslice, .nilslice, .nilslice, .int .i64 0, .nilslice, .int .i64 0]⟩]))) := by kernel_rfl
theorem lv29 (s : S) (a : Ad) : loadVar Tryz.prog s 29 a = (loadCells s a 11).map .agg := by simp only [loadVar, ty_agg29, ty_size29, Option.bind]
theorem sv29 (s : S) (a : Ad) (l : List V) (h : l.length = 11) : storeVar Tryz.prog s 29 a (.agg l) = storeCells s a l := by
  simp only [storeVar, ty_size29, V.cells, h]; rfl
theorem nw29 (s : S) (l : List V) (h1 : l.all V.one = true) (h2 : l.length = 11) : storeCells (s.alloc (.cells 29 false 1 [⟨0, 0, [.int .i64 0, .int .i64 0, .int .i64 0, .bool false, .int .i64 0, .nilslice, .nilslice, .nilslice, .int .i64 0, .nilslice, .int .i64 0]⟩])) ⟨s.next, 0, 0⟩ l = some (s.alloc (.cells 29 false 1 [⟨0, 0, l⟩])) := st_new s 29 _ l h1 h2
theorem fa29_0 (f v c : Nat) : doFieldAddr Tryz.prog 29 (some (.ptr ⟨f, v, c⟩)) 0 = some (.ptr ⟨f, v, c + 0⟩) := by kernel_rfl
theorem fb29_0 (a : Ad) : doFieldAddr Tryz.prog 29 (some (.ptr a)) 0 = some (.ptr (addC a 0)) := by kernel_rfl
theorem fa29_1 (f v c : Nat) : doFieldAddr Tryz.prog 29 (some (.ptr ⟨f, v, c⟩)) 1 = some (.ptr ⟨f, v, c + 1⟩) := by kernel_rfl
theorem fb29_1 (a : Ad) : doFieldAddr Tryz.prog 29 (some (.ptr a)) 1 = some (.ptr (addC a 1)) := by kernel_rfl
theorem fa29_2 (f v c : Nat) : doFieldAddr Tryz.prog 29 (some (.ptr ⟨f, v, c⟩)) 2 = some (.ptr ⟨f, v, c + 2⟩) := by kernel_rfl
theorem fb29_2 (a : Ad) : doFieldAddr Tryz.prog 29 (some (.ptr a)) 2 = some (.ptr (addC a 2)) := by kernel_rfl
theorem fa29_3 (f v c : Nat) : doFieldAddr Tryz.prog 29 (some (.ptr ⟨f, v, c⟩)) 3 = some (.ptr ⟨f, v, c + 3⟩) := by kernel_rfl
theorem fb29_3 (a : Ad) : doFieldAddr Tryz.prog 29 (some (.ptr a)) 3 = some (.ptr (addC a 3)) := by kernel_rfl
theorem fa29_4 (f v c : Nat) : doFieldAddr Tryz.prog 29 (some (.ptr ⟨f, v, c⟩)) 4 = some (.ptr ⟨f, v, c + 5⟩) := by kernel_rfl
theorem fb29_4 (a : Ad) : doFieldAddr Tryz.prog 29 (some (.ptr a)) 4 = some (.ptr (addC a 5)) := by kernel_rfl
theorem fa29_5 (f v c : Nat) : doFieldAddr Tryz.prog 29 (some (.ptr ⟨f, v, c⟩)) 5 = some (.ptr ⟨f, v, c + 6⟩) := by kernel_rfl
theorem fb29_5 (a : Ad) : doFieldAddr Tryz.prog 29 (some (.ptr a)) 5 = some (.ptr (addC a 6)) := by kernel_rfl
theorem fa29_6 (f v c : Nat) : doFieldAddr Tryz.prog 29 (some (.ptr ⟨f, v, c⟩)) 6 = some (.ptr ⟨f, v, c + 7⟩) := by kernel_rfl
theorem fb29_6 (a : Ad) : doFieldAddr Tryz.prog 29 (some (.ptr a)) 6 = some (.ptr (addC a 7)) := by kernel_rfl
theorem fa29_7 (f v c : Nat) : doFieldAddr Tryz.prog 29 (some (.ptr ⟨f, v, c⟩)) 7 = some (.ptr ⟨f, v, c + 8⟩) := by kernel_rfl
theorem fb29_7 (a : Ad) : doFieldAddr Tryz.prog 29 (some (.ptr a)) 7 = some (.ptr (addC a 8)) := by kernel_rfl
theorem fa29_8 (f v c : Nat) : doFieldAddr Tryz.prog 29 (some (.ptr ⟨f, v, c⟩)) 8 = some (.ptr ⟨f, v, c + 9⟩) := by kernel_rfl
theorem fb29_8 (a : Ad) : doFieldAddr Tryz.prog 29 (some (.ptr a)) 8 = some (.ptr (addC a 9)) := by kernel_rfl
theorem fa29_9 (f v c : Nat) : doFieldAddr Tryz.prog 29 (some (.ptr ⟨f, v, c⟩)) 9 = some (.ptr ⟨f, v, c + 10⟩) := by kernel_rfl
theorem fb29_9 (a : Ad) : doFieldAddr Tryz.prog 29 (some (.ptr a)) 9 = some (.ptr (addC a 10)) := by kernel_rfl
theorem ty_size31 : size Tryz.prog 31 = some 1 := by kernel_rfl
theorem ty_agg31 : isAggT Tryz.prog 31 = some false := by kernel_rfl
theorem al31 (s : S) : doAlloc Tryz.prog s 31 = some (.val (.ptr ⟨s.next, 0, 0⟩) (s.alloc (.cells 31 false 1 [⟨0, 0, [.nilslice]⟩]))) := by kernel_rfl
theorem lv31 (s : S) (a : Ad) : loadVar Tryz.prog s 31 a = loadCell s a := by simp only [loadVar, ty_agg31]
theorem sv31 (s : S) (a : Ad) (v : V) (h : v.cells = [v]) : storeVar Tryz.prog s 31 a v = storeCells s a [v] := by
  simp only [storeVar, ty_size31, h]; rfl
theorem ty_size33 : size Tryz.prog 33 = some 3 := by kernel_rfl
theorem ty_agg33 : isAggT Tryz.prog 33 = some true := by kernel_rfl
theorem al33 (s : S) : doAlloc Tryz.prog s 33 = some (.val (.ptr ⟨s.next, 0, 0⟩) (s.alloc (.cells 33 false 1 [⟨0, 0, [.str [], .int .i64 0, .nilslice]⟩]))) := by kernel_rfl
theorem lv33 (s : S) (a : Ad) : loadVar Tryz.prog s 33 a = (loadCells s a 3).map .agg := by simp only [loadVar, ty_agg33, ty_size33, Option.bind]
theorem sv33 (s : S) (a : Ad) (l : List V) (h : l.length = 3) : storeVar Tryz.prog s 33 a (.agg l) = storeCells s a l := by
  simp only [storeVar, ty_size33, V.cells, h]; rfl
theorem nw33 (s : S) (l : List V) (h1 : l.all V.one = true) (h2 : l.length = 3) : storeCells (s.alloc (.cells 33 false 1 [⟨0, 0, [.str [], .int .i64 0, .nilslice]⟩])) ⟨s.next, 0, 0⟩ l = some (s.alloc (.cells 33 false 1 [⟨0, 0, l⟩])) := st_new s 33 _ l h1 h2
theorem fa33_0 (f v c : Nat) : doFieldAddr Tryz.prog 33 (some (.ptr ⟨f, v, c⟩)) 0 = some (.ptr ⟨f, v, c + 0⟩) := by kernel_rfl
theorem fb33_0 (a : Ad) : doFieldAddr Tryz.prog 33 (some (.ptr a)) 0 = some (.ptr (addC a 0)) := by kernel_rfl
theorem fa33_1 (f v c : Nat) : doFieldAddr Tryz.prog 33 (some (.ptr ⟨f, v, c⟩)) 1 = some (.ptr ⟨f, v, c + 1⟩) := by kernel_rfl
theorem fb33_1 (a : Ad) : doFieldAddr Tryz.prog 33 (some (.ptr a)) 1 = some (.ptr (addC a 1)) := by kernel_rfl
theorem fa33_2 (f v c : Nat) : doFieldAddr Tryz.prog 33 (some (.ptr ⟨f, v, c⟩)) 2 = some (.ptr ⟨f, v, c + 2⟩) := by kernel_rfl
theorem fb33_2 (a : Ad) : doFieldAddr Tryz.prog 33 (some (.ptr a)) 2 = some (.ptr (addC a 2)) := by kernel_rfl
theorem ty_size34 : size Tryz.prog 34 = some 1 := by kernel_rfl
theorem ty_agg34 : isAggT Tryz.prog 34 = some false := by kernel_rfl
theorem al34 (s : S) : doAlloc Tryz.prog s 34 = some (.val (.ptr ⟨s.next, 0, 0⟩) (s.alloc (.cells 34 false 1 [⟨0, 0, [.int .i64 0]⟩]))) := by kernel_rfl
theorem lv34 (s : S) (a : Ad) : loadVar Tryz.prog s 34 a = loadCell s a := by simp only [loadVar, ty_agg34]
theorem sv34 (s : S) (a : Ad) (v : V) (h : v.cells = [v]) : storeVar Tryz.prog s 34 a v = storeCells s a [v] := by
  simp only [storeVar, ty_size34, h]; rfl
theorem ty_size62 : size Tryz.prog 62 = some 4 := by kernel_rfl
theorem ty_agg62 : isAggT Tryz.prog 62 = some true := by kernel_rfl
theorem al62 (s : S) : doAlloc Tryz.prog s 62 = some (.val (.ptr ⟨s.next, 0, 0⟩) (s.alloc (.cells 62 false 1 [⟨0, 0, [.str [], .str [], .int .i64 0, .nilslice]⟩]))) := by kernel_rfl
theorem lv62 (s : S) (a : Ad) : loadVar Tryz.prog s 62 a = (loadCells s a 4).map .agg := by simp only [loadVar, ty_agg62, ty_size62, Option.bind]
theorem sv62 (s : S) (a : Ad) (l : List V) (h : l.length = 4) : storeVar Tryz.prog s 62 a (.agg l) = storeCells s a l := by
  simp only [storeVar, ty_size62, V.cells, h]; rfl
theorem nw62 (s : S) (l : List V) (h1 : l.all V.one = true) (h2 : l.length = 4) : storeCells (s.alloc (.cells 62 false 1 [⟨0, 0, [.str [], .str [], .int .i64 0, .nilslice]⟩])) ⟨s.next, 0, 0⟩ l = some (s.alloc (.cells 62 false 1 [⟨0, 0, l⟩])) := st_new s 62 _ l h1 h2
theorem fa62_0 (f v c : Nat) : doFieldAddr Tryz.prog 62 (some (.ptr ⟨f, v, c⟩)) 0 = some (.ptr ⟨f, v, c + 0⟩) := by kernel_rfl
theorem fb62_0 (a : Ad) : doFieldAddr Tryz.prog 62 (some (.ptr a)) 0 = some (.ptr (addC a 0)) := by kernel_rfl
theorem fa62_1 (f v c : Nat) : doFieldAddr Tryz.prog 62 (some (.ptr ⟨f, v, c⟩)) 1 = some (.ptr ⟨f, v, c + 1⟩) := by kernel_rfl
theorem fb62_1 (a : Ad) : doFieldAddr Tryz.prog 62 (some (.ptr a)) 1 = some (.ptr (addC a 1)) := by kernel_rfl
theorem ty_size63 : size Tryz.prog 63 = some 1 := by kernel_rfl
theorem ty_agg63 : isAggT Tryz.prog 63 = some false := by kernel_rfl
theorem al63 (s : S) : doAlloc Tryz.prog s 63 = some (.val (.ptr ⟨s.next, 0, 0⟩) (s.alloc (.cells 63 false 1 [⟨0, 0, [.nilptr]⟩]))) := by kernel_rfl
theorem lv63 (s : S) (a : Ad) : loadVar Tryz.prog s 63 a = loadCell s a := by simp only [loadVar, ty_agg63]
theorem sv63 (s : S) (a : Ad) (v : V) (h : v.cells = [v]) : storeVar Tryz.prog s 63 a v = storeCells s a [v] := by
  simp only [storeVar, ty_size63, h]; rfl
theorem ty_size64 : size Tryz.prog 64 = some 1 := by kernel_rfl
theorem ty_agg64 : isAggT Tryz.prog 64 = some false := by kernel_rfl
theorem al64 (s : S) : doAlloc Tryz.prog s 64 = some (.val (.ptr ⟨s.next, 0, 0⟩) (s.alloc (.cells 64 false 1 [⟨0, 0, [.nilmap]⟩]))) := by kernel_rfl
theorem lv64 (s : S) (a : Ad) : loadVar Tryz.prog s 64 a = loadCell s a := by simp only [loadVar, ty_agg64]
theorem sv64 (s : S) (a : Ad) (v : V) (h : v.cells = [v]) : storeVar Tryz.prog s 64 a v = storeCells s a [v] := by
  simp only [storeVar, ty_size64, h]; rfl
theorem ty_size66 : size Tryz.prog 66 = some 4 := by kernel_rfl
theorem ty_agg66 : isAggT Tryz.prog 66 = some true := by kernel_rfl
theorem al66 (s : S) : doAlloc Tryz.prog s 66 = some (.val (.ptr ⟨s.next, 0, 0⟩) (s.alloc (.cells 66 false 1 [⟨0, 0, [.nilslice, .nilmap, .int .i64 0, .int .i64 0]⟩]))) := by kernel_rfl
theorem lv66 (s : S) (a : Ad) : loadVar Tryz.prog s 66 a = (loadCells s a 4).map .agg := by simp only [loadVar, ty_agg66, ty_size66, Option.bind]
theorem sv66 (s : S) (a : Ad) (l : List V) (h : l.length = 4) : storeVar Tryz.prog s 66 a (.agg l) = storeCells s a l := by
  simp only [storeVar, ty_size66, V.cells, h]; rfl
theorem nw66 (s : S) (l : List V) (h1 : l.all V.one = true) (h2 : l.length = 4) : storeCells (s.alloc (.cells 66 false 1 [⟨0, 0, [.nilslice, .nilmap, .int .i64 0, .int .i64 0]⟩])) ⟨s.next, 0, 0⟩ l = some (s.alloc (.cells 66 false 1 [⟨0, 0, l⟩])) := st_new s 66 _ l h1 h2
theorem fa66_0 (f v c : Nat) : doFieldAddr Tryz.prog 66 (some (.ptr ⟨f, v, c⟩)) 0 = some (.ptr ⟨f, v, c + 0⟩) := by kernel_rfl
theorem fb66_0 (a : Ad) : doFieldAddr Tryz.prog 66 (some (.ptr a)) 0 = some (.ptr (addC a 0)) := by kernel_rfl
theorem fa66_1 (f v c : Nat) : doFieldAddr Tryz.prog 66 (some (.ptr ⟨f, v, c⟩)) 1 = some (.ptr ⟨f, v, c + 1⟩) := by kernel_rfl
theorem fb66_1 (a : Ad) : doFieldAddr Tryz.prog 66 (some (.ptr a)) 1 = some (.ptr (addC a 1)) := by kernel_rfl
theorem fa66_2 (f v c : Nat) : doFieldAddr Tryz.prog 66 (some (.ptr ⟨f, v, c⟩)) 2 = some (.ptr ⟨f, v, c + 2⟩) := by kernel_rfl
theorem fb66_2 (a : Ad) : doFieldAddr Tryz.prog 66 (some (.ptr a)) 2 = some (.ptr (addC a 2)) := by kernel_rfl
theorem fa66_3 (f v c : Nat) : doFieldAddr Tryz.prog 66 (some (.ptr ⟨f, v, c⟩)) 3 = some (.ptr ⟨f, v, c + 3⟩) := by kernel_rfl
theorem fb66_3 (a : Ad) : doFieldAddr Tryz.prog 66 (some (.ptr a)) 3 = some (.ptr (addC a 3)) := by kernel_rfl
theorem ty_size72 : size Tryz.prog 72 = some 1 := by kernel_rfl
theorem ty_agg72 : isAggT Tryz.prog 72 = some false := by kernel_rfl
theorem al72 (s : S) : doAlloc Tryz.prog s 72 = some (.val (.ptr ⟨s.next, 0, 0⟩) (s.alloc (.cells 72 false 1 [⟨0, 0, [.nilptr]⟩]))) := by kernel_rfl
theorem lv72 (s : S) (a : Ad) : loadVar Tryz.prog s 72 a = loadCell s a := by simp only [loadVar, ty_agg72]
theorem sv72 (s : S) (a : Ad) (v : V) (h : v.cells = [v]) : storeVar Tryz.prog s 72 a v = storeCells s a [v] := by
  simp only [storeVar, ty_size72, h]; rfl
theorem ty_size73 : size Tryz.prog 73 = some 1 := by kernel_rfl
theorem ty_agg73 : isAggT Tryz.prog 73 = some false := by kernel_rfl
theorem al73 (s : S) : doAlloc Tryz.prog s 73 = some (.val (.ptr ⟨s.next, 0, 0⟩) (s.alloc (.cells 73 false 1 [⟨0, 0, [.nilslice]⟩]))) := by kernel_rfl
theorem lv73 (s : S) (a : Ad) : loadVar Tryz.prog s 73 a = loadCell s a := by simp only [loadVar, ty_agg73]
theorem sv73 (s : S) (a : Ad) (v : V) (h : v.cells = [v]) : storeVar Tryz.prog s 73 a v = storeCells s a [v] := by
  simp only [storeVar, ty_size73, h]; rfl
theorem ty_size75 : size Tryz.prog 75 = some 3 := by kernel_rfl
theorem ty_agg75 : isAggT Tryz.prog 75 = some true := by kernel_rfl
theorem al75 (s : S) : doAlloc Tryz.prog s 75 = some (.val (.ptr ⟨s.next, 0, 0⟩) (s.alloc (.cells 75 false 1 [⟨0, 0, [.int .i64 0, .int .i64 0, .nilslice]⟩]))) := by kernel_rfl
theorem lv75 (s : S) (a : Ad) : loadVar Tryz.prog s 75 a = (loadCells s a 3).map .agg := by simp only [loadVar, ty_agg75, ty_size75, Option.bind]
theorem sv75 (s : S) (a : Ad) (l : List V) (h : l.length = 3) : storeVar Tryz.prog s 75 a (.agg l) = storeCells s a l := by
  simp only [storeVar, ty_size75, V.cells, h]; rfl
theorem nw75 (s : S) (l : List V) (h1 : l.all V.one = true) (h2 : l.length = 3) : storeCells (s.alloc (.cells 75 false 1 [⟨0, 0, [.int .i64 0, .int .i64 0, .nilslice]⟩])) ⟨s.next, 0, 0⟩ l = some (s.alloc (.cells 75 false 1 [⟨0, 0, l⟩])) := st_new s 75 _ l h1 h2
theorem fa75_0 (f v c : Nat) : doFieldAddr Tryz.prog 75 (some (.ptr ⟨f, v, c⟩)) 0 = some (.ptr ⟨f, v, c + 0⟩) := by kernel_rfl
theorem fb75_0 (a : Ad) : doFieldAddr Tryz.prog 75 (some (.ptr a)) 0 = some (.ptr (addC a 0)) := by kernel_rfl
theorem fa75_1 (f v c : Nat) : doFieldAddr Tryz.prog 75 (some (.ptr ⟨f, v, c⟩)) 1 = some (.ptr ⟨f, v, c + 1⟩) := by kernel_rfl
theorem fb75_1 (a : Ad) : doFieldAddr Tryz.prog 75 (some (.ptr a)) 1 = some (.ptr (addC a 1)) := by kernel_rfl
theorem fa75_2 (f v c : Nat) : doFieldAddr Tryz.prog 75 (some (.ptr ⟨f, v, c⟩)) 2 = some (.ptr ⟨f, v, c + 2⟩) := by kernel_rfl
theorem fb75_2 (a : Ad) : doFieldAddr Tryz.prog 75 (some (.ptr a)) 2 = some (.ptr (addC a 2)) := by kernel_rfl
theorem ty_size82 : size Tryz.prog 82 = some 5 := by kernel_rfl
theorem ty_agg82 : isAggT Tryz.prog 82 = some true := by kernel_rfl
theorem al82 (s : S) : doAlloc Tryz.prog s 82 = some (.val (.ptr ⟨s.next, 0, 0⟩) (s.alloc (.cells 82 false 1 [⟨0, 0, [.int .i64 0, .str [], .int .i64 0, .nilslice, .int .i64 0]⟩]))) := by kernel_rfl
theorem lv82 (s : S) (a : Ad) : loadVar Tryz.prog s 82 a = (loadCells s a 5).map .agg := by simp only [loadVar, ty_agg82, ty_size82, Option.bind]
theorem sv82 (s : S) (a : Ad) (l : List V) (h : l.length = 5) : storeVar Tryz.prog s 82 a (.agg l) = storeCells s a l := by
  simp only [storeVar, ty_size82, V.cells, h]; rfl
theorem nw82 (s : S) (l : List V) (h1 : l.all V.one = true) (h2 : l.length = 5) : storeCells (s.alloc (.cells 82 false 1 [⟨0, 0, [.int .i64 0, .str [], .int .i64 0, .nilslice, .int .i64 0]⟩])) ⟨s.next, 0, 0⟩ l = some (s.alloc (.cells 82 false 1 [⟨0, 0, l⟩])) := st_new s 82 _ l h1 h2
theorem fa82_0 (f v c : Nat) : doFieldAddr Tryz.prog 82 (some (.ptr ⟨f, v, c⟩)) 0 = some (.ptr ⟨f, v, c + 0⟩) := by kernel_rfl
theorem fb82_0 (a : Ad) : doFieldAddr Tryz.prog 82 (some (.ptr a)) 0 = some (.ptr (addC a 0)) := by kernel_rfl
theorem fa82_1 (f v c : Nat) : doFieldAddr Tryz.prog 82 (some (.ptr ⟨f, v, c⟩)) 1 = some (.ptr ⟨f, v, c + 1⟩) := by kernel_rfl
theorem fb82_1 (a : Ad) : doFieldAddr Tryz.prog 82 (some (.ptr a)) 1 = some (.ptr (addC a 1)) := by kernel_rfl
theorem fa82_2 (f v c : Nat) : doFieldAddr Tryz.prog 82 (some (.ptr ⟨f, v, c⟩)) 2 = some (.ptr ⟨f, v, c + 2⟩) := by kernel_rfl
theorem fb82_2 (a : Ad) : doFieldAddr Tryz.prog 82 (some (.ptr a)) 2 = some (.ptr (addC a 2)) := by kernel_rfl
theorem fa82_3 (f v c : Nat) : doFieldAddr Tryz.prog 82 (some (.ptr ⟨f, v, c⟩)) 3 = some (.ptr ⟨f, v, c + 3⟩) := by kernel_rfl
theorem fb82_3 (a : Ad) : doFieldAddr Tryz.prog 82 (some (.ptr a)) 3 = some (.ptr (addC a 3)) := by kernel_rfl
theorem fa82_4 (f v c : Nat) : doFieldAddr Tryz.prog 82 (some (.ptr ⟨f, v, c⟩)) 4 = some (.ptr ⟨f, v, c + 4⟩) := by kernel_rfl
theorem fb82_4 (a : Ad) : doFieldAddr Tryz.prog 82 (some (.ptr a)) 4 = some (.ptr (addC a 4)) := by kernel_rfl
theorem ty_size86 : size Tryz.prog 86 = some 3 := by kernel_rfl
theorem ty_agg86 : isAggT Tryz.prog 86 = some true := by kernel_rfl
theorem al86 (s : S) : doAlloc Tryz.prog s 86 = some (.val (.ptr ⟨s.next, 0, 0⟩) (s.alloc (.cells 86 false 1 [⟨0, 0, [.str [], .bool false, .int .i64 0]⟩]))) := by kernel_rfl
theorem lv86 (s : S) (a : Ad) : loadVar Tryz.prog s 86 a = (loadCells s a 3).map .agg := by simp only [loadVar, ty_agg86, ty_size86, Option.bind]
theorem sv86 (s : S) (a : Ad) (l : List V) (h : l.length = 3) : storeVar Tryz.prog s 86 a (.agg l) = storeCells s a l := by
  simp only [storeVar, ty_size86, V.cells, h]; rfl
theorem nw86 (s : S) (l : List V) (h1 : l.all V.one = true) (h2 : l.length = 3) : storeCells (s.alloc (.cells 86 false 1 [⟨0, 0, [.str [], .bool false, .int .i64 0]⟩])) ⟨s.next, 0, 0⟩ l = some (s.alloc (.cells 86 false 1 [⟨0, 0, l⟩])) := st_new s 86 _ l h1 h2
theorem fa86_0 (f v c : Nat) : doFieldAddr Tryz.prog 86 (some (.ptr ⟨f, v, c⟩)) 0 = some (.ptr ⟨f, v, c + 0⟩) := by kernel_rfl
theorem fb86_0 (a : Ad) : doFieldAddr Tryz.prog 86 (some (.ptr a)) 0 = some (.ptr (addC a 0)) := by kernel_rfl
theorem fa86_1 (f v c : Nat) : doFieldAddr Tryz.prog 86 (some (.ptr ⟨f, v, c⟩)) 1 = some (.ptr ⟨f, v, c + 1⟩) := by kernel_rfl
theorem fb86_1 (a : Ad) : doFieldAddr Tryz.prog 86 (some (.ptr a)) 1 = some (.ptr (addC a 1)) := by kernel_rfl

/-- A slice that came in, or that was made: in states that fulfil K its elements read so. -/
structure Sl {α : Type} (K : S → Prop) (ty sz : Nat) (v : V) (xs : List α) (rd : α → List V → Prop) : Prop where
  len : ∀ s, lenV Tryz.prog ty s v = some (.int .i64 xs.length)
  bnd : xs.length < 4611686018427387904
  one : v.one = true
  cel : v.cells = [v]
  el : ∃ pa : Nat → Ad, ∀ k x, xs[k]? = some x → doIndexAddr Tryz.prog ty (some v) (some k) = some (.ptr (pa k)) ∧ ∃ l, (∀ s, K s → loadCells s (pa k) sz = some l) ∧ l.length = sz ∧ l.all V.one = true ∧ rd x l

/-- What calls that turn nothing keep. -/
def Stay (K : S → Prop) : Prop := ∀ s s', Fw [] s s' → K s → K s'

def Bytes (l : List Nat) : Prop := ∀ b ∈ l, b < 256

theorem strEq_dec : ∀ {a b : List Nat}, Bytes a → Bytes b → strEq a b = some (decide (a = b))
  | [], [], _, _ => rfl
  | [], _ :: _, _, _ => by simp [strEq]
  | _ :: _, [], _, _ => by simp [strEq]
  | x :: a, y :: b, ha, hb => by
    have ih := strEq_dec (a := a) (b := b) (fun z hz => ha z (List.mem_cons_of_mem _ hz)) (fun z hz => hb z (List.mem_cons_of_mem _ hz))
    have h1 : Nat.blt x 256 = true := by have := ha x (by simp); simp [Nat.blt]; omega
    have h2 : Nat.blt y 256 = true := by have := hb y (by simp); simp [Nat.blt]; omega
    simp only [strEq, ih, h1, h2, Bool.and_self, cond_true]
    by_cases h : x = y
    · subst h; simp
    · have : Nat.beq x y = false := by
        cases hb : Nat.beq x y with
        | false => rfl
        | true => exact absurd (Nat.eq_of_beq_eq_true hb) h
      simp [this, h]

theorem cell_of_cells {s : S} {a : Ad} {n : Nat} {l : List V} (h : loadCells s a n = some l) (o : Nat) (ho : o < n) : loadCell s (addC a o) = l[o]? := by
  unfold loadCells at h
  unfold loadCell addC
  simp only
  have key : ∀ vers : List Ver, (match findVer vers a.v with | some u => bif Nat.ble u.lo a.c then takeExact n (u.cells.drop (a.c - u.lo)) else none | none => none) = some l →
      (match findVer vers a.v with | some u => bif Nat.ble u.lo (a.c + o) then u.cells[a.c + o - u.lo]? else none | none => none) = l[o]? := by
    intro vers h
    split at h
    · rename_i u hu
      cases hb : Nat.ble u.lo a.c with
      | false => rw [hb] at h; cases h
      | true =>
        rw [hb] at h
        have hle := Nat.le_of_ble_eq_true hb
        obtain ⟨e, hl⟩ := takeExact_spec h
        have : Nat.ble u.lo (a.c + o) = true := Nat.ble_eq_true_of_le (by omega)
        simp only [this, cond_true, e]
        rw [List.getElem?_take_of_lt ho, List.getElem?_drop]
        congr 1; omega
    · cases h
  split at h
  · exact key _ h
  · exact key _ h
  · cases h

theorem cells_of_cells {s : S} {a : Ad} {n : Nat} {l : List V} (h : loadCells s a n = some l) (o m : Nat) (ho : o + m ≤ n) : loadCells s (addC a o) m = some ((l.drop o).take m) := by
  unfold loadCells at h
  unfold loadCells addC
  simp only
  have key : ∀ vers : List Ver, (match findVer vers a.v with | some u => bif Nat.ble u.lo a.c then takeExact n (u.cells.drop (a.c - u.lo)) else none | none => none) = some l →
      (match findVer vers a.v with | some u => bif Nat.ble u.lo (a.c + o) then takeExact m (u.cells.drop (a.c + o - u.lo)) else none | none => none) = some ((l.drop o).take m) := by
    intro vers h
    split at h
    · rename_i u hu
      cases hb : Nat.ble u.lo a.c with
      | false => rw [hb] at h; cases h
      | true =>
        rw [hb] at h
        have hle := Nat.le_of_ble_eq_true hb
        obtain ⟨e, hl⟩ := takeExact_spec h
        have : Nat.ble u.lo (a.c + o) = true := Nat.ble_eq_true_of_le (by omega)
        simp only [this, cond_true]
        have h1 : u.cells.drop (a.c + o - u.lo) = (u.cells.drop (a.c - u.lo)).drop o := by rw [List.drop_drop]; congr 1; omega
        have h2 : takeExact m ((u.cells.drop (a.c - u.lo)).drop o) = some (((u.cells.drop (a.c - u.lo)).drop o).take m) := by
          have : ∀ (m : Nat) (q : List V), m ≤ q.length → takeExact m q = some (q.take m) := by
            intro m
            induction m with
            | zero => intro q _; cases q <;> rfl
            | succ m ih => intro q hq; cases q with
              | nil => simp at hq
              | cons x q => simp [takeExact, ih q (by simpa using hq)]
          exact this m _ (by rw [List.length_drop]; omega)
        rw [h1, h2, e, List.drop_take, List.take_take, Nat.min_eq_left (by omega)]
    · cases h
  split at h
  · exact key _ h
  · exact key _ h
  · cases h

structure Rf where
  cell : Bool
  num : Int
  deriving DecidableEq
def Rf.cs (x : Rf) : List V := [.bool x.cell, .int .i64 x.num]
def RdRf (x : Rf) (l : List V) : Prop := l = x.cs

inductive Vl where
  | mk (con : List Nat) (num : Int) (args : List Vl)

mutual
def Vl.eqb : Vl → Vl → Bool
  | Vl.mk c n a, Vl.mk c2 n2 a2 => decide (c = c2) && decide (n = n2) && eqbL a a2
def eqbL : List Vl → List Vl → Bool
  | [], [] => true
  | x :: a, y :: b => Vl.eqb x y && eqbL a b
  | _, _ => false
end

theorem eqbL_of : ∀ {a b : List Vl}, a.length = b.length → (∀ (i : Nat) (x y : Vl), a[i]? = some x → b[i]? = some y → x.eqb y = true) → eqbL a b = true
  | [], [], _, _ => rfl
  | [], _ :: _, h, _ => by simp at h
  | _ :: _, [], h, _ => by simp at h
  | x :: a, y :: b, h, k => by
    simp only [eqbL, Bool.and_eq_true]
    exact ⟨k 0 x y rfl rfl, eqbL_of (by simpa using h) fun i u v hu hv => k (i + 1) u v (by simpa using hu) (by simpa using hv)⟩
theorem eqbL_not {x y : Vl} : ∀ {a b : List Vl} {i : Nat}, a[i]? = some x → b[i]? = some y → x.eqb y = false → eqbL a b = false
  | [], _, i, h, _, _ => by simp at h
  | _ :: _, [], i, _, h, _ => by simp at h
  | u :: a, v :: b, 0, h, k, e => by simp at h k; subst h; subst k; simp [eqbL, e]
  | u :: a, v :: b, i + 1, h, k, e => by
    have := eqbL_not (a := a) (b := b) (i := i) (by simpa using h) (by simpa using k) e
    simp [eqbL, this]
theorem eqbL_len : ∀ {a b : List Vl}, a.length ≠ b.length → eqbL a b = false
  | [], [], h => absurd rfl h
  | [], _ :: _, _ => rfl
  | _ :: _, [], _ => rfl
  | x :: a, y :: b, h => by
    have := eqbL_len (a := a) (b := b) (by simpa using h)
    simp [eqbL, this]

def RdVl (K : S → Prop) : Nat → Vl → List V → Prop
  | 0, _, _ => False
  | n + 1, .mk con num args, l => ∃ va, l = [.str con, .int .i64 num, va] ∧ Bytes con ∧ Sl K 31 3 va args (RdVl K n)


def eqAll {α : Type} (eq : α → α → Bool) : List α → List α → Bool
  | [], [] => true
  | x :: a, y :: b => eq x y && eqAll eq a b
  | _, _ => false
theorem eqAll_of {α : Type} {eq : α → α → Bool} : ∀ {a b : List α}, a.length = b.length → (∀ (i : Nat) (x y : α), a[i]? = some x → b[i]? = some y → eq x y = true) → eqAll eq a b = true
  | [], [], _, _ => rfl
  | [], _ :: _, h, _ => by simp at h
  | _ :: _, [], h, _ => by simp at h
  | x :: a, y :: b, h, k => by
    simp only [eqAll, Bool.and_eq_true]
    exact ⟨k 0 x y rfl rfl, eqAll_of (by simpa using h) fun i u v hu hv => k (i + 1) u v (by simpa using hu) (by simpa using hv)⟩
theorem eqAll_not {α : Type} {eq : α → α → Bool} {x y : α} : ∀ {a b : List α} {i : Nat}, a[i]? = some x → b[i]? = some y → eq x y = false → eqAll eq a b = false
  | [], _, i, h, _, _ => by simp at h
  | _ :: _, [], i, _, h, _ => by simp at h
  | u :: a, v :: b, 0, h, k, e => by simp at h k; subst h; subst k; simp [eqAll, e]
  | u :: a, v :: b, i + 1, h, k, e => by
    have := eqAll_not (a := a) (b := b) (i := i) (by simpa using h) (by simpa using k) e
    simp [eqAll, this]
theorem eqAll_len {α : Type} {eq : α → α → Bool} : ∀ {a b : List α}, a.length ≠ b.length → eqAll eq a b = false
  | [], [], h => absurd rfl h
  | [], _ :: _, _ => rfl
  | _ :: _, [], _ => rfl
  | x :: a, y :: b, h => by
    have := eqAll_len (eq := eq) (a := a) (b := b) (by simpa using h)
    simp [eqAll, this]
theorem eqbL_eq : ∀ (a b : List Vl), eqbL a b = eqAll Vl.eqb a b
  | [], [] => rfl
  | [], _ :: _ => rfl
  | _ :: _, [] => rfl
  | x :: a, y :: b => by simp [eqbL, eqAll, eqbL_eq a b]

structure Frm where
  expr : Int
  env : Int
  done : List Rf
structure Cl where
  kind : Int
  con : List Nat
  num : Int
  refs : List Rf
  next : Int
structure Tp where
  name : List Nat
  ref : Rf
structure Nv where
  name : List Nat
  value : Vl
def Rf.eqb (x y : Rf) : Bool := decide (x = y)
def Frm.eqb (x y : Frm) : Bool := decide (x.expr = y.expr) && decide (x.env = y.env) && eqAll Rf.eqb x.done y.done
def Cl.eqb (x y : Cl) : Bool := decide (x.kind = y.kind) && decide (x.con = y.con) && decide (x.num = y.num) && decide (x.next = y.next) && eqAll Rf.eqb x.refs y.refs
def Tp.eqb (x y : Tp) : Bool := decide (x.name = y.name) && decide (x.ref = y.ref)
def Nv.eqb (x y : Nv) : Bool := decide (x.name = y.name) && x.value.eqb y.value
def RdFrm (K : S → Prop) (x : Frm) (l : List V) : Prop := ∃ vr, l = [.int .i64 x.expr, .int .i64 x.env, vr] ∧ Sl K 73 2 vr x.done RdRf
def RdCl (K : S → Prop) (x : Cl) (l : List V) : Prop := ∃ vr, l = [.int .i64 x.kind, .str x.con, .int .i64 x.num, vr, .int .i64 x.next] ∧ Bytes x.con ∧ Sl K 73 2 vr x.refs RdRf
def RdTp (x : Tp) (l : List V) : Prop := l = [.str x.name, .bool x.ref.cell, .int .i64 x.ref.num] ∧ Bytes x.name
def RdNv (K : S → Prop) (n : Nat) (x : Nv) (l : List V) : Prop := ∃ lv, l = .str x.name :: lv ∧ Bytes x.name ∧ lv.length = 3 ∧ RdVl K n x.value lv

theorem guard23 : Tryz.prog.eqGuardType Tryz.prog.depth 23 = false := by kernel_rfl
theorem guard86 : Tryz.prog.eqGuardType Tryz.prog.depth 86 = false := by kernel_rfl
theorem eql23 (ok : Ad → Bool) (x y : Rf) : eqlAt Tryz.prog ok 20 23 (.agg x.cs) (.agg y.cs) = some (Rf.eqb x y) := by
  have hs : Tryz.prog.stoodInHeld 23 = false := by kernel_rfl
  have n1 : ("Cell" == "_") = false := by decide
  have n2 : ("Num" == "_") = false := by decide
  simp only [eqlAt, Tryz.underlying23, hs, cond_false, eqlFields, Rf.cs, partV, isAggT, Tryz.underlying4, Tryz.underlying3, Option.map, n1, n2, List.getElem?_cons_zero, List.getElem?_cons_succ, sameKind, decide_true, cond_true]
  obtain ⟨a, b⟩ := x
  obtain ⟨c, d⟩ := y
  simp only [Rf.eqb, Rf.mk.injEq]
  by_cases h1 : a = c
  · by_cases h2 : b = d
    · simp [h1, h2]
    · have e : (b == d) = false := by simp [h2]
      simp [h1, h2, e]
  · have e : (a == c) = false := by simp [h1]
    simp [h1, e]
theorem eql86 (ok : Ad → Bool) (x y : Tp) (hx : Bytes x.name) (hy : Bytes y.name) : eqlAt Tryz.prog ok 20 86 (.agg [.str x.name, .bool x.ref.cell, .int .i64 x.ref.num]) (.agg [.str y.name, .bool y.ref.cell, .int .i64 y.ref.num]) = some (Tp.eqb x y) := by
  have hs : Tryz.prog.stoodInHeld 86 = false := by kernel_rfl
  have hs2 : Tryz.prog.stoodInHeld 23 = false := by kernel_rfl
  have n0 : ("Name" == "_") = false := by decide
  have n3 : ("Ref" == "_") = false := by decide
  have n1 : ("Cell" == "_") = false := by decide
  have n2 : ("Num" == "_") = false := by decide
  have hse := strEq_dec hx hy
  simp only [eqlAt, Tryz.underlying86, Tryz.underlying9, Tryz.underlying23, hs, hs2, cond_false, eqlFields, partV, isAggT, ty_size23, Tryz.underlying4, Tryz.underlying3, Option.map, n0, n1, n2, n3, List.getElem?_cons_zero, List.getElem?_cons_succ, sameKind, decide_true, cond_true, hse, List.drop_succ_cons, List.drop_zero, List.take_succ_cons, List.take_zero]
  obtain ⟨a, b, c⟩ := x
  obtain ⟨a2, b2, c2⟩ := y
  simp only [Tp.eqb, Rf.mk.injEq]
  by_cases h0 : a = a2
  · by_cases h1 : b = b2
    · by_cases h2 : c = c2
      · simp [h0, h1, h2]
      · have e : (c == c2) = false := by simp [h2]
        simp [h0, h1, h2, e]
    · have e : (b == b2) = false := by simp [h1]
      simp [h0, h1, e]
  · simp [h0]
theorem eql23' (ok : Ad → Bool) (a : Bool) (b : Int) (c : Bool) (d : Int) : eqlAt Tryz.prog ok 20 23 (.agg [.bool a, .int .i64 b]) (.agg [.bool c, .int .i64 d]) = some (Rf.eqb ⟨a, b⟩ ⟨c, d⟩) := eql23 ok ⟨a, b⟩ ⟨c, d⟩

structure Mc where
  mode : Int
  expr : Int
  env : Int
  value : Rf
  frames : List Frm
  cells : List Cl
  tops : List Tp
  body : Int
  outputs : List Nv
  steps : Int
def RdMc (K : S → Prop) (n : Nat) (x : Mc) (l : List V) : Prop := ∃ vf vc vt vo, l = [.int .i64 x.mode, .int .i64 x.expr, .int .i64 x.env, .bool x.value.cell, .int .i64 x.value.num, vf, vc, vt, .int .i64 x.body, vo, .int .i64 x.steps] ∧
  Sl K 24 3 vf x.frames (RdFrm K) ∧ Sl K 25 5 vc x.cells (RdCl K) ∧ Sl K 26 3 vt x.tops RdTp ∧ Sl K 27 4 vo x.outputs (RdNv K n)
def Mc.eqb (x y : Mc) : Bool := decide (x.mode = y.mode) && decide (x.expr = y.expr) && decide (x.env = y.env) && Rf.eqb x.value y.value && decide (x.body = y.body) && decide (x.steps = y.steps) &&
  eqAll Frm.eqb x.frames y.frames && eqAll Cl.eqb x.cells y.cells && eqAll Tp.eqb x.tops y.tops && eqAll Nv.eqb x.outputs y.outputs
theorem Rf.one (x : Rf) : x.cs.all V.one = true := rfl

end Go.AI.Sv
