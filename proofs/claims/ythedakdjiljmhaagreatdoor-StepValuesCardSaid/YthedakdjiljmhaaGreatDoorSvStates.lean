/- The machine's states, read. No conditions. -/
import Derived.Test.YthedakdjiljmhaaGreatDoorSvRead
set_option linter.unusedVariables false
set_option linter.unusedSimpArgs false
noncomputable section
/- Records and the machine's states, from the kit's reading to the evaluator's. -/
namespace Go.AI.Sv
open Go.Proofs Go.ChangeShapes

theorem AbsL.app {N : Nat} : ∀ {ks : List Ck} {cs : List Value} {l : List V} {ks' : List Ck} {cs' : List Value} {l' : List V}, AbsL N ks cs l → AbsL N ks' cs' l' → AbsL N (ks ++ ks') (cs ++ cs') (l ++ l')
  | [], [], [], _, _, _, _, h => h
  | k :: ks, c :: cs, x :: xs, _, _, _, h, h' => ⟨h.1, AbsL.app h.2 h'⟩
  | [], [], _ :: _, _, _, _, h, _ => h.elim
  | [], _ :: _, _, _, _, _, h, _ => h.elim
  | _ :: _, [], _, _, _, _, h, _ => h.elim
  | _ :: _, _ :: _, [], _, _, _, h, _ => h.elim
theorem AbsL.cons {N : Nat} {k : Ck} {c : Value} {x : V} {ks : List Ck} {cs : List Value} {l : List V} (h : absC N k c = some x) (h' : AbsL N ks cs l) : AbsL N (k :: ks) (c :: cs) (x :: l) := ⟨h, h'⟩
theorem AbsL.nil {N : Nat} : AbsL N [] [] [] := trivial

section
variable {H : Type} {enc : TypeId × Value → H} {W : World}

theorem read_struct {t : TypeId} {fs : Array Field} {fuel : Nat} {cs : List Value} {x : DataW H × List MemPlace} (ht : Tryz.prog.underlying t = some (.struct fs)) (h : Td enc W fuel t cs = some x) :
    cs.length = Tryz.prog.cellsOf t ∧ ∃ n, fuel = n + 1 ∧ ∀ (i : Nat) (f : Field), fs[i]? = some f → ∃ y, Td enc W n f.type ((cs.drop f.offset).take (Tryz.prog.cellsOf f.type)) = some y ∧ (Wt t x.1 → Wt f.type y.1) := by
  obtain ⟨xs, n, hn, hx, hl, hsz, hf⟩ := DataW.trod_struct ht h
  refine ⟨hl, n, hn, fun i f hi => ?_⟩
  have hi2 : i < xs.length := by rw [hsz]; exact (Array.getElem?_eq_some_iff.1 hi).1
  have := hf i f hi
  rw [List.getElem?_eq_getElem hi2] at this
  refine ⟨_, this, fun hw m hm => hw m ?_⟩
  rw [hx]
  simp only [DataW.weights, ht]
  refine weightsEach_at (i := i) (t := f.type) (d := xs[i].1) ?_ ?_ m hm
  · rw [List.getElem?_map, Array.getElem?_toList, hi]; rfl
  · rw [List.getElem?_map, List.getElem?_eq_getElem hi2]; rfl

theorem cells3 : Tryz.prog.cellsOf 3 = 1 := by kernel_rfl
theorem cells4 : Tryz.prog.cellsOf 4 = 1 := by kernel_rfl
theorem cells9 : Tryz.prog.cellsOf 9 = 1 := by kernel_rfl
theorem cells23 : Tryz.prog.cellsOf 23 = 2 := by kernel_rfl
theorem cells24 : Tryz.prog.cellsOf 24 = 1 := by kernel_rfl
theorem cells25 : Tryz.prog.cellsOf 25 = 1 := by kernel_rfl
theorem cells26 : Tryz.prog.cellsOf 26 = 1 := by kernel_rfl
theorem cells27 : Tryz.prog.cellsOf 27 = 1 := by kernel_rfl
theorem cells29 : Tryz.prog.cellsOf 29 = 11 := by kernel_rfl
theorem cells31 : Tryz.prog.cellsOf 31 = 1 := by kernel_rfl
theorem cells33 : Tryz.prog.cellsOf 33 = 3 := by kernel_rfl
theorem cells62 : Tryz.prog.cellsOf 62 = 4 := by kernel_rfl
theorem cells73 : Tryz.prog.cellsOf 73 = 1 := by kernel_rfl
theorem cells75 : Tryz.prog.cellsOf 75 = 3 := by kernel_rfl
theorem cells82 : Tryz.prog.cellsOf 82 = 5 := by kernel_rfl
theorem cells86 : Tryz.prog.cellsOf 86 = 3 := by kernel_rfl
theorem bytes23 : Tryz.prog.bytesOf 23 = 16 := by kernel_rfl
theorem bytes33 : Tryz.prog.bytesOf 33 = 48 := by kernel_rfl
theorem bytes62 : Tryz.prog.bytesOf 62 = 64 := by kernel_rfl
theorem bytes75 : Tryz.prog.bytesOf 75 = 40 := by kernel_rfl
theorem bytes82 : Tryz.prog.bytesOf 82 = 64 := by kernel_rfl
theorem bytes86 : Tryz.prog.bytesOf 86 = 32 := by kernel_rfl
theorem size_75 : size Tryz.prog 75 = some 3 := by kernel_rfl
theorem size_82 : size Tryz.prog 82 = some 5 := by kernel_rfl
theorem size_86 : size Tryz.prog 86 = some 3 := by kernel_rfl
theorem size_62 : size Tryz.prog 62 = some 4 := by kernel_rfl
theorem size_33 : size Tryz.prog 33 = some 3 := by kernel_rfl
theorem size_23 : size Tryz.prog 23 = some 2 := by kernel_rfl

theorem list2 {α : Type} {l : List α} (h : l.length = 2) : ∃ a b, l = [a, b] := by
  match l, h with
  | [a, b], _ => exact ⟨a, b, rfl⟩
theorem list3 {α : Type} {l : List α} (h : l.length = 3) : ∃ a b c, l = [a, b, c] := by
  match l, h with
  | [a, b, c], _ => exact ⟨a, b, c, rfl⟩
theorem list4 {α : Type} {l : List α} (h : l.length = 4) : ∃ a b c d, l = [a, b, c, d] := by
  match l, h with
  | [a, b, c, d], _ => exact ⟨a, b, c, d, rfl⟩
theorem list5 {α : Type} {l : List α} (h : l.length = 5) : ∃ a b c d e, l = [a, b, c, d, e] := by
  match l, h with
  | [a, b, c, d, e], _ => exact ⟨a, b, c, d, e, rfl⟩
theorem list11 {α : Type} {l : List α} (h : l.length = 11) : ∃ a b c d e f g i j k m, l = [a, b, c, d, e, f, g, i, j, k, m] := by
  match l, h with
  | [a, b, c, d, e, f, g, i, j, k, m], _ => exact ⟨a, b, c, d, e, f, g, i, j, k, m, rfl⟩

abbrev Kw (W : World) : S → Prop := Ex (stOf W)

theorem read23 {fuel : Nat} {cs : List Value} {x : DataW H × List MemPlace} (h : Td enc W fuel 23 cs = some x) : ∃ (a : Rf) (l : List V), AbsL W.heap.size [.bool, .int] cs l ∧ RdRf a l := by
  obtain ⟨hl, n, _, hf⟩ := read_struct Tryz.underlying23 h
  rw [cells23] at hl
  obtain ⟨c0, c1, rfl⟩ := list2 hl
  obtain ⟨_, h0, _⟩ := hf 0 _ rfl
  obtain ⟨_, h1, _⟩ := hf 1 _ rfl
  simp only [List.getElem_toArray, List.getElem_cons_zero, List.getElem_cons_succ, cells3, cells4, List.drop_succ_cons, List.drop_zero, List.take_succ_cons, List.take_zero] at h0 h1
  obtain ⟨b, e0⟩ := lf_bool Tryz.underlying4 h0
  obtain ⟨m, e1⟩ := lf_int Tryz.underlying3 h1
  cases e0; cases e1
  exact ⟨⟨b, m⟩, [.bool b, .int .i64 m], .cons rfl (.cons rfl .nil), rfl⟩

theorem read73 {fuel : Nat} {cs : List Value} {x : DataW H × List MemPlace} (h : Td enc W fuel 73 cs = some x) (hw : Wt 73 x.1) :
    ∃ c v xs, cs = [c] ∧ absC W.heap.size (.sl 73) c = some v ∧ Sl (Kw W) 73 2 v xs RdRf := by
  obtain ⟨c, v, xs, h1, h2, h3, _⟩ := read_sl (rd := RdRf) Tryz.underlying73 cells23 size_23 (by decide) rfl (by decide) (by rw [bytes23]; decide) h hw (fun n cells y _ hy _ => read23 hy)
  exact ⟨c, v, xs, h1, h2, h3⟩

theorem read33 : ∀ (fuel : Nat) {cs : List Value} {x : DataW H × List MemPlace}, Td enc W fuel 33 cs = some x → Wt 33 x.1 → ∃ (a : Vl) (l : List V), AbsL W.heap.size [.str, .int, .sl 31] cs l ∧ RdVl (Kw W) (fuel / 2 + 1) a l := by
  intro fuel
  induction fuel using Nat.strongRecOn with
  | ind fuel ih =>
    intro cs x h hw
    obtain ⟨hl, n, hn, hf⟩ := read_struct Tryz.underlying33 h
    rw [cells33] at hl
    obtain ⟨c0, c1, c2, rfl⟩ := list3 hl
    obtain ⟨_, h0, _⟩ := hf 0 _ rfl
    obtain ⟨_, h1, _⟩ := hf 1 _ rfl
    obtain ⟨_, h2, w2⟩ := hf 2 _ rfl
    simp only [List.getElem_toArray, List.getElem_cons_zero, List.getElem_cons_succ, cells3, cells9, cells31, List.drop_succ_cons, List.drop_zero, List.take_succ_cons, List.take_zero] at h0 h1 h2
    obtain ⟨b, e0⟩ := lf_str Tryz.underlying9 h0
    obtain ⟨m, e1⟩ := lf_int Tryz.underlying3 h1
    cases e0; cases e1
    obtain ⟨c, v, xs, e2, hv, hs, _⟩ := read_sl (rd := RdVl (Kw W) (fuel / 2)) Tryz.underlying31 cells33 size_33 (by decide) rfl (by decide) (by rw [bytes33]; decide) h2 (w2 hw) (fun n' cells y hn' hy hwy => by
      obtain ⟨a, l, k1, k2⟩ := ih n' (by omega) hy hwy
      refine ⟨a, l, k1, ?_⟩
      rw [show fuel / 2 = n' / 2 + 1 by omega]
      exact k2)
    cases e2
    exact ⟨.mk (bytesOf b) m xs, [.str (bytesOf b), .int .i64 m, v], .cons rfl (.cons rfl (.cons hv .nil)), v, rfl, bytes_of b, hs⟩

theorem read62 {fuel : Nat} {cs : List Value} {x : DataW H × List MemPlace} (h : Td enc W (fuel + 1) 62 cs = some x) (hw : Wt 62 x.1) : ∃ (a : Nv) (l : List V), AbsL W.heap.size [.str, .str, .int, .sl 31] cs l ∧ RdNv (Kw W) (fuel / 2 + 1) a l := by
  obtain ⟨hl, n, hn, hf⟩ := read_struct Tryz.underlying62 h
  rw [cells62] at hl
  obtain ⟨c0, c1, c2, c3, rfl⟩ := list4 hl
  obtain ⟨_, h0, _⟩ := hf 0 _ rfl
  obtain ⟨_, h1, w1⟩ := hf 1 _ rfl
  simp only [List.getElem_toArray, List.getElem_cons_zero, List.getElem_cons_succ, cells9, cells33, List.drop_succ_cons, List.drop_zero, List.take_succ_cons, List.take_zero] at h0 h1
  obtain ⟨b, e0⟩ := lf_str Tryz.underlying9 h0
  cases e0
  obtain rfl : fuel = n := by omega
  obtain ⟨a, l, k1, k2⟩ := read33 fuel h1 (w1 hw)
  refine ⟨⟨bytesOf b, a⟩, .str (bytesOf b) :: l, .cons rfl k1, l, rfl, bytes_of b, ?_, k2⟩
  exact (AbsL.get k1).1.symm

theorem read86 {fuel : Nat} {cs : List Value} {x : DataW H × List MemPlace} (h : Td enc W fuel 86 cs = some x) : ∃ (a : Tp) (l : List V), AbsL W.heap.size [.str, .bool, .int] cs l ∧ RdTp a l := by
  obtain ⟨hl, n, hn, hf⟩ := read_struct Tryz.underlying86 h
  rw [cells86] at hl
  obtain ⟨c0, c1, c2, rfl⟩ := list3 hl
  obtain ⟨_, h0, _⟩ := hf 0 _ rfl
  obtain ⟨_, h1, w1⟩ := hf 1 _ rfl
  simp only [List.getElem_toArray, List.getElem_cons_zero, List.getElem_cons_succ, cells9, cells23, List.drop_succ_cons, List.drop_zero, List.take_succ_cons, List.take_zero] at h0 h1
  obtain ⟨b, e0⟩ := lf_str Tryz.underlying9 h0
  cases e0
  obtain ⟨a, l, k1, k2⟩ := read23 h1
  subst k2
  exact ⟨⟨bytesOf b, a⟩, _, .cons rfl k1, rfl, bytes_of b⟩

theorem read75 {fuel : Nat} {cs : List Value} {x : DataW H × List MemPlace} (h : Td enc W fuel 75 cs = some x) (hw : Wt 75 x.1) : ∃ (a : Frm) (l : List V), AbsL W.heap.size [.int, .int, .sl 73] cs l ∧ RdFrm (Kw W) a l := by
  obtain ⟨hl, n, hn, hf⟩ := read_struct Tryz.underlying75 h
  rw [cells75] at hl
  obtain ⟨c0, c1, c2, rfl⟩ := list3 hl
  obtain ⟨_, h0, _⟩ := hf 0 _ rfl
  obtain ⟨_, h1, _⟩ := hf 1 _ rfl
  obtain ⟨_, h2, w2⟩ := hf 2 _ rfl
  simp only [List.getElem_toArray, List.getElem_cons_zero, List.getElem_cons_succ, cells3, cells73, List.drop_succ_cons, List.drop_zero, List.take_succ_cons, List.take_zero] at h0 h1 h2
  obtain ⟨a, e0⟩ := lf_int Tryz.underlying3 h0
  obtain ⟨b, e1⟩ := lf_int Tryz.underlying3 h1
  cases e0; cases e1
  obtain ⟨c, v, xs, e2, hv, hs⟩ := read73 h2 (w2 hw)
  cases e2
  exact ⟨⟨a, b, xs⟩, [.int .i64 a, .int .i64 b, v], .cons rfl (.cons rfl (.cons hv .nil)), v, rfl, hs⟩

theorem read82 {fuel : Nat} {cs : List Value} {x : DataW H × List MemPlace} (h : Td enc W fuel 82 cs = some x) (hw : Wt 82 x.1) : ∃ (a : Cl) (l : List V), AbsL W.heap.size [.int, .str, .int, .sl 73, .int] cs l ∧ RdCl (Kw W) a l := by
  obtain ⟨hl, n, hn, hf⟩ := read_struct Tryz.underlying82 h
  rw [cells82] at hl
  obtain ⟨c0, c1, c2, c3, c4, rfl⟩ := list5 hl
  obtain ⟨_, h0, _⟩ := hf 0 _ rfl
  obtain ⟨_, h1, _⟩ := hf 1 _ rfl
  obtain ⟨_, h2, _⟩ := hf 2 _ rfl
  obtain ⟨_, h3, w3⟩ := hf 3 _ rfl
  obtain ⟨_, h4, _⟩ := hf 4 _ rfl
  simp only [List.getElem_toArray, List.getElem_cons_zero, List.getElem_cons_succ, cells3, cells9, cells73, List.drop_succ_cons, List.drop_zero, List.take_succ_cons, List.take_zero] at h0 h1 h2 h3 h4
  obtain ⟨a, e0⟩ := lf_int Tryz.underlying3 h0
  obtain ⟨s, e1⟩ := lf_str Tryz.underlying9 h1
  obtain ⟨b, e2⟩ := lf_int Tryz.underlying3 h2
  obtain ⟨d, e4⟩ := lf_int Tryz.underlying3 h4
  cases e0; cases e1; cases e2; cases e4
  obtain ⟨c, v, xs, e3, hv, hs⟩ := read73 h3 (w3 hw)
  cases e3
  exact ⟨⟨a, bytesOf s, b, xs, d⟩, [.int .i64 a, .str (bytesOf s), .int .i64 b, v, .int .i64 d], .cons rfl (.cons rfl (.cons rfl (.cons hv (.cons rfl .nil)))), v, rfl, bytes_of s, hs⟩

theorem read29 {fuel : Nat} {cs : List Value} {x : DataW H × List MemPlace} (h : Td enc W fuel 29 cs = some x) (hw : Wt 29 x.1) :
    ∃ (n : Nat) (m : Mc) (l : List V), denL (Ro W.heap.size) l = some cs ∧ RdMc (Kw W) n m l ∧ m.cells.length ≤ 2199023255552 := by
  obtain ⟨hl, n, hn, hf⟩ := read_struct Tryz.underlying29 h
  rw [cells29] at hl
  obtain ⟨c0, c1, c2, c3, c4, c5, c6, c7, c8, c9, c10, rfl⟩ := list11 hl
  obtain ⟨_, h0, _⟩ := hf 0 _ rfl
  obtain ⟨_, h1, _⟩ := hf 1 _ rfl
  obtain ⟨_, h2, _⟩ := hf 2 _ rfl
  obtain ⟨_, h3, _⟩ := hf 3 _ rfl
  obtain ⟨_, h4, w4⟩ := hf 4 _ rfl
  obtain ⟨_, h5, w5⟩ := hf 5 _ rfl
  obtain ⟨_, h6, w6⟩ := hf 6 _ rfl
  obtain ⟨_, h7, _⟩ := hf 7 _ rfl
  obtain ⟨_, h8, w8⟩ := hf 8 _ rfl
  obtain ⟨_, h9, _⟩ := hf 9 _ rfl
  simp only [List.getElem_toArray, List.getElem_cons_zero, List.getElem_cons_succ, cells3, cells23, cells24, cells25, cells26, cells27, List.drop_succ_cons, List.drop_zero, List.take_succ_cons, List.take_zero] at h0 h1 h2 h3 h4 h5 h6 h7 h8 h9
  obtain ⟨i0, e0⟩ := lf_int Tryz.underlying3 h0
  obtain ⟨i1, e1⟩ := lf_int Tryz.underlying3 h1
  obtain ⟨i2, e2⟩ := lf_int Tryz.underlying3 h2
  obtain ⟨i7, e7⟩ := lf_int Tryz.underlying3 h7
  obtain ⟨i9, e9⟩ := lf_int Tryz.underlying3 h9
  cases e0; cases e1; cases e2; cases e7; cases e9
  obtain ⟨rv, rl, k1, k2⟩ := read23 h3
  have k2 : rl = rv.cs := k2
  subst k2
  obtain ⟨c, v4, x4, e4, hv4, hs4, _⟩ := read_sl (rd := RdFrm (Kw W)) Tryz.underlying24 cells75 size_75 (by decide) rfl (by decide) (by rw [bytes75]; decide) h4 (w4 hw) (fun _ _ _ _ hy hwy => read75 hy hwy)
  cases e4
  obtain ⟨c, v5, x5, e5, hv5, hs5, hb5⟩ := read_sl (rd := RdCl (Kw W)) Tryz.underlying25 cells82 size_82 (by decide) rfl (by decide) (by rw [bytes82]; decide) h5 (w5 hw) (fun _ _ _ _ hy hwy => read82 hy hwy)
  cases e5
  obtain ⟨c, v6, x6, e6, hv6, hs6, _⟩ := read_sl (rd := RdTp) Tryz.underlying26 cells86 size_86 (by decide) rfl (by decide) (by rw [bytes86]; decide) h6 (w6 hw) (fun _ _ _ _ hy _ => read86 hy)
  cases e6
  obtain ⟨c, v8, x8, e8, hv8, hs8, _⟩ := read_sl (rd := RdNv (Kw W) ((n - 2) / 2 + 1)) Tryz.underlying27 cells62 size_62 (by decide) rfl (by decide) (by rw [bytes62]; decide) h8 (w8 hw) (fun n' cells y hn' hy hwy => by
    cases n' with
    | zero => simp [Td, DataW.trod] at hy
    | succ n' =>
      obtain ⟨a, l, q1, q2⟩ := read62 hy hwy
      refine ⟨a, l, q1, ?_⟩
      rw [show n - 2 = n' by omega]
      exact q2)
  cases e8
  refine ⟨_, ⟨i0, i1, i2, rv, x4, x5, x6, i7, x8, i9⟩, [.int .i64 i0, .int .i64 i1, .int .i64 i2, .bool rv.cell, .int .i64 rv.num, v4, v5, v6, .int .i64 i7, v8, .int .i64 i9], ?_, ⟨v4, v5, v6, v8, rfl, hs4, hs5, hs6, hs8⟩, ?_⟩
  · exact AbsL.den (ks := [.int, .int, .int, .bool, .int, .sl 24, .sl 25, .sl 26, .int, .sl 27, .int]) (.cons rfl (.cons rfl (.cons rfl (AbsL.app (ks := [.bool, .int]) (cs := [c3, c4]) (l := rv.cs) k1 (.cons hv4 (.cons hv5 (.cons hv6 (.cons rfl (.cons hv8 (.cons rfl .nil)))))))))) 
  · rw [bytes82] at hb5
    unfold reachBytes at hb5
    simp only at hb5 ⊢
    omega
end
end Go.AI.Sv
