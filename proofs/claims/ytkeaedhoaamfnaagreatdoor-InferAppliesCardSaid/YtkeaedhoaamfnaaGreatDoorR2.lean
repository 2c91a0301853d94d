/- From the row to the evaluator: part 2. No conditions beyond those of the row. -/
import Derived.Test.YtkeaedhoaamfnaaGreatDoorR1
import Derived.Test.YtkeaedhoaamfnaaGreatDoorL10
set_option linter.unusedVariables false
set_option linter.unusedSimpArgs false
noncomputable section
/- Lists of binds, from the kit's reading to the evaluator's. -/
namespace Go.AI.Inf
open Go.Proofs Go.Proofs.YtkeaedhoaamfnaaGreatDoor Go.AI.Lx Go.ChangeShapes
theorem cells56 : Tryz.prog.cellsOf 56 = 3 := by kernel_rfl
theorem bytes56 : 0 < Tryz.prog.bytesOf 56 := of_decide_eq_true (by kernel_rfl)
section
variable {H : Type} {enc : TypeId × Value → H} {W : World}
theorem read56 {fuel : Nat} {cs : List Value} {x : DataW H × List MemPlace} (h : Td enc W fuel 56 cs = some x) (hw : Wt 56 x.1) :
    ∃ (y : List Nat × Ty) (l : List V), AbsL W.heap.size (lay 36) cs l ∧ ∃ nm rw, l = [.str y.1, nm, rw] ∧ Lx.Bytes y.1 ∧ y.1.length < 4611686018427387904 ∧ RdT (Kw W) y.2 nm rw := by
  obtain ⟨hl, n, hn, hf⟩ := read_struct Tryz.underlying56 h
  subst hn
  rw [cells56] at hl
  obtain ⟨c0, c1, c2, rfl⟩ := list3 hl
  obtain ⟨_, h0, w0⟩ := hf 0 _ rfl
  obtain ⟨_, h1, w1⟩ := hf 1 _ rfl
  simp only [List.getElem_toArray, List.getElem_cons_zero, List.getElem_cons_succ, cells9, cells25, List.drop_succ_cons, List.drop_zero, List.take_succ_cons, List.take_zero] at h0 h1 w0 w1
  obtain ⟨b, e0, hb⟩ := lf_txt Tryz.underlying9 h0 (w0 hw)
  cases e0
  obtain ⟨t, l2, g1, nm, rw, rfl, g2⟩ := read25 n (Nat.le_refl _) h1 (w1 hw)
  exact ⟨(bytesOf b, t), _, .cons rfl g1, nm, rw, rfl, bytes_of b, hb, g2⟩
theorem read36 {fuel : Nat} {cs : List Value} {x : DataW H × List MemPlace} (h : Td enc W fuel 36 cs = some x) (hw : Wt 36 x.1) : ∃ c v l, cs = [c] ∧ absC W.heap.size (.sl 36) c = some v ∧ RdB (Kw W) l v := by
  obtain ⟨c, v, xs, css, h1, h2, h3, h4⟩ := read_sl (α := List Nat × Ty) (rd := fun y l => ∃ nm rw, l = [.str y.1, nm, rw] ∧ Lx.Bytes y.1 ∧ y.1.length < 4611686018427387904 ∧ RdT (Kw W) y.2 nm rw) und36 cells56 ty_size56 (by simp [tys]) rfl (by omega) bytes56 h hw (fun n cells y _ hy hwy => read56 hy hwy)
  refine ⟨c, v, xs, h1, h2, css, h3, ?_⟩
  clear h1 h2 h3
  obtain ⟨g1, g2⟩ := h4
  induction xs generalizing css with
  | nil => cases css with
    | nil => rfl
    | cons a r => simp at g1
  | cons y r ih => cases css with
    | nil => simp at g1
    | cons a r2 =>
      obtain ⟨nm, rw, e5, e6, e7, e8⟩ := g2 0 y a rfl rfl
      exact ⟨nm, rw, r2, by rw [e5], e6, e7, e8, ih r2 (by simpa using g1) (fun i x l hx hl => g2 (i + 1) x l (by simpa using hx) (by simpa using hl))⟩
end
end Go.AI.Inf
