/- What the functions answer in the evaluator: part 7. No conditions beyond those of the row. -/
import Derived.Test.YtkeaedhoaamfnaaGreatDoorL6
set_option linter.unusedVariables false
set_option linter.unusedSimpArgs false
noncomputable section
namespace Go.AI.Lx
open Go.Proofs Go.Proofs.YtkeaedhoaamfnaaGreatDoor
set_option maxRecDepth 10000
theorem oz (w : List Nat) : ∀ (ws : List (List Nat)) (n : Nat), bK (ws ++ [w]) n = bK ws n ++ [⟨.str w, .int .i64 5, n + ws.length⟩]
 | [], n => rfl
 | x :: r, n => by
  have ih := oz w r (n + 1)
  simp only [List.cons_append, bK, ih, List.length_cons]
  rw [show n + 1 + r.length = n + (r.length + 1) by omega]
theorem BD {ok : V → V → Option Bool} (hok : ∀ a b, Bytes a → Bytes b → ok (.str a) (.str b) = some (decide (a = b))) {x : List Nat} (hx : Bytes x) {v : V} : ∀ (ws : List (List Nat)) (n : Nat), (∀ w ∈ ws, Bytes w) → x ∉ ws → cl ok (.str x) v (bK ws n) = some none
 | [], n, _, _ => rfl
 | w :: r, n, h, hn => by
  have ih := BD hok hx (v := v) r (n + 1) (fun z hz => h z (List.mem_cons_of_mem _ hz)) (fun hm => hn (List.mem_cons_of_mem _ hm))
  have hw : x ≠ w := fun hh => hn (by simp [hh])
  simp only [bK, cl, hok x w hx (h w (by simp)), hw, decide_false, cl.setKey, ih]
theorem Ni : ∀ i, i < 15 → mj Tryz.prog 275 (some (.agg (cG.map V.str))) (some i) = some (.str (cG.getD i []))
 | 0, _ => by kernel_rfl | 1, _ => by kernel_rfl | 2, _ => by kernel_rfl | 3, _ => by kernel_rfl | 4, _ => by kernel_rfl | 5, _ => by kernel_rfl | 6, _ => by kernel_rfl | 7, _ => by kernel_rfl
 | 8, _ => by kernel_rfl | 9, _ => by kernel_rfl | 10, _ => by kernel_rfl | 11, _ => by kernel_rfl | 12, _ => by kernel_rfl | 13, _ => by kernel_rfl | 14, _ => by kernel_rfl
 | n + 15, h => absurd h (by omega)
theorem By : ∀ i, i < 15 → cG.getD i [] ∉ cG.take i := by decide
theorem qZ : cG.length = 15 := rfl
theorem Ik {i : Nat} (h : i < 15) : cG.take (i + 1) = cG.take i ++ [cG.getD i []] := by
 rw [List.take_add_one, List.getD_eq_getElem?_getD, List.getElem?_eq_getElem (by rw [qZ]; exact h)]
 rfl
theorem Qc {l : List Nat} {s : S} (hw : WF s) : Cw au 154 [.str l] s fun v s' => ∃ fs mm, v = .ptr ⟨fs, 0, 0⟩ ∧ s'.get fs = some (HZ l 0 mm .nilslice) ∧ s'.get mm = some (.map (bK cG 0) 15) ∧ s.next ≤ fs ∧ s.next ≤ mm ∧ fs ≠ mm ∧ Fw [] s s' := by
 refine aL (bb (C := yV) (e := ⟨[.str l], []⟩) (F := []) rfl Tryz.func154 rfl (by kernel_rfl) Ix rfl ⟨rfl, rfl, rfl⟩ rfl hw rfl (by simp) trivial ay trivial (by simp) ?_)
 refine jb fun s1 k1 k2 k3 k4 => ?_
 refine ⟨[.map s1.next], _, s1.alloc (.map [] 0), [s1.next], fun s' => s'.get s1.next = some (.map (bK (cG.take 0) 0) 0), inferInstance, rfl, rfl, rfl, Fw.alloc _ k2 _, fun s s' h hk _ => hk _ (by simp) _ h, bT _ _, ?_, ?_⟩
 ·intro g hg; simp at hg; subst hg; exact ⟨by rw [S.next_alloc]; omega, .inr (Nat.le_refl _)⟩
 have hmn := k1.next
 generalize s1.next = mm at *
 refine bd fun b1 hb1 hd1 => ?_
 refine jP (fun j vs bs D U => ∃ i, i ≤ 15 ∧ j = 15 - i ∧ vs = [.int .i64 ((i : Nat) : Int), .str l, .int .i64 0, .map mm, .nilslice] ∧ bs = [b1] ∧ D = [mm] ∧ U = fun s' => s'.get mm = some (.map (bK (cG.take i) 0) i)) 15 ⟨0, by omega, rfl, rfl, rfl, rfl, rfl⟩ (fun s s' h hk _ => hk _ (by simp) _ h) ?_
 rintro j _ _ _ _ ⟨i, hi, rfl, rfl, rfl, rfl, rfl⟩ - - -
 refine jO rfl rfl rfl ?_
 refine dA rfl (fun c1 => ?_) (fun c1 => ?_)
 ·have hi2 : i < 15 := by omega
  refine aD (.str (cG.getD i [])) rfl (fun _ _ _ _ _ => Ni i hi2) rfl ?_
  refine jb fun s1 k1 k2 k3 k4 => ?_
  have hu : cl (dJ Tryz.prog (Go.AI.plainAt s1) 20 9) (.str (cG.getD i [])) (.int .i64 5) (bK (cG.take i) 0) = some none :=
   BD (fun a b ha hb => io s1 a b ha hb) (mN _ (by rw [List.getD_eq_getElem?_getD, List.getElem?_eq_getElem (by rw [qZ]; exact hi2)]; exact List.getElem_mem _)) _ _ (fun w hw => mN w (List.mem_of_mem_take hw)) (By i hi2)
  have hn : bK (cG.take (i + 1)) 0 = bK (cG.take i) 0 ++ [⟨.str (cG.getD i []), .int .i64 5, i⟩] := by
   rw [Ik hi2, oz, List.length_take, qZ, show 0 + min i 15 = i by omega]
  refine ⟨[], _, s1.put mm (.map (bK (cG.take (i + 1)) 0) (i + 1)), [mm], fun s' => s'.get mm = some (.map (bK (cG.take (i + 1)) 0) (i + 1)), inferInstance, rfl, rfl, ?_, Fw.put (by simp) k3 (fun _ h => by cases h) _, fun s s' h hk _ => hk _ (by simp) _ h, (by show (s1.put mm _).get mm = _; rw [S.get_put, if_pos rfl]), ?_, ?_⟩
  ·show gK (dt Tryz.prog s1 86 (some (.map mm)) (some (.str (cG.getD i []))) (some (.int .i64 5))) = _
   simp only [dt, Tryz.underlying86, k3, jg, cond_true, hu, pR, hn]
   rfl
  ·intro g hg; simp at hg; subst hg; exact ⟨by rw [S.next_put]; exact k2 g _ k3, .inl (by simp)⟩
  refine ed (r := ((i + 1 : Nat) : Int)) rfl rfl (wI (by omega)) rfl ?_
  exact kT rfl (fun s s' h hk _ => hk _ (by simp) _ h) ⟨15 - (i + 1), by omega, i + 1, by omega, rfl, rfl, rfl, rfl, rfl⟩
 ·refine aE fun s1 h1 h2 h3 h4 => ?_
  have h15 : i = 15 := by omega
  subst h15
  have h5 : s1.get b1 = some (HZ l 0 mm .nilslice) := h4.1
  refine ⟨_, _, rfl, b1, mm, rfl, h5, h3, hb1, hmn, fun h => ?_, h1⟩
  subst h
  rw [h3] at h5; cases h5
end Go.AI.Lx
