/- The evaluator by which runs of the program are reckoned, and that it is sound: part 11. No conditions beyond those of the row. -/
import Derived.Test.YtkeaedhoaamfnaaGreatDoorA9
set_option linter.unusedVariables false
set_option linter.unusedSimpArgs false
noncomputable section
namespace Go.AI
structure Ab (L : Nat) (s s' : S) : Prop where
 keep : ∀ g B, g < L → s.get g = some B → s'.get g = some B
 ro : ∀ g vs, s.get g = some (.ro vs) → s'.get g = some (.ro vs)
 next : s.next ≤ s'.next
 wf : WF s'
theorem Me.tl {F : List Nat} {s0 s : S} {x : Nat × bP} {m : List (Nat × bP)} (h : Me F s0 s (x :: m)) : Me F s0 s m :=
 ⟨h.wf0, h.fw, h.own.2, fun y hy => h.hi y (List.mem_cons_of_mem _ hy)⟩
inductive gx (e sz : Nat) (s : S) : V → Nat → List V → Option Nat → Prop
 | nil : gx e sz s .nilslice 0 [] none
 | row (X nv : Nat) (rest : List mH) (n : Nat) (cs : List V) : s.get X = some (.cells e false (nv + 1) (⟨nv, 0, cs⟩ :: rest)) → cs.length = n * sz → cs.all V.one = true → gx e sz s (.slice ⟨X, nv, 0⟩ 0 n none sz) n cs (some X)
theorem gx.keep {e sz : Nat} {s s' : S} {v : V} {n : Nat} {cs : List V} {o : Option Nat} (h : gx e sz s v n cs o) (k : ∀ X B, o = some X → s.get X = some B → s'.get X = some B) : gx e sz s' v n cs o := by
 cases h with
 | nil => exact .nil
 | row X nv rest n cs h1 h2 h3 => exact .row X nv rest n cs (k X _ rfl h1) h2 h3
theorem gx.fw {e sz : Nat} {s s' : S} {v : V} {n : Nat} {cs : List V} {o : Option Nat} {F : List Nat} (h : gx e sz s v n cs o) (k : Fw F s s') (hF : ∀ X, o = some X → X ∉ F) : gx e sz s' v n cs o :=
 h.keep fun X B hX hB => k.keep X B (hF X hX) hB
theorem gx.one {e sz : Nat} {s : S} {v : V} {n : Nat} {cs : List V} {o : Option Nat} (h : gx e sz s v n cs o) : v.one = true := by cases h <;> rfl
theorem gx.cel {e sz : Nat} {s : S} {v : V} {n : Nat} {cs : List V} {o : Option Nat} (h : gx e sz s v n cs o) : v.cells = [v] := by cases h <;> rfl
theorem gx.lt {e sz : Nat} {s : S} {v : V} {n : Nat} {cs : List V} {X : Nat} (h : gx e sz s v n cs (some X)) (hw : WF s) : X < s.next := by
 cases h with
 | row _ nv rest n cs h1 h2 h3 => exact hw X _ h1
theorem gx.len {P : Program} {ty e sz : Nat} (hu : P.underlying ty = some (.slice e)) {s s' : S} {v : V} {n : Nat} {cs : List V} {o : Option Nat} (h : gx e sz s v n cs o) : mK P ty s' v = some (.int .i64 (n : Int)) := by
 cases h with
 | nil => simp only [mK, hu]; rfl
 | row X nv rest n cs h1 h2 h3 => simp only [mK, hu, aS]
structure zi (P : Program) (ty e sz : Nat) : Prop where
 und : P.underlying ty = some (.slice e)
 noInt : noInt P ty = true
 size : size P e = some sz
 elem : rR P e sz = true
 pos : Nat.beq sz 0 = false
theorem gx.app {P : Program} {ty e sz : Nat} (hT : zi P ty e sz) {s : S} {v : V} {n : Nat} {cs : List V} {o : Option Nat} (h : gx e sz s v n cs o) (hw : WF s) {b : Nat} {l : List V} {e' : TypeId} {sb : Bool} {nv' : Nat} (hb : s.get b = some (.cells e' sb nv' [⟨0, 0, l⟩])) (hl : l.length = sz) (ho : l.all V.one = true) (hn : n ≤ 999999) {c : Option Nat} :
 ∃ v' s' X, iz P ty ty s v (.slice ⟨b, 0, 0⟩ 0 1 c sz) = some (v', s') ∧ gx e sz s' v' (n + 1) (cs ++ l) (some X) ∧ Nat.ble s.next s'.next = true ∧ ((o = none ∧ X = s.next ∧ Fw [] s s') ∨ (o = some X ∧ Fw [X] s s')) := by
 have h11 : Nat.ble 1 1000000 = true := rfl
 have hss : Nat.beq sz sz = true := Nat.beq_refl sz
 have hp := hT.pos
 have ha : lz s sz (.slice ⟨b, 0, 0⟩ 0 1 c sz) = some (l, 1) := by
  simp only [lz, MY hb, List.drop_zero, Nat.one_mul, kO l sz hl, hp, hss, cond_true, cond_false]
 have e0 : iz P ty ty s v (.slice ⟨b, 0, 0⟩ 0 1 c sz) = nP s e sz v (some (l, 1)) := by
  simp only [iz, hT.und, hT.noInt, hT.size, hT.elem, cond_true, ha]
 rw [e0]
 cases h with
 | nil =>
  refine ⟨.slice ⟨s.next, 0, 0⟩ 0 1 none sz, s.alloc (.cells e false 1 [⟨0, 0, l⟩]), s.next, ?_, ?_, Gm _ _, .inl ⟨rfl, rfl, Fw.alloc [] hw _⟩⟩
  ·rfl
  ·exact .row s.next 0 [] 1 l (bT _ _) (by omega) ho
 | row X nv rest n cs h1 h2 h3 =>
  have hbn : Nat.ble n 1000000 = true := Nat.ble_eq_true_of_le (by omega)
  have hv : bg (⟨nv, 0, cs⟩ :: rest) nv = some ⟨nv, 0, cs⟩ := by simp only [bg, Nat.beq_refl, cond_true]
  have ht : aO (n * sz) (cs.drop 0) = some cs := kO cs _ h2
  have hgrow : yp s e ⟨X, nv, 0⟩ 0 n none sz l 1 = some (vD s X 0 0 n sz e false (nv + 1) (⟨nv, 0, cs⟩ :: rest) (cs ++ l) 1) := by
   simp only [yp, h1, hv, DG, cond_true, Nat.sub_zero, ht, ho]
  have e1 : nP s e sz (.slice ⟨X, nv, 0⟩ 0 n none sz) (some (l, 1)) = yp s e ⟨X, nv, 0⟩ 0 n none sz l 1 := by
   simp only [nP, h11, hss, hbn, show Nat.beq 1 0 = false from rfl, Bool.and_self, cond_true, cond_false]
  rw [e1, hgrow]
  have hput := Fw.put (F := [X]) (by simp) h1 (fun _ h => by cases h) (.cells e false (nv + 1 + 1) (⟨nv + 1, 0, cs ++ l⟩ :: (⟨nv, 0, cs⟩ :: rest).filter fun u => Nat.ble (u.lo + u.cells.length) (0 + n * sz)))
  refine ⟨_, _, X, rfl, ?_, qS _ _ _, .inr ⟨rfl, hput⟩⟩
  exact .row X (nv + 1) _ (n + 1) (cs ++ l) (by rw [S.get_put, if_pos rfl]) (by rw [List.length_append, h2, hl, Nat.succ_mul]) (by simp [h3, ho])
end Go.AI
