/- From the row to the evaluator: part 3. No conditions beyond those of the row. -/
import Derived.Test.YtkeaedhoaamfnaaGreatDoorR1
import Derived.Test.YtkeaedhoaamfnaaGreatDoorR2
import Derived.Test.YtkeaedhoaamfnaaGreatDoorL12
import Derived.Test.YtkeaedhoaamfnaaGreatDoorCards
import Derived.Test.YtkeaedhoaamfnaaGreatDoorTie
set_option linter.unusedVariables false
set_option linter.unusedSimpArgs false
noncomputable section
/- InferApplies answers true whatever its arguments are, and they read behind the call as they read before: no condition beyond those of the row. -/
namespace Go.Proofs.YtkeaedhoaamfnaaGreatDoor.inferApplies
open Go.ChangeShapes Go.WideShapes Go.ChangeAt Go.RowKit
open Go.AI Go.AI.Lx Go.AI.Inf
theorem rec36 : Tryz.prog.readableRec 36 = true := by kernel_rfl
theorem row36' : 36 < Tryz.prog.types.size := of_decide_eq_true (by kernel_rfl)
theorem rec25 : Tryz.prog.readableRec 25 = true := by kernel_rfl
theorem row25 : 25 < Tryz.prog.types.size := of_decide_eq_true (by kernel_rfl)
set_option maxRecDepth 100000 in
theorem lifted (os : Os) (started : os.Started) (H : Type) (enc : TypeId × Value → H) (F : Stop.Interp) :
    ReturnsInHanded {} Tryz.checked os 4 .any ((OpenSpec.ofChange Rows.inferAppliesSpec).preRow enc Tryz.prog Tryz.f4 Rows.inferAppliesRow.domain false Rows.inferAppliesRow.laid) (((OpenSpec.ofChange Rows.inferAppliesSpec).at F).post enc Tryz.prog Tryz.f4 false true false false) := by
  refine returnsInHanded_of_row (C := Tryz.checked) (s := OpenSpec.ofChange Rows.inferAppliesSpec) own started (by kernel_rfl) Tryz.func4
    (ChangeSpec.witness_shaped (enc := enc) (C := Tryz.checked) (os := os) (X := fun w _ => laidMetH Tryz.prog Rows.inferAppliesRow.laid w) false (World.laidAll Tryz.prog os Rows.inferAppliesRow.laid)
      #[.slice none 0 0, .agg #[.string ⟨#[]⟩, .slice none 0 0]] 8 (World.laidAll_os _ _ _)
      (World.shaped_of_ZipB (by kernel_rfl) (by kernel_rfl)) (by kernel_rfl) (by kernel_rfl) (by kernel_rfl)
      (by rw [MakeChecks.laidMetH_plain _ _ _ (by kernel_rfl)]; exact laidMet_laidAll _ (by kernel_rfl) (by kernel_rfl))) ?_
  intro W base args ds gs before hval0 hW _ _ hsz0 hlaid hshaped _
  have hval : ∀ (j : Nat) t v, Tryz.f4.params[j]? = some t → args[j]? = some v → Value.okWide Tryz.prog W .any base t v := hval0
  rw [MakeChecks.laidMetH_plain _ _ _ (by kernel_rfl)] at hlaid
  have hG : GlobW W := globW_of hlaid hshaped
  have hW' := hW
  obtain ⟨p, q, hA0, hV, rfl, hfz, hnd⟩ := hW
  have hA : DataW.TrodAll enc Tryz.prog W 0 (fun _ => true) true Tryz.f4.params.toList args.toList ds p := hA0
  have hsz : (DataW.weightsEach Tryz.prog (Tryz.f4.params.toList ++ []) (ds ++ gs)).all (· ≤ reachBytes) = true := hsz0
  rw [Tryz.params4] at hA hval hsz
  obtain ⟨v0, vs0, d0, ds0, p0, q0, hargs, rfl, rfl, h0, r0⟩ := trodAll_cons hA
  obtain ⟨v1, vs1, d1, ds1, p1, q1, rfl, rfl, rfl, h1, r1⟩ := trodAll_cons r0
  obtain ⟨rfl, rfl, rfl⟩ := trodAll_nil r1
  obtain rfl : args = #[v0, v1] := by cases args; simp_all
  obtain ⟨rfl, rfl⟩ := trodVars_none hV
  obtain ⟨a0, len0, cap0, rfl⟩ := okWide_slice Tryz.underlying36 (hval 0 36 v0 rfl rfl)
  obtain ⟨c1, rfl, _⟩ := okWide_struct Tryz.underlying25 (hval 1 25 v1 rfl rfl)
  have hwt : ∀ (i : Nat) t (d : DataW H), [36, 25][i]? = some t → [d0, d1][i]? = some d → Wt t d := fun i t d e1 e2 n hn => by
    have := List.all_eq_true.1 hsz n (weightsEach_at (i := i) (by simpa using e1) (by simpa using e2) n hn)
    simpa using this
  obtain ⟨n0, g0⟩ := h0
  obtain ⟨n1, g1⟩ := h1
  obtain ⟨c, bv, l, e0, eb, hB⟩ := read36 (x := (d0, p0)) g0 (hwt 0 36 d0 rfl rfl)
  obtain ⟨t, lt, e1, nm, rw, rfl, hR⟩ := read25 n1 (x := (d1, p1)) (Nat.le_refl _) g1 (hwt 1 25 d1 rfl rfl)
  have e0' : [Value.slice a0 len0 cap0] = [c] := e0
  cases e0'
  have walk := calls_law (f := 4) (args := [bv, .agg [nm, rw]]) (ys := [.slice a0 len0 cap0, .agg c1]) (inferAppliesW (kw_kn W) (Nat.zero_le _) hB hR (stOf_WF W) (globOk_of hG) (fun _ _ h => h)) (by simp only [denL, den_absC eb]; rw [den_arg (c := c1) (AbsL.den e1)])
  refine walk.mono fun e W' ⟨he, hbl⟩ => ?_
  subst he
  have hlt := hW'.lt
  refine ⟨_, rfl, _, _, _, [], p0 ++ (p1 ++ []), [], hW', trodAll_mk1 (shut_bool Tryz.underlying4 _), ?_, rfl, hbl.frame _, fun h => by cases h⟩
  show DataW.TrodAll enc Tryz.prog W' 0 (fun b => decide (b < W.heap.size)) true Tryz.f4.params.toList _ [d0, d1] _
  rw [Tryz.params4]
  exact ⟨p0, p1 ++ [], Below.trod laidOut rec36 row36' ⟨n0, g0⟩ hbl (fun z hz => hlt z (by simp [hz])), ⟨p1, [], Below.trod laidOut rec25 row25 ⟨n1, g1⟩ hbl (fun z hz => hlt z (by simp [hz])), rfl, rfl⟩, rfl⟩
end Go.Proofs.YtkeaedhoaamfnaaGreatDoor.inferApplies
