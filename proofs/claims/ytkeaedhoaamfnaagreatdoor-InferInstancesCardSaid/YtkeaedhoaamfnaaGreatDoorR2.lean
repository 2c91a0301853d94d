/- From the row to the evaluator: part 2. No conditions beyond those of the row. -/
import Derived.Test.YtkeaedhoaamfnaaGreatDoorR1
import Derived.Test.YtkeaedhoaamfnaaGreatDoorL13
import Derived.Test.YtkeaedhoaamfnaaGreatDoorCards
import Derived.Test.YtkeaedhoaamfnaaGreatDoorTie
set_option linter.unusedVariables false
set_option linter.unusedSimpArgs false
noncomputable section
namespace Go.Proofs.YtkeaedhoaamfnaaGreatDoor.inferInstances
open Go.ChangeShapes Go.WideShapes Go.ChangeAt Go.RowKit
open Go.AI Go.AI.Lx Go.AI.Inf
set_option maxRecDepth 100000 in
theorem lifted (os : Os) (started : os.Started) (H : Type) (enc : TypeId × Value → H) (F : Stop.Interp) :
 ReturnsInHanded {} Tryz.checked os 6 .any ((OpenSpec.ofChange Rows.inferInstancesSpec).preRow enc Tryz.prog Tryz.f6 Rows.inferInstancesRow.domain false Rows.inferInstancesRow.laid) (((OpenSpec.ofChange Rows.inferInstancesSpec).at F).post enc Tryz.prog Tryz.f6 false true false false) := by
 refine returnsInHanded_of_row (C := Tryz.checked) (s := OpenSpec.ofChange Rows.inferInstancesSpec) own started (by kernel_rfl) Tryz.func6
  (ChangeSpec.witness_shaped (enc := enc) (C := Tryz.checked) (os := os) (X := fun w _ => laidMetH Tryz.prog Rows.inferInstancesRow.laid w) false (World.laidAll Tryz.prog os Rows.inferInstancesRow.laid)
   #[.agg #[.slice none 0 0, .string ⟨#[]⟩, .slice none 0 0], .agg #[.slice none 0 0, .string ⟨#[]⟩, .slice none 0 0], .agg #[.slice none 0 0, .string ⟨#[]⟩, .slice none 0 0]] 8 (World.laidAll_os _ _ _)
   (World.shaped_of_ZipB (by kernel_rfl) (by kernel_rfl)) (by kernel_rfl) (by kernel_rfl) (by kernel_rfl)
   (by rw [MakeChecks.laidMetH_plain _ _ _ (by kernel_rfl)]; exact laidMet_laidAll _ (by kernel_rfl) (by kernel_rfl))) ?_
 intro W base args ds gs before hval0 hW _ _ hsz0 hlaid hshaped _
 have hval : ∀ (j : Nat) t v, Tryz.f6.params[j]? = some t → args[j]? = some v → Value.okWide Tryz.prog W .any base t v := hval0
 rw [MakeChecks.laidMetH_plain _ _ _ (by kernel_rfl)] at hlaid
 have hG : MU W := LO hlaid hshaped
 have hW' := hW
 obtain ⟨p, q, hA0, hV, rfl, hfz, hnd⟩ := hW
 have hA : DataW.TrodAll enc Tryz.prog W 0 (fun _ => true) true Tryz.f6.params.toList args.toList ds p := hA0
 have hsz : (DataW.weightsEach Tryz.prog (Tryz.f6.params.toList ++ []) (ds ++ gs)).all (· ≤ reachBytes) = true := hsz0
 rw [Tryz.params6] at hA hval hsz
 obtain ⟨v0, vs0, d0, ds0, p0, q0, hargs, rfl, rfl, h0, r0⟩ := trodAll_cons hA
 obtain ⟨v1, vs1, d1, ds1, p1, q1, rfl, rfl, rfl, h1, r1⟩ := trodAll_cons r0
 obtain ⟨v2, vs2, d2, ds2, p2, q2, rfl, rfl, rfl, h2, r2⟩ := trodAll_cons r1
 obtain ⟨rfl, rfl, rfl⟩ := trodAll_nil r2
 obtain rfl : args = #[v0, v1, v2] := by cases args; simp_all
 obtain ⟨rfl, rfl⟩ := trodVars_none hV
 obtain ⟨c0, rfl, _⟩ := okWide_struct Tryz.underlying27 (hval 0 27 v0 rfl rfl)
 obtain ⟨c1, rfl, _⟩ := okWide_struct Tryz.underlying27 (hval 1 27 v1 rfl rfl)
 obtain ⟨c2, rfl, _⟩ := okWide_struct Tryz.underlying27 (hval 2 27 v2 rfl rfl)
 have hwt : ∀ (i : Nat) t (d : DataW H), [27, 27, 27][i]? = some t → [d0, d1, d2][i]? = some d → Wt t d := fun i t d e1 e2 n hn => by
  have := List.all_eq_true.1 hsz n (jz (i := i) (by simpa using e1) (by simpa using e2) n hn)
  simpa using this
 obtain ⟨n0, g0⟩ := h0
 obtain ⟨n1, g1⟩ := h1
 obtain ⟨n2, g2⟩ := h2
 obtain ⟨va, ta, vra, nma, rwa, e0, hA'⟩ := EZ (x := (d0, p0)) g0 (hwt 0 27 d0 rfl rfl)
 obtain ⟨vb, tb, vrb, nmb, rwb, e1, hB'⟩ := EZ (x := (d1, p1)) g1 (hwt 1 27 d1 rfl rfl)
 obtain ⟨vc, tc, vrc, nmc, rwc, e2, hC'⟩ := EZ (x := (d2, p2)) g2 (hwt 2 27 d2 rfl rfl)
 have walk := Jt (f := 6) (args := [.agg [vra, nma, rwa], .agg [vrb, nmb, rwb], .agg [vrc, nmc, rwc]]) (ys := [.agg c0, .agg c1, .agg c2]) (Fq (RZ W) (Nat.zero_le _) hA' hB' hC' (Nw W) (IY hG) (fun _ _ h => h)) (by simp only [aY]; rw [AQ (c := c0) (gy.den e0), AQ (c := c1) (gy.den e1), AQ (c := c2) (gy.den e2)])
 refine walk.mono fun e W' ⟨he, hbl⟩ => ?_
 subst he
 have hlt := hW'.lt
 refine ⟨_, rfl, _, _, _, [], p0 ++ (p1 ++ (p2 ++ [])), [], hW', trodAll_mk1 (shut_bool Tryz.underlying4 _), ?_, rfl, hbl.frame _, fun h => by cases h⟩
 show DataW.TrodAll enc Tryz.prog W' 0 (fun b => decide (b < W.heap.size)) true Tryz.f6.params.toList _ [d0, d1, d2] _
 rw [Tryz.params6]
 exact ⟨p0, p1 ++ (p2 ++ []), Below.trod Av KV KL ⟨n0, g0⟩ hbl (fun z hz => hlt z (by simp [hz])), ⟨p1, p2 ++ [], Below.trod Av KV KL ⟨n1, g1⟩ hbl (fun z hz => hlt z (by simp [hz])), ⟨p2, [], Below.trod Av KV KL ⟨n2, g2⟩ hbl (fun z hz => hlt z (by simp [hz])), rfl, rfl⟩, rfl⟩, rfl⟩
end Go.Proofs.YtkeaedhoaamfnaaGreatDoor.inferInstances
