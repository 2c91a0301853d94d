/- StepValues: each call answers true, and the arguments read behind it as they read before. No conditions beyond those of the row. -/
import Derived.Test.YthedakdjiljmhaaGreatDoorSvStates
import Derived.Test.YthedakdjiljmhaaGreatDoorSvSane
import Derived.Test.YthedakdjiljmhaaGreatDoorCards
import Derived.Test.YthedakdjiljmhaaGreatDoorTie
import Derived.WalkKit
import Derived.ProofKit
import Derived.Lay
import Derived.Deep.DeepHandedRow
set_option linter.unusedVariables false
set_option linter.unusedSimpArgs false
noncomputable section
/- StepValues answers true whatever its arguments are, and its arguments read behind the call as they read before: no condition beyond those of the row. -/
namespace Go.Proofs.YthedakdjiljmhaaGreatDoor.stepValues
open Go.ChangeShapes Go.WideShapes Go.ChangeAt Go.RowKit
open Go.AI Go.AI.Sv

theorem envL_ok : EnvOk envL := ⟨fun _ _ _ h => by cases h⟩
theorem orcL : OrcOk envL := by
  refine ⟨fun f args s v s' h => ?_⟩
  simp only [envL] at h
  cases hb : Nat.beq f 4 with
  | false => rw [hb] at h; cases h
  | true =>
    rw [hb] at h
    cases args with
    | cons a r => cases h
    | nil =>
      cases h
      obtain rfl := Nat.eq_of_beq_eq_true hb
      exact sane_sound s
theorem drawnL : DrawnSound envL := drawn_sound envL_ok mixed
theorem goodL : Go.AI.Good Tryz.prog (lim envL) := lim_good envL_ok orcL drawnL

theorem below_of {W W' : World} {ρ' : Rho} (h : FR (Ro W.heap.size) W ρ' W') : Below W.heap.size W W' :=
  ⟨h.os, h.tape, h.output, h.size, fun k hk => h.same k hk fun f v l e hro => by
    unfold Ro at e
    split at e
    · cases e; exact absurd (show (0 : Nat) < 1 from Nat.zero_lt_one) hro
    · cases e⟩

theorem law_calls (W : World) (n1 n2 : Nat) (x y : Mc) (hb : x.cells.length ≤ 2199023255552) (l1 l2 : List V) (hx : RdMc (Kw W) n1 x l1) (hy : RdMc (Kw W) n2 y l2) (r : Rf) (c1 c2 c3 : List Value)
    (d1 : denL (Ro W.heap.size) l1 = some c1) (d2 : denL (Ro W.heap.size) l2 = some c2) (d3 : denL (Ro W.heap.size) r.cs = some c3) :
    Calls Tryz.prog 3 #[.agg c1.toArray, .agg c2.toArray, .agg c3.toArray] W fun e w' => e = .returned (.bool true) ∧ Below W.heap.size W w' := by
  obtain ⟨v, s', call, rfl, _⟩ := law (Kw W) (fun _ _ _ hf he => hf.ex he) n1 n2 x y hb l1 l2 hx hy r (stOf W) (stOf_WF W) (fun _ _ h => h)
  have hs : SoundC Tryz.prog 3 [.agg l1, .agg l2, .agg r.cs] none (stOf W) ⟨.returned (.bool true), none, s'⟩ := goodL (.call 3 _ none) _ _ call
  have := calls_of_sound hs (stOf_HR W) (ys := [.agg c1.toArray, .agg c2.toArray, .agg c3.toArray]) (by simp only [denL, den, d1, d2, d3])
  refine this.mono fun e w' ⟨ρ', z, he, hz, _, hfr⟩ => ?_
  simp only [den, Option.some.injEq] at hz
  subst hz
  exact ⟨he, below_of hfr⟩

theorem own : ownKnob Tryz.prog.godebug = none := by kernel_rfl
theorem laidOut : laidOutB Tryz.prog = true := by kernel_rfl
theorem rec29 : Tryz.prog.readableRec 29 = true := by kernel_rfl
theorem rec23 : Tryz.prog.readableRec 23 = true := by kernel_rfl
theorem row29 : 29 < Tryz.prog.types.size := of_decide_eq_true (by kernel_rfl)
theorem row23 : 23 < Tryz.prog.types.size := of_decide_eq_true (by kernel_rfl)

set_option maxRecDepth 100000 in
theorem lifted (os : Os) (started : os.Started) (H : Type) (enc : TypeId × Value → H) (F : Stop.Interp) :
    ReturnsInHanded {} Tryz.checked os 3 .any ((OpenSpec.ofChange Rows.stepValuesSpec).preRow enc Tryz.prog Tryz.f3 Rows.stepValuesRow.domain false Rows.stepValuesRow.laid) (((OpenSpec.ofChange Rows.stepValuesSpec).at F).post enc Tryz.prog Tryz.f3 false true false false) := by
  refine returnsInHanded_of_row (C := Tryz.checked) (s := OpenSpec.ofChange Rows.stepValuesSpec) own started (by kernel_rfl) Tryz.func3
    (ChangeSpec.witness_shaped (enc := enc) (C := Tryz.checked) (os := os) (X := fun w _ => laidMetH Tryz.prog Rows.stepValuesRow.laid w) false (World.laidAll Tryz.prog os Rows.stepValuesRow.laid)
      #[.agg #[.int .i64 0, .int .i64 0, .int .i64 0, .bool false, .int .i64 0, .slice none 0 0, .slice none 0 0, .slice none 0 0, .int .i64 0, .slice none 0 0, .int .i64 0],
        .agg #[.int .i64 0, .int .i64 0, .int .i64 0, .bool false, .int .i64 0, .slice none 0 0, .slice none 0 0, .slice none 0 0, .int .i64 0, .slice none 0 0, .int .i64 0], .agg #[.bool false, .int .i64 0]] 8 (World.laidAll_os _ _ _)
      (World.shaped_of_ZipB (by kernel_rfl) (by kernel_rfl)) (by kernel_rfl) (by kernel_rfl) (by kernel_rfl)
      (by rw [MakeChecks.laidMetH_plain _ _ _ (by kernel_rfl)]; exact laidMet_laidAll _ (by kernel_rfl) (by kernel_rfl))) ?_
  intro W base args ds gs before hval0 hW _ _ hsz0 _ _ _
  have hval : ∀ (j : Nat) t v, Tryz.f3.params[j]? = some t → args[j]? = some v → Value.okWide Tryz.prog W .any base t v := hval0
  have hW' := hW
  obtain ⟨p, q, hA0, hV, rfl, hfz, hnd⟩ := hW
  have hA : DataW.TrodAll enc Tryz.prog W 0 (fun _ => true) true Tryz.f3.params.toList args.toList ds p := hA0
  have hsz : (DataW.weightsEach Tryz.prog (Tryz.f3.params.toList ++ []) (ds ++ gs)).all (· ≤ reachBytes) = true := hsz0
  rw [Tryz.params3] at hA hval hsz
  obtain ⟨v0, vs0, d0, ds0, p0, q0, hargs, rfl, rfl, h0, r0⟩ := trodAll_cons hA
  obtain ⟨v1, vs1, d1, ds1, p1, q1, rfl, rfl, rfl, h1, r1⟩ := trodAll_cons r0
  obtain ⟨v2, vs2, d2, ds2, p2, q2, rfl, rfl, rfl, h2, r2⟩ := trodAll_cons r1
  obtain ⟨rfl, rfl, rfl⟩ := trodAll_nil r2
  obtain rfl : args = #[v0, v1, v2] := by cases args; simp_all
  obtain ⟨rfl, rfl⟩ := trodVars_none hV
  obtain ⟨c0, rfl, _⟩ := okWide_struct Tryz.underlying29 (hval 0 29 v0 rfl rfl)
  obtain ⟨c1, rfl, _⟩ := okWide_struct Tryz.underlying29 (hval 1 29 v1 rfl rfl)
  obtain ⟨c2, rfl, _⟩ := okWide_struct Tryz.underlying23 (hval 2 23 v2 rfl rfl)
  have hwt : ∀ (i : Nat) t (d : DataW H), [29, 29, 23][i]? = some t → [d0, d1, d2][i]? = some d → Wt t d := fun i t d e1 e2 n hn => by
    have := List.all_eq_true.1 hsz n (weightsEach_at (i := i) (by simpa using e1) (by simpa using e2) n hn)
    simpa using this
  obtain ⟨n0, g0⟩ := h0
  obtain ⟨n1, g1⟩ := h1
  obtain ⟨n2, g2⟩ := h2
  obtain ⟨m0, x, l0, e0, rx, bx⟩ := read29 (x := (d0, p0)) g0 (hwt 0 29 d0 rfl rfl)
  obtain ⟨m1, y, l1, e1, ry, _⟩ := read29 (x := (d1, p1)) g1 (hwt 1 29 d1 rfl rfl)
  obtain ⟨r, lr, e2, rr⟩ := read23 (x := (d2, p2)) g2
  have rr : lr = r.cs := rr
  subst rr
  have walk := law_calls W m0 m1 x y bx l0 l1 rx ry r _ _ _ e0 e1 (AbsL.den e2)
  refine walk.mono fun e W' ⟨he, hbl⟩ => ?_
  subst he
  have hlt := hW'.lt
  refine ⟨_, rfl, _, _, _, [], p0 ++ (p1 ++ (p2 ++ [])), [], hW', trodAll_mk1 (shut_bool Tryz.underlying4 _), ?_, rfl, hbl.frame _, fun h => by cases h⟩
  show DataW.TrodAll enc Tryz.prog W' 0 (fun b => decide (b < W.heap.size)) true Tryz.f3.params.toList _ [d0, d1, d2] _
  rw [Tryz.params3]
  refine ⟨p0, p1 ++ (p2 ++ []), Below.trod laidOut rec29 row29 ⟨n0, g0⟩ hbl (fun z hz => hlt z (by simp [hz])), ⟨p1, p2 ++ [], Below.trod laidOut rec29 row29 ⟨n1, g1⟩ hbl (fun z hz => hlt z (by simp [hz])),
    ⟨p2, [], Below.trod laidOut rec23 row23 ⟨n2, g2⟩ hbl (fun z hz => hlt z (by simp [hz])), rfl, rfl⟩, rfl⟩, rfl⟩
end Go.Proofs.YthedakdjiljmhaaGreatDoor.stepValues
