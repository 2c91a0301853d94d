/- What the functions answer in the evaluator: part 5. No conditions beyond those of the row. -/
import Derived.Test.YtkeaedhoaamfnaaGreatDoorL4
set_option linter.unusedVariables false
set_option linter.unusedSimpArgs false
noncomputable section
/- Comments. -/
namespace Go.AI.Lx
open Go.Proofs Go.Proofs.YtkeaedhoaamfnaaGreatDoor
theorem ty_size172 : size Tryz.prog 172 = some 2 := by kernel_rfl
theorem ty_agg172 : isAggT Tryz.prog 172 = some true := by kernel_rfl
theorem al172 (s : S) : doAlloc Tryz.prog s 172 = some (.val (.ptr ⟨s.next, 0, 0⟩) (s.alloc (.cells 172 false 1 [⟨0, 0, [.int .i64 0, .int .i64 0]⟩]))) := by kernel_rfl
theorem lv172 (s : S) (a : Ad) : loadVar Tryz.prog s 172 a = (loadCells s a 2).map .agg := by simp only [loadVar, ty_agg172, ty_size172, Option.bind]
theorem sv172 (s : S) (a : Ad) (l : List V) (h : l.length = 2) : storeVar Tryz.prog s 172 a (.agg l) = storeCells s a l := by
  simp only [storeVar, ty_size172, V.cells, h]; rfl
theorem cf236 (args : List V) (s : S) : callF envB 236 args s = some (.enter 236 args s) := by kernel_rfl
set_option maxRecDepth 10000
set_option maxHeartbeats 2000000
theorem cst_40_42 (t : T V) : eval t (.const (.string ⟨#[40, 42]⟩)) = some (.str [40, 42]) := by rfl
theorem cst_42_41 (t : T V) : eval t (.const (.string ⟨#[42, 41]⟩)) = some (.str [42, 41]) := by rfl
/-- What is thrown. -/
def Thrown (c : List Pan) : Prop := ∃ a e : Int, e ≠ 0 ∧ c = [⟨.iface 172 (.agg [.int .i64 a, .int .i64 e]), false⟩]
/-- The scanner, at a place. -/
abbrev ScB (e : TypeId) (sb : Bool) (nv : Nat) (l : List Nat) (p : Nat) (mm : Nat) (cm : V) : Blk := .cells e sb nv [⟨0, 0, [.str l, .int .i64 ((p : Nat) : Int), .map mm, cm]⟩]
theorem pref2 {l : List Nat} {p a b : Nat} (h : pref (l.drop p) [a, b] = true) : p + 2 ≤ l.length := by
  simp only [pref, Bool.and_eq_true, decide_eq_true_eq, List.length_drop, List.length_cons, List.length_nil] at h
  omega
theorem commentW {fs : Nat} {e : TypeId} {sb : Bool} {nv : Nat} {l : List Nat} {p : Nat} {mm : Nat} {cm : V} (hb : Bytes l) (hl : l.length ≤ 24) (hp : pref (l.drop p) [40, 42] = true) {s : S} (hw : WF s) (hg : s.get fs = some (ScB e sb nv l p mm cm)) :
    Co envB 237 [.ptr ⟨fs, 0, 0⟩] s (RP (fun v s' => v = .tuple [] ∧ ∃ p', p < p' ∧ p' ≤ l.length ∧ s'.get fs = some (ScB e sb nv l p' mm cm) ∧ Fw [fs] s s') (fun c s' => Thrown c ∧ Fw [fs] s s')) := by
  refine co_enter (fn := Tryz.f237) rfl Tryz.func237 rfl (by kernel_rfl) ?_
  rw [initT_cons, initT_nil]
  have hm := Me.start1 (F := [fs]) hw (by simp) hg (fun _ h => by cases h)
  have g1 := hm.at 0 rfl
  have hp2 := pref2 hp
  repeat refine wp_seq ?_
  refine wp_region (t' := ?t2) (ds' := ?d2) (up' := ?u2) (s' := ?s2) (by kernel_rfl) ?h2 ?k2
  case h2 =>
    simp only [doLoad_ptr, runOps_cons, ops_nil, opThen_true, nxThen_val, wantedV_none, opDo, eval_tmp, eval_int, get_putN, Nat.reduceEqDiff, reduceIte, nxVal_some, Nat.zero_add, Nat.add_zero, evB, List.getElem?_cons_zero, List.getElem?_cons_succ, doNilCheck_ptr, fa274_0, fa271_1, lv3, ld1 g1]
    exact rfl
  case k2 =>
  refine wp_block ?_
  refine wp_loop_inv (fun j t s1 => ∃ (q o : Nat), j = l.length - q ∧ q ≤ l.length ∧ ((q = p ∧ o = 0) ∨ (p < q ∧ 1 ≤ o ∧ o ≤ q)) ∧ Me [fs] s s1 [(fs, ScB e sb nv l q mm cm)] ∧ t.get (pth 0) = some (.ptr ⟨fs, 0, 0⟩) ∧ t.get (pth 2) = some (.int .i64 ((p : Nat) : Int)) ∧ t.get (pth 3) = some (.int .i64 ((o : Nat) : Int))) ?_ _ _ _ ⟨p, 0, rfl, by omega, .inl ⟨rfl, rfl⟩, hm, ?_, ?_, ?_⟩
  rotate_left
  · simp only [get_putN, Nat.reduceEqDiff, reduceIte] <;> rfl
  · simp only [get_putN, Nat.reduceEqDiff, reduceIte] <;> rfl
  · simp only [get_putN, Nat.reduceEqDiff, reduceIte] <;> rfl
  rintro j t s1 ⟨q, o, hj, hq, ho, hm, l0, l2, l3⟩ hnext
  have gq := hm.at 0 rfl
  have hw1 := hm.wf
  by_cases hend : l.length ≤ q
  · have c1 : decide (((q : Nat) : Int) ≥ ((l.length : Nat) : Int)) = true := by simp; omega
    refine wp_block ?_
    refine wp_block ?_
    repeat refine wp_seq ?_
    refine wp_sch (t' := ?t3) (ds' := ?d3) (up' := ?u3) (s' := ?s3) [(some 1, 0), (some 1, 1), (some 1, 2), (some 1, 3), (some 1, 4), (some 1, 5), (some 1, 6), (some 1, 7), (some 1, 8), (some 1, 9), (some 1, 10), (some 1, 11), (some 1, 12)] (by kernel_rfl) (by kernel_rfl) ?h3 ?k3
    case h3 =>
      simp only [runSch_nil, runSch_f, runSchK_eq, schFloat_some, schThen_some, floatStep1_true, floatDo1_0, floatDo1_1, valOnly_val, readBoth_some, readTo_val, readAll_one, opKind, List.take_succ_cons, List.take_nil, doLoad_ptr, wantedV_none, opDo, eval_tmp, get_putN, Nat.reduceEqDiff, reduceIte, nxVal_some, callTo, callB, Nat.zero_add, Nat.add_zero, evals, evB, List.getElem?_toArray, List.getElem?_cons_zero, List.getElem?_cons_succ, doBin, guardOk, isEq, cond_true, cond_false, binOpV, isShift, sameKind, decide_true, intOp, doNilCheck_ptr, fa274_0, fa271_1, lv3, ld1 gq, fa271_0, lv9, len_str, c1, l0]
      exact rfl
    case k3 =>
    refine wp_cond true (by simp only [eval_tmp, get_putN, Nat.reduceEqDiff, reduceIte]) (fun _ => ?_) (fun h => by cases h)
    have bd4_237 : doBuild Tryz.prog 172 (some [(0, .int .i64 ((p : Nat) : Int)), (1, .int .i64 12)]) = some (.agg [.int .i64 ((p : Nat) : Int), .int .i64 12]) := by rfl
    have if5_237 : doMkIface Tryz.prog 172 (some (.agg [.int .i64 ((p : Nat) : Int), .int .i64 12])) = some (.iface 172 (.agg [.int .i64 ((p : Nat) : Int), .int .i64 12])) := by rfl
    refine wp_pan (t' := ?t6) (c := ?d6) (s' := ?s6) (by kernel_rfl) ?h6 ?k6
    case h6 =>
      simp only [runOps_cons, opThen_true, nxThen_val, wantedV_none, opDo, eval_tmp, eval_int, get_putN, Nat.reduceEqDiff, reduceIte, nxVal_some, evB, evalsO, bd4_237, if5_237, nxThen_panic, doPanic_some, l2]
      exact rfl
    case k6 =>
    exact ⟨⟨_, _, by decide, rfl⟩, hm.fw⟩
  · have c1 : decide (((q : Nat) : Int) ≥ ((l.length : Nat) : Int)) = false := by simp; omega
    cases hs : pref (l.drop q) [40, 42] with
    | true =>
      have h2 := pref2 hs
      have c2 : decide (((o : Nat) : Int) ≥ 100) = false := by simp; omega
      refine wp_block ?_
      refine wp_block ?_
      repeat refine wp_seq ?_
      refine wp_sch (t' := ?t7) (ds' := ?d7) (up' := ?u7) (s' := ?s7) [(some 1, 0), (some 1, 1), (some 1, 2), (some 1, 3), (some 1, 4), (some 1, 5), (some 1, 6), (some 1, 7), (some 1, 8), (some 1, 9), (some 1, 10), (some 1, 11), (some 1, 12)] (by kernel_rfl) (by kernel_rfl) ?h7 ?k7
      case h7 =>
        simp only [runSch_nil, runSch_f, runSchK_eq, schFloat_some, schThen_some, floatStep1_true, floatDo1_0, floatDo1_1, valOnly_val, readBoth_some, readTo_val, readAll_one, opKind, List.take_succ_cons, List.take_nil, doLoad_ptr, wantedV_none, opDo, eval_tmp, get_putN, Nat.reduceEqDiff, reduceIte, nxVal_some, callTo, callB, Nat.zero_add, Nat.add_zero, evals, evB, List.getElem?_toArray, List.getElem?_cons_zero, List.getElem?_cons_succ, doBin, guardOk, isEq, cond_true, cond_false, binOpV, isShift, sameKind, decide_true, intOp, doNilCheck_ptr, fa274_0, fa271_1, lv3, ld1 gq, fa271_0, lv9, len_str, c1, l0]
        exact rfl
      case k7 =>
      refine wp_cond false (by simp only [eval_tmp, get_putN, Nat.reduceEqDiff, reduceIte]) (fun h => by cases h) (fun _ => ?_)
      repeat refine wp_seq ?_
      obtain ⟨_, _, call8, rfl, rfl⟩ := startsW hb (by omega) hq [40, 42] (fun z hz => by simp at hz; omega) gq
      have call8 := ca_rec call8
      refine wp_region (t' := ?t9) (ds' := ?d9) (up' := ?u9) (s' := ?s9) (by kernel_rfl) ?h9 ?k9
      case h9 =>
        simp only [runOps_cons, ops_nil, opThen_true, nxThen_val, nxThen_enter, outThen_ret, wantedV_none, opDo, eval_tmp, eval_func, get_putN, Nat.reduceEqDiff, reduceIte, nxVal_some, callTo, callV, List.nil_append, List.append_nil, Nat.add_zero, evals, evB, doNilCheck_ptr, fa274_0, cst_40_42, hs, call8, cf236, l0]
        exact rfl
      case k9 =>
      refine wp_cond true (by simp only [eval_tmp, get_putN, Nat.reduceEqDiff, reduceIte]) (fun _ => ?_) (fun h => by cases h)
      repeat refine wp_seq ?_
      refine wp_region (t' := ?t10) (ds' := ?d10) (up' := ?u10) (s' := ?s10) (by kernel_rfl) ?h10 ?k10
      case h10 =>
        simp only [runOps_cons, ops_nil, opThen_true, nxThen_val, wantedV_none, opDo, eval_tmp, eval_int, get_putN, Nat.reduceEqDiff, reduceIte, nxVal_some, doBin, guardOk, isEq, cond_true, cond_false, binOpV, isShift, sameKind, decide_true, intOp, c2, l3]
        exact rfl
      case k10 =>
      refine wp_cond false (by simp only [eval_tmp, get_putN, Nat.reduceEqDiff, reduceIte]) (fun h => by cases h) (fun _ => ?_)
      refine wp_skip ?_
      repeat refine wp_seq ?_
      have hw11 : IntKind.wrap .i64 (((o : Nat) : Int) + 1) = ((o + 1 : Nat) : Int) := by have := wrap_in (((o : Nat) : Int) + 1) ⟨by omega, by omega⟩; omega
      refine wp_region (t' := ?t12) (ds' := ?d12) (up' := ?u12) (s' := ?s12) (by kernel_rfl) ?h12 ?k12
      case h12 =>
        simp only [runOps_cons, ops_nil, opThen_true, nxThen_val, wantedV_none, opDo, eval_tmp, eval_int, get_putN, Nat.reduceEqDiff, reduceIte, nxVal_some, doBin, guardOk, isEq, cond_true, cond_false, binOpV, isShift, sameKind, decide_true, intOp, mkInt_eq, hw11, l3]
        exact rfl
      case k12 =>
      have hw13 : IntKind.wrap .i64 (((q : Nat) : Int) + 2) = ((q + 2 : Nat) : Int) := by have := wrap_in (((q : Nat) : Int) + 2) ⟨by omega, by omega⟩; omega
      have hm14 := hm.put 0 rfl (B' := .cells e sb nv [⟨0, 0, [.str l, .int .i64 ((q + 2 : Nat) : Int), .map mm, cm]⟩]) (fun _ h => by cases h)
      simp only [List.set_cons_zero] at hm14
      refine wp_region (t' := ?t15) (ds' := ?d15) (up' := ?u15) (s' := ?s15) (by kernel_rfl) ?h15 ?k15
      case h15 =>
        simp only [nxSkip_some, doLoad_ptr, doStore_ptr, runOps_cons, ops_nil, opThen_true, nxThen_val, nxThen_skip, wantedV_none, opDo, eval_tmp, eval_int, get_putN, putD_none, Nat.reduceEqDiff, reduceIte, nxVal_some, Nat.zero_add, Nat.add_zero, evB, List.getElem?_cons_zero, List.getElem?_cons_succ, doBin, guardOk, isEq, cond_true, cond_false, binOpV, isShift, sameKind, decide_true, intOp, doNilCheck_ptr, fa274_0, fa271_1, lv3, ld1 gq, mkInt_eq, hw13, sv3 _ _ (.int .i64 ((q + 2 : Nat) : Int)) rfl, st1 gq 1 [.int .i64 ((q + 2 : Nat) : Int)] (rfl) rfl, l0]
        exact rfl
      case k15 =>
      have hm := hm14
      generalize hs15 : S.put s1 fs _ = s16 at hm ⊢
      have g17 := hm.at 0 rfl
      refine wp_inBlock ?_
      refine wp_inBlock ?_
      refine hnext _ _ _ (by omega) ⟨q + 2, o + 1, rfl, h2, .inr (by omega), hm, ?_, ?_, ?_⟩
      · simp only [get_putN, Nat.reduceEqDiff, reduceIte, l0] <;> rfl
      · simp only [get_putN, Nat.reduceEqDiff, reduceIte, l2] <;> rfl
      · simp only [get_putN, Nat.reduceEqDiff, reduceIte, l3] <;> rfl
    | false =>
      have hne : p < q ∧ 1 ≤ o ∧ o ≤ q := by
        rcases ho with ⟨h, _⟩ | h
        · subst h; rw [hp] at hs; cases hs
        · exact h
      cases hs2 : pref (l.drop q) [42, 41] with
      | true =>
        have h2 := pref2 hs2
        have hsub : IntKind.wrap .i64 (((o : Nat) : Int) - 1) = ((o - 1 : Nat) : Int) := by have := wrap_in (((o : Nat) : Int) - 1) ⟨by omega, by omega⟩; omega
        refine wp_block ?_
        refine wp_block ?_
        repeat refine wp_seq ?_
        refine wp_sch (t' := ?t18) (ds' := ?d18) (up' := ?u18) (s' := ?s18) [(some 1, 0), (some 1, 1), (some 1, 2), (some 1, 3), (some 1, 4), (some 1, 5), (some 1, 6), (some 1, 7), (some 1, 8), (some 1, 9), (some 1, 10), (some 1, 11), (some 1, 12)] (by kernel_rfl) (by kernel_rfl) ?h18 ?k18
        case h18 =>
          simp only [runSch_nil, runSch_f, runSchK_eq, schFloat_some, schThen_some, floatStep1_true, floatDo1_0, floatDo1_1, valOnly_val, readBoth_some, readTo_val, readAll_one, opKind, List.take_succ_cons, List.take_nil, doLoad_ptr, wantedV_none, opDo, eval_tmp, get_putN, Nat.reduceEqDiff, reduceIte, nxVal_some, callTo, callB, Nat.zero_add, Nat.add_zero, evals, evB, List.getElem?_toArray, List.getElem?_cons_zero, List.getElem?_cons_succ, doBin, guardOk, isEq, cond_true, cond_false, binOpV, isShift, sameKind, decide_true, intOp, doNilCheck_ptr, fa274_0, fa271_1, lv3, ld1 gq, fa271_0, lv9, len_str, c1, l0]
          exact rfl
        case k18 =>
        refine wp_cond false (by simp only [eval_tmp, get_putN, Nat.reduceEqDiff, reduceIte]) (fun h => by cases h) (fun _ => ?_)
        repeat refine wp_seq ?_
        obtain ⟨_, _, call19, rfl, rfl⟩ := startsW hb (by omega) hq [40, 42] (fun z hz => by simp at hz; omega) gq
        have call19 := ca_rec call19
        refine wp_region (t' := ?t20) (ds' := ?d20) (up' := ?u20) (s' := ?s20) (by kernel_rfl) ?h20 ?k20
        case h20 =>
          simp only [runOps_cons, ops_nil, opThen_true, nxThen_val, nxThen_enter, outThen_ret, wantedV_none, opDo, eval_tmp, eval_func, get_putN, Nat.reduceEqDiff, reduceIte, nxVal_some, callTo, callV, List.nil_append, List.append_nil, Nat.add_zero, evals, evB, doNilCheck_ptr, fa274_0, cst_40_42, hs, call19, cf236, l0]
          exact rfl
        case k20 =>
        refine wp_cond false (by simp only [eval_tmp, get_putN, Nat.reduceEqDiff, reduceIte]) (fun h => by cases h) (fun _ => ?_)
        repeat refine wp_seq ?_
        obtain ⟨_, _, call21, rfl, rfl⟩ := startsW hb (by omega) hq [42, 41] (fun z hz => by simp at hz; omega) gq
        have call21 := ca_rec call21
        refine wp_region (t' := ?t22) (ds' := ?d22) (up' := ?u22) (s' := ?s22) (by kernel_rfl) ?h22 ?k22
        case h22 =>
          simp only [runOps_cons, ops_nil, opThen_true, nxThen_val, nxThen_enter, outThen_ret, wantedV_none, opDo, eval_tmp, eval_func, get_putN, Nat.reduceEqDiff, reduceIte, nxVal_some, callTo, callV, List.nil_append, List.append_nil, Nat.add_zero, evals, evB, doNilCheck_ptr, fa274_0, cst_42_41, hs2, call21, cf236, l0]
          exact rfl
        case k22 =>
        refine wp_cond true (by simp only [eval_tmp, get_putN, Nat.reduceEqDiff, reduceIte]) (fun _ => ?_) (fun h => by cases h)
        repeat refine wp_seq ?_
        refine wp_region (t' := ?t23) (ds' := ?d23) (up' := ?u23) (s' := ?s23) (by kernel_rfl) ?h23 ?k23
        case h23 =>
          simp only [runOps_cons, ops_nil, opThen_true, nxThen_val, wantedV_none, opDo, eval_tmp, eval_int, get_putN, Nat.reduceEqDiff, reduceIte, nxVal_some, doBin, guardOk, isEq, cond_true, cond_false, binOpV, isShift, sameKind, decide_true, intOp, mkInt_eq, hsub, l3]
          exact rfl
        case k23 =>
        repeat refine wp_seq ?_
        have hw24 : IntKind.wrap .i64 (((q : Nat) : Int) + 2) = ((q + 2 : Nat) : Int) := by have := wrap_in (((q : Nat) : Int) + 2) ⟨by omega, by omega⟩; omega
        have hm25 := hm.put 0 rfl (B' := .cells e sb nv [⟨0, 0, [.str l, .int .i64 ((q + 2 : Nat) : Int), .map mm, cm]⟩]) (fun _ h => by cases h)
        simp only [List.set_cons_zero] at hm25
        refine wp_region (t' := ?t26) (ds' := ?d26) (up' := ?u26) (s' := ?s26) (by kernel_rfl) ?h26 ?k26
        case h26 =>
          simp only [nxSkip_some, doLoad_ptr, doStore_ptr, runOps_cons, ops_nil, opThen_true, nxThen_val, nxThen_skip, wantedV_none, opDo, eval_tmp, eval_int, get_putN, putD_none, Nat.reduceEqDiff, reduceIte, nxVal_some, Nat.zero_add, Nat.add_zero, evB, List.getElem?_cons_zero, List.getElem?_cons_succ, doBin, guardOk, isEq, cond_true, cond_false, binOpV, isShift, sameKind, decide_true, intOp, doNilCheck_ptr, fa274_0, fa271_1, lv3, ld1 gq, mkInt_eq, hw24, sv3 _ _ (.int .i64 ((q + 2 : Nat) : Int)) rfl, st1 gq 1 [.int .i64 ((q + 2 : Nat) : Int)] (rfl) rfl, l0]
          exact rfl
        case k26 =>
        have hm := hm25
        generalize hs26 : S.put s1 fs _ = s27 at hm ⊢
        have g28 := hm.at 0 rfl
        repeat refine wp_seq ?_
        refine wp_region (t' := ?t29) (ds' := ?d29) (up' := ?u29) (s' := ?s29) (by kernel_rfl) ?h29 ?k29
        case h29 =>
          simp only [runOps_cons, ops_nil, opThen_true, nxThen_val, wantedV_none, opDo, eval_tmp, eval_int, get_putN, Nat.reduceEqDiff, reduceIte, nxVal_some, doBin, guardOk, isEq, cond_true, cond_false, binOpV, isShift, sameKind, decide_true, intOp, l3]
          exact rfl
        case k29 =>
        refine wp_cond (((o - 1 : Nat) : Int) == 0) (by simp only [eval_tmp, get_putN, Nat.reduceEqDiff, reduceIte]) (fun h0 => ?_) (fun h0 => ?_)
        · skip
          refine wp_retP (.tuple []) rfl ⟨rfl, q + 2, by omega, h2, hm.at 0 rfl, hm.fw⟩
        · have h0 : ¬ ((o - 1 : Nat) : Int) = 0 := by simpa using h0
          refine wp_skip ?_
          refine wp_inBlock ?_
          refine wp_inBlock ?_
          refine hnext _ _ _ (by omega) ⟨q + 2, o - 1, rfl, h2, .inr (by omega), hm, ?_, ?_, ?_⟩
          · simp only [get_putN, Nat.reduceEqDiff, reduceIte, l0] <;> rfl
          · simp only [get_putN, Nat.reduceEqDiff, reduceIte, l2] <;> rfl
          · simp only [get_putN, Nat.reduceEqDiff, reduceIte, l3] <;> rfl
      | false =>
        skip
        refine wp_block ?_
        refine wp_block ?_
        repeat refine wp_seq ?_
        refine wp_sch (t' := ?t30) (ds' := ?d30) (up' := ?u30) (s' := ?s30) [(some 1, 0), (some 1, 1), (some 1, 2), (some 1, 3), (some 1, 4), (some 1, 5), (some 1, 6), (some 1, 7), (some 1, 8), (some 1, 9), (some 1, 10), (some 1, 11), (some 1, 12)] (by kernel_rfl) (by kernel_rfl) ?h30 ?k30
        case h30 =>
          simp only [runSch_nil, runSch_f, runSchK_eq, schFloat_some, schThen_some, floatStep1_true, floatDo1_0, floatDo1_1, valOnly_val, readBoth_some, readTo_val, readAll_one, opKind, List.take_succ_cons, List.take_nil, doLoad_ptr, wantedV_none, opDo, eval_tmp, get_putN, Nat.reduceEqDiff, reduceIte, nxVal_some, callTo, callB, Nat.zero_add, Nat.add_zero, evals, evB, List.getElem?_toArray, List.getElem?_cons_zero, List.getElem?_cons_succ, doBin, guardOk, isEq, cond_true, cond_false, binOpV, isShift, sameKind, decide_true, intOp, doNilCheck_ptr, fa274_0, fa271_1, lv3, ld1 gq, fa271_0, lv9, len_str, c1, l0]
          exact rfl
        case k30 =>
        refine wp_cond false (by simp only [eval_tmp, get_putN, Nat.reduceEqDiff, reduceIte]) (fun h => by cases h) (fun _ => ?_)
        repeat refine wp_seq ?_
        obtain ⟨_, _, call31, rfl, rfl⟩ := startsW hb (by omega) hq [40, 42] (fun z hz => by simp at hz; omega) gq
        have call31 := ca_rec call31
        refine wp_region (t' := ?t32) (ds' := ?d32) (up' := ?u32) (s' := ?s32) (by kernel_rfl) ?h32 ?k32
        case h32 =>
          simp only [runOps_cons, ops_nil, opThen_true, nxThen_val, nxThen_enter, outThen_ret, wantedV_none, opDo, eval_tmp, eval_func, get_putN, Nat.reduceEqDiff, reduceIte, nxVal_some, callTo, callV, List.nil_append, List.append_nil, Nat.add_zero, evals, evB, doNilCheck_ptr, fa274_0, cst_40_42, hs, call31, cf236, l0]
          exact rfl
        case k32 =>
        refine wp_cond false (by simp only [eval_tmp, get_putN, Nat.reduceEqDiff, reduceIte]) (fun h => by cases h) (fun _ => ?_)
        repeat refine wp_seq ?_
        obtain ⟨_, _, call33, rfl, rfl⟩ := startsW hb (by omega) hq [42, 41] (fun z hz => by simp at hz; omega) gq
        have call33 := ca_rec call33
        refine wp_region (t' := ?t34) (ds' := ?d34) (up' := ?u34) (s' := ?s34) (by kernel_rfl) ?h34 ?k34
        case h34 =>
          simp only [runOps_cons, ops_nil, opThen_true, nxThen_val, nxThen_enter, outThen_ret, wantedV_none, opDo, eval_tmp, eval_func, get_putN, Nat.reduceEqDiff, reduceIte, nxVal_some, callTo, callV, List.nil_append, List.append_nil, Nat.add_zero, evals, evB, doNilCheck_ptr, fa274_0, cst_42_41, hs2, call33, cf236, l0]
          exact rfl
        case k34 =>
        refine wp_cond false (by simp only [eval_tmp, get_putN, Nat.reduceEqDiff, reduceIte]) (fun h => by cases h) (fun _ => ?_)
        have hw35 : IntKind.wrap .i64 (((q : Nat) : Int) + 1) = ((q + 1 : Nat) : Int) := by have := wrap_in (((q : Nat) : Int) + 1) ⟨by omega, by omega⟩; omega
        have hm36 := hm.put 0 rfl (B' := .cells e sb nv [⟨0, 0, [.str l, .int .i64 ((q + 1 : Nat) : Int), .map mm, cm]⟩]) (fun _ h => by cases h)
        simp only [List.set_cons_zero] at hm36
        refine wp_region (t' := ?t37) (ds' := ?d37) (up' := ?u37) (s' := ?s37) (by kernel_rfl) ?h37 ?k37
        case h37 =>
          simp only [nxSkip_some, doLoad_ptr, doStore_ptr, runOps_cons, ops_nil, opThen_true, nxThen_val, nxThen_skip, wantedV_none, opDo, eval_tmp, eval_int, get_putN, putD_none, Nat.reduceEqDiff, reduceIte, nxVal_some, Nat.zero_add, Nat.add_zero, evB, List.getElem?_cons_zero, List.getElem?_cons_succ, doBin, guardOk, isEq, cond_true, cond_false, binOpV, isShift, sameKind, decide_true, intOp, doNilCheck_ptr, fa274_0, fa271_1, lv3, ld1 gq, mkInt_eq, hw35, sv3 _ _ (.int .i64 ((q + 1 : Nat) : Int)) rfl, st1 gq 1 [.int .i64 ((q + 1 : Nat) : Int)] (rfl) rfl, l0]
          exact rfl
        case k37 =>
        have hm := hm36
        generalize hs37 : S.put s1 fs _ = s38 at hm ⊢
        have g39 := hm.at 0 rfl
        refine wp_inBlock ?_
        refine wp_inBlock ?_
        refine hnext _ _ _ (by omega) ⟨q + 1, o, rfl, by omega, .inr (by omega), hm, ?_, ?_, ?_⟩
        · simp only [get_putN, Nat.reduceEqDiff, reduceIte, l0] <;> rfl
        · simp only [get_putN, Nat.reduceEqDiff, reduceIte, l2] <;> rfl
        · simp only [get_putN, Nat.reduceEqDiff, reduceIte, l3] <;> rfl
end Go.AI.Lx
