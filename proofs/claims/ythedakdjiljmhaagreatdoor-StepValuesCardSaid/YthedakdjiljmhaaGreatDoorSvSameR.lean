/- The reference's comparison of states. No conditions. -/
import Derived.Test.YthedakdjiljmhaaGreatDoorSvSame
set_option linter.unusedVariables false
set_option linter.unusedSimpArgs false
noncomputable section
namespace Go.AI.Sv
open Go.Proofs
theorem cf9 (args : List V) (s : S) : callF envL 9 args s = some (.enter 9 args s) := by kernel_rfl
set_option maxRecDepth 10000 in
set_option maxHeartbeats 2000000 in
theorem sameR (K1 K2 : S → Prop) (hK1 : Stay K1) (hK2 : Stay K2) (n1 n2 : Nat) (x y : Mc) (l1 l2 : List V) (hx : RdMc K1 n1 x l1) (hy : RdMc K2 n2 y l2) (s : S) (hw : WF s) (k1 : K1 s) (k2 : K2 s) :
    Cw envL 9 [.agg l1, .agg l2] s fun v s' => v = .bool (Mc.eqb x y) ∧ Fw [] s s' := by
  obtain ⟨vf, vc, vt, vo, rfl, hF, hC, hT, hO⟩ := hx
  obtain ⟨wf, wc, wt, wo, rfl, gF, gC, gT, gO⟩ := hy
  refine cw_enter (fn := Tryz.f9) rfl Tryz.func9 rfl (by kernel_rfl) ?_
  rw [initT_cons, initT_cons, initT_nil]
  repeat refine wp_seq ?_
  refine wp_region (t' := ?t1) (ds' := ?d1) (up' := ?u1) (s' := ?s1) (by kernel_rfl) ?h1 ?k1
  case h1 =>
    simp only [runOps_cons, ops_nil, opThen_true, nxThen_val, wantedV_none, opDo, eval_tmp, eval_bool, get_putN, Nat.reduceEqDiff, reduceIte, nxVal_some, doBox_agg, Nat.zero_add]
    exact rfl
  case k1 =>
  have hm := ((Me.start (F := []) hw).alloc (B := .cells 29 false 1 [⟨0, 0, [.int .i64 x.mode, .int .i64 x.expr, .int .i64 x.env, .bool x.value.cell, .int .i64 x.value.num, vf, vc, vt, .int .i64 x.body, vo, .int .i64 x.steps]⟩]) (fun _ h => by cases h)).alloc (B := .cells 29 false 1 [⟨0, 0, [.int .i64 y.mode, .int .i64 y.expr, .int .i64 y.env, .bool y.value.cell, .int .i64 y.value.num, wf, wc, wt, .int .i64 y.body, wo, .int .i64 y.steps]⟩]) (fun _ h => by cases h)
  generalize hs1 : S.alloc (S.alloc s _) _ = s1 at hm ⊢
  generalize hf1 : S.next (S.alloc s _) = f1 at hm ⊢
  generalize hf0 : S.next s = f0 at hm ⊢
  have k1' := hK1 _ _ hm.fw k1
  have k2' := hK2 _ _ hm.fw k2
  have ga := hm.at 1 rfl
  have gb := hm.at 0 rfl
  repeat refine wp_seq ?_
  by_cases c0 : x.mode = y.mode
  · have p0 : (x.mode != y.mode) = false := by simp [c0]
    by_cases c1 : x.expr = y.expr
    · have p1 : (x.expr != y.expr) = false := by simp [c1]
      by_cases c2 : x.env = y.env
      · have p2 : (x.env != y.env) = false := by simp [c2]
        by_cases c3 : x.value = y.value
        · have p3 : Rf.eqb x.value y.value = true := by simp [Rf.eqb, c3]
          by_cases c4 : x.body = y.body
          · have p4 : (x.body != y.body) = false := by simp [c4]
            by_cases c5 : x.steps = y.steps
            · have p5 : (x.steps != y.steps) = false := by simp [c5]
              refine wp_region (t' := ?t2) (ds' := ?d2) (up' := ?u2) (s' := ?s2) (by kernel_rfl) ?h2 ?k2
              case h2 =>
                simp only [doLoad_ptr, runOps_cons, ops_nil, opThen_true, nxThen_val, wantedV_none, wantedV_some, guardV_some, guardB_bool, opDo, eval_tmp, get_putN, Nat.reduceEqDiff, reduceIte, nxVal_some, doPick, bFF, Bool.not_true, Bool.not_false, Nat.zero_add, Nat.add_zero, evP, List.getElem?_toArray, List.getElem?_cons_zero, List.getElem?_cons_succ, Option.bind, doBin, guardOk, isEq, cond_true, cond_false, binOpV, isShift, sameKind, decide_true, intOp, Option.map, fa29_0, fa29_1, fa29_2, fa29_3, fa29_7, fa29_9, lv3, lv23, ld1 ga, ld1 gb, ldn ga, ldn gb, List.drop_succ_cons, List.drop_zero, takeExact, guard23, eql23', p0, p1, p2, p3, p4, p5]
                exact rfl
              case k2 =>
              repeat refine wp_seq ?_
              refine wp_cond false (by simp only [eval_tmp, get_putN, Nat.reduceEqDiff, reduceIte]) (fun h => by cases h) (fun _ => ?_)
              refine wp_skip ?_
              repeat refine wp_seq ?_
              by_cases e0 : x.frames.length ≠ y.frames.length
              · have q0 : ((x.frames.length : Int) != (y.frames.length : Int)) = true := by simp; omega
                refine wp_region (t' := ?t3) (ds' := ?d3) (up' := ?u3) (s' := ?s3) (by kernel_rfl) ?h3 ?k3
                case h3 =>
                  simp only [doLoad_ptr, runOps_cons, ops_nil, opThen_true, opThen_false, nxThen_val, wantedV_none, wantedV_some, guardV_some, guardB_bool, opDo, eval_tmp, eval_bool, get_putN, Nat.reduceEqDiff, reduceIte, nxVal_some, callTo, callB, doPick, bTF, Nat.zero_add, evals, evP, List.getElem?_toArray, List.getElem?_cons_zero, List.getElem?_cons_succ, Option.bind, doBin, guardOk, isEq, cond_true, cond_false, binOpV, isShift, sameKind, decide_true, intOp, fa29_4, lv24, ld1 ga, ld1 gb, hF.len, gF.len, q0]
                  exact rfl
                case k3 =>
                repeat refine wp_seq ?_
                refine wp_cond true (by simp only [eval_tmp, get_putN, Nat.reduceEqDiff, reduceIte]) (fun _ => ?_) (fun h => by cases h)
                repeat refine wp_seq ?_
                refine wp_region (t' := ?t4) (ds' := ?d4) (up' := ?u4) (s' := ?s4) (by kernel_rfl) ?h4 ?k4
                case h4 =>
                  simp only [runOps_cons, ops_nil, opThen_true, nxThen_val, wantedV_none, opDo, eval_bool, nxVal_some]
                  exact rfl
                case k4 =>
                exact wp_ret1 (.bool false) 4 rfl (by simp only [get_putN, Nat.reduceEqDiff, reduceIte]) ⟨by simp [Mc.eqb, Rf.eqb, eqAll_len e0], hm.fw⟩
              have e0 : x.frames.length = y.frames.length := by omega
              have q0 : ((x.frames.length : Int) != (y.frames.length : Int)) = false := by simp; omega
              by_cases e1 : x.cells.length ≠ y.cells.length
              · have q1 : ((x.cells.length : Int) != (y.cells.length : Int)) = true := by simp; omega
                refine wp_region (t' := ?t5) (ds' := ?d5) (up' := ?u5) (s' := ?s5) (by kernel_rfl) ?h5 ?k5
                case h5 =>
                  simp only [doLoad_ptr, runOps_cons, ops_nil, opThen_true, opThen_false, nxThen_val, wantedV_none, wantedV_some, guardV_some, guardB_bool, opDo, eval_tmp, eval_bool, get_putN, Nat.reduceEqDiff, reduceIte, nxVal_some, callTo, callB, doPick, bTF, bFF, Nat.zero_add, evals, evP, List.getElem?_toArray, List.getElem?_cons_zero, List.getElem?_cons_succ, Option.bind, doBin, guardOk, isEq, cond_true, cond_false, binOpV, isShift, sameKind, decide_true, intOp, fa29_4, fa29_5, lv24, lv25, ld1 ga, ld1 gb, hF.len, gF.len, hC.len, gC.len, q0, q1]
                  exact rfl
                case k5 =>
                repeat refine wp_seq ?_
                refine wp_cond true (by simp only [eval_tmp, get_putN, Nat.reduceEqDiff, reduceIte]) (fun _ => ?_) (fun h => by cases h)
                repeat refine wp_seq ?_
                refine wp_region (t' := ?t6) (ds' := ?d6) (up' := ?u6) (s' := ?s6) (by kernel_rfl) ?h6 ?k6
                case h6 =>
                  simp only [runOps_cons, ops_nil, opThen_true, nxThen_val, wantedV_none, opDo, eval_bool, nxVal_some]
                  exact rfl
                case k6 =>
                exact wp_ret1 (.bool false) 4 rfl (by simp only [get_putN, Nat.reduceEqDiff, reduceIte]) ⟨by simp [Mc.eqb, Rf.eqb, eqAll_len e1], hm.fw⟩
              have e1 : x.cells.length = y.cells.length := by omega
              have q1 : ((x.cells.length : Int) != (y.cells.length : Int)) = false := by simp; omega
              by_cases e2 : x.tops.length ≠ y.tops.length
              · have q2 : ((x.tops.length : Int) != (y.tops.length : Int)) = true := by simp; omega
                refine wp_region (t' := ?t7) (ds' := ?d7) (up' := ?u7) (s' := ?s7) (by kernel_rfl) ?h7 ?k7
                case h7 =>
                  simp only [doLoad_ptr, runOps_cons, ops_nil, opThen_true, opThen_false, nxThen_val, wantedV_none, wantedV_some, guardV_some, guardB_bool, opDo, eval_tmp, eval_bool, get_putN, Nat.reduceEqDiff, reduceIte, nxVal_some, callTo, callB, doPick, bTF, bFF, Nat.zero_add, evals, evP, List.getElem?_toArray, List.getElem?_cons_zero, List.getElem?_cons_succ, Option.bind, doBin, guardOk, isEq, cond_true, cond_false, binOpV, isShift, sameKind, decide_true, intOp, fa29_4, fa29_5, fa29_6, lv24, lv25, lv26, ld1 ga, ld1 gb, hF.len, gF.len, hC.len, gC.len, hT.len, gT.len, q0, q1, q2]
                  exact rfl
                case k7 =>
                repeat refine wp_seq ?_
                refine wp_cond true (by simp only [eval_tmp, get_putN, Nat.reduceEqDiff, reduceIte]) (fun _ => ?_) (fun h => by cases h)
                repeat refine wp_seq ?_
                refine wp_region (t' := ?t8) (ds' := ?d8) (up' := ?u8) (s' := ?s8) (by kernel_rfl) ?h8 ?k8
                case h8 =>
                  simp only [runOps_cons, ops_nil, opThen_true, nxThen_val, wantedV_none, opDo, eval_bool, nxVal_some]
                  exact rfl
                case k8 =>
                exact wp_ret1 (.bool false) 4 rfl (by simp only [get_putN, Nat.reduceEqDiff, reduceIte]) ⟨by simp [Mc.eqb, Rf.eqb, eqAll_len e2], hm.fw⟩
              have e2 : x.tops.length = y.tops.length := by omega
              have q2 : ((x.tops.length : Int) != (y.tops.length : Int)) = false := by simp; omega
              obtain ⟨_, s2, call1, rfl, hf2⟩ := sameOutputs K1 K2 hK1 hK2 n1 n2 _ _ vo wo hO gO s1 hm.wf k1' k2'
              have call1 := ca_rec call1
              have hm2 := hm.call hf2
              by_cases e3 : eqAll Nv.eqb x.outputs y.outputs = false
              · rw [e3] at call1
                refine wp_region (t' := ?t9) (ds' := ?d9) (up' := ?u9) (s' := ?s9) (by kernel_rfl) ?h9 ?k9
                case h9 =>
                  simp only [doLoad_ptr, runOps_cons, ops_nil, opThen_true, nxThen_val, nxThen_enter, outThen_ret, wantedV_none, wantedV_some, guardV_some, guardB_bool, opDo, eval_tmp, eval_func, get_putN, Nat.reduceEqDiff, reduceIte, nxVal_some, callTo, callB, callV, doPick, doUn, unOpV, bFF, Bool.not_false, List.nil_append, List.append_nil, Nat.zero_add, evals, evP, List.getElem?_toArray, List.getElem?_cons_zero, List.getElem?_cons_succ, Option.bind, doBin, guardOk, isEq, cond_true, cond_false, binOpV, isShift, sameKind, decide_true, intOp, fa29_4, fa29_5, fa29_6, fa29_8, lv24, lv25, lv26, lv27, ld1 ga, ld1 gb, hF.len, gF.len, hC.len, gC.len, hT.len, gT.len, q0, q1, q2, cf30, call1]
                  exact rfl
                case k9 =>
                repeat refine wp_seq ?_
                refine wp_cond true (by simp only [eval_tmp, get_putN, Nat.reduceEqDiff, reduceIte]) (fun _ => ?_) (fun h => by cases h)
                repeat refine wp_seq ?_
                refine wp_region (t' := ?t10) (ds' := ?d10) (up' := ?u10) (s' := ?s10) (by kernel_rfl) ?h10 ?k10
                case h10 =>
                  simp only [runOps_cons, ops_nil, opThen_true, nxThen_val, wantedV_none, opDo, eval_bool, nxVal_some]
                  exact rfl
                case k10 =>
                exact wp_ret1 (.bool false) 4 rfl (by simp only [get_putN, Nat.reduceEqDiff, reduceIte]) ⟨by simp [Mc.eqb, Rf.eqb, e3], hm2.fw⟩
              have e3 : eqAll Nv.eqb x.outputs y.outputs = true := by simpa using e3
              rw [e3] at call1
              refine wp_region (t' := ?t11) (ds' := ?d11) (up' := ?u11) (s' := ?s11) (by kernel_rfl) ?h11 ?k11
              case h11 =>
                simp only [doLoad_ptr, runOps_cons, ops_nil, opThen_true, nxThen_val, nxThen_enter, outThen_ret, wantedV_none, wantedV_some, guardV_some, guardB_bool, opDo, eval_tmp, eval_func, get_putN, Nat.reduceEqDiff, reduceIte, nxVal_some, callTo, callB, callV, doPick, doUn, unOpV, bFF, Bool.not_true, List.nil_append, List.append_nil, Nat.zero_add, evals, evP, List.getElem?_toArray, List.getElem?_cons_zero, List.getElem?_cons_succ, Option.bind, doBin, guardOk, isEq, cond_true, cond_false, binOpV, isShift, sameKind, decide_true, intOp, fa29_4, fa29_5, fa29_6, fa29_8, lv24, lv25, lv26, lv27, ld1 ga, ld1 gb, hF.len, gF.len, hC.len, gC.len, hT.len, gT.len, q0, q1, q2, cf30, call1]
                exact rfl
              case k11 =>
              repeat refine wp_seq ?_
              refine wp_cond false (by simp only [eval_tmp, get_putN, Nat.reduceEqDiff, reduceIte]) (fun h => by cases h) (fun _ => ?_)
              refine wp_skip ?_
              clear ga gb
              repeat refine wp_seq ?_
              refine wp_region (t' := ?t12) (ds' := ?d12) (up' := ?u12) (s' := ?s12) (by kernel_rfl) ?h12 ?k12
              case h12 =>
                simp only [runOps_cons, ops_nil, opThen_true, nxThen_val, wantedV_none, opDo, eval_int, nxVal_some]
                exact rfl
              case k12 =>
              repeat refine wp_seq ?_
              have hb0 := hF.bnd
              obtain ⟨pa0, hpa0⟩ := hF.el
              obtain ⟨pb0, hpb0⟩ := gF.el
              refine wp_block (wp_loop_inv (fun j t s' => ∃ k : Nat, j = x.frames.length - k ∧ k ≤ x.frames.length ∧ Me [] s s' [(f1, Blk.cells 29 false 1 [⟨0, 0, [.int .i64 y.mode, .int .i64 y.expr, .int .i64 y.env, .bool y.value.cell, .int .i64 y.value.num, wf, wc, wt, .int .i64 y.body, wo, .int .i64 y.steps]⟩]), (f0, Blk.cells 29 false 1 [⟨0, 0, [.int .i64 x.mode, .int .i64 x.expr, .int .i64 x.env, .bool x.value.cell, .int .i64 x.value.num, vf, vc, vt, .int .i64 x.body, vo, .int .i64 x.steps]⟩])] ∧ t.get (pth 2) = some (.ptr ⟨f0, 0, 0⟩) ∧ t.get (pth 3) = some (.ptr ⟨f1, 0, 0⟩) ∧ t.get (pth 5) = some (.int .i64 k) ∧ ∀ (i : Nat) (x' y' : Frm), i < k → x.frames[i]? = some x' → y.frames[i]? = some y' → Frm.eqb x' y' = true) ?_ (x.frames.length - 0) _ _ ⟨0, rfl, Nat.zero_le _, hm2, ?_, ?_, ?_, by intro i _ _ hi; omega⟩)
              rotate_left
              · simp only [get_putN, Nat.reduceEqDiff, reduceIte]
              · simp only [get_putN, Nat.reduceEqDiff, reduceIte]
              · simp only [get_putN, Nat.reduceEqDiff, reduceIte]; rfl
              clear hm2
              rintro j t s2 ⟨k, hj, hk, hm, h2, h3, h5, hI⟩ hnext
              have k1' := hK1 _ _ hm.fw k1
              have k2' := hK2 _ _ hm.fw k2
              have ga := hm.at 1 rfl
              have gb := hm.at 0 rfl
              repeat refine wp_seq ?_
              refine wp_region (t' := ?t13) (ds' := ?d13) (up' := ?u13) (s' := ?s13) (by kernel_rfl) ?h13 ?k13
              case h13 =>
                simp only [doLoad_ptr, runOps_cons, ops_nil, opThen_true, nxThen_val, wantedV_none, opDo, eval_tmp, get_putN, Nat.reduceEqDiff, reduceIte, nxVal_some, callTo, callB, Nat.zero_add, evals, evP, List.getElem?_toArray, List.getElem?_cons_zero, List.getElem?_cons_succ, doBin, guardOk, isEq, cond_true, cond_false, binOpV, isShift, sameKind, decide_true, intOp, h2, h5, fa29_4, lv24, ld1 ga, hF.len]
                exact rfl
              case k13 =>
              repeat refine wp_seq ?_
              refine wp_cond (decide ((k : Int) < (x.frames.length : Int))) (by simp only [eval_tmp, get_putN, Nat.reduceEqDiff, reduceIte]) (fun hq => ?_) (fun hq => ?_)
              · have hlt : k < x.frames.length := by have := of_decide_eq_true hq; omega
                have hlt2 : k < y.frames.length := by omega
                obtain ⟨ia, l1, e1, el1, o1, r1⟩ := hpa0 k _ (List.getElem?_eq_getElem hlt)
                obtain ⟨ib, l2, e2, el2, o2, r2⟩ := hpb0 k _ (List.getElem?_eq_getElem hlt2)
                have e1 := e1 _ k1'
                have e2 := e2 _ k2'
                have hw1 : IntKind.wrap .i64 ((k : Int) + 1) = ((k + 1 : Nat) : Int) := by
                  have := wrap_in ((k : Int) + 1) ⟨by omega, by omega⟩; omega
                refine wp_skip ?_
                repeat refine wp_seq ?_
                refine wp_block ?_
                repeat refine wp_seq ?_
                obtain ⟨va, rfl, rA⟩ := r1
                obtain ⟨vb, rfl, rB⟩ := r2
                obtain ⟨_, s3, call, rfl, hf3⟩ := sameRefs K1 K2 hK1 hK2 _ _ va vb rA rB s2 hm.wf k1' k2'
                have call := ca_rec call
                by_cases d0 : (x.frames[k]).expr ≠ (y.frames[k]).expr
                · have r0 : ((x.frames[k]).expr != (y.frames[k]).expr) = true := by simp [d0]
                  refine wp_sch (t' := ?t14) (ds' := ?d14) (up' := ?u14) (s' := ?s14) [(some 1, 0), (some 1, 1), (some 1, 2), (some 1, 3), (some 1, 4), (some 1, 5), (some 1, 6), (some 1, 7), (some 1, 8), (some 1, 9), (some 1, 10), (some 1, 11), (some 1, 12), (some 1, 13), (some 1, 14), (some 1, 15), (some 1, 16), (some 1, 17), (some 1, 18), (some 1, 19), (some 1, 20), (some 1, 21), (some 1, 22), (some 1, 23), (some 1, 24), (some 1, 25), (some 1, 26), (some 1, 27), (some 1, 28), (some 1, 29), (some 1, 30), (some 1, 31), (some 1, 32), (some 1, 33), (some 1, 34), (some 1, 35), (some 1, 36), (some 1, 37), (some 1, 38), (some 1, 39), (some 1, 40), (none, 41), (some 1, 42), (some 1, 43)] (by kernel_rfl) (by kernel_rfl) ?h14 ?k14
                  case h14 =>
                    simp only [runSch_nil, runSch_f, runSch_e, runSchK_eq, runSchE_eq, schFloat_some, schThen_some, schEff_some, schEThen_some, schNext_true, floatStep1_true, floatStep1_false, effStep_false, floatDo1_0, floatDo1_1, valOnly_val, readBoth_some, readTo_val, readAll_one, opKind, List.take_succ_cons, List.take_zero, List.take_nil, doLoad_ptr, natOf_cast, wantedV_none, wantedV_some, guardV_some, guardB_bool, opDo, eval_tmp, eval_bool, get_putN, Nat.reduceEqDiff, reduceIte, nxVal_some, doPick, bTF, Nat.zero_add, evP, List.getElem?_toArray, List.getElem?_cons_zero, List.getElem?_cons_succ, Option.bind, doBin, guardOk, isEq, cond_true, cond_false, binOpV, isShift, sameKind, decide_true, intOp, h2, h3, h5, fa29_4, lv24, lv3, ld1 ga, ld1 gb, ia, ib, fb75_0, cell_of_cells e1 0 (by decide), cell_of_cells e2 0 (by decide), r0, (Fw.refl [] s2).ble]
                    exact rfl
                  case k14 =>
                  refine wp_cond true (by simp only [eval_tmp, get_putN, Nat.reduceEqDiff, reduceIte]) (fun _ => ?_) (fun h => by cases h)
                  repeat refine wp_seq ?_
                  refine wp_region (t' := ?t15) (ds' := ?d15) (up' := ?u15) (s' := ?s15) (by kernel_rfl) ?h15 ?k15
                  case h15 =>
                    simp only [runOps_cons, ops_nil, opThen_true, nxThen_val, wantedV_none, opDo, eval_bool, nxVal_some]
                    exact rfl
                  case k15 =>
                  refine wp_ret1 (.bool false) 4 rfl (by simp only [get_putN, Nat.reduceEqDiff, reduceIte]) ⟨?_, hm.fw⟩
                  have he : Frm.eqb x.frames[k] y.frames[k] = false := by simp [Frm.eqb, d0]
                  simp [Mc.eqb, eqAll_not (List.getElem?_eq_getElem hlt) (List.getElem?_eq_getElem hlt2) he]
                have d0 : (x.frames[k]).expr = (y.frames[k]).expr := by omega
                have r0 : ((x.frames[k]).expr != (y.frames[k]).expr) = false := by simp [d0]
                by_cases d1 : (x.frames[k]).env ≠ (y.frames[k]).env
                · have r1 : ((x.frames[k]).env != (y.frames[k]).env) = true := by simp [d1]
                  refine wp_sch (t' := ?t16) (ds' := ?d16) (up' := ?u16) (s' := ?s16) [(some 1, 0), (some 1, 1), (some 1, 2), (some 1, 3), (some 1, 4), (some 1, 5), (some 1, 6), (some 1, 7), (some 1, 8), (some 1, 9), (some 1, 10), (some 1, 11), (some 1, 12), (some 1, 13), (some 1, 14), (some 1, 15), (some 1, 16), (some 1, 17), (some 1, 18), (some 1, 19), (some 1, 20), (some 1, 21), (some 1, 22), (some 1, 23), (some 1, 24), (some 1, 25), (some 1, 26), (some 1, 27), (some 1, 28), (some 1, 29), (some 1, 30), (some 1, 31), (some 1, 32), (some 1, 33), (some 1, 34), (some 1, 35), (some 1, 36), (some 1, 37), (some 1, 38), (some 1, 39), (some 1, 40), (none, 41), (some 1, 42), (some 1, 43)] (by kernel_rfl) (by kernel_rfl) ?h16 ?k16
                  case h16 =>
                    simp only [runSch_nil, runSch_f, runSch_e, runSchK_eq, runSchE_eq, schFloat_some, schThen_some, schEff_some, schEThen_some, schNext_true, floatStep1_true, floatStep1_false, effStep_false, floatDo1_0, floatDo1_1, valOnly_val, readBoth_some, readTo_val, readAll_one, opKind, List.take_succ_cons, List.take_zero, List.take_nil, doLoad_ptr, natOf_cast, wantedV_none, wantedV_some, guardV_some, guardB_bool, opDo, eval_tmp, eval_bool, get_putN, Nat.reduceEqDiff, reduceIte, nxVal_some, doPick, bTF, bFF, Nat.zero_add, evP, List.getElem?_toArray, List.getElem?_cons_zero, List.getElem?_cons_succ, Option.bind, doBin, guardOk, isEq, cond_true, cond_false, binOpV, isShift, sameKind, decide_true, intOp, h2, h3, h5, fa29_4, lv24, lv3, ld1 ga, ld1 gb, ia, ib, fb75_0, fb75_1, cell_of_cells e1 0 (by decide), cell_of_cells e1 1 (by decide), cell_of_cells e2 0 (by decide), cell_of_cells e2 1 (by decide), r0, r1, (Fw.refl [] s2).ble]
                    exact rfl
                  case k16 =>
                  refine wp_cond true (by simp only [eval_tmp, get_putN, Nat.reduceEqDiff, reduceIte]) (fun _ => ?_) (fun h => by cases h)
                  repeat refine wp_seq ?_
                  refine wp_region (t' := ?t17) (ds' := ?d17) (up' := ?u17) (s' := ?s17) (by kernel_rfl) ?h17 ?k17
                  case h17 =>
                    simp only [runOps_cons, ops_nil, opThen_true, nxThen_val, wantedV_none, opDo, eval_bool, nxVal_some]
                    exact rfl
                  case k17 =>
                  refine wp_ret1 (.bool false) 4 rfl (by simp only [get_putN, Nat.reduceEqDiff, reduceIte]) ⟨?_, hm.fw⟩
                  have he : Frm.eqb x.frames[k] y.frames[k] = false := by simp [Frm.eqb, d1]
                  simp [Mc.eqb, eqAll_not (List.getElem?_eq_getElem hlt) (List.getElem?_eq_getElem hlt2) he]
                have d1 : (x.frames[k]).env = (y.frames[k]).env := by omega
                have r1 : ((x.frames[k]).env != (y.frames[k]).env) = false := by simp [d1]
                refine wp_sch (t' := ?t18) (ds' := ?d18) (up' := ?u18) (s' := ?s18) [(some 1, 0), (some 1, 1), (some 1, 2), (some 1, 3), (some 1, 4), (some 1, 5), (some 1, 6), (some 1, 7), (some 1, 8), (some 1, 9), (some 1, 10), (some 1, 11), (some 1, 12), (some 1, 13), (some 1, 14), (some 1, 15), (some 1, 16), (some 1, 17), (some 1, 18), (some 1, 19), (some 1, 20), (some 1, 21), (some 1, 22), (some 1, 23), (some 1, 24), (some 1, 25), (some 1, 26), (some 1, 27), (some 1, 28), (some 1, 29), (some 1, 30), (some 1, 31), (some 1, 32), (some 1, 33), (some 1, 34), (some 1, 35), (some 1, 36), (some 1, 37), (some 1, 38), (some 1, 39), (some 1, 40), (none, 41), (some 1, 42), (some 1, 43)] (by kernel_rfl) (by kernel_rfl) ?h18 ?k18
                case h18 =>
                  simp only [runSch_nil, runSch_f, runSch_e, runSchK_eq, runSchE_eq, schFloat_some, schThen_some, schEff_some, schEThen_some, schNext_true, floatStep1_true, effStep_true, effDo_enter, effEnd_ret, floatDo1_0, floatDo1_1, valOnly_val, readBoth_some, readTo_val, readAll_one, opKind, List.take_succ_cons, List.take_zero, List.take_nil, doLoad_ptr, natOf_cast, wantedV_none, wantedV_some, guardV_some, guardB_bool, opDo, eval_tmp, eval_func, get_putN, Nat.reduceEqDiff, reduceIte, nxVal_some, callTo, callV, doPick, doUn, unOpV, bFF, List.nil_append, List.append_nil, Nat.zero_add, evals, evP, List.getElem?_toArray, List.getElem?_cons_zero, List.getElem?_cons_succ, Option.bind, doBin, guardOk, isEq, cond_true, cond_false, binOpV, isShift, sameKind, decide_true, intOp, h2, h3, h5, fa29_4, lv24, lv3, lv73, ld1 ga, ld1 gb, ia, ib, fb75_0, fb75_1, fb75_2, cell_of_cells e1 0 (by decide), cell_of_cells e1 1 (by decide), cell_of_cells e1 2 (by decide), cell_of_cells e2 0 (by decide), cell_of_cells e2 1 (by decide), cell_of_cells e2 2 (by decide), r0, r1, cf31, call, hf3.ble]
                  exact rfl
                case k18 =>
                have hb : Frm.eqb x.frames[k] y.frames[k] = eqAll Rf.eqb (x.frames[k]).done (y.frames[k]).done := by simp [Frm.eqb, d0, d1]
                refine wp_cond (!(eqAll Rf.eqb (x.frames[k]).done (y.frames[k]).done)) (by simp only [eval_tmp, get_putN, Nat.reduceEqDiff, reduceIte]) (fun hd => ?_) (fun hd => ?_)
                · repeat refine wp_seq ?_
                  refine wp_region (t' := ?t19) (ds' := ?d19) (up' := ?u19) (s' := ?s19) (by kernel_rfl) ?h19 ?k19
                  case h19 =>
                    simp only [runOps_cons, ops_nil, opThen_true, nxThen_val, wantedV_none, opDo, eval_bool, nxVal_some]
                    exact rfl
                  case k19 =>
                  refine wp_ret1 (.bool false) 4 rfl (by simp only [get_putN, Nat.reduceEqDiff, reduceIte]) ⟨?_, (hm.call hf3).fw⟩
                  have he : Frm.eqb x.frames[k] y.frames[k] = false := by rw [hb]; simpa using hd
                  simp [Mc.eqb, eqAll_not (List.getElem?_eq_getElem hlt) (List.getElem?_eq_getElem hlt2) he]
                · refine wp_skip (wp_inBlock ?_)
                  refine wp_region (t' := ?t20) (ds' := ?d20) (up' := ?u20) (s' := ?s20) (by kernel_rfl) ?h20 ?k20
                  case h20 =>
                    simp only [runOps_cons, ops_nil, opThen_true, nxThen_val, wantedV_none, opDo, eval_tmp, eval_int, get_putN, Nat.reduceEqDiff, reduceIte, nxVal_some, doBin, guardOk, isEq, cond_true, cond_false, binOpV, isShift, sameKind, decide_true, intOp, h5, mkInt_eq, hw1]
                    exact rfl
                  case k20 =>
                  refine hnext (x.frames.length - (k + 1)) _ _ (by omega) ⟨k + 1, rfl, hlt, hm.call hf3, ?_, ?_, ?_, ?_⟩
                  · simp only [get_putN, Nat.reduceEqDiff, reduceIte, h2]
                  · simp only [get_putN, Nat.reduceEqDiff, reduceIte, h3]
                  · simp only [get_putN, Nat.reduceEqDiff, reduceIte]
                  · intro i u v hi hu hv
                    by_cases hik : i = k
                    · subst hik
                      rw [List.getElem?_eq_getElem hlt] at hu
                      rw [List.getElem?_eq_getElem hlt2] at hv
                      cases hu; cases hv; exact (by rw [hb]; simpa using hd)
                    · exact hI i u v (by omega) hu hv
              have hkn : k = x.frames.length := by have := of_decide_eq_false hq; omega
              have z0 : eqAll Frm.eqb x.frames y.frames = true := eqAll_of e0 fun i u v hu hv => hI i u v (by have := (List.getElem?_eq_some_iff.1 hu).1; omega) hu hv
              refine wp_exit rfl ?_
              repeat refine wp_seq ?_
              refine wp_region (t' := ?t21) (ds' := ?d21) (up' := ?u21) (s' := ?s21) (by kernel_rfl) ?h21 ?k21
              case h21 =>
                simp only [runOps_cons, ops_nil, opThen_true, nxThen_val, wantedV_none, opDo, eval_int, nxVal_some]
                exact rfl
              case k21 =>
              repeat refine wp_seq ?_
              have hb1 := hC.bnd
              obtain ⟨pa1, hpa1⟩ := hC.el
              obtain ⟨pb1, hpb1⟩ := gC.el
              refine wp_block (wp_loop_inv (fun j t s' => ∃ k : Nat, j = x.cells.length - k ∧ k ≤ x.cells.length ∧ Me [] s s' [(f1, Blk.cells 29 false 1 [⟨0, 0, [.int .i64 y.mode, .int .i64 y.expr, .int .i64 y.env, .bool y.value.cell, .int .i64 y.value.num, wf, wc, wt, .int .i64 y.body, wo, .int .i64 y.steps]⟩]), (f0, Blk.cells 29 false 1 [⟨0, 0, [.int .i64 x.mode, .int .i64 x.expr, .int .i64 x.env, .bool x.value.cell, .int .i64 x.value.num, vf, vc, vt, .int .i64 x.body, vo, .int .i64 x.steps]⟩])] ∧ t.get (pth 2) = some (.ptr ⟨f0, 0, 0⟩) ∧ t.get (pth 3) = some (.ptr ⟨f1, 0, 0⟩) ∧ t.get (pth 6) = some (.int .i64 k) ∧ ∀ (i : Nat) (x' y' : Cl), i < k → x.cells[i]? = some x' → y.cells[i]? = some y' → Cl.eqb x' y' = true) ?_ (x.cells.length - 0) _ _ ⟨0, rfl, Nat.zero_le _, hm, ?_, ?_, ?_, by intro i _ _ hi; omega⟩)
              rotate_left
              · simp only [get_putN, Nat.reduceEqDiff, reduceIte, h2]
              · simp only [get_putN, Nat.reduceEqDiff, reduceIte, h3]
              · simp only [get_putN, Nat.reduceEqDiff, reduceIte]; rfl
              clear hm
              rintro j t s2 ⟨k, hj, hk, hm, h2, h3, h5, hI⟩ hnext
              have k1' := hK1 _ _ hm.fw k1
              have k2' := hK2 _ _ hm.fw k2
              have ga := hm.at 1 rfl
              have gb := hm.at 0 rfl
              repeat refine wp_seq ?_
              refine wp_region (t' := ?t22) (ds' := ?d22) (up' := ?u22) (s' := ?s22) (by kernel_rfl) ?h22 ?k22
              case h22 =>
                simp only [doLoad_ptr, runOps_cons, ops_nil, opThen_true, nxThen_val, wantedV_none, opDo, eval_tmp, get_putN, Nat.reduceEqDiff, reduceIte, nxVal_some, callTo, callB, Nat.zero_add, evals, evP, List.getElem?_toArray, List.getElem?_cons_zero, List.getElem?_cons_succ, doBin, guardOk, isEq, cond_true, cond_false, binOpV, isShift, sameKind, decide_true, intOp, h2, h5, fa29_5, lv25, ld1 ga, hC.len]
                exact rfl
              case k22 =>
              repeat refine wp_seq ?_
              refine wp_cond (decide ((k : Int) < (x.cells.length : Int))) (by simp only [eval_tmp, get_putN, Nat.reduceEqDiff, reduceIte]) (fun hq => ?_) (fun hq => ?_)
              · have hlt : k < x.cells.length := by have := of_decide_eq_true hq; omega
                have hlt2 : k < y.cells.length := by omega
                obtain ⟨ia, l1, e1, el1, o1, r1⟩ := hpa1 k _ (List.getElem?_eq_getElem hlt)
                obtain ⟨ib, l2, e2, el2, o2, r2⟩ := hpb1 k _ (List.getElem?_eq_getElem hlt2)
                have e1 := e1 _ k1'
                have e2 := e2 _ k2'
                have hw1 : IntKind.wrap .i64 ((k : Int) + 1) = ((k + 1 : Nat) : Int) := by
                  have := wrap_in ((k : Int) + 1) ⟨by omega, by omega⟩; omega
                refine wp_skip ?_
                repeat refine wp_seq ?_
                refine wp_block ?_
                repeat refine wp_seq ?_
                obtain ⟨_, s3, call, rfl, hf3⟩ := sameCellR K1 K2 hK1 hK2 _ _ l1 l2 r1 r2 s2 hm.wf k1' k2'
                have call := ca_rec call
                refine wp_sch (t' := ?t23) (ds' := ?d23) (up' := ?u23) (s' := ?s23) [(some 1, 0), (some 1, 1), (some 1, 2), (some 1, 3), (some 1, 4), (some 1, 5), (some 1, 6), (some 1, 7), (some 1, 8), (some 1, 9), (none, 10), (some 1, 11)] (by kernel_rfl) (by kernel_rfl) ?h23 ?k23
                case h23 =>
                  simp only [runSch_nil, runSch_f, runSch_e, runSchK_eq, runSchE_eq, schFloat_some, schThen_some, schEff_some, schEThen_some, schNext_true, floatStep1_true, effStep_true, effDo_enter, effEnd_ret, floatDo1_0, floatDo1_1, valOnly_val, readBoth_some, readTo_val, readAll_one, opKind, List.take_succ_cons, List.take_zero, List.take_nil, doLoad_ptr, natOf_cast, wantedV_none, opDo, eval_tmp, eval_func, get_putN, Nat.reduceEqDiff, reduceIte, nxVal_some, callTo, callV, doUn, unOpV, List.nil_append, List.append_nil, Nat.zero_add, evals, evP, List.getElem?_toArray, List.getElem?_cons_zero, List.getElem?_cons_succ, Option.map, h2, h3, h5, fa29_5, lv25, lv82, ld1 ga, ld1 gb, ia, ib, e1, e2, cf32, call, hf3.ble]
                  exact rfl
                case k23 =>
                refine wp_cond (!(Cl.eqb x.cells[k] y.cells[k])) (by simp only [eval_tmp, get_putN, Nat.reduceEqDiff, reduceIte]) (fun hd => ?_) (fun hd => ?_)
                · repeat refine wp_seq ?_
                  refine wp_region (t' := ?t24) (ds' := ?d24) (up' := ?u24) (s' := ?s24) (by kernel_rfl) ?h24 ?k24
                  case h24 =>
                    simp only [runOps_cons, ops_nil, opThen_true, nxThen_val, wantedV_none, opDo, eval_bool, nxVal_some]
                    exact rfl
                  case k24 =>
                  refine wp_ret1 (.bool false) 4 rfl (by simp only [get_putN, Nat.reduceEqDiff, reduceIte]) ⟨?_, (hm.call hf3).fw⟩
                  have he : Cl.eqb x.cells[k] y.cells[k] = false := by simpa using hd
                  simp [Mc.eqb, eqAll_not (List.getElem?_eq_getElem hlt) (List.getElem?_eq_getElem hlt2) he]
                · refine wp_skip (wp_inBlock ?_)
                  refine wp_region (t' := ?t25) (ds' := ?d25) (up' := ?u25) (s' := ?s25) (by kernel_rfl) ?h25 ?k25
                  case h25 =>
                    simp only [runOps_cons, ops_nil, opThen_true, nxThen_val, wantedV_none, opDo, eval_tmp, eval_int, get_putN, Nat.reduceEqDiff, reduceIte, nxVal_some, doBin, guardOk, isEq, cond_true, cond_false, binOpV, isShift, sameKind, decide_true, intOp, h5, mkInt_eq, hw1]
                    exact rfl
                  case k25 =>
                  refine hnext (x.cells.length - (k + 1)) _ _ (by omega) ⟨k + 1, rfl, hlt, hm.call hf3, ?_, ?_, ?_, ?_⟩
                  · simp only [get_putN, Nat.reduceEqDiff, reduceIte, h2]
                  · simp only [get_putN, Nat.reduceEqDiff, reduceIte, h3]
                  · simp only [get_putN, Nat.reduceEqDiff, reduceIte]
                  · intro i u v hi hu hv
                    by_cases hik : i = k
                    · subst hik
                      rw [List.getElem?_eq_getElem hlt] at hu
                      rw [List.getElem?_eq_getElem hlt2] at hv
                      cases hu; cases hv; exact (by simpa using hd)
                    · exact hI i u v (by omega) hu hv
              have hkn : k = x.cells.length := by have := of_decide_eq_false hq; omega
              have z1 : eqAll Cl.eqb x.cells y.cells = true := eqAll_of e1 fun i u v hu hv => hI i u v (by have := (List.getElem?_eq_some_iff.1 hu).1; omega) hu hv
              refine wp_exit rfl ?_
              repeat refine wp_seq ?_
              refine wp_region (t' := ?t26) (ds' := ?d26) (up' := ?u26) (s' := ?s26) (by kernel_rfl) ?h26 ?k26
              case h26 =>
                simp only [runOps_cons, ops_nil, opThen_true, nxThen_val, wantedV_none, opDo, eval_int, nxVal_some]
                exact rfl
              case k26 =>
              repeat refine wp_seq ?_
              have hb2 := hT.bnd
              obtain ⟨pa2, hpa2⟩ := hT.el
              obtain ⟨pb2, hpb2⟩ := gT.el
              refine wp_block (wp_loop_inv (fun j t s' => ∃ k : Nat, j = x.tops.length - k ∧ k ≤ x.tops.length ∧ Me [] s s' [(f1, Blk.cells 29 false 1 [⟨0, 0, [.int .i64 y.mode, .int .i64 y.expr, .int .i64 y.env, .bool y.value.cell, .int .i64 y.value.num, wf, wc, wt, .int .i64 y.body, wo, .int .i64 y.steps]⟩]), (f0, Blk.cells 29 false 1 [⟨0, 0, [.int .i64 x.mode, .int .i64 x.expr, .int .i64 x.env, .bool x.value.cell, .int .i64 x.value.num, vf, vc, vt, .int .i64 x.body, vo, .int .i64 x.steps]⟩])] ∧ t.get (pth 2) = some (.ptr ⟨f0, 0, 0⟩) ∧ t.get (pth 3) = some (.ptr ⟨f1, 0, 0⟩) ∧ t.get (pth 7) = some (.int .i64 k) ∧ ∀ (i : Nat) (x' y' : Tp), i < k → x.tops[i]? = some x' → y.tops[i]? = some y' → Tp.eqb x' y' = true) ?_ (x.tops.length - 0) _ _ ⟨0, rfl, Nat.zero_le _, hm, ?_, ?_, ?_, by intro i _ _ hi; omega⟩)
              rotate_left
              · simp only [get_putN, Nat.reduceEqDiff, reduceIte, h2]
              · simp only [get_putN, Nat.reduceEqDiff, reduceIte, h3]
              · simp only [get_putN, Nat.reduceEqDiff, reduceIte]; rfl
              clear hm
              rintro j t s2 ⟨k, hj, hk, hm, h2, h3, h5, hI⟩ hnext
              have k1' := hK1 _ _ hm.fw k1
              have k2' := hK2 _ _ hm.fw k2
              have ga := hm.at 1 rfl
              have gb := hm.at 0 rfl
              repeat refine wp_seq ?_
              refine wp_region (t' := ?t27) (ds' := ?d27) (up' := ?u27) (s' := ?s27) (by kernel_rfl) ?h27 ?k27
              case h27 =>
                simp only [doLoad_ptr, runOps_cons, ops_nil, opThen_true, nxThen_val, wantedV_none, opDo, eval_tmp, get_putN, Nat.reduceEqDiff, reduceIte, nxVal_some, callTo, callB, Nat.zero_add, evals, evP, List.getElem?_toArray, List.getElem?_cons_zero, List.getElem?_cons_succ, doBin, guardOk, isEq, cond_true, cond_false, binOpV, isShift, sameKind, decide_true, intOp, h2, h5, fa29_6, lv26, ld1 ga, hT.len]
                exact rfl
              case k27 =>
              repeat refine wp_seq ?_
              refine wp_cond (decide ((k : Int) < (x.tops.length : Int))) (by simp only [eval_tmp, get_putN, Nat.reduceEqDiff, reduceIte]) (fun hq => ?_) (fun hq => ?_)
              · have hlt : k < x.tops.length := by have := of_decide_eq_true hq; omega
                have hlt2 : k < y.tops.length := by omega
                obtain ⟨ia, l1, e1, el1, o1, r1⟩ := hpa2 k _ (List.getElem?_eq_getElem hlt)
                obtain ⟨ib, l2, e2, el2, o2, r2⟩ := hpb2 k _ (List.getElem?_eq_getElem hlt2)
                have e1 := e1 _ k1'
                have e2 := e2 _ k2'
                have hw1 : IntKind.wrap .i64 ((k : Int) + 1) = ((k + 1 : Nat) : Int) := by
                  have := wrap_in ((k : Int) + 1) ⟨by omega, by omega⟩; omega
                refine wp_skip ?_
                repeat refine wp_seq ?_
                refine wp_block ?_
                repeat refine wp_seq ?_
                obtain ⟨rfl, b1⟩ := r1
                obtain ⟨rfl, b2⟩ := r2
                have hee := fun ok => eql86 ok _ _ b1 b2
                refine wp_sch (t' := ?t28) (ds' := ?d28) (up' := ?u28) (s' := ?s28) [(some 1, 0), (some 1, 1), (some 1, 2), (some 1, 3), (some 1, 4), (some 1, 5), (some 1, 6), (some 1, 7), (some 1, 8), (some 1, 9), (some 1, 10)] (by kernel_rfl) (by kernel_rfl) ?h28 ?k28
                case h28 =>
                  simp only [runSch_nil, runSch_f, runSchK_eq, schFloat_some, schThen_some, floatStep1_true, floatDo1_0, floatDo1_1, valOnly_val, readBoth_some, readTo_val, readAll_one, opKind, List.take_succ_cons, List.take_nil, doLoad_ptr, natOf_cast, wantedV_none, opDo, eval_tmp, get_putN, Nat.reduceEqDiff, reduceIte, nxVal_some, Bool.not_false, Nat.zero_add, evP, List.getElem?_toArray, List.getElem?_cons_zero, List.getElem?_cons_succ, doBin, guardOk, isEq, cond_true, binOpV, Option.map, h2, h3, h5, fa29_6, lv26, lv86, ld1 ga, ld1 gb, ia, ib, e1, e2, guard86, hee]
                  exact rfl
                case k28 =>
                refine wp_cond (!(Tp.eqb x.tops[k] y.tops[k])) (by simp only [eval_tmp, get_putN, Nat.reduceEqDiff, reduceIte]) (fun hd => ?_) (fun hd => ?_)
                · repeat refine wp_seq ?_
                  refine wp_region (t' := ?t29) (ds' := ?d29) (up' := ?u29) (s' := ?s29) (by kernel_rfl) ?h29 ?k29
                  case h29 =>
                    simp only [runOps_cons, ops_nil, opThen_true, nxThen_val, wantedV_none, opDo, eval_bool, nxVal_some]
                    exact rfl
                  case k29 =>
                  refine wp_ret1 (.bool false) 4 rfl (by simp only [get_putN, Nat.reduceEqDiff, reduceIte]) ⟨?_, hm.fw⟩
                  have he : Tp.eqb x.tops[k] y.tops[k] = false := by simpa using hd
                  simp [Mc.eqb, eqAll_not (List.getElem?_eq_getElem hlt) (List.getElem?_eq_getElem hlt2) he]
                · refine wp_skip (wp_inBlock ?_)
                  refine wp_region (t' := ?t30) (ds' := ?d30) (up' := ?u30) (s' := ?s30) (by kernel_rfl) ?h30 ?k30
                  case h30 =>
                    simp only [runOps_cons, ops_nil, opThen_true, nxThen_val, wantedV_none, opDo, eval_tmp, eval_int, get_putN, Nat.reduceEqDiff, reduceIte, nxVal_some, doBin, guardOk, isEq, cond_true, cond_false, binOpV, isShift, sameKind, decide_true, intOp, h5, mkInt_eq, hw1]
                    exact rfl
                  case k30 =>
                  refine hnext (x.tops.length - (k + 1)) _ _ (by omega) ⟨k + 1, rfl, hlt, hm, ?_, ?_, ?_, ?_⟩
                  · simp only [get_putN, Nat.reduceEqDiff, reduceIte, h2]
                  · simp only [get_putN, Nat.reduceEqDiff, reduceIte, h3]
                  · simp only [get_putN, Nat.reduceEqDiff, reduceIte]
                  · intro i u v hi hu hv
                    by_cases hik : i = k
                    · subst hik
                      rw [List.getElem?_eq_getElem hlt] at hu
                      rw [List.getElem?_eq_getElem hlt2] at hv
                      cases hu; cases hv; exact (by simpa using hd)
                    · exact hI i u v (by omega) hu hv
              have hkn : k = x.tops.length := by have := of_decide_eq_false hq; omega
              have z2 : eqAll Tp.eqb x.tops y.tops = true := eqAll_of e2 fun i u v hu hv => hI i u v (by have := (List.getElem?_eq_some_iff.1 hu).1; omega) hu hv
              refine wp_exit rfl ?_
              repeat refine wp_seq ?_
              refine wp_region (t' := ?t31) (ds' := ?d31) (up' := ?u31) (s' := ?s31) (by kernel_rfl) ?h31 ?k31
              case h31 =>
                simp only [runOps_cons, ops_nil, opThen_true, nxThen_val, wantedV_none, opDo, eval_bool, nxVal_some]
                exact rfl
              case k31 =>
              exact wp_ret1 (.bool true) 4 rfl (by simp only [get_putN, Nat.reduceEqDiff, reduceIte]) ⟨by simp [Mc.eqb, Rf.eqb, c0, c1, c2, c3, c4, c5, z0, z1, z2, e3], hm.fw⟩
            · have p5 : (x.steps != y.steps) = true := by simp [c5]
              refine wp_region (t' := ?t32) (ds' := ?d32) (up' := ?u32) (s' := ?s32) (by kernel_rfl) ?h32 ?k32
              case h32 =>
                simp only [doLoad_ptr, runOps_cons, ops_nil, opThen_true, nxThen_val, wantedV_none, wantedV_some, guardV_some, guardB_bool, opDo, eval_tmp, get_putN, Nat.reduceEqDiff, reduceIte, nxVal_some, doPick, bFF, Bool.not_true, Bool.not_false, Nat.zero_add, Nat.add_zero, evP, List.getElem?_toArray, List.getElem?_cons_zero, List.getElem?_cons_succ, Option.bind, doBin, guardOk, isEq, cond_true, cond_false, binOpV, isShift, sameKind, decide_true, intOp, Option.map, fa29_0, fa29_1, fa29_2, fa29_3, fa29_7, fa29_9, lv3, lv23, ld1 ga, ld1 gb, ldn ga, ldn gb, List.drop_succ_cons, List.drop_zero, takeExact, guard23, eql23', p0, p1, p2, p3, p4, p5]
                exact rfl
              case k32 =>
              repeat refine wp_seq ?_
              refine wp_cond true (by simp only [eval_tmp, get_putN, Nat.reduceEqDiff, reduceIte]) (fun _ => ?_) (fun h => by cases h)
              repeat refine wp_seq ?_
              refine wp_region (t' := ?t33) (ds' := ?d33) (up' := ?u33) (s' := ?s33) (by kernel_rfl) ?h33 ?k33
              case h33 =>
                simp only [runOps_cons, ops_nil, opThen_true, nxThen_val, wantedV_none, opDo, eval_bool, nxVal_some]
                exact rfl
              case k33 =>
              exact wp_ret1 (.bool false) 4 rfl (by simp only [get_putN, Nat.reduceEqDiff, reduceIte]) ⟨by simp [Mc.eqb, Rf.eqb, c5], hm.fw⟩
          · have p4 : (x.body != y.body) = true := by simp [c4]
            refine wp_region (t' := ?t34) (ds' := ?d34) (up' := ?u34) (s' := ?s34) (by kernel_rfl) ?h34 ?k34
            case h34 =>
              simp only [doLoad_ptr, runOps_cons, ops_nil, opThen_true, opThen_false, nxThen_val, wantedV_none, wantedV_some, guardV_some, guardB_bool, opDo, eval_tmp, eval_bool, get_putN, Nat.reduceEqDiff, reduceIte, nxVal_some, doPick, bTF, bFF, Bool.not_true, Bool.not_false, Nat.zero_add, Nat.add_zero, evP, List.getElem?_toArray, List.getElem?_cons_zero, List.getElem?_cons_succ, Option.bind, doBin, guardOk, isEq, cond_true, cond_false, binOpV, isShift, sameKind, decide_true, intOp, Option.map, fa29_0, fa29_1, fa29_2, fa29_3, fa29_7, lv3, lv23, ld1 ga, ld1 gb, ldn ga, ldn gb, List.drop_succ_cons, List.drop_zero, takeExact, guard23, eql23', p0, p1, p2, p3, p4]
              exact rfl
            case k34 =>
            repeat refine wp_seq ?_
            refine wp_cond true (by simp only [eval_tmp, get_putN, Nat.reduceEqDiff, reduceIte]) (fun _ => ?_) (fun h => by cases h)
            repeat refine wp_seq ?_
            refine wp_region (t' := ?t35) (ds' := ?d35) (up' := ?u35) (s' := ?s35) (by kernel_rfl) ?h35 ?k35
            case h35 =>
              simp only [runOps_cons, ops_nil, opThen_true, nxThen_val, wantedV_none, opDo, eval_bool, nxVal_some]
              exact rfl
            case k35 =>
            exact wp_ret1 (.bool false) 4 rfl (by simp only [get_putN, Nat.reduceEqDiff, reduceIte]) ⟨by simp [Mc.eqb, Rf.eqb, c4], hm.fw⟩
        · have p3 : Rf.eqb x.value y.value = false := by simp [Rf.eqb, c3]
          refine wp_region (t' := ?t36) (ds' := ?d36) (up' := ?u36) (s' := ?s36) (by kernel_rfl) ?h36 ?k36
          case h36 =>
            simp only [doLoad_ptr, runOps_cons, ops_nil, opThen_true, opThen_false, nxThen_val, wantedV_none, wantedV_some, guardV_some, guardB_bool, opDo, eval_tmp, eval_bool, get_putN, Nat.reduceEqDiff, reduceIte, nxVal_some, doPick, bTF, bFF, Bool.not_false, Nat.zero_add, Nat.add_zero, evP, List.getElem?_toArray, List.getElem?_cons_zero, List.getElem?_cons_succ, Option.bind, doBin, guardOk, isEq, cond_true, cond_false, binOpV, isShift, sameKind, decide_true, intOp, Option.map, fa29_0, fa29_1, fa29_2, fa29_3, lv3, lv23, ld1 ga, ld1 gb, ldn ga, ldn gb, List.drop_succ_cons, List.drop_zero, takeExact, guard23, eql23', p0, p1, p2, p3]
            exact rfl
          case k36 =>
          repeat refine wp_seq ?_
          refine wp_cond true (by simp only [eval_tmp, get_putN, Nat.reduceEqDiff, reduceIte]) (fun _ => ?_) (fun h => by cases h)
          repeat refine wp_seq ?_
          refine wp_region (t' := ?t37) (ds' := ?d37) (up' := ?u37) (s' := ?s37) (by kernel_rfl) ?h37 ?k37
          case h37 =>
            simp only [runOps_cons, ops_nil, opThen_true, nxThen_val, wantedV_none, opDo, eval_bool, nxVal_some]
            exact rfl
          case k37 =>
          exact wp_ret1 (.bool false) 4 rfl (by simp only [get_putN, Nat.reduceEqDiff, reduceIte]) ⟨by simp [Mc.eqb, Rf.eqb, c3], hm.fw⟩
      · have p2 : (x.env != y.env) = true := by simp [c2]
        refine wp_region (t' := ?t38) (ds' := ?d38) (up' := ?u38) (s' := ?s38) (by kernel_rfl) ?h38 ?k38
        case h38 =>
          simp only [doLoad_ptr, runOps_cons, ops_nil, opThen_true, opThen_false, nxThen_val, wantedV_none, wantedV_some, guardV_some, guardB_bool, opDo, eval_tmp, eval_bool, get_putN, Nat.reduceEqDiff, reduceIte, nxVal_some, doPick, bTF, bFF, Nat.zero_add, Nat.add_zero, evP, List.getElem?_toArray, List.getElem?_cons_zero, List.getElem?_cons_succ, Option.bind, doBin, guardOk, isEq, cond_true, cond_false, binOpV, isShift, sameKind, decide_true, intOp, fa29_0, fa29_1, fa29_2, lv3, ld1 ga, ld1 gb, p0, p1, p2]
          exact rfl
        case k38 =>
        repeat refine wp_seq ?_
        refine wp_cond true (by simp only [eval_tmp, get_putN, Nat.reduceEqDiff, reduceIte]) (fun _ => ?_) (fun h => by cases h)
        repeat refine wp_seq ?_
        refine wp_region (t' := ?t39) (ds' := ?d39) (up' := ?u39) (s' := ?s39) (by kernel_rfl) ?h39 ?k39
        case h39 =>
          simp only [runOps_cons, ops_nil, opThen_true, nxThen_val, wantedV_none, opDo, eval_bool, nxVal_some]
          exact rfl
        case k39 =>
        exact wp_ret1 (.bool false) 4 rfl (by simp only [get_putN, Nat.reduceEqDiff, reduceIte]) ⟨by simp [Mc.eqb, Rf.eqb, c2], hm.fw⟩
    · have p1 : (x.expr != y.expr) = true := by simp [c1]
      refine wp_region (t' := ?t40) (ds' := ?d40) (up' := ?u40) (s' := ?s40) (by kernel_rfl) ?h40 ?k40
      case h40 =>
        simp only [doLoad_ptr, runOps_cons, ops_nil, opThen_true, opThen_false, nxThen_val, wantedV_none, wantedV_some, guardV_some, guardB_bool, opDo, eval_tmp, eval_bool, get_putN, Nat.reduceEqDiff, reduceIte, nxVal_some, doPick, bTF, bFF, Nat.zero_add, Nat.add_zero, evP, List.getElem?_toArray, List.getElem?_cons_zero, List.getElem?_cons_succ, Option.bind, doBin, guardOk, isEq, cond_true, cond_false, binOpV, isShift, sameKind, decide_true, intOp, fa29_0, fa29_1, lv3, ld1 ga, ld1 gb, p0, p1]
        exact rfl
      case k40 =>
      repeat refine wp_seq ?_
      refine wp_cond true (by simp only [eval_tmp, get_putN, Nat.reduceEqDiff, reduceIte]) (fun _ => ?_) (fun h => by cases h)
      repeat refine wp_seq ?_
      refine wp_region (t' := ?t41) (ds' := ?d41) (up' := ?u41) (s' := ?s41) (by kernel_rfl) ?h41 ?k41
      case h41 =>
        simp only [runOps_cons, ops_nil, opThen_true, nxThen_val, wantedV_none, opDo, eval_bool, nxVal_some]
        exact rfl
      case k41 =>
      exact wp_ret1 (.bool false) 4 rfl (by simp only [get_putN, Nat.reduceEqDiff, reduceIte]) ⟨by simp [Mc.eqb, Rf.eqb, c1], hm.fw⟩
  · have p0 : (x.mode != y.mode) = true := by simp [c0]
    refine wp_region (t' := ?t42) (ds' := ?d42) (up' := ?u42) (s' := ?s42) (by kernel_rfl) ?h42 ?k42
    case h42 =>
      simp only [doLoad_ptr, runOps_cons, ops_nil, opThen_true, opThen_false, nxThen_val, wantedV_none, wantedV_some, guardV_some, guardB_bool, opDo, eval_tmp, eval_bool, get_putN, Nat.reduceEqDiff, reduceIte, nxVal_some, doPick, bTF, Nat.add_zero, evP, List.getElem?_toArray, List.getElem?_cons_zero, List.getElem?_cons_succ, Option.bind, doBin, guardOk, isEq, cond_true, cond_false, binOpV, isShift, sameKind, decide_true, intOp, fa29_0, lv3, ld1 ga, ld1 gb, p0]
      exact rfl
    case k42 =>
    repeat refine wp_seq ?_
    refine wp_cond true (by simp only [eval_tmp, get_putN, Nat.reduceEqDiff, reduceIte]) (fun _ => ?_) (fun h => by cases h)
    repeat refine wp_seq ?_
    refine wp_region (t' := ?t43) (ds' := ?d43) (up' := ?u43) (s' := ?s43) (by kernel_rfl) ?h43 ?k43
    case h43 =>
      simp only [runOps_cons, ops_nil, opThen_true, nxThen_val, wantedV_none, opDo, eval_bool, nxVal_some]
      exact rfl
    case k43 =>
    exact wp_ret1 (.bool false) 4 rfl (by simp only [get_putN, Nat.reduceEqDiff, reduceIte]) ⟨by simp [Mc.eqb, Rf.eqb, c0], hm.fw⟩
end Go.AI.Sv
