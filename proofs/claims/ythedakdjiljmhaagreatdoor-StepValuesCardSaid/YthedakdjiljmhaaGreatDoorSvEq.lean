/- The equality functions. No conditions. -/
import Derived.Test.YthedakdjiljmhaaGreatDoorSvLists
import Derived.Test.YthedakdjiljmhaaGreatDoorSvAlike
set_option linter.unusedVariables false
set_option linter.unusedSimpArgs false
noncomputable section
namespace Go.AI.Sv
open Go.Proofs
theorem cf27 (args : List V) (s : S) : callF envL 27 args s = some (.enter 27 args s) := by kernel_rfl
set_option maxRecDepth 10000 in
theorem sameCellP (K1 K2 : S → Prop) (hK1 : Stay K1) (hK2 : Stay K2) (x y : Cl) (l1 l2 : List V) (hx : RdCl K1 x l1) (hy : RdCl K2 y l2) (s : S) (hw : WF s) (k1 : K1 s) (k2 : K2 s) :
    Cw envL 27 [.agg l1, .agg l2] s fun v s' => v = .bool (Cl.eqb x y) ∧ Fw [] s s' := by
  obtain ⟨va, rfl, ba, hA⟩ := hx
  obtain ⟨vb, rfl, bb, hB⟩ := hy
  have hse := strEq_dec ba bb
  refine cw_enter (fn := Tryz.f27) rfl Tryz.func27 rfl (by kernel_rfl) ?_
  rw [initT_cons, initT_cons, initT_nil]
  repeat refine wp_seq ?_
  refine wp_region (t' := ?t1) (ds' := ?d1) (up' := ?u1) (s' := ?s1) (by kernel_rfl) ?h1 ?k1
  case h1 =>
    simp only [runOps_cons, ops_nil, opThen_true, nxThen_val, wantedV_none, opDo, eval_tmp, eval_bool, get_putN, Nat.reduceEqDiff, reduceIte, nxVal_some, doBox_agg, Nat.zero_add]
    exact rfl
  case k1 =>
  have hm := ((Me.start (F := []) hw).alloc (B := .cells 82 false 1 [⟨0, 0, [.int .i64 x.kind, .str x.con, .int .i64 x.num, va, .int .i64 x.next]⟩]) (fun _ h => by cases h)).alloc (B := .cells 82 false 1 [⟨0, 0, [.int .i64 y.kind, .str y.con, .int .i64 y.num, vb, .int .i64 y.next]⟩]) (fun _ h => by cases h)
  generalize hs1 : S.alloc (S.alloc s _) _ = s1 at hm ⊢
  generalize hf1 : S.next (S.alloc s _) = f1 at hm ⊢
  generalize hf0 : S.next s = f0 at hm ⊢
  have k1' := hK1 _ _ hm.fw k1
  have k2' := hK2 _ _ hm.fw k2
  have ga := hm.at 1 rfl
  have gb := hm.at 0 rfl
  obtain ⟨_, s2, hcall, rfl, hf2⟩ := eqRefs K1 K2 hK1 hK2 _ _ va vb hA hB s1 hm.wf k1' k2'
  have hcall := ca_rec hcall
  repeat refine wp_seq ?_
  by_cases c0 : x.kind = y.kind
  · have p0 : (x.kind == y.kind) = true := by simp [c0]
    by_cases c1 : x.con = y.con
    · have p1 : decide (x.con = y.con) = true := by simp [c1]
      by_cases c2 : x.num = y.num
      · have p2 : (x.num == y.num) = true := by simp [c2]
        by_cases c3 : x.next = y.next
        · have p3 : (x.next == y.next) = true := by simp [c3]
          refine wp_region (t' := ?t2) (ds' := ?d2) (up' := ?u2) (s' := ?s2) (by kernel_rfl) ?h2 ?k2
          case h2 =>
            simp only [doLoad_ptr, runOps_cons, ops_nil, opThen_true, nxThen_val, nxThen_enter, outThen_ret, wantedV_none, wantedV_some, guardV_some, guardB_bool, opDo, eval_tmp, eval_func, get_putN, Nat.reduceEqDiff, reduceIte, nxVal_some, callTo, callV, doPick, bTT, List.nil_append, List.append_nil, Nat.zero_add, Nat.add_zero, evals, evP, List.getElem?_toArray, List.getElem?_cons_zero, List.getElem?_cons_succ, Option.bind, doBin, guardOk, isEq, cond_true, cond_false, binOpV, isShift, sameKind, decide_true, intOp, Option.map, fa82_0, fa82_1, fa82_2, fa82_3, fa82_4, lv3, lv9, lv73, ld1 ga, ld1 gb, strOp, hse, p0, p1, p2, p3, cf22, hcall]
            exact rfl
          case k2 =>
          repeat refine wp_seq ?_
          exact wp_ret1 (.bool (eqAll Rf.eqb x.refs y.refs)) 4 rfl (by simp only [get_putN, Nat.reduceEqDiff, reduceIte]) ⟨by simp [Cl.eqb, c0, c1, c2, c3], hm.fw.trans hf2⟩
        · have p3 : (x.next == y.next) = false := by simp [c3]
          refine wp_region (t' := ?t3) (ds' := ?d3) (up' := ?u3) (s' := ?s3) (by kernel_rfl) ?h3 ?k3
          case h3 =>
            simp only [doLoad_ptr, runOps_cons, ops_nil, opThen_true, opThen_false, nxThen_val, wantedV_none, wantedV_some, guardV_some, guardB_bool, opDo, eval_tmp, eval_bool, get_putN, Nat.reduceEqDiff, reduceIte, nxVal_some, doPick, bTT, bFT, Nat.zero_add, Nat.add_zero, evP, List.getElem?_toArray, List.getElem?_cons_zero, List.getElem?_cons_succ, Option.bind, doBin, guardOk, isEq, cond_true, cond_false, binOpV, isShift, sameKind, decide_true, intOp, Option.map, fa82_0, fa82_1, fa82_2, fa82_4, lv3, lv9, ld1 ga, ld1 gb, strOp, hse, p0, p1, p2, p3]
            exact rfl
          case k3 =>
          repeat refine wp_seq ?_
          exact wp_ret1 (.bool false) 4 rfl (by simp only [get_putN, Nat.reduceEqDiff, reduceIte]) ⟨by simp [Cl.eqb, c3], hm.fw⟩
      · have p2 : (x.num == y.num) = false := by simp [c2]
        refine wp_region (t' := ?t4) (ds' := ?d4) (up' := ?u4) (s' := ?s4) (by kernel_rfl) ?h4 ?k4
        case h4 =>
          simp only [doLoad_ptr, runOps_cons, ops_nil, opThen_true, opThen_false, nxThen_val, wantedV_none, wantedV_some, guardV_some, guardB_bool, opDo, eval_tmp, eval_bool, get_putN, Nat.reduceEqDiff, reduceIte, nxVal_some, doPick, bTT, bFT, Nat.zero_add, Nat.add_zero, evP, List.getElem?_toArray, List.getElem?_cons_zero, List.getElem?_cons_succ, Option.bind, doBin, guardOk, isEq, cond_true, cond_false, binOpV, isShift, sameKind, decide_true, intOp, Option.map, fa82_0, fa82_1, fa82_2, lv3, lv9, ld1 ga, ld1 gb, strOp, hse, p0, p1, p2]
          exact rfl
        case k4 =>
        repeat refine wp_seq ?_
        exact wp_ret1 (.bool false) 4 rfl (by simp only [get_putN, Nat.reduceEqDiff, reduceIte]) ⟨by simp [Cl.eqb, c2], hm.fw⟩
    · have p1 : decide (x.con = y.con) = false := by simp [c1]
      refine wp_region (t' := ?t5) (ds' := ?d5) (up' := ?u5) (s' := ?s5) (by kernel_rfl) ?h5 ?k5
      case h5 =>
        simp only [doLoad_ptr, runOps_cons, ops_nil, opThen_true, opThen_false, nxThen_val, wantedV_none, wantedV_some, guardV_some, guardB_bool, opDo, eval_tmp, eval_bool, get_putN, Nat.reduceEqDiff, reduceIte, nxVal_some, doPick, bTT, bFT, Nat.zero_add, Nat.add_zero, evP, List.getElem?_toArray, List.getElem?_cons_zero, List.getElem?_cons_succ, Option.bind, doBin, guardOk, isEq, cond_true, cond_false, binOpV, isShift, sameKind, decide_true, intOp, Option.map, fa82_0, fa82_1, lv3, lv9, ld1 ga, ld1 gb, strOp, hse, p0, p1]
        exact rfl
      case k5 =>
      repeat refine wp_seq ?_
      exact wp_ret1 (.bool false) 4 rfl (by simp only [get_putN, Nat.reduceEqDiff, reduceIte]) ⟨by simp [Cl.eqb, c1], hm.fw⟩
  · have p0 : (x.kind == y.kind) = false := by simp [c0]
    refine wp_region (t' := ?t6) (ds' := ?d6) (up' := ?u6) (s' := ?s6) (by kernel_rfl) ?h6 ?k6
    case h6 =>
      simp only [doLoad_ptr, runOps_cons, ops_nil, opThen_true, opThen_false, nxThen_val, wantedV_none, wantedV_some, guardV_some, guardB_bool, opDo, eval_tmp, eval_bool, get_putN, Nat.reduceEqDiff, reduceIte, nxVal_some, doPick, bFT, Nat.add_zero, evP, List.getElem?_toArray, List.getElem?_cons_zero, List.getElem?_cons_succ, Option.bind, doBin, guardOk, isEq, cond_true, cond_false, binOpV, isShift, sameKind, decide_true, intOp, fa82_0, lv3, ld1 ga, ld1 gb, p0]
      exact rfl
    case k6 =>
    repeat refine wp_seq ?_
    exact wp_ret1 (.bool false) 4 rfl (by simp only [get_putN, Nat.reduceEqDiff, reduceIte]) ⟨by simp [Cl.eqb, c0], hm.fw⟩
theorem cf32 (args : List V) (s : S) : callF envL 32 args s = some (.enter 32 args s) := by kernel_rfl
set_option maxRecDepth 10000 in
theorem sameCellR (K1 K2 : S → Prop) (hK1 : Stay K1) (hK2 : Stay K2) (x y : Cl) (l1 l2 : List V) (hx : RdCl K1 x l1) (hy : RdCl K2 y l2) (s : S) (hw : WF s) (k1 : K1 s) (k2 : K2 s) :
    Cw envL 32 [.agg l1, .agg l2] s fun v s' => v = .bool (Cl.eqb x y) ∧ Fw [] s s' := by
  obtain ⟨va, rfl, ba, hA⟩ := hx
  obtain ⟨vb, rfl, bb, hB⟩ := hy
  have hse := strEq_dec ba bb
  refine cw_enter (fn := Tryz.f32) rfl Tryz.func32 rfl (by kernel_rfl) ?_
  rw [initT_cons, initT_cons, initT_nil]
  repeat refine wp_seq ?_
  refine wp_region (t' := ?t7) (ds' := ?d7) (up' := ?u7) (s' := ?s7) (by kernel_rfl) ?h7 ?k7
  case h7 =>
    simp only [runOps_cons, ops_nil, opThen_true, nxThen_val, wantedV_none, opDo, eval_tmp, eval_bool, get_putN, Nat.reduceEqDiff, reduceIte, nxVal_some, doBox_agg, Nat.zero_add]
    exact rfl
  case k7 =>
  have hm := ((Me.start (F := []) hw).alloc (B := .cells 82 false 1 [⟨0, 0, [.int .i64 x.kind, .str x.con, .int .i64 x.num, va, .int .i64 x.next]⟩]) (fun _ h => by cases h)).alloc (B := .cells 82 false 1 [⟨0, 0, [.int .i64 y.kind, .str y.con, .int .i64 y.num, vb, .int .i64 y.next]⟩]) (fun _ h => by cases h)
  generalize hs1 : S.alloc (S.alloc s _) _ = s1 at hm ⊢
  generalize hf1 : S.next (S.alloc s _) = f1 at hm ⊢
  generalize hf0 : S.next s = f0 at hm ⊢
  have k1' := hK1 _ _ hm.fw k1
  have k2' := hK2 _ _ hm.fw k2
  have ga := hm.at 1 rfl
  have gb := hm.at 0 rfl
  obtain ⟨_, s2, hcall, rfl, hf2⟩ := sameRefs K1 K2 hK1 hK2 _ _ va vb hA hB s1 hm.wf k1' k2'
  have hcall := ca_rec hcall
  repeat refine wp_seq ?_
  by_cases c0 : x.kind = y.kind
  · have p0 : (x.kind == y.kind) = true := by simp [c0]
    by_cases c1 : x.con = y.con
    · have p1 : decide (x.con = y.con) = true := by simp [c1]
      by_cases c2 : x.num = y.num
      · have p2 : (x.num == y.num) = true := by simp [c2]
        by_cases c3 : x.next = y.next
        · have p3 : (x.next == y.next) = true := by simp [c3]
          refine wp_region (t' := ?t8) (ds' := ?d8) (up' := ?u8) (s' := ?s8) (by kernel_rfl) ?h8 ?k8
          case h8 =>
            simp only [doLoad_ptr, runOps_cons, ops_nil, opThen_true, nxThen_val, nxThen_enter, outThen_ret, wantedV_none, wantedV_some, guardV_some, guardB_bool, opDo, eval_tmp, eval_func, get_putN, Nat.reduceEqDiff, reduceIte, nxVal_some, callTo, callV, doPick, bTT, List.nil_append, List.append_nil, Nat.zero_add, Nat.add_zero, evals, evP, List.getElem?_toArray, List.getElem?_cons_zero, List.getElem?_cons_succ, Option.bind, doBin, guardOk, isEq, cond_true, cond_false, binOpV, isShift, sameKind, decide_true, intOp, Option.map, fa82_0, fa82_1, fa82_2, fa82_3, fa82_4, lv3, lv9, lv73, ld1 ga, ld1 gb, strOp, hse, p0, p1, p2, p3, cf31, hcall]
            exact rfl
          case k8 =>
          repeat refine wp_seq ?_
          exact wp_ret1 (.bool (eqAll Rf.eqb x.refs y.refs)) 4 rfl (by simp only [get_putN, Nat.reduceEqDiff, reduceIte]) ⟨by simp [Cl.eqb, c0, c1, c2, c3], hm.fw.trans hf2⟩
        · have p3 : (x.next == y.next) = false := by simp [c3]
          refine wp_region (t' := ?t9) (ds' := ?d9) (up' := ?u9) (s' := ?s9) (by kernel_rfl) ?h9 ?k9
          case h9 =>
            simp only [doLoad_ptr, runOps_cons, ops_nil, opThen_true, opThen_false, nxThen_val, wantedV_none, wantedV_some, guardV_some, guardB_bool, opDo, eval_tmp, eval_bool, get_putN, Nat.reduceEqDiff, reduceIte, nxVal_some, doPick, bTT, bFT, Nat.zero_add, Nat.add_zero, evP, List.getElem?_toArray, List.getElem?_cons_zero, List.getElem?_cons_succ, Option.bind, doBin, guardOk, isEq, cond_true, cond_false, binOpV, isShift, sameKind, decide_true, intOp, Option.map, fa82_0, fa82_1, fa82_2, fa82_4, lv3, lv9, ld1 ga, ld1 gb, strOp, hse, p0, p1, p2, p3]
            exact rfl
          case k9 =>
          repeat refine wp_seq ?_
          exact wp_ret1 (.bool false) 4 rfl (by simp only [get_putN, Nat.reduceEqDiff, reduceIte]) ⟨by simp [Cl.eqb, c3], hm.fw⟩
      · have p2 : (x.num == y.num) = false := by simp [c2]
        refine wp_region (t' := ?t10) (ds' := ?d10) (up' := ?u10) (s' := ?s10) (by kernel_rfl) ?h10 ?k10
        case h10 =>
          simp only [doLoad_ptr, runOps_cons, ops_nil, opThen_true, opThen_false, nxThen_val, wantedV_none, wantedV_some, guardV_some, guardB_bool, opDo, eval_tmp, eval_bool, get_putN, Nat.reduceEqDiff, reduceIte, nxVal_some, doPick, bTT, bFT, Nat.zero_add, Nat.add_zero, evP, List.getElem?_toArray, List.getElem?_cons_zero, List.getElem?_cons_succ, Option.bind, doBin, guardOk, isEq, cond_true, cond_false, binOpV, isShift, sameKind, decide_true, intOp, Option.map, fa82_0, fa82_1, fa82_2, lv3, lv9, ld1 ga, ld1 gb, strOp, hse, p0, p1, p2]
          exact rfl
        case k10 =>
        repeat refine wp_seq ?_
        exact wp_ret1 (.bool false) 4 rfl (by simp only [get_putN, Nat.reduceEqDiff, reduceIte]) ⟨by simp [Cl.eqb, c2], hm.fw⟩
    · have p1 : decide (x.con = y.con) = false := by simp [c1]
      refine wp_region (t' := ?t11) (ds' := ?d11) (up' := ?u11) (s' := ?s11) (by kernel_rfl) ?h11 ?k11
      case h11 =>
        simp only [doLoad_ptr, runOps_cons, ops_nil, opThen_true, opThen_false, nxThen_val, wantedV_none, wantedV_some, guardV_some, guardB_bool, opDo, eval_tmp, eval_bool, get_putN, Nat.reduceEqDiff, reduceIte, nxVal_some, doPick, bTT, bFT, Nat.zero_add, Nat.add_zero, evP, List.getElem?_toArray, List.getElem?_cons_zero, List.getElem?_cons_succ, Option.bind, doBin, guardOk, isEq, cond_true, cond_false, binOpV, isShift, sameKind, decide_true, intOp, Option.map, fa82_0, fa82_1, lv3, lv9, ld1 ga, ld1 gb, strOp, hse, p0, p1]
        exact rfl
      case k11 =>
      repeat refine wp_seq ?_
      exact wp_ret1 (.bool false) 4 rfl (by simp only [get_putN, Nat.reduceEqDiff, reduceIte]) ⟨by simp [Cl.eqb, c1], hm.fw⟩
  · have p0 : (x.kind == y.kind) = false := by simp [c0]
    refine wp_region (t' := ?t12) (ds' := ?d12) (up' := ?u12) (s' := ?s12) (by kernel_rfl) ?h12 ?k12
    case h12 =>
      simp only [doLoad_ptr, runOps_cons, ops_nil, opThen_true, opThen_false, nxThen_val, wantedV_none, wantedV_some, guardV_some, guardB_bool, opDo, eval_tmp, eval_bool, get_putN, Nat.reduceEqDiff, reduceIte, nxVal_some, doPick, bFT, Nat.add_zero, evP, List.getElem?_toArray, List.getElem?_cons_zero, List.getElem?_cons_succ, Option.bind, doBin, guardOk, isEq, cond_true, cond_false, binOpV, isShift, sameKind, decide_true, intOp, fa82_0, lv3, ld1 ga, ld1 gb, p0]
      exact rfl
    case k12 =>
    repeat refine wp_seq ?_
    exact wp_ret1 (.bool false) 4 rfl (by simp only [get_putN, Nat.reduceEqDiff, reduceIte]) ⟨by simp [Cl.eqb, c0], hm.fw⟩
theorem cf21 (args : List V) (s : S) : callF envL 21 args s = some (.enter 21 args s) := by kernel_rfl
set_option maxRecDepth 10000 in
theorem sameFrame (K1 K2 : S → Prop) (hK1 : Stay K1) (hK2 : Stay K2) (x y : Frm) (l1 l2 : List V) (hx : RdFrm K1 x l1) (hy : RdFrm K2 y l2) (s : S) (hw : WF s) (k1 : K1 s) (k2 : K2 s) :
    Cw envL 21 [.agg l1, .agg l2] s fun v s' => v = .bool (Frm.eqb x y) ∧ Fw [] s s' := by
  obtain ⟨va, rfl, hA⟩ := hx
  obtain ⟨vb, rfl, hB⟩ := hy
  refine cw_enter (fn := Tryz.f21) rfl Tryz.func21 rfl (by kernel_rfl) ?_
  rw [initT_cons, initT_cons, initT_nil]
  repeat refine wp_seq ?_
  refine wp_region (t' := ?t13) (ds' := ?d13) (up' := ?u13) (s' := ?s13) (by kernel_rfl) ?h13 ?k13
  case h13 =>
    simp only [runOps_cons, ops_nil, opThen_true, nxThen_val, wantedV_none, opDo, eval_tmp, eval_bool, get_putN, Nat.reduceEqDiff, reduceIte, nxVal_some, doBox_agg, Nat.zero_add]
    exact rfl
  case k13 =>
  have hm := ((Me.start (F := []) hw).alloc (B := .cells 75 false 1 [⟨0, 0, [.int .i64 x.expr, .int .i64 x.env, va]⟩]) (fun _ h => by cases h)).alloc (B := .cells 75 false 1 [⟨0, 0, [.int .i64 y.expr, .int .i64 y.env, vb]⟩]) (fun _ h => by cases h)
  generalize hs1 : S.alloc (S.alloc s _) _ = s1 at hm ⊢
  generalize hf1 : S.next (S.alloc s _) = f1 at hm ⊢
  generalize hf0 : S.next s = f0 at hm ⊢
  have k1' := hK1 _ _ hm.fw k1
  have k2' := hK2 _ _ hm.fw k2
  have ga := hm.at 1 rfl
  have gb := hm.at 0 rfl
  obtain ⟨_, s2, hcall, rfl, hf2⟩ := eqRefs K1 K2 hK1 hK2 _ _ va vb hA hB s1 hm.wf k1' k2'
  have hcall := ca_rec hcall
  repeat refine wp_seq ?_
  by_cases c0 : x.expr = y.expr
  · have p0 : (x.expr == y.expr) = true := by simp [c0]
    by_cases c1 : x.env = y.env
    · have p1 : (x.env == y.env) = true := by simp [c1]
      refine wp_region (t' := ?t14) (ds' := ?d14) (up' := ?u14) (s' := ?s14) (by kernel_rfl) ?h14 ?k14
      case h14 =>
        simp only [doLoad_ptr, runOps_cons, ops_nil, opThen_true, nxThen_val, nxThen_enter, outThen_ret, wantedV_none, wantedV_some, guardV_some, guardB_bool, opDo, eval_tmp, eval_func, get_putN, Nat.reduceEqDiff, reduceIte, nxVal_some, callTo, callV, doPick, bTT, List.nil_append, List.append_nil, Nat.zero_add, Nat.add_zero, evals, evP, List.getElem?_toArray, List.getElem?_cons_zero, List.getElem?_cons_succ, Option.bind, doBin, guardOk, isEq, cond_true, cond_false, binOpV, isShift, sameKind, decide_true, intOp, fa75_0, fa75_1, fa75_2, lv3, lv73, ld1 ga, ld1 gb, p0, p1, cf22, hcall]
        exact rfl
      case k14 =>
      repeat refine wp_seq ?_
      exact wp_ret1 (.bool (eqAll Rf.eqb x.done y.done)) 4 rfl (by simp only [get_putN, Nat.reduceEqDiff, reduceIte]) ⟨by simp [Frm.eqb, c0, c1], hm.fw.trans hf2⟩
    · have p1 : (x.env == y.env) = false := by simp [c1]
      refine wp_region (t' := ?t15) (ds' := ?d15) (up' := ?u15) (s' := ?s15) (by kernel_rfl) ?h15 ?k15
      case h15 =>
        simp only [doLoad_ptr, runOps_cons, ops_nil, opThen_true, opThen_false, nxThen_val, wantedV_none, wantedV_some, guardV_some, guardB_bool, opDo, eval_tmp, eval_bool, get_putN, Nat.reduceEqDiff, reduceIte, nxVal_some, doPick, bTT, bFT, Nat.zero_add, Nat.add_zero, evP, List.getElem?_toArray, List.getElem?_cons_zero, List.getElem?_cons_succ, Option.bind, doBin, guardOk, isEq, cond_true, cond_false, binOpV, isShift, sameKind, decide_true, intOp, fa75_0, fa75_1, lv3, ld1 ga, ld1 gb, p0, p1]
        exact rfl
      case k15 =>
      repeat refine wp_seq ?_
      exact wp_ret1 (.bool false) 4 rfl (by simp only [get_putN, Nat.reduceEqDiff, reduceIte]) ⟨by simp [Frm.eqb, c1], hm.fw⟩
  · have p0 : (x.expr == y.expr) = false := by simp [c0]
    refine wp_region (t' := ?t16) (ds' := ?d16) (up' := ?u16) (s' := ?s16) (by kernel_rfl) ?h16 ?k16
    case h16 =>
      simp only [doLoad_ptr, runOps_cons, ops_nil, opThen_true, opThen_false, nxThen_val, wantedV_none, wantedV_some, guardV_some, guardB_bool, opDo, eval_tmp, eval_bool, get_putN, Nat.reduceEqDiff, reduceIte, nxVal_some, doPick, bFT, Nat.add_zero, evP, List.getElem?_toArray, List.getElem?_cons_zero, List.getElem?_cons_succ, Option.bind, doBin, guardOk, isEq, cond_true, cond_false, binOpV, isShift, sameKind, decide_true, intOp, fa75_0, lv3, ld1 ga, ld1 gb, p0]
      exact rfl
    case k16 =>
    repeat refine wp_seq ?_
    exact wp_ret1 (.bool false) 4 rfl (by simp only [get_putN, Nat.reduceEqDiff, reduceIte]) ⟨by simp [Frm.eqb, c0], hm.fw⟩
theorem cf24 (args : List V) (s : S) : callF envL 24 args s = some (.enter 24 args s) := by kernel_rfl
set_option maxRecDepth 10000 in
theorem sameValue (K1 K2 : S → Prop) (hK1 : Stay K1) (hK2 : Stay K2) : ∀ (n : Nat) (x y : Vl) (l1 l2 : List V) (n2 : Nat), RdVl K1 n x l1 → RdVl K2 n2 y l2 → ∀ s, WF s → K1 s → K2 s →
    Cw envL 24 [.agg l1, .agg l2] s fun v s' => v = .bool (x.eqb y) ∧ Fw [] s s' := by
  intro n
  induction n with
  | zero => intro x y l1 l2 n2 h; cases h
  | succ n ih =>
  intro x y l1 l2 n2 hx hy s hw k1 k2
  cases n2 with
  | zero => cases hy
  | succ n2 =>
  obtain ⟨ca, na, xs⟩ := x
  obtain ⟨cb, nb, ys⟩ := y
  obtain ⟨va, rfl, hba, hA⟩ := hx
  obtain ⟨vb, rfl, hbb, hB⟩ := hy
  have hse := strEq_dec hba hbb
  refine cw_enter (fn := Tryz.f24) rfl Tryz.func24 rfl (by kernel_rfl) ?_
  rw [initT_cons, initT_cons, initT_nil]
  repeat refine wp_seq ?_
  refine wp_region (t' := ?t17) (ds' := ?d17) (up' := ?u17) (s' := ?s17) (by kernel_rfl) ?h17 ?k17
  case h17 =>
    simp only [runOps_cons, ops_nil, opThen_true, nxThen_val, wantedV_none, opDo, eval_tmp, eval_bool, get_putN, Nat.reduceEqDiff, reduceIte, nxVal_some, doBox_agg, Nat.zero_add]
    exact rfl
  case k17 =>
  have hm := ((Me.start (F := []) hw).alloc (B := .cells 33 false 1 [⟨0, 0, [.str ca, .int .i64 na, va]⟩]) (fun _ h => by cases h)).alloc (B := .cells 33 false 1 [⟨0, 0, [.str cb, .int .i64 nb, vb]⟩]) (fun _ h => by cases h)
  generalize hs1 : S.alloc (S.alloc s _) _ = s1 at hm ⊢
  generalize hf1 : S.next (S.alloc s _) = f1 at hm ⊢
  generalize hf0 : S.next s = f0 at hm ⊢
  have k1' := hK1 _ _ hm.fw k1
  have k2' := hK2 _ _ hm.fw k2
  have ga := hm.at 1 rfl
  have gb := hm.at 0 rfl
  obtain ⟨_, s2, hcall, rfl, hf2⟩ := eqValues Vl.eqb (RdVl K1 n) (RdVl K2 n2) 24 cf24 K1 K2 hK1 hK2 xs ys (fun x y lx ly s _ h1 h2 hw k1 k2 => ih x y lx ly n2 h1 h2 s hw k1 k2) va vb hA hB s1 hm.wf k1' k2'
  have hcall := ca_rec hcall
  repeat refine wp_seq ?_
  by_cases c0 : ca = cb
  · have p0 : decide (ca = cb) = true := by simp [c0]
    by_cases c1 : na = nb
    · have p1 : (na == nb) = true := by simp [c1]
      refine wp_region (t' := ?t18) (ds' := ?d18) (up' := ?u18) (s' := ?s18) (by kernel_rfl) ?h18 ?k18
      case h18 =>
        simp only [doLoad_ptr, runOps_cons, ops_nil, opThen_true, nxThen_val, nxThen_enter, outThen_ret, wantedV_none, wantedV_some, guardV_some, guardB_bool, opDo, eval_tmp, eval_func, get_putN, Nat.reduceEqDiff, reduceIte, nxVal_some, callTo, callV, doPick, bTT, List.nil_append, List.append_nil, Nat.zero_add, Nat.add_zero, evals, evP, List.getElem?_toArray, List.getElem?_cons_zero, List.getElem?_cons_succ, Option.bind, doBin, guardOk, isEq, cond_true, cond_false, binOpV, isShift, sameKind, decide_true, intOp, Option.map, fa33_0, fa33_1, fa33_2, lv3, lv9, lv31, ld1 ga, ld1 gb, strOp, hse, p0, p1, cf45, hcall]
        exact rfl
      case k18 =>
      repeat refine wp_seq ?_
      exact wp_ret1 (.bool (eqAll Vl.eqb xs ys)) 4 rfl (by simp only [get_putN, Nat.reduceEqDiff, reduceIte]) ⟨by simp [Vl.eqb, c0, c1, eqbL_eq], hm.fw.trans hf2⟩
    · have p1 : (na == nb) = false := by simp [c1]
      refine wp_region (t' := ?t19) (ds' := ?d19) (up' := ?u19) (s' := ?s19) (by kernel_rfl) ?h19 ?k19
      case h19 =>
        simp only [doLoad_ptr, runOps_cons, ops_nil, opThen_true, opThen_false, nxThen_val, wantedV_none, wantedV_some, guardV_some, guardB_bool, opDo, eval_tmp, eval_bool, get_putN, Nat.reduceEqDiff, reduceIte, nxVal_some, doPick, bTT, bFT, Nat.zero_add, Nat.add_zero, evP, List.getElem?_toArray, List.getElem?_cons_zero, List.getElem?_cons_succ, Option.bind, doBin, guardOk, isEq, cond_true, cond_false, binOpV, isShift, sameKind, decide_true, intOp, Option.map, fa33_0, fa33_1, lv3, lv9, ld1 ga, ld1 gb, strOp, hse, p0, p1]
        exact rfl
      case k19 =>
      repeat refine wp_seq ?_
      exact wp_ret1 (.bool false) 4 rfl (by simp only [get_putN, Nat.reduceEqDiff, reduceIte]) ⟨by simp [Vl.eqb, c1], hm.fw⟩
  · have p0 : decide (ca = cb) = false := by simp [c0]
    refine wp_region (t' := ?t20) (ds' := ?d20) (up' := ?u20) (s' := ?s20) (by kernel_rfl) ?h20 ?k20
    case h20 =>
      simp only [doLoad_ptr, runOps_cons, ops_nil, opThen_true, opThen_false, nxThen_val, wantedV_none, wantedV_some, guardV_some, guardB_bool, opDo, eval_tmp, eval_bool, get_putN, Nat.reduceEqDiff, reduceIte, nxVal_some, doPick, bFT, Nat.add_zero, evP, List.getElem?_toArray, List.getElem?_cons_zero, List.getElem?_cons_succ, Option.bind, doBin, guardOk, isEq, cond_true, cond_false, binOpV, Option.map, fa33_0, lv9, ld1 ga, ld1 gb, strOp, hse, p0]
      exact rfl
    case k20 =>
    repeat refine wp_seq ?_
    exact wp_ret1 (.bool false) 4 rfl (by simp only [get_putN, Nat.reduceEqDiff, reduceIte]) ⟨by simp [Vl.eqb, c0], hm.fw⟩
theorem cf23 (args : List V) (s : S) : callF envL 23 args s = some (.enter 23 args s) := by kernel_rfl
set_option maxRecDepth 10000 in
theorem sameNamed (K1 K2 : S → Prop) (hK1 : Stay K1) (hK2 : Stay K2) (n n2 : Nat) (x y : Nv) (l1 l2 : List V) (hx : RdNv K1 n x l1) (hy : RdNv K2 n2 y l2) (s : S) (hw : WF s) (k1 : K1 s) (k2 : K2 s) :
    Cw envL 23 [.agg l1, .agg l2] s fun v s' => v = .bool (Nv.eqb x y) ∧ Fw [] s s' := by
  obtain ⟨la, rfl, ba, ea, hA⟩ := hx
  obtain ⟨lb, rfl, bb, eb, hB⟩ := hy
  have hse := strEq_dec ba bb
  refine cw_enter (fn := Tryz.f23) rfl Tryz.func23 rfl (by kernel_rfl) ?_
  rw [initT_cons, initT_cons, initT_nil]
  repeat refine wp_seq ?_
  refine wp_region (t' := ?t21) (ds' := ?d21) (up' := ?u21) (s' := ?s21) (by kernel_rfl) ?h21 ?k21
  case h21 =>
    simp only [runOps_cons, ops_nil, opThen_true, nxThen_val, wantedV_none, opDo, eval_tmp, eval_bool, get_putN, Nat.reduceEqDiff, reduceIte, nxVal_some, doBox_agg, Nat.zero_add]
    exact rfl
  case k21 =>
  have hm := ((Me.start (F := []) hw).alloc (B := .cells 62 false 1 [⟨0, 0, (.str x.name :: la)⟩]) (fun _ h => by cases h)).alloc (B := .cells 62 false 1 [⟨0, 0, (.str y.name :: lb)⟩]) (fun _ h => by cases h)
  generalize hs1 : S.alloc (S.alloc s _) _ = s1 at hm ⊢
  generalize hf1 : S.next (S.alloc s _) = f1 at hm ⊢
  generalize hf0 : S.next s = f0 at hm ⊢
  have k1' := hK1 _ _ hm.fw k1
  have k2' := hK2 _ _ hm.fw k2
  have ga := hm.at 1 rfl
  have gb := hm.at 0 rfl
  obtain ⟨_, s2, hcall, rfl, hf2⟩ := sameValue K1 K2 hK1 hK2 _ _ _ la lb _ hA hB s1 hm.wf k1' k2'
  have hcall := ca_rec hcall
  repeat refine wp_seq ?_
  by_cases c0 : x.name = y.name
  · have p0 : decide (x.name = y.name) = true := by simp [c0]
    refine wp_region (t' := ?t22) (ds' := ?d22) (up' := ?u22) (s' := ?s22) (by kernel_rfl) ?h22 ?k22
    case h22 =>
      simp only [doLoad_ptr, runOps_cons, ops_nil, opThen_true, nxThen_val, nxThen_enter, outThen_ret, wantedV_none, wantedV_some, guardV_some, guardB_bool, opDo, eval_tmp, eval_func, get_putN, Nat.reduceEqDiff, reduceIte, nxVal_some, callTo, callV, doPick, bTT, List.nil_append, List.append_nil, Nat.zero_add, Nat.add_zero, evals, evP, List.getElem?_toArray, List.getElem?_cons_zero, List.getElem?_cons_succ, Option.bind, doBin, guardOk, isEq, cond_true, binOpV, Option.map, fa62_0, fa62_1, lv9, lv33, ld1 ga, ld1 gb, ldn ga, ldn gb, List.drop_succ_cons, List.drop_zero, takeExact_all la _ ea, takeExact_all lb _ eb, strOp, hse, p0, cf24, hcall]
      exact rfl
    case k22 =>
    repeat refine wp_seq ?_
    exact wp_ret1 (.bool (Vl.eqb x.value y.value)) 4 rfl (by simp only [get_putN, Nat.reduceEqDiff, reduceIte]) ⟨by simp [Nv.eqb, c0], hm.fw.trans hf2⟩
  · have p0 : decide (x.name = y.name) = false := by simp [c0]
    refine wp_region (t' := ?t23) (ds' := ?d23) (up' := ?u23) (s' := ?s23) (by kernel_rfl) ?h23 ?k23
    case h23 =>
      simp only [doLoad_ptr, runOps_cons, ops_nil, opThen_true, opThen_false, nxThen_val, wantedV_none, wantedV_some, guardV_some, guardB_bool, opDo, eval_tmp, eval_bool, get_putN, Nat.reduceEqDiff, reduceIte, nxVal_some, doPick, bFT, Nat.add_zero, evP, List.getElem?_toArray, List.getElem?_cons_zero, List.getElem?_cons_succ, Option.bind, doBin, guardOk, isEq, cond_true, cond_false, binOpV, Option.map, fa62_0, lv9, ld1 ga, ld1 gb, strOp, hse, p0]
      exact rfl
    case k23 =>
    repeat refine wp_seq ?_
    exact wp_ret1 (.bool false) 4 rfl (by simp only [get_putN, Nat.reduceEqDiff, reduceIte]) ⟨by simp [Nv.eqb, c0], hm.fw⟩
end Go.AI.Sv
