/- The program's comparison of states. No conditions. -/
import Derived.Test.YthedakdjiljmhaaGreatDoorSvEq
set_option linter.unusedVariables false
set_option linter.unusedSimpArgs false
noncomputable section
namespace Go.AI.Sv
open Go.Proofs

theorem cf30 (args : List V) (s : S) : callF envL 30 args s = some (.enter 30 args s) := by kernel_rfl
set_option maxRecDepth 10000 in
theorem sameOutputs (K1 K2 : S → Prop) (hK1 : Stay K1) (hK2 : Stay K2) (n1 n2 : Nat) (xs ys : List Nv)
    (va vb : V) (hA : Sl K1 27 4 va xs (RdNv K1 n1)) (hB : Sl K2 27 4 vb ys (RdNv K2 n2)) (s : S) (hw : WF s) (k1 : K1 s) (k2 : K2 s) :
    Cw envL 30 [va, vb] s fun v s' => v = .bool (eqAll Nv.eqb xs ys) ∧ Fw [] s s' := by
  refine cw_enter (fn := Tryz.f30) rfl Tryz.func30 rfl (by kernel_rfl) ?_
  rw [initT_cons, initT_cons, initT_nil]
  repeat refine wp_seq ?_
  refine wp_region (t' := ?t1) (ds' := ?d1) (up' := ?u1) (s' := ?s1) (by kernel_rfl) ?h1 ?k1
  case h1 =>
    simp only [runOps_cons, ops_nil, opThen_true, nxThen_val, wantedV_none, opDo, eval_bool, nxVal_some, Nat.zero_add]
    exact rfl
  case k1 =>
  repeat refine wp_seq ?_
  refine wp_region (t' := ?t2) (ds' := ?d2) (up' := ?u2) (s' := ?s2) (by kernel_rfl) ?h2 ?k2
  case h2 =>
    simp only [runOps_cons, ops_nil, opThen_true, nxThen_val, wantedV_none, opDo, eval_tmp, get_putN, Nat.reduceEqDiff, reduceIte, nxVal_some, callTo, callB, evals, evP, List.getElem?_toArray, List.getElem?_cons_zero, doBin, guardOk, isEq, cond_true, cond_false, binOpV, isShift, sameKind, decide_true, intOp, hA.len, hB.len]
    exact rfl
  case k2 =>
  refine wp_cond ((xs.length : Int) != (ys.length : Int)) (by simp only [eval_tmp, get_putN, Nat.reduceEqDiff, reduceIte]) (fun hq => ?_) (fun hq => ?_)
  · repeat refine wp_seq ?_
    refine wp_region (t' := ?t3) (ds' := ?d3) (up' := ?u3) (s' := ?s3) (by kernel_rfl) ?h3 ?k3
    case h3 =>
      simp only [runOps_cons, ops_nil, opThen_true, nxThen_val, wantedV_none, opDo, eval_bool, nxVal_some]
      exact rfl
    case k3 =>
    refine wp_ret1 (.bool false) 4 rfl (by simp only [get_putN, Nat.reduceEqDiff, reduceIte]) ⟨?_, Fw.refl _ _⟩
    rw [eqAll_len]
    intro h; rw [h] at hq; simp at hq
  have hl : xs.length = ys.length := by have := (bne_eq_false_iff_eq.1 hq); omega
  have hla := hA.bnd
  refine wp_skip ?_
  repeat refine wp_seq ?_
  refine wp_region (t' := ?t4) (ds' := ?d4) (up' := ?u4) (s' := ?s4) (by kernel_rfl) ?h4 ?k4
  case h4 =>
    simp only [runOps_cons, ops_nil, opThen_true, nxThen_val, wantedV_none, opDo, eval_int, nxVal_some]
    exact rfl
  case k4 =>
  obtain ⟨pa, hpa⟩ := hA.el
  obtain ⟨pb, hpb⟩ := hB.el
  refine wp_block (wp_loop_inv (fun j t s' => ∃ k : Nat, j = xs.length - k ∧ k ≤ xs.length ∧ Fw [] s s' ∧ t.get (pth 0) = some va ∧ t.get (pth 1) = some vb ∧
      t.get (pth 5) = some (.int .i64 k) ∧ ∀ (i : Nat) (x y : Nv), i < k → xs[i]? = some x → ys[i]? = some y → Nv.eqb x y = true) ?_ (xs.length - 0) _ _ ⟨0, rfl, Nat.zero_le _, Fw.refl _ _, ?_, ?_, ?_, by intro i _ _ hi; omega⟩)
  rotate_left
  · simp only [get_putN, Nat.reduceEqDiff, reduceIte]
  · simp only [get_putN, Nat.reduceEqDiff, reduceIte]
  · simp only [get_putN, Nat.reduceEqDiff, reduceIte]; rfl
  rintro j t s2 ⟨k, hj, hk, hf, h0, h1, h5, hT⟩ hnext
  repeat refine wp_seq ?_
  refine wp_region (t' := ?t5) (ds' := ?d5) (up' := ?u5) (s' := ?s5) (by kernel_rfl) ?h5 ?k5
  case h5 =>
    simp only [runOps_cons, ops_nil, opThen_true, nxThen_val, wantedV_none, opDo, eval_tmp, get_putN, Nat.reduceEqDiff, reduceIte, nxVal_some, callTo, callB, evals, evP, List.getElem?_toArray, List.getElem?_cons_zero, doBin, guardOk, isEq, cond_true, cond_false, binOpV, isShift, sameKind, decide_true, intOp, h0, h5, hA.len]
    exact rfl
  case k5 =>
  repeat refine wp_seq ?_
  refine wp_cond (decide ((k : Int) < (xs.length : Int))) (by simp only [eval_tmp, get_putN, Nat.reduceEqDiff, reduceIte]) (fun hq => ?_) (fun hq => ?_)
  · have hlt : k < xs.length := by have := of_decide_eq_true hq; omega
    obtain ⟨ia, l1, e1, el1, o1, r1⟩ := hpa k _ (List.getElem?_eq_getElem hlt)
    obtain ⟨ib, l2, e2, el2, o2, r2⟩ := hpb k _ (List.getElem?_eq_getElem (show k < ys.length by omega))
    have k1' := hK1 _ _ hf k1
    have k2' := hK2 _ _ hf k2
    have e1 := e1 _ k1'
    have e2 := e2 _ k2'
    obtain ⟨la, rfl, ba, ea, ra⟩ := r1
    obtain ⟨lb, rfl, bb, eb, rb⟩ := r2
    have hse := strEq_dec ba bb
    have ta : (List.drop 1 (V.str (xs[k]).name :: la)).take 3 = la := by rw [List.drop_succ_cons, List.drop_zero, ← ea, List.take_length]
    have tb : (List.drop 1 (V.str (ys[k]).name :: lb)).take 3 = lb := by rw [List.drop_succ_cons, List.drop_zero, ← eb, List.take_length]
    have ca := cells_of_cells e1 1 3 (by decide)
    have cb := cells_of_cells e2 1 3 (by decide)
    rw [ta] at ca
    rw [tb] at cb
    obtain ⟨_, s3, hcall, rfl, hf3⟩ := alike K1 K2 hK1 hK2 _ _ _ la lb _ ra rb s2 (hf.wf hw) k1' k2'
    have hcall := ca_rec hcall
    refine wp_skip ?_
    repeat refine wp_seq ?_
    refine wp_block ?_
    repeat refine wp_seq ?_
    by_cases c0 : (xs[k]).name = (ys[k]).name
    · have p0 : decide ((xs[k]).name = (ys[k]).name) = true := by simp [c0]
      refine wp_sch (t' := ?t6) (ds' := ?d6) (up' := ?u6) (s' := ?s6) [(some 1, 0), (some 1, 1), (some 1, 2), (some 1, 3), (some 1, 4), (some 1, 5), (some 1, 6), (some 1, 7), (some 1, 8), (some 1, 9), (some 1, 10), (some 1, 11), (some 1, 12), (some 1, 13), (some 1, 14), (some 1, 15), (some 1, 16), (some 1, 17), (some 1, 18), (some 1, 19), (some 1, 20), (some 1, 21), (none, 22), (some 1, 23), (some 1, 24)] (by kernel_rfl) (by kernel_rfl) ?h6 ?k6
      case h6 =>
        simp only [runSch_nil, runSch_f, runSch_e, runSchK_eq, runSchE_eq, schFloat_some, schThen_some, schEff_some, schEThen_some, schNext_true, floatStep1_true, effStep_true, effDo_enter, effEnd_ret, floatDo1_0, floatDo1_1, valOnly_val, readBoth_some, readTo_val, readAll_one, opKind, List.take_succ_cons, List.take_zero, List.take_nil, doLoad_ptr, natOf_cast, wantedV_none, wantedV_some, guardV_some, guardB_bool, opDo, eval_tmp, eval_func, get_putN, Nat.reduceEqDiff, reduceIte, nxVal_some, callTo, callV, doPick, doUn, unOpV, bFF, Bool.not_true, List.nil_append, List.append_nil, evals, evP, List.getElem?_toArray, List.getElem?_cons_zero, List.getElem?_cons_succ, Option.bind, doBin, guardOk, isEq, cond_true, cond_false, binOpV, Option.map, h0, h1, h5, ia, ib, fb62_0, fb62_1, lv9, lv33, cell_of_cells e1 0 (by decide), cell_of_cells e2 0 (by decide), ca, cb, strOp, hse, p0, cf7, hcall, hf3.ble]
        exact rfl
      case k6 =>
      have hb : Nv.eqb xs[k] ys[k] = Vl.eqb (xs[k]).value (ys[k]).value := by simp [Nv.eqb, c0]
      refine wp_cond (!(Vl.eqb (xs[k]).value (ys[k]).value)) (by simp only [eval_tmp, get_putN, Nat.reduceEqDiff, reduceIte]) (fun hd => ?_) (fun hd => ?_)
      · repeat refine wp_seq ?_
        refine wp_region (t' := ?t7) (ds' := ?d7) (up' := ?u7) (s' := ?s7) (by kernel_rfl) ?h7 ?k7
        case h7 =>
          simp only [runOps_cons, ops_nil, opThen_true, nxThen_val, wantedV_none, opDo, eval_bool, nxVal_some]
          exact rfl
        case k7 =>
        refine wp_ret1 (.bool false) 4 rfl (by simp only [get_putN, Nat.reduceEqDiff, reduceIte]) ⟨?_, hf.trans hf3⟩
        have he : Nv.eqb xs[k] ys[k] = false := by rw [hb]; simpa using hd
        rw [eqAll_not (List.getElem?_eq_getElem hlt) (List.getElem?_eq_getElem (show k < ys.length by omega)) he]
      · have he : Nv.eqb xs[k] ys[k] = true := by rw [hb]; simpa using hd
        have hw1 : IntKind.wrap .i64 ((k : Int) + 1) = ((k + 1 : Nat) : Int) := by
          have := wrap_in ((k : Int) + 1) ⟨by omega, by omega⟩; omega
        refine wp_skip (wp_inBlock ?_)
        refine wp_region (t' := ?t8) (ds' := ?d8) (up' := ?u8) (s' := ?s8) (by kernel_rfl) ?h8 ?k8
        case h8 =>
          simp only [runOps_cons, ops_nil, opThen_true, nxThen_val, wantedV_none, opDo, eval_tmp, eval_int, get_putN, Nat.reduceEqDiff, reduceIte, nxVal_some, doBin, guardOk, isEq, cond_true, cond_false, binOpV, isShift, sameKind, decide_true, intOp, h5, mkInt_eq, hw1]
          exact rfl
        case k8 =>
        refine hnext (xs.length - (k + 1)) _ _ (by omega) ⟨k + 1, rfl, hlt, hf.trans hf3, ?_, ?_, ?_, ?_⟩
        · simp only [get_putN, Nat.reduceEqDiff, reduceIte, h0]
        · simp only [get_putN, Nat.reduceEqDiff, reduceIte, h1]
        · simp only [get_putN, Nat.reduceEqDiff, reduceIte]
        · intro i u v hi hu hv
          by_cases hik : i = k
          · subst hik
            rw [List.getElem?_eq_getElem hlt] at hu
            rw [List.getElem?_eq_getElem (show i < ys.length by omega)] at hv
            cases hu; cases hv; exact he
          · exact hT i u v (by omega) hu hv
    · have p0 : decide ((xs[k]).name = (ys[k]).name) = false := by simp [c0]
      refine wp_sch (t' := ?t9) (ds' := ?d9) (up' := ?u9) (s' := ?s9) [(some 1, 0), (some 1, 1), (some 1, 2), (some 1, 3), (some 1, 4), (some 1, 5), (some 1, 6), (some 1, 7), (some 1, 8), (some 1, 9), (some 1, 10), (some 1, 11), (some 1, 12), (some 1, 13), (some 1, 14), (some 1, 15), (some 1, 16), (some 1, 17), (some 1, 18), (some 1, 19), (some 1, 20), (some 1, 21), (none, 22), (some 1, 23), (some 1, 24)] (by kernel_rfl) (by kernel_rfl) ?h9 ?k9
      case h9 =>
        simp only [runSch_nil, runSch_f, runSch_e, runSchK_eq, runSchE_eq, schFloat_some, schThen_some, schEff_some, schEThen_some, schNext_true, floatStep1_true, floatStep1_false, effStep_false, floatDo1_0, floatDo1_1, valOnly_val, readBoth_some, readTo_val, readAll_one, opKind, List.take_succ_cons, List.take_zero, List.take_nil, doLoad_ptr, natOf_cast, wantedV_none, wantedV_some, guardV_some, guardB_bool, opDo, eval_tmp, eval_bool, get_putN, Nat.reduceEqDiff, reduceIte, nxVal_some, doPick, bTF, Bool.not_false, evP, List.getElem?_toArray, List.getElem?_cons_zero, List.getElem?_cons_succ, Option.bind, doBin, guardOk, isEq, cond_true, binOpV, Option.map, h0, h1, h5, ia, ib, fb62_0, lv9, cell_of_cells e1 0 (by decide), cell_of_cells e2 0 (by decide), strOp, hse, p0, (Fw.refl [] s2).ble]
        exact rfl
      case k9 =>
      refine wp_cond true (by simp only [eval_tmp, get_putN, Nat.reduceEqDiff, reduceIte]) (fun _ => ?_) (fun h => by cases h)
      repeat refine wp_seq ?_
      refine wp_region (t' := ?t10) (ds' := ?d10) (up' := ?u10) (s' := ?s10) (by kernel_rfl) ?h10 ?k10
      case h10 =>
        simp only [runOps_cons, ops_nil, opThen_true, nxThen_val, wantedV_none, opDo, eval_bool, nxVal_some]
        exact rfl
      case k10 =>
      refine wp_ret1 (.bool false) 4 rfl (by simp only [get_putN, Nat.reduceEqDiff, reduceIte]) ⟨?_, hf⟩
      rw [eqAll_not (List.getElem?_eq_getElem hlt) (List.getElem?_eq_getElem (show k < ys.length by omega)) (by simp [Nv.eqb, c0])]
  · have hkn : k = xs.length := by have := of_decide_eq_false hq; omega
    refine wp_exit rfl ?_
    repeat refine wp_seq ?_
    refine wp_region (t' := ?t11) (ds' := ?d11) (up' := ?u11) (s' := ?s11) (by kernel_rfl) ?h11 ?k11
    case h11 =>
      simp only [runOps_cons, ops_nil, opThen_true, nxThen_val, wantedV_none, opDo, eval_bool, nxVal_some]
      exact rfl
    case k11 =>
    refine wp_ret1 (.bool true) 4 rfl (by simp only [get_putN, Nat.reduceEqDiff, reduceIte]) ⟨?_, hf⟩
    rw [eqAll_of hl fun i u v hu hv => hT i u v (by have := (List.getElem?_eq_some_iff.1 hu).1; omega) hu hv]
theorem cf8 (args : List V) (s : S) : callF envL 8 args s = some (.enter 8 args s) := by kernel_rfl
set_option maxRecDepth 10000 in
set_option maxHeartbeats 2000000 in
theorem sameP (K1 K2 : S → Prop) (hK1 : Stay K1) (hK2 : Stay K2) (n1 n2 : Nat) (x y : Mc) (l1 l2 : List V) (hx : RdMc K1 n1 x l1) (hy : RdMc K2 n2 y l2) (s : S) (hw : WF s) (k1 : K1 s) (k2 : K2 s) :
    Cw envL 8 [.agg l1, .agg l2] s fun v s' => v = .bool (Mc.eqb x y) ∧ Fw [] s s' := by
  obtain ⟨vf, vc, vt, vo, rfl, hF, hC, hT, hO⟩ := hx
  obtain ⟨wf, wc, wt, wo, rfl, gF, gC, gT, gO⟩ := hy
  refine cw_enter (fn := Tryz.f8) rfl Tryz.func8 rfl (by kernel_rfl) ?_
  rw [initT_cons, initT_cons, initT_nil]
  repeat refine wp_seq ?_
  refine wp_region (t' := ?t12) (ds' := ?d12) (up' := ?u12) (s' := ?s12) (by kernel_rfl) ?h12 ?k12
  case h12 =>
    simp only [runOps_cons, ops_nil, opThen_true, nxThen_val, wantedV_none, opDo, eval_tmp, eval_bool, get_putN, Nat.reduceEqDiff, reduceIte, nxVal_some, doBox_agg, Nat.zero_add]
    exact rfl
  case k12 =>
  have hm := ((Me.start (F := []) hw).alloc (B := .cells 29 false 1 [⟨0, 0, [.int .i64 x.mode, .int .i64 x.expr, .int .i64 x.env, .bool x.value.cell, .int .i64 x.value.num, vf, vc, vt, .int .i64 x.body, vo, .int .i64 x.steps]⟩]) (fun _ h => by cases h)).alloc (B := .cells 29 false 1 [⟨0, 0, [.int .i64 y.mode, .int .i64 y.expr, .int .i64 y.env, .bool y.value.cell, .int .i64 y.value.num, wf, wc, wt, .int .i64 y.body, wo, .int .i64 y.steps]⟩]) (fun _ h => by cases h)
  generalize hs1 : S.alloc (S.alloc s _) _ = s1 at hm ⊢
  generalize hf1 : S.next (S.alloc s _) = f1 at hm ⊢
  generalize hf0 : S.next s = f0 at hm ⊢
  have k1' := hK1 _ _ hm.fw k1
  have k2' := hK2 _ _ hm.fw k2
  have ga := hm.at 1 rfl
  have gb := hm.at 0 rfl
  repeat refine wp_seq ?_
  refine wp_region (t' := ?t13) (ds' := ?d13) (up' := ?u13) (s' := ?s13) (by kernel_rfl) ?h13 ?k13
  case h13 =>
    simp only [runOps_cons, ops_nil, opThen_true, nxThen_val, wantedV_none, opDo, eval_func, nxVal_some]
    exact rfl
  case k13 =>
  repeat refine wp_seq ?_
  refine wp_region (t' := ?t14) (ds' := ?d14) (up' := ?u14) (s' := ?s14) (by kernel_rfl) ?h14 ?k14
  case h14 =>
    simp only [runOps_cons, ops_nil, opThen_true, nxThen_val, wantedV_none, opDo, eval_func, nxVal_some]
    exact rfl
  case k14 =>
  repeat refine wp_seq ?_
  by_cases c0 : x.mode = y.mode
  · have p0 : (x.mode == y.mode) = true := by simp [c0]
    by_cases c1 : x.expr = y.expr
    · have p1 : (x.expr == y.expr) = true := by simp [c1]
      by_cases c2 : x.env = y.env
      · have p2 : (x.env == y.env) = true := by simp [c2]
        by_cases c3 : x.value = y.value
        · have p3 : Rf.eqb x.value y.value = true := by simp [Rf.eqb, c3]
          by_cases c4 : x.body = y.body
          · have p4 : (x.body == y.body) = true := by simp [c4]
            by_cases c5 : x.steps = y.steps
            · have p5 : (x.steps == y.steps) = true := by simp [c5]
              obtain ⟨_, s2, call1, rfl, hf2⟩ := eqFrames Frm.eqb (RdFrm K1) (RdFrm K2) 21 cf21 K1 K2 hK1 hK2 _ _ (fun x y lx ly s _ h1 h2 hw k1 k2 => sameFrame K1 K2 hK1 hK2 x y lx ly h1 h2 s hw k1 k2) vf wf hF gF s1 hm.wf k1' k2'
              have call1 := ca_rec call1
              have hm2 := hm.call hf2
              have ga2 := hm2.at 1 rfl
              have gb2 := hm2.at 0 rfl
              by_cases c6 : eqAll Frm.eqb x.frames y.frames = true
              · rw [c6] at call1
                obtain ⟨_, s3, call2, rfl, hf3⟩ := eqCells Cl.eqb (RdCl K1) (RdCl K2) 27 cf27 K1 K2 hK1 hK2 _ _ (fun x y lx ly s _ h1 h2 hw k1 k2 => sameCellP K1 K2 hK1 hK2 x y lx ly h1 h2 s hw k1 k2) vc wc hC gC s2 hm2.wf (hK1 _ _ hf2 k1') (hK2 _ _ hf2 k2')
                have call2 := ca_rec call2
                have hm3 := hm2.call hf3
                have ga3 := hm3.at 1 rfl
                have gb3 := hm3.at 0 rfl
                by_cases c7 : eqAll Cl.eqb x.cells y.cells = true
                · rw [c7] at call2
                  obtain ⟨_, s4, call3, rfl, hf4⟩ := eqTops K1 K2 hK1 hK2 _ _ vt wt hT gT s3 hm3.wf (hK1 _ _ hf3 (hK1 _ _ hf2 k1')) (hK2 _ _ hf3 (hK2 _ _ hf2 k2'))
                  have call3 := ca_rec call3
                  have hm4 := hm3.call hf4
                  have ga4 := hm4.at 1 rfl
                  have gb4 := hm4.at 0 rfl
                  by_cases c8 : eqAll Tp.eqb x.tops y.tops = true
                  · rw [c8] at call3
                    obtain ⟨_, s5, call4, rfl, hf5⟩ := eqOutputs Nv.eqb (RdNv K1 n1) (RdNv K2 n2) 23 cf23 K1 K2 hK1 hK2 _ _ (fun x y lx ly s _ h1 h2 hw k1 k2 => sameNamed K1 K2 hK1 hK2 n1 n2 x y lx ly h1 h2 s hw k1 k2) vo wo hO gO s4 hm4.wf (hK1 _ _ hf4 (hK1 _ _ hf3 (hK1 _ _ hf2 k1'))) (hK2 _ _ hf4 (hK2 _ _ hf3 (hK2 _ _ hf2 k2')))
                    have call4 := ca_rec call4
                    refine wp_region (t' := ?t15) (ds' := ?d15) (up' := ?u15) (s' := ?s15) (by kernel_rfl) ?h15 ?k15
                    case h15 =>
                      simp only [lapp_cons, lapp_nil, doLoad_ptr, runOps_cons, ops_nil, opThen_true, nxThen_val, nxThen_enter, outThen_ret, wantedV_none, wantedV_some, guardV_some, guardB_bool, opDo, eval_tmp, eval_func, get_putN, Nat.reduceEqDiff, reduceIte, nxVal_some, callTo, callV, doPick, bTT, Bool.not_false, List.nil_append, List.append_nil, Nat.zero_add, Nat.add_zero, evals, evP, List.getElem?_toArray, List.getElem?_cons_zero, List.getElem?_cons_succ, Option.bind, doBin, guardOk, isEq, cond_true, cond_false, binOpV, isShift, sameKind, decide_true, intOp, Option.map, fa29_0, fa29_1, fa29_2, fa29_3, fa29_4, fa29_5, fa29_6, fa29_7, fa29_8, fa29_9, lv3, lv23, lv24, lv25, lv26, lv27, ld1 ga, ld1 gb, ldn ga, ldn gb, List.drop_succ_cons, List.drop_zero, takeExact, guard23, eql23', p0, p1, p2, p3, p4, p5, cf25, cf26, cf28, cf29, call1, call2, call3, call4, ld1 ga2, ld1 gb2, ld1 ga3, ld1 gb3, ld1 ga4, ld1 gb4]
                      exact rfl
                    case k15 =>
                    repeat refine wp_seq ?_
                    exact wp_ret1 (.bool (eqAll Nv.eqb x.outputs y.outputs)) 4 rfl (by simp only [get_putN, Nat.reduceEqDiff, reduceIte]) ⟨by simp [Mc.eqb, Rf.eqb, c0, c1, c2, c3, c4, c5, c6, c7, c8], (hm4.call hf5).fw⟩
                  · have c8 : eqAll Tp.eqb x.tops y.tops = false := by simpa using c8
                    rw [c8] at call3
                    refine wp_region (t' := ?t16) (ds' := ?d16) (up' := ?u16) (s' := ?s16) (by kernel_rfl) ?h16 ?k16
                    case h16 =>
                      simp only [lapp_cons, lapp_nil, doLoad_ptr, runOps_cons, ops_nil, opThen_true, opThen_false, nxThen_val, nxThen_enter, outThen_ret, wantedV_none, wantedV_some, guardV_some, guardB_bool, opDo, eval_tmp, eval_bool, eval_func, get_putN, Nat.reduceEqDiff, reduceIte, nxVal_some, callTo, callV, doPick, bTT, bFT, Bool.not_false, List.nil_append, List.append_nil, Nat.zero_add, Nat.add_zero, evals, evP, List.getElem?_toArray, List.getElem?_cons_zero, List.getElem?_cons_succ, Option.bind, doBin, guardOk, isEq, cond_true, cond_false, binOpV, isShift, sameKind, decide_true, intOp, Option.map, fa29_0, fa29_1, fa29_2, fa29_3, fa29_4, fa29_5, fa29_6, fa29_7, fa29_9, lv3, lv23, lv24, lv25, lv26, ld1 ga, ld1 gb, ldn ga, ldn gb, List.drop_succ_cons, List.drop_zero, takeExact, guard23, eql23', p0, p1, p2, p3, p4, p5, cf25, cf26, cf28, call1, call2, call3, ld1 ga2, ld1 gb2, ld1 ga3, ld1 gb3]
                      exact rfl
                    case k16 =>
                    repeat refine wp_seq ?_
                    exact wp_ret1 (.bool false) 4 rfl (by simp only [get_putN, Nat.reduceEqDiff, reduceIte]) ⟨by simp [Mc.eqb, c8], hm4.fw⟩
                · have c7 : eqAll Cl.eqb x.cells y.cells = false := by simpa using c7
                  rw [c7] at call2
                  refine wp_region (t' := ?t17) (ds' := ?d17) (up' := ?u17) (s' := ?s17) (by kernel_rfl) ?h17 ?k17
                  case h17 =>
                    simp only [lapp_cons, lapp_nil, doLoad_ptr, runOps_cons, ops_nil, opThen_true, opThen_false, nxThen_val, nxThen_enter, outThen_ret, wantedV_none, wantedV_some, guardV_some, guardB_bool, opDo, eval_tmp, eval_bool, eval_func, get_putN, Nat.reduceEqDiff, reduceIte, nxVal_some, callTo, callV, doPick, bTT, bFT, Bool.not_false, List.nil_append, List.append_nil, Nat.zero_add, Nat.add_zero, evals, evP, List.getElem?_toArray, List.getElem?_cons_zero, List.getElem?_cons_succ, Option.bind, doBin, guardOk, isEq, cond_true, cond_false, binOpV, isShift, sameKind, decide_true, intOp, Option.map, fa29_0, fa29_1, fa29_2, fa29_3, fa29_4, fa29_5, fa29_7, fa29_9, lv3, lv23, lv24, lv25, ld1 ga, ld1 gb, ldn ga, ldn gb, List.drop_succ_cons, List.drop_zero, takeExact, guard23, eql23', p0, p1, p2, p3, p4, p5, cf25, cf26, call1, call2, ld1 ga2, ld1 gb2]
                    exact rfl
                  case k17 =>
                  repeat refine wp_seq ?_
                  exact wp_ret1 (.bool false) 4 rfl (by simp only [get_putN, Nat.reduceEqDiff, reduceIte]) ⟨by simp [Mc.eqb, c7], hm3.fw⟩
              · have c6 : eqAll Frm.eqb x.frames y.frames = false := by simpa using c6
                rw [c6] at call1
                refine wp_region (t' := ?t18) (ds' := ?d18) (up' := ?u18) (s' := ?s18) (by kernel_rfl) ?h18 ?k18
                case h18 =>
                  simp only [lapp_cons, lapp_nil, doLoad_ptr, runOps_cons, ops_nil, opThen_true, opThen_false, nxThen_val, nxThen_enter, outThen_ret, wantedV_none, wantedV_some, guardV_some, guardB_bool, opDo, eval_tmp, eval_bool, eval_func, get_putN, Nat.reduceEqDiff, reduceIte, nxVal_some, callTo, callV, doPick, bTT, bFT, Bool.not_false, List.nil_append, List.append_nil, Nat.zero_add, Nat.add_zero, evals, evP, List.getElem?_toArray, List.getElem?_cons_zero, List.getElem?_cons_succ, Option.bind, doBin, guardOk, isEq, cond_true, cond_false, binOpV, isShift, sameKind, decide_true, intOp, Option.map, fa29_0, fa29_1, fa29_2, fa29_3, fa29_4, fa29_7, fa29_9, lv3, lv23, lv24, ld1 ga, ld1 gb, ldn ga, ldn gb, List.drop_succ_cons, List.drop_zero, takeExact, guard23, eql23', p0, p1, p2, p3, p4, p5, cf25, call1]
                  exact rfl
                case k18 =>
                repeat refine wp_seq ?_
                exact wp_ret1 (.bool false) 4 rfl (by simp only [get_putN, Nat.reduceEqDiff, reduceIte]) ⟨by simp [Mc.eqb, c6], hm2.fw⟩
            · have p5 : (x.steps == y.steps) = false := by simp [c5]
              refine wp_region (t' := ?t19) (ds' := ?d19) (up' := ?u19) (s' := ?s19) (by kernel_rfl) ?h19 ?k19
              case h19 =>
                simp only [lapp_cons, lapp_nil, doLoad_ptr, runOps_cons, ops_nil, opThen_true, opThen_false, nxThen_val, wantedV_none, wantedV_some, guardV_some, guardB_bool, opDo, eval_tmp, eval_bool, get_putN, Nat.reduceEqDiff, reduceIte, nxVal_some, doPick, bTT, bFT, Bool.not_false, Nat.zero_add, Nat.add_zero, evP, List.getElem?_toArray, List.getElem?_cons_zero, List.getElem?_cons_succ, Option.bind, doBin, guardOk, isEq, cond_true, cond_false, binOpV, isShift, sameKind, decide_true, intOp, Option.map, fa29_0, fa29_1, fa29_2, fa29_3, fa29_7, fa29_9, lv3, lv23, ld1 ga, ld1 gb, ldn ga, ldn gb, List.drop_succ_cons, List.drop_zero, takeExact, guard23, eql23', p0, p1, p2, p3, p4, p5]
                exact rfl
              case k19 =>
              repeat refine wp_seq ?_
              exact wp_ret1 (.bool false) 4 rfl (by simp only [get_putN, Nat.reduceEqDiff, reduceIte]) ⟨by simp [Mc.eqb, Rf.eqb, c5], hm.fw⟩
          · have p4 : (x.body == y.body) = false := by simp [c4]
            refine wp_region (t' := ?t20) (ds' := ?d20) (up' := ?u20) (s' := ?s20) (by kernel_rfl) ?h20 ?k20
            case h20 =>
              simp only [lapp_cons, lapp_nil, doLoad_ptr, runOps_cons, ops_nil, opThen_true, opThen_false, nxThen_val, wantedV_none, wantedV_some, guardV_some, guardB_bool, opDo, eval_tmp, eval_bool, get_putN, Nat.reduceEqDiff, reduceIte, nxVal_some, doPick, bTT, bFT, Bool.not_false, Nat.zero_add, Nat.add_zero, evP, List.getElem?_toArray, List.getElem?_cons_zero, List.getElem?_cons_succ, Option.bind, doBin, guardOk, isEq, cond_true, cond_false, binOpV, isShift, sameKind, decide_true, intOp, Option.map, fa29_0, fa29_1, fa29_2, fa29_3, fa29_7, lv3, lv23, ld1 ga, ld1 gb, ldn ga, ldn gb, List.drop_succ_cons, List.drop_zero, takeExact, guard23, eql23', p0, p1, p2, p3, p4]
              exact rfl
            case k20 =>
            repeat refine wp_seq ?_
            exact wp_ret1 (.bool false) 4 rfl (by simp only [get_putN, Nat.reduceEqDiff, reduceIte]) ⟨by simp [Mc.eqb, Rf.eqb, c4], hm.fw⟩
        · have p3 : Rf.eqb x.value y.value = false := by simp [Rf.eqb, c3]
          refine wp_region (t' := ?t21) (ds' := ?d21) (up' := ?u21) (s' := ?s21) (by kernel_rfl) ?h21 ?k21
          case h21 =>
            simp only [lapp_cons, lapp_nil, doLoad_ptr, runOps_cons, ops_nil, opThen_true, opThen_false, nxThen_val, wantedV_none, wantedV_some, guardV_some, guardB_bool, opDo, eval_tmp, eval_bool, get_putN, Nat.reduceEqDiff, reduceIte, nxVal_some, doPick, bTT, bFT, Bool.not_false, Nat.zero_add, Nat.add_zero, evP, List.getElem?_toArray, List.getElem?_cons_zero, List.getElem?_cons_succ, Option.bind, doBin, guardOk, isEq, cond_true, cond_false, binOpV, isShift, sameKind, decide_true, intOp, Option.map, fa29_0, fa29_1, fa29_2, fa29_3, lv3, lv23, ld1 ga, ld1 gb, ldn ga, ldn gb, List.drop_succ_cons, List.drop_zero, takeExact, guard23, eql23', p0, p1, p2, p3]
            exact rfl
          case k21 =>
          repeat refine wp_seq ?_
          exact wp_ret1 (.bool false) 4 rfl (by simp only [get_putN, Nat.reduceEqDiff, reduceIte]) ⟨by simp [Mc.eqb, Rf.eqb, c3], hm.fw⟩
      · have p2 : (x.env == y.env) = false := by simp [c2]
        refine wp_region (t' := ?t22) (ds' := ?d22) (up' := ?u22) (s' := ?s22) (by kernel_rfl) ?h22 ?k22
        case h22 =>
          simp only [lapp_cons, lapp_nil, doLoad_ptr, runOps_cons, ops_nil, opThen_true, opThen_false, nxThen_val, wantedV_none, wantedV_some, guardV_some, guardB_bool, opDo, eval_tmp, eval_bool, get_putN, Nat.reduceEqDiff, reduceIte, nxVal_some, doPick, bTT, bFT, Nat.zero_add, Nat.add_zero, evP, List.getElem?_toArray, List.getElem?_cons_zero, List.getElem?_cons_succ, Option.bind, doBin, guardOk, isEq, cond_true, cond_false, binOpV, isShift, sameKind, decide_true, intOp, fa29_0, fa29_1, fa29_2, lv3, ld1 ga, ld1 gb, p0, p1, p2]
          exact rfl
        case k22 =>
        repeat refine wp_seq ?_
        exact wp_ret1 (.bool false) 4 rfl (by simp only [get_putN, Nat.reduceEqDiff, reduceIte]) ⟨by simp [Mc.eqb, Rf.eqb, c2], hm.fw⟩
    · have p1 : (x.expr == y.expr) = false := by simp [c1]
      refine wp_region (t' := ?t23) (ds' := ?d23) (up' := ?u23) (s' := ?s23) (by kernel_rfl) ?h23 ?k23
      case h23 =>
        simp only [lapp_cons, lapp_nil, doLoad_ptr, runOps_cons, ops_nil, opThen_true, opThen_false, nxThen_val, wantedV_none, wantedV_some, guardV_some, guardB_bool, opDo, eval_tmp, eval_bool, get_putN, Nat.reduceEqDiff, reduceIte, nxVal_some, doPick, bTT, bFT, Nat.zero_add, Nat.add_zero, evP, List.getElem?_toArray, List.getElem?_cons_zero, List.getElem?_cons_succ, Option.bind, doBin, guardOk, isEq, cond_true, cond_false, binOpV, isShift, sameKind, decide_true, intOp, fa29_0, fa29_1, lv3, ld1 ga, ld1 gb, p0, p1]
        exact rfl
      case k23 =>
      repeat refine wp_seq ?_
      exact wp_ret1 (.bool false) 4 rfl (by simp only [get_putN, Nat.reduceEqDiff, reduceIte]) ⟨by simp [Mc.eqb, Rf.eqb, c1], hm.fw⟩
  · have p0 : (x.mode == y.mode) = false := by simp [c0]
    refine wp_region (t' := ?t24) (ds' := ?d24) (up' := ?u24) (s' := ?s24) (by kernel_rfl) ?h24 ?k24
    case h24 =>
      simp only [lapp_cons, lapp_nil, doLoad_ptr, runOps_cons, ops_nil, opThen_true, opThen_false, nxThen_val, wantedV_none, wantedV_some, guardV_some, guardB_bool, opDo, eval_tmp, eval_bool, get_putN, Nat.reduceEqDiff, reduceIte, nxVal_some, doPick, bFT, Nat.add_zero, evP, List.getElem?_toArray, List.getElem?_cons_zero, List.getElem?_cons_succ, Option.bind, doBin, guardOk, isEq, cond_true, cond_false, binOpV, isShift, sameKind, decide_true, intOp, fa29_0, lv3, ld1 ga, ld1 gb, p0]
      exact rfl
    case k24 =>
    repeat refine wp_seq ?_
    exact wp_ret1 (.bool false) 4 rfl (by simp only [get_putN, Nat.reduceEqDiff, reduceIte]) ⟨by simp [Mc.eqb, Rf.eqb, c0], hm.fw⟩
end Go.AI.Sv
