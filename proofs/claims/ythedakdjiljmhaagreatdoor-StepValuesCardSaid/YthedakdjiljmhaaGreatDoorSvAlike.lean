/- The reference's comparison of values. No conditions. -/
import Derived.Test.YthedakdjiljmhaaGreatDoorSvData
set_option linter.unusedVariables false
set_option linter.unusedSimpArgs false
noncomputable section
namespace Go.AI.Sv
open Go.Proofs

theorem cf7 (args : List V) (s : S) : callF envL 7 args s = some (.enter 7 args s) := by kernel_rfl

set_option maxRecDepth 10000 in
theorem alike (K1 K2 : S → Prop) (hK1 : Stay K1) (hK2 : Stay K2) : ∀ (n : Nat) (x y : Vl) (la lb : List V) (n2 : Nat), RdVl K1 n x la → RdVl K2 n2 y lb → ∀ s, WF s → K1 s → K2 s →
    Cw envL 7 [.agg la, .agg lb] s fun v s' => v = .bool (x.eqb y) ∧ Fw [] s s' := by
  intro n
  induction n with
  | zero => intro x y la lb n2 h; cases h
  | succ n ih =>
    intro x y la lb n2 hx hy s hw k1 k2
    cases n2 with
    | zero => cases hy
    | succ n2 =>
    obtain ⟨ca, na, xs⟩ := x
    obtain ⟨cb, nb, ys⟩ := y
    obtain ⟨va, rfl, hba, hA⟩ := hx
    have hla := hA.bnd
    obtain ⟨vb, rfl, hbb, hB⟩ := hy
    have hse := strEq_dec hba hbb
    refine cw_enter (fn := Tryz.f7) rfl Tryz.func7 rfl (by kernel_rfl) ?_
    rw [initT_cons, initT_cons, initT_nil]
    repeat refine wp_seq ?_
    refine wp_region (t' := ?t1) (ds' := ?d1) (up' := ?u1) (s' := ?s1) (by kernel_rfl) ?h1 ?k1
    case h1 =>
      simp only [runOps_cons, ops_nil, opThen_true, nxThen_val, wantedV_none, opDo, eval_tmp, eval_bool, get_putN, Nat.reduceEqDiff, reduceIte, nxVal_some, doBox_agg, Nat.zero_add]
      exact rfl
    case k1 =>
    have hm := ((Me.start (F := []) hw).alloc (B := .cells 33 false 1 [⟨0, 0, [.str ca, .int .i64 na, va]⟩]) (fun _ h => by cases h)).alloc (B := .cells 33 false 1 [⟨0, 0, [.str cb, .int .i64 nb, vb]⟩]) (fun _ h => by cases h)
    generalize hs1 : S.alloc (S.alloc s _) _ = s1 at hm ⊢
    generalize hf1 : S.next (S.alloc s _) = f1 at hm ⊢
    generalize hf0 : S.next s = f0 at hm ⊢
    have k1' := hK1 _ _ hm.fw k1
    have k2' := hK2 _ _ hm.fw k2
    have ga := hm.at 1 rfl
    have gb := hm.at 0 rfl
    repeat refine wp_seq ?_
    by_cases hc : ca = cb
    · by_cases hn : na = nb
      · by_cases hl : xs.length = ys.length
        · have d1 : decide (ca = cb) = true := decide_eq_true hc
          have d2 : (na != nb) = false := by simp [hn]
          have d3 : ((xs.length : Int) != (ys.length : Int)) = false := by simp; omega
          refine wp_region (t' := ?t2) (ds' := ?d2) (up' := ?u2) (s' := ?s2) (by kernel_rfl) ?h2 ?k2
          case h2 =>
            simp only [doLoad_ptr, runOps_cons, ops_nil, opThen_true, nxThen_val, wantedV_none, wantedV_some, guardV_some, guardB_bool, opDo, eval_tmp, get_putN, Nat.reduceEqDiff, reduceIte, nxVal_some, callTo, callB, doPick, bFF, Bool.not_true, Nat.zero_add, Nat.add_zero, evals, evP, List.getElem?_toArray, List.getElem?_cons_zero, List.getElem?_cons_succ, Option.bind, doBin, guardOk, isEq, cond_true, cond_false, binOpV, isShift, sameKind, decide_true, intOp, Option.map, fa33_0, fa33_1, fa33_2, lv9, lv3, lv31, ld1 ga, ld1 gb, strOp, hse, d1, d2, d3, hA.len, hB.len]
            exact rfl
          case k2 =>
          refine wp_cond false (by simp only [eval_tmp, get_putN, Nat.reduceEqDiff, reduceIte]) (fun h => by cases h) (fun _ => ?_)
          refine wp_skip ?_
          repeat refine wp_seq ?_
          refine wp_region (t' := ?t3) (ds' := ?d3) (up' := ?u3) (s' := ?s3) (by kernel_rfl) ?h3 ?k3
          case h3 =>
            simp only [runOps_cons, ops_nil, opThen_true, nxThen_val, wantedV_none, opDo, eval_int, nxVal_some]
            exact rfl
          case k3 =>
          clear d1 d2 d3
          obtain ⟨pa, hpa⟩ := hA.el
          obtain ⟨pb, hpb⟩ := hB.el
          refine wp_block (wp_loop_inv (fun j t s' => ∃ k : Nat, j = xs.length - k ∧ k ≤ xs.length ∧ Me [] s s' [(f1, Blk.cells 33 false 1 [⟨0, 0, [.str cb, .int .i64 nb, vb]⟩]), (f0, Blk.cells 33 false 1 [⟨0, 0, [.str ca, .int .i64 na, va]⟩])] ∧
              t.get (pth 2) = some (.ptr ⟨f0, 0, 0⟩) ∧ t.get (pth 3) = some (.ptr ⟨f1, 0, 0⟩) ∧ t.get (pth 5) = some (.int .i64 k) ∧ ∀ (i : Nat) (x y : Vl), i < k → xs[i]? = some x → ys[i]? = some y → x.eqb y = true) ?_ (xs.length - 0) _ _ ⟨0, rfl, Nat.zero_le _, hm, ?_, ?_, ?_, by intro i _ _ hi; omega⟩)
          rotate_left
          · simp only [get_putN, Nat.reduceEqDiff, reduceIte]
          · simp only [get_putN, Nat.reduceEqDiff, reduceIte]
          · simp only [get_putN, Nat.reduceEqDiff, reduceIte]; rfl
          clear ga gb k1' k2' hm
          rintro j t s2 ⟨k, hj, hk, hm, h2, h3, h5, hT⟩ hnext
          have k1' := hK1 _ _ hm.fw k1
          have k2' := hK2 _ _ hm.fw k2
          have ga := hm.at 1 rfl
          have gb := hm.at 0 rfl
          repeat refine wp_seq ?_
          refine wp_region (t' := ?t4) (ds' := ?d4) (up' := ?u4) (s' := ?s4) (by kernel_rfl) ?h4 ?k4
          case h4 =>
            simp only [doLoad_ptr, runOps_cons, ops_nil, opThen_true, nxThen_val, wantedV_none, opDo, eval_tmp, get_putN, Nat.reduceEqDiff, reduceIte, nxVal_some, callTo, callB, Nat.zero_add, evals, evP, List.getElem?_toArray, List.getElem?_cons_zero, List.getElem?_cons_succ, doBin, guardOk, isEq, cond_true, cond_false, binOpV, isShift, sameKind, decide_true, intOp, h2, h5, fa33_2, lv31, ld1 ga, hA.len]
            exact rfl
          case k4 =>
          refine wp_cond (decide ((k : Int) < (xs.length : Int))) (by simp only [eval_tmp, get_putN, Nat.reduceEqDiff, reduceIte]) (fun hq => ?_) (fun hq => ?_)
          · have hlt : k < xs.length := by have := of_decide_eq_true hq; omega
            obtain ⟨ia, l1, e1, el1, _, r1⟩ := hpa k _ (List.getElem?_eq_getElem hlt)
            obtain ⟨ib, l2, e2, el2, _, r2⟩ := hpb k _ (List.getElem?_eq_getElem (show k < ys.length by omega))
            obtain ⟨_, s3, hcall, rfl, hf3⟩ := ih _ _ l1 l2 n2 r1 r2 s2 hm.wf k1' k2'
            have hcall := ca_rec hcall
            refine wp_skip ?_
            repeat refine wp_seq ?_
            refine wp_block ?_
            repeat refine wp_seq ?_
            refine wp_sch (t' := ?t5) (ds' := ?d5) (up' := ?u5) (s' := ?s5) [(some 1, 0), (some 1, 1), (some 1, 2), (some 1, 3), (some 1, 4), (some 1, 5), (some 1, 6), (some 1, 7), (some 1, 8), (some 1, 9), (none, 10), (some 1, 11)] (by kernel_rfl) (by kernel_rfl) ?h5 ?k5
            case h5 =>
              simp only [runSch_nil, runSch_f, runSch_e, runSchK_eq, runSchE_eq, schFloat_some, schThen_some, schEff_some, schEThen_some, schNext_true, floatStep1_true, effStep_true, effDo_enter, effEnd_ret, floatDo1_0, floatDo1_1, valOnly_val, readBoth_some, readTo_val, readAll_one, opKind, List.take_succ_cons, List.take_zero, List.take_nil, doLoad_ptr, natOf_cast, wantedV_none, opDo, eval_tmp, eval_func, get_putN, Nat.reduceEqDiff, reduceIte, nxVal_some, callTo, callV, doUn, unOpV, List.nil_append, List.append_nil, Nat.zero_add, evals, evP, List.getElem?_toArray, List.getElem?_cons_zero, List.getElem?_cons_succ, Option.map, h2, h3, h5, fa33_2, lv31, lv33, ld1 ga, ld1 gb, ia, ib, e1 s2 k1', e2 s2 k2', cf7, hcall, hf3.ble]
              exact rfl
            case k5 =>
            refine wp_cond (!(Vl.eqb xs[k] ys[k])) (by simp only [eval_tmp, get_putN, Nat.reduceEqDiff, reduceIte]) (fun hd => ?_) (fun hd => ?_)
            · repeat refine wp_seq ?_
              refine wp_region (t' := ?t6) (ds' := ?d6) (up' := ?u6) (s' := ?s6) (by kernel_rfl) ?h6 ?k6
              case h6 =>
                simp only [runOps_cons, ops_nil, opThen_true, nxThen_val, wantedV_none, opDo, eval_bool, nxVal_some]
                exact rfl
              case k6 =>
              refine wp_ret1 (.bool false) 4 rfl (by simp only [get_putN, Nat.reduceEqDiff, reduceIte]) ⟨?_, hm.fw.trans hf3⟩
              have he : xs[k].eqb ys[k] = false := by simpa using hd
              have := eqbL_not (a := xs) (b := ys) (List.getElem?_eq_getElem hlt) (List.getElem?_eq_getElem (show k < ys.length by omega)) he
              simp [Vl.eqb, this]
            · have he : xs[k].eqb ys[k] = true := by simpa using hd
              have hw1 : IntKind.wrap .i64 ((k : Int) + 1) = ((k + 1 : Nat) : Int) := by
                have := wrap_in ((k : Int) + 1) ⟨by omega, by omega⟩; omega
              refine wp_skip (wp_inBlock ?_)
              refine wp_region (t' := ?t7) (ds' := ?d7) (up' := ?u7) (s' := ?s7) (by kernel_rfl) ?h7 ?k7
              case h7 =>
                simp only [runOps_cons, ops_nil, opThen_true, nxThen_val, wantedV_none, opDo, eval_tmp, eval_int, get_putN, Nat.reduceEqDiff, reduceIte, nxVal_some, doBin, guardOk, isEq, cond_true, cond_false, binOpV, isShift, sameKind, decide_true, intOp, h5, mkInt_eq, hw1]
                exact rfl
              case k7 =>
              refine hnext (xs.length - (k + 1)) _ _ (by omega) ⟨k + 1, rfl, hlt, hm.call hf3, ?_, ?_, ?_, ?_⟩
              · simp only [get_putN, Nat.reduceEqDiff, reduceIte, h2]
              · simp only [get_putN, Nat.reduceEqDiff, reduceIte, h3]
              · simp only [get_putN, Nat.reduceEqDiff, reduceIte]
              · intro i u v hi hu hv
                by_cases hik : i = k
                · subst hik
                  rw [List.getElem?_eq_getElem hlt] at hu
                  rw [List.getElem?_eq_getElem (show i < ys.length by omega)] at hv
                  cases hu; cases hv; exact he
                · exact hT i u v (by omega) hu hv
          · have hkn : k = xs.length := by have := of_decide_eq_false hq; omega
            refine wp_exit rfl ?_
            repeat refine wp_seq ?_
            refine wp_region (t' := ?t8) (ds' := ?d8) (up' := ?u8) (s' := ?s8) (by kernel_rfl) ?h8 ?k8
            case h8 =>
              simp only [runOps_cons, ops_nil, opThen_true, nxThen_val, wantedV_none, opDo, eval_bool, nxVal_some]
              exact rfl
            case k8 =>
            refine wp_ret1 (.bool true) 4 rfl (by simp only [get_putN, Nat.reduceEqDiff, reduceIte]) ⟨?_, hm.fw⟩
            have := eqbL_of hl fun i u v hu hv => hT i u v (by have := (List.getElem?_eq_some_iff.1 hu).1; omega) hu hv
            simp [Vl.eqb, this, hc, hn]
        · have d1 : decide (ca = cb) = true := decide_eq_true hc
          have d2 : (na != nb) = false := by simp [hn]
          have d3 : ((xs.length : Int) != (ys.length : Int)) = true := by simp; omega
          refine wp_region (t' := ?t9) (ds' := ?d9) (up' := ?u9) (s' := ?s9) (by kernel_rfl) ?h9 ?k9
          case h9 =>
            simp only [doLoad_ptr, runOps_cons, ops_nil, opThen_true, nxThen_val, wantedV_none, wantedV_some, guardV_some, guardB_bool, opDo, eval_tmp, get_putN, Nat.reduceEqDiff, reduceIte, nxVal_some, callTo, callB, doPick, bFF, Bool.not_true, Nat.zero_add, Nat.add_zero, evals, evP, List.getElem?_toArray, List.getElem?_cons_zero, List.getElem?_cons_succ, Option.bind, doBin, guardOk, isEq, cond_true, cond_false, binOpV, isShift, sameKind, decide_true, intOp, Option.map, fa33_0, fa33_1, fa33_2, lv9, lv3, lv31, ld1 ga, ld1 gb, strOp, hse, d1, d2, d3, hA.len, hB.len]
            exact rfl
          case k9 =>
          refine wp_cond true (by simp only [eval_tmp, get_putN, Nat.reduceEqDiff, reduceIte]) (fun _ => ?_) (fun h => by cases h)
          repeat refine wp_seq ?_
          refine wp_region (t' := ?t10) (ds' := ?d10) (up' := ?u10) (s' := ?s10) (by kernel_rfl) ?h10 ?k10
          case h10 =>
            simp only [runOps_cons, ops_nil, opThen_true, nxThen_val, wantedV_none, opDo, eval_bool, nxVal_some]
            exact rfl
          case k10 =>
          exact wp_ret1 (.bool false) 4 rfl (by simp only [get_putN, Nat.reduceEqDiff, reduceIte]) ⟨by simp [Vl.eqb, eqbL_len hl], hm.fw⟩
      · have d1 : decide (ca = cb) = true := decide_eq_true hc
        have d2 : (na != nb) = true := by simp [hn]
        refine wp_region (t' := ?t11) (ds' := ?d11) (up' := ?u11) (s' := ?s11) (by kernel_rfl) ?h11 ?k11
        case h11 =>
          simp only [doLoad_ptr, runOps_cons, ops_nil, opThen_true, opThen_false, nxThen_val, wantedV_none, wantedV_some, guardV_some, guardB_bool, opDo, eval_tmp, eval_bool, get_putN, Nat.reduceEqDiff, reduceIte, nxVal_some, doPick, bTF, bFF, Bool.not_true, Nat.zero_add, Nat.add_zero, evP, List.getElem?_toArray, List.getElem?_cons_zero, List.getElem?_cons_succ, Option.bind, doBin, guardOk, isEq, cond_true, cond_false, binOpV, isShift, sameKind, decide_true, intOp, Option.map, fa33_0, fa33_1, lv9, lv3, ld1 ga, ld1 gb, strOp, hse, d1, d2]
          exact rfl
        case k11 =>
        refine wp_cond true (by simp only [eval_tmp, get_putN, Nat.reduceEqDiff, reduceIte]) (fun _ => ?_) (fun h => by cases h)
        repeat refine wp_seq ?_
        refine wp_region (t' := ?t12) (ds' := ?d12) (up' := ?u12) (s' := ?s12) (by kernel_rfl) ?h12 ?k12
        case h12 =>
          simp only [runOps_cons, ops_nil, opThen_true, nxThen_val, wantedV_none, opDo, eval_bool, nxVal_some]
          exact rfl
        case k12 =>
        exact wp_ret1 (.bool false) 4 rfl (by simp only [get_putN, Nat.reduceEqDiff, reduceIte]) ⟨by simp [Vl.eqb, hn], hm.fw⟩
    · have d1 : decide (ca = cb) = false := decide_eq_false hc
      refine wp_region (t' := ?t13) (ds' := ?d13) (up' := ?u13) (s' := ?s13) (by kernel_rfl) ?h13 ?k13
      case h13 =>
        simp only [doLoad_ptr, runOps_cons, ops_nil, opThen_true, opThen_false, nxThen_val, wantedV_none, wantedV_some, guardV_some, guardB_bool, opDo, eval_tmp, eval_bool, get_putN, Nat.reduceEqDiff, reduceIte, nxVal_some, doPick, bTF, Bool.not_false, Nat.add_zero, evP, List.getElem?_toArray, List.getElem?_cons_zero, List.getElem?_cons_succ, Option.bind, doBin, guardOk, isEq, cond_true, binOpV, Option.map, fa33_0, lv9, ld1 ga, ld1 gb, strOp, hse, d1]
        exact rfl
      case k13 =>
      refine wp_cond true (by simp only [eval_tmp, get_putN, Nat.reduceEqDiff, reduceIte]) (fun _ => ?_) (fun h => by cases h)
      repeat refine wp_seq ?_
      refine wp_region (t' := ?t14) (ds' := ?d14) (up' := ?u14) (s' := ?s14) (by kernel_rfl) ?h14 ?k14
      case h14 =>
        simp only [runOps_cons, ops_nil, opThen_true, nxThen_val, wantedV_none, opDo, eval_bool, nxVal_some]
        exact rfl
      case k14 =>
      exact wp_ret1 (.bool false) 4 rfl (by simp only [get_putN, Nat.reduceEqDiff, reduceIte]) ⟨by simp [Vl.eqb, hc], hm.fw⟩
end Go.AI.Sv
