/- The comparisons of lists. No conditions. -/
import Derived.Test.YthedakdjiljmhaaGreatDoorSvData
set_option linter.unusedVariables false
set_option linter.unusedSimpArgs false
noncomputable section
namespace Go.AI.Sv
open Go.Proofs
theorem cf25 (args : List V) (s : S) : callF envL 25 args s = some (.enter 25 args s) := by kernel_rfl
set_option maxRecDepth 10000 in
theorem eqFrames {α : Type} (eq : α → α → Bool) (rd1 rd2 : α → List V → Prop) (g : FuncId) (hcf : ∀ args s, callF envL g args s = some (.enter g args s)) (K1 K2 : S → Prop) (hK1 : Stay K1) (hK2 : Stay K2) (xs ys : List α)
    (hg : ∀ x y lx ly s, x ∈ xs → rd1 x lx → rd2 y ly → WF s → K1 s → K2 s → Cw envL g [.agg lx, .agg ly] s fun v s' => v = .bool (eq x y) ∧ Fw [] s s')
    (va vb : V) (hA : Sl K1 24 3 va xs rd1) (hB : Sl K2 24 3 vb ys rd2) (s : S) (hw : WF s) (k1 : K1 s) (k2 : K2 s) :
    Cw envL 25 [va, vb, .func (.func g) [] []] s fun v s' => v = .bool (eqAll eq xs ys) ∧ Fw [] s s' := by
  refine cw_enter (fn := Tryz.f25) rfl Tryz.func25 rfl (by kernel_rfl) ?_
  rw [initT_cons, initT_cons, initT_cons, initT_nil]
  repeat refine wp_seq ?_
  refine wp_region (t' := ?t1) (ds' := ?d1) (up' := ?u1) (s' := ?s1) (by kernel_rfl) ?h1 ?k1
  case h1 =>
    simp only [runOps_cons, ops_nil, opThen_true, nxThen_val, wantedV_none, opDo, eval_bool, nxVal_some, Nat.zero_add, Nat.reduceAdd]
    exact rfl
  case k1 =>
  repeat refine wp_seq ?_
  refine wp_region (t' := ?t2) (ds' := ?d2) (up' := ?u2) (s' := ?s2) (by kernel_rfl) ?h2 ?k2
  case h2 =>
    simp only [runOps_cons, ops_nil, opThen_true, nxThen_val, wantedV_none, opDo, eval_tmp, get_putN, Nat.reduceEqDiff, reduceIte, nxVal_some, callTo, callB, evals, evP, List.getElem?_toArray, List.getElem?_cons_zero, doBin, guardOk, isEq, cond_true, cond_false, binOpV, isShift, sameKind, decide_true, intOp, hA.len, hB.len]
    exact rfl
  case k2 =>
  have hm := Me.start (F := []) hw
  refine wp_cond ((xs.length : Int) != (ys.length : Int)) (by simp only [eval_tmp, get_putN, Nat.reduceEqDiff, reduceIte]) (fun hq => ?_) (fun hq => ?_)
  · repeat refine wp_seq ?_
    refine wp_region (t' := ?t3) (ds' := ?d3) (up' := ?u3) (s' := ?s3) (by kernel_rfl) ?h3 ?k3
    case h3 =>
      simp only [runOps_cons, ops_nil, opThen_true, nxThen_val, wantedV_none, opDo, eval_bool, nxVal_some]
      exact rfl
    case k3 =>
    refine wp_ret1 (.bool false) 6 rfl (by simp only [get_putN, Nat.reduceEqDiff, reduceIte]) ⟨?_, hm.fw⟩
    rw [eqAll_len]
    intro h; rw [h] at hq; simp at hq
  have hl : xs.length = ys.length := by have := (bne_eq_false_iff_eq.1 hq); omega
  have hla := hA.bnd
  refine wp_skip ?_
  repeat refine wp_seq ?_
  refine wp_region (t' := ?t4) (ds' := ?d4) (up' := ?u4) (s' := ?s4) (by kernel_rfl) ?h4 ?k4
  case h4 =>
    simp only [runOps_cons, ops_nil, opThen_true, nxThen_val, wantedV_none, opDo, eval_tmp, eval_int, get_putN, Nat.reduceEqDiff, reduceIte, nxVal_some, callTo, callB, evals, evP, List.getElem?_toArray, List.getElem?_cons_zero, hA.len]
    exact rfl
  case k4 =>
  obtain ⟨pa, hpa⟩ := hA.el
  obtain ⟨pb, hpb⟩ := hB.el
  refine wp_block (wp_loop_inv (fun j t s' => ∃ k : Nat, j = xs.length - k ∧ k ≤ xs.length ∧ Me [] s s' [] ∧ t.get (pth 15) = some va ∧ t.get (pth 1) = some vb ∧ t.get (pth 2) = some (.func (.func g) [] []) ∧
      t.get (pth 16) = some (.int .i64 xs.length) ∧ t.get (pth 17) = some (.int .i64 k) ∧ ∀ (i : Nat) (x y : α), i < k → xs[i]? = some x → ys[i]? = some y → eq x y = true) ?_ (xs.length - 0) _ _ ⟨0, rfl, Nat.zero_le _, hm, ?_, ?_, ?_, ?_, ?_, by intro i _ _ hi; omega⟩)
  rotate_left
  · simp only [get_putN, Nat.reduceEqDiff, reduceIte]
  · simp only [get_putN, Nat.reduceEqDiff, reduceIte]
  · simp only [get_putN, Nat.reduceEqDiff, reduceIte]
  · simp only [get_putN, Nat.reduceEqDiff, reduceIte]
  · simp only [get_putN, Nat.reduceEqDiff, reduceIte]; rfl
  clear hm
  rintro j t s2 ⟨k, hj, hk, hm, h15, h1, h2, h16, h17, hT⟩ hnext
  have k1' := hK1 _ _ hm.fw k1
  have k2' := hK2 _ _ hm.fw k2
  repeat refine wp_seq ?_
  refine wp_region (t' := ?t5) (ds' := ?d5) (up' := ?u5) (s' := ?s5) (by kernel_rfl) ?h5 ?k5
  case h5 =>
    simp only [runOps_cons, ops_nil, opThen_true, nxThen_val, wantedV_none, opDo, eval_tmp, nxVal_some, doBin, guardOk, isEq, cond_true, cond_false, binOpV, isShift, sameKind, decide_true, intOp, h16, h17]
    exact rfl
  case k5 =>
  repeat refine wp_seq ?_
  refine wp_cond (decide ((k : Int) < (xs.length : Int))) (by simp only [eval_tmp, get_putN, reduceIte]) (fun hq => ?_) (fun hq => ?_)
  · have hlt : k < xs.length := by have := of_decide_eq_true hq; omega
    obtain ⟨ia, l1, e1, el1, o1, r1⟩ := hpa k _ (List.getElem?_eq_getElem hlt)
    obtain ⟨ib, l2, e2, el2, o2, r2⟩ := hpb k _ (List.getElem?_eq_getElem (show k < ys.length by omega))
    refine wp_skip ?_
    repeat refine wp_seq ?_
    refine wp_block ?_
    repeat refine wp_seq ?_
    refine wp_region (t' := ?t6) (ds' := ?d6) (up' := ?u6) (s' := ?s6) (by kernel_rfl) ?h6 ?k6
    case h6 =>
      simp only [nxSkip_some, doLoad_ptr, doStore_ptr, natOf_cast, runOps_cons, ops_nil, opThen_true, nxThen_val, nxThen_skip, wantedV_none, opDo, eval_tmp, get_putN, putD_none, Nat.reduceEqDiff, reduceIte, nxVal_some, evP, Option.map, h15, h17, ia, lv75, e1 s2 k1', al75, sv75 _ _ l1 el1, nw75 _ l1 o1 el1]
      exact rfl
    case k6 =>
    have hm3 := hm.alloc (B := .cells 75 false 1 [⟨0, 0, l1⟩]) (fun _ h => by cases h)
    generalize hs3 : S.alloc s2 _ = s3 at hm3 ⊢
    generalize hf3 : S.next s2 = f3 at hm3 ⊢
    have k2'' := hK2 _ _ hm3.fw k2
    repeat refine wp_seq ?_
    refine wp_region (t' := ?t7) (ds' := ?d7) (up' := ?u7) (s' := ?s7) (by kernel_rfl) ?h7 ?k7
    case h7 =>
      simp only [nxSkip_some, doLoad_ptr, doStore_ptr, natOf_cast, runOps_cons, ops_nil, opThen_true, nxThen_val, nxThen_skip, wantedV_none, opDo, eval_tmp, get_putN, putD_none, Nat.reduceEqDiff, reduceIte, nxVal_some, evP, Option.map, h1, ib, lv75, e2 s3 k2'', al75, sv75 _ _ l2 el2, nw75 _ l2 o2 el2]
      exact rfl
    case k7 =>
    have hm4 := hm3.alloc (B := .cells 75 false 1 [⟨0, 0, l2⟩]) (fun _ h => by cases h)
    generalize hs4 : S.alloc s3 _ = s4 at hm4 ⊢
    generalize hf4 : S.next s3 = f4 at hm4 ⊢
    have ga := hm4.at 1 rfl
    have gb := hm4.at 0 rfl
    obtain ⟨_, s5, hcall, rfl, hf5⟩ := hg _ _ l1 l2 s4 (List.getElem_mem hlt) r1 r2 hm4.wf (hK1 _ _ hm4.fw k1) (hK2 _ _ hm4.fw k2)
    have hcall := ca_rec hcall
    repeat refine wp_seq ?_
    refine wp_region (t' := ?t8) (ds' := ?d8) (up' := ?u8) (s' := ?s8) (by kernel_rfl) ?h8 ?k8
    case h8 =>
      simp only [doLoad_ptr, runOps_cons, ops_nil, opThen_true, nxThen_val, nxThen_enter, outThen_ret, wantedV_none, opDo, eval_tmp, get_putN, Nat.reduceEqDiff, reduceIte, nxVal_some, callTo, callV, doUn, unOpV, List.nil_append, List.append_nil, evals, evP, Option.map, h2, lv75, ldn ga, ldn gb, List.drop_zero, takeExact_all l1 _ el1, takeExact_all l2 _ el2, hcf, hcall]
      exact rfl
    case k8 =>
    refine wp_cond (!(eq xs[k] ys[k])) (by simp only [eval_tmp, get_putN, Nat.reduceEqDiff, reduceIte]) (fun hd => ?_) (fun hd => ?_)
    · repeat refine wp_seq ?_
      refine wp_region (t' := ?t9) (ds' := ?d9) (up' := ?u9) (s' := ?s9) (by kernel_rfl) ?h9 ?k9
      case h9 =>
        simp only [runOps_cons, ops_nil, opThen_true, nxThen_val, wantedV_none, opDo, eval_bool, nxVal_some]
        exact rfl
      case k9 =>
      refine wp_ret1 (.bool false) 6 rfl (by simp only [get_putN, Nat.reduceEqDiff, reduceIte]) ⟨?_, hm4.fw.trans hf5⟩
      have he : eq xs[k] ys[k] = false := by simpa using hd
      rw [eqAll_not (List.getElem?_eq_getElem hlt) (List.getElem?_eq_getElem (show k < ys.length by omega)) he]
    · have he : eq xs[k] ys[k] = true := by simpa using hd
      have hw1 : IntKind.wrap .i64 ((k : Int) + 1) = ((k + 1 : Nat) : Int) := by
        have := wrap_in ((k : Int) + 1) ⟨by omega, by omega⟩; omega
      refine wp_skip (wp_inBlock ?_)
      refine wp_region (t' := ?t10) (ds' := ?d10) (up' := ?u10) (s' := ?s10) (by kernel_rfl) ?h10 ?k10
      case h10 =>
        simp only [runOps_cons, ops_nil, opThen_true, nxThen_val, wantedV_none, opDo, eval_tmp, eval_int, get_putN, Nat.reduceEqDiff, reduceIte, nxVal_some, doBin, guardOk, isEq, cond_true, cond_false, binOpV, isShift, sameKind, decide_true, intOp, h17, mkInt_eq, hw1]
        exact rfl
      case k10 =>
      refine hnext (xs.length - (k + 1)) _ _ (by omega) ⟨k + 1, rfl, hlt, (hm4.call hf5).forget, ?_, ?_, ?_, ?_, ?_, ?_⟩
      · simp only [get_putN, Nat.reduceEqDiff, reduceIte, h15]
      · simp only [get_putN, Nat.reduceEqDiff, reduceIte, h1]
      · simp only [get_putN, Nat.reduceEqDiff, reduceIte, h2]
      · simp only [get_putN, Nat.reduceEqDiff, reduceIte, h16]
      · simp only [get_putN, Nat.reduceEqDiff, reduceIte]
      · intro i u v hi hu hv
        by_cases hik : i = k
        · subst hik
          rw [List.getElem?_eq_getElem hlt] at hu
          rw [List.getElem?_eq_getElem (show i < ys.length by omega)] at hv
          cases hu; cases hv; exact he
        · exact hT i u v (by omega) hu hv
  · have hkn : k = xs.length := by have := of_decide_eq_false hq; omega
    refine wp_exit rfl ?_
    repeat refine wp_seq ?_
    refine wp_region (t' := ?t11) (ds' := ?d11) (up' := ?u11) (s' := ?s11) (by kernel_rfl) ?h11 ?k11
    case h11 =>
      simp only [runOps_cons, ops_nil, opThen_true, nxThen_val, wantedV_none, opDo, eval_bool, nxVal_some]
      exact rfl
    case k11 =>
    refine wp_ret1 (.bool true) 6 rfl (by simp only [get_putN, Nat.reduceEqDiff, reduceIte]) ⟨?_, hm.fw⟩
    rw [eqAll_of hl fun i u v hu hv => hT i u v (by have := (List.getElem?_eq_some_iff.1 hu).1; omega) hu hv]

theorem cf26 (args : List V) (s : S) : callF envL 26 args s = some (.enter 26 args s) := by kernel_rfl
set_option maxRecDepth 10000 in
theorem eqCells {α : Type} (eq : α → α → Bool) (rd1 rd2 : α → List V → Prop) (g : FuncId) (hcf : ∀ args s, callF envL g args s = some (.enter g args s)) (K1 K2 : S → Prop) (hK1 : Stay K1) (hK2 : Stay K2) (xs ys : List α)
    (hg : ∀ x y lx ly s, x ∈ xs → rd1 x lx → rd2 y ly → WF s → K1 s → K2 s → Cw envL g [.agg lx, .agg ly] s fun v s' => v = .bool (eq x y) ∧ Fw [] s s')
    (va vb : V) (hA : Sl K1 25 5 va xs rd1) (hB : Sl K2 25 5 vb ys rd2) (s : S) (hw : WF s) (k1 : K1 s) (k2 : K2 s) :
    Cw envL 26 [va, vb, .func (.func g) [] []] s fun v s' => v = .bool (eqAll eq xs ys) ∧ Fw [] s s' := by
  refine cw_enter (fn := Tryz.f26) rfl Tryz.func26 rfl (by kernel_rfl) ?_
  rw [initT_cons, initT_cons, initT_cons, initT_nil]
  repeat refine wp_seq ?_
  refine wp_region (t' := ?t12) (ds' := ?d12) (up' := ?u12) (s' := ?s12) (by kernel_rfl) ?h12 ?k12
  case h12 =>
    simp only [runOps_cons, ops_nil, opThen_true, nxThen_val, wantedV_none, opDo, eval_bool, nxVal_some, Nat.zero_add, Nat.reduceAdd]
    exact rfl
  case k12 =>
  repeat refine wp_seq ?_
  refine wp_region (t' := ?t13) (ds' := ?d13) (up' := ?u13) (s' := ?s13) (by kernel_rfl) ?h13 ?k13
  case h13 =>
    simp only [runOps_cons, ops_nil, opThen_true, nxThen_val, wantedV_none, opDo, eval_tmp, get_putN, Nat.reduceEqDiff, reduceIte, nxVal_some, callTo, callB, evals, evP, List.getElem?_toArray, List.getElem?_cons_zero, doBin, guardOk, isEq, cond_true, cond_false, binOpV, isShift, sameKind, decide_true, intOp, hA.len, hB.len]
    exact rfl
  case k13 =>
  have hm := Me.start (F := []) hw
  refine wp_cond ((xs.length : Int) != (ys.length : Int)) (by simp only [eval_tmp, get_putN, Nat.reduceEqDiff, reduceIte]) (fun hq => ?_) (fun hq => ?_)
  · repeat refine wp_seq ?_
    refine wp_region (t' := ?t14) (ds' := ?d14) (up' := ?u14) (s' := ?s14) (by kernel_rfl) ?h14 ?k14
    case h14 =>
      simp only [runOps_cons, ops_nil, opThen_true, nxThen_val, wantedV_none, opDo, eval_bool, nxVal_some]
      exact rfl
    case k14 =>
    refine wp_ret1 (.bool false) 6 rfl (by simp only [get_putN, Nat.reduceEqDiff, reduceIte]) ⟨?_, hm.fw⟩
    rw [eqAll_len]
    intro h; rw [h] at hq; simp at hq
  have hl : xs.length = ys.length := by have := (bne_eq_false_iff_eq.1 hq); omega
  have hla := hA.bnd
  refine wp_skip ?_
  repeat refine wp_seq ?_
  refine wp_region (t' := ?t15) (ds' := ?d15) (up' := ?u15) (s' := ?s15) (by kernel_rfl) ?h15 ?k15
  case h15 =>
    simp only [runOps_cons, ops_nil, opThen_true, nxThen_val, wantedV_none, opDo, eval_tmp, eval_int, get_putN, Nat.reduceEqDiff, reduceIte, nxVal_some, callTo, callB, evals, evP, List.getElem?_toArray, List.getElem?_cons_zero, hA.len]
    exact rfl
  case k15 =>
  obtain ⟨pa, hpa⟩ := hA.el
  obtain ⟨pb, hpb⟩ := hB.el
  refine wp_block (wp_loop_inv (fun j t s' => ∃ k : Nat, j = xs.length - k ∧ k ≤ xs.length ∧ Me [] s s' [] ∧ t.get (pth 15) = some va ∧ t.get (pth 1) = some vb ∧ t.get (pth 2) = some (.func (.func g) [] []) ∧
      t.get (pth 16) = some (.int .i64 xs.length) ∧ t.get (pth 17) = some (.int .i64 k) ∧ ∀ (i : Nat) (x y : α), i < k → xs[i]? = some x → ys[i]? = some y → eq x y = true) ?_ (xs.length - 0) _ _ ⟨0, rfl, Nat.zero_le _, hm, ?_, ?_, ?_, ?_, ?_, by intro i _ _ hi; omega⟩)
  rotate_left
  · simp only [get_putN, Nat.reduceEqDiff, reduceIte]
  · simp only [get_putN, Nat.reduceEqDiff, reduceIte]
  · simp only [get_putN, Nat.reduceEqDiff, reduceIte]
  · simp only [get_putN, Nat.reduceEqDiff, reduceIte]
  · simp only [get_putN, Nat.reduceEqDiff, reduceIte]; rfl
  clear hm
  rintro j t s2 ⟨k, hj, hk, hm, h15, h1, h2, h16, h17, hT⟩ hnext
  have k1' := hK1 _ _ hm.fw k1
  have k2' := hK2 _ _ hm.fw k2
  repeat refine wp_seq ?_
  refine wp_region (t' := ?t16) (ds' := ?d16) (up' := ?u16) (s' := ?s16) (by kernel_rfl) ?h16 ?k16
  case h16 =>
    simp only [runOps_cons, ops_nil, opThen_true, nxThen_val, wantedV_none, opDo, eval_tmp, nxVal_some, doBin, guardOk, isEq, cond_true, cond_false, binOpV, isShift, sameKind, decide_true, intOp, h16, h17]
    exact rfl
  case k16 =>
  repeat refine wp_seq ?_
  refine wp_cond (decide ((k : Int) < (xs.length : Int))) (by simp only [eval_tmp, get_putN, reduceIte]) (fun hq => ?_) (fun hq => ?_)
  · have hlt : k < xs.length := by have := of_decide_eq_true hq; omega
    obtain ⟨ia, l1, e1, el1, o1, r1⟩ := hpa k _ (List.getElem?_eq_getElem hlt)
    obtain ⟨ib, l2, e2, el2, o2, r2⟩ := hpb k _ (List.getElem?_eq_getElem (show k < ys.length by omega))
    refine wp_skip ?_
    repeat refine wp_seq ?_
    refine wp_block ?_
    repeat refine wp_seq ?_
    refine wp_region (t' := ?t17) (ds' := ?d17) (up' := ?u17) (s' := ?s17) (by kernel_rfl) ?h17 ?k17
    case h17 =>
      simp only [nxSkip_some, doLoad_ptr, doStore_ptr, natOf_cast, runOps_cons, ops_nil, opThen_true, nxThen_val, nxThen_skip, wantedV_none, opDo, eval_tmp, get_putN, putD_none, Nat.reduceEqDiff, reduceIte, nxVal_some, evP, Option.map, h15, h17, ia, lv82, e1 s2 k1', al82, sv82 _ _ l1 el1, nw82 _ l1 o1 el1]
      exact rfl
    case k17 =>
    have hm3 := hm.alloc (B := .cells 82 false 1 [⟨0, 0, l1⟩]) (fun _ h => by cases h)
    generalize hs3 : S.alloc s2 _ = s3 at hm3 ⊢
    generalize hf3 : S.next s2 = f3 at hm3 ⊢
    have k2'' := hK2 _ _ hm3.fw k2
    repeat refine wp_seq ?_
    refine wp_region (t' := ?t18) (ds' := ?d18) (up' := ?u18) (s' := ?s18) (by kernel_rfl) ?h18 ?k18
    case h18 =>
      simp only [nxSkip_some, doLoad_ptr, doStore_ptr, natOf_cast, runOps_cons, ops_nil, opThen_true, nxThen_val, nxThen_skip, wantedV_none, opDo, eval_tmp, get_putN, putD_none, Nat.reduceEqDiff, reduceIte, nxVal_some, evP, Option.map, h1, ib, lv82, e2 s3 k2'', al82, sv82 _ _ l2 el2, nw82 _ l2 o2 el2]
      exact rfl
    case k18 =>
    have hm4 := hm3.alloc (B := .cells 82 false 1 [⟨0, 0, l2⟩]) (fun _ h => by cases h)
    generalize hs4 : S.alloc s3 _ = s4 at hm4 ⊢
    generalize hf4 : S.next s3 = f4 at hm4 ⊢
    have ga := hm4.at 1 rfl
    have gb := hm4.at 0 rfl
    obtain ⟨_, s5, hcall, rfl, hf5⟩ := hg _ _ l1 l2 s4 (List.getElem_mem hlt) r1 r2 hm4.wf (hK1 _ _ hm4.fw k1) (hK2 _ _ hm4.fw k2)
    have hcall := ca_rec hcall
    repeat refine wp_seq ?_
    refine wp_region (t' := ?t19) (ds' := ?d19) (up' := ?u19) (s' := ?s19) (by kernel_rfl) ?h19 ?k19
    case h19 =>
      simp only [doLoad_ptr, runOps_cons, ops_nil, opThen_true, nxThen_val, nxThen_enter, outThen_ret, wantedV_none, opDo, eval_tmp, get_putN, Nat.reduceEqDiff, reduceIte, nxVal_some, callTo, callV, doUn, unOpV, List.nil_append, List.append_nil, evals, evP, Option.map, h2, lv82, ldn ga, ldn gb, List.drop_zero, takeExact_all l1 _ el1, takeExact_all l2 _ el2, hcf, hcall]
      exact rfl
    case k19 =>
    refine wp_cond (!(eq xs[k] ys[k])) (by simp only [eval_tmp, get_putN, Nat.reduceEqDiff, reduceIte]) (fun hd => ?_) (fun hd => ?_)
    · repeat refine wp_seq ?_
      refine wp_region (t' := ?t20) (ds' := ?d20) (up' := ?u20) (s' := ?s20) (by kernel_rfl) ?h20 ?k20
      case h20 =>
        simp only [runOps_cons, ops_nil, opThen_true, nxThen_val, wantedV_none, opDo, eval_bool, nxVal_some]
        exact rfl
      case k20 =>
      refine wp_ret1 (.bool false) 6 rfl (by simp only [get_putN, Nat.reduceEqDiff, reduceIte]) ⟨?_, hm4.fw.trans hf5⟩
      have he : eq xs[k] ys[k] = false := by simpa using hd
      rw [eqAll_not (List.getElem?_eq_getElem hlt) (List.getElem?_eq_getElem (show k < ys.length by omega)) he]
    · have he : eq xs[k] ys[k] = true := by simpa using hd
      have hw1 : IntKind.wrap .i64 ((k : Int) + 1) = ((k + 1 : Nat) : Int) := by
        have := wrap_in ((k : Int) + 1) ⟨by omega, by omega⟩; omega
      refine wp_skip (wp_inBlock ?_)
      refine wp_region (t' := ?t21) (ds' := ?d21) (up' := ?u21) (s' := ?s21) (by kernel_rfl) ?h21 ?k21
      case h21 =>
        simp only [runOps_cons, ops_nil, opThen_true, nxThen_val, wantedV_none, opDo, eval_tmp, eval_int, get_putN, Nat.reduceEqDiff, reduceIte, nxVal_some, doBin, guardOk, isEq, cond_true, cond_false, binOpV, isShift, sameKind, decide_true, intOp, h17, mkInt_eq, hw1]
        exact rfl
      case k21 =>
      refine hnext (xs.length - (k + 1)) _ _ (by omega) ⟨k + 1, rfl, hlt, (hm4.call hf5).forget, ?_, ?_, ?_, ?_, ?_, ?_⟩
      · simp only [get_putN, Nat.reduceEqDiff, reduceIte, h15]
      · simp only [get_putN, Nat.reduceEqDiff, reduceIte, h1]
      · simp only [get_putN, Nat.reduceEqDiff, reduceIte, h2]
      · simp only [get_putN, Nat.reduceEqDiff, reduceIte, h16]
      · simp only [get_putN, Nat.reduceEqDiff, reduceIte]
      · intro i u v hi hu hv
        by_cases hik : i = k
        · subst hik
          rw [List.getElem?_eq_getElem hlt] at hu
          rw [List.getElem?_eq_getElem (show i < ys.length by omega)] at hv
          cases hu; cases hv; exact he
        · exact hT i u v (by omega) hu hv
  · have hkn : k = xs.length := by have := of_decide_eq_false hq; omega
    refine wp_exit rfl ?_
    repeat refine wp_seq ?_
    refine wp_region (t' := ?t22) (ds' := ?d22) (up' := ?u22) (s' := ?s22) (by kernel_rfl) ?h22 ?k22
    case h22 =>
      simp only [runOps_cons, ops_nil, opThen_true, nxThen_val, wantedV_none, opDo, eval_bool, nxVal_some]
      exact rfl
    case k22 =>
    refine wp_ret1 (.bool true) 6 rfl (by simp only [get_putN, Nat.reduceEqDiff, reduceIte]) ⟨?_, hm.fw⟩
    rw [eqAll_of hl fun i u v hu hv => hT i u v (by have := (List.getElem?_eq_some_iff.1 hu).1; omega) hu hv]

theorem cf29 (args : List V) (s : S) : callF envL 29 args s = some (.enter 29 args s) := by kernel_rfl
set_option maxRecDepth 10000 in
theorem eqOutputs {α : Type} (eq : α → α → Bool) (rd1 rd2 : α → List V → Prop) (g : FuncId) (hcf : ∀ args s, callF envL g args s = some (.enter g args s)) (K1 K2 : S → Prop) (hK1 : Stay K1) (hK2 : Stay K2) (xs ys : List α)
    (hg : ∀ x y lx ly s, x ∈ xs → rd1 x lx → rd2 y ly → WF s → K1 s → K2 s → Cw envL g [.agg lx, .agg ly] s fun v s' => v = .bool (eq x y) ∧ Fw [] s s')
    (va vb : V) (hA : Sl K1 27 4 va xs rd1) (hB : Sl K2 27 4 vb ys rd2) (s : S) (hw : WF s) (k1 : K1 s) (k2 : K2 s) :
    Cw envL 29 [va, vb, .func (.func g) [] []] s fun v s' => v = .bool (eqAll eq xs ys) ∧ Fw [] s s' := by
  refine cw_enter (fn := Tryz.f29) rfl Tryz.func29 rfl (by kernel_rfl) ?_
  rw [initT_cons, initT_cons, initT_cons, initT_nil]
  repeat refine wp_seq ?_
  refine wp_region (t' := ?t23) (ds' := ?d23) (up' := ?u23) (s' := ?s23) (by kernel_rfl) ?h23 ?k23
  case h23 =>
    simp only [runOps_cons, ops_nil, opThen_true, nxThen_val, wantedV_none, opDo, eval_bool, nxVal_some, Nat.zero_add, Nat.reduceAdd]
    exact rfl
  case k23 =>
  repeat refine wp_seq ?_
  refine wp_region (t' := ?t24) (ds' := ?d24) (up' := ?u24) (s' := ?s24) (by kernel_rfl) ?h24 ?k24
  case h24 =>
    simp only [runOps_cons, ops_nil, opThen_true, nxThen_val, wantedV_none, opDo, eval_tmp, get_putN, Nat.reduceEqDiff, reduceIte, nxVal_some, callTo, callB, evals, evP, List.getElem?_toArray, List.getElem?_cons_zero, doBin, guardOk, isEq, cond_true, cond_false, binOpV, isShift, sameKind, decide_true, intOp, hA.len, hB.len]
    exact rfl
  case k24 =>
  have hm := Me.start (F := []) hw
  refine wp_cond ((xs.length : Int) != (ys.length : Int)) (by simp only [eval_tmp, get_putN, Nat.reduceEqDiff, reduceIte]) (fun hq => ?_) (fun hq => ?_)
  · repeat refine wp_seq ?_
    refine wp_region (t' := ?t25) (ds' := ?d25) (up' := ?u25) (s' := ?s25) (by kernel_rfl) ?h25 ?k25
    case h25 =>
      simp only [runOps_cons, ops_nil, opThen_true, nxThen_val, wantedV_none, opDo, eval_bool, nxVal_some]
      exact rfl
    case k25 =>
    refine wp_ret1 (.bool false) 6 rfl (by simp only [get_putN, Nat.reduceEqDiff, reduceIte]) ⟨?_, hm.fw⟩
    rw [eqAll_len]
    intro h; rw [h] at hq; simp at hq
  have hl : xs.length = ys.length := by have := (bne_eq_false_iff_eq.1 hq); omega
  have hla := hA.bnd
  refine wp_skip ?_
  repeat refine wp_seq ?_
  refine wp_region (t' := ?t26) (ds' := ?d26) (up' := ?u26) (s' := ?s26) (by kernel_rfl) ?h26 ?k26
  case h26 =>
    simp only [runOps_cons, ops_nil, opThen_true, nxThen_val, wantedV_none, opDo, eval_tmp, eval_int, get_putN, Nat.reduceEqDiff, reduceIte, nxVal_some, callTo, callB, evals, evP, List.getElem?_toArray, List.getElem?_cons_zero, hA.len]
    exact rfl
  case k26 =>
  obtain ⟨pa, hpa⟩ := hA.el
  obtain ⟨pb, hpb⟩ := hB.el
  refine wp_block (wp_loop_inv (fun j t s' => ∃ k : Nat, j = xs.length - k ∧ k ≤ xs.length ∧ Me [] s s' [] ∧ t.get (pth 15) = some va ∧ t.get (pth 1) = some vb ∧ t.get (pth 2) = some (.func (.func g) [] []) ∧
      t.get (pth 16) = some (.int .i64 xs.length) ∧ t.get (pth 17) = some (.int .i64 k) ∧ ∀ (i : Nat) (x y : α), i < k → xs[i]? = some x → ys[i]? = some y → eq x y = true) ?_ (xs.length - 0) _ _ ⟨0, rfl, Nat.zero_le _, hm, ?_, ?_, ?_, ?_, ?_, by intro i _ _ hi; omega⟩)
  rotate_left
  · simp only [get_putN, Nat.reduceEqDiff, reduceIte]
  · simp only [get_putN, Nat.reduceEqDiff, reduceIte]
  · simp only [get_putN, Nat.reduceEqDiff, reduceIte]
  · simp only [get_putN, Nat.reduceEqDiff, reduceIte]
  · simp only [get_putN, Nat.reduceEqDiff, reduceIte]; rfl
  clear hm
  rintro j t s2 ⟨k, hj, hk, hm, h15, h1, h2, h16, h17, hT⟩ hnext
  have k1' := hK1 _ _ hm.fw k1
  have k2' := hK2 _ _ hm.fw k2
  repeat refine wp_seq ?_
  refine wp_region (t' := ?t27) (ds' := ?d27) (up' := ?u27) (s' := ?s27) (by kernel_rfl) ?h27 ?k27
  case h27 =>
    simp only [runOps_cons, ops_nil, opThen_true, nxThen_val, wantedV_none, opDo, eval_tmp, nxVal_some, doBin, guardOk, isEq, cond_true, cond_false, binOpV, isShift, sameKind, decide_true, intOp, h16, h17]
    exact rfl
  case k27 =>
  repeat refine wp_seq ?_
  refine wp_cond (decide ((k : Int) < (xs.length : Int))) (by simp only [eval_tmp, get_putN, reduceIte]) (fun hq => ?_) (fun hq => ?_)
  · have hlt : k < xs.length := by have := of_decide_eq_true hq; omega
    obtain ⟨ia, l1, e1, el1, o1, r1⟩ := hpa k _ (List.getElem?_eq_getElem hlt)
    obtain ⟨ib, l2, e2, el2, o2, r2⟩ := hpb k _ (List.getElem?_eq_getElem (show k < ys.length by omega))
    refine wp_skip ?_
    repeat refine wp_seq ?_
    refine wp_block ?_
    repeat refine wp_seq ?_
    refine wp_region (t' := ?t28) (ds' := ?d28) (up' := ?u28) (s' := ?s28) (by kernel_rfl) ?h28 ?k28
    case h28 =>
      simp only [nxSkip_some, doLoad_ptr, doStore_ptr, natOf_cast, runOps_cons, ops_nil, opThen_true, nxThen_val, nxThen_skip, wantedV_none, opDo, eval_tmp, get_putN, putD_none, Nat.reduceEqDiff, reduceIte, nxVal_some, evP, Option.map, h15, h17, ia, lv62, e1 s2 k1', al62, sv62 _ _ l1 el1, nw62 _ l1 o1 el1]
      exact rfl
    case k28 =>
    have hm3 := hm.alloc (B := .cells 62 false 1 [⟨0, 0, l1⟩]) (fun _ h => by cases h)
    generalize hs3 : S.alloc s2 _ = s3 at hm3 ⊢
    generalize hf3 : S.next s2 = f3 at hm3 ⊢
    have k2'' := hK2 _ _ hm3.fw k2
    repeat refine wp_seq ?_
    refine wp_region (t' := ?t29) (ds' := ?d29) (up' := ?u29) (s' := ?s29) (by kernel_rfl) ?h29 ?k29
    case h29 =>
      simp only [nxSkip_some, doLoad_ptr, doStore_ptr, natOf_cast, runOps_cons, ops_nil, opThen_true, nxThen_val, nxThen_skip, wantedV_none, opDo, eval_tmp, get_putN, putD_none, Nat.reduceEqDiff, reduceIte, nxVal_some, evP, Option.map, h1, ib, lv62, e2 s3 k2'', al62, sv62 _ _ l2 el2, nw62 _ l2 o2 el2]
      exact rfl
    case k29 =>
    have hm4 := hm3.alloc (B := .cells 62 false 1 [⟨0, 0, l2⟩]) (fun _ h => by cases h)
    generalize hs4 : S.alloc s3 _ = s4 at hm4 ⊢
    generalize hf4 : S.next s3 = f4 at hm4 ⊢
    have ga := hm4.at 1 rfl
    have gb := hm4.at 0 rfl
    obtain ⟨_, s5, hcall, rfl, hf5⟩ := hg _ _ l1 l2 s4 (List.getElem_mem hlt) r1 r2 hm4.wf (hK1 _ _ hm4.fw k1) (hK2 _ _ hm4.fw k2)
    have hcall := ca_rec hcall
    repeat refine wp_seq ?_
    refine wp_region (t' := ?t30) (ds' := ?d30) (up' := ?u30) (s' := ?s30) (by kernel_rfl) ?h30 ?k30
    case h30 =>
      simp only [doLoad_ptr, runOps_cons, ops_nil, opThen_true, nxThen_val, nxThen_enter, outThen_ret, wantedV_none, opDo, eval_tmp, get_putN, Nat.reduceEqDiff, reduceIte, nxVal_some, callTo, callV, doUn, unOpV, List.nil_append, List.append_nil, evals, evP, Option.map, h2, lv62, ldn ga, ldn gb, List.drop_zero, takeExact_all l1 _ el1, takeExact_all l2 _ el2, hcf, hcall]
      exact rfl
    case k30 =>
    refine wp_cond (!(eq xs[k] ys[k])) (by simp only [eval_tmp, get_putN, Nat.reduceEqDiff, reduceIte]) (fun hd => ?_) (fun hd => ?_)
    · repeat refine wp_seq ?_
      refine wp_region (t' := ?t31) (ds' := ?d31) (up' := ?u31) (s' := ?s31) (by kernel_rfl) ?h31 ?k31
      case h31 =>
        simp only [runOps_cons, ops_nil, opThen_true, nxThen_val, wantedV_none, opDo, eval_bool, nxVal_some]
        exact rfl
      case k31 =>
      refine wp_ret1 (.bool false) 6 rfl (by simp only [get_putN, Nat.reduceEqDiff, reduceIte]) ⟨?_, hm4.fw.trans hf5⟩
      have he : eq xs[k] ys[k] = false := by simpa using hd
      rw [eqAll_not (List.getElem?_eq_getElem hlt) (List.getElem?_eq_getElem (show k < ys.length by omega)) he]
    · have he : eq xs[k] ys[k] = true := by simpa using hd
      have hw1 : IntKind.wrap .i64 ((k : Int) + 1) = ((k + 1 : Nat) : Int) := by
        have := wrap_in ((k : Int) + 1) ⟨by omega, by omega⟩; omega
      refine wp_skip (wp_inBlock ?_)
      refine wp_region (t' := ?t32) (ds' := ?d32) (up' := ?u32) (s' := ?s32) (by kernel_rfl) ?h32 ?k32
      case h32 =>
        simp only [runOps_cons, ops_nil, opThen_true, nxThen_val, wantedV_none, opDo, eval_tmp, eval_int, get_putN, Nat.reduceEqDiff, reduceIte, nxVal_some, doBin, guardOk, isEq, cond_true, cond_false, binOpV, isShift, sameKind, decide_true, intOp, h17, mkInt_eq, hw1]
        exact rfl
      case k32 =>
      refine hnext (xs.length - (k + 1)) _ _ (by omega) ⟨k + 1, rfl, hlt, (hm4.call hf5).forget, ?_, ?_, ?_, ?_, ?_, ?_⟩
      · simp only [get_putN, Nat.reduceEqDiff, reduceIte, h15]
      · simp only [get_putN, Nat.reduceEqDiff, reduceIte, h1]
      · simp only [get_putN, Nat.reduceEqDiff, reduceIte, h2]
      · simp only [get_putN, Nat.reduceEqDiff, reduceIte, h16]
      · simp only [get_putN, Nat.reduceEqDiff, reduceIte]
      · intro i u v hi hu hv
        by_cases hik : i = k
        · subst hik
          rw [List.getElem?_eq_getElem hlt] at hu
          rw [List.getElem?_eq_getElem (show i < ys.length by omega)] at hv
          cases hu; cases hv; exact he
        · exact hT i u v (by omega) hu hv
  · have hkn : k = xs.length := by have := of_decide_eq_false hq; omega
    refine wp_exit rfl ?_
    repeat refine wp_seq ?_
    refine wp_region (t' := ?t33) (ds' := ?d33) (up' := ?u33) (s' := ?s33) (by kernel_rfl) ?h33 ?k33
    case h33 =>
      simp only [runOps_cons, ops_nil, opThen_true, nxThen_val, wantedV_none, opDo, eval_bool, nxVal_some]
      exact rfl
    case k33 =>
    refine wp_ret1 (.bool true) 6 rfl (by simp only [get_putN, Nat.reduceEqDiff, reduceIte]) ⟨?_, hm.fw⟩
    rw [eqAll_of hl fun i u v hu hv => hT i u v (by have := (List.getElem?_eq_some_iff.1 hu).1; omega) hu hv]

theorem cf45 (args : List V) (s : S) : callF envL 45 args s = some (.enter 45 args s) := by kernel_rfl
set_option maxRecDepth 10000 in
theorem eqValues {α : Type} (eq : α → α → Bool) (rd1 rd2 : α → List V → Prop) (g : FuncId) (hcf : ∀ args s, callF envL g args s = some (.enter g args s)) (K1 K2 : S → Prop) (hK1 : Stay K1) (hK2 : Stay K2) (xs ys : List α)
    (hg : ∀ x y lx ly s, x ∈ xs → rd1 x lx → rd2 y ly → WF s → K1 s → K2 s → Cw envL g [.agg lx, .agg ly] s fun v s' => v = .bool (eq x y) ∧ Fw [] s s')
    (va vb : V) (hA : Sl K1 31 3 va xs rd1) (hB : Sl K2 31 3 vb ys rd2) (s : S) (hw : WF s) (k1 : K1 s) (k2 : K2 s) :
    Cw envL 45 [va, vb, .func (.func g) [] []] s fun v s' => v = .bool (eqAll eq xs ys) ∧ Fw [] s s' := by
  refine cw_enter (fn := Tryz.f45) rfl Tryz.func45 rfl (by kernel_rfl) ?_
  rw [initT_cons, initT_cons, initT_cons, initT_nil]
  repeat refine wp_seq ?_
  refine wp_region (t' := ?t34) (ds' := ?d34) (up' := ?u34) (s' := ?s34) (by kernel_rfl) ?h34 ?k34
  case h34 =>
    simp only [runOps_cons, ops_nil, opThen_true, nxThen_val, wantedV_none, opDo, eval_bool, nxVal_some, Nat.zero_add, Nat.reduceAdd]
    exact rfl
  case k34 =>
  repeat refine wp_seq ?_
  refine wp_region (t' := ?t35) (ds' := ?d35) (up' := ?u35) (s' := ?s35) (by kernel_rfl) ?h35 ?k35
  case h35 =>
    simp only [runOps_cons, ops_nil, opThen_true, nxThen_val, wantedV_none, opDo, eval_tmp, get_putN, Nat.reduceEqDiff, reduceIte, nxVal_some, callTo, callB, evals, evP, List.getElem?_toArray, List.getElem?_cons_zero, doBin, guardOk, isEq, cond_true, cond_false, binOpV, isShift, sameKind, decide_true, intOp, hA.len, hB.len]
    exact rfl
  case k35 =>
  have hm := Me.start (F := []) hw
  refine wp_cond ((xs.length : Int) != (ys.length : Int)) (by simp only [eval_tmp, get_putN, Nat.reduceEqDiff, reduceIte]) (fun hq => ?_) (fun hq => ?_)
  · repeat refine wp_seq ?_
    refine wp_region (t' := ?t36) (ds' := ?d36) (up' := ?u36) (s' := ?s36) (by kernel_rfl) ?h36 ?k36
    case h36 =>
      simp only [runOps_cons, ops_nil, opThen_true, nxThen_val, wantedV_none, opDo, eval_bool, nxVal_some]
      exact rfl
    case k36 =>
    refine wp_ret1 (.bool false) 6 rfl (by simp only [get_putN, Nat.reduceEqDiff, reduceIte]) ⟨?_, hm.fw⟩
    rw [eqAll_len]
    intro h; rw [h] at hq; simp at hq
  have hl : xs.length = ys.length := by have := (bne_eq_false_iff_eq.1 hq); omega
  have hla := hA.bnd
  refine wp_skip ?_
  repeat refine wp_seq ?_
  refine wp_region (t' := ?t37) (ds' := ?d37) (up' := ?u37) (s' := ?s37) (by kernel_rfl) ?h37 ?k37
  case h37 =>
    simp only [runOps_cons, ops_nil, opThen_true, nxThen_val, wantedV_none, opDo, eval_tmp, eval_int, get_putN, Nat.reduceEqDiff, reduceIte, nxVal_some, callTo, callB, evals, evP, List.getElem?_toArray, List.getElem?_cons_zero, hA.len]
    exact rfl
  case k37 =>
  obtain ⟨pa, hpa⟩ := hA.el
  obtain ⟨pb, hpb⟩ := hB.el
  refine wp_block (wp_loop_inv (fun j t s' => ∃ k : Nat, j = xs.length - k ∧ k ≤ xs.length ∧ Me [] s s' [] ∧ t.get (pth 15) = some va ∧ t.get (pth 1) = some vb ∧ t.get (pth 2) = some (.func (.func g) [] []) ∧
      t.get (pth 16) = some (.int .i64 xs.length) ∧ t.get (pth 17) = some (.int .i64 k) ∧ ∀ (i : Nat) (x y : α), i < k → xs[i]? = some x → ys[i]? = some y → eq x y = true) ?_ (xs.length - 0) _ _ ⟨0, rfl, Nat.zero_le _, hm, ?_, ?_, ?_, ?_, ?_, by intro i _ _ hi; omega⟩)
  rotate_left
  · simp only [get_putN, Nat.reduceEqDiff, reduceIte]
  · simp only [get_putN, Nat.reduceEqDiff, reduceIte]
  · simp only [get_putN, Nat.reduceEqDiff, reduceIte]
  · simp only [get_putN, Nat.reduceEqDiff, reduceIte]
  · simp only [get_putN, Nat.reduceEqDiff, reduceIte]; rfl
  clear hm
  rintro j t s2 ⟨k, hj, hk, hm, h15, h1, h2, h16, h17, hT⟩ hnext
  have k1' := hK1 _ _ hm.fw k1
  have k2' := hK2 _ _ hm.fw k2
  repeat refine wp_seq ?_
  refine wp_region (t' := ?t38) (ds' := ?d38) (up' := ?u38) (s' := ?s38) (by kernel_rfl) ?h38 ?k38
  case h38 =>
    simp only [runOps_cons, ops_nil, opThen_true, nxThen_val, wantedV_none, opDo, eval_tmp, nxVal_some, doBin, guardOk, isEq, cond_true, cond_false, binOpV, isShift, sameKind, decide_true, intOp, h16, h17]
    exact rfl
  case k38 =>
  repeat refine wp_seq ?_
  refine wp_cond (decide ((k : Int) < (xs.length : Int))) (by simp only [eval_tmp, get_putN, reduceIte]) (fun hq => ?_) (fun hq => ?_)
  · have hlt : k < xs.length := by have := of_decide_eq_true hq; omega
    obtain ⟨ia, l1, e1, el1, o1, r1⟩ := hpa k _ (List.getElem?_eq_getElem hlt)
    obtain ⟨ib, l2, e2, el2, o2, r2⟩ := hpb k _ (List.getElem?_eq_getElem (show k < ys.length by omega))
    refine wp_skip ?_
    repeat refine wp_seq ?_
    refine wp_block ?_
    repeat refine wp_seq ?_
    refine wp_region (t' := ?t39) (ds' := ?d39) (up' := ?u39) (s' := ?s39) (by kernel_rfl) ?h39 ?k39
    case h39 =>
      simp only [nxSkip_some, doLoad_ptr, doStore_ptr, natOf_cast, runOps_cons, ops_nil, opThen_true, nxThen_val, nxThen_skip, wantedV_none, opDo, eval_tmp, get_putN, putD_none, Nat.reduceEqDiff, reduceIte, nxVal_some, evP, Option.map, h15, h17, ia, lv33, e1 s2 k1', al33, sv33 _ _ l1 el1, nw33 _ l1 o1 el1]
      exact rfl
    case k39 =>
    have hm3 := hm.alloc (B := .cells 33 false 1 [⟨0, 0, l1⟩]) (fun _ h => by cases h)
    generalize hs3 : S.alloc s2 _ = s3 at hm3 ⊢
    generalize hf3 : S.next s2 = f3 at hm3 ⊢
    have k2'' := hK2 _ _ hm3.fw k2
    repeat refine wp_seq ?_
    refine wp_region (t' := ?t40) (ds' := ?d40) (up' := ?u40) (s' := ?s40) (by kernel_rfl) ?h40 ?k40
    case h40 =>
      simp only [nxSkip_some, doLoad_ptr, doStore_ptr, natOf_cast, runOps_cons, ops_nil, opThen_true, nxThen_val, nxThen_skip, wantedV_none, opDo, eval_tmp, get_putN, putD_none, Nat.reduceEqDiff, reduceIte, nxVal_some, evP, Option.map, h1, ib, lv33, e2 s3 k2'', al33, sv33 _ _ l2 el2, nw33 _ l2 o2 el2]
      exact rfl
    case k40 =>
    have hm4 := hm3.alloc (B := .cells 33 false 1 [⟨0, 0, l2⟩]) (fun _ h => by cases h)
    generalize hs4 : S.alloc s3 _ = s4 at hm4 ⊢
    generalize hf4 : S.next s3 = f4 at hm4 ⊢
    have ga := hm4.at 1 rfl
    have gb := hm4.at 0 rfl
    obtain ⟨_, s5, hcall, rfl, hf5⟩ := hg _ _ l1 l2 s4 (List.getElem_mem hlt) r1 r2 hm4.wf (hK1 _ _ hm4.fw k1) (hK2 _ _ hm4.fw k2)
    have hcall := ca_rec hcall
    repeat refine wp_seq ?_
    refine wp_region (t' := ?t41) (ds' := ?d41) (up' := ?u41) (s' := ?s41) (by kernel_rfl) ?h41 ?k41
    case h41 =>
      simp only [doLoad_ptr, runOps_cons, ops_nil, opThen_true, nxThen_val, nxThen_enter, outThen_ret, wantedV_none, opDo, eval_tmp, get_putN, Nat.reduceEqDiff, reduceIte, nxVal_some, callTo, callV, doUn, unOpV, List.nil_append, List.append_nil, evals, evP, Option.map, h2, lv33, ldn ga, ldn gb, List.drop_zero, takeExact_all l1 _ el1, takeExact_all l2 _ el2, hcf, hcall]
      exact rfl
    case k41 =>
    refine wp_cond (!(eq xs[k] ys[k])) (by simp only [eval_tmp, get_putN, Nat.reduceEqDiff, reduceIte]) (fun hd => ?_) (fun hd => ?_)
    · repeat refine wp_seq ?_
      refine wp_region (t' := ?t42) (ds' := ?d42) (up' := ?u42) (s' := ?s42) (by kernel_rfl) ?h42 ?k42
      case h42 =>
        simp only [runOps_cons, ops_nil, opThen_true, nxThen_val, wantedV_none, opDo, eval_bool, nxVal_some]
        exact rfl
      case k42 =>
      refine wp_ret1 (.bool false) 6 rfl (by simp only [get_putN, Nat.reduceEqDiff, reduceIte]) ⟨?_, hm4.fw.trans hf5⟩
      have he : eq xs[k] ys[k] = false := by simpa using hd
      rw [eqAll_not (List.getElem?_eq_getElem hlt) (List.getElem?_eq_getElem (show k < ys.length by omega)) he]
    · have he : eq xs[k] ys[k] = true := by simpa using hd
      have hw1 : IntKind.wrap .i64 ((k : Int) + 1) = ((k + 1 : Nat) : Int) := by
        have := wrap_in ((k : Int) + 1) ⟨by omega, by omega⟩; omega
      refine wp_skip (wp_inBlock ?_)
      refine wp_region (t' := ?t43) (ds' := ?d43) (up' := ?u43) (s' := ?s43) (by kernel_rfl) ?h43 ?k43
      case h43 =>
        simp only [runOps_cons, ops_nil, opThen_true, nxThen_val, wantedV_none, opDo, eval_tmp, eval_int, get_putN, Nat.reduceEqDiff, reduceIte, nxVal_some, doBin, guardOk, isEq, cond_true, cond_false, binOpV, isShift, sameKind, decide_true, intOp, h17, mkInt_eq, hw1]
        exact rfl
      case k43 =>
      refine hnext (xs.length - (k + 1)) _ _ (by omega) ⟨k + 1, rfl, hlt, (hm4.call hf5).forget, ?_, ?_, ?_, ?_, ?_, ?_⟩
      · simp only [get_putN, Nat.reduceEqDiff, reduceIte, h15]
      · simp only [get_putN, Nat.reduceEqDiff, reduceIte, h1]
      · simp only [get_putN, Nat.reduceEqDiff, reduceIte, h2]
      · simp only [get_putN, Nat.reduceEqDiff, reduceIte, h16]
      · simp only [get_putN, Nat.reduceEqDiff, reduceIte]
      · intro i u v hi hu hv
        by_cases hik : i = k
        · subst hik
          rw [List.getElem?_eq_getElem hlt] at hu
          rw [List.getElem?_eq_getElem (show i < ys.length by omega)] at hv
          cases hu; cases hv; exact he
        · exact hT i u v (by omega) hu hv
  · have hkn : k = xs.length := by have := of_decide_eq_false hq; omega
    refine wp_exit rfl ?_
    repeat refine wp_seq ?_
    refine wp_region (t' := ?t44) (ds' := ?d44) (up' := ?u44) (s' := ?s44) (by kernel_rfl) ?h44 ?k44
    case h44 =>
      simp only [runOps_cons, ops_nil, opThen_true, nxThen_val, wantedV_none, opDo, eval_bool, nxVal_some]
      exact rfl
    case k44 =>
    refine wp_ret1 (.bool true) 6 rfl (by simp only [get_putN, Nat.reduceEqDiff, reduceIte]) ⟨?_, hm.fw⟩
    rw [eqAll_of hl fun i u v hu hv => hT i u v (by have := (List.getElem?_eq_some_iff.1 hu).1; omega) hu hv]

theorem cf22 (args : List V) (s : S) : callF envL 22 args s = some (.enter 22 args s) := by kernel_rfl
set_option maxRecDepth 10000 in
theorem eqRefs (K1 K2 : S → Prop) (hK1 : Stay K1) (hK2 : Stay K2) (xs ys : List Rf)
    (va vb : V) (hA : Sl K1 73 2 va xs RdRf) (hB : Sl K2 73 2 vb ys RdRf) (s : S) (hw : WF s) (k1 : K1 s) (k2 : K2 s) :
    Cw envL 22 [va, vb] s fun v s' => v = .bool (eqAll Rf.eqb xs ys) ∧ Fw [] s s' := by
  refine cw_enter (fn := Tryz.f22) rfl Tryz.func22 rfl (by kernel_rfl) ?_
  rw [initT_cons, initT_cons, initT_nil]
  repeat refine wp_seq ?_
  refine wp_region (t' := ?t45) (ds' := ?d45) (up' := ?u45) (s' := ?s45) (by kernel_rfl) ?h45 ?k45
  case h45 =>
    simp only [runOps_cons, ops_nil, opThen_true, nxThen_val, wantedV_none, opDo, eval_bool, nxVal_some, Nat.zero_add]
    exact rfl
  case k45 =>
  repeat refine wp_seq ?_
  refine wp_region (t' := ?t46) (ds' := ?d46) (up' := ?u46) (s' := ?s46) (by kernel_rfl) ?h46 ?k46
  case h46 =>
    simp only [runOps_cons, ops_nil, opThen_true, nxThen_val, wantedV_none, opDo, eval_tmp, get_putN, Nat.reduceEqDiff, reduceIte, nxVal_some, callTo, callB, evals, evP, List.getElem?_toArray, List.getElem?_cons_zero, doBin, guardOk, isEq, cond_true, cond_false, binOpV, isShift, sameKind, decide_true, intOp, hA.len, hB.len]
    exact rfl
  case k46 =>
  refine wp_cond ((xs.length : Int) != (ys.length : Int)) (by simp only [eval_tmp, get_putN, Nat.reduceEqDiff, reduceIte]) (fun hq => ?_) (fun hq => ?_)
  · repeat refine wp_seq ?_
    refine wp_region (t' := ?t47) (ds' := ?d47) (up' := ?u47) (s' := ?s47) (by kernel_rfl) ?h47 ?k47
    case h47 =>
      simp only [runOps_cons, ops_nil, opThen_true, nxThen_val, wantedV_none, opDo, eval_bool, nxVal_some]
      exact rfl
    case k47 =>
    refine wp_ret1 (.bool false) 4 rfl (by simp only [get_putN, Nat.reduceEqDiff, reduceIte]) ⟨?_, Fw.refl _ _⟩
    rw [eqAll_len]
    intro h; rw [h] at hq; simp at hq
  have hl : xs.length = ys.length := by have := (bne_eq_false_iff_eq.1 hq); omega
  have hla := hA.bnd
  refine wp_skip ?_
  repeat refine wp_seq ?_
  refine wp_region (t' := ?t48) (ds' := ?d48) (up' := ?u48) (s' := ?s48) (by kernel_rfl) ?h48 ?k48
  case h48 =>
    simp only [runOps_cons, ops_nil, opThen_true, nxThen_val, wantedV_none, opDo, eval_tmp, eval_int, get_putN, Nat.reduceEqDiff, reduceIte, nxVal_some, callTo, callB, evals, evP, List.getElem?_toArray, List.getElem?_cons_zero, hA.len]
    exact rfl
  case k48 =>
  obtain ⟨pa, hpa⟩ := hA.el
  obtain ⟨pb, hpb⟩ := hB.el
  refine wp_block (wp_loop_inv (fun j t s' => ∃ k : Nat, j = xs.length - k ∧ k ≤ xs.length ∧ s' = s ∧ t.get (pth 0) = some va ∧ t.get (pth 1) = some vb ∧
      t.get (pth 12) = some (.int .i64 xs.length) ∧ t.get (pth 13) = some (.int .i64 k) ∧ ∀ (i : Nat) (x y : Rf), i < k → xs[i]? = some x → ys[i]? = some y → Rf.eqb x y = true) ?_ (xs.length - 0) _ _ ⟨0, rfl, Nat.zero_le _, rfl, ?_, ?_, ?_, ?_, by intro i _ _ hi; omega⟩)
  rotate_left
  · simp only [get_putN, Nat.reduceEqDiff, reduceIte]
  · simp only [get_putN, Nat.reduceEqDiff, reduceIte]
  · simp only [get_putN, Nat.reduceEqDiff, reduceIte]
  · simp only [get_putN, Nat.reduceEqDiff, reduceIte]; rfl
  rintro j t _ ⟨k, hj, hk, rfl, h0, h1, h12, h13, hT⟩ hnext
  repeat refine wp_seq ?_
  refine wp_region (t' := ?t49) (ds' := ?d49) (up' := ?u49) (s' := ?s49) (by kernel_rfl) ?h49 ?k49
  case h49 =>
    simp only [runOps_cons, ops_nil, opThen_true, nxThen_val, wantedV_none, opDo, eval_tmp, nxVal_some, doBin, guardOk, isEq, cond_true, cond_false, binOpV, isShift, sameKind, decide_true, intOp, h13, h12]
    exact rfl
  case k49 =>
  repeat refine wp_seq ?_
  refine wp_cond (decide ((k : Int) < (xs.length : Int))) (by simp only [eval_tmp, get_putN, reduceIte]) (fun hq => ?_) (fun hq => ?_)
  · have hlt : k < xs.length := by have := of_decide_eq_true hq; omega
    obtain ⟨ia, l1, e1, el1, o1, r1⟩ := hpa k _ (List.getElem?_eq_getElem hlt)
    obtain ⟨ib, l2, e2, el2, o2, r2⟩ := hpb k _ (List.getElem?_eq_getElem (show k < ys.length by omega))
    have e1 := e1 _ k1
    have e2 := e2 _ k2
    refine wp_skip ?_
    repeat refine wp_seq ?_
    refine wp_block ?_
    repeat refine wp_seq ?_
    refine wp_region (t' := ?t50) (ds' := ?d50) (up' := ?u50) (s' := ?s50) (by kernel_rfl) ?h50 ?k50
    case h50 =>
      simp only [runOps_cons, ops_nil, opThen_true, nxThen_val, wantedV_none, opDo, eval_tmp, get_putN, Nat.reduceEqDiff, reduceIte, nxVal_some, h13]
      exact rfl
    case k50 =>
    repeat refine wp_seq ?_
    have r1 : l1 = xs[k].cs := r1
    have r2 : l2 = ys[k].cs := r2
    rw [r1] at e1
    rw [r2] at e2
    have hee := fun ok => eql23 ok xs[k] ys[k]
    refine wp_sch (t' := ?t51) (ds' := ?d51) (up' := ?u51) (s' := ?s51) [(some 1, 0), (some 1, 1), (some 1, 2), (some 1, 3), (some 1, 4), (some 1, 5), (some 1, 6), (some 1, 7), (some 1, 8)] (by kernel_rfl) (by kernel_rfl) ?h51 ?k51
    case h51 =>
      simp only [runSch_nil, runSch_f, runSchK_eq, schFloat_some, schThen_some, floatStep1_true, floatDo1_0, floatDo1_1, valOnly_val, readBoth_some, readTo_val, readAll_one, opKind, List.take_succ_cons, List.take_nil, doLoad_ptr, natOf_cast, wantedV_none, opDo, eval_tmp, get_putN, Nat.reduceEqDiff, reduceIte, nxVal_some, Bool.not_false, evP, List.getElem?_toArray, List.getElem?_cons_zero, List.getElem?_cons_succ, doBin, guardOk, isEq, cond_true, binOpV, Option.map, h0, h1, ia, ib, lv23, e1, e2, guard23, hee]
      exact rfl
    case k51 =>
    refine wp_cond (!(Rf.eqb xs[k] ys[k])) (by simp only [eval_tmp, get_putN, Nat.reduceEqDiff, reduceIte]) (fun hd => ?_) (fun hd => ?_)
    · repeat refine wp_seq ?_
      refine wp_region (t' := ?t52) (ds' := ?d52) (up' := ?u52) (s' := ?s52) (by kernel_rfl) ?h52 ?k52
      case h52 =>
        simp only [runOps_cons, ops_nil, opThen_true, nxThen_val, wantedV_none, opDo, eval_bool, nxVal_some]
        exact rfl
      case k52 =>
      refine wp_ret1 (.bool false) 4 rfl (by simp only [get_putN, Nat.reduceEqDiff, reduceIte]) ⟨?_, Fw.refl _ _⟩
      have he : Rf.eqb xs[k] ys[k] = false := by simpa using hd
      rw [eqAll_not (List.getElem?_eq_getElem hlt) (List.getElem?_eq_getElem (show k < ys.length by omega)) he]
    · have he : Rf.eqb xs[k] ys[k] = true := by simpa using hd
      have hw1 : IntKind.wrap .i64 ((k : Int) + 1) = ((k + 1 : Nat) : Int) := by
        have := wrap_in ((k : Int) + 1) ⟨by omega, by omega⟩; omega
      refine wp_skip (wp_inBlock ?_)
      refine wp_region (t' := ?t53) (ds' := ?d53) (up' := ?u53) (s' := ?s53) (by kernel_rfl) ?h53 ?k53
      case h53 =>
        simp only [runOps_cons, ops_nil, opThen_true, nxThen_val, wantedV_none, opDo, eval_tmp, eval_int, get_putN, Nat.reduceEqDiff, reduceIte, nxVal_some, doBin, guardOk, isEq, cond_true, cond_false, binOpV, isShift, sameKind, decide_true, intOp, h13, mkInt_eq, hw1]
        exact rfl
      case k53 =>
      refine hnext (xs.length - (k + 1)) _ _ (by omega) ⟨k + 1, rfl, hlt, rfl, ?_, ?_, ?_, ?_, ?_⟩
      · simp only [get_putN, Nat.reduceEqDiff, reduceIte, h0]
      · simp only [get_putN, Nat.reduceEqDiff, reduceIte, h1]
      · simp only [get_putN, Nat.reduceEqDiff, reduceIte, h12]
      · simp only [get_putN, Nat.reduceEqDiff, reduceIte]
      · intro i u v hi hu hv
        by_cases hik : i = k
        · subst hik
          rw [List.getElem?_eq_getElem hlt] at hu
          rw [List.getElem?_eq_getElem (show i < ys.length by omega)] at hv
          cases hu; cases hv; exact he
        · exact hT i u v (by omega) hu hv
  · have hkn : k = xs.length := by have := of_decide_eq_false hq; omega
    refine wp_exit rfl ?_
    repeat refine wp_seq ?_
    refine wp_region (t' := ?t54) (ds' := ?d54) (up' := ?u54) (s' := ?s54) (by kernel_rfl) ?h54 ?k54
    case h54 =>
      simp only [runOps_cons, ops_nil, opThen_true, nxThen_val, wantedV_none, opDo, eval_bool, nxVal_some]
      exact rfl
    case k54 =>
    refine wp_ret1 (.bool true) 4 rfl (by simp only [get_putN, Nat.reduceEqDiff, reduceIte]) ⟨?_, Fw.refl _ _⟩
    rw [eqAll_of hl fun i u v hu hv => hT i u v (by have := (List.getElem?_eq_some_iff.1 hu).1; omega) hu hv]

theorem cf28 (args : List V) (s : S) : callF envL 28 args s = some (.enter 28 args s) := by kernel_rfl
set_option maxRecDepth 10000 in
theorem eqTops (K1 K2 : S → Prop) (hK1 : Stay K1) (hK2 : Stay K2) (xs ys : List Tp)
    (va vb : V) (hA : Sl K1 26 3 va xs RdTp) (hB : Sl K2 26 3 vb ys RdTp) (s : S) (hw : WF s) (k1 : K1 s) (k2 : K2 s) :
    Cw envL 28 [va, vb] s fun v s' => v = .bool (eqAll Tp.eqb xs ys) ∧ Fw [] s s' := by
  refine cw_enter (fn := Tryz.f28) rfl Tryz.func28 rfl (by kernel_rfl) ?_
  rw [initT_cons, initT_cons, initT_nil]
  repeat refine wp_seq ?_
  refine wp_region (t' := ?t55) (ds' := ?d55) (up' := ?u55) (s' := ?s55) (by kernel_rfl) ?h55 ?k55
  case h55 =>
    simp only [runOps_cons, ops_nil, opThen_true, nxThen_val, wantedV_none, opDo, eval_bool, nxVal_some, Nat.zero_add]
    exact rfl
  case k55 =>
  repeat refine wp_seq ?_
  refine wp_region (t' := ?t56) (ds' := ?d56) (up' := ?u56) (s' := ?s56) (by kernel_rfl) ?h56 ?k56
  case h56 =>
    simp only [runOps_cons, ops_nil, opThen_true, nxThen_val, wantedV_none, opDo, eval_tmp, get_putN, Nat.reduceEqDiff, reduceIte, nxVal_some, callTo, callB, evals, evP, List.getElem?_toArray, List.getElem?_cons_zero, doBin, guardOk, isEq, cond_true, cond_false, binOpV, isShift, sameKind, decide_true, intOp, hA.len, hB.len]
    exact rfl
  case k56 =>
  refine wp_cond ((xs.length : Int) != (ys.length : Int)) (by simp only [eval_tmp, get_putN, Nat.reduceEqDiff, reduceIte]) (fun hq => ?_) (fun hq => ?_)
  · repeat refine wp_seq ?_
    refine wp_region (t' := ?t57) (ds' := ?d57) (up' := ?u57) (s' := ?s57) (by kernel_rfl) ?h57 ?k57
    case h57 =>
      simp only [runOps_cons, ops_nil, opThen_true, nxThen_val, wantedV_none, opDo, eval_bool, nxVal_some]
      exact rfl
    case k57 =>
    refine wp_ret1 (.bool false) 4 rfl (by simp only [get_putN, Nat.reduceEqDiff, reduceIte]) ⟨?_, Fw.refl _ _⟩
    rw [eqAll_len]
    intro h; rw [h] at hq; simp at hq
  have hl : xs.length = ys.length := by have := (bne_eq_false_iff_eq.1 hq); omega
  have hla := hA.bnd
  refine wp_skip ?_
  repeat refine wp_seq ?_
  refine wp_region (t' := ?t58) (ds' := ?d58) (up' := ?u58) (s' := ?s58) (by kernel_rfl) ?h58 ?k58
  case h58 =>
    simp only [runOps_cons, ops_nil, opThen_true, nxThen_val, wantedV_none, opDo, eval_tmp, eval_int, get_putN, Nat.reduceEqDiff, reduceIte, nxVal_some, callTo, callB, evals, evP, List.getElem?_toArray, List.getElem?_cons_zero, hA.len]
    exact rfl
  case k58 =>
  obtain ⟨pa, hpa⟩ := hA.el
  obtain ⟨pb, hpb⟩ := hB.el
  refine wp_block (wp_loop_inv (fun j t s' => ∃ k : Nat, j = xs.length - k ∧ k ≤ xs.length ∧ s' = s ∧ t.get (pth 0) = some va ∧ t.get (pth 1) = some vb ∧
      t.get (pth 12) = some (.int .i64 xs.length) ∧ t.get (pth 13) = some (.int .i64 k) ∧ ∀ (i : Nat) (x y : Tp), i < k → xs[i]? = some x → ys[i]? = some y → Tp.eqb x y = true) ?_ (xs.length - 0) _ _ ⟨0, rfl, Nat.zero_le _, rfl, ?_, ?_, ?_, ?_, by intro i _ _ hi; omega⟩)
  rotate_left
  · simp only [get_putN, Nat.reduceEqDiff, reduceIte]
  · simp only [get_putN, Nat.reduceEqDiff, reduceIte]
  · simp only [get_putN, Nat.reduceEqDiff, reduceIte]
  · simp only [get_putN, Nat.reduceEqDiff, reduceIte]; rfl
  rintro j t _ ⟨k, hj, hk, rfl, h0, h1, h12, h13, hT⟩ hnext
  repeat refine wp_seq ?_
  refine wp_region (t' := ?t59) (ds' := ?d59) (up' := ?u59) (s' := ?s59) (by kernel_rfl) ?h59 ?k59
  case h59 =>
    simp only [runOps_cons, ops_nil, opThen_true, nxThen_val, wantedV_none, opDo, eval_tmp, nxVal_some, doBin, guardOk, isEq, cond_true, cond_false, binOpV, isShift, sameKind, decide_true, intOp, h13, h12]
    exact rfl
  case k59 =>
  repeat refine wp_seq ?_
  refine wp_cond (decide ((k : Int) < (xs.length : Int))) (by simp only [eval_tmp, get_putN, reduceIte]) (fun hq => ?_) (fun hq => ?_)
  · have hlt : k < xs.length := by have := of_decide_eq_true hq; omega
    obtain ⟨ia, l1, e1, el1, o1, r1⟩ := hpa k _ (List.getElem?_eq_getElem hlt)
    obtain ⟨ib, l2, e2, el2, o2, r2⟩ := hpb k _ (List.getElem?_eq_getElem (show k < ys.length by omega))
    have e1 := e1 _ k1
    have e2 := e2 _ k2
    refine wp_skip ?_
    repeat refine wp_seq ?_
    refine wp_block ?_
    repeat refine wp_seq ?_
    refine wp_region (t' := ?t60) (ds' := ?d60) (up' := ?u60) (s' := ?s60) (by kernel_rfl) ?h60 ?k60
    case h60 =>
      simp only [runOps_cons, ops_nil, opThen_true, nxThen_val, wantedV_none, opDo, eval_tmp, get_putN, Nat.reduceEqDiff, reduceIte, nxVal_some, h13]
      exact rfl
    case k60 =>
    repeat refine wp_seq ?_
    obtain ⟨rfl, b1⟩ := r1
    obtain ⟨rfl, b2⟩ := r2
    have hee := fun ok => eql86 ok _ _ b1 b2
    refine wp_sch (t' := ?t61) (ds' := ?d61) (up' := ?u61) (s' := ?s61) [(some 1, 0), (some 1, 1), (some 1, 2), (some 1, 3), (some 1, 4), (some 1, 5), (some 1, 6), (some 1, 7), (some 1, 8)] (by kernel_rfl) (by kernel_rfl) ?h61 ?k61
    case h61 =>
      simp only [runSch_nil, runSch_f, runSchK_eq, schFloat_some, schThen_some, floatStep1_true, floatDo1_0, floatDo1_1, valOnly_val, readBoth_some, readTo_val, readAll_one, opKind, List.take_succ_cons, List.take_nil, doLoad_ptr, natOf_cast, wantedV_none, opDo, eval_tmp, get_putN, Nat.reduceEqDiff, reduceIte, nxVal_some, Bool.not_false, evP, List.getElem?_toArray, List.getElem?_cons_zero, List.getElem?_cons_succ, doBin, guardOk, isEq, cond_true, binOpV, Option.map, h0, h1, ia, ib, lv86, e1, e2, guard86, hee]
      exact rfl
    case k61 =>
    refine wp_cond (!(Tp.eqb xs[k] ys[k])) (by simp only [eval_tmp, get_putN, Nat.reduceEqDiff, reduceIte]) (fun hd => ?_) (fun hd => ?_)
    · repeat refine wp_seq ?_
      refine wp_region (t' := ?t62) (ds' := ?d62) (up' := ?u62) (s' := ?s62) (by kernel_rfl) ?h62 ?k62
      case h62 =>
        simp only [runOps_cons, ops_nil, opThen_true, nxThen_val, wantedV_none, opDo, eval_bool, nxVal_some]
        exact rfl
      case k62 =>
      refine wp_ret1 (.bool false) 4 rfl (by simp only [get_putN, Nat.reduceEqDiff, reduceIte]) ⟨?_, Fw.refl _ _⟩
      have he : Tp.eqb xs[k] ys[k] = false := by simpa using hd
      rw [eqAll_not (List.getElem?_eq_getElem hlt) (List.getElem?_eq_getElem (show k < ys.length by omega)) he]
    · have he : Tp.eqb xs[k] ys[k] = true := by simpa using hd
      have hw1 : IntKind.wrap .i64 ((k : Int) + 1) = ((k + 1 : Nat) : Int) := by
        have := wrap_in ((k : Int) + 1) ⟨by omega, by omega⟩; omega
      refine wp_skip (wp_inBlock ?_)
      refine wp_region (t' := ?t63) (ds' := ?d63) (up' := ?u63) (s' := ?s63) (by kernel_rfl) ?h63 ?k63
      case h63 =>
        simp only [runOps_cons, ops_nil, opThen_true, nxThen_val, wantedV_none, opDo, eval_tmp, eval_int, get_putN, Nat.reduceEqDiff, reduceIte, nxVal_some, doBin, guardOk, isEq, cond_true, cond_false, binOpV, isShift, sameKind, decide_true, intOp, h13, mkInt_eq, hw1]
        exact rfl
      case k63 =>
      refine hnext (xs.length - (k + 1)) _ _ (by omega) ⟨k + 1, rfl, hlt, rfl, ?_, ?_, ?_, ?_, ?_⟩
      · simp only [get_putN, Nat.reduceEqDiff, reduceIte, h0]
      · simp only [get_putN, Nat.reduceEqDiff, reduceIte, h1]
      · simp only [get_putN, Nat.reduceEqDiff, reduceIte, h12]
      · simp only [get_putN, Nat.reduceEqDiff, reduceIte]
      · intro i u v hi hu hv
        by_cases hik : i = k
        · subst hik
          rw [List.getElem?_eq_getElem hlt] at hu
          rw [List.getElem?_eq_getElem (show i < ys.length by omega)] at hv
          cases hu; cases hv; exact he
        · exact hT i u v (by omega) hu hv
  · have hkn : k = xs.length := by have := of_decide_eq_false hq; omega
    refine wp_exit rfl ?_
    repeat refine wp_seq ?_
    refine wp_region (t' := ?t64) (ds' := ?d64) (up' := ?u64) (s' := ?s64) (by kernel_rfl) ?h64 ?k64
    case h64 =>
      simp only [runOps_cons, ops_nil, opThen_true, nxThen_val, wantedV_none, opDo, eval_bool, nxVal_some]
      exact rfl
    case k64 =>
    refine wp_ret1 (.bool true) 4 rfl (by simp only [get_putN, Nat.reduceEqDiff, reduceIte]) ⟨?_, Fw.refl _ _⟩
    rw [eqAll_of hl fun i u v hu hv => hT i u v (by have := (List.getElem?_eq_some_iff.1 hu).1; omega) hu hv]

theorem cf31 (args : List V) (s : S) : callF envL 31 args s = some (.enter 31 args s) := by kernel_rfl
set_option maxRecDepth 10000 in
theorem sameRefs (K1 K2 : S → Prop) (hK1 : Stay K1) (hK2 : Stay K2) (xs ys : List Rf)
    (va vb : V) (hA : Sl K1 73 2 va xs RdRf) (hB : Sl K2 73 2 vb ys RdRf) (s : S) (hw : WF s) (k1 : K1 s) (k2 : K2 s) :
    Cw envL 31 [va, vb] s fun v s' => v = .bool (eqAll Rf.eqb xs ys) ∧ Fw [] s s' := by
  refine cw_enter (fn := Tryz.f31) rfl Tryz.func31 rfl (by kernel_rfl) ?_
  rw [initT_cons, initT_cons, initT_nil]
  repeat refine wp_seq ?_
  refine wp_region (t' := ?t65) (ds' := ?d65) (up' := ?u65) (s' := ?s65) (by kernel_rfl) ?h65 ?k65
  case h65 =>
    simp only [runOps_cons, ops_nil, opThen_true, nxThen_val, wantedV_none, opDo, eval_bool, nxVal_some, Nat.zero_add]
    exact rfl
  case k65 =>
  repeat refine wp_seq ?_
  refine wp_region (t' := ?t66) (ds' := ?d66) (up' := ?u66) (s' := ?s66) (by kernel_rfl) ?h66 ?k66
  case h66 =>
    simp only [runOps_cons, ops_nil, opThen_true, nxThen_val, wantedV_none, opDo, eval_tmp, get_putN, Nat.reduceEqDiff, reduceIte, nxVal_some, callTo, callB, evals, evP, List.getElem?_toArray, List.getElem?_cons_zero, doBin, guardOk, isEq, cond_true, cond_false, binOpV, isShift, sameKind, decide_true, intOp, hA.len, hB.len]
    exact rfl
  case k66 =>
  refine wp_cond ((xs.length : Int) != (ys.length : Int)) (by simp only [eval_tmp, get_putN, Nat.reduceEqDiff, reduceIte]) (fun hq => ?_) (fun hq => ?_)
  · repeat refine wp_seq ?_
    refine wp_region (t' := ?t67) (ds' := ?d67) (up' := ?u67) (s' := ?s67) (by kernel_rfl) ?h67 ?k67
    case h67 =>
      simp only [runOps_cons, ops_nil, opThen_true, nxThen_val, wantedV_none, opDo, eval_bool, nxVal_some]
      exact rfl
    case k67 =>
    refine wp_ret1 (.bool false) 4 rfl (by simp only [get_putN, Nat.reduceEqDiff, reduceIte]) ⟨?_, Fw.refl _ _⟩
    rw [eqAll_len]
    intro h; rw [h] at hq; simp at hq
  have hl : xs.length = ys.length := by have := (bne_eq_false_iff_eq.1 hq); omega
  have hla := hA.bnd
  refine wp_skip ?_
  repeat refine wp_seq ?_
  refine wp_region (t' := ?t68) (ds' := ?d68) (up' := ?u68) (s' := ?s68) (by kernel_rfl) ?h68 ?k68
  case h68 =>
    simp only [runOps_cons, ops_nil, opThen_true, nxThen_val, wantedV_none, opDo, eval_int, nxVal_some]
    exact rfl
  case k68 =>
  obtain ⟨pa, hpa⟩ := hA.el
  obtain ⟨pb, hpb⟩ := hB.el
  refine wp_block (wp_loop_inv (fun j t s' => ∃ k : Nat, j = xs.length - k ∧ k ≤ xs.length ∧ s' = s ∧ t.get (pth 0) = some va ∧ t.get (pth 1) = some vb ∧
      t.get (pth 5) = some (.int .i64 k) ∧ ∀ (i : Nat) (x y : Rf), i < k → xs[i]? = some x → ys[i]? = some y → Rf.eqb x y = true) ?_ (xs.length - 0) _ _ ⟨0, rfl, Nat.zero_le _, rfl, ?_, ?_, ?_, by intro i _ _ hi; omega⟩)
  rotate_left
  · simp only [get_putN, Nat.reduceEqDiff, reduceIte]
  · simp only [get_putN, Nat.reduceEqDiff, reduceIte]
  · simp only [get_putN, Nat.reduceEqDiff, reduceIte]; rfl
  rintro j t _ ⟨k, hj, hk, rfl, h0, h1, h13, hT⟩ hnext
  repeat refine wp_seq ?_
  refine wp_region (t' := ?t69) (ds' := ?d69) (up' := ?u69) (s' := ?s69) (by kernel_rfl) ?h69 ?k69
  case h69 =>
    simp only [runOps_cons, ops_nil, opThen_true, nxThen_val, wantedV_none, opDo, eval_tmp, get_putN, Nat.reduceEqDiff, reduceIte, nxVal_some, callTo, callB, evals, evP, List.getElem?_toArray, List.getElem?_cons_zero, doBin, guardOk, isEq, cond_true, cond_false, binOpV, isShift, sameKind, decide_true, intOp, h0, h13, hA.len]
    exact rfl
  case k69 =>
  repeat refine wp_seq ?_
  refine wp_cond (decide ((k : Int) < (xs.length : Int))) (by simp only [eval_tmp, get_putN, Nat.reduceEqDiff, reduceIte]) (fun hq => ?_) (fun hq => ?_)
  · have hlt : k < xs.length := by have := of_decide_eq_true hq; omega
    obtain ⟨ia, l1, e1, el1, o1, r1⟩ := hpa k _ (List.getElem?_eq_getElem hlt)
    obtain ⟨ib, l2, e2, el2, o2, r2⟩ := hpb k _ (List.getElem?_eq_getElem (show k < ys.length by omega))
    have e1 := e1 _ k1
    have e2 := e2 _ k2
    refine wp_skip ?_
    repeat refine wp_seq ?_
    refine wp_block ?_
    repeat refine wp_seq ?_
    have r1 : l1 = xs[k].cs := r1
    have r2 : l2 = ys[k].cs := r2
    rw [r1] at e1
    rw [r2] at e2
    have hee := fun ok => eql23 ok xs[k] ys[k]
    refine wp_sch (t' := ?t70) (ds' := ?d70) (up' := ?u70) (s' := ?s70) [(some 1, 0), (some 1, 1), (some 1, 2), (some 1, 3), (some 1, 4), (some 1, 5), (some 1, 6), (some 1, 7), (some 1, 8)] (by kernel_rfl) (by kernel_rfl) ?h70 ?k70
    case h70 =>
      simp only [runSch_nil, runSch_f, runSchK_eq, schFloat_some, schThen_some, floatStep1_true, floatDo1_0, floatDo1_1, valOnly_val, readBoth_some, readTo_val, readAll_one, opKind, List.take_succ_cons, List.take_nil, doLoad_ptr, natOf_cast, wantedV_none, opDo, eval_tmp, get_putN, Nat.reduceEqDiff, reduceIte, nxVal_some, Bool.not_false, evP, List.getElem?_toArray, List.getElem?_cons_zero, List.getElem?_cons_succ, doBin, guardOk, isEq, cond_true, binOpV, Option.map, h0, h1, h13, ia, ib, lv23, e1, e2, guard23, hee]
      exact rfl
    case k70 =>
    refine wp_cond (!(Rf.eqb xs[k] ys[k])) (by simp only [eval_tmp, get_putN, Nat.reduceEqDiff, reduceIte]) (fun hd => ?_) (fun hd => ?_)
    · repeat refine wp_seq ?_
      refine wp_region (t' := ?t71) (ds' := ?d71) (up' := ?u71) (s' := ?s71) (by kernel_rfl) ?h71 ?k71
      case h71 =>
        simp only [runOps_cons, ops_nil, opThen_true, nxThen_val, wantedV_none, opDo, eval_bool, nxVal_some]
        exact rfl
      case k71 =>
      refine wp_ret1 (.bool false) 4 rfl (by simp only [get_putN, Nat.reduceEqDiff, reduceIte]) ⟨?_, Fw.refl _ _⟩
      have he : Rf.eqb xs[k] ys[k] = false := by simpa using hd
      rw [eqAll_not (List.getElem?_eq_getElem hlt) (List.getElem?_eq_getElem (show k < ys.length by omega)) he]
    · have he : Rf.eqb xs[k] ys[k] = true := by simpa using hd
      have hw1 : IntKind.wrap .i64 ((k : Int) + 1) = ((k + 1 : Nat) : Int) := by
        have := wrap_in ((k : Int) + 1) ⟨by omega, by omega⟩; omega
      refine wp_skip (wp_inBlock ?_)
      refine wp_region (t' := ?t72) (ds' := ?d72) (up' := ?u72) (s' := ?s72) (by kernel_rfl) ?h72 ?k72
      case h72 =>
        simp only [runOps_cons, ops_nil, opThen_true, nxThen_val, wantedV_none, opDo, eval_tmp, eval_int, get_putN, Nat.reduceEqDiff, reduceIte, nxVal_some, doBin, guardOk, isEq, cond_true, cond_false, binOpV, isShift, sameKind, decide_true, intOp, h13, mkInt_eq, hw1]
        exact rfl
      case k72 =>
      refine hnext (xs.length - (k + 1)) _ _ (by omega) ⟨k + 1, rfl, hlt, rfl, ?_, ?_, ?_, ?_⟩
      · simp only [get_putN, Nat.reduceEqDiff, reduceIte, h0]
      · simp only [get_putN, Nat.reduceEqDiff, reduceIte, h1]
      · simp only [get_putN, Nat.reduceEqDiff, reduceIte]
      · intro i u v hi hu hv
        by_cases hik : i = k
        · subst hik
          rw [List.getElem?_eq_getElem hlt] at hu
          rw [List.getElem?_eq_getElem (show i < ys.length by omega)] at hv
          cases hu; cases hv; exact he
        · exact hT i u v (by omega) hu hv
  · have hkn : k = xs.length := by have := of_decide_eq_false hq; omega
    refine wp_exit rfl ?_
    repeat refine wp_seq ?_
    refine wp_region (t' := ?t73) (ds' := ?d73) (up' := ?u73) (s' := ?s73) (by kernel_rfl) ?h73 ?k73
    case h73 =>
      simp only [runOps_cons, ops_nil, opThen_true, nxThen_val, wantedV_none, opDo, eval_bool, nxVal_some]
      exact rfl
    case k73 =>
    refine wp_ret1 (.bool true) 4 rfl (by simp only [get_putN, Nat.reduceEqDiff, reduceIte]) ⟨?_, Fw.refl _ _⟩
    rw [eqAll_of hl fun i u v hu hv => hT i u v (by have := (List.getElem?_eq_some_iff.1 hu).1; omega) hu hv]

end Go.AI.Sv
