/- The program's reader of values, its outer function. No conditions. -/
import Derived.Test.YthedakdjiljmhaaGreatDoorSvValue
set_option linter.unusedVariables false
set_option linter.unusedSimpArgs false
noncomputable section
namespace Go.AI.Sv
open Go.Proofs

/-- What both Values answer. -/
def valR (cs : List Cl) (r : Rf) : Int × Vl :=
  if r.cell = true ∧ (r.num < 0 ∨ (cs.length : Int) ≤ r.num) then (3, zeroVl)
  else if (vis cs (cs.length + 1) cs.length r []).1 = false then (70, zeroVl)
  else if (pl cs cs.length r 0).1 ≠ 0 then ((pl cs cs.length r 0).1, zeroVl)
  else (0, (pl cs cs.length r 0).2.2)

def PostW (cs : List Cl) (r : Rf) (s : S) (v : V) (s' : S) : Prop :=
  ∃ l, v = .tuple [.agg l, .int .i64 (valR cs r).1] ∧ l.length = 3 ∧ l.all V.one = true ∧ RdVl (Kn s.next s') (cs.length + 1) (valR cs r).2 l ∧ Fw [] s s'

theorem build66 : ∀ (vc : V) (f : Nat), vc.one = true → doBuild Tryz.prog 66 (some [(0, vc), (1, .map f)]) = some (.agg [vc, .map f, .int .i64 0, .int .i64 0]) := by
  intro vc f h
  cases vc <;> first | (cases h; done) | kernel_rfl
theorem nxVal_some' (s : S) (v : V) : nxVal s (some v) = some (.val v s) := rfl

theorem wp_region_ex {E : Env} {f : FuncId} {fn : Func} {t : T V} {k : List Item} {ds : List Dfr} {up : Option Md} {rd : Option Nat} {s : S} {Q : Out → Prop} {id : Nat} {ops : Array Oper} (C : T V → Prop) (hd : dstOk ops fn.ntmps = true)
    (hr : ∃ t', runOps E ops (recOf (lim E)) (recROf (lim E)) rd ops.toList t ds up s = some (.on t' ds up s) ∧ C t') (h : ∀ t', C t' → Wp E f fn t' k ds up rd s Q) : Wp E f fn t (.code (.region id ops false) :: k) ds up rd s Q := by
  obtain ⟨t', hr, hC⟩ := hr
  exact wp_region hd hr (h t' hC)

theorem cf5 (args : List V) (s : S) : callF envL 5 args s = some (.enter 5 args s) := by kernel_rfl
set_option maxRecDepth 10000 in
set_option maxHeartbeats 2000000 in
theorem valueP (K : S → Prop) (hK : StayF K) (n : Nat) (x : Mc) (l1 : List V) (hx : RdMc K n x l1) (r : Rf) (s : S) (hw : WF s) (k0 : K s) : Cw envL 5 [.agg l1, .agg r.cs] s (PostW x.cells r s) := by
  obtain ⟨vf, vc, vt, vo, rfl, _, hC, _, _⟩ := hx
  generalize x.cells = cs at hC ⊢
  obtain ⟨rc, rn⟩ := r
  unfold Rf.cs
  refine cw_enter (fn := Tryz.f5) rfl Tryz.func5 rfl (by kernel_rfl) ?_
  rw [initT_cons, initT_cons, initT_nil]
  repeat refine wp_seq ?_
  refine wp_region (t' := ?t1) (ds' := ?d1) (up' := ?u1) (s' := ?s1) (by kernel_rfl) ?h1 ?k1
  case h1 =>
    simp only [runOps_cons, ops_nil, opThen_true, nxThen_val, wantedV_none, opDo, eval_tmp, eval_int, get_putN, Nat.reduceEqDiff, reduceIte, nxVal_some, doBox_agg, Nat.zero_add, evP, al33]
    exact rfl
  case k1 =>
  generalize hlm : [V.int .i64 x.mode, .int .i64 x.expr, .int .i64 x.env, .bool x.value.cell, .int .i64 x.value.num, vf, vc, vt, .int .i64 x.body, vo, .int .i64 x.steps] = lm
  have hlm6 : lm[6]? = some vc := by rw [← hlm]; rfl
  have hm := (((Me.start (F := []) hw).alloc (B := .cells 29 false 1 [⟨0, 0, lm⟩]) (fun _ h => by cases h)).alloc (B := .cells 23 false 1 [⟨0, 0, [.bool rc, .int .i64 rn]⟩]) (fun _ h => by cases h)).alloc (B := .cells 33 false 1 [⟨0, 0, [.str [], .int .i64 0, .nilslice]⟩]) (fun _ h => by cases h)
  generalize hs1 : S.alloc (S.alloc (S.alloc s _) _) _ = s1 at hm ⊢
  generalize hf4 : S.next (S.alloc (S.alloc s _) _) = f4 at hm ⊢
  generalize hf3 : S.next (S.alloc s _) = f3 at hm ⊢
  generalize hf2 : S.next s = f2 at hm ⊢
  have g2 := hm.at 2 rfl
  have g3 := hm.at 1 rfl
  have g4 := hm.at 0 rfl
  repeat refine wp_seq ?_
  by_cases hbad : rc = true ∧ (rn < 0 ∨ (cs.length : Int) ≤ rn)
  · obtain ⟨hc, hb⟩ := hbad
    have ev : valR cs ⟨rc, rn⟩ = (3, zeroVl) := by simp [valR, hc, hb]
    by_cases hn : rn < 0
    · have p1 : decide (rn < 0) = true := decide_eq_true hn
      refine wp_region (t' := ?t2) (ds' := ?d2) (up' := ?u2) (s' := ?s2) (by kernel_rfl) ?h2 ?k2
      case h2 =>
        simp only [doLoad_ptr, runOps_cons, ops_nil, opThen_true, opThen_false, nxThen_val, wantedV_none, wantedV_some, guardV_some, guardB_bool, opDo, eval_tmp, eval_int, eval_bool, get_putN, Nat.reduceEqDiff, reduceIte, nxVal_some, doPick, bTT, bTF, Nat.zero_add, Nat.add_zero, evP, List.getElem?_toArray, List.getElem?_cons_zero, List.getElem?_cons_succ, Option.bind, doBin, guardOk, isEq, cond_true, cond_false, binOpV, isShift, sameKind, decide_true, intOp, fa23_0, lv4, ld1 g3, fa23_1, lv3, p1, hc]
        exact rfl
      case k2 =>
      refine wp_cond true (by simp only [eval_tmp, get_putN, Nat.reduceEqDiff, reduceIte]) (fun _ => ?_) (fun h => by cases h)
      repeat refine wp_seq ?_
      refine wp_region (t' := ?t3) (ds' := ?d3) (up' := ?u3) (s' := ?s3) (by kernel_rfl) ?h3 ?k3
      case h3 =>
        simp only [nxSkip_some, doStore_ptr, runOps_cons, ops_nil, opThen_true, nxThen_val, nxThen_skip, wantedV_none, opDo, eval_tmp, eval_int, get_putN, putD_none, Nat.reduceEqDiff, reduceIte, nxVal_some, evP, evalsO, build33_0, sva33, st1 g4 0 [.str [], .int .i64 0, .nilslice] rfl rfl]
        exact rfl
      case k3 =>
      have hm := hm.put 0 rfl (B' := .cells 33 false 1 [⟨0, 0, [.str [], .int .i64 0, .nilslice]⟩]) (fun _ h => by cases h)
      generalize hs4 : S.put s1 _ _ = s4 at hm ⊢
      simp only [List.set_cons_zero] at hm
      have g4 := hm.at 0 rfl
      refine wp_retc2 (.agg [.str [], .int .i64 0, .nilslice]) (.int .i64 3) 4 5 ⟨f4, 0, 0⟩ 33 rfl (by simp only [get_putN, Nat.reduceEqDiff, reduceIte]) (by rw [evP, lv33, ldn g4]; rfl) (by simp only [get_putN, Nat.reduceEqDiff, reduceIte]) ⟨_, by rw [ev], rfl, rfl, ?_, hm.fw⟩
      rw [ev]; exact rd_leaf _ _ _
    · have p1 : decide (rn < 0) = false := decide_eq_false hn
      have p2 : decide (rn ≥ (cs.length : Int)) = true := by simp; omega
      refine wp_region (t' := ?t4) (ds' := ?d4) (up' := ?u4) (s' := ?s4) (by kernel_rfl) ?h4 ?k4
      case h4 =>
        simp only [doLoad_ptr, runOps_cons, ops_nil, opThen_true, nxThen_val, wantedV_none, wantedV_some, guardV_some, guardB_bool, opDo, eval_tmp, eval_int, get_putN, Nat.reduceEqDiff, reduceIte, nxVal_some, callTo, callB, doPick, bTT, bFF, Nat.zero_add, Nat.add_zero, evals, evP, List.getElem?_toArray, List.getElem?_cons_zero, List.getElem?_cons_succ, Option.bind, doBin, guardOk, isEq, cond_true, cond_false, binOpV, isShift, sameKind, decide_true, intOp, fa23_0, lv4, ld1 g3, fa23_1, lv3, fa29_5, lv25, ld1 g2, hlm6, hC.len, p1, p2, hc]
        exact rfl
      case k4 =>
      refine wp_cond true (by simp only [eval_tmp, get_putN, Nat.reduceEqDiff, reduceIte]) (fun _ => ?_) (fun h => by cases h)
      repeat refine wp_seq ?_
      refine wp_region (t' := ?t5) (ds' := ?d5) (up' := ?u5) (s' := ?s5) (by kernel_rfl) ?h5 ?k5
      case h5 =>
        simp only [nxSkip_some, doStore_ptr, runOps_cons, ops_nil, opThen_true, nxThen_val, nxThen_skip, wantedV_none, opDo, eval_tmp, eval_int, get_putN, putD_none, Nat.reduceEqDiff, reduceIte, nxVal_some, evP, evalsO, build33_0, sva33, st1 g4 0 [.str [], .int .i64 0, .nilslice] rfl rfl]
        exact rfl
      case k5 =>
      have hm := hm.put 0 rfl (B' := .cells 33 false 1 [⟨0, 0, [.str [], .int .i64 0, .nilslice]⟩]) (fun _ h => by cases h)
      generalize hs4 : S.put s1 _ _ = s4 at hm ⊢
      simp only [List.set_cons_zero] at hm
      have g4 := hm.at 0 rfl
      refine wp_retc2 (.agg [.str [], .int .i64 0, .nilslice]) (.int .i64 3) 4 5 ⟨f4, 0, 0⟩ 33 rfl (by simp only [get_putN, Nat.reduceEqDiff, reduceIte]) (by rw [evP, lv33, ldn g4]; rfl) (by simp only [get_putN, Nat.reduceEqDiff, reduceIte]) ⟨_, by rw [ev], rfl, rfl, ?_, hm.fw⟩
      rw [ev]; exact rd_leaf _ _ _
  have ev : valR cs ⟨rc, rn⟩ = if (vis cs (cs.length + 1) cs.length ⟨rc, rn⟩ []).1 = false then (70, zeroVl) else if (pl cs cs.length ⟨rc, rn⟩ 0).1 ≠ 0 then ((pl cs cs.length ⟨rc, rn⟩ 0).1, zeroVl) else (0, (pl cs cs.length ⟨rc, rn⟩ 0).2.2) := by
    simp only [valR, if_neg hbad]
  refine wp_region_ex (C := fun t => t.get (pth 2) = some (.ptr ⟨f2, 0, 0⟩) ∧ t.get (pth 3) = some (.ptr ⟨f3, 0, 0⟩) ∧ t.get (pth 4) = some (.ptr ⟨f4, 0, 0⟩) ∧ t.get (pth 22) = some (.bool false)) (by kernel_rfl) ?_ ?_
  · by_cases hc : rc = false
    · refine ⟨?ta, ?ha, ?ca⟩
      case ha =>
        simp only [doLoad_ptr, runOps_cons, ops_nil, opThen_true, opThen_false, nxThen_val, wantedV_none, wantedV_some, guardV_some, guardB_bool, guardB_undef, opDo, eval_tmp, eval_bool, get_putN, Nat.reduceEqDiff, reduceIte, nxVal_some, doPick, bFT, Nat.add_zero, evP, List.getElem?_toArray, List.getElem?_cons_zero, List.getElem?_cons_succ, Option.bind, cond_false, fa23_0, lv4, ld1 g3, hc]
        exact rfl
      case ca => refine ⟨?_, ?_, ?_, ?_⟩ <;> simp only [get_putN, Nat.reduceEqDiff, reduceIte]
    · have hc : rc = true := by simpa using hc
      have hb : ¬ (rn < 0 ∨ (cs.length : Int) ≤ rn) := fun h => hbad ⟨hc, h⟩
      have p1 : decide (rn < 0) = false := by simp; omega
      have p2 : decide (rn ≥ (cs.length : Int)) = false := by simp; omega
      refine ⟨?tb, ?hb, ?cb⟩
      case hb =>
        simp only [doLoad_ptr, runOps_cons, ops_nil, opThen_true, nxThen_val, wantedV_none, wantedV_some, guardV_some, guardB_bool, opDo, eval_tmp, eval_int, get_putN, Nat.reduceEqDiff, reduceIte, nxVal_some, callTo, callB, doPick, bTT, bFF, Nat.zero_add, Nat.add_zero, evals, evP, List.getElem?_toArray, List.getElem?_cons_zero, List.getElem?_cons_succ, Option.bind, doBin, guardOk, isEq, cond_true, cond_false, binOpV, isShift, sameKind, decide_true, intOp, fa23_0, lv4, ld1 g3, fa23_1, lv3, fa29_5, lv25, ld1 g2, hlm6, hC.len, hc, p1, p2]
        exact rfl
      case cb => refine ⟨?_, ?_, ?_, ?_⟩ <;> simp only [get_putN, Nat.reduceEqDiff, reduceIte]
  rintro t ⟨h2, h3, h4, h22⟩
  refine wp_cond false (by simp only [eval_tmp, h22]) (fun h => by cases h) (fun _ => ?_)
  refine wp_skip ?_
  repeat refine wp_seq ?_
  refine wp_region (t' := ?t6) (ds' := ?d6) (up' := ?u6) (s' := ?s6) (by kernel_rfl) ?h6 ?k6
  case h6 =>
    simp only [doLoad_ptr, runOps_cons, ops_nil, opThen_true, nxThen_val, wantedV_none, opDo, eval_tmp, get_putN, Nat.reduceEqDiff, reduceIte, nxVal_some, doBox_agg, Nat.zero_add, evP, h2, fa29_5, lv25, ld1 g2, hlm6, evalsO, build66 _ _ hC.one, doBox_agg]
    exact rfl
  case k6 =>
  have hm := (hm.alloc (B := .map [] 0) (fun _ h => by cases h)).alloc (B := .cells 66 false 1 [⟨0, 0, [vc, .map (S.next s1), .int .i64 0, .int .i64 0]⟩]) (fun _ h => by cases h)
  generalize hs2 : S.alloc (S.alloc s1 _) _ = s2 at hm ⊢
  generalize hf6 : S.next (S.alloc s1 _) = f6 at hm ⊢
  have hne : f6 ≠ S.next s1 := by rw [← hf6, S.next_alloc]; omega
  generalize hf5 : S.next s1 = f5 at hm hne ⊢
  have g2 := hm.at 4 rfl
  have g3 := hm.at 3 rfl
  have g4 := hm.at 2 rfl
  have k2 := hK _ _ _ hm.fw k0
  obtain ⟨_, s3, call, rfl, hmap, hfw3⟩ := fits K hK cs vc hC f6 f5 hne cs.length ⟨rc, rn⟩ cs.length [] s2 (Int.le_refl _) (Int.le_refl _) hm.wf k2 ⟨_, _, _, _, _, hm.at 0 rfl⟩ ⟨[], 0, hm.at 1 rfl, rfl⟩
  have call := ca_rec call
  unfold Rf.cs at call
  obtain ⟨es, clock, hmap, _⟩ := hmap
  have hm := hm.call1 1 rfl (fun _ h => by cases h) hfw3 hmap
  simp only [List.set_cons_succ, List.set_cons_zero] at hm
  repeat refine wp_seq ?_
  refine wp_region (t' := ?t7) (ds' := ?d7) (up' := ?u7) (s' := ?s7) (by kernel_rfl) ?h7 ?k7
  case h7 =>
    simp only [doLoad_ptr, runOps_cons, ops_nil, opThen_true, nxThen_val, nxThen_enter, outThen_ret, wantedV_none, opDo, eval_tmp, eval_func, get_putN, Nat.reduceEqDiff, reduceIte, nxVal_some, callTo, callB, callV, doUn, unOpV, List.nil_append, List.append_nil, Nat.zero_add, evals, evP, List.getElem?_toArray, List.getElem?_cons_zero, Option.map, h2, h3, fa29_5, lv25, lv23, ldn g3, List.drop_zero, takeExact_all [.bool rc, .int .i64 rn] 2 rfl, ld1 g2, hlm6, hC.len, cf17, call]
    exact rfl
  case k7 =>
  have g2 := hm.at 4 rfl
  have g3 := hm.at 3 rfl
  have g4 := hm.at 2 rfl
  repeat refine wp_seq ?_
  have k3 := hK _ _ _ hm.fw k0
  cases hv : (vis cs (cs.length + 1) cs.length ⟨rc, rn⟩ []).1 with
  | false =>
    have ev : valR cs ⟨rc, rn⟩ = (70, zeroVl) := by rw [ev, if_pos hv]
    refine wp_cond true (by simp only [eval_tmp, get_putN, Nat.reduceEqDiff, reduceIte, Bool.not_false]) (fun _ => ?_) (fun h => by cases h)
    repeat refine wp_seq ?_
    refine wp_region (t' := ?t8) (ds' := ?d8) (up' := ?u8) (s' := ?s8) (by kernel_rfl) ?h8 ?k8
    case h8 =>
      simp only [nxSkip_some, doStore_ptr, runOps_cons, ops_nil, opThen_true, nxThen_val, nxThen_skip, wantedV_none, opDo, eval_tmp, eval_int, get_putN, putD_none, Nat.reduceEqDiff, reduceIte, nxVal_some, Bool.not_false, evP, h4, evalsO, build33_0, sva33, st1 g4 0 [.str [], .int .i64 0, .nilslice] rfl rfl]
      exact rfl
    case k8 =>
    have hm := hm.put 2 rfl (B' := .cells 33 false 1 [⟨0, 0, [.str [], .int .i64 0, .nilslice]⟩]) (fun _ h => by cases h)
    generalize hs4 : S.put s3 _ _ = s4 at hm ⊢
    simp only [List.set_cons_succ, List.set_cons_zero] at hm
    have g4 := hm.at 2 rfl
    refine wp_retc2 (.agg [.str [], .int .i64 0, .nilslice]) (.int .i64 70) 4 5 ⟨f4, 0, 0⟩ 33 rfl (by simp only [get_putN, Nat.reduceEqDiff, reduceIte, h4]) (by rw [evP, lv33, ldn g4]; rfl) (by simp only [get_putN, Nat.reduceEqDiff, reduceIte]) ⟨_, by rw [ev], rfl, rfl, ?_, hm.fw⟩
    rw [ev]; exact rd_leaf _ _ _
  | true =>
    rw [hv] at ev
    simp only [Bool.true_eq_false, if_false] at ev
    have hwo := vis_top cs _ _ hv
    refine wp_cond false (by simp only [eval_tmp, get_putN, Nat.reduceEqDiff, reduceIte, Bool.not_true]) (fun h => by cases h) (fun _ => ?_)
    refine wp_skip ?_
    repeat refine wp_seq ?_
    obtain ⟨_, s4, call, l, rfl, hl3, hl1, hrd, gr, hfw4⟩ := value_c K hK cs vc hC f6 f5 66 false 1 cs.length ⟨rc, rn⟩ 0 s3 hwo (Nat.zero_le _) hm.wf k3 (hm.at 0 rfl)
    have call := ca_rec call
    unfold Rf.cs at call
    have lt4 := hm.wf _ _ g4
    have hn3 := hm.fw.next
    have hm := hm.call1 0 rfl (fun _ h => by cases h) hfw4 gr
    simp only [List.set_cons_zero] at hm
    refine wp_region (t' := ?t9) (ds' := ?d9) (up' := ?u9) (s' := ?s9) (by kernel_rfl) ?h9 ?k9
    case h9 =>
      simp only [nxSkip_some, doLoad_ptr, doStore_ptr, runOps_cons, ops_nil, opThen_true, nxThen_val, nxThen_skip, nxThen_enter, outThen_ret, wantedV_none, opDo, eval_tmp, eval_func, get_putN, putD_none, Nat.reduceEqDiff, reduceIte, nxVal_some, callTo, callV, Bool.not_true, List.nil_append, List.append_nil, evals, evP, Option.map, h3, lv23, ldn g3, List.drop_zero, takeExact_all [.bool rc, .int .i64 rn] 2 rfl, cf18, call, al33, sv33 _ _ l hl3, nw33 _ l hl1 hl3]
      exact rfl
    case k9 =>
    have hw4 := hm.wf
    have hm := hm.alloc (B := .cells 33 false 1 [⟨0, 0, l⟩]) (fun _ h => by cases h)
    have hKn : Kn s3.next s4 (S.alloc s4 (.cells 33 false 1 [⟨0, 0, l⟩])) := fun g B hg hB => (Fw.alloc [] hw4 _).keep g B (by simp) hB
    generalize hs5 : S.alloc s4 _ = s5 at hm hKn ⊢
    generalize hf7 : S.next s4 = f7 at hm ⊢
    have gr := hm.at 1 rfl
    have g7 := hm.at 0 rfl
    have g4 := hm.at 3 rfl
    generalize hp : pl cs cs.length ⟨rc, rn⟩ 0 = p at *
    obtain ⟨pe, pk, pv⟩ := p
    simp only at ev hrd gr hm
    repeat refine wp_seq ?_
    refine wp_region (t' := ?t10) (ds' := ?d10) (up' := ?u10) (s' := ?s10) (by kernel_rfl) ?h10 ?k10
    case h10 =>
      simp only [doLoad_ptr, runOps_cons, ops_nil, opThen_true, nxThen_val, wantedV_none, opDo, eval_tmp, eval_int, get_putN, Nat.reduceEqDiff, reduceIte, nxVal_some, Nat.zero_add, evP, List.getElem?_cons_zero, List.getElem?_cons_succ, doBin, guardOk, isEq, cond_true, cond_false, binOpV, isShift, sameKind, decide_true, intOp, fa66_3, doNilCheck_ptr, lv34, ld1 gr]
      exact rfl
    case k10 =>
    refine wp_cond (pe != 0) (by simp only [eval_tmp, get_putN, Nat.reduceEqDiff, reduceIte]) (fun hd => ?_) (fun hd => ?_)
    · have hne : pe ≠ 0 := by simpa using hd
      rw [if_pos hne] at ev
      repeat refine wp_seq ?_
      have grp : (S.put s5 f4 (.cells 33 false 1 [⟨0, 0, [.str [], .int .i64 0, .nilslice]⟩])).get f6 = _ := (hm.put 3 rfl (B' := .cells 33 false 1 [⟨0, 0, [.str [], .int .i64 0, .nilslice]⟩]) (fun _ h => by cases h)).at 1 rfl
      refine wp_sch (t' := ?t11) (ds' := ?d11) (up' := ?u11) (s' := ?s11) [(some 1, 0), (none, 5), (some 2, 1), (some 2, 2), (some 2, 3), (some 2, 4), (some 1, 6)] (by kernel_rfl) (by kernel_rfl) ?h11 ?k11
      case h11 =>
        simp only [runSch_nil, runSch_f, runSch_e, runSchK_eq, runSchE_eq, schFloat_some, schThen_some, schEff_some, schEThen_some, schNext_true, floatStep1_true, effStep_true, effDo_skip, floatDo1_0, valOnly_val, readBoth_some, readTo_val, readAll_one, readAll_two, readCons_same, opKind, List.take_succ_cons, List.take_zero, List.take_nil, nxSkip_some, doLoad_ptr, doStore_ptr, wantedV_none, opDo, eval_tmp, get_putN, putD_none, Nat.reduceEqDiff, reduceIte, nxVal_some, Nat.zero_add, evP, List.getElem?_toArray, List.getElem?_cons_zero, List.getElem?_cons_succ, floatDo1_1c, h4, evalsO, build33_0, sva33, st1 g4 0 [.str [], .int .i64 0, .nilslice] rfl rfl, fa66_3, doNilCheck_ptr, lv34, ld1 gr, ld1 grp, ble_put]
        exact rfl
      case k11 =>
      have hm := hm.put 3 rfl (B' := .cells 33 false 1 [⟨0, 0, [.str [], .int .i64 0, .nilslice]⟩]) (fun _ h => by cases h)
      generalize hs6 : S.put s5 _ _ = s6 at hm ⊢
      simp only [List.set_cons_succ, List.set_cons_zero] at hm
      have g4 := hm.at 3 rfl
      refine wp_retc2 (.agg [.str [], .int .i64 0, .nilslice]) (.int .i64 pe) 4 5 ⟨f4, 0, 0⟩ 33 rfl (by simp only [get_putN, Nat.reduceEqDiff, reduceIte, h4]) (by rw [evP, lv33, ldn g4]; rfl) (by simp only [get_putN, Nat.reduceEqDiff, reduceIte]) ⟨_, by rw [ev], rfl, rfl, ?_, hm.fw⟩
      rw [ev]; exact rd_leaf _ _ _
    · have he : pe = 0 := by simpa using hd
      subst he
      simp only [ne_eq, not_true, if_false] at ev
      refine wp_skip ?_
      repeat refine wp_seq ?_
      refine wp_region (t' := ?t12) (ds' := ?d12) (up' := ?u12) (s' := ?s12) (by kernel_rfl) ?h12 ?k12
      case h12 =>
        simp only [nxSkip_some, doLoad_ptr, doStore_ptr, runOps_cons, ops_nil, opThen_true, nxThen_val, nxThen_skip, wantedV_none, opDo, eval_tmp, eval_int, get_putN, putD_none, Nat.reduceEqDiff, reduceIte, nxVal_some, evP, Option.map, h4, lv33, ldn g7, List.drop_zero, takeExact_all l 3 hl3, sv33 _ _ l hl3, st1 g4 0 l hl1 (overwrite_all [.str [], .int .i64 0, .nilslice] l hl3)]
        exact rfl
      case k12 =>
      have hm := hm.put 3 rfl (B' := .cells 33 false 1 [⟨0, 0, l⟩]) (fun _ h => by cases h)
      have hKn : Kn s3.next s4 (S.put s5 f4 (.cells 33 false 1 [⟨0, 0, l⟩])) := fun g B hg hB => by rw [S.get_put, if_neg (by omega)]; exact hKn g B hg hB
      generalize hs6 : S.put s5 _ _ = s6 at hm hKn ⊢
      simp only [List.set_cons_succ, List.set_cons_zero] at hm
      have g4 := hm.at 3 rfl
      refine wp_retc2 (.agg l) (.int .i64 0) 4 5 ⟨f4, 0, 0⟩ 33 rfl (by simp only [get_putN, Nat.reduceEqDiff, reduceIte, h4]) (by rw [evP, lv33, ldn g4, List.drop_zero, takeExact_all l 3 hl3]; rfl) (by simp only [get_putN, Nat.reduceEqDiff, reduceIte]) ⟨_, by rw [ev], hl3, hl1, ?_, hm.fw⟩
      rw [ev]
      exact RdVl.mono (fun s'' hs g B hg hB => hs g B (by omega) (hKn g B hg hB)) _ _ _ (hrd rfl)
end Go.AI.Sv
