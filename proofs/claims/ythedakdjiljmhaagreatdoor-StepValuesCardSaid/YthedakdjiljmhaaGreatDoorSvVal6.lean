/- The reference's reader of values. No conditions. -/
import Derived.Test.YthedakdjiljmhaaGreatDoorSvPlain
set_option linter.unusedVariables false
set_option linter.unusedSimpArgs false
noncomputable section
namespace Go.AI.Sv
open Go.Proofs

theorem small4 (N : Nat) (h : N ≤ 2199023255552) : smallT Tryz.prog 4 N = true := by
  have e : smallT Tryz.prog 4 N = Nat.ble (1 * N) 100000000000000 := by kernel_rfl
  rw [e]; exact Nat.ble_eq_true_of_le (by omega)
theorem bools_nil (N : Nat) : (List.replicate N (V.bool false).cells).flatten = boolsOf N [] := by
  apply List.ext_getElem?
  intro i
  have e : (List.replicate N (V.bool false).cells).flatten = List.replicate N (V.bool false) := by
    show (List.replicate N [V.bool false]).flatten = _
    simp
  rw [e]
  by_cases hi : i < N
  · rw [bools_get hi, List.getElem?_replicate_of_lt hi]; simp
  · rw [List.getElem?_eq_none (by simp; omega), List.getElem?_eq_none (by rw [bools_len]; omega)]
theorem msl70 (s : S) (N : Nat) (h : N ≤ 2199023255552) : doMkSlice Tryz.prog s 70 (some N) (some N) = some (.val (.slice ⟨s.next, 0, 0⟩ 0 N (some N) 1) (s.alloc (SB N []))) := by
  have h1 : Nat.beq 1 0 = false := rfl
  have h2 : Nat.beq (V.bool false).cells.length 1 = true := rfl
  simp only [doMkSlice, und70, zero4, ty_size4, ble_self, Nat.ble_eq_true_of_le h, h1, h2, small4 N h, Bool.not_false, Bool.and_self, cond_true, newCells, newCellsB, bools_nil]
theorem nw3 (s : S) : storeCells (s.alloc (.cells 3 false 1 [⟨0, 0, [.int .i64 0]⟩])) ⟨s.next, 0, 0⟩ [.int .i64 0] = some (s.alloc (.cells 3 false 1 [⟨0, 0, [.int .i64 0]⟩])) := st_new s 3 [.int .i64 0] [.int .i64 0] rfl rfl

theorem cf6 (args : List V) (s : S) : callF envL 6 args s = some (.enter 6 args s) := by kernel_rfl
set_option maxRecDepth 10000 in
set_option maxHeartbeats 2000000 in
theorem valueR (K : S → Prop) (hK : StayF K) (n : Nat) (x : Mc) (hbulk : x.cells.length ≤ 2199023255552) (l1 : List V) (hx : RdMc K n x l1) (r : Rf) (s : S) (hw : WF s) (k0 : K s) : Cw envL 6 [.agg l1, .agg r.cs] s (PostW x.cells r s) := by
  obtain ⟨vf, vc, vt, vo, rfl, _, hC, _, _⟩ := hx
  generalize x.cells = cs at hC hbulk ⊢
  obtain ⟨rc, rn⟩ := r
  unfold Rf.cs
  refine cw_enter (fn := Tryz.f6) rfl Tryz.func6 rfl (by kernel_rfl) ?_
  rw [initT_cons, initT_cons, initT_nil]
  repeat refine wp_seq ?_
  refine wp_region (t' := ?t1) (ds' := ?d1) (up' := ?u1) (s' := ?s1) (by kernel_rfl) ?h1 ?k1
  case h1 =>
    simp only [runOps_cons, ops_nil, opThen_true, nxThen_val, wantedV_none, opDo, eval_tmp, eval_int, get_putN, Nat.reduceEqDiff, reduceIte, nxVal_some, doBox_agg, Nat.zero_add, evP, al33]
    exact rfl
  case k1 =>
  generalize hlm : [V.int .i64 x.mode, .int .i64 x.expr, .int .i64 x.env, .bool x.value.cell, .int .i64 x.value.num, vf, vc, vt, .int .i64 x.body, vo, .int .i64 x.steps] = lm
  have hlm6 : lm[6]? = some vc := by rw [← hlm]; rfl
  have hlm11 : lm.length = 11 := by rw [← hlm]; rfl
  have hm := (((Me.start (F := []) hw).alloc (B := .cells 29 false 1 [⟨0, 0, lm⟩]) (fun _ h => by cases h)).alloc (B := .cells 23 false 1 [⟨0, 0, [.bool rc, .int .i64 rn]⟩]) (fun _ h => by cases h)).alloc (B := .cells 33 false 1 [⟨0, 0, [.str [], .int .i64 0, .nilslice]⟩]) (fun _ h => by cases h)
  generalize hs1 : S.alloc (S.alloc (S.alloc s _) _) _ = s1 at hm ⊢
  generalize hf4 : S.next (S.alloc (S.alloc s _) _) = f4 at hm ⊢
  generalize hf3 : S.next (S.alloc s _) = f3 at hm ⊢
  generalize hf2 : S.next s = f2 at hm ⊢
  have g2 := hm.at 2 rfl
  have g3 := hm.at 1 rfl
  have g4 := hm.at 0 rfl
  repeat refine wp_seq ?_
  by_cases hbad : rc = true ∧ (rn < 0 ∨ (cs.length : Int) ≤ rn)
  · obtain ⟨hc, hb⟩ := hbad
    have ev : valR cs ⟨rc, rn⟩ = (3, zeroVl) := by simp [valR, hc, hb]
    refine wp_region_ex (C := fun t => t.get (pth 2) = some (.ptr ⟨f2, 0, 0⟩) ∧ t.get (pth 3) = some (.ptr ⟨f3, 0, 0⟩) ∧ t.get (pth 4) = some (.ptr ⟨f4, 0, 0⟩) ∧ t.get (pth 21) = some (.bool true)) (by kernel_rfl) ?_ ?_
    · by_cases hn : rn < 0
      · have p1 : decide (rn < 0) = true := decide_eq_true hn
        refine ⟨?ta, ?ha, ?ca⟩
        case ha =>
          simp only [doLoad_ptr, runOps_cons, ops_nil, opThen_true, opThen_false, nxThen_val, wantedV_none, wantedV_some, guardV_some, guardB_bool, opDo, eval_tmp, eval_int, eval_bool, get_putN, Nat.reduceEqDiff, reduceIte, nxVal_some, doPick, bTT, bTF, Nat.zero_add, Nat.add_zero, evP, List.getElem?_toArray, List.getElem?_cons_zero, List.getElem?_cons_succ, Option.bind, doBin, guardOk, isEq, cond_true, cond_false, binOpV, isShift, sameKind, decide_true, intOp, fa23_0, lv4, ld1 g3, fa23_1, lv3, p1, hc]
          exact rfl
        case ca => refine ⟨?_, ?_, ?_, ?_⟩ <;> simp only [get_putN, Nat.reduceEqDiff, reduceIte]
      · have p1 : decide (rn < 0) = false := decide_eq_false hn
        have p2 : decide (rn ≥ (cs.length : Int)) = true := by simp; omega
        refine ⟨?tb, ?hb, ?cb⟩
        case hb =>
          simp only [doLoad_ptr, runOps_cons, ops_nil, opThen_true, nxThen_val, wantedV_none, wantedV_some, guardV_some, guardB_bool, opDo, eval_tmp, eval_int, get_putN, Nat.reduceEqDiff, reduceIte, nxVal_some, callTo, callB, doPick, bTT, bFF, Nat.zero_add, Nat.add_zero, evals, evP, List.getElem?_toArray, List.getElem?_cons_zero, List.getElem?_cons_succ, Option.bind, doBin, guardOk, isEq, cond_true, cond_false, binOpV, isShift, sameKind, decide_true, intOp, fa23_0, lv4, ld1 g3, fa23_1, lv3, fa29_5, lv25, ld1 g2, hlm6, hC.len, p1, p2, hc]
          exact rfl
        case cb => refine ⟨?_, ?_, ?_, ?_⟩ <;> simp only [get_putN, Nat.reduceEqDiff, reduceIte]
    rintro t ⟨h2, h3, h4, h21⟩
    refine wp_cond true (by simp only [eval_tmp, h21]) (fun _ => ?_) (fun h => by cases h)
    repeat refine wp_seq ?_
    refine wp_region (t' := ?t2) (ds' := ?d2) (up' := ?u2) (s' := ?s2) (by kernel_rfl) ?h2 ?k2
    case h2 =>
      simp only [nxSkip_some, doStore_ptr, runOps_cons, ops_nil, opThen_true, nxThen_val, nxThen_skip, wantedV_none, opDo, eval_tmp, eval_int, get_putN, putD_none, Nat.reduceEqDiff, reduceIte, nxVal_some, evP, h4, evalsO, build33_0, sva33, st1 g4 0 [.str [], .int .i64 0, .nilslice] rfl rfl]
      exact rfl
    case k2 =>
    have hm := hm.put 0 rfl (B' := .cells 33 false 1 [⟨0, 0, [.str [], .int .i64 0, .nilslice]⟩]) (fun _ h => by cases h)
    generalize hs4 : S.put s1 _ _ = s4 at hm ⊢
    simp only [List.set_cons_zero] at hm
    have g4 := hm.at 0 rfl
    refine wp_retc2 (.agg [.str [], .int .i64 0, .nilslice]) (.int .i64 3) 4 5 ⟨f4, 0, 0⟩ 33 rfl (by simp only [get_putN, Nat.reduceEqDiff, reduceIte, h4]) (by rw [evP, lv33, ldn g4]; rfl) (by simp only [get_putN, Nat.reduceEqDiff, reduceIte]) ⟨_, by rw [ev], rfl, rfl, ?_, hm.fw⟩
    rw [ev]; exact rd_leaf _ _ _
  have ev : valR cs ⟨rc, rn⟩ = if (vis cs (cs.length + 1) cs.length ⟨rc, rn⟩ []).1 = false then (70, zeroVl) else if (pl cs cs.length ⟨rc, rn⟩ 0).1 ≠ 0 then ((pl cs cs.length ⟨rc, rn⟩ 0).1, zeroVl) else (0, (pl cs cs.length ⟨rc, rn⟩ 0).2.2) := by
    simp only [valR, if_neg hbad]
  refine wp_region_ex (C := fun t => t.get (pth 2) = some (.ptr ⟨f2, 0, 0⟩) ∧ t.get (pth 3) = some (.ptr ⟨f3, 0, 0⟩) ∧ t.get (pth 4) = some (.ptr ⟨f4, 0, 0⟩) ∧ t.get (pth 21) = some (.bool false)) (by kernel_rfl) ?_ ?_
  · by_cases hc : rc = false
    · refine ⟨?te, ?he, ?ce⟩
      case he =>
        simp only [doLoad_ptr, runOps_cons, ops_nil, opThen_true, opThen_false, nxThen_val, wantedV_none, wantedV_some, guardV_some, guardB_bool, guardB_undef, opDo, eval_tmp, eval_bool, get_putN, Nat.reduceEqDiff, reduceIte, nxVal_some, doPick, bFT, Nat.add_zero, evP, List.getElem?_toArray, List.getElem?_cons_zero, List.getElem?_cons_succ, Option.bind, cond_false, fa23_0, lv4, ld1 g3, hc]
        exact rfl
      case ce => refine ⟨?_, ?_, ?_, ?_⟩ <;> simp only [get_putN, Nat.reduceEqDiff, reduceIte]
    · have hc : rc = true := by simpa using hc
      have hb : ¬ (rn < 0 ∨ (cs.length : Int) ≤ rn) := fun h => hbad ⟨hc, h⟩
      have p1 : decide (rn < 0) = false := by simp; omega
      have p2 : decide (rn ≥ (cs.length : Int)) = false := by simp; omega
      refine ⟨?tf, ?hf, ?cf⟩
      case hf =>
        simp only [doLoad_ptr, runOps_cons, ops_nil, opThen_true, nxThen_val, wantedV_none, wantedV_some, guardV_some, guardB_bool, opDo, eval_tmp, eval_int, get_putN, Nat.reduceEqDiff, reduceIte, nxVal_some, callTo, callB, doPick, bTT, bFF, Nat.zero_add, Nat.add_zero, evals, evP, List.getElem?_toArray, List.getElem?_cons_zero, List.getElem?_cons_succ, Option.bind, doBin, guardOk, isEq, cond_true, cond_false, binOpV, isShift, sameKind, decide_true, intOp, fa23_0, lv4, ld1 g3, fa23_1, lv3, fa29_5, lv25, ld1 g2, hlm6, hC.len, hc, p1, p2]
        exact rfl
      case cf => refine ⟨?_, ?_, ?_, ?_⟩ <;> simp only [get_putN, Nat.reduceEqDiff, reduceIte]
  rintro t ⟨h2, h3, h4, h21⟩
  refine wp_cond false (by simp only [eval_tmp, h21]) (fun h => by cases h) (fun _ => ?_)
  refine wp_skip ?_
  repeat refine wp_seq ?_
  have hin : (Rf.mk rc rn).cell = true → 0 ≤ (Rf.mk rc rn).num ∧ (Rf.mk rc rn).num < (cs.length : Int) := by
    simp only
    intro hc
    have hb : ¬ (rn < 0 ∨ (cs.length : Int) ≤ rn) := fun h => hbad ⟨hc, h⟩
    omega
  have hm2 := hm.alloc (B := SB cs.length []) (fun _ h => by cases h)
  have hK2 := hK _ _ _ hm2.fw k0
  obtain ⟨_, s3, call, rfl, gs3, hfw3⟩ := ordered K hK cs vc hC lm hlm6 hlm11 (S.next s1) cs.length ⟨rc, rn⟩ cs.length [] (S.alloc s1 (SB cs.length [])) (Int.le_refl _) (Int.le_refl _) hin hm2.wf hK2 (hm2.at 0 rfl)
  have call := ca_rec call
  unfold Rf.cs at call
  have hm := hm2.call1 0 rfl (fun _ h => by cases h) hfw3 gs3
  simp only [List.set_cons_zero] at hm
  refine wp_sch (t' := ?t3) (ds' := ?d3) (up' := ?u3) (s' := ?s3) [(some 1, 0), (some 1, 1), (some 1, 2), (some 1, 3), (some 1, 4), (some 1, 5), (none, 6), (some 1, 7)] (by kernel_rfl) (by kernel_rfl) ?h3 ?k3
  case h3 =>
    simp only [runSch_nil, runSch_f, runSch_e, runSchK_eq, runSchE_eq, schFloat_some, schThen_some, schEff_some, schEThen_some, schNext_true, floatStep1_true, effStep_true, effDo_enter, effEnd_ret, floatDo1_0, floatDo1_1, floatDo1_2, valOnly_val, valBoth_val, readBoth_some, readTo_val, readAll_one, opKind, List.take_succ_cons, List.take_zero, List.take_nil, doLoad_ptr, natOf_cast, wantedV_none, opDo, eval_tmp, eval_func, get_putN, Nat.reduceEqDiff, reduceIte, nxVal_some, callTo, callB, callV, doUn, unOpV, List.nil_append, List.append_nil, Nat.zero_add, evals, evP, List.getElem?_toArray, List.getElem?_cons_zero, List.getElem?_cons_succ, Option.map, h2, h3, lv29, ldn g2, List.drop_zero, takeExact_all lm 11 hlm11, fa29_5, lv25, lv23, ldn g3, takeExact_all [.bool rc, .int .i64 rn] 2 rfl, ld1 g2, hlm6, hC.len, msl70 _ _ hbulk, cf19, call, hfw3.ble]
    exact rfl
  case k3 =>
  have hm := hm.tl
  have g2 := hm.at 2 rfl
  have g3 := hm.at 1 rfl
  have g4 := hm.at 0 rfl
  have k3 := hK _ _ _ hm.fw k0
  cases hv : (vis cs (cs.length + 1) cs.length ⟨rc, rn⟩ []).1 with
  | false =>
    have ev : valR cs ⟨rc, rn⟩ = (70, zeroVl) := by rw [ev, if_pos hv]
    refine wp_cond true (by simp only [eval_tmp, get_putN, Nat.reduceEqDiff, reduceIte, Bool.not_false]) (fun _ => ?_) (fun h => by cases h)
    repeat refine wp_seq ?_
    refine wp_region (t' := ?t4) (ds' := ?d4) (up' := ?u4) (s' := ?s4) (by kernel_rfl) ?h4 ?k4
    case h4 =>
      simp only [nxSkip_some, doStore_ptr, runOps_cons, ops_nil, opThen_true, nxThen_val, nxThen_skip, wantedV_none, opDo, eval_tmp, eval_int, get_putN, putD_none, Nat.reduceEqDiff, reduceIte, nxVal_some, Bool.not_false, evP, h4, evalsO, build33_0, sva33, st1 g4 0 [.str [], .int .i64 0, .nilslice] rfl rfl]
      exact rfl
    case k4 =>
    have hm := hm.put 0 rfl (B' := .cells 33 false 1 [⟨0, 0, [.str [], .int .i64 0, .nilslice]⟩]) (fun _ h => by cases h)
    generalize hs4 : S.put s3 _ _ = s4 at hm ⊢
    simp only [List.set_cons_zero] at hm
    have g4 := hm.at 0 rfl
    refine wp_retc2 (.agg [.str [], .int .i64 0, .nilslice]) (.int .i64 70) 4 5 ⟨f4, 0, 0⟩ 33 rfl (by simp only [get_putN, Nat.reduceEqDiff, reduceIte, h4]) (by rw [evP, lv33, ldn g4]; rfl) (by simp only [get_putN, Nat.reduceEqDiff, reduceIte]) ⟨_, by rw [ev], rfl, rfl, ?_, hm.fw⟩
    rw [ev]; exact rd_leaf _ _ _
  | true =>
    rw [hv] at ev
    simp only [Bool.true_eq_false, if_false] at ev
    have hwo := vis_top cs _ _ hv
    refine wp_cond false (by simp only [eval_tmp, get_putN, Nat.reduceEqDiff, reduceIte, Bool.not_true]) (fun h => by cases h) (fun _ => ?_)
    refine wp_skip ?_
    repeat refine wp_seq ?_
    refine wp_region (t' := ?t5) (ds' := ?d5) (up' := ?u5) (s' := ?s5) (by kernel_rfl) ?h5 ?k5
    case h5 =>
      simp only [nxSkip_some, doStore_ptr, runOps_cons, ops_nil, opThen_true, nxThen_val, nxThen_skip, wantedV_none, opDo, eval_tmp, eval_int, get_putN, putD_none, Nat.reduceEqDiff, reduceIte, Bool.not_true, evP, al3, svi3, nw3]
      exact rfl
    case k5 =>
    have hm := hm.alloc (B := CB 0) (fun _ h => by cases h)
    generalize hs5 : S.alloc s3 _ = s5 at hm ⊢
    generalize hf6 : S.next s3 = f6 at hm ⊢
    have k5 := hK _ _ _ hm.fw k0
    have g2 := hm.at 3 rfl
    have g3 := hm.at 2 rfl
    have g4 := hm.at 1 rfl
    have hn5 := hm.fw.next
    have lt4 := hm.wf _ _ g4
    obtain ⟨_, s6, call, l, rfl, hl3, hl1, hrd, gr, hfw6⟩ := plain_c K hK cs vc hC lm hlm6 hlm11 f6 cs.length ⟨rc, rn⟩ 0 s5 hwo (Nat.zero_le _) hm.wf k5 (hm.at 0 rfl)
    have call := ca_rec call
    unfold Rf.cs at call
    have hm := hm.call1 0 rfl (fun _ h => by cases h) hfw6 gr
    simp only [List.set_cons_zero] at hm
    have g4 := hm.at 1 rfl
    repeat refine wp_seq ?_
    refine wp_region (t' := ?t6) (ds' := ?d6) (up' := ?u6) (s' := ?s6) (by kernel_rfl) ?h6 ?k6
    case h6 =>
      simp only [nxSkip_some, doLoad_ptr, doStore_ptr, runOps_cons, ops_nil, opThen_true, nxThen_val, nxThen_skip, nxThen_enter, outThen_ret, wantedV_none, opDo, eval_tmp, eval_func, get_putN, putD_none, Nat.reduceEqDiff, reduceIte, nxVal_some, callTo, callV, List.nil_append, List.append_nil, evals, evP, List.getElem?_cons_zero, List.getElem?_cons_succ, Option.map, h2, h3, h4, lv29, ldn g2, List.drop_zero, takeExact_all lm 11 hlm11, lv23, ldn g3, takeExact_all [.bool rc, .int .i64 rn] 2 rfl, cf20, call, doExtract_tuple, sv33 _ _ l hl3, st1 g4 0 l hl1 (overwrite_all [.str [], .int .i64 0, .nilslice] l hl3)]
      exact rfl
    case k6 =>
    have hm := hm.put 1 rfl (B' := .cells 33 false 1 [⟨0, 0, l⟩]) (fun _ h => by cases h)
    have hKn : Kn s5.next s6 (S.put s6 f4 (.cells 33 false 1 [⟨0, 0, l⟩])) := fun g B hg hB => by rw [S.get_put, if_neg (by omega)]; exact hB
    generalize hs7 : S.put s6 _ _ = s7 at hm hKn ⊢
    simp only [List.set_cons_succ, List.set_cons_zero] at hm
    have g4 := hm.at 1 rfl
    have ev2 : valR cs ⟨rc, rn⟩ = ((pl cs cs.length ⟨rc, rn⟩ 0).1, plV cs cs.length ⟨rc, rn⟩ 0) := by
      rw [ev]; unfold plV
      by_cases hz : (pl cs cs.length ⟨rc, rn⟩ 0).1 = 0
      · simp [hz]
      · simp [hz]
    refine wp_retc2 (.agg l) (.int .i64 (pl cs cs.length ⟨rc, rn⟩ 0).1) 4 5 ⟨f4, 0, 0⟩ 33 rfl (by simp only [get_putN, Nat.reduceEqDiff, reduceIte, h4]) (by rw [evP, lv33, ldn g4, List.drop_zero, takeExact_all l 3 hl3]; rfl) (by simp only [get_putN, Nat.reduceEqDiff, reduceIte]) ⟨_, by rw [ev2], hl3, hl1, ?_, hm.fw⟩
    rw [ev2]
    exact RdVl.mono (fun s'' hs g B hg hB => hs g B (by omega) (hKn g B hg hB)) _ _ _ hrd
end Go.AI.Sv
