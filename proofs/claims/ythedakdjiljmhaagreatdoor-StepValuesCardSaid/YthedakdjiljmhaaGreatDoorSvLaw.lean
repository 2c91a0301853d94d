/- The law in the evaluator. No conditions but the bound on the number of cells that any memory sets. -/
import Derived.Test.YthedakdjiljmhaaGreatDoorSvVal6
import Derived.Test.YthedakdjiljmhaaGreatDoorSvSameR
set_option linter.unusedVariables false
set_option linter.unusedSimpArgs false
noncomputable section
namespace Go.AI.Sv
open Go.Proofs

mutual
theorem Vl.eqb_refl : ∀ x : Vl, x.eqb x = true
  | .mk c n a => by simp [Vl.eqb, eqbL_refl a]
theorem eqbL_refl : ∀ a : List Vl, eqbL a a = true
  | [] => rfl
  | x :: a => by simp [eqbL, Vl.eqb_refl x, eqbL_refl a]
end
theorem eqAll_refl {α : Type} {eq : α → α → Bool} (h : ∀ x, eq x x = true) : ∀ a : List α, eqAll eq a a = true
  | [] => rfl
  | x :: a => by simp [eqAll, h x, eqAll_refl h a]
theorem Rf.eqb_refl (x : Rf) : Rf.eqb x x = true := by simp [Rf.eqb]
theorem Frm.eqb_refl (x : Frm) : Frm.eqb x x = true := by simp [Frm.eqb, eqAll_refl Rf.eqb_refl]
theorem Cl.eqb_refl (x : Cl) : Cl.eqb x x = true := by simp [Cl.eqb, eqAll_refl Rf.eqb_refl]
theorem Tp.eqb_refl (x : Tp) : Tp.eqb x x = true := by simp [Tp.eqb]
theorem Nv.eqb_refl (x : Nv) : Nv.eqb x x = true := by simp [Nv.eqb, Vl.eqb_refl]
theorem Mc.eqb_refl (x : Mc) : Mc.eqb x x = true := by
  simp [Mc.eqb, Rf.eqb_refl, eqAll_refl Frm.eqb_refl, eqAll_refl Cl.eqb_refl, eqAll_refl Tp.eqb_refl, eqAll_refl Nv.eqb_refl]

theorem stay_kn (lo : Nat) (s0 : S) : Stay (Kn lo s0) := fun s s' hf h g B hg hB => hf.keep g B (by simp) (h g B hg hB)
theorem StayF.stay {K : S → Prop} (h : StayF K) : Stay K := fun s s' hf hk => h [] s s' hf hk

theorem call4 (s : S) : recOf (lim envL) 4 [] none s = some ⟨.returned (.bool true), none, s⟩ := by
  show lim envL (.call 4 [] none) s = _
  rw [lim_eq]
  rfl
theorem cf4 (args : List V) (s : S) : callF envL 4 args s = some (.enter 4 args s) := by kernel_rfl

theorem eql4 (ok : Ad → Bool) (a b : Bool) : eqlAt Tryz.prog ok 20 4 (.bool a) (.bool b) = some (a == b) := by
  simp only [eqlAt, Tryz.underlying4]

set_option maxRecDepth 10000 in
set_option maxHeartbeats 2000000 in
theorem law (K : S → Prop) (hK : StayF K) (n1 n2 : Nat) (x y : Mc) (hb : x.cells.length ≤ 2199023255552) (l1 l2 : List V) (hx : RdMc K n1 x l1) (hy : RdMc K n2 y l2) (r : Rf) (s : S) (hw : WF s) (k0 : K s) :
    Cw envL 3 [.agg l1, .agg l2, .agg r.cs] s fun v s' => v = .bool true ∧ Fw [] s s' := by
  have hl1 : l1.length = 11 := by obtain ⟨_, _, _, _, rfl, _⟩ := hx; rfl
  have hl2 : l2.length = 11 := by obtain ⟨_, _, _, _, rfl, _⟩ := hy; rfl
  have hr2 : r.cs.length = 2 := rfl
  generalize hrc : r.cs = lr at hr2 ⊢
  refine cw_enter (fn := Tryz.f3) rfl Tryz.func3 rfl (by kernel_rfl) ?_
  rw [initT_cons, initT_cons, initT_cons, initT_nil]
  repeat refine wp_seq ?_
  refine wp_region (t' := ?t1) (ds' := ?d1) (up' := ?u1) (s' := ?s1) (by kernel_rfl) ?h1 ?k1
  case h1 =>
    simp only [runOps_cons, ops_nil, opThen_true, nxThen_val, wantedV_none, opDo, eval_tmp, eval_bool, get_putN, Nat.reduceEqDiff, reduceIte, nxVal_some, doBox_agg, Nat.zero_add, Nat.reduceAdd]
    exact rfl
  case k1 =>
  have hm := (((Me.start (F := []) hw).alloc (B := .cells 29 false 1 [⟨0, 0, l1⟩]) (fun _ h => by cases h)).alloc (B := .cells 29 false 1 [⟨0, 0, l2⟩]) (fun _ h => by cases h)).alloc (B := .cells 23 false 1 [⟨0, 0, lr⟩]) (fun _ h => by cases h)
  generalize hs1 : S.alloc (S.alloc (S.alloc s _) _) _ = s1 at hm ⊢
  generalize hf5 : S.next (S.alloc (S.alloc s _) _) = f5 at hm ⊢
  generalize hf4 : S.next (S.alloc s _) = f4 at hm ⊢
  generalize hf3 : S.next s = f3 at hm ⊢
  have g3 := hm.at 2 rfl
  have g4 := hm.at 1 rfl
  have g5 := hm.at 0 rfl
  repeat refine wp_seq ?_
  refine wp_region (t' := ?t2) (ds' := ?d2) (up' := ?u2) (s' := ?s2) (by kernel_rfl) ?h2 ?k2
  case h2 =>
    simp only [runOps_cons, ops_nil, opThen_true, nxThen_val, nxThen_enter, outThen_ret, wantedV_none, opDo, eval_tmp, eval_func, get_putN, Nat.reduceEqDiff, reduceIte, nxVal_some, callTo, callV, List.append_nil, evals, cf4, call4]
    exact rfl
  case k2 =>
  have k1 := hK _ _ _ hm.fw k0
  obtain ⟨_, s2, call, lv, rfl, hv3, hv1, hvR, hfw2⟩ := valueP K hK n1 x l1 hx r s1 hm.wf k1
  have call := ca_rec call
  rw [hrc] at call
  repeat refine wp_seq ?_
  refine wp_region (t' := ?t3) (ds' := ?d3) (up' := ?u3) (s' := ?s3) (by kernel_rfl) ?h3 ?k3
  case h3 =>
    simp only [nxSkip_some, doLoad_ptr, doStore_ptr, runOps_cons, ops_nil, opThen_true, nxThen_val, nxThen_skip, nxThen_enter, outThen_ret, wantedV_none, opDo, eval_tmp, eval_func, get_putN, putD_none, Nat.reduceEqDiff, reduceIte, nxVal_some, callTo, callV, List.nil_append, List.append_nil, evals, evP, List.getElem?_cons_zero, List.getElem?_cons_succ, Option.map, lv29, lv23, ldn g3, ldn g5, List.drop_zero, takeExact_all l1 11 hl1, takeExact_all lr 2 hr2, cf5, call, doExtract_tuple, al33, sv33 _ _ lv hv3, nw33 _ lv hv1 hv3]
    exact rfl
  case k3 =>
  have hm2 := hm.call hfw2
  have hfa := Fw.alloc [] hm2.wf (.cells 33 false 1 [⟨0, 0, lv⟩])
  have hm := hm2.alloc (B := .cells 33 false 1 [⟨0, 0, lv⟩]) (fun _ h => by cases h)
  generalize hs3 : S.alloc s2 _ = s3 at hm hfa ⊢
  generalize hf8 : S.next s2 = f8 at hm ⊢
  have g3 := hm.at 3 rfl
  have g5 := hm.at 1 rfl
  have k3 := hK _ _ _ hm.fw k0
  obtain ⟨_, s4, call, lw, rfl, hw3, hw1, hwR, hfw4⟩ := valueR K hK n1 x hb l1 hx r s3 hm.wf k3
  have call := ca_rec call
  rw [hrc] at call
  repeat refine wp_seq ?_
  refine wp_region (t' := ?t4) (ds' := ?d4) (up' := ?u4) (s' := ?s4) (by kernel_rfl) ?h4 ?k4
  case h4 =>
    simp only [nxSkip_some, doLoad_ptr, doStore_ptr, runOps_cons, ops_nil, opThen_true, nxThen_val, nxThen_skip, nxThen_enter, outThen_ret, wantedV_none, opDo, eval_tmp, eval_func, get_putN, putD_none, Nat.reduceEqDiff, reduceIte, nxVal_some, callTo, callV, List.nil_append, List.append_nil, evals, evP, List.getElem?_cons_zero, List.getElem?_cons_succ, Option.map, lv29, lv23, ldn g3, ldn g5, List.drop_zero, takeExact_all l1 11 hl1, takeExact_all lr 2 hr2, cf6, call, doExtract_tuple, al33, sv33 _ _ lw hw3, nw33 _ lw hw1 hw3]
    exact rfl
  case k4 =>
  have hm4 := hm.call hfw4
  have hfb := Fw.alloc [] hm4.wf (.cells 33 false 1 [⟨0, 0, lw⟩])
  have hm := hm4.alloc (B := .cells 33 false 1 [⟨0, 0, lw⟩]) (fun _ h => by cases h)
  generalize hs5 : S.alloc s4 _ = s5 at hm hfb ⊢
  generalize hf10 : S.next s4 = f10 at hm ⊢
  have hKv : Kn s1.next s2 s5 := fun g B _ hB => ((hfa.trans hfw4).trans hfb).keep g B (by simp) hB
  have hKw : Kn s3.next s4 s5 := fun g B _ hB => hfb.keep g B (by simp) hB
  obtain ⟨_, s6, call6, rfl, hfw6⟩ := alike _ _ (stay_kn _ _) (stay_kn _ _) _ _ _ lv lw _ hvR hwR s5 hm.wf hKv hKw
  have call6 := ca_rec call6
  rw [Vl.eqb_refl] at call6
  have hm6 := hm.call hfw6
  have k6 := hK _ _ _ hm6.fw k0
  obtain ⟨_, s7, call7, rfl, hfw7⟩ := sameP K K hK.stay hK.stay n1 n2 x y l1 l2 hx hy s6 hm6.wf k6 k6
  have call7 := ca_rec call7
  have hm7 := hm6.call hfw7
  have k7 := hK _ _ _ hm7.fw k0
  obtain ⟨_, s8, call8, rfl, hfw8⟩ := sameR K K hK.stay hK.stay n1 n2 x y l1 l2 hx hy s7 hm7.wf k7 k7
  have call8 := ca_rec call8
  have hm8 := hm7.call hfw8
  have k8 := hK _ _ _ hm8.fw k0
  obtain ⟨_, s9, call9, rfl, hfw9⟩ := sameP K K hK.stay hK.stay n1 n1 x x l1 l1 hx hx s8 hm8.wf k8 k8
  have call9 := ca_rec call9
  rw [Mc.eqb_refl] at call9
  have hm9 := hm8.call hfw9
  have g8 := hm.at 1 rfl
  have g10 := hm.at 0 rfl
  have g63 := hm6.at 4 rfl
  have g64 := hm6.at 3 rfl
  have g73 := hm7.at 4 rfl
  have g74 := hm7.at 3 rfl
  have g83 := hm8.at 4 rfl
  have g84 := hm8.at 3 rfl
  repeat refine wp_seq ?_
  have q1 : ((valR x.cells r).1 == (valR x.cells r).1) = true := by simp
  have q2 : (Mc.eqb x y == Mc.eqb x y) = true := by simp
  refine wp_sch (t' := ?t5) (ds' := ?d5) (up' := ?u5) (s' := ?s5) [(some 1, 0), (some 1, 1), (some 1, 2), (some 1, 3), (some 1, 4), (some 1, 5), (some 1, 6), (some 1, 7), (some 1, 8), (none, 9), (some 1, 10), (some 1, 11), (some 1, 12), (some 1, 13), (none, 14), (some 2, 15), (some 2, 16), (none, 17), (some 1, 18), (some 1, 19), (some 1, 20), (some 1, 21), (some 1, 22), (none, 23), (some 1, 24), (some 1, 25)] (by kernel_rfl) (by kernel_rfl) ?h5 ?k5
  case h5 =>
    simp only [runSch_nil, runSch_f, runSch_e, runSchK_eq, runSchE_eq, schFloat_some, schThen_some, schEff_some, schEThen_some, schNext_true, floatStep1_true, effStep_true, effDo_enter, effEnd_ret, floatDo1_0, valOnly_val, readBoth_some, readTo_val, readAll_one, readAll_two, readCons_same, opKind, List.take_succ_cons, List.take_zero, List.take_nil, doLoad_ptr, wantedV_none, wantedV_some, guardV_some, guardB_bool, opDo, eval_tmp, eval_func, get_putN, Nat.reduceEqDiff, reduceIte, nxVal_some, callTo, callV, doPick, bTT, List.nil_append, List.append_nil, evals, evP, List.getElem?_toArray, List.getElem?_cons_zero, List.getElem?_cons_succ, Option.bind, doBin, guardOk, isEq, cond_true, cond_false, binOpV, isShift, sameKind, decide_true, intOp, Option.map, floatDo1_1c, eql4, q1, q2, lv33, ldn g8, ldn g10, List.drop_zero, takeExact_all lv 3 hv3, takeExact_all lw 3 hw3, cf7, call6, hfw6.ble, lv29, ldn g63, ldn g64, takeExact_all l1 11 hl1, takeExact_all l2 11 hl2, cf8, call7, hfw7.ble, ldn g73, ldn g74, cf9, call8, hfw8.ble, ldn g83, call9, hfw9.ble]
    exact rfl
  case k5 =>
  refine wp_ret1 (.bool true) 6 rfl (by simp only [get_putN, Nat.reduceEqDiff, reduceIte]) ⟨rfl, hm9.fw⟩
end Go.AI.Sv
