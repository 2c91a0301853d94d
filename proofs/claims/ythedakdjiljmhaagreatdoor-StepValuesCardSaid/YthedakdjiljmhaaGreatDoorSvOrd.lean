/- The reference's order of cells. No conditions. -/
import Derived.Test.YthedakdjiljmhaaGreatDoorSvVal5
set_option linter.unusedVariables false
set_option linter.unusedSimpArgs false
noncomputable section
namespace Go.AI.Sv
open Go.Proofs

def boolsOf (N : Nat) (l : List Int) : List V := (List.range N).map fun (i : Nat) => V.bool (decide ((i : Int) ∈ l))
theorem bools_len (N : Nat) (l : List Int) : (boolsOf N l).length = N := by simp [boolsOf]
theorem bools_get {N : Nat} {l : List Int} {k : Nat} (h : k < N) : (boolsOf N l)[k]? = some (.bool (decide ((k : Int) ∈ l))) := by
  simp [boolsOf, List.getElem?_map, List.getElem?_range h]
theorem overwrite_one : ∀ (l : List V) (k : Nat) (v : V), k < l.length → overwrite l k [v] = some (l.set k v)
  | [], k, v, h => by simp at h
  | x :: l, 0, v, _ => by simp [overwrite]
  | x :: l, k + 1, v, h => by simp [overwrite, overwrite_one l k v (by simpa using h)]
theorem bools_set {N : Nat} {l : List Int} {k : Nat} (h : k < N) : overwrite (boolsOf N l) k [.bool true] = some (boolsOf N (l ++ [(k : Int)])) := by
  rw [overwrite_one _ _ _ (by rw [bools_len]; exact h)]
  congr 1
  apply List.ext_getElem?
  intro i
  by_cases hi : i < N
  · by_cases hik : k = i
    · subst hik
      rw [List.getElem?_set_self (by rw [bools_len]; exact h), bools_get h]
      simp
    · rw [List.getElem?_set_ne hik, bools_get hi, bools_get hi]
      have : ¬ ((i : Int) = (k : Int)) := by omega
      simp [this]
  · rw [List.getElem?_eq_none (by rw [List.length_set, bools_len]; omega), List.getElem?_eq_none (by rw [bools_len]; omega)]

abbrev SB (N : Nat) (l : List Int) : Blk := .cells 4 false 1 [⟨0, 0, boolsOf N l⟩]
theorem und70 : Tryz.prog.underlying 70 = some (.slice 4) := by kernel_rfl
theorem ia70 {f N k : Nat} (h : k < N) : doIndexAddr Tryz.prog 70 (some (.slice ⟨f, 0, 0⟩ 0 N (some N) 1)) (some k) = some (.ptr ⟨f, 0, k⟩) := by
  have hb : Nat.blt k N = true := by simp [Nat.blt]; omega
  have h1 : Nat.beq 1 1 = true := rfl
  simp only [doIndexAddr, und70, ty_size4, h1, hb, Bool.and_self, cond_true, addC, Nat.mul_one, Nat.zero_add]
theorem svb4 (s : S) (a : Ad) (b : Bool) : storeVar Tryz.prog s 4 a (.bool b) = storeCells s a [.bool b] := sv4 s a _ rfl

theorem cf19 (args : List V) (s : S) : callF envL 19 args s = some (.enter 19 args s) := by kernel_rfl
set_option maxRecDepth 10000 in
set_option maxHeartbeats 4000000 in
theorem ordered_step (K : S → Prop) (hK : StayF K) (cs : List Cl) (vc : V) (hC : Sl K 25 5 vc cs (RdCl K)) (lm : List V) (hlm6 : lm[6]? = some vc) (hlm : lm.length = 11) (fs : Nat) (n : Nat)
    (ih : ∀ m, n = m + 1 → ∀ (x : Rf) (before : Int) (l : List Int) (s : S), before ≤ m → before ≤ cs.length → (x.cell = true → 0 ≤ x.num ∧ x.num < before) → WF s → K s → s.get fs = some (SB cs.length l) →
      Cw envL 19 [.agg lm, .agg x.cs, .slice ⟨fs, 0, 0⟩ 0 cs.length (some cs.length) 1] s fun v s' => v = .bool (vis cs (m + 1) before x l).1 ∧ s'.get fs = some (SB cs.length (vis cs (m + 1) before x l).2) ∧ Fw [fs] s s')
    (x : Rf) (before : Int) (l : List Int) (s : S) (hn : before ≤ n) (hlen : before ≤ cs.length) (hin : x.cell = true → 0 ≤ x.num ∧ x.num < before) (hw : WF s) (k0 : K s) (hs : s.get fs = some (SB cs.length l)) :
    Cw envL 19 [.agg lm, .agg x.cs, .slice ⟨fs, 0, 0⟩ 0 cs.length (some cs.length) 1] s fun v s' => v = .bool (vis cs (n + 1) before x l).1 ∧ s'.get fs = some (SB cs.length (vis cs (n + 1) before x l).2) ∧ Fw [fs] s s' := by
  obtain ⟨xc, xn⟩ := x
  unfold Rf.cs
  refine cw_enter (fn := Tryz.f19) rfl Tryz.func19 rfl (by kernel_rfl) ?_
  rw [initT_cons, initT_cons, initT_cons, initT_nil]
  repeat refine wp_seq ?_
  refine wp_region (t' := ?t1) (ds' := ?d1) (up' := ?u1) (s' := ?s1) (by kernel_rfl) ?h1 ?k1
  case h1 =>
    simp only [runOps_cons, ops_nil, opThen_true, nxThen_val, wantedV_none, opDo, eval_tmp, eval_bool, get_putN, Nat.reduceEqDiff, reduceIte, nxVal_some, doBox_agg, Nat.zero_add, Nat.reduceAdd]
    exact rfl
  case k1 =>
  have hm := ((Me.start1 (F := [fs]) hw (by simp) hs (fun _ h => by cases h)).alloc (B := .cells 29 false 1 [⟨0, 0, lm⟩]) (fun _ h => by cases h)).alloc (B := .cells 23 false 1 [⟨0, 0, [.bool xc, .int .i64 xn]⟩]) (fun _ h => by cases h)
  generalize hs1 : S.alloc (S.alloc s _) _ = s1 at hm ⊢
  generalize hf4 : S.next (S.alloc s _) = f4 at hm ⊢
  generalize hf3 : S.next s = f3 at hm ⊢
  have g4 := hm.at 0 rfl
  have g3 := hm.at 1 rfl
  have gs := hm.at 2 rfl
  repeat refine wp_seq ?_
  by_cases hc : xc = false
  · refine wp_region (t' := ?t2) (ds' := ?d2) (up' := ?u2) (s' := ?s2) (by kernel_rfl) ?h2 ?k2
    case h2 =>
      simp only [doLoad_ptr, runOps_cons, ops_nil, opThen_true, opThen_false, nxThen_val, wantedV_none, wantedV_some, guardV_some, guardB_bool, opDo, eval_tmp, eval_bool, get_putN, Nat.reduceEqDiff, reduceIte, nxVal_some, doPick, doUn, unOpV, bTF, Bool.not_false, Nat.add_zero, evP, List.getElem?_toArray, List.getElem?_cons_zero, List.getElem?_cons_succ, Option.bind, cond_true, fa23_0, lv4, ld1 g4, hc]
      exact rfl
    case k2 =>
    refine wp_cond true (by simp only [eval_tmp, get_putN, Nat.reduceEqDiff, reduceIte]) (fun _ => ?_) (fun h => by cases h)
    repeat refine wp_seq ?_
    refine wp_region (t' := ?t3) (ds' := ?d3) (up' := ?u3) (s' := ?s3) (by kernel_rfl) ?h3 ?k3
    case h3 =>
      simp only [runOps_cons, ops_nil, opThen_true, nxThen_val, wantedV_none, opDo, eval_bool, nxVal_some]
      exact rfl
    case k3 =>
    refine wp_ret1 (.bool true) 6 rfl (by simp only [get_putN, Nat.reduceEqDiff, reduceIte]) ⟨?_, ?_, hm.fw⟩
    · simp [vis, hc]
    · simpa [vis, hc] using gs
  have hc : xc = true := by simpa using hc
  subst hc
  obtain ⟨hx0, hxb⟩ := hin rfl
  simp only at hx0 hxb
  obtain ⟨k, rfl⟩ := Int.eq_ofNat_of_zero_le hx0
  have hk : k < cs.length := by omega
  have h1 : ¬ before ≤ (k : Int) := by omega
  by_cases h2 : (k : Int) ∈ l
  · have p4 : decide ((k : Int) ∈ l) = true := by simp [h2]
    refine wp_region (t' := ?t4) (ds' := ?d4) (up' := ?u4) (s' := ?s4) (by kernel_rfl) ?h4 ?k4
    case h4 =>
      simp only [doLoad_ptr, natOf_cast, runOps_cons, ops_nil, opThen_true, nxThen_val, wantedV_none, wantedV_some, guardV_some, guardB_bool, opDo, eval_tmp, get_putN, Nat.reduceEqDiff, reduceIte, nxVal_some, doPick, doUn, unOpV, bFF, Bool.not_true, Nat.zero_add, Nat.add_zero, evP, List.getElem?_toArray, List.getElem?_cons_zero, List.getElem?_cons_succ, Option.bind, cond_false, fa23_0, lv4, ld1 g4, fa23_1, lv3, ia70 hk, ld1 gs, bools_get hk, p4]
      exact rfl
    case k4 =>
    refine wp_cond true (by simp only [eval_tmp, get_putN, Nat.reduceEqDiff, reduceIte]) (fun _ => ?_) (fun h => by cases h)
    repeat refine wp_seq ?_
    refine wp_region (t' := ?t5) (ds' := ?d5) (up' := ?u5) (s' := ?s5) (by kernel_rfl) ?h5 ?k5
    case h5 =>
      simp only [runOps_cons, ops_nil, opThen_true, nxThen_val, wantedV_none, opDo, eval_bool, nxVal_some]
      exact rfl
    case k5 =>
    have h0 : ¬ ((k : Int) < 0) := by omega
    refine wp_ret1 (.bool true) 6 rfl (by simp only [get_putN, Nat.reduceEqDiff, reduceIte]) ⟨?_, ?_, hm.fw⟩
    · simp [vis, h0, h1, h2]
    · simpa [vis, h0, h1, h2] using gs
  have p4 : decide ((k : Int) ∈ l) = false := by simp [h2]
  refine wp_region (t' := ?t6) (ds' := ?d6) (up' := ?u6) (s' := ?s6) (by kernel_rfl) ?h6 ?k6
  case h6 =>
    simp only [doLoad_ptr, natOf_cast, runOps_cons, ops_nil, opThen_true, nxThen_val, wantedV_none, wantedV_some, guardV_some, guardB_bool, opDo, eval_tmp, get_putN, Nat.reduceEqDiff, reduceIte, nxVal_some, doPick, doUn, unOpV, bFF, Bool.not_true, Nat.zero_add, Nat.add_zero, evP, List.getElem?_toArray, List.getElem?_cons_zero, List.getElem?_cons_succ, Option.bind, cond_false, fa23_0, lv4, ld1 g4, fa23_1, lv3, ia70 hk, ld1 gs, bools_get hk, p4]
    exact rfl
  case k6 =>
  refine wp_cond false (by simp only [eval_tmp, get_putN, Nat.reduceEqDiff, reduceIte]) (fun h => by cases h) (fun _ => ?_)
  refine wp_skip ?_
  repeat refine wp_seq ?_
  refine wp_region (t' := ?t7) (ds' := ?d7) (up' := ?u7) (s' := ?s7) (by kernel_rfl) ?h7 ?k7
  case h7 =>
    simp only [nxSkip_some, doLoad_ptr, doStore_ptr, natOf_cast, runOps_cons, ops_nil, opThen_true, nxThen_val, nxThen_skip, wantedV_none, opDo, eval_tmp, eval_bool, get_putN, putD_none, Nat.reduceEqDiff, reduceIte, nxVal_some, Nat.zero_add, evP, List.getElem?_cons_zero, List.getElem?_cons_succ, fa23_1, lv3, ld1 g4, ia70 hk, svb4, st1 gs k [.bool true] rfl (bools_set hk)]
    exact rfl
  case k7 =>
  have hm := hm.put 2 rfl (B' := SB cs.length (l ++ [(k : Int)])) (fun _ h => by cases h)
  generalize hs2 : S.put s1 _ _ = s2 at hm ⊢
  simp only [List.set_cons_succ, List.set_cons_zero] at hm
  have k2 := hK _ _ _ hm.fw k0
  have g4 := hm.at 0 rfl
  have g3 := hm.at 1 rfl
  obtain ⟨pc, hpc⟩ := hC.el
  obtain ⟨ia, lc, ec, elc, olc, rc⟩ := hpc k _ (List.getElem?_eq_getElem hk)
  have ec := ec _ k2
  repeat refine wp_seq ?_
  refine wp_region (t' := ?t8) (ds' := ?d8) (up' := ?u8) (s' := ?s8) (by kernel_rfl) ?h8 ?k8
  case h8 =>
    simp only [nxSkip_some, doLoad_ptr, doStore_ptr, natOf_cast, runOps_cons, ops_nil, opThen_true, nxThen_val, nxThen_skip, wantedV_none, opDo, eval_tmp, get_putN, putD_none, Nat.reduceEqDiff, reduceIte, nxVal_some, Nat.zero_add, evP, List.getElem?_cons_zero, List.getElem?_cons_succ, Option.map, fa29_5, lv25, ld1 g3, hlm6, fa23_1, lv3, ld1 g4, ia, lv82, ec, al82, sv82 _ _ lc elc, nw82 _ lc olc elc]
    exact rfl
  case k8 =>
  have hm := hm.alloc (B := .cells 82 false 1 [⟨0, 0, lc⟩]) (fun _ h => by cases h)
  generalize hs3 : S.alloc s2 _ = s3 at hm ⊢
  generalize hf7 : S.next s2 = f7 at hm ⊢
  obtain ⟨vr, rfl, bc, hR⟩ := rc
  have g7 := hm.at 0 rfl
  have gs := hm.at 3 rfl
  have hva := vis_at cs n before k l h1 h2 _ (List.getElem?_eq_getElem hk)
  generalize hcc : cs[k] = c at *
  repeat refine wp_seq ?_
  by_cases hk2 : c.kind = 2
  · have p5 : (c.kind == 2) = true := by simp [hk2]
    refine wp_region (t' := ?t9) (ds' := ?d9) (up' := ?u9) (s' := ?s9) (by kernel_rfl) ?h9 ?k9
    case h9 =>
      simp only [doLoad_ptr, runOps_cons, ops_nil, opThen_true, nxThen_val, wantedV_none, opDo, eval_tmp, eval_int, get_putN, Nat.reduceEqDiff, reduceIte, nxVal_some, Nat.add_zero, evP, List.getElem?_cons_zero, doBin, guardOk, isEq, cond_true, cond_false, binOpV, isShift, sameKind, decide_true, intOp, fa82_0, lv3, ld1 g7, p5]
      exact rfl
    case k9 =>
    repeat refine wp_seq ?_
    refine wp_cond true (by simp only [eval_tmp, get_putN, Nat.reduceEqDiff, reduceIte]) (fun _ => ?_) (fun h => by cases h)
    repeat refine wp_seq ?_
    refine wp_region (t' := ?t10) (ds' := ?d10) (up' := ?u10) (s' := ?s10) (by kernel_rfl) ?h10 ?k10
    case h10 =>
      simp only [runOps_cons, ops_nil, opThen_true, nxThen_val, wantedV_none, opDo, eval_bool, nxVal_some]
      exact rfl
    case k10 =>
    refine wp_ret1 (.bool true) 6 rfl (by simp only [get_putN, Nat.reduceEqDiff, reduceIte]) ⟨?_, ?_, hm.fw⟩
    · rw [hva, if_pos hk2]
    · rw [hva, if_pos hk2]; exact gs
  have p5 : (c.kind == 2) = false := by simp [hk2]
  refine wp_region (t' := ?t11) (ds' := ?d11) (up' := ?u11) (s' := ?s11) (by kernel_rfl) ?h11 ?k11
  case h11 =>
    simp only [doLoad_ptr, runOps_cons, ops_nil, opThen_true, nxThen_val, wantedV_none, opDo, eval_tmp, eval_int, get_putN, Nat.reduceEqDiff, reduceIte, nxVal_some, Nat.add_zero, evP, List.getElem?_cons_zero, doBin, guardOk, isEq, cond_true, cond_false, binOpV, isShift, sameKind, decide_true, intOp, fa82_0, lv3, ld1 g7, p5]
    exact rfl
  case k11 =>
  repeat refine wp_seq ?_
  refine wp_cond false (by simp only [eval_tmp, get_putN, Nat.reduceEqDiff, reduceIte]) (fun h => by cases h) (fun _ => ?_)
  refine wp_skip ?_
  repeat refine wp_seq ?_
  by_cases hk1 : c.kind = 1
  rotate_left
  · have p6 : (c.kind != 1) = true := by simp [hk1]
    refine wp_region (t' := ?t12) (ds' := ?d12) (up' := ?u12) (s' := ?s12) (by kernel_rfl) ?h12 ?k12
    case h12 =>
      simp only [doLoad_ptr, runOps_cons, ops_nil, opThen_true, nxThen_val, wantedV_none, opDo, eval_tmp, eval_int, get_putN, Nat.reduceEqDiff, reduceIte, nxVal_some, Nat.add_zero, evP, List.getElem?_cons_zero, doBin, guardOk, isEq, cond_true, cond_false, binOpV, isShift, sameKind, decide_true, intOp, fa82_0, lv3, ld1 g7, p6]
      exact rfl
    case k12 =>
    repeat refine wp_seq ?_
    refine wp_cond true (by simp only [eval_tmp, get_putN, Nat.reduceEqDiff, reduceIte]) (fun _ => ?_) (fun h => by cases h)
    repeat refine wp_seq ?_
    refine wp_region (t' := ?t13) (ds' := ?d13) (up' := ?u13) (s' := ?s13) (by kernel_rfl) ?h13 ?k13
    case h13 =>
      simp only [runOps_cons, ops_nil, opThen_true, nxThen_val, wantedV_none, opDo, eval_bool, nxVal_some]
      exact rfl
    case k13 =>
    refine wp_ret1 (.bool false) 6 rfl (by simp only [get_putN, Nat.reduceEqDiff, reduceIte]) ⟨?_, ?_, hm.fw⟩
    · rw [hva, if_neg hk2, if_neg hk1]
    · rw [hva, if_neg hk2, if_neg hk1]; exact gs
  have p6 : (c.kind != 1) = false := by simp [hk1]
  refine wp_region (t' := ?t14) (ds' := ?d14) (up' := ?u14) (s' := ?s14) (by kernel_rfl) ?h14 ?k14
  case h14 =>
    simp only [doLoad_ptr, runOps_cons, ops_nil, opThen_true, nxThen_val, wantedV_none, opDo, eval_tmp, eval_int, get_putN, Nat.reduceEqDiff, reduceIte, nxVal_some, Nat.add_zero, evP, List.getElem?_cons_zero, doBin, guardOk, isEq, cond_true, cond_false, binOpV, isShift, sameKind, decide_true, intOp, fa82_0, lv3, ld1 g7, p6]
    exact rfl
  case k14 =>
  repeat refine wp_seq ?_
  refine wp_cond false (by simp only [eval_tmp, get_putN, Nat.reduceEqDiff, reduceIte]) (fun h => by cases h) (fun _ => ?_)
  refine wp_skip ?_
  repeat refine wp_seq ?_
  refine wp_region (t' := ?t15) (ds' := ?d15) (up' := ?u15) (s' := ?s15) (by kernel_rfl) ?h15 ?k15
  case h15 =>
    simp only [runOps_cons, ops_nil, opThen_true, nxThen_val, wantedV_none, opDo, eval_int, nxVal_some]
    exact rfl
  case k15 =>
  cases n with
  | zero => exfalso; omega
  | succ n =>
  rw [if_neg hk2, if_pos hk1] at hva
  rw [hva]
  have hla := hR.bnd
  obtain ⟨pa, hpa⟩ := hR.el
  generalize hB7 : [V.int .i64 c.kind, .str c.con, .int .i64 c.num, vr, .int .i64 c.next] = l7 at *
  have hl7 : l7[3]? = some vr := by rw [← hB7]; rfl
  refine wp_block (wp_loop_inv (fun j t s' => ∃ (q : Nat) (lq : List Int), j = c.refs.length - q ∧ q ≤ c.refs.length ∧
      Me [fs] s s' [(f7, .cells 82 false 1 [⟨0, 0, l7⟩]), (f4, .cells 23 false 1 [⟨0, 0, [.bool true, .int .i64 k]⟩]), (f3, .cells 29 false 1 [⟨0, 0, lm⟩]), (fs, SB cs.length lq)] ∧
      visL cs (n + 1) k c.refs (l ++ [(k : Int)]) = visL cs (n + 1) k (c.refs.drop q) lq ∧
      t.get (pth 2) = some (.slice ⟨fs, 0, 0⟩ 0 cs.length (some cs.length) 1) ∧ t.get (pth 3) = some (.ptr ⟨f3, 0, 0⟩) ∧ t.get (pth 4) = some (.ptr ⟨f4, 0, 0⟩) ∧ t.get (pth 7) = some (.ptr ⟨f7, 0, 0⟩) ∧ t.get (pth 8) = some (.int .i64 q)) ?_ (c.refs.length - 0) _ _
      ⟨0, l ++ [(k : Int)], rfl, Nat.zero_le _, hm, rfl, ?_, ?_, ?_, ?_, ?_⟩)
  rotate_left
  · simp only [get_putN, Nat.reduceEqDiff, reduceIte]
  · simp only [get_putN, Nat.reduceEqDiff, reduceIte]
  · simp only [get_putN, Nat.reduceEqDiff, reduceIte]
  · simp only [get_putN, Nat.reduceEqDiff, reduceIte]
  · simp only [get_putN, Nat.reduceEqDiff, reduceIte]; rfl
  clear g3 g4 g7 gs hm
  rintro j t s4 ⟨q, lq, hj, hq, hm, hvl, e2, e3, e4, e7, e8⟩ hnext
  have g7 := hm.at 0 rfl
  have g4 := hm.at 1 rfl
  have g3 := hm.at 2 rfl
  have gs := hm.at 3 rfl
  have k4 := hK _ _ _ hm.fw k0
  repeat refine wp_seq ?_
  refine wp_region (t' := ?t16) (ds' := ?d16) (up' := ?u16) (s' := ?s16) (by kernel_rfl) ?h16 ?k16
  case h16 =>
    simp only [doLoad_ptr, runOps_cons, ops_nil, opThen_true, nxThen_val, wantedV_none, opDo, eval_tmp, get_putN, Nat.reduceEqDiff, reduceIte, nxVal_some, callTo, callB, Nat.zero_add, evals, evP, List.getElem?_toArray, List.getElem?_cons_zero, doBin, guardOk, isEq, cond_true, cond_false, binOpV, isShift, sameKind, decide_true, intOp, e7, e8, fa82_3, lv73, ld1 g7, hl7, hR.len]
    exact rfl
  case k16 =>
  repeat refine wp_seq ?_
  refine wp_cond (decide ((q : Int) < (c.refs.length : Int))) (by simp only [eval_tmp, get_putN, Nat.reduceEqDiff, reduceIte]) (fun hd => ?_) (fun hd => ?_)
  rotate_left
  · have hqn : q = c.refs.length := by have := of_decide_eq_false hd; omega
    subst hqn
    rw [List.drop_length] at hvl
    simp only [visL] at hvl
    refine wp_exit rfl ?_
    repeat refine wp_seq ?_
    refine wp_region (t' := ?t17) (ds' := ?d17) (up' := ?u17) (s' := ?s17) (by kernel_rfl) ?h17 ?k17
    case h17 =>
      simp only [runOps_cons, ops_nil, opThen_true, nxThen_val, wantedV_none, opDo, eval_bool, nxVal_some]
      exact rfl
    case k17 =>
    refine wp_ret1 (.bool true) 6 rfl (by simp only [get_putN, Nat.reduceEqDiff, reduceIte]) ⟨?_, ?_, hm.fw⟩
    · rw [hvl]
    · rw [hvl]; exact gs
  have hlt : q < c.refs.length := by have := of_decide_eq_true hd; omega
  obtain ⟨iq, l1, e1, el1, o1, r1⟩ := hpa q _ (List.getElem?_eq_getElem hlt)
  have hdrop : c.refs.drop q = c.refs[q] :: c.refs.drop (q + 1) := List.drop_eq_getElem_cons hlt
  generalize hyy : c.refs[q] = y at *
  obtain ⟨yc, yn⟩ := y
  have r1 : l1 = [.bool yc, .int .i64 yn] := r1
  subst r1
  have e1 := e1 _ k4
  refine wp_skip ?_
  repeat refine wp_seq ?_
  refine wp_block ?_
  repeat refine wp_seq ?_
  have c0 := cell_of_cells e1 0 (by decide)
  have c1 := cell_of_cells e1 1 (by decide)
  simp only [List.getElem?_cons_zero, List.getElem?_cons_succ] at c0 c1
  have c4 : loadCell s4 (addC ⟨f4, 0, 0⟩ 1) = some (.int .i64 k) := by
    show loadCell s4 ⟨f4, 0, 1⟩ = _
    rw [ld1 g4]; rfl
  rw [hdrop] at hvl
  have hw2 : IntKind.wrap .i64 ((q : Int) + 1) = ((q + 1 : Nat) : Int) := by
    have := wrap_in ((q : Int) + 1) ⟨by omega, by omega⟩; omega
  by_cases hyc : yc = true
  · by_cases hy0 : yn < 0
    · have p1 : decide (yn < 0) = true := decide_eq_true hy0
      have hvf : vis cs (n + 1) k ⟨yc, yn⟩ lq = (false, lq) := by simp [vis, hyc, hy0]
      refine wp_sch (t' := ?t18) (ds' := ?d18) (up' := ?u18) (s' := ?s18) [(some 1, 0), (some 1, 1), (some 1, 2), (some 1, 3), (some 1, 4), (some 1, 5), (some 1, 6), (some 1, 7), (some 1, 8), (some 1, 9), (some 1, 10), (some 1, 11), (some 1, 12), (some 1, 13), (some 1, 14), (some 1, 15), (some 1, 16), (some 1, 17), (some 1, 18), (some 1, 19), (some 1, 20), (some 1, 21), (some 1, 22), (some 1, 23), (some 1, 24), (some 1, 25), (some 1, 26), (some 1, 27), (some 1, 28), (some 1, 29), (some 1, 30), (some 1, 31), (some 1, 32), (some 1, 33), (none, 34), (some 1, 35), (some 1, 36)] (by kernel_rfl) (by kernel_rfl) ?h18 ?k18
      case h18 =>
        simp only [runSch_nil, runSch_f, runSch_e, runSchK_eq, runSchE_eq, schFloat_some, schThen_some, schEff_some, schEThen_some, schNext_true, floatStep1_true, floatStep1_false, effStep_false, floatDo1_0, floatDo1_1, valOnly_val, readBoth_some, readTo_val, readAll_one, opKind, List.take_succ_cons, List.take_zero, List.take_nil, doLoad_ptr, natOf_cast, wantedV_none, wantedV_some, guardV_some, guardB_bool, opDo, eval_tmp, eval_int, eval_bool, get_putN, Nat.reduceEqDiff, reduceIte, nxVal_some, doPick, bTT, bTF, Nat.zero_add, evP, List.getElem?_toArray, List.getElem?_cons_zero, List.getElem?_cons_succ, Option.bind, doBin, guardOk, isEq, cond_true, cond_false, binOpV, isShift, sameKind, decide_true, intOp, e7, e8, fa82_3, lv73, ld1 g7, hl7, iq, fb23_0, fb23_1, lv4, lv3, c0, c1, hyc, p1, ble_self]
        exact rfl
      case k18 =>
      refine wp_cond true (by simp only [eval_tmp, get_putN, Nat.reduceEqDiff, reduceIte]) (fun _ => ?_) (fun h => by cases h)
      repeat refine wp_seq ?_
      refine wp_region (t' := ?t19) (ds' := ?d19) (up' := ?u19) (s' := ?s19) (by kernel_rfl) ?h19 ?k19
      case h19 =>
        simp only [runOps_cons, ops_nil, opThen_true, nxThen_val, wantedV_none, opDo, eval_bool, nxVal_some]
        exact rfl
      case k19 =>
      refine wp_ret1 (.bool false) 6 rfl (by simp only [get_putN, Nat.reduceEqDiff, reduceIte]) ⟨?_, ?_, hm.fw⟩
      · rw [hvl]; simp only [visL, hvf]
      · rw [hvl]; simp only [visL, hvf]; exact gs
    have p1 : decide (yn < 0) = false := decide_eq_false hy0
    by_cases hyk : (k : Int) ≤ yn
    · have p2 : decide (yn ≥ (k : Int)) = true := by simp; omega
      have hvf : vis cs (n + 1) k ⟨yc, yn⟩ lq = (false, lq) := by simp [vis, hyc, hyk]
      refine wp_sch (t' := ?t20) (ds' := ?d20) (up' := ?u20) (s' := ?s20) [(some 1, 0), (some 1, 1), (some 1, 2), (some 1, 3), (some 1, 4), (some 1, 5), (some 1, 6), (some 1, 7), (some 1, 8), (some 1, 9), (some 1, 10), (some 1, 11), (some 1, 12), (some 1, 13), (some 1, 14), (some 1, 15), (some 1, 16), (some 1, 17), (some 1, 18), (some 1, 19), (some 1, 20), (some 1, 21), (some 1, 22), (some 1, 23), (some 1, 24), (some 1, 25), (some 1, 26), (some 1, 27), (some 1, 28), (some 1, 29), (some 1, 30), (some 1, 31), (some 1, 32), (some 1, 33), (none, 34), (some 1, 35), (some 1, 36)] (by kernel_rfl) (by kernel_rfl) ?h20 ?k20
      case h20 =>
        simp only [runSch_nil, runSch_f, runSch_e, runSchK_eq, runSchE_eq, schFloat_some, schThen_some, schEff_some, schEThen_some, schNext_true, floatStep1_true, floatStep1_false, effStep_false, floatDo1_0, floatDo1_1, valOnly_val, readBoth_some, readTo_val, readAll_one, opKind, List.take_succ_cons, List.take_zero, List.take_nil, doLoad_ptr, natOf_cast, wantedV_none, wantedV_some, guardV_some, guardB_bool, opDo, eval_tmp, eval_int, eval_bool, get_putN, Nat.reduceEqDiff, reduceIte, nxVal_some, doPick, bTT, bTF, bFF, Nat.zero_add, evP, List.getElem?_toArray, List.getElem?_cons_zero, List.getElem?_cons_succ, Option.bind, doBin, guardOk, isEq, cond_true, cond_false, binOpV, isShift, sameKind, decide_true, intOp, e4, e7, e8, fa82_3, lv73, ld1 g7, hl7, iq, fb23_0, fb23_1, lv4, lv3, c0, c1, c4, hyc, p1, p2, ble_self]
        exact rfl
      case k20 =>
      refine wp_cond true (by simp only [eval_tmp, get_putN, Nat.reduceEqDiff, reduceIte]) (fun _ => ?_) (fun h => by cases h)
      repeat refine wp_seq ?_
      refine wp_region (t' := ?t21) (ds' := ?d21) (up' := ?u21) (s' := ?s21) (by kernel_rfl) ?h21 ?k21
      case h21 =>
        simp only [runOps_cons, ops_nil, opThen_true, nxThen_val, wantedV_none, opDo, eval_bool, nxVal_some]
        exact rfl
      case k21 =>
      refine wp_ret1 (.bool false) 6 rfl (by simp only [get_putN, Nat.reduceEqDiff, reduceIte]) ⟨?_, ?_, hm.fw⟩
      · rw [hvl]; simp only [visL, hvf]
      · rw [hvl]; simp only [visL, hvf]; exact gs
    have p2 : decide (yn ≥ (k : Int)) = false := by simp; omega
    have hy : (Rf.mk yc yn).cell = true → 0 ≤ (Rf.mk yc yn).num ∧ (Rf.mk yc yn).num < (k : Int) := fun _ => ⟨by simp only; omega, by simp only; omega⟩
    subst hyc
    obtain ⟨_, s5, call, rfl, gs5, hf5⟩ := ih n rfl ⟨true, yn⟩ k lq s4 (by omega) (by omega) hy hm.wf k4 gs
    have call := ca_rec call
    unfold Rf.cs at call
    refine wp_sch (t' := ?t22) (ds' := ?d22) (up' := ?u22) (s' := ?s22) [(some 1, 0), (some 1, 1), (some 1, 2), (some 1, 3), (some 1, 4), (some 1, 5), (some 1, 6), (some 1, 7), (some 1, 8), (some 1, 9), (some 1, 10), (some 1, 11), (some 1, 12), (some 1, 13), (some 1, 14), (some 1, 15), (some 1, 16), (some 1, 17), (some 1, 18), (some 1, 19), (some 1, 20), (some 1, 21), (some 1, 22), (some 1, 23), (some 1, 24), (some 1, 25), (some 1, 26), (some 1, 27), (some 1, 28), (some 1, 29), (some 1, 30), (some 1, 31), (some 1, 32), (some 1, 33), (none, 34), (some 1, 35), (some 1, 36)] (by kernel_rfl) (by kernel_rfl) ?h22 ?k22
    case h22 =>
      simp only [runSch_nil, runSch_f, runSch_e, runSchK_eq, runSchE_eq, schFloat_some, schThen_some, schEff_some, schEThen_some, schNext_true, floatStep1_true, effStep_true, effDo_enter, effEnd_ret, floatDo1_0, floatDo1_1, valOnly_val, readBoth_some, readTo_val, readAll_one, opKind, List.take_succ_cons, List.take_zero, List.take_nil, doLoad_ptr, natOf_cast, wantedV_none, wantedV_some, guardV_some, guardB_bool, opDo, eval_tmp, eval_int, eval_func, get_putN, Nat.reduceEqDiff, reduceIte, nxVal_some, callTo, callV, doPick, doUn, unOpV, bTT, bFF, List.nil_append, List.append_nil, Nat.zero_add, evals, evP, List.getElem?_toArray, List.getElem?_cons_zero, List.getElem?_cons_succ, Option.bind, doBin, guardOk, isEq, cond_true, cond_false, binOpV, isShift, sameKind, decide_true, intOp, Option.map, e2, e3, e4, e7, e8, fa82_3, lv73, ld1 g7, hl7, iq, fb23_0, fb23_1, lv4, lv3, c0, c1, c4, lv29, ldn g3, List.drop_zero, takeExact_all lm 11 hlm, lv23, e1, p1, p2, cf19, call, hf5.ble]
      exact rfl
    case k22 =>
    have hm := hm.call1 3 rfl (fun _ h => by cases h) hf5 gs5
    simp only [List.set_cons_succ, List.set_cons_zero] at hm
    cases hv : vis cs (n + 1) k ⟨true, yn⟩ lq with
    | mk b l2 =>
    rw [hv] at hm
    simp only []
    refine wp_cond (!b) (by simp only [eval_tmp, get_putN, Nat.reduceEqDiff, reduceIte]) (fun hd => ?_) (fun hd => ?_)
    · have hb : b = false := by simpa using hd
      subst hb
      repeat refine wp_seq ?_
      refine wp_region (t' := ?t23) (ds' := ?d23) (up' := ?u23) (s' := ?s23) (by kernel_rfl) ?h23 ?k23
      case h23 =>
        simp only [runOps_cons, ops_nil, opThen_true, nxThen_val, wantedV_none, opDo, eval_bool, nxVal_some, Bool.not_false]
        exact rfl
      case k23 =>
      refine wp_ret1 (.bool false) 6 rfl (by simp only [get_putN, Nat.reduceEqDiff, reduceIte]) ⟨?_, ?_, hm.fw⟩
      · rw [hvl]; simp only [visL, hv]
      · rw [hvl]; simp only [visL, hv]; exact hm.at 3 rfl
    · have hb : b = true := by simpa using hd
      subst hb
      simp only [visL, hv] at hvl
      refine wp_skip (wp_inBlock ?_)
      refine wp_region (t' := ?t24) (ds' := ?d24) (up' := ?u24) (s' := ?s24) (by kernel_rfl) ?h24 ?k24
      case h24 =>
        simp only [runOps_cons, ops_nil, opThen_true, nxThen_val, wantedV_none, opDo, eval_tmp, eval_int, get_putN, Nat.reduceEqDiff, reduceIte, nxVal_some, Bool.not_true, doBin, guardOk, isEq, cond_true, cond_false, binOpV, isShift, sameKind, decide_true, intOp, e8, mkInt_eq, hw2]
        exact rfl
      case k24 =>
      refine hnext (c.refs.length - (q + 1)) _ _ (by omega) ⟨q + 1, l2, rfl, hlt, hm, hvl, ?_, ?_, ?_, ?_, ?_⟩
      · simp only [get_putN, Nat.reduceEqDiff, reduceIte, e2]
      · simp only [get_putN, Nat.reduceEqDiff, reduceIte, e3]
      · simp only [get_putN, Nat.reduceEqDiff, reduceIte, e4]
      · simp only [get_putN, Nat.reduceEqDiff, reduceIte, e7]
      · simp only [get_putN, Nat.reduceEqDiff, reduceIte]
  · have hyc : yc = false := by simpa using hyc
    have hy : (Rf.mk yc yn).cell = true → 0 ≤ (Rf.mk yc yn).num ∧ (Rf.mk yc yn).num < (k : Int) := fun h => by simp [hyc] at h
    subst hyc
    obtain ⟨_, s5, call, rfl, gs5, hf5⟩ := ih n rfl ⟨false, yn⟩ k lq s4 (by omega) (by omega) hy hm.wf k4 gs
    have call := ca_rec call
    unfold Rf.cs at call
    refine wp_sch (t' := ?t25) (ds' := ?d25) (up' := ?u25) (s' := ?s25) [(some 1, 0), (some 1, 1), (some 1, 2), (some 1, 3), (some 1, 4), (some 1, 5), (some 1, 6), (some 1, 7), (some 1, 8), (some 1, 9), (some 1, 10), (some 1, 11), (some 1, 12), (some 1, 13), (some 1, 14), (some 1, 15), (some 1, 16), (some 1, 17), (some 1, 18), (some 1, 19), (some 1, 20), (some 1, 21), (some 1, 22), (some 1, 23), (some 1, 24), (some 1, 25), (some 1, 26), (some 1, 27), (some 1, 28), (some 1, 29), (some 1, 30), (some 1, 31), (some 1, 32), (some 1, 33), (none, 34), (some 1, 35), (some 1, 36)] (by kernel_rfl) (by kernel_rfl) ?h25 ?k25
    case h25 =>
      simp only [runSch_nil, runSch_f, runSch_e, runSchK_eq, runSchE_eq, schFloat_some, schThen_some, schEff_some, schEThen_some, schNext_true, floatStep1_true, floatStep1_false, effStep_true, effDo_enter, effEnd_ret, floatDo1_0, floatDo1_1, valOnly_val, readBoth_some, readTo_val, readAll_one, opKind, List.take_succ_cons, List.take_zero, List.take_nil, doLoad_ptr, natOf_cast, wantedV_none, wantedV_some, guardV_some, guardB_bool, guardB_undef, opDo, eval_tmp, eval_bool, eval_func, get_putN, Nat.reduceEqDiff, reduceIte, nxVal_some, callTo, callV, doPick, doUn, unOpV, bFT, bFF, List.nil_append, List.append_nil, Nat.zero_add, evals, evP, List.getElem?_toArray, List.getElem?_cons_zero, List.getElem?_cons_succ, Option.bind, cond_false, Option.map, e2, e3, e7, e8, fa82_3, lv73, ld1 g7, hl7, iq, fb23_0, lv4, c0, lv29, ldn g3, List.drop_zero, takeExact_all lm 11 hlm, lv23, e1, cf19, call, hf5.ble]
      exact rfl
    case k25 =>
    have hm := hm.call1 3 rfl (fun _ h => by cases h) hf5 gs5
    simp only [List.set_cons_succ, List.set_cons_zero] at hm
    cases hv : vis cs (n + 1) k ⟨false, yn⟩ lq with
    | mk b l2 =>
    rw [hv] at hm
    simp only []
    refine wp_cond (!b) (by simp only [eval_tmp, get_putN, Nat.reduceEqDiff, reduceIte]) (fun hd => ?_) (fun hd => ?_)
    · have hb : b = false := by simpa using hd
      subst hb
      repeat refine wp_seq ?_
      refine wp_region (t' := ?t26) (ds' := ?d26) (up' := ?u26) (s' := ?s26) (by kernel_rfl) ?h26 ?k26
      case h26 =>
        simp only [runOps_cons, ops_nil, opThen_true, nxThen_val, wantedV_none, opDo, eval_bool, nxVal_some, Bool.not_false]
        exact rfl
      case k26 =>
      refine wp_ret1 (.bool false) 6 rfl (by simp only [get_putN, Nat.reduceEqDiff, reduceIte]) ⟨?_, ?_, hm.fw⟩
      · rw [hvl]; simp only [visL, hv]
      · rw [hvl]; simp only [visL, hv]; exact hm.at 3 rfl
    · have hb : b = true := by simpa using hd
      subst hb
      simp only [visL, hv] at hvl
      refine wp_skip (wp_inBlock ?_)
      refine wp_region (t' := ?t27) (ds' := ?d27) (up' := ?u27) (s' := ?s27) (by kernel_rfl) ?h27 ?k27
      case h27 =>
        simp only [runOps_cons, ops_nil, opThen_true, nxThen_val, wantedV_none, opDo, eval_tmp, eval_int, get_putN, Nat.reduceEqDiff, reduceIte, nxVal_some, Bool.not_true, doBin, guardOk, isEq, cond_true, cond_false, binOpV, isShift, sameKind, decide_true, intOp, e8, mkInt_eq, hw2]
        exact rfl
      case k27 =>
      refine hnext (c.refs.length - (q + 1)) _ _ (by omega) ⟨q + 1, l2, rfl, hlt, hm, hvl, ?_, ?_, ?_, ?_, ?_⟩
      · simp only [get_putN, Nat.reduceEqDiff, reduceIte, e2]
      · simp only [get_putN, Nat.reduceEqDiff, reduceIte, e3]
      · simp only [get_putN, Nat.reduceEqDiff, reduceIte, e4]
      · simp only [get_putN, Nat.reduceEqDiff, reduceIte, e7]
      · simp only [get_putN, Nat.reduceEqDiff, reduceIte]

set_option maxRecDepth 10000 in
theorem ordered (K : S → Prop) (hK : StayF K) (cs : List Cl) (vc : V) (hC : Sl K 25 5 vc cs (RdCl K)) (lm : List V) (hlm6 : lm[6]? = some vc) (hlm : lm.length = 11) (fs : Nat) : ∀ (n : Nat) (x : Rf) (before : Int) (l : List Int) (s : S), before ≤ n → before ≤ cs.length → (x.cell = true → 0 ≤ x.num ∧ x.num < before) → WF s → K s → s.get fs = some (SB cs.length l) →
      Cw envL 19 [.agg lm, .agg x.cs, .slice ⟨fs, 0, 0⟩ 0 cs.length (some cs.length) 1] s fun v s' => v = .bool (vis cs (n + 1) before x l).1 ∧ s'.get fs = some (SB cs.length (vis cs (n + 1) before x l).2) ∧ Fw [fs] s s' := by
  intro n
  induction n with
  | zero => exact ordered_step K hK cs vc hC lm hlm6 hlm fs 0 (fun m h => by omega)
  | succ n ih => exact ordered_step K hK cs vc hC lm hlm6 hlm fs (n + 1) (fun m h => by
      obtain rfl : n = m := by omega
      exact ih)
end Go.AI.Sv
