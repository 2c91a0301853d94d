/- The reference's plain values. No conditions. -/
import Derived.Test.YthedakdjiljmhaaGreatDoorSvOrd
set_option linter.unusedVariables false
set_option linter.unusedSimpArgs false
noncomputable section
namespace Go.AI.Sv
open Go.Proofs

abbrev CB (k : Nat) : Blk := .cells 3 false 1 [⟨0, 0, [.int .i64 (k : Int)]⟩]
def plV (cs : List Cl) (n : Nat) (x : Rf) (k : Nat) : Vl := if (pl cs n x k).1 = 0 then (pl cs n x k).2.2 else zeroVl
def PostP (cs : List Cl) (fc n : Nat) (x : Rf) (k : Nat) (s : S) (v : V) (s' : S) : Prop :=
  ∃ l, v = .tuple [.agg l, .int .i64 (pl cs n x k).1] ∧ l.length = 3 ∧ l.all V.one = true ∧ RdVl (Kn s.next s') (n + 1) (plV cs n x k) l ∧ s'.get fc = some (CB (pl cs n x k).2.1) ∧ Fw [fc] s s'
theorem doExtract_tuple (vs : List V) (i : Nat) : doExtract (some (.tuple vs)) i = vs[i]? := rfl

theorem cf20 (args : List V) (s : S) : callF envL 20 args s = some (.enter 20 args s) := by kernel_rfl
set_option maxRecDepth 10000 in
set_option maxHeartbeats 4000000 in
theorem plain_step (K : S → Prop) (hK : StayF K) (cs : List Cl) (vc : V) (hC : Sl K 25 5 vc cs (RdCl K)) (lm : List V) (hlm6 : lm[6]? = some vc) (hlm : lm.length = 11) (fc : Nat) (n : Nat)
    (ih : ∀ m, n = m + 1 → ∀ (x : Rf) (k : Nat) (s : S), Wo cs m x → k ≤ 4000 → WF s → K s → s.get fc = some (CB k) → Cw envL 20 [.agg lm, .agg x.cs, .ptr ⟨fc, 0, 0⟩] s (PostP cs fc m x k s))
    (x : Rf) (k : Nat) (s : S) (hwo : Wo cs n x) (hk : k ≤ 4000) (hw : WF s) (k0 : K s) (hr : s.get fc = some (CB k)) : Cw envL 20 [.agg lm, .agg x.cs, .ptr ⟨fc, 0, 0⟩] s (PostP cs fc n x k s) := by
  obtain ⟨xc, xn⟩ := x
  unfold Rf.cs
  refine cw_enter (fn := Tryz.f20) rfl Tryz.func20 rfl (by kernel_rfl) ?_
  rw [initT_cons, initT_cons, initT_cons, initT_nil]
  repeat refine wp_seq ?_
  refine wp_region (t' := ?t1) (ds' := ?d1) (up' := ?u1) (s' := ?s1) (by kernel_rfl) ?h1 ?k1
  case h1 =>
    simp only [runOps_cons, ops_nil, opThen_true, nxThen_val, wantedV_none, opDo, eval_tmp, eval_int, get_putN, Nat.reduceEqDiff, reduceIte, nxVal_some, doBox_agg, Nat.zero_add, Nat.reduceAdd, evP, al33]
    exact rfl
  case k1 =>
  have hm := (((Me.start1 (F := [fc]) hw (by simp) hr (fun _ h => by cases h)).alloc (B := .cells 29 false 1 [⟨0, 0, lm⟩]) (fun _ h => by cases h)).alloc (B := .cells 23 false 1 [⟨0, 0, [.bool xc, .int .i64 xn]⟩]) (fun _ h => by cases h)).alloc (B := .cells 33 false 1 [⟨0, 0, [.str [], .int .i64 0, .nilslice]⟩]) (fun _ h => by cases h)
  generalize hs1 : S.alloc (S.alloc (S.alloc s _) _) _ = s1 at hm ⊢
  generalize hf6 : S.next (S.alloc (S.alloc s _) _) = f6 at hm ⊢
  generalize hf4 : S.next (S.alloc s _) = f4 at hm ⊢
  generalize hf3 : S.next s = f3 at hm ⊢
  have gr := hm.at 3 rfl
  have hw1 : IntKind.wrap .i64 ((k : Int) + 1) = ((k + 1 : Nat) : Int) := by
    have := wrap_in ((k : Int) + 1) ⟨by omega, by omega⟩; omega
  repeat refine wp_seq ?_
  refine wp_region (t' := ?t2) (ds' := ?d2) (up' := ?u2) (s' := ?s2) (by kernel_rfl) ?h2 ?k2
  case h2 =>
    simp only [nxSkip_some, doLoad_ptr, doStore_ptr, runOps_cons, ops_nil, opThen_true, nxThen_val, nxThen_skip, wantedV_none, opDo, eval_tmp, eval_int, get_putN, putD_none, Nat.reduceEqDiff, reduceIte, nxVal_some, evP, List.getElem?_cons_zero, doBin, guardOk, isEq, cond_true, cond_false, binOpV, isShift, sameKind, decide_true, intOp, doNilCheck_ptr, lv3, ld1 gr, mkInt_eq, hw1, svi3, st1 gr 0 [.int .i64 ((k + 1 : Nat) : Int)] rfl rfl]
    exact rfl
  case k2 =>
  have hm := hm.put 3 rfl (B' := CB (k + 1)) (fun _ h => by cases h)
  generalize hs2 : S.put s1 _ _ = s2 at hm ⊢
  simp only [List.set_cons_succ, List.set_cons_zero] at hm
  have gr := hm.at 3 rfl
  have g6 := hm.at 0 rfl
  have g4 := hm.at 1 rfl
  have g3 := hm.at 2 rfl
  repeat refine wp_seq ?_
  by_cases hk1 : 4000 < k + 1
  · have p0 : decide (((k + 1 : Nat) : Int) > 4000) = true := by simp; omega
    have epl : pl cs n ⟨xc, xn⟩ k = (7, k + 1, zeroVl) := by
      cases n <;> simp [pl, hk1]
    refine wp_region (t' := ?t3) (ds' := ?d3) (up' := ?u3) (s' := ?s3) (by kernel_rfl) ?h3 ?k3
    case h3 =>
      simp only [doLoad_ptr, runOps_cons, ops_nil, opThen_true, nxThen_val, wantedV_none, opDo, eval_tmp, eval_int, get_putN, Nat.reduceEqDiff, reduceIte, nxVal_some, evP, List.getElem?_cons_zero, doBin, guardOk, isEq, cond_true, cond_false, binOpV, isShift, sameKind, decide_true, intOp, doNilCheck_ptr, lv3, ld1 gr, p0]
      exact rfl
    case k3 =>
    repeat refine wp_seq ?_
    refine wp_cond true (by simp only [eval_tmp, get_putN, Nat.reduceEqDiff, reduceIte]) (fun _ => ?_) (fun h => by cases h)
    repeat refine wp_seq ?_
    refine wp_region (t' := ?t4) (ds' := ?d4) (up' := ?u4) (s' := ?s4) (by kernel_rfl) ?h4 ?k4
    case h4 =>
      simp only [nxSkip_some, doStore_ptr, runOps_cons, ops_nil, opThen_true, nxThen_val, nxThen_skip, wantedV_none, opDo, eval_tmp, eval_int, get_putN, putD_none, Nat.reduceEqDiff, reduceIte, nxVal_some, evP, evalsO, build33_0, sva33, st1 g6 0 [.str [], .int .i64 0, .nilslice] rfl rfl]
      exact rfl
    case k4 =>
    have hm := hm.put 0 rfl (B' := .cells 33 false 1 [⟨0, 0, [.str [], .int .i64 0, .nilslice]⟩]) (fun _ h => by cases h)
    generalize hs4 : S.put s2 _ _ = s4 at hm ⊢
    simp only [List.set_cons_zero] at hm
    have g6 := hm.at 0 rfl
    refine wp_retc2 (.agg [.str [], .int .i64 0, .nilslice]) (.int .i64 7) 6 7 ⟨f6, 0, 0⟩ 33 rfl (by simp only [get_putN, Nat.reduceEqDiff, reduceIte]) (by rw [evP, lv33, ldn g6]; rfl) (by simp only [get_putN, Nat.reduceEqDiff, reduceIte]) ⟨_, by rw [epl], rfl, rfl, ?_, ?_, hm.fw⟩
    · simp only [plV, epl]; exact rd_leaf _ _ _
    · rw [epl]; exact hm.at 3 rfl
  have p0 : decide (((k + 1 : Nat) : Int) > 4000) = false := by simp; omega
  refine wp_region (t' := ?t5) (ds' := ?d5) (up' := ?u5) (s' := ?s5) (by kernel_rfl) ?h5 ?k5
  case h5 =>
    simp only [doLoad_ptr, runOps_cons, ops_nil, opThen_true, nxThen_val, wantedV_none, opDo, eval_tmp, eval_int, get_putN, Nat.reduceEqDiff, reduceIte, nxVal_some, evP, List.getElem?_cons_zero, doBin, guardOk, isEq, cond_true, cond_false, binOpV, isShift, sameKind, decide_true, intOp, doNilCheck_ptr, lv3, ld1 gr, p0]
    exact rfl
  case k5 =>
  repeat refine wp_seq ?_
  refine wp_cond false (by simp only [eval_tmp, get_putN, Nat.reduceEqDiff, reduceIte]) (fun h => by cases h) (fun _ => ?_)
  refine wp_skip ?_
  repeat refine wp_seq ?_
  refine wp_region (t' := ?t6) (ds' := ?d6) (up' := ?u6) (s' := ?s6) (by kernel_rfl) ?h6 ?k6
  case h6 =>
    simp only [doLoad_ptr, runOps_cons, ops_nil, opThen_true, nxThen_val, wantedV_none, opDo, eval_tmp, get_putN, Nat.reduceEqDiff, reduceIte, nxVal_some, doUn, unOpV, Nat.add_zero, evP, List.getElem?_cons_zero, fa23_0, lv4, ld1 g4]
    exact rfl
  case k6 =>
  repeat refine wp_seq ?_
  by_cases hc : xc = false
  · subst hc
    have epl : pl cs n ⟨false, xn⟩ k = (0, k + 1, .mk [] xn []) := by
      cases n <;> simp [pl, hk1]
    refine wp_cond true (by simp only [eval_tmp, get_putN, Nat.reduceEqDiff, reduceIte, Bool.not_false]) (fun _ => ?_) (fun h => by cases h)
    repeat refine wp_seq ?_
    refine wp_region (t' := ?t7) (ds' := ?d7) (up' := ?u7) (s' := ?s7) (by kernel_rfl) ?h7 ?k7
    case h7 =>
      simp only [nxSkip_some, doLoad_ptr, doStore_ptr, runOps_cons, ops_nil, opThen_true, nxThen_val, nxThen_skip, wantedV_none, opDo, eval_tmp, eval_int, get_putN, putD_none, Nat.reduceEqDiff, reduceIte, nxVal_some, Bool.not_false, Nat.zero_add, evP, List.getElem?_cons_zero, List.getElem?_cons_succ, fa23_1, lv3, ld1 g4, evalsO, build33_1, sva33, st1 g6 0 [.str [], .int .i64 xn, .nilslice] rfl rfl]
      exact rfl
    case k7 =>
    have hm := hm.put 0 rfl (B' := .cells 33 false 1 [⟨0, 0, [.str [], .int .i64 xn, .nilslice]⟩]) (fun _ h => by cases h)
    generalize hs4 : S.put s2 _ _ = s4 at hm ⊢
    simp only [List.set_cons_zero] at hm
    have g6 := hm.at 0 rfl
    refine wp_retc2 (.agg [.str [], .int .i64 xn, .nilslice]) (.int .i64 0) 6 7 ⟨f6, 0, 0⟩ 33 rfl (by simp only [get_putN, Nat.reduceEqDiff, reduceIte]) (by rw [evP, lv33, ldn g6]; rfl) (by simp only [get_putN, Nat.reduceEqDiff, reduceIte]) ⟨_, by rw [epl], rfl, rfl, ?_, ?_, hm.fw⟩
    · simp only [plV, epl]; exact rd_leaf _ _ _
    · rw [epl]; exact hm.at 3 rfl
  have hc : xc = true := by simpa using hc
  subst hc
  refine wp_cond false (by simp only [eval_tmp, get_putN, Nat.reduceEqDiff, reduceIte, Bool.not_true]) (fun h => by cases h) (fun _ => ?_)
  refine wp_skip ?_
  repeat refine wp_seq ?_
  cases n with
  | zero => cases hwo
  | succ n =>
  rcases hwo with hwo | ⟨c, h0, hcs, hkind⟩
  · cases hwo
  obtain ⟨i, rfl⟩ := Int.eq_ofNat_of_zero_le (show 0 ≤ xn from h0)
  have hcs : cs[i]? = some c := by simpa using hcs
  have k2 := hK _ _ _ hm.fw k0
  obtain ⟨pc, hpc⟩ := hC.el
  obtain ⟨ia, lc, ec, elc, olc, rc⟩ := hpc i _ hcs
  have ec := ec _ k2
  refine wp_region (t' := ?t8) (ds' := ?d8) (up' := ?u8) (s' := ?s8) (by kernel_rfl) ?h8 ?k8
  case h8 =>
    simp only [nxSkip_some, doLoad_ptr, doStore_ptr, natOf_cast, runOps_cons, ops_nil, opThen_true, nxThen_val, nxThen_skip, wantedV_none, opDo, eval_tmp, get_putN, putD_none, Nat.reduceEqDiff, reduceIte, nxVal_some, Bool.not_true, Nat.zero_add, evP, List.getElem?_cons_zero, List.getElem?_cons_succ, Option.map, fa29_5, lv25, ld1 g3, hlm6, fa23_1, lv3, lv82, ld1 g4, ia, ec, al82, sv82 _ _ lc elc, nw82 _ lc olc elc]
    exact rfl
  case k8 =>
  have hm := hm.alloc (B := .cells 82 false 1 [⟨0, 0, lc⟩]) (fun _ h => by cases h)
  generalize hs3 : S.alloc s2 _ = s3 at hm ⊢
  generalize hf8 : S.next s2 = f8 at hm ⊢
  obtain ⟨vr, rfl, bc, hR⟩ := rc
  have g8 := hm.at 0 rfl
  have g6 := hm.at 1 rfl
  repeat refine wp_seq ?_
  by_cases hk2 : c.kind = 2
  · have epl : pl cs (n + 1) ⟨true, (i : Int)⟩ k = (61, k + 1, zeroVl) := by
      simp [pl, hk1, hcs, hk2]
    have p5 : (c.kind == 2) = true := by simp [hk2]
    refine wp_region (t' := ?t9) (ds' := ?d9) (up' := ?u9) (s' := ?s9) (by kernel_rfl) ?h9 ?k9
    case h9 =>
      simp only [doLoad_ptr, runOps_cons, ops_nil, opThen_true, nxThen_val, wantedV_none, opDo, eval_tmp, eval_int, get_putN, Nat.reduceEqDiff, reduceIte, nxVal_some, Nat.add_zero, evP, List.getElem?_cons_zero, doBin, guardOk, isEq, cond_true, cond_false, binOpV, isShift, sameKind, decide_true, intOp, fa82_0, lv3, ld1 g8, p5]
      exact rfl
    case k9 =>
    repeat refine wp_seq ?_
    refine wp_cond true (by simp only [eval_tmp, get_putN, Nat.reduceEqDiff, reduceIte]) (fun _ => ?_) (fun h => by cases h)
    repeat refine wp_seq ?_
    refine wp_region (t' := ?t10) (ds' := ?d10) (up' := ?u10) (s' := ?s10) (by kernel_rfl) ?h10 ?k10
    case h10 =>
      simp only [nxSkip_some, doStore_ptr, runOps_cons, ops_nil, opThen_true, nxThen_val, nxThen_skip, wantedV_none, opDo, eval_tmp, eval_int, get_putN, putD_none, Nat.reduceEqDiff, reduceIte, nxVal_some, evP, evalsO, build33_0, sva33, st1 g6 0 [.str [], .int .i64 0, .nilslice] rfl rfl]
      exact rfl
    case k10 =>
    have hm := hm.put 1 rfl (B' := .cells 33 false 1 [⟨0, 0, [.str [], .int .i64 0, .nilslice]⟩]) (fun _ h => by cases h)
    generalize hs4 : S.put s3 _ _ = s4 at hm ⊢
    simp only [List.set_cons_succ, List.set_cons_zero] at hm
    have g6 := hm.at 1 rfl
    refine wp_retc2 (.agg [.str [], .int .i64 0, .nilslice]) (.int .i64 61) 6 7 ⟨f6, 0, 0⟩ 33 rfl (by simp only [get_putN, Nat.reduceEqDiff, reduceIte]) (by rw [evP, lv33, ldn g6]; rfl) (by simp only [get_putN, Nat.reduceEqDiff, reduceIte]) ⟨_, by rw [epl], rfl, rfl, ?_, ?_, hm.fw⟩
    · simp only [plV, epl]; exact rd_leaf _ _ _
    · rw [epl]; exact hm.at 4 rfl
  have hkind : c.kind = 1 ∧ ∀ y ∈ c.refs, Wo cs n y := by
    rcases hkind with h | h
    · exact absurd h hk2
    · exact h
  have epl : pl cs (n + 1) ⟨true, (i : Int)⟩ k = ((plL cs n c.refs (k + 1) []).1, (plL cs n c.refs (k + 1) []).2.1, .mk c.con 0 (plL cs n c.refs (k + 1) []).2.2) := by
    simp [pl, hk1, hcs, hk2]
  have p5 : (c.kind == 2) = false := by simp [hk2]
  refine wp_region (t' := ?t11) (ds' := ?d11) (up' := ?u11) (s' := ?s11) (by kernel_rfl) ?h11 ?k11
  case h11 =>
    simp only [doLoad_ptr, runOps_cons, ops_nil, opThen_true, nxThen_val, wantedV_none, opDo, eval_tmp, eval_int, get_putN, Nat.reduceEqDiff, reduceIte, nxVal_some, Nat.add_zero, evP, List.getElem?_cons_zero, doBin, guardOk, isEq, cond_true, cond_false, binOpV, isShift, sameKind, decide_true, intOp, fa82_0, lv3, ld1 g8, p5]
    exact rfl
  case k11 =>
  repeat refine wp_seq ?_
  refine wp_cond false (by simp only [eval_tmp, get_putN, Nat.reduceEqDiff, reduceIte]) (fun h => by cases h) (fun _ => ?_)
  refine wp_skip ?_
  repeat refine wp_seq ?_
  refine wp_region (t' := ?t12) (ds' := ?d12) (up' := ?u12) (s' := ?s12) (by kernel_rfl) ?h12 ?k12
  case h12 =>
    simp only [nxSkip_some, doLoad_ptr, doStore_ptr, runOps_cons, ops_nil, opThen_true, nxThen_val, nxThen_skip, wantedV_none, opDo, eval_tmp, get_putN, putD_none, Nat.reduceEqDiff, reduceIte, nxVal_some, Nat.zero_add, evP, List.getElem?_cons_zero, List.getElem?_cons_succ, fa82_1, lv9, ld1 g8, evalsO, build33_s, al33, sva33, nw33 _ [.str c.con, .int .i64 0, .nilslice] rfl rfl]
    exact rfl
  case k12 =>
  have hm := hm.alloc (B := .cells 33 false 1 [⟨0, 0, [.str c.con, .int .i64 0, .nilslice]⟩]) (fun _ h => by cases h)
  generalize hs4 : S.alloc s3 _ = s4 at hm ⊢
  generalize hf9 : S.next s3 = f9 at hm ⊢
  repeat refine wp_seq ?_
  refine wp_region (t' := ?t13) (ds' := ?d13) (up' := ?u13) (s' := ?s13) (by kernel_rfl) ?h13 ?k13
  case h13 =>
    simp only [runOps_cons, ops_nil, opThen_true, nxThen_val, wantedV_none, opDo, eval_int, nxVal_some]
    exact rfl
  case k13 =>
  have hla := hR.bnd
  obtain ⟨pa, hpa⟩ := hR.el
  have hL9 := hm.wf _ _ (hm.at 0 rfl)
  have hL8 := hm.wf _ _ (hm.at 1 rfl)
  have hL6 := hm.wf _ _ (hm.at 2 rfl)
  have hL4 := hm.wf _ _ (hm.at 3 rfl)
  have hL3 := hm.wf _ _ (hm.at 4 rfl)
  have hLr := hm.wf _ _ (hm.at 5 rfl)
  have hL0 := hm.fw.next
  rw [hf3] at hL0
  generalize hL : S.next s4 = L at hL9 hL8 hL6 hL4 hL3 hLr hL0
  generalize hB8 : [V.int .i64 c.kind, .str c.con, .int .i64 c.num, vr, .int .i64 c.next] = l8 at *
  have hl8 : l8[3]? = some vr := by rw [← hB8]; rfl
  refine wp_block (wp_loop_inv (fun j t s' => ∃ (q kk : Nat) (acc : List Vl) (v : V), j = c.refs.length - q ∧ q ≤ c.refs.length ∧ kk ≤ 4000 ∧ acc.length ≤ kk ∧
      Me [fc] s s' [(f9, .cells 33 false 1 [⟨0, 0, [.str c.con, .int .i64 0, v]⟩]), (f8, .cells 82 false 1 [⟨0, 0, l8⟩]), (f6, .cells 33 false 1 [⟨0, 0, [.str [], .int .i64 0, .nilslice]⟩]), (f4, .cells 23 false 1 [⟨0, 0, [.bool true, .int .i64 i]⟩]), (f3, .cells 29 false 1 [⟨0, 0, lm⟩]), (fc, CB kk)] ∧
      L ≤ s'.next ∧ Grow True (n + 1) L s' v acc ∧ plL cs n c.refs (k + 1) [] = plL cs n (c.refs.drop q) kk acc ∧
      t.get (pth 2) = some (.ptr ⟨fc, 0, 0⟩) ∧ t.get (pth 3) = some (.ptr ⟨f3, 0, 0⟩) ∧ t.get (pth 6) = some (.ptr ⟨f6, 0, 0⟩) ∧ t.get (pth 8) = some (.ptr ⟨f8, 0, 0⟩) ∧ t.get (pth 9) = some (.ptr ⟨f9, 0, 0⟩) ∧ t.get (pth 10) = some (.int .i64 q)) ?_ (c.refs.length - 0) _ _
      ⟨0, k + 1, [], .nilslice, rfl, Nat.zero_le _, by omega, by simp, hm, Nat.le_of_eq hL.symm, .inl ⟨rfl, rfl⟩, rfl, ?_, ?_, ?_, ?_, ?_, ?_⟩)
  rotate_left
  · simp only [get_putN, Nat.reduceEqDiff, reduceIte]
  · simp only [get_putN, Nat.reduceEqDiff, reduceIte]
  · simp only [get_putN, Nat.reduceEqDiff, reduceIte]
  · simp only [get_putN, Nat.reduceEqDiff, reduceIte]
  · simp only [get_putN, Nat.reduceEqDiff, reduceIte]
  · simp only [get_putN, Nat.reduceEqDiff, reduceIte]; rfl
  clear g3 g4 g6 g8 gr hm
  rintro j t s5 ⟨q, kk, acc, v, hj, hq, hkk, hacc, hm, hLs, hG, hpl, e2, e3, e6, e8, e9, e10⟩ hnext
  have g8 := hm.at 1 rfl
  have g9 := hm.at 0 rfl
  have g6 := hm.at 2 rfl
  repeat refine wp_seq ?_
  refine wp_region (t' := ?t14) (ds' := ?d14) (up' := ?u14) (s' := ?s14) (by kernel_rfl) ?h14 ?k14
  case h14 =>
    simp only [doLoad_ptr, runOps_cons, ops_nil, opThen_true, nxThen_val, wantedV_none, opDo, eval_tmp, get_putN, Nat.reduceEqDiff, reduceIte, nxVal_some, callTo, callB, Nat.zero_add, evals, evP, List.getElem?_toArray, List.getElem?_cons_zero, doBin, guardOk, isEq, cond_true, cond_false, binOpV, isShift, sameKind, decide_true, intOp, e8, e10, fa82_3, lv73, ld1 g8, hl8, hR.len]
    exact rfl
  case k14 =>
  repeat refine wp_seq ?_
  refine wp_cond (decide ((q : Int) < (c.refs.length : Int))) (by simp only [eval_tmp, get_putN, Nat.reduceEqDiff, reduceIte]) (fun hd => ?_) (fun hd => ?_)
  rotate_left
  · have hqn : q = c.refs.length := by have := of_decide_eq_false hd; omega
    subst hqn
    rw [List.drop_length] at hpl
    simp only [plL] at hpl
    refine wp_exit rfl ?_
    have hv' := hG.one
    repeat refine wp_seq ?_
    refine wp_region (t' := ?t15) (ds' := ?d15) (up' := ?u15) (s' := ?s15) (by kernel_rfl) ?h15 ?k15
    case h15 =>
      simp only [nxSkip_some, doLoad_ptr, doStore_ptr, runOps_cons, ops_nil, opThen_true, nxThen_val, nxThen_skip, wantedV_none, opDo, eval_tmp, eval_int, get_putN, putD_none, Nat.reduceEqDiff, reduceIte, nxVal_some, evP, Option.map, e6, e9, lv33, ldn g9, List.drop_zero, takeExact_all [.str c.con, .int .i64 0, v] 3 rfl, sva33, st1 g6 0 [.str c.con, .int .i64 0, v] (one3 hv'.1) rfl]
      exact rfl
    case k15 =>
    have hmz := hm.put 2 rfl (B' := .cells 33 false 1 [⟨0, 0, [.str c.con, .int .i64 0, v]⟩]) (fun _ h => by cases h)
    have hGz := hG.keep (s' := S.put s5 f6 (.cells 33 false 1 [⟨0, 0, [.str c.con, .int .i64 0, v]⟩])) (fun g B hg hB => by rw [S.get_put, if_neg (by omega)]; exact hB)
    generalize hs10 : S.put s5 _ _ = s10 at hmz hGz ⊢
    simp only [List.set_cons_succ, List.set_cons_zero] at hmz
    have g6 := hmz.at 2 rfl
    refine wp_retc2 (.agg [.str c.con, .int .i64 0, v]) (.int .i64 0) 6 7 ⟨f6, 0, 0⟩ 33 rfl (by simp only [get_putN, Nat.reduceEqDiff, reduceIte, e6]) (by rw [evP, lv33, ldn g6]; rfl) (by simp only [get_putN, Nat.reduceEqDiff, reduceIte]) ⟨_, by rw [epl, hpl], rfl, one3 hv'.1, ?_, ?_, hmz.fw⟩
    · simp only [plV, epl, hpl, if_true]
      refine ⟨v, rfl, bc, ?_⟩
      have hsl := hGz.sl (by omega)
      exact hsl.mono (fun s'' hs g B hg hB => hs g B (by omega) hB) (RdVl.mono (fun s'' hs g B hg hB => hs g B (by omega) hB) (n + 1))
    · rw [epl, hpl]; exact hmz.at 5 rfl
  have hlt : q < c.refs.length := by have := of_decide_eq_true hd; omega
  have hy := List.getElem_mem hlt
  obtain ⟨iq, l1, e1, el1, o1, r1⟩ := hpa q _ (List.getElem?_eq_getElem hlt)
  have hdrop : c.refs.drop q = c.refs[q] :: c.refs.drop (q + 1) := List.drop_eq_getElem_cons hlt
  generalize hyy : c.refs[q] = y at *
  have r1 : l1 = y.cs := r1
  have k5 := hK _ _ _ hm.fw k0
  have e1 := e1 _ k5
  rw [r1] at e1
  have g3 := hm.at 4 rfl
  have hpl' : plL cs n c.refs (k + 1) [] = if (pl cs n y kk).1 = 0 then plL cs n (c.refs.drop (q + 1)) (pl cs n y kk).2.1 (acc ++ [(pl cs n y kk).2.2]) else ((pl cs n y kk).1, (pl cs n y kk).2.1, acc) := by
    rw [hpl, hdrop]; simp only [plL]
  have hge := pl_ge cs n y kk
  have hle := pl_le cs n y kk
  obtain ⟨_, s6, call, l, rfl, hl3, hl1, hrd, gr6, hf6'⟩ := ih n rfl y kk s5 (hkind.2 y hy) hkk hm.wf k5 (hm.at 5 rfl)
  have call := ca_rec call
  have hm6 := hm.call1 5 rfl (fun _ h => by cases h) hf6' gr6
  simp only [List.set_cons_succ, List.set_cons_zero] at hm6
  have hpv : (pl cs n y kk).1 = 0 → plV cs n y kk = (pl cs n y kk).2.2 := fun h => by simp only [plV, h, if_true]
  rw [show (pl cs n y kk).1 = (pl cs n y kk).1 from rfl] at call
  generalize hp1 : (pl cs n y kk).1 = pe at *
  generalize hp2 : (pl cs n y kk).2.1 = pk at *
  generalize hp3 : (pl cs n y kk).2.2 = pv at *
  refine wp_skip ?_
  repeat refine wp_seq ?_
  refine wp_block ?_
  repeat refine wp_seq ?_
  refine wp_sch (t' := ?t16) (ds' := ?d16) (up' := ?u16) (s' := ?s16) [(some 1, 0), (some 1, 1), (some 1, 2), (some 1, 3), (some 1, 4), (some 1, 5), (some 1, 6), (none, 7), (some 1, 8), (some 1, 9), (some 2, 11), (none, 12), (some 2, 10), (some 1, 13)] (by kernel_rfl) (by kernel_rfl) ?h16 ?k16
  case h16 =>
    simp only [runSch_nil, runSch_f, runSch_e, runSchK_eq, runSchE_eq, schFloat_some, schThen_some, schEff_some, schEThen_some, schNext_true, floatStep1_true, effStep_true, effDo_skip, effDo_enter, effEnd_ret, floatDo1_0, floatDo1_1, floatDo1_2, valOnly_val, valBoth_val, readBoth_some, readTo_val, readAll_one, opKind, List.take_succ_cons, List.take_zero, List.take_nil, nxSkip_some, doLoad_ptr, doStore_ptr, natOf_cast, wantedV_none, opDo, eval_tmp, eval_func, get_putN, putD_none, Nat.reduceEqDiff, reduceIte, nxVal_some, callTo, callV, List.nil_append, List.append_nil, Nat.zero_add, evals, evP, List.getElem?_toArray, List.getElem?_cons_zero, List.getElem?_cons_succ, Option.map, e2, e3, e8, e10, lv29, ldn g3, List.drop_zero, takeExact_all lm 11 hlm, fa82_3, lv73, ld1 g8, hl8, iq, lv23, e1, cf20, call, hf6'.ble, doExtract_tuple, al33, sv33 _ _ l hl3, nw33 _ l hl1 hl3, ble_alloc]
    exact rfl
  case k16 =>
  have hm7 := hm6.alloc (B := .cells 33 false 1 [⟨0, 0, l⟩]) (fun _ h => by cases h)
  have hK67 : Kn s5.next s6 (S.alloc s6 (.cells 33 false 1 [⟨0, 0, l⟩])) := fun g B hg hB => (Fw.alloc [] hm6.wf _).keep g B (by simp) hB
  have hk7 : ∀ g B, L ≤ g → s5.get g = some B → (S.alloc s6 (.cells 33 false 1 [⟨0, 0, l⟩])).get g = some B := fun g B hg hB => (Fw.alloc [] hm6.wf _).keep g B (by simp) (hf6'.keep g B (by simp; omega) hB)
  have hn7 : s5.next ≤ (S.alloc s6 (.cells 33 false 1 [⟨0, 0, l⟩])).next := by have := hf6'.next; rw [S.next_alloc]; omega
  generalize hs7 : S.alloc s6 _ = s7 at hm7 hK67 hk7 hn7 ⊢
  generalize hf11 : S.next s6 = f11 at hm7 ⊢
  have g11 := hm7.at 0 rfl
  have g9 := hm7.at 1 rfl
  have g6 := hm7.at 3 rfl
  repeat refine wp_seq ?_
  refine wp_region (t' := ?t17) (ds' := ?d17) (up' := ?u17) (s' := ?s17) (by kernel_rfl) ?h17 ?k17
  case h17 =>
    simp only [runOps_cons, ops_nil, opThen_true, nxThen_val, wantedV_none, opDo, eval_tmp, eval_int, get_putN, Nat.reduceEqDiff, reduceIte, nxVal_some, doBin, guardOk, isEq, cond_true, cond_false, binOpV, isShift, sameKind, decide_true, intOp]
    exact rfl
  case k17 =>
  refine wp_cond (pe != 0) (by simp only [eval_tmp, get_putN, Nat.reduceEqDiff, reduceIte]) (fun hd => ?_) (fun hd => ?_)
  · have hne : pe ≠ 0 := by simpa using hd
    rw [if_neg hne] at hpl'
    repeat refine wp_seq ?_
    refine wp_region (t' := ?t18) (ds' := ?d18) (up' := ?u18) (s' := ?s18) (by kernel_rfl) ?h18 ?k18
    case h18 =>
      simp only [nxSkip_some, doStore_ptr, runOps_cons, ops_nil, opThen_true, nxThen_val, nxThen_skip, wantedV_none, opDo, eval_tmp, get_putN, putD_none, Nat.reduceEqDiff, reduceIte, nxVal_some, evP, e6, evalsO, build33_0, sva33, st1 g6 0 [.str [], .int .i64 0, .nilslice] rfl rfl]
      exact rfl
    case k18 =>
    have hm := hm7.put 3 rfl (B' := .cells 33 false 1 [⟨0, 0, [.str [], .int .i64 0, .nilslice]⟩]) (fun _ h => by cases h)
    generalize hs8 : S.put s7 _ _ = s8 at hm ⊢
    simp only [List.set_cons_succ, List.set_cons_zero] at hm
    have g6 := hm.at 3 rfl
    refine wp_retc2 (.agg [.str [], .int .i64 0, .nilslice]) (.int .i64 pe) 6 7 ⟨f6, 0, 0⟩ 33 rfl (by simp only [get_putN, Nat.reduceEqDiff, reduceIte, e6]) (by rw [evP, lv33, ldn g6]; rfl) (by simp only [get_putN, Nat.reduceEqDiff, reduceIte]) ⟨_, by rw [epl, hpl'], rfl, rfl, ?_, ?_, hm.fw⟩
    · simp only [plV, epl, hpl', if_neg hne]; exact rd_leaf _ _ _
    · rw [epl, hpl']; exact hm.at 6 rfl
  have he : pe = 0 := by simpa using hd
  subst he
  rw [if_pos rfl] at hpl'
  have hw2 : IntKind.wrap .i64 ((q : Int) + 1) = ((q + 1 : Nat) : Int) := by
    have := wrap_in ((q : Int) + 1) ⟨by omega, by omega⟩; omega
  rw [hpv rfl] at hrd
  obtain ⟨v', s9, happ, hab, hble, hG9⟩ := hG.step (Q := True) hLs hm.wf hm7.wf hk7 hn7 (fun _ => RdVl.mono (fun s'' hs g B hg hB => hs g B hg (hK67 g B hg hB)) _ _ _ hrd) hl3 hl1 (by omega)
  have hv' := hG9.one
  have hm7 := hm7.tl
  have hm9 := hm7.ab hab (by omega) (by simp; omega)
  have g99 := hm9.at 0 rfl
  refine wp_skip ?_
  refine wp_region (t' := ?t19) (ds' := ?d19) (up' := ?u19) (s' := ?s19) (by kernel_rfl) ?h19 ?k19
  case h19 =>
    simp only [nxSkip_some, doLoad_ptr, doStore_ptr, runOps_cons, ops_nil, opThen_true, nxThen_val, nxThen_skip, wantedV_none, opDo, eval_tmp, get_putN, putD_none, Nat.reduceEqDiff, reduceIte, nxVal_some, callTo, callB, Nat.zero_add, evals, evP, List.getElem?_toArray, List.getElem?_cons_zero, List.getElem?_cons_succ, Option.map, e9, fa33_2, lv31, ld1 g9, lv33, ldn g11, List.drop_zero, takeExact_all l 3 hl3, evalsO, bsl31 _ l hl3, nxPair_some, happ, sv31 _ _ _ hv'.2, st1 g99 2 [v'] (by simp [hv'.1]) rfl]
    exact rfl
  case k19 =>
  have hmz := hm9.put 0 rfl (B' := .cells 33 false 1 [⟨0, 0, [.str c.con, .int .i64 0, v']⟩]) (fun _ h => by cases h)
  have hGz := hG9.keep (s' := S.put s9 f9 (.cells 33 false 1 [⟨0, 0, [.str c.con, .int .i64 0, v']⟩])) (fun g B hg hB => by rw [S.get_put, if_neg (by omega)]; exact hB)
  have hLz : L ≤ S.next (S.put s9 f9 (.cells 33 false 1 [⟨0, 0, [.str c.con, .int .i64 0, v']⟩])) := by have := hab.next; rw [S.next_put]; omega
  generalize hsz : S.put s9 _ _ = sz at hmz hGz hLz ⊢
  simp only [List.set_cons_zero] at hmz
  refine wp_inBlock ?_
  refine wp_region (t' := ?t20) (ds' := ?d20) (up' := ?u20) (s' := ?s20) (by kernel_rfl) ?h20 ?k20
  case h20 =>
    simp only [runOps_cons, ops_nil, opThen_true, nxThen_val, wantedV_none, opDo, eval_tmp, eval_int, get_putN, Nat.reduceEqDiff, reduceIte, nxVal_some, doBin, guardOk, isEq, cond_true, cond_false, binOpV, isShift, sameKind, decide_true, intOp, e10, mkInt_eq, hw2]
    exact rfl
  case k20 =>
  refine hnext (c.refs.length - (q + 1)) _ _ (by omega) ⟨q + 1, pk, acc ++ [pv], v', rfl, hlt, hle rfl, by simp; omega, hmz, hLz, hGz.imp (fun _ => ⟨trivial, trivial⟩), hpl', ?_, ?_, ?_, ?_, ?_, ?_⟩
  · simp only [get_putN, Nat.reduceEqDiff, reduceIte, e2]
  · simp only [get_putN, Nat.reduceEqDiff, reduceIte, e3]
  · simp only [get_putN, Nat.reduceEqDiff, reduceIte, e6]
  · simp only [get_putN, Nat.reduceEqDiff, reduceIte, e8]
  · simp only [get_putN, Nat.reduceEqDiff, reduceIte, e9]
  · simp only [get_putN, Nat.reduceEqDiff, reduceIte]

theorem plain_c (K : S → Prop) (hK : StayF K) (cs : List Cl) (vc : V) (hC : Sl K 25 5 vc cs (RdCl K)) (lm : List V) (hlm6 : lm[6]? = some vc) (hlm : lm.length = 11) (fc : Nat) : ∀ (n : Nat) (x : Rf) (k : Nat) (s : S), Wo cs n x → k ≤ 4000 → WF s → K s → s.get fc = some (CB k) → Cw envL 20 [.agg lm, .agg x.cs, .ptr ⟨fc, 0, 0⟩] s (PostP cs fc n x k s) := by
  intro n
  induction n with
  | zero => exact plain_step K hK cs vc hC lm hlm6 hlm fc 0 (fun m h => by omega)
  | succ n ih => exact plain_step K hK cs vc hC lm hlm6 hlm fc (n + 1) (fun m h => by
      obtain rfl : n = m := by omega
      exact ih)
end Go.AI.Sv
