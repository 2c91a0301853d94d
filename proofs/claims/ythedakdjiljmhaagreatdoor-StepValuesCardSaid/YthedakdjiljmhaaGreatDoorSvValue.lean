/- The program's reader of values. No conditions. -/
import Derived.Test.YthedakdjiljmhaaGreatDoorSvPl
set_option linter.unusedVariables false
set_option linter.unusedSimpArgs false
noncomputable section
namespace Go.AI.Sv
open Go.Proofs

theorem build33_0 : doBuild Tryz.prog 33 (some []) = some (.agg [.str [], .int .i64 0, .nilslice]) := by kernel_rfl
theorem build33_1 (n : Int) : doBuild Tryz.prog 33 (some [(1, .int .i64 n)]) = some (.agg [.str [], .int .i64 n, .nilslice]) := by kernel_rfl
theorem build33_s (l : List Nat) : doBuild Tryz.prog 33 (some [(0, .str l)]) = some (.agg [.str l, .int .i64 0, .nilslice]) := by kernel_rfl
theorem bsl31 (s : S) : ∀ (l : List V), l.length = 3 → doBuildSlice Tryz.prog s 31 1 (some [(0, .agg l)]) = some (.val (.slice ⟨s.next, 0, 0⟩ 0 1 (some 1) 3) (s.alloc (.cells 33 false 1 [⟨0, 0, l⟩])))
  | [a, b, c], _ => by kernel_rfl
theorem svi3 (s : S) (a : Ad) (k : IntKind) (n : Int) : storeVar Tryz.prog s 3 a (.int k n) = storeCells s a [.int k n] := sv3 s a _ rfl
theorem svi34 (s : S) (a : Ad) (k : IntKind) (n : Int) : storeVar Tryz.prog s 34 a (.int k n) = storeCells s a [.int k n] := sv34 s a _ rfl
theorem sva33 (s : S) (a : Ad) (x y z : V) : storeVar Tryz.prog s 33 a (.agg [x, y, z]) = storeCells s a [x, y, z] := sv33 s a _ rfl
theorem floatDo1_1c {E : Env} {t : T V} {s x : S} {r : List S} {o : Oper} : floatDo1 E (x :: r) t s o 1 = readBoth s (readAll E t o (x :: r)) := rfl
theorem one3 {l : List Nat} {n : Int} {v : V} (h : v.one = true) : [V.str l, V.int .i64 n, v].all V.one = true := by
  simp only [List.all_cons, List.all_nil, h]; rfl
theorem nxPair_some (v : V) (s : S) : nxPair (some (v, s)) = some (.val v s) := rfl

theorem wp_retc1 {E : Env} {f : FuncId} {fn : Func} {t : T V} {k : List Item} {s : S} {Q : V → S → Prop} (v : V) (a : Tmp) (p : Ad) (ty : TypeId) (hr : fn.results = #[.cell a ty]) (ha : t.get (pth a) = some (.ptr p)) (hv : loadVar E.P s ty p = some v) (h : Q v s) : Wp E f fn t (.code .ret :: k) [] none none s (Ret Q) :=
  wp_ret v (by simp only [resultsV, hr, resultL, resultV, ha, hv, oneOr]) h
theorem wp_retc2 {E : Env} {f : FuncId} {fn : Func} {t : T V} {k : List Item} {s : S} {Q : V → S → Prop} (v w : V) (a b : Tmp) (p : Ad) (ty : TypeId) (hr : fn.results = #[.cell a ty, .tmp b]) (ha : t.get (pth a) = some (.ptr p)) (hv : loadVar E.P s ty p = some v) (hb : t.get (pth b) = some w) (h : Q (.tuple [v, w]) s) : Wp E f fn t (.code .ret :: k) [] none none s (Ret Q) :=
  wp_ret (.tuple [v, w]) (by simp only [resultsV, hr, resultL, resultV, ha, hv, hb, oneOr]) h

theorem rd_leaf (K : S → Prop) (n : Nat) (x : Int) : RdVl K (n + 1) (.mk [] x []) [.str [], .int .i64 x, .nilslice] :=
  ⟨.nilslice, rfl, (fun _ h => by cases h), ⟨fun s => by simp only [lenV, und31]; rfl, by simp, rfl, rfl, ⟨fun _ => ⟨0, 0, 0⟩, fun k x hx => by simp at hx⟩⟩⟩

abbrev RB (ty : TypeId) (sb : Bool) (nv : Nat) (vc : V) (fm k : Nat) (e : Int) : Blk := .cells ty sb nv [⟨0, 0, [vc, .map fm, .int .i64 k, .int .i64 e]⟩]

def PostV (cs : List Cl) (vc : V) (fr fm : Nat) (ty : TypeId) (sb : Bool) (nv n : Nat) (x : Rf) (k : Nat) (s : S) (v : V) (s' : S) : Prop :=
  ∃ l, v = .agg l ∧ l.length = 3 ∧ l.all V.one = true ∧ ((pl cs n x k).1 = 0 → RdVl (Kn s.next s') (n + 1) (pl cs n x k).2.2 l) ∧ s'.get fr = some (RB ty sb nv vc fm (pl cs n x k).2.1 (pl cs n x k).1) ∧ Fw [fr] s s'

theorem cf18 (args : List V) (s : S) : callF envL 18 args s = some (.enter 18 args s) := by kernel_rfl

set_option maxRecDepth 10000 in
set_option maxHeartbeats 2000000 in
theorem value_step (K : S → Prop) (hK : StayF K) (cs : List Cl) (vc : V) (hC : Sl K 25 5 vc cs (RdCl K)) (fr fm : Nat) (ty : TypeId) (sb : Bool) (nv : Nat) (n : Nat)
    (ih : ∀ m, n = m + 1 → ∀ (x : Rf) (k : Nat) (s : S), Wo cs m x → k ≤ 4000 → WF s → K s → s.get fr = some (RB ty sb nv vc fm k 0) → Cw envL 18 [.ptr ⟨fr, 0, 0⟩, .agg x.cs] s (PostV cs vc fr fm ty sb nv m x k s))
    (x : Rf) (k : Nat) (s : S) (hwo : Wo cs n x) (hk : k ≤ 4000) (hw : WF s) (k0 : K s) (hr : s.get fr = some (RB ty sb nv vc fm k 0)) : Cw envL 18 [.ptr ⟨fr, 0, 0⟩, .agg x.cs] s (PostV cs vc fr fm ty sb nv n x k s) := by
  obtain ⟨xc, xn⟩ := x
  unfold Rf.cs
  refine cw_enter (fn := Tryz.f18) rfl Tryz.func18 rfl (by kernel_rfl) ?_
  rw [initT_cons, initT_cons, initT_nil]
  repeat refine wp_seq ?_
  refine wp_region (t' := ?t1) (ds' := ?d1) (up' := ?u1) (s' := ?s1) (by kernel_rfl) ?h1 ?k1
  case h1 =>
    simp only [runOps_cons, ops_nil, opThen_true, nxThen_val, wantedV_none, opDo, eval_tmp, get_putN, Nat.reduceEqDiff, reduceIte, doBox_agg, Nat.zero_add, evP, al33]
    exact rfl
  case k1 =>
  have hm := ((Me.start1 (F := [fr]) hw (by simp) hr (fun _ h => by cases h)).alloc (B := .cells 23 false 1 [⟨0, 0, [.bool xc, .int .i64 xn]⟩]) (fun _ h => by cases h)).alloc (B := .cells 33 false 1 [⟨0, 0, [.str [], .int .i64 0, .nilslice]⟩]) (fun _ h => by cases h)
  generalize hs1 : S.alloc (S.alloc s _) _ = s1 at hm ⊢
  generalize hf4 : S.next (S.alloc s _) = f4 at hm ⊢
  generalize hf3 : S.next s = f3 at hm ⊢
  have gr := hm.at 2 rfl
  have hw1 : IntKind.wrap .i64 ((k : Int) + 1) = ((k + 1 : Nat) : Int) := by
    have := wrap_in ((k : Int) + 1) ⟨by omega, by omega⟩; omega
  repeat refine wp_seq ?_
  refine wp_region (t' := ?t2) (ds' := ?d2) (up' := ?u2) (s' := ?s2) (by kernel_rfl) ?h2 ?k2
  case h2 =>
    simp only [nxSkip_some, doLoad_ptr, doStore_ptr, runOps_cons, ops_nil, opThen_true, nxThen_val, nxThen_skip, wantedV_none, opDo, eval_tmp, eval_int, get_putN, putD_none, Nat.reduceEqDiff, reduceIte, nxVal_some, Nat.zero_add, evP, List.getElem?_cons_zero, List.getElem?_cons_succ, doBin, guardOk, isEq, cond_true, cond_false, binOpV, isShift, sameKind, decide_true, intOp, fa66_2, doNilCheck_ptr, lv3, ld1 gr, mkInt_eq, hw1, svi3, st1 gr 2 [.int .i64 ((k + 1 : Nat) : Int)] rfl rfl]
    exact rfl
  case k2 =>
  have hm := hm.put 2 rfl (B' := RB ty sb nv vc fm (k + 1) 0) (fun _ h => by cases h)
  generalize hs2 : S.put s1 _ _ = s2 at hm ⊢
  simp only [List.set_cons_succ, List.set_cons_zero] at hm
  have gr := hm.at 2 rfl
  repeat refine wp_seq ?_
  by_cases hk1 : 4000 < k + 1
  · have p0 : decide (((k + 1 : Nat) : Int) > 4000) = true := by simp; omega
    have epl : pl cs n ⟨xc, xn⟩ k = (7, k + 1, zeroVl) := by
      cases n <;> simp [pl, hk1]
    refine wp_region (t' := ?t3) (ds' := ?d3) (up' := ?u3) (s' := ?s3) (by kernel_rfl) ?h3 ?k3
    case h3 =>
      simp only [doLoad_ptr, runOps_cons, ops_nil, opThen_true, nxThen_val, wantedV_none, opDo, eval_tmp, eval_int, get_putN, Nat.reduceEqDiff, reduceIte, nxVal_some, Nat.zero_add, evP, List.getElem?_cons_zero, List.getElem?_cons_succ, doBin, guardOk, isEq, cond_true, cond_false, binOpV, isShift, sameKind, decide_true, intOp, fa66_2, doNilCheck_ptr, lv3, ld1 gr, p0]
      exact rfl
    case k3 =>
    repeat refine wp_seq ?_
    refine wp_cond true (by simp only [eval_tmp, get_putN, Nat.reduceEqDiff, reduceIte]) (fun _ => ?_) (fun h => by cases h)
    repeat refine wp_seq ?_
    refine wp_region (t' := ?t4) (ds' := ?d4) (up' := ?u4) (s' := ?s4) (by kernel_rfl) ?h4 ?k4
    case h4 =>
      simp only [nxSkip_some, doStore_ptr, runOps_cons, ops_nil, opThen_true, nxThen_val, nxThen_skip, wantedV_none, opDo, eval_tmp, eval_int, get_putN, putD_none, Nat.reduceEqDiff, reduceIte, nxVal_some, Nat.zero_add, evP, fa66_3, doNilCheck_ptr, svi34, st1 gr 3 [.int .i64 7] rfl rfl]
      exact rfl
    case k4 =>
    have hm := hm.put 2 rfl (B' := RB ty sb nv vc fm (k + 1) 7) (fun _ h => by cases h)
    generalize hs3 : S.put s2 _ _ = s3 at hm ⊢
    simp only [List.set_cons_succ, List.set_cons_zero] at hm
    have g4 := hm.at 0 rfl
    repeat refine wp_seq ?_
    refine wp_region (t' := ?t5) (ds' := ?d5) (up' := ?u5) (s' := ?s5) (by kernel_rfl) ?h5 ?k5
    case h5 =>
      simp only [nxSkip_some, doStore_ptr, runOps_cons, ops_nil, opThen_true, nxThen_val, nxThen_skip, wantedV_none, opDo, eval_tmp, get_putN, putD_none, Nat.reduceEqDiff, reduceIte, nxVal_some, evP, evalsO, build33_0, sva33, st1 g4 0 [.str [], .int .i64 0, .nilslice] rfl rfl]
      exact rfl
    case k5 =>
    have hm := hm.put 0 rfl (B' := .cells 33 false 1 [⟨0, 0, [.str [], .int .i64 0, .nilslice]⟩]) (fun _ h => by cases h)
    generalize hs4 : S.put s3 _ _ = s4 at hm ⊢
    simp only [List.set_cons_zero] at hm
    have g4 := hm.at 0 rfl
    refine wp_retc1 (.agg [.str [], .int .i64 0, .nilslice]) 4 ⟨f4, 0, 0⟩ 33 rfl (by simp only [get_putN, Nat.reduceEqDiff, reduceIte]) (by rw [evP, lv33, ldn g4]; rfl) ⟨_, rfl, rfl, rfl, ?_, ?_, hm.fw⟩
    · rw [epl]; intro h; cases h
    · rw [epl]; exact hm.at 2 rfl
  have p0 : decide (((k + 1 : Nat) : Int) > 4000) = false := by simp; omega
  refine wp_region (t' := ?t6) (ds' := ?d6) (up' := ?u6) (s' := ?s6) (by kernel_rfl) ?h6 ?k6
  case h6 =>
    simp only [doLoad_ptr, runOps_cons, ops_nil, opThen_true, nxThen_val, wantedV_none, opDo, eval_tmp, eval_int, get_putN, Nat.reduceEqDiff, reduceIte, nxVal_some, Nat.zero_add, evP, List.getElem?_cons_zero, List.getElem?_cons_succ, doBin, guardOk, isEq, cond_true, cond_false, binOpV, isShift, sameKind, decide_true, intOp, fa66_2, doNilCheck_ptr, lv3, ld1 gr, p0]
    exact rfl
  case k6 =>
  repeat refine wp_seq ?_
  refine wp_cond false (by simp only [eval_tmp, get_putN, Nat.reduceEqDiff, reduceIte]) (fun h => by cases h) (fun _ => ?_)
  refine wp_skip ?_
  repeat refine wp_seq ?_
  have g3 := hm.at 1 rfl
  have g4 := hm.at 0 rfl
  refine wp_region (t' := ?t7) (ds' := ?d7) (up' := ?u7) (s' := ?s7) (by kernel_rfl) ?h7 ?k7
  case h7 =>
    simp only [doLoad_ptr, runOps_cons, ops_nil, opThen_true, nxThen_val, wantedV_none, opDo, eval_tmp, get_putN, Nat.reduceEqDiff, reduceIte, nxVal_some, doUn, unOpV, Nat.add_zero, evP, List.getElem?_cons_zero, fa23_0, lv4, ld1 g3]
    exact rfl
  case k7 =>
  repeat refine wp_seq ?_
  by_cases hc : xc = false
  · subst hc
    have epl : pl cs n ⟨false, xn⟩ k = (0, k + 1, .mk [] xn []) := by
      cases n <;> simp [pl, hk1]
    refine wp_cond true (by simp only [eval_tmp, get_putN, Nat.reduceEqDiff, reduceIte, Bool.not_false]) (fun _ => ?_) (fun h => by cases h)
    repeat refine wp_seq ?_
    refine wp_region (t' := ?t8) (ds' := ?d8) (up' := ?u8) (s' := ?s8) (by kernel_rfl) ?h8 ?k8
    case h8 =>
      simp only [nxSkip_some, doLoad_ptr, doStore_ptr, runOps_cons, ops_nil, opThen_true, nxThen_val, nxThen_skip, wantedV_none, opDo, eval_tmp, get_putN, putD_none, Nat.reduceEqDiff, reduceIte, nxVal_some, Bool.not_false, Nat.zero_add, evP, List.getElem?_cons_zero, List.getElem?_cons_succ, fa23_1, lv3, ld1 g3, evalsO, build33_1, sva33, st1 g4 0 [.str [], .int .i64 xn, .nilslice] rfl rfl]
      exact rfl
    case k8 =>
    have hm := hm.put 0 rfl (B' := .cells 33 false 1 [⟨0, 0, [.str [], .int .i64 xn, .nilslice]⟩]) (fun _ h => by cases h)
    generalize hs4 : S.put s2 _ _ = s4 at hm ⊢
    simp only [List.set_cons_zero] at hm
    have g4 := hm.at 0 rfl
    refine wp_retc1 (.agg [.str [], .int .i64 xn, .nilslice]) 4 ⟨f4, 0, 0⟩ 33 rfl (by simp only [get_putN, Nat.reduceEqDiff, reduceIte]) (by rw [evP, lv33, ldn g4]; rfl) ⟨_, rfl, rfl, rfl, ?_, ?_, hm.fw⟩
    · rw [epl]; intro _; exact rd_leaf _ _ _
    · rw [epl]; exact hm.at 2 rfl
  have hc : xc = true := by simpa using hc
  subst hc
  refine wp_cond false (by simp only [eval_tmp, get_putN, Nat.reduceEqDiff, reduceIte, Bool.not_true]) (fun h => by cases h) (fun _ => ?_)
  refine wp_skip ?_
  repeat refine wp_seq ?_
  cases n with
  | zero => cases hwo
  | succ n =>
  rcases hwo with hwo | ⟨c, h0, hcs, hkind⟩
  · cases hwo
  obtain ⟨i, rfl⟩ := Int.eq_ofNat_of_zero_le (show 0 ≤ xn from h0)
  have hcs : cs[i]? = some c := by simpa using hcs
  have k2 := hK _ _ _ hm.fw k0
  obtain ⟨pc, hpc⟩ := hC.el
  obtain ⟨ia, lc, ec, elc, olc, rc⟩ := hpc i _ hcs
  have ec := ec _ k2
  refine wp_sch (t' := ?t9) (ds' := ?d9) (up' := ?u9) (s' := ?s9) [(some 1, 0), (some 1, 1), (some 1, 2), (some 1, 3), (some 1, 4), (some 1, 5), (some 1, 6), (some 1, 7), (some 1, 8), (none, 9)] (by kernel_rfl) (by kernel_rfl) ?h9 ?k9
  case h9 =>
    simp only [runSch_nil, runSch_f, runSch_e, runSchK_eq, runSchE_eq, schFloat_some, schThen_some, schEff_some, schEThen_some, schNext_true, floatStep1_true, effStep_true, effDo_skip, floatDo1_0, floatDo1_1, floatDo1_2, valOnly_val, valBoth_val, readBoth_some, readTo_val, readAll_one, opKind, List.take_succ_cons, List.take_nil, nxSkip_some, doLoad_ptr, doStore_ptr, natOf_cast, wantedV_none, opDo, eval_tmp, get_putN, putD_none, Nat.reduceEqDiff, reduceIte, nxVal_some, Bool.not_true, Nat.zero_add, Nat.add_zero, evP, List.getElem?_toArray, List.getElem?_cons_zero, List.getElem?_cons_succ, Option.map, fa23_1, lv3, lv25, lv82, ld1 g3, ld1 gr, fa66_0, doNilCheck_ptr, ia, ec, al82, sv82 _ _ lc elc, nw82 _ lc olc elc, ble_alloc]
    exact rfl
  case k9 =>
  have hm := hm.alloc (B := .cells 82 false 1 [⟨0, 0, lc⟩]) (fun _ h => by cases h)
  generalize hs3 : S.alloc s2 _ = s3 at hm ⊢
  generalize hf5 : S.next s2 = f5 at hm ⊢
  obtain ⟨vr, rfl, bc, hR⟩ := rc
  have g5 := hm.at 0 rfl
  have gr := hm.at 3 rfl
  have g4 := hm.at 1 rfl
  repeat refine wp_seq ?_
  by_cases hk2 : c.kind = 2
  · have epl : pl cs (n + 1) ⟨true, (i : Int)⟩ k = (61, k + 1, zeroVl) := by
      simp [pl, hk1, hcs, hk2]
    have p5 : (c.kind == 2) = true := by simp [hk2]
    refine wp_region (t' := ?t10) (ds' := ?d10) (up' := ?u10) (s' := ?s10) (by kernel_rfl) ?h10 ?k10
    case h10 =>
      simp only [doLoad_ptr, runOps_cons, ops_nil, opThen_true, nxThen_val, wantedV_none, opDo, eval_tmp, eval_int, get_putN, Nat.reduceEqDiff, reduceIte, nxVal_some, Nat.add_zero, evP, List.getElem?_cons_zero, doBin, guardOk, isEq, cond_true, cond_false, binOpV, isShift, sameKind, decide_true, intOp, fa82_0, lv3, ld1 g5, p5]
      exact rfl
    case k10 =>
    repeat refine wp_seq ?_
    refine wp_cond true (by simp only [eval_tmp, get_putN, Nat.reduceEqDiff, reduceIte]) (fun _ => ?_) (fun h => by cases h)
    repeat refine wp_seq ?_
    refine wp_region (t' := ?t11) (ds' := ?d11) (up' := ?u11) (s' := ?s11) (by kernel_rfl) ?h11 ?k11
    case h11 =>
      simp only [nxSkip_some, doStore_ptr, runOps_cons, ops_nil, opThen_true, nxThen_val, nxThen_skip, wantedV_none, opDo, eval_tmp, eval_int, get_putN, putD_none, Nat.reduceEqDiff, reduceIte, nxVal_some, Nat.zero_add, evP, fa66_3, doNilCheck_ptr, svi34, st1 gr 3 [.int .i64 61] rfl rfl]
      exact rfl
    case k11 =>
    have hm := hm.put 3 rfl (B' := RB ty sb nv vc fm (k + 1) 61) (fun _ h => by cases h)
    generalize hs4 : S.put s3 _ _ = s4 at hm ⊢
    simp only [List.set_cons_succ, List.set_cons_zero] at hm
    have g4 := hm.at 1 rfl
    repeat refine wp_seq ?_
    refine wp_region (t' := ?t12) (ds' := ?d12) (up' := ?u12) (s' := ?s12) (by kernel_rfl) ?h12 ?k12
    case h12 =>
      simp only [nxSkip_some, doStore_ptr, runOps_cons, ops_nil, opThen_true, nxThen_val, nxThen_skip, wantedV_none, opDo, eval_tmp, get_putN, putD_none, Nat.reduceEqDiff, reduceIte, nxVal_some, evP, evalsO, build33_0, sva33, st1 g4 0 [.str [], .int .i64 0, .nilslice] rfl rfl]
      exact rfl
    case k12 =>
    have hm := hm.put 1 rfl (B' := .cells 33 false 1 [⟨0, 0, [.str [], .int .i64 0, .nilslice]⟩]) (fun _ h => by cases h)
    generalize hs5 : S.put s4 _ _ = s5 at hm ⊢
    simp only [List.set_cons_succ, List.set_cons_zero] at hm
    have g4 := hm.at 1 rfl
    refine wp_retc1 (.agg [.str [], .int .i64 0, .nilslice]) 4 ⟨f4, 0, 0⟩ 33 rfl (by simp only [get_putN, Nat.reduceEqDiff, reduceIte]) (by rw [evP, lv33, ldn g4]; rfl) ⟨_, rfl, rfl, rfl, ?_, ?_, hm.fw⟩
    · rw [epl]; intro h; cases h
    · rw [epl]; exact hm.at 3 rfl
  have hkind : c.kind = 1 ∧ ∀ y ∈ c.refs, Wo cs n y := by
    rcases hkind with h | h
    · exact absurd h hk2
    · exact h
  have epl : pl cs (n + 1) ⟨true, (i : Int)⟩ k = ((plL cs n c.refs (k + 1) []).1, (plL cs n c.refs (k + 1) []).2.1, .mk c.con 0 (plL cs n c.refs (k + 1) []).2.2) := by
    simp [pl, hk1, hcs, hk2]
  have p5 : (c.kind == 2) = false := by simp [hk2]
  refine wp_region (t' := ?t13) (ds' := ?d13) (up' := ?u13) (s' := ?s13) (by kernel_rfl) ?h13 ?k13
  case h13 =>
    simp only [doLoad_ptr, runOps_cons, ops_nil, opThen_true, nxThen_val, wantedV_none, opDo, eval_tmp, eval_int, get_putN, Nat.reduceEqDiff, reduceIte, nxVal_some, Nat.add_zero, evP, List.getElem?_cons_zero, doBin, guardOk, isEq, cond_true, cond_false, binOpV, isShift, sameKind, decide_true, intOp, fa82_0, lv3, ld1 g5, p5]
    exact rfl
  case k13 =>
  repeat refine wp_seq ?_
  refine wp_cond false (by simp only [eval_tmp, get_putN, Nat.reduceEqDiff, reduceIte]) (fun h => by cases h) (fun _ => ?_)
  refine wp_skip ?_
  repeat refine wp_seq ?_
  refine wp_region (t' := ?t14) (ds' := ?d14) (up' := ?u14) (s' := ?s14) (by kernel_rfl) ?h14 ?k14
  case h14 =>
    simp only [nxSkip_some, doLoad_ptr, doStore_ptr, runOps_cons, ops_nil, opThen_true, nxThen_val, nxThen_skip, wantedV_none, opDo, eval_tmp, get_putN, putD_none, Nat.reduceEqDiff, reduceIte, nxVal_some, Nat.zero_add, evP, List.getElem?_cons_zero, List.getElem?_cons_succ, fa82_1, lv9, ld1 g5, evalsO, build33_s, al33, sva33, nw33 _ [.str c.con, .int .i64 0, .nilslice] rfl rfl]
    exact rfl
  case k14 =>
  have hm := hm.alloc (B := .cells 33 false 1 [⟨0, 0, [.str c.con, .int .i64 0, .nilslice]⟩]) (fun _ h => by cases h)
  generalize hs4 : S.alloc s3 _ = s4 at hm ⊢
  generalize hf6 : S.next s3 = f6 at hm ⊢
  have g5 := hm.at 1 rfl
  have g6 := hm.at 0 rfl
  repeat refine wp_seq ?_
  refine wp_region (t' := ?t15) (ds' := ?d15) (up' := ?u15) (s' := ?s15) (by kernel_rfl) ?h15 ?k15
  case h15 =>
    simp only [doLoad_ptr, runOps_cons, ops_nil, opThen_true, nxThen_val, wantedV_none, opDo, eval_tmp, eval_int, get_putN, Nat.reduceEqDiff, reduceIte, nxVal_some, callTo, callB, Nat.zero_add, evals, evP, List.getElem?_toArray, List.getElem?_cons_zero, List.getElem?_cons_succ, fa82_3, lv73, ld1 g5, hR.len]
    exact rfl
  case k15 =>
  have hla := hR.bnd
  obtain ⟨pa, hpa⟩ := hR.el
  have hL6 := hm.wf _ _ (hm.at 0 rfl)
  have hL5 := hm.wf _ _ (hm.at 1 rfl)
  have hL4 := hm.wf _ _ (hm.at 2 rfl)
  have hL3 := hm.wf _ _ (hm.at 3 rfl)
  have hLr := hm.wf _ _ (hm.at 4 rfl)
  have hL0 := hm.fw.next
  rw [hf3] at hL0
  generalize hL : S.next s4 = L at hL6 hL5 hL4 hL3 hLr hL0
  generalize hB5 : Blk.cells 82 false 1 [⟨0, 0, [.int .i64 c.kind, .str c.con, .int .i64 c.num, vr, .int .i64 c.next]⟩] = B5 at hm
  refine wp_block (wp_loop_inv (fun j t s' => ∃ (q kk : Nat) (acc : List Vl) (v : V), j = c.refs.length - q ∧ q ≤ c.refs.length ∧ kk ≤ 4000 ∧ acc.length ≤ kk ∧
      Me [fr] s s' [(f6, .cells 33 false 1 [⟨0, 0, [.str c.con, .int .i64 0, v]⟩]), (f5, B5), (f4, .cells 33 false 1 [⟨0, 0, [.str [], .int .i64 0, .nilslice]⟩]), (f3, .cells 23 false 1 [⟨0, 0, [.bool true, .int .i64 i]⟩]), (fr, RB ty sb nv vc fm kk 0)] ∧
      L ≤ s'.next ∧ Grow True (n + 1) L s' v acc ∧ plL cs n c.refs (k + 1) [] = plL cs n (c.refs.drop q) kk acc ∧
      t.get (pth 0) = some (.ptr ⟨fr, 0, 0⟩) ∧ t.get (pth 4) = some (.ptr ⟨f4, 0, 0⟩) ∧ t.get (pth 6) = some (.ptr ⟨f6, 0, 0⟩) ∧ t.get (pth 50) = some vr ∧ t.get (pth 51) = some (.int .i64 c.refs.length) ∧ t.get (pth 52) = some (.int .i64 q)) ?_ (c.refs.length - 0) _ _
      ⟨0, k + 1, [], .nilslice, rfl, Nat.zero_le _, by omega, by simp, hm, Nat.le_of_eq hL.symm, .inl ⟨rfl, rfl⟩, rfl, ?_, ?_, ?_, ?_, ?_, ?_⟩)
  rotate_left
  · simp only [get_putN, Nat.reduceEqDiff, reduceIte]
  · simp only [get_putN, Nat.reduceEqDiff, reduceIte]
  · simp only [get_putN, Nat.reduceEqDiff, reduceIte]
  · simp only [get_putN, Nat.reduceEqDiff, reduceIte]
  · simp only [get_putN, Nat.reduceEqDiff, reduceIte]
  · simp only [get_putN, Nat.reduceEqDiff, reduceIte]; rfl
  clear g3 g4 g5 g6 gr hm
  rintro j t s6 ⟨q, kk, acc, v, hj, hq, hkk, hacc, hm, hLs, hG, hpl, h0, h4, h6, h50, h51, h52⟩ hnext
  repeat refine wp_seq ?_
  refine wp_region (t' := ?t16) (ds' := ?d16) (up' := ?u16) (s' := ?s16) (by kernel_rfl) ?h16 ?k16
  case h16 =>
    simp only [runOps_cons, ops_nil, opThen_true, nxThen_val, wantedV_none, opDo, eval_tmp, nxVal_some, doBin, guardOk, isEq, cond_true, cond_false, binOpV, isShift, sameKind, decide_true, intOp, h51, h52]
    exact rfl
  case k16 =>
  repeat refine wp_seq ?_
  refine wp_cond (decide ((q : Int) < (c.refs.length : Int))) (by simp only [eval_tmp, get_putN, reduceIte]) (fun hd => ?_) (fun hd => ?_)
  · have hlt : q < c.refs.length := by have := of_decide_eq_true hd; omega
    have hy := List.getElem_mem hlt
    obtain ⟨ia, l1, e1, el1, o1, r1⟩ := hpa q _ (List.getElem?_eq_getElem hlt)
    have hdrop : c.refs.drop q = c.refs[q] :: c.refs.drop (q + 1) := List.drop_eq_getElem_cons hlt
    generalize hyy : c.refs[q] = y at *
    have r1 : l1 = y.cs := r1
    have k6 := hK _ _ _ hm.fw k0
    have e1 := e1 _ k6
    rw [r1] at e1
    refine wp_skip ?_
    repeat refine wp_seq ?_
    refine wp_block ?_
    repeat refine wp_seq ?_
    refine wp_region (t' := ?t17) (ds' := ?d17) (up' := ?u17) (s' := ?s17) (by kernel_rfl) ?h17 ?k17
    case h17 =>
      simp only [nxSkip_some, doLoad_ptr, doStore_ptr, natOf_cast, runOps_cons, ops_nil, opThen_true, nxThen_val, nxThen_skip, wantedV_none, opDo, eval_tmp, get_putN, putD_none, Nat.reduceEqDiff, reduceIte, nxVal_some, evP, Option.map, h50, h52, ia, lv23, e1, al23, sv23 _ _ y.cs rfl, nw23 _ y.cs rfl rfl]
      exact rfl
    case k17 =>
    have hm7 := hm.alloc (B := .cells 23 false 1 [⟨0, 0, y.cs⟩]) (fun _ h => by cases h)
    have hG7 := hG.keep (s' := S.alloc s6 (.cells 23 false 1 [⟨0, 0, y.cs⟩])) (fun g B hg hB => (Fw.alloc [] hm.wf _).keep g B (by simp) hB)
    have hL7 : L ≤ S.next (S.alloc s6 (.cells 23 false 1 [⟨0, 0, y.cs⟩])) := by rw [S.next_alloc]; omega
    generalize hs7 : S.alloc s6 _ = s7 at hm7 hG7 hL7 ⊢
    generalize hf8 : S.next s6 = f8 at hm7 ⊢
    have g8 := hm7.at 0 rfl
    have g6 := hm7.at 1 rfl
    have k7 := hK _ _ _ hm7.fw k0
    obtain ⟨_, s8, call, l, rfl, hl3, hl1, hrd, gr8, hf8'⟩ := ih n rfl y kk s7 (hkind.2 y hy) hkk hm7.wf k7 (hm7.at 5 rfl)
    have call := ca_rec call
    have hm8 := hm7.call1 5 rfl (fun _ h => by cases h) hf8' gr8
    simp only [List.set_cons_succ, List.set_cons_zero] at hm8
    have hm8 := hm8.tl
    have g6' := hm8.at 0 rfl
    obtain ⟨v', s9, happ, hab, hble, hG9⟩ := hG7.step (Q := (pl cs n y kk).1 = 0) hL7 hm7.wf hm8.wf (fun g B hg hB => hf8'.keep g B (by simp; omega) hB) hf8'.next hrd hl3 hl1 (by omega)
    have hv' := hG9.one
    have hm9 := hm8.ab hab (by omega) (by simp; omega)
    have g69 := hm9.at 0 rfl
    repeat refine wp_seq ?_
    refine wp_sch (t' := ?t18) (ds' := ?d18) (up' := ?u18) (s' := ?s18) [(some 1, 2), (some 1, 3), (none, 4), (some 2, 0), (some 2, 1), (some 1, 5), (none, 6), (some 1, 7), (none, 8)] (by kernel_rfl) (by kernel_rfl) ?h18 ?k18
    case h18 =>
      simp only [runSch_nil, runSch_f, runSch_e, runSchK_eq, runSchE_eq, schFloat_some, schThen_some, schEff_some, schEThen_some, schNext_true, floatStep1_true, effStep_true, effDo_val, effDo_skip, effDo_enter, effEnd_ret, floatDo1_0, floatDo1_2, valOnly_val, valBoth_val, readBoth_some, readTo_val, readAll_one, readAll_two, readCons_same, opKind, List.take_succ_cons, List.take_zero, List.take_nil, nxSkip_some, doLoad_ptr, doStore_ptr, wantedV_none, opDo, eval_tmp, eval_func, get_putN, putD_none, Nat.reduceEqDiff, reduceIte, nxVal_some, callTo, callB, callV, List.nil_append, List.append_nil, Nat.zero_add, evals, evP, List.getElem?_toArray, List.getElem?_cons_zero, List.getElem?_cons_succ, Option.map, floatDo1_1c, h0, h6, lv23, ldn g8, List.drop_zero, takeExact_all y.cs 2 rfl, cf18, call, hf8'.ble, fa33_2, lv31, ld1 g6, ld1 g6', evalsO, bsl31 _ l hl3, nxPair_some, happ, hble, sv31 _ _ _ hv'.2, st1 g69 2 [v'] (by simp [hv'.1]) rfl, ble_put]
      exact rfl
    case k18 =>
    have hmz := hm9.put 0 rfl (B' := .cells 33 false 1 [⟨0, 0, [.str c.con, .int .i64 0, v']⟩]) (fun _ h => by cases h)
    have hGz := hG9.keep (s' := S.put s9 f6 (.cells 33 false 1 [⟨0, 0, [.str c.con, .int .i64 0, v']⟩])) (fun g B hg hB => by rw [S.get_put, if_neg (by omega)]; exact hB)
    have hLz : L ≤ S.next (S.put s9 f6 (.cells 33 false 1 [⟨0, 0, [.str c.con, .int .i64 0, v']⟩])) := by have := hab.next; have := hf8'.next; rw [S.next_put]; omega
    generalize hsz : S.put s9 _ _ = sz at hmz hGz hLz ⊢
    simp only [List.set_cons_zero] at hmz
    have gr := hmz.at 4 rfl
    have hpl' : plL cs n c.refs (k + 1) [] = if (pl cs n y kk).1 = 0 then plL cs n (c.refs.drop (q + 1)) (pl cs n y kk).2.1 (acc ++ [(pl cs n y kk).2.2]) else ((pl cs n y kk).1, (pl cs n y kk).2.1, acc) := by
      rw [hpl, hdrop]; simp only [plL]
    have hge := pl_ge cs n y kk
    have hle := pl_le cs n y kk
    generalize hp1 : (pl cs n y kk).1 = pe at *
    generalize hp2 : (pl cs n y kk).2.1 = pk at *
    generalize hp3 : (pl cs n y kk).2.2 = pv at *
    repeat refine wp_seq ?_
    refine wp_region (t' := ?t19) (ds' := ?d19) (up' := ?u19) (s' := ?s19) (by kernel_rfl) ?h19 ?k19
    case h19 =>
      simp only [doLoad_ptr, runOps_cons, ops_nil, opThen_true, nxThen_val, wantedV_none, opDo, eval_tmp, eval_int, get_putN, Nat.reduceEqDiff, reduceIte, nxVal_some, Nat.zero_add, evP, List.getElem?_cons_zero, List.getElem?_cons_succ, doBin, guardOk, isEq, cond_true, cond_false, binOpV, isShift, sameKind, decide_true, intOp, h0, fa66_3, doNilCheck_ptr, lv34, ld1 gr]
      exact rfl
    case k19 =>
    refine wp_cond (pe != 0) (by simp only [eval_tmp, get_putN, Nat.reduceEqDiff, reduceIte]) (fun hd => ?_) (fun hd => ?_)
    · have hne : pe ≠ 0 := by simpa using hd
      refine wp_exit rfl ?_
      have g6 := hmz.at 0 rfl
      have g4 := hmz.at 2 rfl
      repeat refine wp_seq ?_
      refine wp_region (t' := ?t20) (ds' := ?d20) (up' := ?u20) (s' := ?s20) (by kernel_rfl) ?h20 ?k20
      case h20 =>
        simp only [nxSkip_some, doLoad_ptr, doStore_ptr, runOps_cons, ops_nil, opThen_true, nxThen_val, nxThen_skip, wantedV_none, opDo, eval_tmp, get_putN, putD_none, Nat.reduceEqDiff, reduceIte, nxVal_some, evP, Option.map, h4, h6, lv33, ldn g6, List.drop_zero, takeExact_all [.str c.con, .int .i64 0, v'] 3 rfl, sva33, st1 g4 0 [.str c.con, .int .i64 0, v'] (one3 hv'.1) rfl]
        exact rfl
      case k20 =>
      have hmz := hmz.put 2 rfl (B' := .cells 33 false 1 [⟨0, 0, [.str c.con, .int .i64 0, v']⟩]) (fun _ h => by cases h)
      have hGz := hGz.keep (s' := S.put sz f4 (.cells 33 false 1 [⟨0, 0, [.str c.con, .int .i64 0, v']⟩])) (fun g B hg hB => by rw [S.get_put, if_neg (by omega)]; exact hB)
      generalize hs10 : S.put sz _ _ = s10 at hmz hGz ⊢
      simp only [List.set_cons_succ, List.set_cons_zero] at hmz
      have g4 := hmz.at 2 rfl
      refine wp_retc1 (.agg [.str c.con, .int .i64 0, v']) 4 ⟨f4, 0, 0⟩ 33 rfl (by simp only [get_putN, Nat.reduceEqDiff, reduceIte, h4]) (by rw [evP, lv33, ldn g4]; rfl) ⟨_, rfl, rfl, one3 hv'.1, ?_, ?_, hmz.fw⟩
      · rw [epl, hpl', if_neg hne]; intro h; exact absurd h hne
      · rw [epl, hpl', if_neg hne]; exact hmz.at 4 rfl
    · have he : pe = 0 := by simpa using hd
      subst he
      rw [if_pos rfl] at hpl'
      have hw2 : IntKind.wrap .i64 ((q : Int) + 1) = ((q + 1 : Nat) : Int) := by
        have := wrap_in ((q : Int) + 1) ⟨by omega, by omega⟩; omega
      refine wp_skip (wp_inBlock ?_)
      refine wp_region (t' := ?t21) (ds' := ?d21) (up' := ?u21) (s' := ?s21) (by kernel_rfl) ?h21 ?k21
      case h21 =>
        simp only [runOps_cons, ops_nil, opThen_true, nxThen_val, wantedV_none, opDo, eval_tmp, eval_int, get_putN, Nat.reduceEqDiff, reduceIte, nxVal_some, doBin, guardOk, isEq, cond_true, cond_false, binOpV, isShift, sameKind, decide_true, intOp, h52, mkInt_eq, hw2]
        exact rfl
      case k21 =>
      refine hnext (c.refs.length - (q + 1)) _ _ (by omega) ⟨q + 1, pk, acc ++ [pv], v', rfl, hlt, hle rfl, by simp; omega, hmz, hLz, hGz.imp (fun _ => ⟨trivial, rfl⟩), hpl', ?_, ?_, ?_, ?_, ?_, ?_⟩
      · simp only [get_putN, Nat.reduceEqDiff, reduceIte, h0]
      · simp only [get_putN, Nat.reduceEqDiff, reduceIte, h4]
      · simp only [get_putN, Nat.reduceEqDiff, reduceIte, h6]
      · simp only [get_putN, Nat.reduceEqDiff, reduceIte, h50]
      · simp only [get_putN, Nat.reduceEqDiff, reduceIte, h51]
      · simp only [get_putN, Nat.reduceEqDiff, reduceIte]
  · have hqn : q = c.refs.length := by have := of_decide_eq_false hd; omega
    subst hqn
    rw [List.drop_length] at hpl
    simp only [plL] at hpl
    refine wp_exit rfl ?_
    have hmz := hm
    have hGz := hG
    have hv' := hG.one
    have hLz := hLs
    have g6 := hmz.at 0 rfl
    have g4 := hmz.at 2 rfl
    repeat refine wp_seq ?_
    refine wp_region (t' := ?t22) (ds' := ?d22) (up' := ?u22) (s' := ?s22) (by kernel_rfl) ?h22 ?k22
    case h22 =>
      simp only [nxSkip_some, doLoad_ptr, doStore_ptr, runOps_cons, ops_nil, opThen_true, nxThen_val, nxThen_skip, wantedV_none, opDo, eval_tmp, get_putN, putD_none, Nat.reduceEqDiff, reduceIte, nxVal_some, evP, Option.map, h4, h6, lv33, ldn g6, List.drop_zero, takeExact_all [.str c.con, .int .i64 0, v] 3 rfl, sva33, st1 g4 0 [.str c.con, .int .i64 0, v] (one3 hv'.1) rfl]
      exact rfl
    case k22 =>
    have hmz := hmz.put 2 rfl (B' := .cells 33 false 1 [⟨0, 0, [.str c.con, .int .i64 0, v]⟩]) (fun _ h => by cases h)
    have hGz := hGz.keep (s' := S.put s6 f4 (.cells 33 false 1 [⟨0, 0, [.str c.con, .int .i64 0, v]⟩])) (fun g B hg hB => by rw [S.get_put, if_neg (by omega)]; exact hB)
    generalize hs10 : S.put s6 _ _ = s10 at hmz hGz ⊢
    simp only [List.set_cons_succ, List.set_cons_zero] at hmz
    have g4 := hmz.at 2 rfl
    refine wp_retc1 (.agg [.str c.con, .int .i64 0, v]) 4 ⟨f4, 0, 0⟩ 33 rfl (by simp only [get_putN, Nat.reduceEqDiff, reduceIte, h4]) (by rw [evP, lv33, ldn g4]; rfl) ⟨_, rfl, rfl, one3 hv'.1, ?_, ?_, hmz.fw⟩
    · rw [epl, hpl]; intro _
      refine ⟨v, rfl, bc, ?_⟩
      have hsl := hGz.sl (by omega)
      exact hsl.mono (fun s'' hs g B hg hB => hs g B (by omega) hB) (RdVl.mono (fun s'' hs g B hg hB => hs g B (by omega) hB) (n + 1))
    · rw [epl, hpl]; exact hmz.at 4 rfl

theorem value_c (K : S → Prop) (hK : StayF K) (cs : List Cl) (vc : V) (hC : Sl K 25 5 vc cs (RdCl K)) (fr fm : Nat) (ty : TypeId) (sb : Bool) (nv : Nat) : ∀ (n : Nat) (x : Rf) (k : Nat) (s : S), Wo cs n x → k ≤ 4000 → WF s → K s → s.get fr = some (RB ty sb nv vc fm k 0) → Cw envL 18 [.ptr ⟨fr, 0, 0⟩, .agg x.cs] s (PostV cs vc fr fm ty sb nv n x k s) := by
  intro n
  induction n with
  | zero => exact value_step K hK cs vc hC fr fm ty sb nv 0 (fun m h => by omega)
  | succ n ih => exact value_step K hK cs vc hC fr fm ty sb nv (n + 1) (fun m h => by
      obtain rfl : n = m := by omega
      exact ih)
end Go.AI.Sv
