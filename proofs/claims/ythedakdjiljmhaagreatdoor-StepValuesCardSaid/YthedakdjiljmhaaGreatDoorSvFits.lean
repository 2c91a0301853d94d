/- What fits in a state. No conditions. -/
import Derived.Test.YthedakdjiljmhaaGreatDoorSvData
set_option linter.unusedVariables false
set_option linter.unusedSimpArgs false
noncomputable section
namespace Go.AI.Sv
open Go.Proofs

/-- What any call keeps. -/
def StayF (K : S → Prop) : Prop := ∀ F s s', Fw F s s' → K s → K s'

def findM (cb : Rf → List Int → Bool × List Int) : List Rf → List Int → Bool × List Int
  | [], l => (false, l)
  | y :: r, l => match cb y l with
    | (true, l') => (true, l')
    | (false, l') => findM cb r l'

theorem cf79 (args : List V) (s : S) : callF envL 79 args s = some (.enter 79 args s) := by kernel_rfl
set_option maxRecDepth 10000 in
theorem indexFunc (g : FuncId) (cap : List V) (hcf : ∀ args s, callF envL g args s = some (.enter g args s)) (K : S → Prop) (hK : StayF K) (F : List Nat) (In : List Int → S → Prop) (cb : Rf → List Int → Bool × List Int)
    (refs : List Rf) (vr : V) (hA : Sl K 73 2 vr refs RdRf)
    (hcb : ∀ y ∈ refs, ∀ l s, WF s → K s → In l s → Cw envL g (.agg y.cs :: cap) s fun v s' => v = .bool (cb y l).1 ∧ In (cb y l).2 s' ∧ Fw F s s') (l : List Int) (s : S) (hw : WF s) (k0 : K s) (hi : In l s) :
    Cw envL 79 [vr, .func (.func g) [] cap] s fun v s' => (∃ i : Int, v = .int .i64 i ∧ decide (0 ≤ i) = (findM cb refs l).1) ∧ In (findM cb refs l).2 s' ∧ Fw F s s' := by
  refine cw_enter (fn := Tryz.f79) rfl Tryz.func79 rfl (by kernel_rfl) ?_
  rw [initT_cons, initT_cons, initT_nil]
  repeat refine wp_seq ?_
  refine wp_region (t' := ?t1) (ds' := ?d1) (up' := ?u1) (s' := ?s1) (by kernel_rfl) ?h1 ?k1
  case h1 =>
    simp only [runOps_cons, ops_nil, opThen_true, nxThen_val, wantedV_none, opDo, eval_int, nxVal_some, Nat.zero_add]
    exact rfl
  case k1 =>
  repeat refine wp_seq ?_
  refine wp_region (t' := ?t2) (ds' := ?d2) (up' := ?u2) (s' := ?s2) (by kernel_rfl) ?h2 ?k2
  case h2 =>
    simp only [runOps_cons, ops_nil, opThen_true, nxThen_val, wantedV_none, opDo, eval_tmp, eval_int, get_putN, Nat.reduceEqDiff, reduceIte, nxVal_some, callTo, callB, evals, evP, List.getElem?_toArray, List.getElem?_cons_zero, hA.len]
    exact rfl
  case k2 =>
  have hla := hA.bnd
  obtain ⟨pa, hpa⟩ := hA.el
  refine wp_block (wp_loop_inv (fun j t s' => ∃ (k : Nat) (lk : List Int), j = refs.length - k ∧ k ≤ refs.length ∧ Fw F s s' ∧ In lk s' ∧ findM cb refs l = findM cb (refs.drop k) lk ∧ t.get (pth 0) = some vr ∧ t.get (pth 1) = some (.func (.func g) [] cap) ∧
      t.get (pth 7) = some (.int .i64 refs.length) ∧ t.get (pth 8) = some (.int .i64 k)) ?_ (refs.length - 0) _ _ ⟨0, l, rfl, Nat.zero_le _, Fw.refl _ _, hi, rfl, ?_, ?_, ?_, ?_⟩)
  rotate_left
  · simp only [get_putN, Nat.reduceEqDiff, reduceIte]
  · simp only [get_putN, Nat.reduceEqDiff, reduceIte]
  · simp only [get_putN, Nat.reduceEqDiff, reduceIte]
  · simp only [get_putN, Nat.reduceEqDiff, reduceIte]; rfl
  rintro j t s2 ⟨k, lk, hj, hk, hf, hin, hfm, h0, h1, h7, h8⟩ hnext
  have k1 := hK _ _ _ hf k0
  repeat refine wp_seq ?_
  refine wp_region (t' := ?t3) (ds' := ?d3) (up' := ?u3) (s' := ?s3) (by kernel_rfl) ?h3 ?k3
  case h3 =>
    simp only [runOps_cons, ops_nil, opThen_true, nxThen_val, wantedV_none, opDo, eval_tmp, nxVal_some, doBin, guardOk, isEq, cond_true, cond_false, binOpV, isShift, sameKind, decide_true, intOp, h7, h8]
    exact rfl
  case k3 =>
  repeat refine wp_seq ?_
  refine wp_cond (decide ((k : Int) < (refs.length : Int))) (by simp only [eval_tmp, get_putN, reduceIte]) (fun hq => ?_) (fun hq => ?_)
  · have hlt : k < refs.length := by have := of_decide_eq_true hq; omega
    obtain ⟨ia, l1, e1, el1, o1, r1⟩ := hpa k _ (List.getElem?_eq_getElem hlt)
    have r1 : l1 = (refs[k]).cs := r1
    have e1 := e1 _ k1
    rw [r1] at e1
    have hdrop : refs.drop k = refs[k] :: refs.drop (k + 1) := List.drop_eq_getElem_cons hlt
    obtain ⟨_, s3, call, rfl, hin3, hf3⟩ := hcb _ (List.getElem_mem hlt) lk s2 (hf.wf hw) k1 hin
    have call := ca_rec call
    refine wp_skip ?_
    repeat refine wp_seq ?_
    refine wp_block ?_
    repeat refine wp_seq ?_
    refine wp_region (t' := ?t4) (ds' := ?d4) (up' := ?u4) (s' := ?s4) (by kernel_rfl) ?h4 ?k4
    case h4 =>
      simp only [runOps_cons, ops_nil, opThen_true, nxThen_val, wantedV_none, opDo, eval_tmp, get_putN, Nat.reduceEqDiff, reduceIte, nxVal_some, h8]
      exact rfl
    case k4 =>
    repeat refine wp_seq ?_
    refine wp_region (t' := ?t5) (ds' := ?d5) (up' := ?u5) (s' := ?s5) (by kernel_rfl) ?h5 ?k5
    case h5 =>
      simp only [doLoad_ptr, natOf_cast, runOps_cons, ops_nil, opThen_true, nxThen_val, nxThen_enter, outThen_ret, wantedV_none, opDo, eval_tmp, get_putN, Nat.reduceEqDiff, reduceIte, nxVal_some, callTo, callV, List.nil_append, List.cons_append, evals, evP, Option.map, h0, h1, ia, lv23, e1, hcf, call]
      exact rfl
    case k5 =>
    have hw1 : IntKind.wrap .i64 ((k : Int) + 1) = ((k + 1 : Nat) : Int) := by
      have := wrap_in ((k : Int) + 1) ⟨by omega, by omega⟩; omega
    cases hc : cb refs[k] lk with
    | mk b l2 =>
    rw [hc] at hin3
    simp only []
    rw [hdrop] at hfm
    simp only [findM, hc] at hfm
    refine wp_cond b (by simp only [eval_tmp, get_putN, Nat.reduceEqDiff, reduceIte]) (fun hd => ?_) (fun hd => ?_)
    · subst hd
      repeat refine wp_seq ?_
      refine wp_region (t' := ?t6) (ds' := ?d6) (up' := ?u6) (s' := ?s6) (by kernel_rfl) ?h6 ?k6
      case h6 =>
        simp only [runOps_cons, ops_nil, opThen_true, nxThen_val, wantedV_none, opDo, eval_tmp, get_putN, Nat.reduceEqDiff, reduceIte, nxVal_some]
        exact rfl
      case k6 =>
      refine wp_ret1 (.int .i64 k) 4 rfl (by simp only [get_putN, Nat.reduceEqDiff, reduceIte]) ⟨⟨k, rfl, ?_⟩, ?_, hf.trans hf3⟩
      · rw [hfm]; simp
      · rw [hfm]; exact hin3
    · subst hd
      refine wp_skip (wp_inBlock ?_)
      refine wp_region (t' := ?t7) (ds' := ?d7) (up' := ?u7) (s' := ?s7) (by kernel_rfl) ?h7 ?k7
      case h7 =>
        simp only [runOps_cons, ops_nil, opThen_true, nxThen_val, wantedV_none, opDo, eval_tmp, eval_int, get_putN, Nat.reduceEqDiff, reduceIte, nxVal_some, doBin, guardOk, isEq, cond_true, cond_false, binOpV, isShift, sameKind, decide_true, intOp, h8, mkInt_eq, hw1]
        exact rfl
      case k7 =>
      refine hnext (refs.length - (k + 1)) _ _ (by omega) ⟨k + 1, l2, rfl, hlt, hf.trans hf3, hin3, hfm, ?_, ?_, ?_, ?_⟩
      · simp only [get_putN, Nat.reduceEqDiff, reduceIte, h0]
      · simp only [get_putN, Nat.reduceEqDiff, reduceIte, h1]
      · simp only [get_putN, Nat.reduceEqDiff, reduceIte, h7]
      · simp only [get_putN, Nat.reduceEqDiff, reduceIte]
  · have hkn : k = refs.length := by have := of_decide_eq_false hq; omega
    subst hkn
    rw [List.drop_length] at hfm
    simp only [findM] at hfm
    refine wp_exit rfl ?_
    repeat refine wp_seq ?_
    refine wp_region (t' := ?t8) (ds' := ?d8) (up' := ?u8) (s' := ?s8) (by kernel_rfl) ?h8 ?k8
    case h8 =>
      simp only [runOps_cons, ops_nil, opThen_true, nxThen_val, wantedV_none, opDo, eval_int, nxVal_some]
      exact rfl
    case k8 =>
    refine wp_ret1 (.int .i64 (-1)) 4 rfl (by simp only [get_putN, Nat.reduceEqDiff, reduceIte]) ⟨⟨-1, rfl, ?_⟩, ?_, hf⟩
    · rw [hfm]; rfl
    · rw [hfm]; exact hin

theorem cf43 (args : List V) (s : S) : callF envL 43 args s = some (.enter 43 args s) := by kernel_rfl
set_option maxRecDepth 10000 in
theorem containsFunc (g : FuncId) (cap : List V) (hcf : ∀ args s, callF envL g args s = some (.enter g args s)) (K : S → Prop) (hK : StayF K) (F : List Nat) (In : List Int → S → Prop) (cb : Rf → List Int → Bool × List Int)
    (refs : List Rf) (vr : V) (hA : Sl K 73 2 vr refs RdRf)
    (hcb : ∀ y ∈ refs, ∀ l s, WF s → K s → In l s → Cw envL g (.agg y.cs :: cap) s fun v s' => v = .bool (cb y l).1 ∧ In (cb y l).2 s' ∧ Fw F s s') (l : List Int) (s : S) (hw : WF s) (k0 : K s) (hi : In l s) :
    Cw envL 43 [vr, .func (.func g) [] cap] s fun v s' => v = .bool (findM cb refs l).1 ∧ In (findM cb refs l).2 s' ∧ Fw F s s' := by
  refine cw_enter (fn := Tryz.f43) rfl Tryz.func43 rfl (by kernel_rfl) ?_
  rw [initT_cons, initT_cons, initT_nil]
  obtain ⟨_, s3, call, ⟨i, rfl, hb⟩, hin3, hf3⟩ := indexFunc g cap hcf K hK F In cb refs vr hA hcb l s hw k0 hi
  have call := ca_rec call
  repeat refine wp_seq ?_
  refine wp_region (t' := ?t9) (ds' := ?d9) (up' := ?u9) (s' := ?s9) (by kernel_rfl) ?h9 ?k9
  case h9 =>
    simp only [runOps_cons, ops_nil, opThen_true, nxThen_val, wantedV_none, opDo, eval_bool, nxVal_some, Nat.zero_add]
    exact rfl
  case k9 =>
  repeat refine wp_seq ?_
  refine wp_region (t' := ?t10) (ds' := ?d10) (up' := ?u10) (s' := ?s10) (by kernel_rfl) ?h10 ?k10
  case h10 =>
    simp only [runOps_cons, ops_nil, opThen_true, nxThen_val, nxThen_enter, outThen_ret, wantedV_none, opDo, eval_tmp, eval_int, eval_func, get_putN, Nat.reduceEqDiff, reduceIte, nxVal_some, callTo, callV, List.nil_append, List.append_nil, evals, doBin, guardOk, isEq, cond_true, cond_false, binOpV, isShift, sameKind, decide_true, intOp, cf79, call]
    exact rfl
  case k10 =>
  refine wp_ret1 (.bool (decide (i ≥ 0))) 4 rfl (by simp only [get_putN, Nat.reduceEqDiff, reduceIte]) ⟨?_, hin3, hf3⟩
  rw [← hb]

end Go.AI.Sv
namespace Go.AI.Sv
open Go.Proofs

mutual
/-- Whether what is reached refers to earlier cells alone; and what has been met. -/
def vis (cs : List Cl) : Nat → Int → Rf → List Int → Bool × List Int
  | 0, _, _, l => (false, l)
  | n + 1, before, x, l =>
    if x.cell = false then (true, l)
    else if x.num < 0 ∨ before ≤ x.num then (false, l)
    else if x.num ∈ l then (true, l)
    else match cs[x.num.toNat]? with
      | none => (false, l)
      | some c => if c.kind = 2 then (true, l ++ [x.num]) else if c.kind = 1 then visL cs n x.num c.refs (l ++ [x.num]) else (false, l ++ [x.num])
def visL (cs : List Cl) : Nat → Int → List Rf → List Int → Bool × List Int
  | _, _, [], l => (true, l)
  | n, before, y :: r, l => match vis cs n before y l with
    | (true, l') => visL cs n before r l'
    | (false, l') => (false, l')
end

theorem visL_find (cs : List Cl) (n : Nat) (before : Int) : ∀ (r : List Rf) (l : List Int), visL cs n before r l = (!(findM (fun y l => (!(vis cs n before y l).1, (vis cs n before y l).2)) r l).1, (findM (fun y l => (!(vis cs n before y l).1, (vis cs n before y l).2)) r l).2)
  | [], l => by simp [visL, findM]
  | y :: r, l => by
    simp only [visL, findM]
    cases h : vis cs n before y l with
    | mk b l' =>
      cases b with
      | true => simp only [Bool.not_true]; exact visL_find cs n before r l'
      | false => simp

def EntKeys (es : List Ent) (l : List Int) : Prop := es.map (fun e => (e.key, e.val)) = l.map (fun k => (V.int .i64 k, V.bool true))
def MapIs (s : S) (fm : Nat) (l : List Int) : Prop := ∃ es clock, s.get fm = some (.map es clock) ∧ EntKeys es l

theorem eql3 (ok : Ad → Bool) (a b : Int) : eqlAt Tryz.prog ok 20 3 (.int .i64 a) (.int .i64 b) = some (a == b) := by
  simp only [eqlAt, Tryz.underlying3, sameKind, decide_true, cond_true]

theorem find_keys (ok : Ad → Bool) (k : Int) : ∀ (es : List Ent) (l : List Int), EntKeys es l → findKeyV (eqlAt Tryz.prog ok 20 3) (.int .i64 k) es = some (if k ∈ l then some (.bool true) else none)
  | [], l, h => by
    have : l = [] := by unfold EntKeys at h; simpa using h.symm
    subst this; rfl
  | e :: es, l, h => by
    cases l with
    | nil => unfold EntKeys at h; simp at h
    | cons m l =>
      unfold EntKeys at h
      simp only [List.map_cons, List.cons.injEq, Prod.mk.injEq] at h
      have ih := find_keys ok k es l h.2
      obtain ⟨key, val, born⟩ := e
      simp only at h
      obtain ⟨⟨rfl, rfl⟩, h2⟩ := h
      simp only [findKeyV, eql3, ih]
      by_cases hk : k = m
      · subst hk; simp [findKeyV.foundKey]
      · have : (k == m) = false := by simp [hk]
        simp [findKeyV.foundKey, this, hk]

theorem upd_keys (ok : Ad → Bool) (k : Int) (v : V) : ∀ (es : List Ent) (l : List Int), EntKeys es l → k ∉ l → updKeyV (eqlAt Tryz.prog ok 20 3) (.int .i64 k) v es = some none
  | [], _, _, _ => rfl
  | e :: es, l, h, hk => by
    cases l with
    | nil => unfold EntKeys at h; simp at h
    | cons m l =>
      unfold EntKeys at h
      simp only [List.map_cons, List.cons.injEq, Prod.mk.injEq] at h
      have ih := upd_keys ok k v es l h.2 (fun hm => hk (List.mem_cons_of_mem _ hm))
      obtain ⟨key, val, born⟩ := e
      simp only at h
      obtain ⟨⟨rfl, rfl⟩, h2⟩ := h
      have hne : (k == m) = false := by
        have : k ≠ m := fun e => hk (by rw [e]; simp)
        simp [this]
      simp only [updKeyV, eql3, ih, hne, updKeyV.setKey]

theorem zero4 : zero Tryz.prog 4 = some (.bool false) := by kernel_rfl
theorem und64 : Tryz.prog.underlying 64 = some (.map 3 4) := Tryz.underlying64
theorem look64 {s : S} {fm : Nat} {l : List Int} (h : MapIs s fm l) (k : Int) : doLookup Tryz.prog s 64 (some (.map fm)) (some (.int .i64 k)) false = some (.bool (decide (k ∈ l))) := by
  obtain ⟨es, clock, h1, h2⟩ := h
  have hs : simpleKey Tryz.prog 3 = true := by kernel_rfl
  simp only [doLookup, und64, entsOf, h1, hs, cond_true, find_keys _ k es l h2]
  by_cases hk : k ∈ l
  · simp [hk, found]
  · simp [hk, found, zero4]
theorem put64 {s : S} {fm : Nat} {l : List Int} {es : List Ent} {clock : Nat} (h1 : s.get fm = some (.map es clock)) (h2 : EntKeys es l) (k : Int) (hk : k ∉ l) :
    doMapUpdate Tryz.prog s 64 (some (.map fm)) (some (.int .i64 k)) (some (.bool true)) = some (.skip (s.put fm (.map (es ++ [⟨.int .i64 k, .bool true, clock⟩]) (clock + 1)))) := by
  have hs : simpleKey Tryz.prog 3 = true := by kernel_rfl
  simp only [doMapUpdate, und64, h1, hs, cond_true, upd_keys _ k _ es l h2 hk, updated]
theorem EntKeys.snoc {es : List Ent} {l : List Int} (h : EntKeys es l) (k : Int) (c : Nat) : EntKeys (es ++ [⟨.int .i64 k, .bool true, c⟩]) (l ++ [k]) := by
  unfold EntKeys at h ⊢
  simp [h]

def Rdr (s : S) (fr : Nat) (vc : V) (fm : Nat) : Prop := ∃ sz er e sb nv, s.get fr = some (.cells e sb nv [⟨0, 0, [vc, .map fm, .int .i64 sz, .int .i64 er]⟩])

theorem doNilCheck_ptr (a : Ad) : doNilCheck (some (.ptr a)) = some (.ptr a) := rfl

end Go.AI.Sv
namespace Go.AI.Sv
open Go.Proofs

theorem doBox_ptr (s : S) (e : TypeId) (a : Ad) : doBox s e (some (.ptr a)) = some (.val (.ptr ⟨s.next, 0, 0⟩) (s.alloc (.cells e false 1 [⟨0, 0, [.ptr a]⟩]))) := rfl
theorem cf17 (args : List V) (s : S) : callF envL 17 args s = some (.enter 17 args s) := by kernel_rfl
theorem cf44 (args : List V) (s : S) : callF envL 44 args s = some (.enter 44 args s) := by kernel_rfl


theorem vis_at (cs : List Cl) (n : Nat) (before : Int) (k : Nat) (l : List Int) (h1 : ¬ before ≤ (k : Int)) (h2 : (k : Int) ∉ l) (c : Cl) (hc : cs[k]? = some c) :
    vis cs (n + 1) before ⟨true, (k : Int)⟩ l = if c.kind = 2 then (true, l ++ [(k : Int)]) else if c.kind = 1 then visL cs n k c.refs (l ++ [(k : Int)]) else (false, l ++ [(k : Int)]) := by
  have h0 : ¬ ((k : Int) < 0) := by omega
  simp [vis, h0, h1, h2, hc]

set_option maxRecDepth 10000 in
theorem fits1 (fr fm f3 f4 k : Nat) (y : Rf) (R : V → S → Prop) (s : S) (hw : WF s) (e3 e4 : TypeId) (sb3 sb4 : Bool) (nv3 nv4 : Nat) (xc : Bool) (g3 : s.get f3 = some (.cells e3 sb3 nv3 [⟨0, 0, [.ptr ⟨fr, 0, 0⟩]⟩])) (g4 : s.get f4 = some (.cells e4 sb4 nv4 [⟨0, 0, [.bool xc, .int .i64 k]⟩]))
    (hfits : ∀ s1, Fw [] s s1 → Cw envL 17 [.ptr ⟨fr, 0, 0⟩, .agg y.cs, .int .i64 k] s1 fun v s' => ∃ b, v = .bool b ∧ R (.bool (!b)) s') :
    Cw envL 44 (.agg y.cs :: [.ptr ⟨f3, 0, 0⟩, .ptr ⟨f4, 0, 0⟩]) s R := by
  refine cw_enter (fn := Tryz.f44) rfl Tryz.func44 rfl (by kernel_rfl) ?_
  rw [initT_cons, initT_cons, initT_cons, initT_nil]
  repeat refine wp_seq ?_
  refine wp_region (t' := ?t1) (ds' := ?d1) (up' := ?u1) (s' := ?s1) (by kernel_rfl) ?h1 ?k1
  case h1 =>
    simp only [runOps_cons, ops_nil, opThen_true, nxThen_val, wantedV_none, opDo, eval_tmp, eval_bool, get_putN, Nat.reduceEqDiff, reduceIte, nxVal_some, doBox_agg, Nat.zero_add, Nat.reduceAdd]
    exact rfl
  case k1 =>
  have hm := (Me.start (F := []) hw).alloc (B := .cells 23 false 1 [⟨0, 0, y.cs⟩]) (fun _ h => by cases h)
  generalize hs1 : S.alloc s _ = s1 at hm ⊢
  generalize hf5 : S.next s = f5 at hm ⊢
  have g5 := hm.at 0 rfl
  have g3 := hm.fw.keep f3 _ (by simp) g3
  have g4 := hm.fw.keep f4 _ (by simp) g4
  obtain ⟨_, s2, call, b, rfl, hR⟩ := hfits s1 hm.fw
  have call := ca_rec call
  have t2 : takeExact 2 y.cs = some y.cs := rfl
  repeat refine wp_seq ?_
  refine wp_region (t' := ?t2) (ds' := ?d2) (up' := ?u2) (s' := ?s2) (by kernel_rfl) ?h2 ?k2
  case h2 =>
    simp only [doLoad_ptr, runOps_cons, ops_nil, opThen_true, nxThen_val, nxThen_enter, outThen_ret, wantedV_none, opDo, eval_tmp, eval_func, get_putN, Nat.reduceEqDiff, reduceIte, nxVal_some, callTo, callV, doUn, unOpV, List.nil_append, List.append_nil, Nat.zero_add, evals, evP, List.getElem?_cons_zero, List.getElem?_cons_succ, Option.map, lv63, lv23, lv3, ld1 g3, ld1 g4, ldn g5, List.drop_zero, t2, fa23_1, cf17, call]
    exact rfl
  case k2 =>
  exact wp_ret1 (.bool (!b)) 4 rfl (by simp only [get_putN, Nat.reduceEqDiff, reduceIte]) hR

set_option maxRecDepth 10000 in
set_option maxHeartbeats 2000000 in
theorem fits_step (K : S → Prop) (hK : StayF K) (cs : List Cl) (vc : V) (hC : Sl K 25 5 vc cs (RdCl K)) (fr fm : Nat) (hne : fr ≠ fm) (n : Nat)
    (ih : ∀ m, n = m + 1 → ∀ (x : Rf) (before : Int) (l : List Int) (s : S), before ≤ m → before ≤ cs.length → WF s → K s → Rdr s fr vc fm → MapIs s fm l →
      Cw envL 17 [.ptr ⟨fr, 0, 0⟩, .agg x.cs, .int .i64 before] s fun v s' => v = .bool (vis cs (m + 1) before x l).1 ∧ MapIs s' fm (vis cs (m + 1) before x l).2 ∧ Fw [fm] s s')
    (x : Rf) (before : Int) (l : List Int) (s : S) (hn : before ≤ n) (hlen : before ≤ cs.length) (hw : WF s) (k0 : K s) (hr : Rdr s fr vc fm) (hmap : MapIs s fm l) :
    Cw envL 17 [.ptr ⟨fr, 0, 0⟩, .agg x.cs, .int .i64 before] s fun v s' => v = .bool (vis cs (n + 1) before x l).1 ∧ MapIs s' fm (vis cs (n + 1) before x l).2 ∧ Fw [fm] s s' := by
  obtain ⟨xc, xn⟩ := x
  obtain ⟨sz, er, ety, esb, env, hr⟩ := hr
  obtain ⟨es, clock, hg, hkeys⟩ := hmap
  unfold Rf.cs
  refine cw_enter (fn := Tryz.f17) rfl Tryz.func17 rfl (by kernel_rfl) ?_
  rw [initT_cons, initT_cons, initT_cons, initT_nil]
  repeat refine wp_seq ?_
  refine wp_region (t' := ?t3) (ds' := ?d3) (up' := ?u3) (s' := ?s3) (by kernel_rfl) ?h3 ?k3
  case h3 =>
    simp only [runOps_cons, ops_nil, opThen_true, nxThen_val, wantedV_none, opDo, eval_tmp, eval_bool, get_putN, Nat.reduceEqDiff, reduceIte, nxVal_some, doBox_agg, Nat.zero_add, Nat.reduceAdd, doBox_ptr]
    exact rfl
  case k3 =>
  have hm := ((Me.start1 (F := [fm]) hw (by simp) hg (fun _ h => by cases h)).alloc (B := .cells 63 false 1 [⟨0, 0, [.ptr ⟨fr, 0, 0⟩]⟩]) (fun _ h => by cases h)).alloc (B := .cells 23 false 1 [⟨0, 0, [.bool xc, .int .i64 xn]⟩]) (fun _ h => by cases h)
  have lt3 : fm < S.next s := hw fm _ hg
  have lt4 : fm < S.next (S.alloc s (.cells 63 false 1 [⟨0, 0, [.ptr ⟨fr, 0, 0⟩]⟩])) := by rw [S.next_alloc]; omega
  generalize hs1 : S.alloc (S.alloc s _) _ = s1 at hm ⊢
  generalize hf4 : S.next (S.alloc s _) = f4 at hm lt4 ⊢
  generalize hf3 : S.next s = f3 at hm lt3 ⊢
  have k1 := hK _ _ _ hm.fw k0
  have g4 := hm.at 0 rfl
  have g3 := hm.at 1 rfl
  have gm := hm.at 2 rfl
  have gr := hm.fw.keep fr _ (by simp [hne]) hr
  have hm1 : MapIs s1 fm l := ⟨es, clock, gm, hkeys⟩
  repeat refine wp_seq ?_
  by_cases hc : xc = false
  · refine wp_sch (t' := ?t4) (ds' := ?d4) (up' := ?u4) (s' := ?s4) [(some 1, 0), (some 1, 1), (some 1, 2), (some 1, 3), (some 1, 4), (some 1, 5), (some 1, 6), (some 1, 7), (some 1, 8), (some 1, 9), (some 1, 10), (some 1, 11), (some 1, 12), (some 1, 13), (some 1, 14), (some 1, 15), (some 1, 16), (some 1, 17), (some 1, 18), (some 1, 19), (some 1, 20), (some 1, 21), (some 1, 22)] (by kernel_rfl) (by kernel_rfl) ?h4 ?k4
    case h4 =>
      simp only [runSch_nil, runSch_f, runSchK_eq, schFloat_some, schThen_some, floatStep1_true, floatStep1_false, floatDo1_0, floatDo1_1, valOnly_val, readBoth_some, readTo_val, readAll_one, opKind, List.take_succ_cons, List.take_nil, doLoad_ptr, wantedV_none, wantedV_some, guardV_some, guardB_bool, guardB_undef, opDo, eval_tmp, eval_bool, get_putN, Nat.reduceEqDiff, reduceIte, nxVal_some, doPick, doUn, unOpV, bTF, Bool.not_false, Nat.add_zero, evP, List.getElem?_toArray, List.getElem?_cons_zero, List.getElem?_cons_succ, Option.bind, cond_true, fa23_0, lv4, ld1 g4, hc]
      exact rfl
    case k4 =>
    refine wp_cond true (by simp only [eval_tmp, get_putN, Nat.reduceEqDiff, reduceIte]) (fun _ => ?_) (fun h => by cases h)
    repeat refine wp_seq ?_
    refine wp_region (t' := ?t5) (ds' := ?d5) (up' := ?u5) (s' := ?s5) (by kernel_rfl) ?h5 ?k5
    case h5 =>
      simp only [runOps_cons, ops_nil, opThen_true, nxThen_val, wantedV_none, opDo, eval_bool, nxVal_some]
      exact rfl
    case k5 =>
    refine wp_ret1 (.bool true) 6 rfl (by simp only [get_putN, Nat.reduceEqDiff, reduceIte]) ⟨?_, ?_, hm.fw⟩
    · simp [vis, hc]
    · simpa [vis, hc] using hm1
  have hc : xc = true := by simpa using hc
  subst hc
  by_cases h0 : xn < 0
  · have p0 : decide (xn ≥ 0) = false := by simp; omega
    have p1 : decide (xn < 0) = true := by simp; omega
    refine wp_sch (t' := ?t6) (ds' := ?d6) (up' := ?u6) (s' := ?s6) [(some 1, 0), (some 1, 1), (some 1, 2), (some 1, 3), (some 1, 4), (some 1, 5), (some 1, 6), (some 1, 7), (some 1, 8), (some 1, 9), (some 1, 10), (some 1, 11), (some 1, 12), (some 1, 13), (some 1, 14), (some 1, 15), (some 1, 16), (some 1, 17), (some 1, 18), (some 1, 19), (some 1, 20), (some 1, 21), (some 1, 22)] (by kernel_rfl) (by kernel_rfl) ?h6 ?k6
    case h6 =>
      simp only [runSch_nil, runSch_f, runSchK_eq, schFloat_some, schThen_some, floatStep1_true, floatStep1_false, floatDo1_0, floatDo1_1, valOnly_val, readBoth_some, readTo_val, readAll_one, opKind, List.take_succ_cons, List.take_nil, doLoad_ptr, wantedV_none, wantedV_some, guardV_some, guardB_bool, opDo, eval_tmp, eval_int, eval_bool, get_putN, Nat.reduceEqDiff, reduceIte, nxVal_some, doPick, doUn, unOpV, bFT, bFF, Bool.not_true, Nat.zero_add, Nat.add_zero, evP, List.getElem?_toArray, List.getElem?_cons_zero, List.getElem?_cons_succ, Option.bind, doBin, guardOk, isEq, cond_true, cond_false, binOpV, isShift, sameKind, decide_true, intOp, fa23_0, fa23_1, lv4, lv3, ld1 g4, p0]
      exact rfl
    case k6 =>
    refine wp_cond false (by simp only [eval_tmp, get_putN, Nat.reduceEqDiff, reduceIte]) (fun h => by cases h) (fun _ => ?_)
    refine wp_skip ?_
    repeat refine wp_seq ?_
    refine wp_region (t' := ?t7) (ds' := ?d7) (up' := ?u7) (s' := ?s7) (by kernel_rfl) ?h7 ?k7
    case h7 =>
      simp only [doLoad_ptr, runOps_cons, ops_nil, opThen_true, opThen_false, nxThen_val, wantedV_none, wantedV_some, guardV_some, guardB_bool, opDo, eval_tmp, eval_int, eval_bool, get_putN, Nat.reduceEqDiff, reduceIte, nxVal_some, doPick, bTF, Nat.zero_add, evP, List.getElem?_toArray, List.getElem?_cons_zero, List.getElem?_cons_succ, Option.bind, doBin, guardOk, isEq, cond_true, cond_false, binOpV, isShift, sameKind, decide_true, intOp, fa23_1, lv3, ld1 g4, p1]
      exact rfl
    case k7 =>
    repeat refine wp_seq ?_
    refine wp_cond true (by simp only [eval_tmp, get_putN, Nat.reduceEqDiff, reduceIte]) (fun _ => ?_) (fun h => by cases h)
    repeat refine wp_seq ?_
    refine wp_region (t' := ?t8) (ds' := ?d8) (up' := ?u8) (s' := ?s8) (by kernel_rfl) ?h8 ?k8
    case h8 =>
      simp only [runOps_cons, ops_nil, opThen_true, nxThen_val, wantedV_none, opDo, eval_bool, nxVal_some]
      exact rfl
    case k8 =>
    refine wp_ret1 (.bool false) 6 rfl (by simp only [get_putN, Nat.reduceEqDiff, reduceIte]) ⟨?_, ?_, hm.fw⟩
    · simp [vis, h0]
    · simpa [vis, h0] using hm1
  have p0 : decide (xn ≥ 0) = true := by simp; omega
  have p1 : decide (xn < 0) = false := by simp; omega
  by_cases h1 : before ≤ xn
  · have p2 : decide (xn < before) = false := by simp; omega
    have p3 : decide (xn ≥ before) = true := by simp; omega
    refine wp_sch (t' := ?t9) (ds' := ?d9) (up' := ?u9) (s' := ?s9) [(some 1, 0), (some 1, 1), (some 1, 2), (some 1, 3), (some 1, 4), (some 1, 5), (some 1, 6), (some 1, 7), (some 1, 8), (some 1, 9), (some 1, 10), (some 1, 11), (some 1, 12), (some 1, 13), (some 1, 14), (some 1, 15), (some 1, 16), (some 1, 17), (some 1, 18), (some 1, 19), (some 1, 20), (some 1, 21), (some 1, 22)] (by kernel_rfl) (by kernel_rfl) ?h9 ?k9
    case h9 =>
      simp only [runSch_nil, runSch_f, runSchK_eq, schFloat_some, schThen_some, floatStep1_true, floatStep1_false, floatDo1_0, floatDo1_1, valOnly_val, readBoth_some, readTo_val, readAll_one, opKind, List.take_succ_cons, List.take_nil, doLoad_ptr, wantedV_none, wantedV_some, guardV_some, guardB_bool, opDo, eval_tmp, eval_int, eval_bool, get_putN, Nat.reduceEqDiff, reduceIte, nxVal_some, doPick, doUn, unOpV, bTT, bFT, bFF, Bool.not_true, Nat.zero_add, Nat.add_zero, evP, List.getElem?_toArray, List.getElem?_cons_zero, List.getElem?_cons_succ, Option.bind, doBin, guardOk, isEq, cond_true, cond_false, binOpV, isShift, sameKind, decide_true, intOp, fa23_0, fa23_1, lv4, lv3, ld1 g4, p0, p2]
      exact rfl
    case k9 =>
    refine wp_cond false (by simp only [eval_tmp, get_putN, Nat.reduceEqDiff, reduceIte]) (fun h => by cases h) (fun _ => ?_)
    refine wp_skip ?_
    repeat refine wp_seq ?_
    refine wp_region (t' := ?t10) (ds' := ?d10) (up' := ?u10) (s' := ?s10) (by kernel_rfl) ?h10 ?k10
    case h10 =>
      simp only [doLoad_ptr, runOps_cons, ops_nil, opThen_true, nxThen_val, wantedV_none, wantedV_some, guardV_some, guardB_bool, opDo, eval_tmp, eval_int, get_putN, Nat.reduceEqDiff, reduceIte, nxVal_some, doPick, bFF, Nat.zero_add, evP, List.getElem?_toArray, List.getElem?_cons_zero, List.getElem?_cons_succ, Option.bind, doBin, guardOk, isEq, cond_true, cond_false, binOpV, isShift, sameKind, decide_true, intOp, fa23_1, lv3, ld1 g4, p1, p3]
      exact rfl
    case k10 =>
    repeat refine wp_seq ?_
    refine wp_cond true (by simp only [eval_tmp, get_putN, Nat.reduceEqDiff, reduceIte]) (fun _ => ?_) (fun h => by cases h)
    repeat refine wp_seq ?_
    refine wp_region (t' := ?t11) (ds' := ?d11) (up' := ?u11) (s' := ?s11) (by kernel_rfl) ?h11 ?k11
    case h11 =>
      simp only [runOps_cons, ops_nil, opThen_true, nxThen_val, wantedV_none, opDo, eval_bool, nxVal_some]
      exact rfl
    case k11 =>
    refine wp_ret1 (.bool false) 6 rfl (by simp only [get_putN, Nat.reduceEqDiff, reduceIte]) ⟨?_, ?_, hm.fw⟩
    · simp [vis, h0, h1]
    · simpa [vis, h0, h1] using hm1
  have p2 : decide (xn < before) = true := by simp; omega
  have p3 : decide (xn ≥ before) = false := by simp; omega
  by_cases h2 : xn ∈ l
  · have p4 : decide (xn ∈ l) = true := by simp [h2]
    refine wp_sch (t' := ?t12) (ds' := ?d12) (up' := ?u12) (s' := ?s12) [(some 1, 0), (some 1, 1), (some 1, 2), (some 1, 3), (some 1, 4), (some 1, 5), (some 1, 6), (some 1, 7), (some 1, 8), (some 1, 9), (some 1, 10), (some 1, 11), (some 1, 12), (some 1, 13), (some 1, 14), (some 1, 15), (some 1, 16), (some 1, 17), (some 1, 18), (some 1, 19), (some 1, 20), (some 1, 21), (some 1, 22)] (by kernel_rfl) (by kernel_rfl) ?h12 ?k12
    case h12 =>
      simp only [runSch_nil, runSch_f, runSchK_eq, schFloat_some, schThen_some, floatStep1_true, floatDo1_0, floatDo1_1, valOnly_val, readBoth_some, readTo_val, readAll_one, opKind, List.take_succ_cons, List.take_nil, doLoad_ptr, wantedV_none, wantedV_some, guardV_some, guardB_bool, opDo, eval_tmp, eval_int, get_putN, Nat.reduceEqDiff, reduceIte, nxVal_some, doPick, doUn, unOpV, bTT, bFF, Bool.not_true, Nat.zero_add, Nat.add_zero, evP, List.getElem?_toArray, List.getElem?_cons_zero, List.getElem?_cons_succ, Option.bind, doBin, guardOk, isEq, cond_true, cond_false, binOpV, isShift, sameKind, decide_true, intOp, fa23_0, fa23_1, lv4, lv3, lv63, lv64, ld1 g4, ld1 g3, ld1 gr, fa66_1, doNilCheck_ptr, look64 hm1, p0, p2, p4]
      exact rfl
    case k12 =>
    refine wp_cond true (by simp only [eval_tmp, get_putN, Nat.reduceEqDiff, reduceIte]) (fun _ => ?_) (fun h => by cases h)
    repeat refine wp_seq ?_
    refine wp_region (t' := ?t13) (ds' := ?d13) (up' := ?u13) (s' := ?s13) (by kernel_rfl) ?h13 ?k13
    case h13 =>
      simp only [runOps_cons, ops_nil, opThen_true, nxThen_val, wantedV_none, opDo, eval_bool, nxVal_some]
      exact rfl
    case k13 =>
    refine wp_ret1 (.bool true) 6 rfl (by simp only [get_putN, Nat.reduceEqDiff, reduceIte]) ⟨?_, ?_, hm.fw⟩
    · simp [vis, h0, h1, h2]
    · simpa [vis, h0, h1, h2] using hm1
  have p4 : decide (xn ∈ l) = false := by simp [h2]
  refine wp_sch (t' := ?t14) (ds' := ?d14) (up' := ?u14) (s' := ?s14) [(some 1, 0), (some 1, 1), (some 1, 2), (some 1, 3), (some 1, 4), (some 1, 5), (some 1, 6), (some 1, 7), (some 1, 8), (some 1, 9), (some 1, 10), (some 1, 11), (some 1, 12), (some 1, 13), (some 1, 14), (some 1, 15), (some 1, 16), (some 1, 17), (some 1, 18), (some 1, 19), (some 1, 20), (some 1, 21), (some 1, 22)] (by kernel_rfl) (by kernel_rfl) ?h14 ?k14
  case h14 =>
    simp only [runSch_nil, runSch_f, runSchK_eq, schFloat_some, schThen_some, floatStep1_true, floatDo1_0, floatDo1_1, valOnly_val, readBoth_some, readTo_val, readAll_one, opKind, List.take_succ_cons, List.take_nil, doLoad_ptr, wantedV_none, wantedV_some, guardV_some, guardB_bool, opDo, eval_tmp, eval_int, get_putN, Nat.reduceEqDiff, reduceIte, nxVal_some, doPick, doUn, unOpV, bTT, bFF, Bool.not_true, Nat.zero_add, Nat.add_zero, evP, List.getElem?_toArray, List.getElem?_cons_zero, List.getElem?_cons_succ, Option.bind, doBin, guardOk, isEq, cond_true, cond_false, binOpV, isShift, sameKind, decide_true, intOp, fa23_0, fa23_1, lv4, lv3, lv63, lv64, ld1 g4, ld1 g3, ld1 gr, fa66_1, doNilCheck_ptr, look64 hm1, p0, p2, p4]
    exact rfl
  case k14 =>
  refine wp_cond false (by simp only [eval_tmp, get_putN, Nat.reduceEqDiff, reduceIte]) (fun h => by cases h) (fun _ => ?_)
  refine wp_skip ?_
  repeat refine wp_seq ?_
  refine wp_region (t' := ?t15) (ds' := ?d15) (up' := ?u15) (s' := ?s15) (by kernel_rfl) ?h15 ?k15
  case h15 =>
    simp only [doLoad_ptr, runOps_cons, ops_nil, opThen_true, nxThen_val, wantedV_none, wantedV_some, guardV_some, guardB_bool, opDo, eval_tmp, eval_int, get_putN, Nat.reduceEqDiff, reduceIte, nxVal_some, doPick, bFF, Nat.zero_add, evP, List.getElem?_toArray, List.getElem?_cons_zero, List.getElem?_cons_succ, Option.bind, doBin, guardOk, isEq, cond_true, cond_false, binOpV, isShift, sameKind, decide_true, intOp, fa23_1, lv3, ld1 g4, p1, p3]
    exact rfl
  case k15 =>
  repeat refine wp_seq ?_
  refine wp_cond false (by simp only [eval_tmp, get_putN, Nat.reduceEqDiff, reduceIte]) (fun h => by cases h) (fun _ => ?_)
  refine wp_skip ?_
  repeat refine wp_seq ?_
  refine wp_sch (t' := ?t16) (ds' := ?d16) (up' := ?u16) (s' := ?s16) [(some 1, 0), (some 1, 1), (some 1, 2), (some 1, 3), (some 1, 4), (some 1, 5), (none, 6)] (by kernel_rfl) (by kernel_rfl) ?h16 ?k16
  case h16 =>
    simp only [runSch_nil, runSch_f, runSch_e, runSchK_eq, runSchE_eq, schFloat_some, schThen_some, schEff_some, schEThen_some, schNext_true, floatStep1_true, effStep_true, effDo_skip, floatDo1_0, floatDo1_1, valOnly_val, readBoth_some, readTo_val, readAll_one, opKind, List.take_succ_cons, List.take_nil, doLoad_ptr, wantedV_none, opDo, eval_tmp, eval_bool, get_putN, putD_none, Nat.reduceEqDiff, reduceIte, nxVal_some, Nat.zero_add, evP, List.getElem?_toArray, List.getElem?_cons_zero, List.getElem?_cons_succ, fa23_1, lv3, lv63, lv64, ld1 g4, ld1 g3, ld1 gr, fa66_1, doNilCheck_ptr, put64 gm hkeys xn h2, ble_put]
    exact rfl
  case k16 =>
  have hm2 := hm.put 2 rfl (B' := .map (es ++ [⟨.int .i64 xn, .bool true, clock⟩]) (clock + 1)) (fun _ h => by cases h)
  generalize hs2 : S.put s1 _ _ = s2 at hm2 ⊢
  simp only [List.set_cons_succ, List.set_cons_zero] at hm2
  obtain ⟨k, rfl⟩ := Int.eq_ofNat_of_zero_le (show 0 ≤ xn by omega)
  have hk : k < cs.length := by omega
  have k2 := hK _ _ _ hm2.fw k0
  have g4 := hm2.at 0 rfl
  have g3 := hm2.at 1 rfl
  have gm := hm2.at 2 rfl
  have gr := hm2.fw.keep fr _ (by simp [hne]) hr
  obtain ⟨pc, hpc⟩ := hC.el
  obtain ⟨ia, lc, ec, elc, olc, rc⟩ := hpc k _ (List.getElem?_eq_getElem hk)
  have ec := ec _ k2
  repeat refine wp_seq ?_
  refine wp_sch (t' := ?t17) (ds' := ?d17) (up' := ?u17) (s' := ?s17) [(some 1, 0), (some 1, 1), (some 1, 2), (some 1, 3), (some 1, 4), (some 1, 5), (some 1, 6), (some 1, 7), (some 1, 8), (none, 9)] (by kernel_rfl) (by kernel_rfl) ?h17 ?k17
  case h17 =>
    simp only [runSch_nil, runSch_f, runSch_e, runSchK_eq, runSchE_eq, schFloat_some, schThen_some, schEff_some, schEThen_some, schNext_true, floatStep1_true, effStep_true, effDo_skip, floatDo1_0, floatDo1_1, floatDo1_2, valOnly_val, valBoth_val, readBoth_some, readTo_val, readAll_one, opKind, List.take_succ_cons, List.take_nil, nxSkip_some, doLoad_ptr, doStore_ptr, natOf_cast, wantedV_none, opDo, eval_tmp, get_putN, putD_none, Nat.reduceEqDiff, reduceIte, nxVal_some, Nat.zero_add, Nat.add_zero, evP, List.getElem?_toArray, List.getElem?_cons_zero, List.getElem?_cons_succ, Option.map, fa23_1, lv3, lv63, lv25, lv82, ld1 g4, ld1 g3, ld1 gr, fa66_0, doNilCheck_ptr, ia, ec, al82, sv82 _ _ lc elc, nw82 _ lc olc elc, ble_alloc]
    exact rfl
  case k17 =>
  have hm3 := hm2.alloc (B := .cells 82 false 1 [⟨0, 0, lc⟩]) (fun _ h => by cases h)
  generalize hs3 : S.alloc s2 _ = s3 at hm3 ⊢
  generalize hf7 : S.next s2 = f7 at hm3 ⊢
  obtain ⟨vr, rfl, bc, hR⟩ := rc
  have k3 := hK _ _ _ hm3.fw k0
  have g7 := hm3.at 0 rfl
  have gm3 := hm3.at 3 rfl
  have hm3' : MapIs s3 fm (l ++ [(k : Int)]) := ⟨_, _, gm3, hkeys.snoc _ _⟩
  have hva := fun n => vis_at cs n before k l h1 h2 _ (List.getElem?_eq_getElem hk)
  repeat refine wp_seq ?_
  refine wp_region (t' := ?t18) (ds' := ?d18) (up' := ?u18) (s' := ?s18) (by kernel_rfl) ?h18 ?k18
  case h18 =>
    simp only [doLoad_ptr, runOps_cons, ops_nil, opThen_true, nxThen_val, wantedV_none, opDo, eval_tmp, get_putN, Nat.reduceEqDiff, reduceIte, nxVal_some, Nat.add_zero, evP, List.getElem?_cons_zero, fa82_0, lv3, ld1 g7]
    exact rfl
  case k18 =>
  repeat refine wp_seq ?_
  refine wp_block ?_
  repeat refine wp_seq ?_
  by_cases hk2 : (cs[k]).kind = 2
  · have p5 : ((cs[k]).kind == 2) = true := by simp [hk2]
    refine wp_region (t' := ?t19) (ds' := ?d19) (up' := ?u19) (s' := ?s19) (by kernel_rfl) ?h19 ?k19
    case h19 =>
      simp only [runOps_cons, ops_nil, opThen_true, nxThen_val, wantedV_none, opDo, eval_tmp, eval_int, get_putN, Nat.reduceEqDiff, reduceIte, nxVal_some, doBin, guardOk, isEq, cond_true, cond_false, binOpV, isShift, sameKind, decide_true, intOp, p5]
      exact rfl
    case k19 =>
    repeat refine wp_seq ?_
    refine wp_cond true (by simp only [eval_tmp, get_putN, Nat.reduceEqDiff, reduceIte]) (fun _ => ?_) (fun h => by cases h)
    repeat refine wp_seq ?_
    refine wp_region (t' := ?t20) (ds' := ?d20) (up' := ?u20) (s' := ?s20) (by kernel_rfl) ?h20 ?k20
    case h20 =>
      simp only [runOps_cons, ops_nil, opThen_true, nxThen_val, wantedV_none, opDo, eval_bool, nxVal_some]
      exact rfl
    case k20 =>
    refine wp_ret1 (.bool true) 6 rfl (by simp only [get_putN, Nat.reduceEqDiff, reduceIte]) ⟨?_, ?_, hm3.fw⟩
    · rw [hva, if_pos hk2]
    · rw [hva, if_pos hk2]; exact hm3'
  have p5 : ((cs[k]).kind == 2) = false := by simp [hk2]
  refine wp_region (t' := ?t21) (ds' := ?d21) (up' := ?u21) (s' := ?s21) (by kernel_rfl) ?h21 ?k21
  case h21 =>
    simp only [runOps_cons, ops_nil, opThen_true, nxThen_val, wantedV_none, opDo, eval_tmp, eval_int, get_putN, Nat.reduceEqDiff, reduceIte, nxVal_some, doBin, guardOk, isEq, cond_true, cond_false, binOpV, isShift, sameKind, decide_true, intOp, p5]
    exact rfl
  case k21 =>
  repeat refine wp_seq ?_
  refine wp_cond false (by simp only [eval_tmp, get_putN, Nat.reduceEqDiff, reduceIte]) (fun h => by cases h) (fun _ => ?_)
  repeat refine wp_seq ?_
  by_cases hk1 : (cs[k]).kind = 1
  · have p6 : ((cs[k]).kind == 1) = true := by simp [hk1]
    refine wp_region (t' := ?t22) (ds' := ?d22) (up' := ?u22) (s' := ?s22) (by kernel_rfl) ?h22 ?k22
    case h22 =>
      simp only [runOps_cons, ops_nil, opThen_true, nxThen_val, wantedV_none, opDo, eval_tmp, eval_int, get_putN, Nat.reduceEqDiff, reduceIte, nxVal_some, doBin, guardOk, isEq, cond_true, cond_false, binOpV, isShift, sameKind, decide_true, intOp, p6]
      exact rfl
    case k22 =>
    repeat refine wp_seq ?_
    refine wp_cond true (by simp only [eval_tmp, get_putN, Nat.reduceEqDiff, reduceIte]) (fun _ => ?_) (fun h => by cases h)
    repeat refine wp_seq ?_
    cases n with
    | zero => exfalso; omega
    | succ n =>
    obtain ⟨_, s4, call, rfl, ⟨hmp, _⟩, hf4'⟩ := containsFunc 44 [.ptr ⟨f3, 0, 0⟩, .ptr ⟨f4, 0, 0⟩] cf44 K hK [fm]
      (fun l s => MapIs s fm l ∧ Rdr s fr vc fm ∧ s.get f3 = some (.cells 63 false 1 [⟨0, 0, [.ptr ⟨fr, 0, 0⟩]⟩]) ∧ s.get f4 = some (.cells 23 false 1 [⟨0, 0, [.bool true, .int .i64 (k : Int)]⟩]))
      (fun y l => (!(vis cs (n + 1) k y l).1, (vis cs (n + 1) k y l).2)) _ vr hR
      (fun y hy l s hw k0 ⟨i1, i2, i3, i4⟩ => fits1 fr fm f3 f4 k y _ s hw _ _ _ _ _ _ _ i3 i4 fun s1 hf1 => by
        obtain ⟨v, s', c1, rfl, c2, c3⟩ := ih n rfl y k l s1 (by omega) (by omega) (hf1.wf hw) (hK _ _ _ hf1 k0) (by
          obtain ⟨a, b, c, d, e, hh⟩ := i2
          exact ⟨a, b, c, d, e, hf1.keep _ _ (by simp) hh⟩) (by
          obtain ⟨a, b, hh, hh2⟩ := i1
          exact ⟨a, b, hf1.keep _ _ (by simp) hh, hh2⟩)
        have hfw := (hf1.mono (G := [fm]) (by simp)).trans c3
        refine ⟨_, s', c1, _, rfl, rfl, ⟨c2, ?_, hfw.keep _ _ (by simp; omega) i3, hfw.keep _ _ (by simp; omega) i4⟩, hfw⟩
        obtain ⟨a, b, c, d, e, hh⟩ := i2
        exact ⟨a, b, c, d, e, hfw.keep _ _ (by simp [hne]) hh⟩)
      (l ++ [(k : Int)]) s3 hm3.wf k3 ⟨hm3', ⟨_, _, _, _, _, hm3.fw.keep fr _ (by simp [hne]) hr⟩, hm3.at 2 rfl, hm3.at 1 rfl⟩
    have call := ca_rec call
    refine wp_region (t' := ?t23) (ds' := ?d23) (up' := ?u23) (s' := ?s23) (by kernel_rfl) ?h23 ?k23
    case h23 =>
      simp only [doLoad_ptr, runOps_cons, ops_nil, opThen_true, nxThen_val, nxThen_enter, outThen_ret, wantedV_none, opDo, eval_tmp, eval_func, get_putN, Nat.reduceEqDiff, reduceIte, nxVal_some, callTo, callV, doUn, unOpV, List.nil_append, List.append_nil, Nat.zero_add, evals, evP, List.getElem?_cons_zero, List.getElem?_cons_succ, fa82_3, lv73, ld1 g7, doMkFunc, mkFuncV, cf43, call]
      exact rfl
    case k23 =>
    have hvl := visL_find cs (n + 1) k (cs[k]).refs (l ++ [(k : Int)])
    refine wp_ret1 (.bool (!(findM (fun y l => (!(vis cs (n + 1) k y l).1, (vis cs (n + 1) k y l).2)) (cs[k]).refs (l ++ [(k : Int)])).1)) 6 rfl (by simp only [get_putN, Nat.reduceEqDiff, reduceIte]) ⟨?_, ?_, hm3.fw.trans hf4'⟩
    · rw [hva, if_neg hk2, if_pos hk1, hvl]
    · rw [hva, if_neg hk2, if_pos hk1, hvl]; exact hmp
  have p6 : ((cs[k]).kind == 1) = false := by simp [hk1]
  refine wp_region (t' := ?t24) (ds' := ?d24) (up' := ?u24) (s' := ?s24) (by kernel_rfl) ?h24 ?k24
  case h24 =>
    simp only [runOps_cons, ops_nil, opThen_true, nxThen_val, wantedV_none, opDo, eval_tmp, eval_int, get_putN, Nat.reduceEqDiff, reduceIte, nxVal_some, doBin, guardOk, isEq, cond_true, cond_false, binOpV, isShift, sameKind, decide_true, intOp, p6]
    exact rfl
  case k24 =>
  repeat refine wp_seq ?_
  refine wp_cond false (by simp only [eval_tmp, get_putN, Nat.reduceEqDiff, reduceIte]) (fun h => by cases h) (fun _ => ?_)
  refine wp_skip (wp_inBlock ?_)
  repeat refine wp_seq ?_
  refine wp_region (t' := ?t25) (ds' := ?d25) (up' := ?u25) (s' := ?s25) (by kernel_rfl) ?h25 ?k25
  case h25 =>
    simp only [runOps_cons, ops_nil, opThen_true, nxThen_val, wantedV_none, opDo, eval_bool, nxVal_some]
    exact rfl
  case k25 =>
  repeat refine wp_seq ?_
  refine wp_ret1 (.bool false) 6 rfl (by simp only [get_putN, Nat.reduceEqDiff, reduceIte]) ⟨?_, ?_, hm3.fw⟩
  · rw [hva, if_neg hk2, if_neg hk1]
  · rw [hva, if_neg hk2, if_neg hk1]; exact hm3'

set_option maxRecDepth 10000 in
set_option maxHeartbeats 2000000 in
theorem fits (K : S → Prop) (hK : StayF K) (cs : List Cl) (vc : V) (hC : Sl K 25 5 vc cs (RdCl K)) (fr fm : Nat) (hne : fr ≠ fm) : ∀ (n : Nat) (x : Rf) (before : Int) (l : List Int) (s : S), before ≤ n → before ≤ cs.length → WF s → K s → Rdr s fr vc fm → MapIs s fm l →
    Cw envL 17 [.ptr ⟨fr, 0, 0⟩, .agg x.cs, .int .i64 before] s fun v s' => v = .bool (vis cs (n + 1) before x l).1 ∧ MapIs s' fm (vis cs (n + 1) before x l).2 ∧ Fw [fm] s s' := by
  intro n
  induction n with
  | zero => exact fits_step K hK cs vc hC fr fm hne 0 (fun m h => by omega)
  | succ n ih => exact fits_step K hK cs vc hC fr fm hne (n + 1) (fun m h => by
      obtain rfl : n = m := by omega
      exact ih)
end Go.AI.Sv
