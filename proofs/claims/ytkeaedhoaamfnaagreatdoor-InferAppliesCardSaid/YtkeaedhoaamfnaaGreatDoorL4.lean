/- What the functions answer in the evaluator: part 4. No conditions beyond those of the row. -/
import Derived.Test.YtkeaedhoaamfnaaGreatDoorL3
import Derived.Test.YtkeaedhoaamfnaaGreatDoorA10
set_option linter.unusedVariables false
set_option linter.unusedSimpArgs false
noncomputable section
/- Walks that may end in a panic: texts. -/
namespace Go.AI.Lx
open Go.Proofs Go.Proofs.YtkeaedhoaamfnaaGreatDoor
theorem doExtract_tuple (l : List V) (i : Nat) : doExtract (some (.tuple l)) i = l[i]? := rfl
theorem slice_lh {l : List Nat} {a b : Nat} (h1 : b ≤ l.length) (h2 : a ≤ b) : doSlice Tryz.prog 9 (some (.str l)) (some (some (.int .i64 ((a : Nat) : Int)))) (some (some (.int .i64 ((b : Nat) : Int)))) (some none) = some (.str ((l.drop a).take (b - a))) := by
  simp only [doSlice, sliceV, Tryz.underlying9, bndV, natOf, Nat.ble_eq_true_of_le h1, Nat.ble_eq_true_of_le h2, Bool.and_self, cond_true]
theorem slice_l {l : List Nat} {a : Nat} (h2 : a ≤ l.length) : doSlice Tryz.prog 9 (some (.str l)) (some (some (.int .i64 ((a : Nat) : Int)))) (some none) (some none) = some (.str (l.drop a)) := by
  simp only [doSlice, sliceV, Tryz.underlying9, bndV, natOf, Nat.ble_eq_true_of_le h2, Nat.ble_eq_true_of_le (Nat.le_refl l.length), Bool.and_self, cond_true]
  rw [List.take_of_length_le (by rw [List.length_drop]; omega)]
theorem slice_h {l : List Nat} {b : Nat} (h1 : b ≤ l.length) : doSlice Tryz.prog 9 (some (.str l)) (some none) (some (some (.int .i64 ((b : Nat) : Int)))) (some none) = some (.str (l.take b)) := by
  simp only [doSlice, sliceV, Tryz.underlying9, bndV, natOf, Nat.ble_eq_true_of_le h1, Nat.ble_eq_true_of_le (Nat.zero_le b), Bool.and_self, cond_true]
  simp
end Go.AI.Lx
namespace Go.AI.Lx
abbrev bSmall := Go.Proofs.YtkeaedhoaamfnaaGreatDoor.small
abbrev bGreat := Go.Proofs.YtkeaedhoaamfnaaGreatDoor.great
abbrev bDigit := Go.Proofs.YtkeaedhoaamfnaaGreatDoor.digit
abbrev bPart := Go.Proofs.YtkeaedhoaamfnaaGreatDoor.part
abbrev bSpace := Go.Proofs.YtkeaedhoaamfnaaGreatDoor.space
end Go.AI.Lx
/- A text that begins with another. -/
namespace Go.AI.Lx
open Go.Proofs Go.Proofs.YtkeaedhoaamfnaaGreatDoor
set_option maxRecDepth 10000
set_option maxHeartbeats 2000000
def pref (l p : List Nat) : Bool := decide (p.length ≤ l.length) && decide (l.take p.length = p)
theorem strEq_dec : ∀ {a b : List Nat}, Bytes a → Bytes b → strEq a b = some (decide (a = b))
  | [], [], _, _ => rfl
  | [], _ :: _, _, _ => by simp [strEq]
  | _ :: _, [], _, _ => by simp [strEq]
  | x :: a, y :: b, ha, hb => by
    have ih := strEq_dec (a := a) (b := b) (fun z hz => ha z (List.mem_cons_of_mem _ hz)) (fun z hz => hb z (List.mem_cons_of_mem _ hz))
    have h1 : Nat.blt x 256 = true := by have := ha x (by simp); simp [Nat.blt]; omega
    have h2 : Nat.blt y 256 = true := by have := hb y (by simp); simp [Nat.blt]; omega
    simp only [strEq, ih, h1, h2, Bool.and_self, cond_true]
    by_cases h : x = y
    · subst h; simp
    · have : Nat.beq x y = false := by
        cases hb : Nat.beq x y with
        | false => rfl
        | true => exact absurd (Nat.eq_of_beq_eq_true hb) h
      simp [this, h]
theorem hasPre (l p : List Nat) (hl : Bytes l) (hp : Bytes p) (hn : l.length < 4611686018427387904) (s : S) :
    Cw envB 286 [.str l, .str p] s fun v s' => v = .bool (pref l p) ∧ s = s' := by
  refine cw_enter (fn := Tryz.f286) rfl Tryz.func286 rfl (by kernel_rfl) ?_
  rw [initT_cons, initT_cons, initT_nil]
  by_cases h1 : p.length ≤ l.length
  · have c1 : decide (((l.length : Nat) : Int) ≥ ((p.length : Nat) : Int)) = true := by simp; omega
    have c2 := strEq_dec (a := l.take p.length) (b := p) (fun z hz => hl z (List.mem_of_mem_take hz)) hp
    repeat refine wp_seq ?_
    refine wp_region (t' := ?t1) (ds' := ?d1) (up' := ?u1) (s' := ?s1) (by kernel_rfl) ?h1 ?k1
    case h1 =>
      simp only [runOps_cons, ops_nil, opThen_true, nxThen_val, wantedV_none, opDo, eval_bool, nxVal_some, Nat.zero_add]
      exact rfl
    case k1 =>
    repeat refine wp_seq ?_
    have hsl2a : p.length ≤ l.length := by first | omega | exact Nat.le_refl _
    have hsl2b : 0 ≤ p.length := by omega
    refine wp_region (t' := ?t3) (ds' := ?d3) (up' := ?u3) (s' := ?s3) (by kernel_rfl) ?h3 ?k3
    case h3 =>
      simp only [runOps_cons, ops_nil, opThen_true, nxThen_val, wantedV_none, wantedV_some, guardV_some, guardB_bool, opDo, eval_tmp, get_putN, Nat.reduceEqDiff, reduceIte, nxVal_some, callTo, callB, doPick, bTT, evals, evB, List.getElem?_toArray, List.getElem?_cons_zero, List.getElem?_cons_succ, Option.bind, doBin, guardOk, isEq, cond_true, cond_false, binOpV, isShift, sameKind, decide_true, intOp, Option.map, len_str, c1, slice_h hsl2a, evalO, strOp, c2]
      exact rfl
    case k3 =>
    refine wp_ret1 (.bool (decide ((l.take p.length) = p))) 4 rfl (by simp only [get_putN, Nat.reduceEqDiff, reduceIte]) ⟨by simp [pref, h1], rfl⟩
  · have c1 : decide (((l.length : Nat) : Int) ≥ ((p.length : Nat) : Int)) = false := by simp; omega
    repeat refine wp_seq ?_
    refine wp_region (t' := ?t4) (ds' := ?d4) (up' := ?u4) (s' := ?s4) (by kernel_rfl) ?h4 ?k4
    case h4 =>
      simp only [runOps_cons, ops_nil, opThen_true, nxThen_val, wantedV_none, opDo, eval_bool, nxVal_some, Nat.zero_add]
      exact rfl
    case k4 =>
    repeat refine wp_seq ?_
    refine wp_region (t' := ?t5) (ds' := ?d5) (up' := ?u5) (s' := ?s5) (by kernel_rfl) ?h5 ?k5
    case h5 =>
      simp only [runOps_cons, ops_nil, opThen_true, opThen_false, nxThen_val, wantedV_none, wantedV_some, guardV_some, guardB_bool, opDo, eval_tmp, eval_bool, get_putN, Nat.reduceEqDiff, reduceIte, nxVal_some, callTo, callB, doPick, bFT, evals, evB, List.getElem?_toArray, List.getElem?_cons_zero, List.getElem?_cons_succ, Option.bind, doBin, guardOk, isEq, cond_true, cond_false, binOpV, isShift, sameKind, decide_true, intOp, len_str, c1]
      exact rfl
    case k5 =>
    refine wp_ret1 (.bool false) 4 rfl (by simp only [get_putN, Nat.reduceEqDiff, reduceIte]) ⟨by simp [pref, h1], rfl⟩
end Go.AI.Lx
/- Bytes of a kind in a row; a text at a place. -/
namespace Go.AI.Lx
open Go.Proofs Go.Proofs.YtkeaedhoaamfnaaGreatDoor
theorem cf271 (args : List V) (s : S) : callF envB 271 args s = some (.enter 271 args s) := by kernel_rfl
theorem cf286 (args : List V) (s : S) : callF envB 286 args s = some (.enter 286 args s) := by kernel_rfl
set_option maxRecDepth 10000
set_option maxHeartbeats 2000000
theorem hasPre2 (l p : List Nat) (hl : Bytes l) (hp : Bytes p) (hn : l.length < 4611686018427387904) (s : S) :
    Cw envB 271 [.str l, .str p] s fun v s' => v = .bool (pref l p) ∧ s = s' := by
  refine cw_enter (fn := Tryz.f271) rfl Tryz.func271 rfl (by kernel_rfl) ?_
  rw [initT_cons, initT_cons, initT_nil]
  repeat refine wp_seq ?_
  refine wp_region (t' := ?t1) (ds' := ?d1) (up' := ?u1) (s' := ?s1) (by kernel_rfl) ?h1 ?k1
  case h1 =>
    simp only [runOps_cons, ops_nil, opThen_true, nxThen_val, wantedV_none, opDo, eval_bool, nxVal_some, Nat.zero_add]
    exact rfl
  case k1 =>
  repeat refine wp_seq ?_
  obtain ⟨_, _, call2, rfl, rfl⟩ := hasPre l p hl hp hn s
  have call2 := ca_rec call2
  refine wp_region (t' := ?t3) (ds' := ?d3) (up' := ?u3) (s' := ?s3) (by kernel_rfl) ?h3 ?k3
  case h3 =>
    simp only [runOps_cons, ops_nil, opThen_true, nxThen_val, nxThen_enter, outThen_ret, wantedV_none, opDo, eval_tmp, eval_func, get_putN, Nat.reduceEqDiff, reduceIte, nxVal_some, callTo, callV, List.nil_append, List.append_nil, evals, call2, cf286]
    exact rfl
  case k3 =>
  refine wp_ret1 (.bool (pref l p)) 4 rfl (by simp only [get_putN, Nat.reduceEqDiff, reduceIte]) ⟨rfl, rfl⟩
theorem startsW {fs : Nat} {e : TypeId} {sb : Bool} {nv : Nat} {l : List Nat} {p : Nat} {rest : List V} (hb : Bytes l) (hl : l.length < 4611686018427387904) (hp : p ≤ l.length) (q : List Nat) (hq : Bytes q) {s : S} (hg : s.get fs = some (.cells e sb nv [⟨0, 0, .str l :: .int .i64 ((p : Nat) : Int) :: rest⟩])) :
    Cw envB 236 [.ptr ⟨fs, 0, 0⟩, .str q] s fun v s' => v = .bool (pref (l.drop p) q) ∧ s = s' := by
  refine cw_enter (fn := Tryz.f236) rfl Tryz.func236 rfl (by kernel_rfl) ?_
  rw [initT_cons, initT_cons, initT_nil]
  repeat refine wp_seq ?_
  refine wp_region (t' := ?t1) (ds' := ?d1) (up' := ?u1) (s' := ?s1) (by kernel_rfl) ?h1 ?k1
  case h1 =>
    simp only [runOps_cons, ops_nil, opThen_true, nxThen_val, wantedV_none, opDo, eval_bool, nxVal_some, Nat.zero_add]
    exact rfl
  case k1 =>
  repeat refine wp_seq ?_
  have hsl2a : l.length ≤ l.length := by first | omega | exact Nat.le_refl _
  have hsl2b : p ≤ l.length := by omega
  obtain ⟨_, _, call3, rfl, rfl⟩ := hasPre2 (l.drop p) q (fun z hz => hb z (List.mem_of_mem_drop hz)) hq (by rw [List.length_drop]; omega) s
  have call3 := ca_rec call3
  refine wp_sch (t' := ?t4) (ds' := ?d4) (up' := ?u4) (s' := ?s4) [(some 1, 0), (some 1, 1), (some 1, 2), (some 1, 3), (some 1, 4), (some 1, 5), (some 1, 6), (some 1, 7), (some 1, 8), (some 1, 9), (none, 10), (some 1, 11)] (by kernel_rfl) (by kernel_rfl) ?h4 ?k4
  case h4 =>
    simp only [runSch_nil, runSch_f, runSch_e, runSchK_eq, runSchE_eq, schFloat_some, schThen_some, schEff_some, schEThen_some, schNext_true, floatStep1_true, effStep_true, effDo_enter, effEnd_ret, floatDo1_0, floatDo1_1, valOnly_val, readBoth_some, readTo_val, readAll_one, opKind, List.take_succ_cons, List.take_zero, List.take_nil, ble_self, doLoad_ptr, wantedV_none, opDo, eval_tmp, eval_func, get_putN, Nat.reduceEqDiff, reduceIte, nxVal_some, callTo, callV, List.nil_append, List.append_nil, Nat.zero_add, Nat.add_zero, evals, evB, List.getElem?_toArray, List.getElem?_cons_zero, List.getElem?_cons_succ, doNilCheck_ptr, fa271_0, lv9, ld1 hg, fa271_1, lv3, slice_l hsl2b, evalO, ble_self, call3, cf271]
    exact rfl
  case k4 =>
  refine wp_ret1 (.bool (pref (l.drop p) q)) 4 rfl (by simp only [get_putN, Nat.reduceEqDiff, reduceIte]) ⟨rfl, rfl⟩
def runN (q : Nat → Bool) (l : List Nat) (i : Nat) : Nat := ((l.drop i).takeWhile q).length
theorem runN_end (q : Nat → Bool) {l : List Nat} {i : Nat} (h : l.length ≤ i) : runN q l i = 0 := by simp [runN, List.drop_eq_nil_of_le h]
theorem runN_step {q : Nat → Bool} {l : List Nat} {i c : Nat} (h : l[i]? = some c) : runN q l i = if q c = true then runN q l (i + 1) + 1 else 0 := by
  have hlt := (List.getElem?_eq_some_iff.1 h).1
  have hc := (List.getElem?_eq_some_iff.1 h).2
  unfold runN
  rw [List.drop_eq_getElem_cons hlt, hc, List.takeWhile_cons]
  split <;> rfl
theorem runN_le (q : Nat → Bool) (l : List Nat) (i : Nat) (h : i ≤ l.length) : i + runN q l i ≤ l.length := by
  unfold runN
  have := (List.takeWhile_sublist q (l := l.drop i)).length_le
  rw [List.length_drop] at this
  omega
theorem runW {g : FuncId} {q : Nat → Bool} (hgq : findByte byteFn g = some q) (hcf : ∀ args s, callF envB g args s = some (.enter g args s)) {fs : Nat} {e : TypeId} {sb : Bool} {nv : Nat} {l : List Nat} {p k : Nat} {rest : List V} (hb : Bytes l) (hl : l.length < 4611686018427387904) (hk : p + k ≤ l.length) {s : S} (hg : s.get fs = some (.cells e sb nv [⟨0, 0, .str l :: .int .i64 ((p : Nat) : Int) :: rest⟩])) :
    Cw envB 234 [.ptr ⟨fs, 0, 0⟩, .int .i64 ((k : Nat) : Int), .func (.func g) [] []] s fun v s' => v = .int .i64 ((runN q l (p + k) : Nat) : Int) ∧ s = s' := by
  refine cw_enter (fn := Tryz.f234) rfl Tryz.func234 rfl (by kernel_rfl) ?_
  rw [initT_cons, initT_cons, initT_cons, initT_nil]
  repeat refine wp_seq ?_
  refine wp_region (t' := ?t1) (ds' := ?d1) (up' := ?u1) (s' := ?s1) (by kernel_rfl) ?h1 ?k1
  case h1 =>
    simp only [runOps_cons, ops_nil, opThen_true, nxThen_val, wantedV_none, opDo, eval_int, nxVal_some, Nat.zero_add, Nat.reduceAdd]
    exact rfl
  case k1 =>
  repeat refine wp_seq ?_
  refine wp_region (t' := ?t2) (ds' := ?d2) (up' := ?u2) (s' := ?s2) (by kernel_rfl) ?h2 ?k2
  case h2 =>
    simp only [runOps_cons, ops_nil, opThen_true, nxThen_val, wantedV_none, opDo, eval_int, nxVal_some]
    exact rfl
  case k2 =>
  repeat refine wp_seq ?_
  refine wp_block ?_
  refine wp_loop_inv (fun j t s1 => ∃ (n : Nat), j = l.length - (p + k + n) ∧ p + k + n ≤ l.length ∧ runN q l (p + k) = n + runN q l (p + k + n) ∧ s = s1 ∧ t.get (pth 0) = some (.ptr ⟨fs, 0, 0⟩) ∧ t.get (pth 1) = some (.int .i64 ((k : Nat) : Int)) ∧ t.get (pth 2) = some (.func (.func g) [] []) ∧ t.get (pth 6) = some (.int .i64 0) ∧ t.get (pth 7) = some (.int .i64 ((n : Nat) : Int))) ?_ _ _ _ ⟨0, rfl, hk, by simp, rfl, ?_, ?_, ?_, ?_, ?_⟩
  rotate_left
  · simp only [get_putN, Nat.reduceEqDiff, reduceIte] <;> rfl
  · simp only [get_putN, Nat.reduceEqDiff, reduceIte] <;> rfl
  · simp only [get_putN, Nat.reduceEqDiff, reduceIte] <;> rfl
  · simp only [get_putN, Nat.reduceEqDiff, reduceIte] <;> rfl
  · simp only [get_putN, Nat.reduceEqDiff, reduceIte] <;> rfl
  rintro j t s1 ⟨n, hj, hn, hr, rfl, l0, l1, l2, l6, l7⟩ hnext
  by_cases hlt : p + k + n < l.length
  · have c1 : decide (((p + k + n : Nat) : Int) < ((l.length : Nat) : Int)) = true := by simp; omega
    obtain ⟨x, hx⟩ : ∃ x, l[p + k + n]? = some x := ⟨_, List.getElem?_eq_getElem hlt⟩
    have hxx : l[p + k + n]? = some x ∧ x < 256 := ⟨hx, hb.at hx⟩
    have hrs := runN_step (q := q) hx
    repeat refine wp_seq ?_
    have hw3 : IntKind.wrap .i64 (((p : Nat) : Int) + ((k : Nat) : Int)) = ((p + k : Nat) : Int) := by have := wrap_in (((p : Nat) : Int) + ((k : Nat) : Int)) ⟨by omega, by omega⟩; omega
    have hw4 : IntKind.wrap .i64 (((p + k : Nat) : Int) + ((n : Nat) : Int)) = ((p + k + n : Nat) : Int) := by have := wrap_in (((p + k : Nat) : Int) + ((n : Nat) : Int)) ⟨by omega, by omega⟩; omega
    have call5 := byteCall hgq hxx.2 s
    refine wp_sch (t' := ?t6) (ds' := ?d6) (up' := ?u6) (s' := ?s6) [(some 1, 0), (some 1, 1), (some 1, 2), (some 1, 3), (some 1, 4), (some 1, 5), (some 1, 6), (some 1, 7), (some 1, 8), (some 1, 9), (some 1, 10), (some 1, 11), (some 1, 12), (some 1, 13), (some 1, 14), (some 1, 15), (some 1, 16), (some 1, 17), (some 1, 18), (some 1, 19), (some 1, 20), (some 1, 21), (some 1, 22), (some 1, 23), (some 1, 24), (some 1, 25), (some 1, 26), (some 1, 27), (some 1, 28), (none, 29), (some 1, 30)] (by kernel_rfl) (by kernel_rfl) ?h6 ?k6
    case h6 =>
      simp only [runSch_nil, runSch_f, runSch_e, runSchK_eq, runSchE_eq, schFloat_some, schThen_some, schEff_some, schEThen_some, schNext_true, floatStep1_true, effStep_true, effDo_enter, effEnd_ret, floatDo1_0, floatDo1_1, valOnly_val, readBoth_some, readTo_val, readAll_one, opKind, List.take_succ_cons, List.take_zero, List.take_nil, ble_self, doLoad_ptr, natOf_cast, wantedV_none, wantedV_some, guardV_some, guardB_bool, opDo, eval_tmp, get_putN, Nat.reduceEqDiff, reduceIte, nxVal_some, callTo, callB, callV, doPick, bTT, List.nil_append, List.append_nil, Nat.zero_add, Nat.add_zero, evals, evB, List.getElem?_toArray, List.getElem?_cons_zero, List.getElem?_cons_succ, Option.bind, doBin, guardOk, isEq, cond_true, cond_false, binOpV, isShift, sameKind, decide_true, intOp, doNilCheck_ptr, fa271_1, lv3, ld1 hg, mkInt_eq, hw3, hw4, fa271_0, lv9, len_str, c1, natOf_cast, idx_str hxx, ble_self, call5, hcf, l0, l1, l2, l7]
      exact rfl
    case k6 =>
    refine wp_cond (q x) (by simp only [eval_tmp, get_putN, Nat.reduceEqDiff, reduceIte]) (fun hd => ?_) (fun hd => ?_)
    · rw [if_pos hd] at hrs
      refine wp_skip ?_
      refine wp_block ?_
      have hw7 : IntKind.wrap .i64 (((n : Nat) : Int) + 1) = ((n + 1 : Nat) : Int) := by have := wrap_in (((n : Nat) : Int) + 1) ⟨by omega, by omega⟩; omega
      refine wp_region (t' := ?t8) (ds' := ?d8) (up' := ?u8) (s' := ?s8) (by kernel_rfl) ?h8 ?k8
      case h8 =>
        simp only [runOps_cons, ops_nil, opThen_true, nxThen_val, wantedV_none, opDo, eval_tmp, eval_int, get_putN, Nat.reduceEqDiff, reduceIte, nxVal_some, doBin, guardOk, isEq, cond_true, cond_false, binOpV, isShift, sameKind, decide_true, intOp, mkInt_eq, hw7, l7]
        exact rfl
      case k8 =>
      refine wp_inBlock ?_
      refine hnext _ _ _ (by omega) ⟨n + 1, rfl, by omega, by rw [hr, hrs, show p + k + (n + 1) = p + k + n + 1 by omega]; omega, rfl, ?_, ?_, ?_, ?_, ?_⟩
      · simp only [get_putN, Nat.reduceEqDiff, reduceIte, l0] <;> rfl
      · simp only [get_putN, Nat.reduceEqDiff, reduceIte, l1] <;> rfl
      · simp only [get_putN, Nat.reduceEqDiff, reduceIte, l2] <;> rfl
      · simp only [get_putN, Nat.reduceEqDiff, reduceIte, l6] <;> rfl
      · simp only [get_putN, Nat.reduceEqDiff, reduceIte, l7] <;> rfl
    · have hd2 : ¬ (q x = true) := by rw [hd]; exact Bool.false_ne_true
      rw [if_neg hd2] at hrs
      refine wp_exit rfl ?_
      repeat refine wp_seq ?_
      refine wp_region (t' := ?t9) (ds' := ?d9) (up' := ?u9) (s' := ?s9) (by kernel_rfl) ?h9 ?k9
      case h9 =>
        simp only [runOps_cons, ops_nil, opThen_true, nxThen_val, wantedV_none, opDo, eval_tmp, get_putN, Nat.reduceEqDiff, reduceIte, nxVal_some, l7]
        exact rfl
      case k9 =>
      refine wp_ret1 (.int .i64 ((n : Nat) : Int)) 6 rfl (by simp only [get_putN, Nat.reduceEqDiff, reduceIte]) ⟨by rw [hr, hrs, Nat.add_zero], rfl⟩
  · have c1 : decide (((p + k + n : Nat) : Int) < ((l.length : Nat) : Int)) = false := by simp; omega
    repeat refine wp_seq ?_
    have hw10 : IntKind.wrap .i64 (((p : Nat) : Int) + ((k : Nat) : Int)) = ((p + k : Nat) : Int) := by have := wrap_in (((p : Nat) : Int) + ((k : Nat) : Int)) ⟨by omega, by omega⟩; omega
    have hw11 : IntKind.wrap .i64 (((p + k : Nat) : Int) + ((n : Nat) : Int)) = ((p + k + n : Nat) : Int) := by have := wrap_in (((p + k : Nat) : Int) + ((n : Nat) : Int)) ⟨by omega, by omega⟩; omega
    refine wp_sch (t' := ?t12) (ds' := ?d12) (up' := ?u12) (s' := ?s12) [(some 1, 0), (some 1, 1), (some 1, 2), (some 1, 3), (some 1, 4), (some 1, 5), (some 1, 6), (some 1, 7), (some 1, 8), (some 1, 9), (some 1, 10), (some 1, 11), (some 1, 12), (some 1, 13), (some 1, 14), (some 1, 15), (some 1, 16), (some 1, 17), (some 1, 18), (some 1, 19), (some 1, 20), (some 1, 21), (some 1, 22), (some 1, 23), (some 1, 24), (some 1, 25), (some 1, 26), (some 1, 27), (some 1, 28), (none, 29), (some 1, 30)] (by kernel_rfl) (by kernel_rfl) ?h12 ?k12
    case h12 =>
      simp only [runSch_nil, runSch_f, runSch_e, runSchK_eq, runSchE_eq, schFloat_some, schThen_some, schEff_some, schEThen_some, schNext_true, floatStep1_true, floatStep1_false, effStep_false, floatDo1_0, floatDo1_1, valOnly_val, readBoth_some, readTo_val, readAll_one, opKind, List.take_succ_cons, List.take_zero, List.take_nil, ble_self, doLoad_ptr, wantedV_none, wantedV_some, guardV_some, guardB_bool, opDo, eval_tmp, eval_bool, get_putN, Nat.reduceEqDiff, reduceIte, nxVal_some, callTo, callB, doPick, bFT, Nat.zero_add, Nat.add_zero, evals, evB, List.getElem?_toArray, List.getElem?_cons_zero, List.getElem?_cons_succ, Option.bind, doBin, guardOk, isEq, cond_true, cond_false, binOpV, isShift, sameKind, decide_true, intOp, doNilCheck_ptr, fa271_1, lv3, ld1 hg, mkInt_eq, hw10, hw11, fa271_0, lv9, len_str, c1, l0, l1, l7]
      exact rfl
    case k12 =>
    refine wp_cond false (by simp only [eval_tmp, get_putN, Nat.reduceEqDiff, reduceIte]) (fun h => by cases h) (fun _ => ?_)
    refine wp_exit rfl ?_
    repeat refine wp_seq ?_
    refine wp_region (t' := ?t13) (ds' := ?d13) (up' := ?u13) (s' := ?s13) (by kernel_rfl) ?h13 ?k13
    case h13 =>
      simp only [runOps_cons, ops_nil, opThen_true, nxThen_val, wantedV_none, opDo, eval_tmp, get_putN, Nat.reduceEqDiff, reduceIte, nxVal_some, l7]
      exact rfl
    case k13 =>
    refine wp_ret1 (.int .i64 ((n : Nat) : Int)) 6 rfl (by simp only [get_putN, Nat.reduceEqDiff, reduceIte]) ⟨by rw [hr, runN_end q (by omega), Nat.add_zero], rfl⟩
end Go.AI.Lx
/- A token is made. -/
namespace Go.AI.Lx
open Go.Proofs Go.Proofs.YtkeaedhoaamfnaaGreatDoor
theorem ty_size117 : size Tryz.prog 117 = some 4 := by kernel_rfl
theorem ty_agg117 : isAggT Tryz.prog 117 = some true := by kernel_rfl
theorem al117 (s : S) : doAlloc Tryz.prog s 117 = some (.val (.ptr ⟨s.next, 0, 0⟩) (s.alloc (.cells 117 false 1 [⟨0, 0, [.int .i64 0, .int .i64 0, .str [], .int .i64 0]⟩]))) := by kernel_rfl
theorem lv117 (s : S) (a : Ad) : loadVar Tryz.prog s 117 a = (loadCells s a 4).map .agg := by simp only [loadVar, ty_agg117, ty_size117, Option.bind]
theorem sv117 (s : S) (a : Ad) (l : List V) (h : l.length = 4) : storeVar Tryz.prog s 117 a (.agg l) = storeCells s a l := by
  simp only [storeVar, ty_size117, V.cells, h]; rfl
theorem fa117_0 (f v c : Nat) : doFieldAddr Tryz.prog 117 (some (.ptr ⟨f, v, c⟩)) 0 = some (.ptr ⟨f, v, c + 0⟩) := by kernel_rfl
theorem fa117_1 (f v c : Nat) : doFieldAddr Tryz.prog 117 (some (.ptr ⟨f, v, c⟩)) 1 = some (.ptr ⟨f, v, c + 1⟩) := by kernel_rfl
theorem fa117_2 (f v c : Nat) : doFieldAddr Tryz.prog 117 (some (.ptr ⟨f, v, c⟩)) 2 = some (.ptr ⟨f, v, c + 2⟩) := by kernel_rfl
theorem fa117_3 (f v c : Nat) : doFieldAddr Tryz.prog 117 (some (.ptr ⟨f, v, c⟩)) 3 = some (.ptr ⟨f, v, c + 3⟩) := by kernel_rfl
theorem fa274_0 (f v c : Nat) : doFieldAddr Tryz.prog 274 (some (.ptr ⟨f, v, c⟩)) 0 = some (.ptr ⟨f, v, c + 0⟩) := by kernel_rfl
theorem fa274_2 (f v c : Nat) : doFieldAddr Tryz.prog 274 (some (.ptr ⟨f, v, c⟩)) 2 = some (.ptr ⟨f, v, c + 3⟩) := by kernel_rfl
set_option maxRecDepth 10000
set_option maxHeartbeats 2000000
theorem madeW {fs : Nat} {e : TypeId} {sb : Bool} {nv : Nat} {l : List Nat} {p n : Nat} {rest : List V} (kind : Int) (hl : l.length ≤ 24) (hn : p + n ≤ l.length) {s : S} (hw : WF s) (hg : s.get fs = some (.cells e sb nv [⟨0, 0, .str l :: .int .i64 ((p : Nat) : Int) :: rest⟩])) :
    Cw envB 244 [.ptr ⟨fs, 0, 0⟩, .int .i64 kind, .int .i64 ((n : Nat) : Int)] s fun v s' => v = .agg [.int .i64 kind, .int .i64 0, .str ((l.drop p).take n), .int .i64 ((p : Nat) : Int)] ∧ Fw [] s s' := by
  refine cw_enter (fn := Tryz.f244) rfl Tryz.func244 rfl (by kernel_rfl) ?_
  rw [initT_cons, initT_cons, initT_cons, initT_nil]
  have hm := Me.start (F := []) hw
  have c1 : decide (((n : Nat) : Int) > 24) = false := by simp; omega
  have hpn : p + n - p = n := by omega
  repeat refine wp_seq ?_
  have hm1 := hm.alloc (B := .cells 117 false 1 [⟨0, 0, [.int .i64 0, .int .i64 0, .str [], .int .i64 0]⟩]) (fun _ h => by cases h)
  refine wp_region (t' := ?t2) (ds' := ?d2) (up' := ?u2) (s' := ?s2) (by kernel_rfl) ?h2 ?k2
  case h2 =>
    simp only [runOps_cons, ops_nil, opThen_true, nxThen_val, wantedV_none, opDo, Nat.zero_add, Nat.reduceAdd, evB, al117]
    exact rfl
  case k2 =>
  have hm := hm1
  generalize hs2 : S.alloc s _ = s3 at hm ⊢
  generalize hf4 : S.next s = f4 at hm ⊢
  have g5 := hm.at 0 rfl
  have g6 := hm.fw.keep fs _ (by simp) hg
  repeat refine wp_seq ?_
  refine wp_region (t' := ?t7) (ds' := ?d7) (up' := ?u7) (s' := ?s7) (by kernel_rfl) ?h7 ?k7
  case h7 =>
    simp only [runOps_cons, ops_nil, opThen_true, nxThen_val, wantedV_none, opDo, eval_tmp, eval_int, get_putN, Nat.reduceEqDiff, reduceIte, nxVal_some, doBin, guardOk, isEq, cond_true, cond_false, binOpV, isShift, sameKind, decide_true, intOp, c1]
    exact rfl
  case k7 =>
  refine wp_cond false (by simp only [eval_tmp, get_putN, Nat.reduceEqDiff, reduceIte]) (fun h => by cases h) (fun _ => ?_)
  refine wp_skip ?_
  repeat refine wp_seq ?_
  have hw8 : IntKind.wrap .i64 (((p : Nat) : Int) + ((n : Nat) : Int)) = ((p + n : Nat) : Int) := by have := wrap_in (((p : Nat) : Int) + ((n : Nat) : Int)) ⟨by omega, by omega⟩; omega
  have hsl9a : p + n ≤ l.length := by first | omega | exact Nat.le_refl _
  have hsl9b : p ≤ p + n := by omega
  have bd10_244 : doBuild Tryz.prog 117 (some [(0, .int .i64 kind), (2, .str ((l.drop p).take (p + n - p))), (3, .int .i64 ((p : Nat) : Int))]) = some (.agg [.int .i64 kind, .int .i64 0, .str ((l.drop p).take (p + n - p)), .int .i64 ((p : Nat) : Int)]) := by rfl
  have hm11 := hm.put 0 rfl (B' := .cells 117 false 1 [⟨0, 0, [.int .i64 kind, .int .i64 0, .str ((l.drop p).take (p + n - p)), .int .i64 ((p : Nat) : Int)]⟩]) (fun _ h => by cases h)
  simp only [List.set_cons_zero] at hm11
  refine wp_sch (t' := ?t12) (ds' := ?d12) (up' := ?u12) (s' := ?s12) [(some 1, 0), (some 1, 1), (some 1, 2), (some 1, 3), (some 1, 4), (some 1, 5), (some 1, 6), (some 1, 7), (some 1, 8), (some 1, 9), (some 1, 10), (some 1, 11), (some 1, 12), (some 1, 13), (some 1, 14), (some 1, 15), (some 1, 16), (some 1, 17), (some 1, 18), (some 1, 19), (some 1, 20), (some 1, 21), (some 1, 22), (some 1, 23), (some 1, 24), (none, 25)] (by kernel_rfl) (by kernel_rfl) ?h12 ?k12
  case h12 =>
    simp only [runSch_nil, runSch_f, runSch_e, runSchK_eq, runSchE_eq, schFloat_some, schThen_some, schEff_some, schEThen_some, schNext_true, floatStep1_true, effStep_true, effDo_skip, floatDo1_0, floatDo1_1, valOnly_val, readBoth_some, readTo_val, readAll_one, opKind, List.take_succ_cons, List.take_nil, ble_put, nxSkip_some, doLoad_ptr, doStore_ptr, wantedV_none, opDo, eval_tmp, get_putN, putD_none, Nat.reduceEqDiff, reduceIte, nxVal_some, Nat.zero_add, Nat.add_zero, evB, List.getElem?_toArray, List.getElem?_cons_zero, List.getElem?_cons_succ, doBin, guardOk, isEq, cond_true, cond_false, binOpV, isShift, sameKind, decide_true, intOp, doNilCheck_ptr, fa274_0, fa271_0, lv9, ld1 g6, fa271_1, lv3, mkInt_eq, hw8, slice_lh hsl9a hsl9b, evalO, evalsO, bd10_244, sv117 _ _ [.int .i64 kind, .int .i64 0, .str ((l.drop p).take (p + n - p)), .int .i64 ((p : Nat) : Int)] rfl, st1 g5 0 [.int .i64 kind, .int .i64 0, .str ((l.drop p).take (p + n - p)), .int .i64 ((p : Nat) : Int)] (rfl) rfl]
    exact rfl
  case k12 =>
  have hm := hm11
  generalize hs12 : S.put s3 f4 _ = s13 at hm ⊢
  have g14 := hm.at 0 rfl
  have g15 := hm.fw.keep fs _ (by simp) hg
  refine wp_retc1 (.agg [.int .i64 kind, .int .i64 0, .str ((l.drop p).take (p + n - p)), .int .i64 ((p : Nat) : Int)]) 6 ⟨f4, 0, 0⟩ 117 rfl (by simp only [get_putN, Nat.reduceEqDiff, reduceIte]) (by rw [evB, lv117, ldn g14]; rfl) ⟨by rw [hpn], hm.fw⟩
end Go.AI.Lx
/- The words. -/
namespace Go.AI.Lx
open Go.Proofs Go.Proofs.YtkeaedhoaamfnaaGreatDoor
set_option maxRecDepth 10000
set_option maxHeartbeats 2000000
def words : List (List Nat) := [[97, 110, 100], [99, 97, 115, 101], [100, 97, 116, 97], [101, 108, 115, 101], [101, 110, 100], [102, 110], [102, 117, 110], [105, 102], [105, 110], [105, 110, 112, 117, 116], [108, 101, 116], [111, 102], [111, 117, 116, 112, 117, 116], [116, 104, 101, 110], [118, 97, 108]]
def wordEnts : List (List Nat) → Nat → List Ent
  | [], _ => []
  | w :: r, n => ⟨.str w, .int .i64 5, n⟩ :: wordEnts r (n + 1)
theorem find_word {ok : V → V → Option Bool} (hok : ∀ a b, Bytes a → Bytes b → ok (.str a) (.str b) = some (decide (a = b))) {x : List Nat} (hx : Bytes x) : ∀ (ws : List (List Nat)) (n : Nat), (∀ w ∈ ws, Bytes w) → findKeyV ok (.str x) (wordEnts ws n) = some (if x ∈ ws then some (.int .i64 5) else none)
  | [], n, _ => by simp [wordEnts, findKeyV]
  | w :: r, n, h => by
    have ih := find_word hok hx r (n + 1) (fun z hz => h z (List.mem_cons_of_mem _ hz))
    simp only [wordEnts, findKeyV, ih, hok x w hx (h w (by simp))]
    by_cases hw : x = w
    · subst hw; simp [findKeyV.foundKey]
    · simp [findKeyV.foundKey, hw]
def nameLen (l : List Nat) (p : Nat) : Nat :=
  if peekN l (p + runN bPart l p) = 39 ∧ 0 < runN bDigit l (p + runN bPart l p + 1) then runN bPart l p + (1 + runN bDigit l (p + runN bPart l p + 1)) else runN bPart l p
end Go.AI.Lx
/- Names and words. -/
namespace Go.AI.Lx
open Go.Proofs Go.Proofs.YtkeaedhoaamfnaaGreatDoor
theorem cf234 (args : List V) (s : S) : callF envB 234 args s = some (.enter 234 args s) := by kernel_rfl
theorem cf239 (args : List V) (s : S) : callF envB 239 args s = some (.enter 239 args s) := by kernel_rfl
theorem cf245 (args : List V) (s : S) : callF envB 245 args s = some (.enter 245 args s) := by kernel_rfl
set_option maxRecDepth 10000
set_option maxHeartbeats 2000000
theorem words_bytes : ∀ w ∈ words, Bytes w := by
  intro w hw b hb
  simp only [words, List.mem_cons, List.mem_nil_iff, or_false] at hw
  rcases hw with rfl | rfl | rfl | rfl | rfl | rfl | rfl | rfl | rfl | rfl | rfl | rfl | rfl | rfl | rfl <;> simp only [List.mem_cons, List.mem_nil_iff, or_false] at hb <;> omega
theorem eqlAt_str (s : S) (a b : List Nat) (ha : Bytes a) (hb : Bytes b) : eqlAt Tryz.prog (plainAt s) 20 9 (.str a) (.str b) = some (decide (a = b)) := by
  simp only [eqlAt, Tryz.underlying9, strEq_dec ha hb]
theorem simple9 : simpleKey Tryz.prog 9 = true := by kernel_rfl
theorem zero3 : found Tryz.prog 3 true (some none) = some (.tuple [.int .i64 0, .bool false]) := by kernel_rfl
theorem found3 (v : V) : found Tryz.prog 3 true (some (some v)) = some (.tuple [v, .bool true]) := by rfl
theorem look_word {s : S} {mm n0 clk : Nat} (hm : s.get mm = some (.map (wordEnts words n0) clk)) {x : List Nat} (hx : Bytes x) :
    doLookup Tryz.prog s 86 (some (.map mm)) (some (.str x)) true = some (.tuple [.int .i64 (if x ∈ words then 5 else 0), .bool (decide (x ∈ words))]) := by
  simp only [doLookup, Tryz.underlying86, entsOf, hm, simple9, cond_true, find_word (fun a b ha hb => eqlAt_str s a b ha hb) hx words n0 words_bytes]
  by_cases h : x ∈ words
  · simp only [h, if_true, found3, decide_true]
  · simp only [h, if_false, zero3, decide_false]
def nameKind (x : List Nat) (kind : Int) : Int := if x ∈ words then 5 else kind
theorem nameLen_le (l : List Nat) (p : Nat) (h : p ≤ l.length) : p + nameLen l p ≤ l.length := by
  have h1 := runN_le bPart l p h
  unfold nameLen
  split
  · rename_i hc
    have h3 : p + runN bPart l p < l.length := by
      rcases Nat.lt_or_ge (p + runN bPart l p) l.length with h | h
      · exact h
      · have := hc.1
        unfold peekN at this
        rw [List.getElem?_eq_none h] at this
        cases this
    have h2 := runN_le bDigit l (p + runN bPart l p + 1) (by omega)
    omega
  · exact h1
end Go.AI.Lx
/- Comments. -/
namespace Go.AI.Lx
open Go.Proofs Go.Proofs.YtkeaedhoaamfnaaGreatDoor
theorem ty_size172 : size Tryz.prog 172 = some 2 := by kernel_rfl
theorem ty_agg172 : isAggT Tryz.prog 172 = some true := by kernel_rfl
theorem al172 (s : S) : doAlloc Tryz.prog s 172 = some (.val (.ptr ⟨s.next, 0, 0⟩) (s.alloc (.cells 172 false 1 [⟨0, 0, [.int .i64 0, .int .i64 0]⟩]))) := by kernel_rfl
theorem lv172 (s : S) (a : Ad) : loadVar Tryz.prog s 172 a = (loadCells s a 2).map .agg := by simp only [loadVar, ty_agg172, ty_size172, Option.bind]
theorem sv172 (s : S) (a : Ad) (l : List V) (h : l.length = 2) : storeVar Tryz.prog s 172 a (.agg l) = storeCells s a l := by
  simp only [storeVar, ty_size172, V.cells, h]; rfl
theorem cf236 (args : List V) (s : S) : callF envB 236 args s = some (.enter 236 args s) := by kernel_rfl
set_option maxRecDepth 10000
set_option maxHeartbeats 2000000
theorem cst_40_42 (t : T V) : eval t (.const (.string ⟨#[40, 42]⟩)) = some (.str [40, 42]) := by rfl
theorem cst_42_41 (t : T V) : eval t (.const (.string ⟨#[42, 41]⟩)) = some (.str [42, 41]) := by rfl
def Thrown (c : List Pan) : Prop := ∃ a e : Int, e ≠ 0 ∧ c = [⟨.iface 172 (.agg [.int .i64 a, .int .i64 e]), false⟩]
abbrev ScB (e : TypeId) (sb : Bool) (nv : Nat) (l : List Nat) (p : Nat) (mm : Nat) (cm : V) : Blk := .cells e sb nv [⟨0, 0, [.str l, .int .i64 ((p : Nat) : Int), .map mm, cm]⟩]
theorem pref2 {l : List Nat} {p a b : Nat} (h : pref (l.drop p) [a, b] = true) : p + 2 ≤ l.length := by
  simp only [pref, Bool.and_eq_true, decide_eq_true_eq, List.length_drop, List.length_cons, List.length_nil] at h
  omega
theorem commentW {fs : Nat} {e : TypeId} {sb : Bool} {nv : Nat} {l : List Nat} {p : Nat} {mm : Nat} {cm : V} (hb : Bytes l) (hl : l.length ≤ 24) (hp : pref (l.drop p) [40, 42] = true) {s : S} (hw : WF s) (hg : s.get fs = some (ScB e sb nv l p mm cm)) :
    Co envB 237 [.ptr ⟨fs, 0, 0⟩] s (RP (fun v s' => v = .tuple [] ∧ ∃ p', p < p' ∧ p' ≤ l.length ∧ s'.get fs = some (ScB e sb nv l p' mm cm) ∧ Fw [fs] s s') (fun c s' => Thrown c ∧ Fw [fs] s s')) := by
  refine co_enter (fn := Tryz.f237) rfl Tryz.func237 rfl (by kernel_rfl) ?_
  rw [initT_cons, initT_nil]
  have hm := Me.start1 (F := [fs]) hw (by simp) hg (fun _ h => by cases h)
  have g1 := hm.at 0 rfl
  have hp2 := pref2 hp
  repeat refine wp_seq ?_
  refine wp_region (t' := ?t2) (ds' := ?d2) (up' := ?u2) (s' := ?s2) (by kernel_rfl) ?h2 ?k2
  case h2 =>
    simp only [doLoad_ptr, runOps_cons, ops_nil, opThen_true, nxThen_val, wantedV_none, opDo, eval_tmp, eval_int, get_putN, Nat.reduceEqDiff, reduceIte, nxVal_some, Nat.zero_add, Nat.add_zero, evB, List.getElem?_cons_zero, List.getElem?_cons_succ, doNilCheck_ptr, fa274_0, fa271_1, lv3, ld1 g1]
    exact rfl
  case k2 =>
  refine wp_block ?_
  refine wp_loop_inv (fun j t s1 => ∃ (q o : Nat), j = l.length - q ∧ q ≤ l.length ∧ ((q = p ∧ o = 0) ∨ (p < q ∧ 1 ≤ o ∧ o ≤ q)) ∧ Me [fs] s s1 [(fs, ScB e sb nv l q mm cm)] ∧ t.get (pth 0) = some (.ptr ⟨fs, 0, 0⟩) ∧ t.get (pth 2) = some (.int .i64 ((p : Nat) : Int)) ∧ t.get (pth 3) = some (.int .i64 ((o : Nat) : Int))) ?_ _ _ _ ⟨p, 0, rfl, by omega, .inl ⟨rfl, rfl⟩, hm, ?_, ?_, ?_⟩
  rotate_left
  · simp only [get_putN, Nat.reduceEqDiff, reduceIte] <;> rfl
  · simp only [get_putN, Nat.reduceEqDiff, reduceIte] <;> rfl
  · simp only [get_putN, Nat.reduceEqDiff, reduceIte] <;> rfl
  rintro j t s1 ⟨q, o, hj, hq, ho, hm, l0, l2, l3⟩ hnext
  have gq := hm.at 0 rfl
  have hw1 := hm.wf
  by_cases hend : l.length ≤ q
  · have c1 : decide (((q : Nat) : Int) ≥ ((l.length : Nat) : Int)) = true := by simp; omega
    refine wp_block ?_
    refine wp_block ?_
    repeat refine wp_seq ?_
    refine wp_sch (t' := ?t3) (ds' := ?d3) (up' := ?u3) (s' := ?s3) [(some 1, 0), (some 1, 1), (some 1, 2), (some 1, 3), (some 1, 4), (some 1, 5), (some 1, 6), (some 1, 7), (some 1, 8), (some 1, 9), (some 1, 10), (some 1, 11), (some 1, 12)] (by kernel_rfl) (by kernel_rfl) ?h3 ?k3
    case h3 =>
      simp only [runSch_nil, runSch_f, runSchK_eq, schFloat_some, schThen_some, floatStep1_true, floatDo1_0, floatDo1_1, valOnly_val, readBoth_some, readTo_val, readAll_one, opKind, List.take_succ_cons, List.take_nil, doLoad_ptr, wantedV_none, opDo, eval_tmp, get_putN, Nat.reduceEqDiff, reduceIte, nxVal_some, callTo, callB, Nat.zero_add, Nat.add_zero, evals, evB, List.getElem?_toArray, List.getElem?_cons_zero, List.getElem?_cons_succ, doBin, guardOk, isEq, cond_true, cond_false, binOpV, isShift, sameKind, decide_true, intOp, doNilCheck_ptr, fa274_0, fa271_1, lv3, ld1 gq, fa271_0, lv9, len_str, c1, l0]
      exact rfl
    case k3 =>
    refine wp_cond true (by simp only [eval_tmp, get_putN, Nat.reduceEqDiff, reduceIte]) (fun _ => ?_) (fun h => by cases h)
    have bd4_237 : doBuild Tryz.prog 172 (some [(0, .int .i64 ((p : Nat) : Int)), (1, .int .i64 12)]) = some (.agg [.int .i64 ((p : Nat) : Int), .int .i64 12]) := by rfl
    have if5_237 : doMkIface Tryz.prog 172 (some (.agg [.int .i64 ((p : Nat) : Int), .int .i64 12])) = some (.iface 172 (.agg [.int .i64 ((p : Nat) : Int), .int .i64 12])) := by rfl
    refine wp_pan (t' := ?t6) (c := ?d6) (s' := ?s6) (by kernel_rfl) ?h6 ?k6
    case h6 =>
      simp only [runOps_cons, opThen_true, nxThen_val, wantedV_none, opDo, eval_tmp, eval_int, get_putN, Nat.reduceEqDiff, reduceIte, nxVal_some, evB, evalsO, bd4_237, if5_237, nxThen_panic, doPanic_some, l2]
      exact rfl
    case k6 =>
    exact ⟨⟨_, _, by decide, rfl⟩, hm.fw⟩
  · have c1 : decide (((q : Nat) : Int) ≥ ((l.length : Nat) : Int)) = false := by simp; omega
    cases hs : pref (l.drop q) [40, 42] with
    | true =>
      have h2 := pref2 hs
      have c2 : decide (((o : Nat) : Int) ≥ 100) = false := by simp; omega
      refine wp_block ?_
      refine wp_block ?_
      repeat refine wp_seq ?_
      refine wp_sch (t' := ?t7) (ds' := ?d7) (up' := ?u7) (s' := ?s7) [(some 1, 0), (some 1, 1), (some 1, 2), (some 1, 3), (some 1, 4), (some 1, 5), (some 1, 6), (some 1, 7), (some 1, 8), (some 1, 9), (some 1, 10), (some 1, 11), (some 1, 12)] (by kernel_rfl) (by kernel_rfl) ?h7 ?k7
      case h7 =>
        simp only [runSch_nil, runSch_f, runSchK_eq, schFloat_some, schThen_some, floatStep1_true, floatDo1_0, floatDo1_1, valOnly_val, readBoth_some, readTo_val, readAll_one, opKind, List.take_succ_cons, List.take_nil, doLoad_ptr, wantedV_none, opDo, eval_tmp, get_putN, Nat.reduceEqDiff, reduceIte, nxVal_some, callTo, callB, Nat.zero_add, Nat.add_zero, evals, evB, List.getElem?_toArray, List.getElem?_cons_zero, List.getElem?_cons_succ, doBin, guardOk, isEq, cond_true, cond_false, binOpV, isShift, sameKind, decide_true, intOp, doNilCheck_ptr, fa274_0, fa271_1, lv3, ld1 gq, fa271_0, lv9, len_str, c1, l0]
        exact rfl
      case k7 =>
      refine wp_cond false (by simp only [eval_tmp, get_putN, Nat.reduceEqDiff, reduceIte]) (fun h => by cases h) (fun _ => ?_)
      repeat refine wp_seq ?_
      obtain ⟨_, _, call8, rfl, rfl⟩ := startsW hb (by omega) hq [40, 42] (fun z hz => by simp at hz; omega) gq
      have call8 := ca_rec call8
      refine wp_region (t' := ?t9) (ds' := ?d9) (up' := ?u9) (s' := ?s9) (by kernel_rfl) ?h9 ?k9
      case h9 =>
        simp only [runOps_cons, ops_nil, opThen_true, nxThen_val, nxThen_enter, outThen_ret, wantedV_none, opDo, eval_tmp, eval_func, get_putN, Nat.reduceEqDiff, reduceIte, nxVal_some, callTo, callV, List.nil_append, List.append_nil, Nat.add_zero, evals, evB, doNilCheck_ptr, fa274_0, cst_40_42, hs, call8, cf236, l0]
        exact rfl
      case k9 =>
      refine wp_cond true (by simp only [eval_tmp, get_putN, Nat.reduceEqDiff, reduceIte]) (fun _ => ?_) (fun h => by cases h)
      repeat refine wp_seq ?_
      refine wp_region (t' := ?t10) (ds' := ?d10) (up' := ?u10) (s' := ?s10) (by kernel_rfl) ?h10 ?k10
      case h10 =>
        simp only [runOps_cons, ops_nil, opThen_true, nxThen_val, wantedV_none, opDo, eval_tmp, eval_int, get_putN, Nat.reduceEqDiff, reduceIte, nxVal_some, doBin, guardOk, isEq, cond_true, cond_false, binOpV, isShift, sameKind, decide_true, intOp, c2, l3]
        exact rfl
      case k10 =>
      refine wp_cond false (by simp only [eval_tmp, get_putN, Nat.reduceEqDiff, reduceIte]) (fun h => by cases h) (fun _ => ?_)
      refine wp_skip ?_
      repeat refine wp_seq ?_
      have hw11 : IntKind.wrap .i64 (((o : Nat) : Int) + 1) = ((o + 1 : Nat) : Int) := by have := wrap_in (((o : Nat) : Int) + 1) ⟨by omega, by omega⟩; omega
      refine wp_region (t' := ?t12) (ds' := ?d12) (up' := ?u12) (s' := ?s12) (by kernel_rfl) ?h12 ?k12
      case h12 =>
        simp only [runOps_cons, ops_nil, opThen_true, nxThen_val, wantedV_none, opDo, eval_tmp, eval_int, get_putN, Nat.reduceEqDiff, reduceIte, nxVal_some, doBin, guardOk, isEq, cond_true, cond_false, binOpV, isShift, sameKind, decide_true, intOp, mkInt_eq, hw11, l3]
        exact rfl
      case k12 =>
      have hw13 : IntKind.wrap .i64 (((q : Nat) : Int) + 2) = ((q + 2 : Nat) : Int) := by have := wrap_in (((q : Nat) : Int) + 2) ⟨by omega, by omega⟩; omega
      have hm14 := hm.put 0 rfl (B' := .cells e sb nv [⟨0, 0, [.str l, .int .i64 ((q + 2 : Nat) : Int), .map mm, cm]⟩]) (fun _ h => by cases h)
      simp only [List.set_cons_zero] at hm14
      refine wp_region (t' := ?t15) (ds' := ?d15) (up' := ?u15) (s' := ?s15) (by kernel_rfl) ?h15 ?k15
      case h15 =>
        simp only [nxSkip_some, doLoad_ptr, doStore_ptr, runOps_cons, ops_nil, opThen_true, nxThen_val, nxThen_skip, wantedV_none, opDo, eval_tmp, eval_int, get_putN, putD_none, Nat.reduceEqDiff, reduceIte, nxVal_some, Nat.zero_add, Nat.add_zero, evB, List.getElem?_cons_zero, List.getElem?_cons_succ, doBin, guardOk, isEq, cond_true, cond_false, binOpV, isShift, sameKind, decide_true, intOp, doNilCheck_ptr, fa274_0, fa271_1, lv3, ld1 gq, mkInt_eq, hw13, sv3 _ _ (.int .i64 ((q + 2 : Nat) : Int)) rfl, st1 gq 1 [.int .i64 ((q + 2 : Nat) : Int)] (rfl) rfl, l0]
        exact rfl
      case k15 =>
      have hm := hm14
      generalize hs15 : S.put s1 fs _ = s16 at hm ⊢
      have g17 := hm.at 0 rfl
      refine wp_inBlock ?_
      refine wp_inBlock ?_
      refine hnext _ _ _ (by omega) ⟨q + 2, o + 1, rfl, h2, .inr (by omega), hm, ?_, ?_, ?_⟩
      · simp only [get_putN, Nat.reduceEqDiff, reduceIte, l0] <;> rfl
      · simp only [get_putN, Nat.reduceEqDiff, reduceIte, l2] <;> rfl
      · simp only [get_putN, Nat.reduceEqDiff, reduceIte, l3] <;> rfl
    | false =>
      have hne : p < q ∧ 1 ≤ o ∧ o ≤ q := by
        rcases ho with ⟨h, _⟩ | h
        · subst h; rw [hp] at hs; cases hs
        · exact h
      cases hs2 : pref (l.drop q) [42, 41] with
      | true =>
        have h2 := pref2 hs2
        have hsub : IntKind.wrap .i64 (((o : Nat) : Int) - 1) = ((o - 1 : Nat) : Int) := by have := wrap_in (((o : Nat) : Int) - 1) ⟨by omega, by omega⟩; omega
        refine wp_block ?_
        refine wp_block ?_
        repeat refine wp_seq ?_
        refine wp_sch (t' := ?t18) (ds' := ?d18) (up' := ?u18) (s' := ?s18) [(some 1, 0), (some 1, 1), (some 1, 2), (some 1, 3), (some 1, 4), (some 1, 5), (some 1, 6), (some 1, 7), (some 1, 8), (some 1, 9), (some 1, 10), (some 1, 11), (some 1, 12)] (by kernel_rfl) (by kernel_rfl) ?h18 ?k18
        case h18 =>
          simp only [runSch_nil, runSch_f, runSchK_eq, schFloat_some, schThen_some, floatStep1_true, floatDo1_0, floatDo1_1, valOnly_val, readBoth_some, readTo_val, readAll_one, opKind, List.take_succ_cons, List.take_nil, doLoad_ptr, wantedV_none, opDo, eval_tmp, get_putN, Nat.reduceEqDiff, reduceIte, nxVal_some, callTo, callB, Nat.zero_add, Nat.add_zero, evals, evB, List.getElem?_toArray, List.getElem?_cons_zero, List.getElem?_cons_succ, doBin, guardOk, isEq, cond_true, cond_false, binOpV, isShift, sameKind, decide_true, intOp, doNilCheck_ptr, fa274_0, fa271_1, lv3, ld1 gq, fa271_0, lv9, len_str, c1, l0]
          exact rfl
        case k18 =>
        refine wp_cond false (by simp only [eval_tmp, get_putN, Nat.reduceEqDiff, reduceIte]) (fun h => by cases h) (fun _ => ?_)
        repeat refine wp_seq ?_
        obtain ⟨_, _, call19, rfl, rfl⟩ := startsW hb (by omega) hq [40, 42] (fun z hz => by simp at hz; omega) gq
        have call19 := ca_rec call19
        refine wp_region (t' := ?t20) (ds' := ?d20) (up' := ?u20) (s' := ?s20) (by kernel_rfl) ?h20 ?k20
        case h20 =>
          simp only [runOps_cons, ops_nil, opThen_true, nxThen_val, nxThen_enter, outThen_ret, wantedV_none, opDo, eval_tmp, eval_func, get_putN, Nat.reduceEqDiff, reduceIte, nxVal_some, callTo, callV, List.nil_append, List.append_nil, Nat.add_zero, evals, evB, doNilCheck_ptr, fa274_0, cst_40_42, hs, call19, cf236, l0]
          exact rfl
        case k20 =>
        refine wp_cond false (by simp only [eval_tmp, get_putN, Nat.reduceEqDiff, reduceIte]) (fun h => by cases h) (fun _ => ?_)
        repeat refine wp_seq ?_
        obtain ⟨_, _, call21, rfl, rfl⟩ := startsW hb (by omega) hq [42, 41] (fun z hz => by simp at hz; omega) gq
        have call21 := ca_rec call21
        refine wp_region (t' := ?t22) (ds' := ?d22) (up' := ?u22) (s' := ?s22) (by kernel_rfl) ?h22 ?k22
        case h22 =>
          simp only [runOps_cons, ops_nil, opThen_true, nxThen_val, nxThen_enter, outThen_ret, wantedV_none, opDo, eval_tmp, eval_func, get_putN, Nat.reduceEqDiff, reduceIte, nxVal_some, callTo, callV, List.nil_append, List.append_nil, Nat.add_zero, evals, evB, doNilCheck_ptr, fa274_0, cst_42_41, hs2, call21, cf236, l0]
          exact rfl
        case k22 =>
        refine wp_cond true (by simp only [eval_tmp, get_putN, Nat.reduceEqDiff, reduceIte]) (fun _ => ?_) (fun h => by cases h)
        repeat refine wp_seq ?_
        refine wp_region (t' := ?t23) (ds' := ?d23) (up' := ?u23) (s' := ?s23) (by kernel_rfl) ?h23 ?k23
        case h23 =>
          simp only [runOps_cons, ops_nil, opThen_true, nxThen_val, wantedV_none, opDo, eval_tmp, eval_int, get_putN, Nat.reduceEqDiff, reduceIte, nxVal_some, doBin, guardOk, isEq, cond_true, cond_false, binOpV, isShift, sameKind, decide_true, intOp, mkInt_eq, hsub, l3]
          exact rfl
        case k23 =>
        repeat refine wp_seq ?_
        have hw24 : IntKind.wrap .i64 (((q : Nat) : Int) + 2) = ((q + 2 : Nat) : Int) := by have := wrap_in (((q : Nat) : Int) + 2) ⟨by omega, by omega⟩; omega
        have hm25 := hm.put 0 rfl (B' := .cells e sb nv [⟨0, 0, [.str l, .int .i64 ((q + 2 : Nat) : Int), .map mm, cm]⟩]) (fun _ h => by cases h)
        simp only [List.set_cons_zero] at hm25
        refine wp_region (t' := ?t26) (ds' := ?d26) (up' := ?u26) (s' := ?s26) (by kernel_rfl) ?h26 ?k26
        case h26 =>
          simp only [nxSkip_some, doLoad_ptr, doStore_ptr, runOps_cons, ops_nil, opThen_true, nxThen_val, nxThen_skip, wantedV_none, opDo, eval_tmp, eval_int, get_putN, putD_none, Nat.reduceEqDiff, reduceIte, nxVal_some, Nat.zero_add, Nat.add_zero, evB, List.getElem?_cons_zero, List.getElem?_cons_succ, doBin, guardOk, isEq, cond_true, cond_false, binOpV, isShift, sameKind, decide_true, intOp, doNilCheck_ptr, fa274_0, fa271_1, lv3, ld1 gq, mkInt_eq, hw24, sv3 _ _ (.int .i64 ((q + 2 : Nat) : Int)) rfl, st1 gq 1 [.int .i64 ((q + 2 : Nat) : Int)] (rfl) rfl, l0]
          exact rfl
        case k26 =>
        have hm := hm25
        generalize hs26 : S.put s1 fs _ = s27 at hm ⊢
        have g28 := hm.at 0 rfl
        repeat refine wp_seq ?_
        refine wp_region (t' := ?t29) (ds' := ?d29) (up' := ?u29) (s' := ?s29) (by kernel_rfl) ?h29 ?k29
        case h29 =>
          simp only [runOps_cons, ops_nil, opThen_true, nxThen_val, wantedV_none, opDo, eval_tmp, eval_int, get_putN, Nat.reduceEqDiff, reduceIte, nxVal_some, doBin, guardOk, isEq, cond_true, cond_false, binOpV, isShift, sameKind, decide_true, intOp, l3]
          exact rfl
        case k29 =>
        refine wp_cond (((o - 1 : Nat) : Int) == 0) (by simp only [eval_tmp, get_putN, Nat.reduceEqDiff, reduceIte]) (fun h0 => ?_) (fun h0 => ?_)
        · skip
          refine wp_retP (.tuple []) rfl ⟨rfl, q + 2, by omega, h2, hm.at 0 rfl, hm.fw⟩
        · have h0 : ¬ ((o - 1 : Nat) : Int) = 0 := by simpa using h0
          refine wp_skip ?_
          refine wp_inBlock ?_
          refine wp_inBlock ?_
          refine hnext _ _ _ (by omega) ⟨q + 2, o - 1, rfl, h2, .inr (by omega), hm, ?_, ?_, ?_⟩
          · simp only [get_putN, Nat.reduceEqDiff, reduceIte, l0] <;> rfl
          · simp only [get_putN, Nat.reduceEqDiff, reduceIte, l2] <;> rfl
          · simp only [get_putN, Nat.reduceEqDiff, reduceIte, l3] <;> rfl
      | false =>
        skip
        refine wp_block ?_
        refine wp_block ?_
        repeat refine wp_seq ?_
        refine wp_sch (t' := ?t30) (ds' := ?d30) (up' := ?u30) (s' := ?s30) [(some 1, 0), (some 1, 1), (some 1, 2), (some 1, 3), (some 1, 4), (some 1, 5), (some 1, 6), (some 1, 7), (some 1, 8), (some 1, 9), (some 1, 10), (some 1, 11), (some 1, 12)] (by kernel_rfl) (by kernel_rfl) ?h30 ?k30
        case h30 =>
          simp only [runSch_nil, runSch_f, runSchK_eq, schFloat_some, schThen_some, floatStep1_true, floatDo1_0, floatDo1_1, valOnly_val, readBoth_some, readTo_val, readAll_one, opKind, List.take_succ_cons, List.take_nil, doLoad_ptr, wantedV_none, opDo, eval_tmp, get_putN, Nat.reduceEqDiff, reduceIte, nxVal_some, callTo, callB, Nat.zero_add, Nat.add_zero, evals, evB, List.getElem?_toArray, List.getElem?_cons_zero, List.getElem?_cons_succ, doBin, guardOk, isEq, cond_true, cond_false, binOpV, isShift, sameKind, decide_true, intOp, doNilCheck_ptr, fa274_0, fa271_1, lv3, ld1 gq, fa271_0, lv9, len_str, c1, l0]
          exact rfl
        case k30 =>
        refine wp_cond false (by simp only [eval_tmp, get_putN, Nat.reduceEqDiff, reduceIte]) (fun h => by cases h) (fun _ => ?_)
        repeat refine wp_seq ?_
        obtain ⟨_, _, call31, rfl, rfl⟩ := startsW hb (by omega) hq [40, 42] (fun z hz => by simp at hz; omega) gq
        have call31 := ca_rec call31
        refine wp_region (t' := ?t32) (ds' := ?d32) (up' := ?u32) (s' := ?s32) (by kernel_rfl) ?h32 ?k32
        case h32 =>
          simp only [runOps_cons, ops_nil, opThen_true, nxThen_val, nxThen_enter, outThen_ret, wantedV_none, opDo, eval_tmp, eval_func, get_putN, Nat.reduceEqDiff, reduceIte, nxVal_some, callTo, callV, List.nil_append, List.append_nil, Nat.add_zero, evals, evB, doNilCheck_ptr, fa274_0, cst_40_42, hs, call31, cf236, l0]
          exact rfl
        case k32 =>
        refine wp_cond false (by simp only [eval_tmp, get_putN, Nat.reduceEqDiff, reduceIte]) (fun h => by cases h) (fun _ => ?_)
        repeat refine wp_seq ?_
        obtain ⟨_, _, call33, rfl, rfl⟩ := startsW hb (by omega) hq [42, 41] (fun z hz => by simp at hz; omega) gq
        have call33 := ca_rec call33
        refine wp_region (t' := ?t34) (ds' := ?d34) (up' := ?u34) (s' := ?s34) (by kernel_rfl) ?h34 ?k34
        case h34 =>
          simp only [runOps_cons, ops_nil, opThen_true, nxThen_val, nxThen_enter, outThen_ret, wantedV_none, opDo, eval_tmp, eval_func, get_putN, Nat.reduceEqDiff, reduceIte, nxVal_some, callTo, callV, List.nil_append, List.append_nil, Nat.add_zero, evals, evB, doNilCheck_ptr, fa274_0, cst_42_41, hs2, call33, cf236, l0]
          exact rfl
        case k34 =>
        refine wp_cond false (by simp only [eval_tmp, get_putN, Nat.reduceEqDiff, reduceIte]) (fun h => by cases h) (fun _ => ?_)
        have hw35 : IntKind.wrap .i64 (((q : Nat) : Int) + 1) = ((q + 1 : Nat) : Int) := by have := wrap_in (((q : Nat) : Int) + 1) ⟨by omega, by omega⟩; omega
        have hm36 := hm.put 0 rfl (B' := .cells e sb nv [⟨0, 0, [.str l, .int .i64 ((q + 1 : Nat) : Int), .map mm, cm]⟩]) (fun _ h => by cases h)
        simp only [List.set_cons_zero] at hm36
        refine wp_region (t' := ?t37) (ds' := ?d37) (up' := ?u37) (s' := ?s37) (by kernel_rfl) ?h37 ?k37
        case h37 =>
          simp only [nxSkip_some, doLoad_ptr, doStore_ptr, runOps_cons, ops_nil, opThen_true, nxThen_val, nxThen_skip, wantedV_none, opDo, eval_tmp, eval_int, get_putN, putD_none, Nat.reduceEqDiff, reduceIte, nxVal_some, Nat.zero_add, Nat.add_zero, evB, List.getElem?_cons_zero, List.getElem?_cons_succ, doBin, guardOk, isEq, cond_true, cond_false, binOpV, isShift, sameKind, decide_true, intOp, doNilCheck_ptr, fa274_0, fa271_1, lv3, ld1 gq, mkInt_eq, hw35, sv3 _ _ (.int .i64 ((q + 1 : Nat) : Int)) rfl, st1 gq 1 [.int .i64 ((q + 1 : Nat) : Int)] (rfl) rfl, l0]
          exact rfl
        case k37 =>
        have hm := hm36
        generalize hs37 : S.put s1 fs _ = s38 at hm ⊢
        have g39 := hm.at 0 rfl
        refine wp_inBlock ?_
        refine wp_inBlock ?_
        refine hnext _ _ _ (by omega) ⟨q + 1, o, rfl, by omega, .inr (by omega), hm, ?_, ?_, ?_⟩
        · simp only [get_putN, Nat.reduceEqDiff, reduceIte, l0] <;> rfl
        · simp only [get_putN, Nat.reduceEqDiff, reduceIte, l2] <;> rfl
        · simp only [get_putN, Nat.reduceEqDiff, reduceIte, l3] <;> rfl
end Go.AI.Lx
