/- What the functions answer in the evaluator: part 4. No conditions beyond those of the row. -/
import Derived.Test.YtkeaedhoaamfnaaGreatDoorL3
import Derived.Test.YtkeaedhoaamfnaaGreatDoorA10
set_option linter.unusedVariables false
set_option linter.unusedSimpArgs false
noncomputable section
/- Walks that may end in a panic: texts. -/
namespace Go.AI.Lx
open Go.Proofs Go.Proofs.YtkeaedhoaamfnaaGreatDoor
theorem doExtract_tuple (l : List V) (i : Nat) : doExtract (some (.tuple l)) i = l[i]? := rfl
theorem slice_lh {l : List Nat} {a b : Nat} (h1 : b ≤ l.length) (h2 : a ≤ b) : doSlice Tryz.prog 9 (some (.str l)) (some (some (.int .i64 ((a : Nat) : Int)))) (some (some (.int .i64 ((b : Nat) : Int)))) (some none) = some (.str ((l.drop a).take (b - a))) := by
  simp only [doSlice, sliceV, Tryz.underlying9, bndV, natOf, Nat.ble_eq_true_of_le h1, Nat.ble_eq_true_of_le h2, Bool.and_self, cond_true]
theorem slice_l {l : List Nat} {a : Nat} (h2 : a ≤ l.length) : doSlice Tryz.prog 9 (some (.str l)) (some (some (.int .i64 ((a : Nat) : Int)))) (some none) (some none) = some (.str (l.drop a)) := by
  simp only [doSlice, sliceV, Tryz.underlying9, bndV, natOf, Nat.ble_eq_true_of_le h2, Nat.ble_eq_true_of_le (Nat.le_refl l.length), Bool.and_self, cond_true]
  rw [List.take_of_length_le (by rw [List.length_drop]; omega)]
theorem slice_h {l : List Nat} {b : Nat} (h1 : b ≤ l.length) : doSlice Tryz.prog 9 (some (.str l)) (some none) (some (some (.int .i64 ((b : Nat) : Int)))) (some none) = some (.str (l.take b)) := by
  simp only [doSlice, sliceV, Tryz.underlying9, bndV, natOf, Nat.ble_eq_true_of_le h1, Nat.ble_eq_true_of_le (Nat.zero_le b), Bool.and_self, cond_true]
  simp
end Go.AI.Lx
namespace Go.AI.Lx
abbrev bSmall := Go.Proofs.YtkeaedhoaamfnaaGreatDoor.small
abbrev bGreat := Go.Proofs.YtkeaedhoaamfnaaGreatDoor.great
abbrev bDigit := Go.Proofs.YtkeaedhoaamfnaaGreatDoor.digit
abbrev bPart := Go.Proofs.YtkeaedhoaamfnaaGreatDoor.part
abbrev bSpace := Go.Proofs.YtkeaedhoaamfnaaGreatDoor.space
end Go.AI.Lx
/- A text that begins with another. -/
namespace Go.AI.Lx
open Go.Proofs Go.Proofs.YtkeaedhoaamfnaaGreatDoor
set_option maxRecDepth 10000
set_option maxHeartbeats 2000000
def pref (l p : List Nat) : Bool := decide (p.length ≤ l.length) && decide (l.take p.length = p)
theorem strEq_dec : ∀ {a b : List Nat}, Bytes a → Bytes b → strEq a b = some (decide (a = b))
  | [], [], _, _ => rfl
  | [], _ :: _, _, _ => by simp [strEq]
  | _ :: _, [], _, _ => by simp [strEq]
  | x :: a, y :: b, ha, hb => by
    have ih := strEq_dec (a := a) (b := b) (fun z hz => ha z (List.mem_cons_of_mem _ hz)) (fun z hz => hb z (List.mem_cons_of_mem _ hz))
    have h1 : Nat.blt x 256 = true := by have := ha x (by simp); simp [Nat.blt]; omega
    have h2 : Nat.blt y 256 = true := by have := hb y (by simp); simp [Nat.blt]; omega
    simp only [strEq, ih, h1, h2, Bool.and_self, cond_true]
    by_cases h : x = y
    · subst h; simp
    · have : Nat.beq x y = false := by
        cases hb : Nat.beq x y with
        | false => rfl
        | true => exact absurd (Nat.eq_of_beq_eq_true hb) h
      simp [this, h]
theorem hasPre (l p : List Nat) (hl : Bytes l) (hp : Bytes p) (hn : l.length < 4611686018427387904) (s : S) :
    Cw envB 286 [.str l, .str p] s fun v s' => v = .bool (pref l p) ∧ s = s' := by
  refine cw_enter (fn := Tryz.f286) rfl Tryz.func286 rfl (by kernel_rfl) ?_
  rw [initT_cons, initT_cons, initT_nil]
  by_cases h1 : p.length ≤ l.length
  · have c1 : decide (((l.length : Nat) : Int) ≥ ((p.length : Nat) : Int)) = true := by simp; omega
    have c2 := strEq_dec (a := l.take p.length) (b := p) (fun z hz => hl z (List.mem_of_mem_take hz)) hp
    repeat refine wp_seq ?_
    refine wp_region (t' := ?t1) (ds' := ?d1) (up' := ?u1) (s' := ?s1) (by kernel_rfl) ?h1 ?k1
    case h1 =>
      simp only [runOps_cons, ops_nil, opThen_true, nxThen_val, wantedV_none, opDo, eval_bool, nxVal_some, Nat.zero_add]
      exact rfl
    case k1 =>
    repeat refine wp_seq ?_
    have hsl2a : p.length ≤ l.length := by first | omega | exact Nat.le_refl _
    have hsl2b : 0 ≤ p.length := by omega
    refine wp_region (t' := ?t3) (ds' := ?d3) (up' := ?u3) (s' := ?s3) (by kernel_rfl) ?h3 ?k3
    case h3 =>
      simp only [runOps_cons, ops_nil, opThen_true, nxThen_val, wantedV_none, wantedV_some, guardV_some, guardB_bool, opDo, eval_tmp, get_putN, Nat.reduceEqDiff, reduceIte, nxVal_some, callTo, callB, doPick, bTT, evals, evB, List.getElem?_toArray, List.getElem?_cons_zero, List.getElem?_cons_succ, Option.bind, doBin, guardOk, isEq, cond_true, cond_false, binOpV, isShift, sameKind, decide_true, intOp, Option.map, len_str, c1, slice_h hsl2a, evalO, strOp, c2]
      exact rfl
    case k3 =>
    refine wp_ret1 (.bool (decide ((l.take p.length) = p))) 4 rfl (by simp only [get_putN, Nat.reduceEqDiff, reduceIte]) ⟨by simp [pref, h1], rfl⟩
  · have c1 : decide (((l.length : Nat) : Int) ≥ ((p.length : Nat) : Int)) = false := by simp; omega
    repeat refine wp_seq ?_
    refine wp_region (t' := ?t4) (ds' := ?d4) (up' := ?u4) (s' := ?s4) (by kernel_rfl) ?h4 ?k4
    case h4 =>
      simp only [runOps_cons, ops_nil, opThen_true, nxThen_val, wantedV_none, opDo, eval_bool, nxVal_some, Nat.zero_add]
      exact rfl
    case k4 =>
    repeat refine wp_seq ?_
    refine wp_region (t' := ?t5) (ds' := ?d5) (up' := ?u5) (s' := ?s5) (by kernel_rfl) ?h5 ?k5
    case h5 =>
      simp only [runOps_cons, ops_nil, opThen_true, opThen_false, nxThen_val, wantedV_none, wantedV_some, guardV_some, guardB_bool, opDo, eval_tmp, eval_bool, get_putN, Nat.reduceEqDiff, reduceIte, nxVal_some, callTo, callB, doPick, bFT, evals, evB, List.getElem?_toArray, List.getElem?_cons_zero, List.getElem?_cons_succ, Option.bind, doBin, guardOk, isEq, cond_true, cond_false, binOpV, isShift, sameKind, decide_true, intOp, len_str, c1]
      exact rfl
    case k5 =>
    refine wp_ret1 (.bool false) 4 rfl (by simp only [get_putN, Nat.reduceEqDiff, reduceIte]) ⟨by simp [pref, h1], rfl⟩
end Go.AI.Lx
/- Bytes of a kind in a row; a text at a place. -/
namespace Go.AI.Lx
open Go.Proofs Go.Proofs.YtkeaedhoaamfnaaGreatDoor
theorem cf271 (args : List V) (s : S) : callF envB 271 args s = some (.enter 271 args s) := by kernel_rfl
theorem cf286 (args : List V) (s : S) : callF envB 286 args s = some (.enter 286 args s) := by kernel_rfl
set_option maxRecDepth 10000
set_option maxHeartbeats 2000000
theorem hasPre2 (l p : List Nat) (hl : Bytes l) (hp : Bytes p) (hn : l.length < 4611686018427387904) (s : S) :
    Cw envB 271 [.str l, .str p] s fun v s' => v = .bool (pref l p) ∧ s = s' := by
  refine cw_enter (fn := Tryz.f271) rfl Tryz.func271 rfl (by kernel_rfl) ?_
  rw [initT_cons, initT_cons, initT_nil]
  repeat refine wp_seq ?_
  refine wp_region (t' := ?t1) (ds' := ?d1) (up' := ?u1) (s' := ?s1) (by kernel_rfl) ?h1 ?k1
  case h1 =>
    simp only [runOps_cons, ops_nil, opThen_true, nxThen_val, wantedV_none, opDo, eval_bool, nxVal_some, Nat.zero_add]
    exact rfl
  case k1 =>
  repeat refine wp_seq ?_
  obtain ⟨_, _, call2, rfl, rfl⟩ := hasPre l p hl hp hn s
  have call2 := ca_rec call2
  refine wp_region (t' := ?t3) (ds' := ?d3) (up' := ?u3) (s' := ?s3) (by kernel_rfl) ?h3 ?k3
  case h3 =>
    simp only [runOps_cons, ops_nil, opThen_true, nxThen_val, nxThen_enter, outThen_ret, wantedV_none, opDo, eval_tmp, eval_func, get_putN, Nat.reduceEqDiff, reduceIte, nxVal_some, callTo, callV, List.nil_append, List.append_nil, evals, call2, cf286]
    exact rfl
  case k3 =>
  refine wp_ret1 (.bool (pref l p)) 4 rfl (by simp only [get_putN, Nat.reduceEqDiff, reduceIte]) ⟨rfl, rfl⟩
theorem startsW {fs : Nat} {e : TypeId} {sb : Bool} {nv : Nat} {l : List Nat} {p : Nat} {rest : List V} (hb : Bytes l) (hl : l.length < 4611686018427387904) (hp : p ≤ l.length) (q : List Nat) (hq : Bytes q) {s : S} (hg : s.get fs = some (.cells e sb nv [⟨0, 0, .str l :: .int .i64 ((p : Nat) : Int) :: rest⟩])) :
    Cw envB 236 [.ptr ⟨fs, 0, 0⟩, .str q] s fun v s' => v = .bool (pref (l.drop p) q) ∧ s = s' := by
  refine cw_enter (fn := Tryz.f236) rfl Tryz.func236 rfl (by kernel_rfl) ?_
  rw [initT_cons, initT_cons, initT_nil]
  repeat refine wp_seq ?_
  refine wp_region (t' := ?t1) (ds' := ?d1) (up' := ?u1) (s' := ?s1) (by kernel_rfl) ?h1 ?k1
  case h1 =>
    simp only [runOps_cons, ops_nil, opThen_true, nxThen_val, wantedV_none, opDo, eval_bool, nxVal_some, Nat.zero_add]
    exact rfl
  case k1 =>
  repeat refine wp_seq ?_
  have hsl2a : l.length ≤ l.length := by first | omega | exact Nat.le_refl _
  have hsl2b : p ≤ l.length := by omega
  obtain ⟨_, _, call3, rfl, rfl⟩ := hasPre2 (l.drop p) q (fun z hz => hb z (List.mem_of_mem_drop hz)) hq (by rw [List.length_drop]; omega) s
  have call3 := ca_rec call3
  refine wp_sch (t' := ?t4) (ds' := ?d4) (up' := ?u4) (s' := ?s4) [(some 1, 0), (some 1, 1), (some 1, 2), (some 1, 3), (some 1, 4), (some 1, 5), (some 1, 6), (some 1, 7), (some 1, 8), (some 1, 9), (none, 10), (some 1, 11)] (by kernel_rfl) (by kernel_rfl) ?h4 ?k4
  case h4 =>
    simp only [runSch_nil, runSch_f, runSch_e, runSchK_eq, runSchE_eq, schFloat_some, schThen_some, schEff_some, schEThen_some, schNext_true, floatStep1_true, effStep_true, effDo_enter, effEnd_ret, floatDo1_0, floatDo1_1, valOnly_val, readBoth_some, readTo_val, readAll_one, opKind, List.take_succ_cons, List.take_zero, List.take_nil, ble_self, doLoad_ptr, wantedV_none, opDo, eval_tmp, eval_func, get_putN, Nat.reduceEqDiff, reduceIte, nxVal_some, callTo, callV, List.nil_append, List.append_nil, Nat.zero_add, Nat.add_zero, evals, evB, List.getElem?_toArray, List.getElem?_cons_zero, List.getElem?_cons_succ, doNilCheck_ptr, fa271_0, lv9, ld1 hg, fa271_1, lv3, slice_l hsl2b, evalO, ble_self, call3, cf271]
    exact rfl
  case k4 =>
  refine wp_ret1 (.bool (pref (l.drop p) q)) 4 rfl (by simp only [get_putN, Nat.reduceEqDiff, reduceIte]) ⟨rfl, rfl⟩
def runN (q : Nat → Bool) (l : List Nat) (i : Nat) : Nat := ((l.drop i).takeWhile q).length
theorem runN_end (q : Nat → Bool) {l : List Nat} {i : Nat} (h : l.length ≤ i) : runN q l i = 0 := by simp [runN, List.drop_eq_nil_of_le h]
theorem runN_step {q : Nat → Bool} {l : List Nat} {i c : Nat} (h : l[i]? = some c) : runN q l i = if q c = true then runN q l (i + 1) + 1 else 0 := by
  have hlt := (List.getElem?_eq_some_iff.1 h).1
  have hc := (List.getElem?_eq_some_iff.1 h).2
  unfold runN
  rw [List.drop_eq_getElem_cons hlt, hc, List.takeWhile_cons]
  split <;> rfl
theorem runN_le (q : Nat → Bool) (l : List Nat) (i : Nat) (h : i ≤ l.length) : i + runN q l i ≤ l.length := by
  unfold runN
  have := (List.takeWhile_sublist q (l := l.drop i)).length_le
  rw [List.length_drop] at this
  omega
theorem runW {g : FuncId} {q : Nat → Bool} (hgq : findByte byteFn g = some q) (hcf : ∀ args s, callF envB g args s = some (.enter g args s)) {fs : Nat} {e : TypeId} {sb : Bool} {nv : Nat} {l : List Nat} {p k : Nat} {rest : List V} (hb : Bytes l) (hl : l.length < 4611686018427387904) (hk : p + k ≤ l.length) {s : S} (hg : s.get fs = some (.cells e sb nv [⟨0, 0, .str l :: .int .i64 ((p : Nat) : Int) :: rest⟩])) :
    Cw envB 234 [.ptr ⟨fs, 0, 0⟩, .int .i64 ((k : Nat) : Int), .func (.func g) [] []] s fun v s' => v = .int .i64 ((runN q l (p + k) : Nat) : Int) ∧ s = s' := by
  refine cw_enter (fn := Tryz.f234) rfl Tryz.func234 rfl (by kernel_rfl) ?_
  rw [initT_cons, initT_cons, initT_cons, initT_nil]
  repeat refine wp_seq ?_
  refine wp_region (t' := ?t1) (ds' := ?d1) (up' := ?u1) (s' := ?s1) (by kernel_rfl) ?h1 ?k1
  case h1 =>
    simp only [runOps_cons, ops_nil, opThen_true, nxThen_val, wantedV_none, opDo, eval_int, nxVal_some, Nat.zero_add, Nat.reduceAdd]
    exact rfl
  case k1 =>
  repeat refine wp_seq ?_
  refine wp_region (t' := ?t2) (ds' := ?d2) (up' := ?u2) (s' := ?s2) (by kernel_rfl) ?h2 ?k2
  case h2 =>
    simp only [runOps_cons, ops_nil, opThen_true, nxThen_val, wantedV_none, opDo, eval_int, nxVal_some]
    exact rfl
  case k2 =>
  repeat refine wp_seq ?_
  refine wp_block ?_
  refine wp_loop_inv (fun j t s1 => ∃ (n : Nat), j = l.length - (p + k + n) ∧ p + k + n ≤ l.length ∧ runN q l (p + k) = n + runN q l (p + k + n) ∧ s = s1 ∧ t.get (pth 0) = some (.ptr ⟨fs, 0, 0⟩) ∧ t.get (pth 1) = some (.int .i64 ((k : Nat) : Int)) ∧ t.get (pth 2) = some (.func (.func g) [] []) ∧ t.get (pth 6) = some (.int .i64 0) ∧ t.get (pth 7) = some (.int .i64 ((n : Nat) : Int))) ?_ _ _ _ ⟨0, rfl, hk, by simp, rfl, ?_, ?_, ?_, ?_, ?_⟩
  rotate_left
  · simp only [get_putN, Nat.reduceEqDiff, reduceIte] <;> rfl
  · simp only [get_putN, Nat.reduceEqDiff, reduceIte] <;> rfl
  · simp only [get_putN, Nat.reduceEqDiff, reduceIte] <;> rfl
  · simp only [get_putN, Nat.reduceEqDiff, reduceIte] <;> rfl
  · simp only [get_putN, Nat.reduceEqDiff, reduceIte] <;> rfl
  rintro j t s1 ⟨n, hj, hn, hr, rfl, l0, l1, l2, l6, l7⟩ hnext
  by_cases hlt : p + k + n < l.length
  · have c1 : decide (((p + k + n : Nat) : Int) < ((l.length : Nat) : Int)) = true := by simp; omega
    obtain ⟨x, hx⟩ : ∃ x, l[p + k + n]? = some x := ⟨_, List.getElem?_eq_getElem hlt⟩
    have hxx : l[p + k + n]? = some x ∧ x < 256 := ⟨hx, hb.at hx⟩
    have hrs := runN_step (q := q) hx
    repeat refine wp_seq ?_
    have hw3 : IntKind.wrap .i64 (((p : Nat) : Int) + ((k : Nat) : Int)) = ((p + k : Nat) : Int) := by have := wrap_in (((p : Nat) : Int) + ((k : Nat) : Int)) ⟨by omega, by omega⟩; omega
    have hw4 : IntKind.wrap .i64 (((p + k : Nat) : Int) + ((n : Nat) : Int)) = ((p + k + n : Nat) : Int) := by have := wrap_in (((p + k : Nat) : Int) + ((n : Nat) : Int)) ⟨by omega, by omega⟩; omega
    have call5 := byteCall hgq hxx.2 s
    refine wp_sch (t' := ?t6) (ds' := ?d6) (up' := ?u6) (s' := ?s6) [(some 1, 0), (some 1, 1), (some 1, 2), (some 1, 3), (some 1, 4), (some 1, 5), (some 1, 6), (some 1, 7), (some 1, 8), (some 1, 9), (some 1, 10), (some 1, 11), (some 1, 12), (some 1, 13), (some 1, 14), (some 1, 15), (some 1, 16), (some 1, 17), (some 1, 18), (some 1, 19), (some 1, 20), (some 1, 21), (some 1, 22), (some 1, 23), (some 1, 24), (some 1, 25), (some 1, 26), (some 1, 27), (some 1, 28), (none, 29), (some 1, 30)] (by kernel_rfl) (by kernel_rfl) ?h6 ?k6
    case h6 =>
      simp only [runSch_nil, runSch_f, runSch_e, runSchK_eq, runSchE_eq, schFloat_some, schThen_some, schEff_some, schEThen_some, schNext_true, floatStep1_true, effStep_true, effDo_enter, effEnd_ret, floatDo1_0, floatDo1_1, valOnly_val, readBoth_some, readTo_val, readAll_one, opKind, List.take_succ_cons, List.take_zero, List.take_nil, ble_self, doLoad_ptr, natOf_cast, wantedV_none, wantedV_some, guardV_some, guardB_bool, opDo, eval_tmp, get_putN, Nat.reduceEqDiff, reduceIte, nxVal_some, callTo, callB, callV, doPick, bTT, List.nil_append, List.append_nil, Nat.zero_add, Nat.add_zero, evals, evB, List.getElem?_toArray, List.getElem?_cons_zero, List.getElem?_cons_succ, Option.bind, doBin, guardOk, isEq, cond_true, cond_false, binOpV, isShift, sameKind, decide_true, intOp, doNilCheck_ptr, fa271_1, lv3, ld1 hg, mkInt_eq, hw3, hw4, fa271_0, lv9, len_str, c1, natOf_cast, idx_str hxx, ble_self, call5, hcf, l0, l1, l2, l7]
      exact rfl
    case k6 =>
    refine wp_cond (q x) (by simp only [eval_tmp, get_putN, Nat.reduceEqDiff, reduceIte]) (fun hd => ?_) (fun hd => ?_)
    · rw [if_pos hd] at hrs
      refine wp_skip ?_
      refine wp_block ?_
      have hw7 : IntKind.wrap .i64 (((n : Nat) : Int) + 1) = ((n + 1 : Nat) : Int) := by have := wrap_in (((n : Nat) : Int) + 1) ⟨by omega, by omega⟩; omega
      refine wp_region (t' := ?t8) (ds' := ?d8) (up' := ?u8) (s' := ?s8) (by kernel_rfl) ?h8 ?k8
      case h8 =>
        simp only [runOps_cons, ops_nil, opThen_true, nxThen_val, wantedV_none, opDo, eval_tmp, eval_int, get_putN, Nat.reduceEqDiff, reduceIte, nxVal_some, doBin, guardOk, isEq, cond_true, cond_false, binOpV, isShift, sameKind, decide_true, intOp, mkInt_eq, hw7, l7]
        exact rfl
      case k8 =>
      refine wp_inBlock ?_
      refine hnext _ _ _ (by omega) ⟨n + 1, rfl, by omega, by rw [hr, hrs, show p + k + (n + 1) = p + k + n + 1 by omega]; omega, rfl, ?_, ?_, ?_, ?_, ?_⟩
      · simp only [get_putN, Nat.reduceEqDiff, reduceIte, l0] <;> rfl
      · simp only [get_putN, Nat.reduceEqDiff, reduceIte, l1] <;> rfl
      · simp only [get_putN, Nat.reduceEqDiff, reduceIte, l2] <;> rfl
      · simp only [get_putN, Nat.reduceEqDiff, reduceIte, l6] <;> rfl
      · simp only [get_putN, Nat.reduceEqDiff, reduceIte, l7] <;> rfl
    · have hd2 : ¬ (q x = true) := by rw [hd]; exact Bool.false_ne_true
      rw [if_neg hd2] at hrs
      refine wp_exit rfl ?_
      repeat refine wp_seq ?_
      refine wp_region (t' := ?t9) (ds' := ?d9) (up' := ?u9) (s' := ?s9) (by kernel_rfl) ?h9 ?k9
      case h9 =>
        simp only [runOps_cons, ops_nil, opThen_true, nxThen_val, wantedV_none, opDo, eval_tmp, get_putN, Nat.reduceEqDiff, reduceIte, nxVal_some, l7]
        exact rfl
      case k9 =>
      refine wp_ret1 (.int .i64 ((n : Nat) : Int)) 6 rfl (by simp only [get_putN, Nat.reduceEqDiff, reduceIte]) ⟨by rw [hr, hrs, Nat.add_zero], rfl⟩
  · have c1 : decide (((p + k + n : Nat) : Int) < ((l.length : Nat) : Int)) = false := by simp; omega
    repeat refine wp_seq ?_
    have hw10 : IntKind.wrap .i64 (((p : Nat) : Int) + ((k : Nat) : Int)) = ((p + k : Nat) : Int) := by have := wrap_in (((p : Nat) : Int) + ((k : Nat) : Int)) ⟨by omega, by omega⟩; omega
    have hw11 : IntKind.wrap .i64 (((p + k : Nat) : Int) + ((n : Nat) : Int)) = ((p + k + n : Nat) : Int) := by have := wrap_in (((p + k : Nat) : Int) + ((n : Nat) : Int)) ⟨by omega, by omega⟩; omega
    refine wp_sch (t' := ?t12) (ds' := ?d12) (up' := ?u12) (s' := ?s12) [(some 1, 0), (some 1, 1), (some 1, 2), (some 1, 3), (some 1, 4), (some 1, 5), (some 1, 6), (some 1, 7), (some 1, 8), (some 1, 9), (some 1, 10), (some 1, 11), (some 1, 12), (some 1, 13), (some 1, 14), (some 1, 15), (some 1, 16), (some 1, 17), (some 1, 18), (some 1, 19), (some 1, 20), (some 1, 21), (some 1, 22), (some 1, 23), (some 1, 24), (some 1, 25), (some 1, 26), (some 1, 27), (some 1, 28), (none, 29), (some 1, 30)] (by kernel_rfl) (by kernel_rfl) ?h12 ?k12
    case h12 =>
      simp only [runSch_nil, runSch_f, runSch_e, runSchK_eq, runSchE_eq, schFloat_some, schThen_some, schEff_some, schEThen_some, schNext_true, floatStep1_true, floatStep1_false, effStep_false, floatDo1_0, floatDo1_1, valOnly_val, readBoth_some, readTo_val, readAll_one, opKind, List.take_succ_cons, List.take_zero, List.take_nil, ble_self, doLoad_ptr, wantedV_none, wantedV_some, guardV_some, guardB_bool, opDo, eval_tmp, eval_bool, get_putN, Nat.reduceEqDiff, reduceIte, nxVal_some, callTo, callB, doPick, bFT, Nat.zero_add, Nat.add_zero, evals, evB, List.getElem?_toArray, List.getElem?_cons_zero, List.getElem?_cons_succ, Option.bind, doBin, guardOk, isEq, cond_true, cond_false, binOpV, isShift, sameKind, decide_true, intOp, doNilCheck_ptr, fa271_1, lv3, ld1 hg, mkInt_eq, hw10, hw11, fa271_0, lv9, len_str, c1, l0, l1, l7]
      exact rfl
    case k12 =>
    refine wp_cond false (by simp only [eval_tmp, get_putN, Nat.reduceEqDiff, reduceIte]) (fun h => by cases h) (fun _ => ?_)
    refine wp_exit rfl ?_
    repeat refine wp_seq ?_
    refine wp_region (t' := ?t13) (ds' := ?d13) (up' := ?u13) (s' := ?s13) (by kernel_rfl) ?h13 ?k13
    case h13 =>
      simp only [runOps_cons, ops_nil, opThen_true, nxThen_val, wantedV_none, opDo, eval_tmp, get_putN, Nat.reduceEqDiff, reduceIte, nxVal_some, l7]
      exact rfl
    case k13 =>
    refine wp_ret1 (.int .i64 ((n : Nat) : Int)) 6 rfl (by simp only [get_putN, Nat.reduceEqDiff, reduceIte]) ⟨by rw [hr, runN_end q (by omega), Nat.add_zero], rfl⟩
end Go.AI.Lx
/- A token is made. -/
namespace Go.AI.Lx
open Go.Proofs Go.Proofs.YtkeaedhoaamfnaaGreatDoor
theorem ty_size117 : size Tryz.prog 117 = some 4 := by kernel_rfl
theorem ty_agg117 : isAggT Tryz.prog 117 = some true := by kernel_rfl
theorem al117 (s : S) : doAlloc Tryz.prog s 117 = some (.val (.ptr ⟨s.next, 0, 0⟩) (s.alloc (.cells 117 false 1 [⟨0, 0, [.int .i64 0, .int .i64 0, .str [], .int .i64 0]⟩]))) := by kernel_rfl
theorem lv117 (s : S) (a : Ad) : loadVar Tryz.prog s 117 a = (loadCells s a 4).map .agg := by simp only [loadVar, ty_agg117, ty_size117, Option.bind]
theorem sv117 (s : S) (a : Ad) (l : List V) (h : l.length = 4) : storeVar Tryz.prog s 117 a (.agg l) = storeCells s a l := by
  simp only [storeVar, ty_size117, V.cells, h]; rfl
theorem fa117_0 (f v c : Nat) : doFieldAddr Tryz.prog 117 (some (.ptr ⟨f, v, c⟩)) 0 = some (.ptr ⟨f, v, c + 0⟩) := by kernel_rfl
theorem fa117_1 (f v c : Nat) : doFieldAddr Tryz.prog 117 (some (.ptr ⟨f, v, c⟩)) 1 = some (.ptr ⟨f, v, c + 1⟩) := by kernel_rfl
theorem fa117_2 (f v c : Nat) : doFieldAddr Tryz.prog 117 (some (.ptr ⟨f, v, c⟩)) 2 = some (.ptr ⟨f, v, c + 2⟩) := by kernel_rfl
theorem fa117_3 (f v c : Nat) : doFieldAddr Tryz.prog 117 (some (.ptr ⟨f, v, c⟩)) 3 = some (.ptr ⟨f, v, c + 3⟩) := by kernel_rfl
theorem fa274_0 (f v c : Nat) : doFieldAddr Tryz.prog 274 (some (.ptr ⟨f, v, c⟩)) 0 = some (.ptr ⟨f, v, c + 0⟩) := by kernel_rfl
theorem fa274_1 (f v c : Nat) : doFieldAddr Tryz.prog 274 (some (.ptr ⟨f, v, c⟩)) 1 = some (.ptr ⟨f, v, c + 2⟩) := by kernel_rfl
theorem fa274_2 (f v c : Nat) : doFieldAddr Tryz.prog 274 (some (.ptr ⟨f, v, c⟩)) 2 = some (.ptr ⟨f, v, c + 3⟩) := by kernel_rfl
set_option maxRecDepth 10000
set_option maxHeartbeats 2000000
theorem madeW {fs : Nat} {e : TypeId} {sb : Bool} {nv : Nat} {l : List Nat} {p n : Nat} {rest : List V} (kind : Int) (hl : l.length ≤ 24) (hn : p + n ≤ l.length) {s : S} (hw : WF s) (hg : s.get fs = some (.cells e sb nv [⟨0, 0, .str l :: .int .i64 ((p : Nat) : Int) :: rest⟩])) :
    Cw envB 244 [.ptr ⟨fs, 0, 0⟩, .int .i64 kind, .int .i64 ((n : Nat) : Int)] s fun v s' => v = .agg [.int .i64 kind, .int .i64 0, .str ((l.drop p).take n), .int .i64 ((p : Nat) : Int)] ∧ Fw [] s s' := by
  refine cw_enter (fn := Tryz.f244) rfl Tryz.func244 rfl (by kernel_rfl) ?_
  rw [initT_cons, initT_cons, initT_cons, initT_nil]
  have hm := Me.start (F := []) hw
  have c1 : decide (((n : Nat) : Int) > 24) = false := by simp; omega
  have hpn : p + n - p = n := by omega
  repeat refine wp_seq ?_
  have hm1 := hm.alloc (B := .cells 117 false 1 [⟨0, 0, [.int .i64 0, .int .i64 0, .str [], .int .i64 0]⟩]) (fun _ h => by cases h)
  refine wp_region (t' := ?t2) (ds' := ?d2) (up' := ?u2) (s' := ?s2) (by kernel_rfl) ?h2 ?k2
  case h2 =>
    simp only [runOps_cons, ops_nil, opThen_true, nxThen_val, wantedV_none, opDo, Nat.zero_add, Nat.reduceAdd, evB, al117]
    exact rfl
  case k2 =>
  have hm := hm1
  generalize hs2 : S.alloc s _ = s3 at hm ⊢
  generalize hf4 : S.next s = f4 at hm ⊢
  have g5 := hm.at 0 rfl
  have g6 := hm.fw.keep fs _ (by simp) hg
  repeat refine wp_seq ?_
  refine wp_region (t' := ?t7) (ds' := ?d7) (up' := ?u7) (s' := ?s7) (by kernel_rfl) ?h7 ?k7
  case h7 =>
    simp only [runOps_cons, ops_nil, opThen_true, nxThen_val, wantedV_none, opDo, eval_tmp, eval_int, get_putN, Nat.reduceEqDiff, reduceIte, nxVal_some, doBin, guardOk, isEq, cond_true, cond_false, binOpV, isShift, sameKind, decide_true, intOp, c1]
    exact rfl
  case k7 =>
  refine wp_cond false (by simp only [eval_tmp, get_putN, Nat.reduceEqDiff, reduceIte]) (fun h => by cases h) (fun _ => ?_)
  refine wp_skip ?_
  repeat refine wp_seq ?_
  have hw8 : IntKind.wrap .i64 (((p : Nat) : Int) + ((n : Nat) : Int)) = ((p + n : Nat) : Int) := by have := wrap_in (((p : Nat) : Int) + ((n : Nat) : Int)) ⟨by omega, by omega⟩; omega
  have hsl9a : p + n ≤ l.length := by first | omega | exact Nat.le_refl _
  have hsl9b : p ≤ p + n := by omega
  have bd10_244 : doBuild Tryz.prog 117 (some [(0, .int .i64 kind), (2, .str ((l.drop p).take (p + n - p))), (3, .int .i64 ((p : Nat) : Int))]) = some (.agg [.int .i64 kind, .int .i64 0, .str ((l.drop p).take (p + n - p)), .int .i64 ((p : Nat) : Int)]) := by rfl
  have hm11 := hm.put 0 rfl (B' := .cells 117 false 1 [⟨0, 0, [.int .i64 kind, .int .i64 0, .str ((l.drop p).take (p + n - p)), .int .i64 ((p : Nat) : Int)]⟩]) (fun _ h => by cases h)
  simp only [List.set_cons_zero] at hm11
  refine wp_sch (t' := ?t12) (ds' := ?d12) (up' := ?u12) (s' := ?s12) [(some 1, 0), (some 1, 1), (some 1, 2), (some 1, 3), (some 1, 4), (some 1, 5), (some 1, 6), (some 1, 7), (some 1, 8), (some 1, 9), (some 1, 10), (some 1, 11), (some 1, 12), (some 1, 13), (some 1, 14), (some 1, 15), (some 1, 16), (some 1, 17), (some 1, 18), (some 1, 19), (some 1, 20), (some 1, 21), (some 1, 22), (some 1, 23), (some 1, 24), (none, 25)] (by kernel_rfl) (by kernel_rfl) ?h12 ?k12
  case h12 =>
    simp only [runSch_nil, runSch_f, runSch_e, runSchK_eq, runSchE_eq, schFloat_some, schThen_some, schEff_some, schEThen_some, schNext_true, floatStep1_true, effStep_true, effDo_skip, floatDo1_0, floatDo1_1, valOnly_val, readBoth_some, readTo_val, readAll_one, opKind, List.take_succ_cons, List.take_nil, ble_put, nxSkip_some, doLoad_ptr, doStore_ptr, wantedV_none, opDo, eval_tmp, get_putN, putD_none, Nat.reduceEqDiff, reduceIte, nxVal_some, Nat.zero_add, Nat.add_zero, evB, List.getElem?_toArray, List.getElem?_cons_zero, List.getElem?_cons_succ, doBin, guardOk, isEq, cond_true, cond_false, binOpV, isShift, sameKind, decide_true, intOp, doNilCheck_ptr, fa274_0, fa271_0, lv9, ld1 g6, fa271_1, lv3, mkInt_eq, hw8, slice_lh hsl9a hsl9b, evalO, evalsO, bd10_244, sv117 _ _ [.int .i64 kind, .int .i64 0, .str ((l.drop p).take (p + n - p)), .int .i64 ((p : Nat) : Int)] rfl, st1 g5 0 [.int .i64 kind, .int .i64 0, .str ((l.drop p).take (p + n - p)), .int .i64 ((p : Nat) : Int)] (rfl) rfl]
    exact rfl
  case k12 =>
  have hm := hm11
  generalize hs12 : S.put s3 f4 _ = s13 at hm ⊢
  have g14 := hm.at 0 rfl
  have g15 := hm.fw.keep fs _ (by simp) hg
  refine wp_retc1 (.agg [.int .i64 kind, .int .i64 0, .str ((l.drop p).take (p + n - p)), .int .i64 ((p : Nat) : Int)]) 6 ⟨f4, 0, 0⟩ 117 rfl (by simp only [get_putN, Nat.reduceEqDiff, reduceIte]) (by rw [evB, lv117, ldn g14]; rfl) ⟨by rw [hpn], hm.fw⟩
end Go.AI.Lx
/- The words. -/
namespace Go.AI.Lx
open Go.Proofs Go.Proofs.YtkeaedhoaamfnaaGreatDoor
set_option maxRecDepth 10000
set_option maxHeartbeats 2000000
/-- The words. -/
def words : List (List Nat) := [[97, 110, 100], [99, 97, 115, 101], [100, 97, 116, 97], [101, 108, 115, 101], [101, 110, 100], [102, 110], [102, 117, 110], [105, 102], [105, 110], [105, 110, 112, 117, 116], [108, 101, 116], [111, 102], [111, 117, 116, 112, 117, 116], [116, 104, 101, 110], [118, 97, 108]]
def wordEnts : List (List Nat) → Nat → List Ent
  | [], _ => []
  | w :: r, n => ⟨.str w, .int .i64 5, n⟩ :: wordEnts r (n + 1)
theorem find_word {ok : V → V → Option Bool} (hok : ∀ a b, Bytes a → Bytes b → ok (.str a) (.str b) = some (decide (a = b))) {x : List Nat} (hx : Bytes x) : ∀ (ws : List (List Nat)) (n : Nat), (∀ w ∈ ws, Bytes w) → findKeyV ok (.str x) (wordEnts ws n) = some (if x ∈ ws then some (.int .i64 5) else none)
  | [], n, _ => by simp [wordEnts, findKeyV]
  | w :: r, n, h => by
    have ih := find_word hok hx r (n + 1) (fun z hz => h z (List.mem_cons_of_mem _ hz))
    simp only [wordEnts, findKeyV, ih, hok x w hx (h w (by simp))]
    by_cases hw : x = w
    · subst hw; simp [findKeyV.foundKey]
    · simp [findKeyV.foundKey, hw]
def nameLen (l : List Nat) (p : Nat) : Nat :=
  if peekN l (p + runN bPart l p) = 39 ∧ 0 < runN bDigit l (p + runN bPart l p + 1) then runN bPart l p + (1 + runN bDigit l (p + runN bPart l p + 1)) else runN bPart l p
end Go.AI.Lx
/- Names and words. -/
namespace Go.AI.Lx
open Go.Proofs Go.Proofs.YtkeaedhoaamfnaaGreatDoor
theorem ty_agg86 : isAggT Tryz.prog 86 = some false := by kernel_rfl
theorem lv86 (s : S) (a : Ad) : loadVar Tryz.prog s 86 a = loadCell s a := by simp only [loadVar, ty_agg86]
theorem cf234 (args : List V) (s : S) : callF envB 234 args s = some (.enter 234 args s) := by kernel_rfl
theorem cf238 (args : List V) (s : S) : callF envB 238 args s = some (.enter 238 args s) := by kernel_rfl
theorem cf239 (args : List V) (s : S) : callF envB 239 args s = some (.enter 239 args s) := by kernel_rfl
theorem cf244 (args : List V) (s : S) : callF envB 244 args s = some (.enter 244 args s) := by kernel_rfl
theorem cf245 (args : List V) (s : S) : callF envB 245 args s = some (.enter 245 args s) := by kernel_rfl
set_option maxRecDepth 10000
set_option maxHeartbeats 2000000
theorem words_bytes : ∀ w ∈ words, Bytes w := by
  intro w hw b hb
  simp only [words, List.mem_cons, List.mem_nil_iff, or_false] at hw
  rcases hw with rfl | rfl | rfl | rfl | rfl | rfl | rfl | rfl | rfl | rfl | rfl | rfl | rfl | rfl | rfl <;> simp only [List.mem_cons, List.mem_nil_iff, or_false] at hb <;> omega
theorem eqlAt_str (s : S) (a b : List Nat) (ha : Bytes a) (hb : Bytes b) : eqlAt Tryz.prog (plainAt s) 20 9 (.str a) (.str b) = some (decide (a = b)) := by
  simp only [eqlAt, Tryz.underlying9, strEq_dec ha hb]
theorem simple9 : simpleKey Tryz.prog 9 = true := by kernel_rfl
theorem zero3 : found Tryz.prog 3 true (some none) = some (.tuple [.int .i64 0, .bool false]) := by kernel_rfl
theorem found3 (v : V) : found Tryz.prog 3 true (some (some v)) = some (.tuple [v, .bool true]) := by rfl
theorem look_word {s : S} {mm n0 clk : Nat} (hm : s.get mm = some (.map (wordEnts words n0) clk)) {x : List Nat} (hx : Bytes x) :
    doLookup Tryz.prog s 86 (some (.map mm)) (some (.str x)) true = some (.tuple [.int .i64 (if x ∈ words then 5 else 0), .bool (decide (x ∈ words))]) := by
  simp only [doLookup, Tryz.underlying86, entsOf, hm, simple9, cond_true, find_word (fun a b ha hb => eqlAt_str s a b ha hb) hx words n0 words_bytes]
  by_cases h : x ∈ words
  · simp only [h, if_true, found3, decide_true]
  · simp only [h, if_false, zero3, decide_false]
/-- The kind of a name. -/
def nameKind (x : List Nat) (kind : Int) : Int := if x ∈ words then 5 else kind
theorem nameLen_le (l : List Nat) (p : Nat) (h : p ≤ l.length) : p + nameLen l p ≤ l.length := by
  have h1 := runN_le bPart l p h
  unfold nameLen
  split
  · rename_i hc
    have h3 : p + runN bPart l p < l.length := by
      rcases Nat.lt_or_ge (p + runN bPart l p) l.length with h | h
      · exact h
      · have := hc.1
        unfold peekN at this
        rw [List.getElem?_eq_none h] at this
        cases this
    have h2 := runN_le bDigit l (p + runN bPart l p + 1) (by omega)
    omega
  · exact h1
theorem nameW {fs : Nat} {e : TypeId} {sb : Bool} {nv : Nat} {l : List Nat} {p : Nat} {mm n0 clk : Nat} {cm : V} (kind : Int) (hb : Bytes l) (hl : l.length ≤ 24) (hp : p ≤ l.length) {s : S} (hw : WF s)
    (hg : s.get fs = some (.cells e sb nv [⟨0, 0, [.str l, .int .i64 ((p : Nat) : Int), .map mm, cm]⟩])) (hmm : s.get mm = some (.map (wordEnts words n0) clk)) :
    Cw envB 242 [.ptr ⟨fs, 0, 0⟩, .int .i64 kind] s fun v s' => v = .agg [.int .i64 (nameKind ((l.drop p).take (nameLen l p)) kind), .int .i64 0, .str ((l.drop p).take (nameLen l p)), .int .i64 ((p : Nat) : Int)] ∧ Fw [] s s' := by
  refine cw_enter (fn := Tryz.f242) rfl Tryz.func242 rfl (by kernel_rfl) ?_
  rw [initT_cons, initT_cons, initT_nil]
  have hm := Me.start (F := []) hw
  have hr1 := runN_le bPart l p hp
  have hnl := nameLen_le l p hp
  repeat refine wp_seq ?_
  have hm1 := hm.alloc (B := .cells 117 false 1 [⟨0, 0, [.int .i64 0, .int .i64 0, .str [], .int .i64 0]⟩]) (fun _ h => by cases h)
  refine wp_region (t' := ?t2) (ds' := ?d2) (up' := ?u2) (s' := ?s2) (by kernel_rfl) ?h2 ?k2
  case h2 =>
    simp only [runOps_cons, ops_nil, opThen_true, nxThen_val, wantedV_none, opDo, Nat.zero_add, evB, al117]
    exact rfl
  case k2 =>
  have hm := hm1
  generalize hs2 : S.alloc s _ = s3 at hm ⊢
  generalize hf4 : S.next s = f4 at hm ⊢
  have g5 := hm.at 0 rfl
  have g6 := hm.fw.keep fs _ (by simp) hg
  have g7 := hm.fw.keep mm _ (by simp) hmm
  repeat refine wp_seq ?_
  obtain ⟨_, _, call8, rfl, rfl⟩ := runW (g := 245) (q := bPart) rfl cf245 (k := 0) hb (by omega) (by omega) g6
  have call8 := ca_rec call8
  rw [show ((0 : Nat) : Int) = 0 from rfl] at call8
  refine wp_region (t' := ?t9) (ds' := ?d9) (up' := ?u9) (s' := ?s9) (by kernel_rfl) ?h9 ?k9
  case h9 =>
    simp only [runOps_cons, ops_nil, opThen_true, nxThen_val, nxThen_enter, outThen_ret, wantedV_none, opDo, eval_tmp, eval_int, eval_func, get_putN, Nat.reduceEqDiff, reduceIte, nxVal_some, callTo, callV, List.nil_append, List.append_nil, Nat.add_zero, evals, evB, doNilCheck_ptr, fa274_0, call8, cf234]
    exact rfl
  case k9 =>
  repeat refine wp_seq ?_
  obtain ⟨_, _, call10, rfl, rfl⟩ := peekW (k := (runN bPart l p)) hb (by omega) (by omega) (by omega) g6
  have call10 := ca_rec call10
  refine wp_region (t' := ?t11) (ds' := ?d11) (up' := ?u11) (s' := ?s11) (by kernel_rfl) ?h11 ?k11
  case h11 =>
    simp only [runOps_cons, ops_nil, opThen_true, nxThen_val, nxThen_enter, outThen_ret, wantedV_none, opDo, eval_tmp, eval_int, eval_func, get_putN, Nat.reduceEqDiff, reduceIte, nxVal_some, callTo, callV, List.nil_append, List.append_nil, Nat.add_zero, evals, evB, doBin, guardOk, isEq, cond_true, cond_false, binOpV, isShift, sameKind, decide_true, intOp, doNilCheck_ptr, fa274_0, call10, cf238]
    exact rfl
  case k11 =>
  refine wp_cond (((peekN l (p + runN bPart l p) : Nat) : Int) == 39) (by simp only [eval_tmp, get_putN, Nat.reduceEqDiff, reduceIte]) (fun h39 => ?_) (fun h39 => ?_)
  · have h39 : peekN l (p + runN bPart l p) = 39 := by
      have h : ((peekN l (p + runN bPart l p) : Nat) : Int) = 39 := by simpa using h39
      omega
    have h3 : p + runN bPart l p < l.length := by
      rcases Nat.lt_or_ge (p + runN bPart l p) l.length with h | h
      · exact h
      · unfold peekN at h39
        rw [List.getElem?_eq_none h] at h39
        cases h39
    have hr2 := runN_le bDigit l (p + runN bPart l p + 1) (by omega)
    have hpa : p + (runN bPart l p + 1) = p + runN bPart l p + 1 := by omega
    repeat refine wp_seq ?_
    have hw12 : IntKind.wrap .i64 (((runN bPart l p : Nat) : Int) + 1) = ((runN bPart l p + 1 : Nat) : Int) := by have := wrap_in (((runN bPart l p : Nat) : Int) + 1) ⟨by omega, by omega⟩; omega
    obtain ⟨_, _, call13, rfl, rfl⟩ := runW (g := 239) (q := bDigit) rfl cf239 (k := (runN bPart l p + 1)) hb (by omega) (by omega) g6
    have call13 := ca_rec call13
    refine wp_region (t' := ?t14) (ds' := ?d14) (up' := ?u14) (s' := ?s14) (by kernel_rfl) ?h14 ?k14
    case h14 =>
      simp only [runOps_cons, ops_nil, opThen_true, nxThen_val, nxThen_enter, outThen_ret, wantedV_none, opDo, eval_tmp, eval_int, eval_func, get_putN, Nat.reduceEqDiff, reduceIte, nxVal_some, callTo, callV, List.nil_append, List.append_nil, Nat.add_zero, evals, evB, doBin, guardOk, isEq, cond_true, cond_false, binOpV, isShift, sameKind, decide_true, intOp, doNilCheck_ptr, fa274_0, mkInt_eq, hw12, call13, cf234, hpa]
      exact rfl
    case k14 =>
    repeat refine wp_seq ?_
    refine wp_region (t' := ?t15) (ds' := ?d15) (up' := ?u15) (s' := ?s15) (by kernel_rfl) ?h15 ?k15
    case h15 =>
      simp only [runOps_cons, ops_nil, opThen_true, nxThen_val, wantedV_none, opDo, eval_tmp, eval_int, get_putN, Nat.reduceEqDiff, reduceIte, nxVal_some, doBin, guardOk, isEq, cond_true, cond_false, binOpV, isShift, sameKind, decide_true, intOp]
      exact rfl
    case k15 =>
    refine wp_cond (decide (((runN bDigit l (p + runN bPart l p + 1) : Nat) : Int) > 0)) (by simp only [eval_tmp, get_putN, Nat.reduceEqDiff, reduceIte]) (fun h0 => ?_) (fun h0 => ?_)
    · have h0 : 0 < runN bDigit l (p + runN bPart l p + 1) := by have := of_decide_eq_true h0; omega
      have hN : nameLen l p = runN bPart l p + (1 + runN bDigit l (p + runN bPart l p + 1)) := by unfold nameLen; rw [if_pos ⟨h39, h0⟩]
      have hw16 : IntKind.wrap .i64 (1 + ((runN bDigit l (p + runN bPart l p + 1) : Nat) : Int)) = ((1 + (runN bDigit l (p + runN bPart l p + 1)) : Nat) : Int) := by have := wrap_in (1 + ((runN bDigit l (p + runN bPart l p + 1) : Nat) : Int)) ⟨by omega, by omega⟩; omega
      have hw17 : IntKind.wrap .i64 (((runN bPart l p : Nat) : Int) + ((1 + (runN bDigit l (p + runN bPart l p + 1)) : Nat) : Int)) = ((runN bPart l p + (1 + (runN bDigit l (p + runN bPart l p + 1))) : Nat) : Int) := by have := wrap_in (((runN bPart l p : Nat) : Int) + ((1 + (runN bDigit l (p + runN bPart l p + 1)) : Nat) : Int)) ⟨by omega, by omega⟩; omega
      refine wp_region (t' := ?t18) (ds' := ?d18) (up' := ?u18) (s' := ?s18) (by kernel_rfl) ?h18 ?k18
      case h18 =>
        simp only [runOps_cons, ops_nil, opThen_true, nxThen_val, wantedV_none, opDo, eval_tmp, eval_int, get_putN, Nat.reduceEqDiff, reduceIte, nxVal_some, doBin, guardOk, isEq, cond_true, cond_false, binOpV, isShift, sameKind, decide_true, intOp, mkInt_eq, hw16, hw17]
        exact rfl
      case k18 =>
      have hbx : Bytes ((l.drop p).take (runN bPart l p + (1 + runN bDigit l (p + runN bPart l p + 1)))) := fun z hz => hb z (List.mem_of_mem_drop (List.mem_of_mem_take hz))
      by_cases hword : ((l.drop p).take (runN bPart l p + (1 + runN bDigit l (p + runN bPart l p + 1)))) ∈ words
      · have kd : nameKind ((l.drop p).take (runN bPart l p + (1 + runN bDigit l (p + runN bPart l p + 1)))) kind = 5 := if_pos hword
        repeat refine wp_seq ?_
        obtain ⟨_, u19, call19, rfl, fw19⟩ := madeW (p := p) (n := runN bPart l p + (1 + runN bDigit l (p + runN bPart l p + 1))) kind hl (by omega) hm.wf g6
        have call19 := ca_rec call19
        have hm20 := hm.call fw19
        have hm21 := hm20.alloc (B := .cells 117 false 1 [⟨0, 0, [.int .i64 0, .int .i64 0, .str [], .int .i64 0]⟩]) (fun _ h => by cases h)
        have g22 := hm21.at 0 rfl
        have hm23 := hm21.put 0 rfl (B' := .cells 117 false 1 [⟨0, 0, [.int .i64 kind, .int .i64 0, .str ((l.drop p).take (runN bPart l p + (1 + runN bDigit l (p + runN bPart l p + 1)))), .int .i64 ((p : Nat) : Int)]⟩]) (fun _ h => by cases h)
        simp only [List.set_cons_zero] at hm23
        refine wp_region (t' := ?t24) (ds' := ?d24) (up' := ?u24) (s' := ?s24) (by kernel_rfl) ?h24 ?k24
        case h24 =>
          simp only [nxSkip_some, doStore_ptr, runOps_cons, ops_nil, opThen_true, nxThen_val, nxThen_skip, nxThen_enter, outThen_ret, wantedV_none, opDo, eval_tmp, eval_func, get_putN, putD_none, Nat.reduceEqDiff, reduceIte, nxVal_some, callTo, callV, List.nil_append, List.append_nil, evals, evB, call19, cf244, al117, sv117 _ _ [.int .i64 kind, .int .i64 0, .str ((l.drop p).take (runN bPart l p + (1 + runN bDigit l (p + runN bPart l p + 1)))), .int .i64 ((p : Nat) : Int)] rfl, st1 g22 0 [.int .i64 kind, .int .i64 0, .str ((l.drop p).take (runN bPart l p + (1 + runN bDigit l (p + runN bPart l p + 1)))), .int .i64 ((p : Nat) : Int)] (rfl) rfl]
          exact rfl
        case k24 =>
        have hm := hm23
        generalize hs24 : S.put (S.alloc u19 _) _ _ = s25 at hm ⊢
        generalize hf26 : S.next u19 = f26 at hm ⊢
        have g27 := hm.at 0 rfl
        have g28 := hm.at 1 rfl
        have g29 := hm.fw.keep fs _ (by simp) hg
        have g30 := hm.fw.keep mm _ (by simp) hmm
        repeat refine wp_seq ?_
        refine wp_sch (t' := ?t31) (ds' := ?d31) (up' := ?u31) (s' := ?s31) [(some 1, 0), (some 1, 1), (some 1, 2), (some 1, 3), (some 1, 4), (some 1, 5), (some 1, 6), (some 1, 7), (some 1, 8), (some 1, 9), (some 1, 10), (some 1, 11)] (by kernel_rfl) (by kernel_rfl) ?h31 ?k31
        case h31 =>
          simp only [runSch_nil, runSch_f, runSchK_eq, schFloat_some, schThen_some, floatStep1_true, floatDo1_0, floatDo1_1, valOnly_val, readBoth_some, readTo_val, readAll_one, opKind, List.take_succ_cons, List.take_nil, doLoad_ptr, wantedV_none, opDo, eval_tmp, get_putN, Nat.reduceEqDiff, reduceIte, nxVal_some, Nat.zero_add, evB, List.getElem?_toArray, List.getElem?_cons_zero, List.getElem?_cons_succ, decide_true, look_word g30 hbx, hword, if_true, decide_true, doNilCheck_ptr, fa274_1, lv86, ld1 g29, fa117_2, lv9, ld1 g27, doExtract_tuple]
          exact rfl
        case k31 =>
        repeat refine wp_seq ?_
        refine wp_region (t' := ?t32) (ds' := ?d32) (up' := ?u32) (s' := ?s32) (by kernel_rfl) ?h32 ?k32
        case h32 =>
          simp only [runOps_cons, ops_nil, opThen_true, nxThen_val, wantedV_none, opDo, eval_tmp, get_putN, Nat.reduceEqDiff, reduceIte, nxVal_some]
          exact rfl
        case k32 =>
        refine wp_cond true (by simp only [eval_tmp, get_putN, Nat.reduceEqDiff, reduceIte]) (fun _ => ?_) (fun h => by cases h)
        have hm33 := hm.put 0 rfl (B' := .cells 117 false 1 [⟨0, 0, [.int .i64 5, .int .i64 0, .str ((l.drop p).take (runN bPart l p + (1 + runN bDigit l (p + runN bPart l p + 1)))), .int .i64 ((p : Nat) : Int)]⟩]) (fun _ h => by cases h)
        simp only [List.set_cons_zero] at hm33
        refine wp_region (t' := ?t34) (ds' := ?d34) (up' := ?u34) (s' := ?s34) (by kernel_rfl) ?h34 ?k34
        case h34 =>
          simp only [nxSkip_some, doStore_ptr, runOps_cons, ops_nil, opThen_true, nxThen_val, nxThen_skip, wantedV_none, opDo, eval_tmp, get_putN, putD_none, Nat.reduceEqDiff, reduceIte, nxVal_some, Nat.add_zero, evB, fa117_0, sv3 _ _ (.int .i64 5) rfl, st1 g27 0 [.int .i64 5] (rfl) rfl]
          exact rfl
        case k34 =>
        have hm := hm33
        generalize hs34 : S.put s25 f26 _ = s35 at hm ⊢
        have g36 := hm.at 0 rfl
        have g37 := hm.at 1 rfl
        have g38 := hm.fw.keep fs _ (by simp) hg
        have g39 := hm.fw.keep mm _ (by simp) hmm
        repeat refine wp_seq ?_
        have hm40 := hm.put 1 rfl (B' := .cells 117 false 1 [⟨0, 0, [.int .i64 5, .int .i64 0, .str ((l.drop p).take (runN bPart l p + (1 + runN bDigit l (p + runN bPart l p + 1)))), .int .i64 ((p : Nat) : Int)]⟩]) (fun _ h => by cases h)
        simp only [List.set_cons_succ, List.set_cons_zero] at hm40
        refine wp_region (t' := ?t41) (ds' := ?d41) (up' := ?u41) (s' := ?s41) (by kernel_rfl) ?h41 ?k41
        case h41 =>
          simp only [nxSkip_some, doLoad_ptr, doStore_ptr, runOps_cons, ops_nil, opThen_true, nxThen_val, nxThen_skip, wantedV_none, opDo, eval_tmp, get_putN, putD_none, Nat.reduceEqDiff, reduceIte, nxVal_some, evB, Option.map, lv117, ldn g36, List.drop_zero, takeExact, Option.map, sv117 _ _ [.int .i64 5, .int .i64 0, .str ((l.drop p).take (runN bPart l p + (1 + runN bDigit l (p + runN bPart l p + 1)))), .int .i64 ((p : Nat) : Int)] rfl, st1 g37 0 [.int .i64 5, .int .i64 0, .str ((l.drop p).take (runN bPart l p + (1 + runN bDigit l (p + runN bPart l p + 1)))), .int .i64 ((p : Nat) : Int)] (rfl) rfl]
          exact rfl
        case k41 =>
        have hm := hm40
        generalize hs41 : S.put s35 f4 _ = s42 at hm ⊢
        have g43 := hm.at 0 rfl
        have g44 := hm.at 1 rfl
        have g45 := hm.fw.keep fs _ (by simp) hg
        have g46 := hm.fw.keep mm _ (by simp) hmm
        refine wp_retc1 (.agg [.int .i64 5, .int .i64 0, .str ((l.drop p).take (runN bPart l p + (1 + runN bDigit l (p + runN bPart l p + 1)))), .int .i64 ((p : Nat) : Int)]) 4 ⟨f4, 0, 0⟩ 117 rfl (by simp only [get_putN, Nat.reduceEqDiff, reduceIte]) (by rw [evB, lv117, ldn g44]; rfl) ⟨by rw [hN, kd], hm.fw⟩
      · have kd : nameKind ((l.drop p).take (runN bPart l p + (1 + runN bDigit l (p + runN bPart l p + 1)))) kind = kind := if_neg hword
        repeat refine wp_seq ?_
        obtain ⟨_, u47, call47, rfl, fw47⟩ := madeW (p := p) (n := runN bPart l p + (1 + runN bDigit l (p + runN bPart l p + 1))) kind hl (by omega) hm.wf g6
        have call47 := ca_rec call47
        have hm48 := hm.call fw47
        have hm49 := hm48.alloc (B := .cells 117 false 1 [⟨0, 0, [.int .i64 0, .int .i64 0, .str [], .int .i64 0]⟩]) (fun _ h => by cases h)
        have g50 := hm49.at 0 rfl
        have hm51 := hm49.put 0 rfl (B' := .cells 117 false 1 [⟨0, 0, [.int .i64 kind, .int .i64 0, .str ((l.drop p).take (runN bPart l p + (1 + runN bDigit l (p + runN bPart l p + 1)))), .int .i64 ((p : Nat) : Int)]⟩]) (fun _ h => by cases h)
        simp only [List.set_cons_zero] at hm51
        refine wp_region (t' := ?t52) (ds' := ?d52) (up' := ?u52) (s' := ?s52) (by kernel_rfl) ?h52 ?k52
        case h52 =>
          simp only [nxSkip_some, doStore_ptr, runOps_cons, ops_nil, opThen_true, nxThen_val, nxThen_skip, nxThen_enter, outThen_ret, wantedV_none, opDo, eval_tmp, eval_func, get_putN, putD_none, Nat.reduceEqDiff, reduceIte, nxVal_some, callTo, callV, List.nil_append, List.append_nil, evals, evB, call47, cf244, al117, sv117 _ _ [.int .i64 kind, .int .i64 0, .str ((l.drop p).take (runN bPart l p + (1 + runN bDigit l (p + runN bPart l p + 1)))), .int .i64 ((p : Nat) : Int)] rfl, st1 g50 0 [.int .i64 kind, .int .i64 0, .str ((l.drop p).take (runN bPart l p + (1 + runN bDigit l (p + runN bPart l p + 1)))), .int .i64 ((p : Nat) : Int)] (rfl) rfl]
          exact rfl
        case k52 =>
        have hm := hm51
        generalize hs52 : S.put (S.alloc u47 _) _ _ = s53 at hm ⊢
        generalize hf54 : S.next u47 = f54 at hm ⊢
        have g55 := hm.at 0 rfl
        have g56 := hm.at 1 rfl
        have g57 := hm.fw.keep fs _ (by simp) hg
        have g58 := hm.fw.keep mm _ (by simp) hmm
        repeat refine wp_seq ?_
        refine wp_sch (t' := ?t59) (ds' := ?d59) (up' := ?u59) (s' := ?s59) [(some 1, 0), (some 1, 1), (some 1, 2), (some 1, 3), (some 1, 4), (some 1, 5), (some 1, 6), (some 1, 7), (some 1, 8), (some 1, 9), (some 1, 10), (some 1, 11)] (by kernel_rfl) (by kernel_rfl) ?h59 ?k59
        case h59 =>
          simp only [runSch_nil, runSch_f, runSchK_eq, schFloat_some, schThen_some, floatStep1_true, floatDo1_0, floatDo1_1, valOnly_val, readBoth_some, readTo_val, readAll_one, opKind, List.take_succ_cons, List.take_nil, doLoad_ptr, wantedV_none, opDo, eval_tmp, get_putN, Nat.reduceEqDiff, reduceIte, nxVal_some, Nat.zero_add, evB, List.getElem?_toArray, List.getElem?_cons_zero, List.getElem?_cons_succ, look_word g58 hbx, hword, if_false, decide_false, doNilCheck_ptr, fa274_1, lv86, ld1 g57, fa117_2, lv9, ld1 g55, doExtract_tuple]
          exact rfl
        case k59 =>
        repeat refine wp_seq ?_
        refine wp_region (t' := ?t60) (ds' := ?d60) (up' := ?u60) (s' := ?s60) (by kernel_rfl) ?h60 ?k60
        case h60 =>
          simp only [runOps_cons, ops_nil, opThen_true, nxThen_val, wantedV_none, opDo, eval_tmp, get_putN, Nat.reduceEqDiff, reduceIte, nxVal_some]
          exact rfl
        case k60 =>
        refine wp_cond false (by simp only [eval_tmp, get_putN, Nat.reduceEqDiff, reduceIte]) (fun h => by cases h) (fun _ => ?_)
        refine wp_skip ?_
        repeat refine wp_seq ?_
        have hm61 := hm.put 1 rfl (B' := .cells 117 false 1 [⟨0, 0, [.int .i64 kind, .int .i64 0, .str ((l.drop p).take (runN bPart l p + (1 + runN bDigit l (p + runN bPart l p + 1)))), .int .i64 ((p : Nat) : Int)]⟩]) (fun _ h => by cases h)
        simp only [List.set_cons_succ, List.set_cons_zero] at hm61
        refine wp_region (t' := ?t62) (ds' := ?d62) (up' := ?u62) (s' := ?s62) (by kernel_rfl) ?h62 ?k62
        case h62 =>
          simp only [nxSkip_some, doLoad_ptr, doStore_ptr, runOps_cons, ops_nil, opThen_true, nxThen_val, nxThen_skip, wantedV_none, opDo, eval_tmp, get_putN, putD_none, Nat.reduceEqDiff, reduceIte, nxVal_some, evB, Option.map, lv117, ldn g55, List.drop_zero, takeExact, Option.map, sv117 _ _ [.int .i64 kind, .int .i64 0, .str ((l.drop p).take (runN bPart l p + (1 + runN bDigit l (p + runN bPart l p + 1)))), .int .i64 ((p : Nat) : Int)] rfl, st1 g56 0 [.int .i64 kind, .int .i64 0, .str ((l.drop p).take (runN bPart l p + (1 + runN bDigit l (p + runN bPart l p + 1)))), .int .i64 ((p : Nat) : Int)] (rfl) rfl]
          exact rfl
        case k62 =>
        have hm := hm61
        generalize hs62 : S.put s53 f4 _ = s63 at hm ⊢
        have g64 := hm.at 0 rfl
        have g65 := hm.at 1 rfl
        have g66 := hm.fw.keep fs _ (by simp) hg
        have g67 := hm.fw.keep mm _ (by simp) hmm
        refine wp_retc1 (.agg [.int .i64 kind, .int .i64 0, .str ((l.drop p).take (runN bPart l p + (1 + runN bDigit l (p + runN bPart l p + 1)))), .int .i64 ((p : Nat) : Int)]) 4 ⟨f4, 0, 0⟩ 117 rfl (by simp only [get_putN, Nat.reduceEqDiff, reduceIte]) (by rw [evB, lv117, ldn g65]; rfl) ⟨by rw [hN, kd], hm.fw⟩
    · have h0 : ¬ 0 < runN bDigit l (p + runN bPart l p + 1) := by have := of_decide_eq_false h0; omega
      have hN : nameLen l p = runN bPart l p := by unfold nameLen; rw [if_neg (fun h => h0 h.2)]
      have hbx : Bytes ((l.drop p).take (runN bPart l p)) := fun z hz => hb z (List.mem_of_mem_drop (List.mem_of_mem_take hz))
      by_cases hword : ((l.drop p).take (runN bPart l p)) ∈ words
      · have kd : nameKind ((l.drop p).take (runN bPart l p)) kind = 5 := if_pos hword
        refine wp_skip ?_
        repeat refine wp_seq ?_
        obtain ⟨_, u68, call68, rfl, fw68⟩ := madeW (p := p) (n := runN bPart l p) kind hl (by omega) hm.wf g6
        have call68 := ca_rec call68
        have hm69 := hm.call fw68
        have hm70 := hm69.alloc (B := .cells 117 false 1 [⟨0, 0, [.int .i64 0, .int .i64 0, .str [], .int .i64 0]⟩]) (fun _ h => by cases h)
        have g71 := hm70.at 0 rfl
        have hm72 := hm70.put 0 rfl (B' := .cells 117 false 1 [⟨0, 0, [.int .i64 kind, .int .i64 0, .str ((l.drop p).take (runN bPart l p)), .int .i64 ((p : Nat) : Int)]⟩]) (fun _ h => by cases h)
        simp only [List.set_cons_zero] at hm72
        refine wp_region (t' := ?t73) (ds' := ?d73) (up' := ?u73) (s' := ?s73) (by kernel_rfl) ?h73 ?k73
        case h73 =>
          simp only [nxSkip_some, doStore_ptr, runOps_cons, ops_nil, opThen_true, nxThen_val, nxThen_skip, nxThen_enter, outThen_ret, wantedV_none, opDo, eval_tmp, eval_func, get_putN, putD_none, Nat.reduceEqDiff, reduceIte, nxVal_some, callTo, callV, List.nil_append, List.append_nil, evals, evB, call68, cf244, al117, sv117 _ _ [.int .i64 kind, .int .i64 0, .str ((l.drop p).take (runN bPart l p)), .int .i64 ((p : Nat) : Int)] rfl, st1 g71 0 [.int .i64 kind, .int .i64 0, .str ((l.drop p).take (runN bPart l p)), .int .i64 ((p : Nat) : Int)] (rfl) rfl]
          exact rfl
        case k73 =>
        have hm := hm72
        generalize hs73 : S.put (S.alloc u68 _) _ _ = s74 at hm ⊢
        generalize hf75 : S.next u68 = f75 at hm ⊢
        have g76 := hm.at 0 rfl
        have g77 := hm.at 1 rfl
        have g78 := hm.fw.keep fs _ (by simp) hg
        have g79 := hm.fw.keep mm _ (by simp) hmm
        repeat refine wp_seq ?_
        refine wp_sch (t' := ?t80) (ds' := ?d80) (up' := ?u80) (s' := ?s80) [(some 1, 0), (some 1, 1), (some 1, 2), (some 1, 3), (some 1, 4), (some 1, 5), (some 1, 6), (some 1, 7), (some 1, 8), (some 1, 9), (some 1, 10), (some 1, 11)] (by kernel_rfl) (by kernel_rfl) ?h80 ?k80
        case h80 =>
          simp only [runSch_nil, runSch_f, runSchK_eq, schFloat_some, schThen_some, floatStep1_true, floatDo1_0, floatDo1_1, valOnly_val, readBoth_some, readTo_val, readAll_one, opKind, List.take_succ_cons, List.take_nil, doLoad_ptr, wantedV_none, opDo, eval_tmp, get_putN, Nat.reduceEqDiff, reduceIte, nxVal_some, Nat.zero_add, evB, List.getElem?_toArray, List.getElem?_cons_zero, List.getElem?_cons_succ, decide_true, look_word g79 hbx, hword, if_true, decide_true, doNilCheck_ptr, fa274_1, lv86, ld1 g78, fa117_2, lv9, ld1 g76, doExtract_tuple]
          exact rfl
        case k80 =>
        repeat refine wp_seq ?_
        refine wp_region (t' := ?t81) (ds' := ?d81) (up' := ?u81) (s' := ?s81) (by kernel_rfl) ?h81 ?k81
        case h81 =>
          simp only [runOps_cons, ops_nil, opThen_true, nxThen_val, wantedV_none, opDo, eval_tmp, get_putN, Nat.reduceEqDiff, reduceIte, nxVal_some]
          exact rfl
        case k81 =>
        refine wp_cond true (by simp only [eval_tmp, get_putN, Nat.reduceEqDiff, reduceIte]) (fun _ => ?_) (fun h => by cases h)
        have hm82 := hm.put 0 rfl (B' := .cells 117 false 1 [⟨0, 0, [.int .i64 5, .int .i64 0, .str ((l.drop p).take (runN bPart l p)), .int .i64 ((p : Nat) : Int)]⟩]) (fun _ h => by cases h)
        simp only [List.set_cons_zero] at hm82
        refine wp_region (t' := ?t83) (ds' := ?d83) (up' := ?u83) (s' := ?s83) (by kernel_rfl) ?h83 ?k83
        case h83 =>
          simp only [nxSkip_some, doStore_ptr, runOps_cons, ops_nil, opThen_true, nxThen_val, nxThen_skip, wantedV_none, opDo, eval_tmp, get_putN, putD_none, Nat.reduceEqDiff, reduceIte, nxVal_some, Nat.add_zero, evB, fa117_0, sv3 _ _ (.int .i64 5) rfl, st1 g76 0 [.int .i64 5] (rfl) rfl]
          exact rfl
        case k83 =>
        have hm := hm82
        generalize hs83 : S.put s74 f75 _ = s84 at hm ⊢
        have g85 := hm.at 0 rfl
        have g86 := hm.at 1 rfl
        have g87 := hm.fw.keep fs _ (by simp) hg
        have g88 := hm.fw.keep mm _ (by simp) hmm
        repeat refine wp_seq ?_
        have hm89 := hm.put 1 rfl (B' := .cells 117 false 1 [⟨0, 0, [.int .i64 5, .int .i64 0, .str ((l.drop p).take (runN bPart l p)), .int .i64 ((p : Nat) : Int)]⟩]) (fun _ h => by cases h)
        simp only [List.set_cons_succ, List.set_cons_zero] at hm89
        refine wp_region (t' := ?t90) (ds' := ?d90) (up' := ?u90) (s' := ?s90) (by kernel_rfl) ?h90 ?k90
        case h90 =>
          simp only [nxSkip_some, doLoad_ptr, doStore_ptr, runOps_cons, ops_nil, opThen_true, nxThen_val, nxThen_skip, wantedV_none, opDo, eval_tmp, get_putN, putD_none, Nat.reduceEqDiff, reduceIte, nxVal_some, evB, Option.map, lv117, ldn g85, List.drop_zero, takeExact, Option.map, sv117 _ _ [.int .i64 5, .int .i64 0, .str ((l.drop p).take (runN bPart l p)), .int .i64 ((p : Nat) : Int)] rfl, st1 g86 0 [.int .i64 5, .int .i64 0, .str ((l.drop p).take (runN bPart l p)), .int .i64 ((p : Nat) : Int)] (rfl) rfl]
          exact rfl
        case k90 =>
        have hm := hm89
        generalize hs90 : S.put s84 f4 _ = s91 at hm ⊢
        have g92 := hm.at 0 rfl
        have g93 := hm.at 1 rfl
        have g94 := hm.fw.keep fs _ (by simp) hg
        have g95 := hm.fw.keep mm _ (by simp) hmm
        refine wp_retc1 (.agg [.int .i64 5, .int .i64 0, .str ((l.drop p).take (runN bPart l p)), .int .i64 ((p : Nat) : Int)]) 4 ⟨f4, 0, 0⟩ 117 rfl (by simp only [get_putN, Nat.reduceEqDiff, reduceIte]) (by rw [evB, lv117, ldn g93]; rfl) ⟨by rw [hN, kd], hm.fw⟩
      · have kd : nameKind ((l.drop p).take (runN bPart l p)) kind = kind := if_neg hword
        refine wp_skip ?_
        repeat refine wp_seq ?_
        obtain ⟨_, u96, call96, rfl, fw96⟩ := madeW (p := p) (n := runN bPart l p) kind hl (by omega) hm.wf g6
        have call96 := ca_rec call96
        have hm97 := hm.call fw96
        have hm98 := hm97.alloc (B := .cells 117 false 1 [⟨0, 0, [.int .i64 0, .int .i64 0, .str [], .int .i64 0]⟩]) (fun _ h => by cases h)
        have g99 := hm98.at 0 rfl
        have hm100 := hm98.put 0 rfl (B' := .cells 117 false 1 [⟨0, 0, [.int .i64 kind, .int .i64 0, .str ((l.drop p).take (runN bPart l p)), .int .i64 ((p : Nat) : Int)]⟩]) (fun _ h => by cases h)
        simp only [List.set_cons_zero] at hm100
        refine wp_region (t' := ?t101) (ds' := ?d101) (up' := ?u101) (s' := ?s101) (by kernel_rfl) ?h101 ?k101
        case h101 =>
          simp only [nxSkip_some, doStore_ptr, runOps_cons, ops_nil, opThen_true, nxThen_val, nxThen_skip, nxThen_enter, outThen_ret, wantedV_none, opDo, eval_tmp, eval_func, get_putN, putD_none, Nat.reduceEqDiff, reduceIte, nxVal_some, callTo, callV, List.nil_append, List.append_nil, evals, evB, call96, cf244, al117, sv117 _ _ [.int .i64 kind, .int .i64 0, .str ((l.drop p).take (runN bPart l p)), .int .i64 ((p : Nat) : Int)] rfl, st1 g99 0 [.int .i64 kind, .int .i64 0, .str ((l.drop p).take (runN bPart l p)), .int .i64 ((p : Nat) : Int)] (rfl) rfl]
          exact rfl
        case k101 =>
        have hm := hm100
        generalize hs101 : S.put (S.alloc u96 _) _ _ = s102 at hm ⊢
        generalize hf103 : S.next u96 = f103 at hm ⊢
        have g104 := hm.at 0 rfl
        have g105 := hm.at 1 rfl
        have g106 := hm.fw.keep fs _ (by simp) hg
        have g107 := hm.fw.keep mm _ (by simp) hmm
        repeat refine wp_seq ?_
        refine wp_sch (t' := ?t108) (ds' := ?d108) (up' := ?u108) (s' := ?s108) [(some 1, 0), (some 1, 1), (some 1, 2), (some 1, 3), (some 1, 4), (some 1, 5), (some 1, 6), (some 1, 7), (some 1, 8), (some 1, 9), (some 1, 10), (some 1, 11)] (by kernel_rfl) (by kernel_rfl) ?h108 ?k108
        case h108 =>
          simp only [runSch_nil, runSch_f, runSchK_eq, schFloat_some, schThen_some, floatStep1_true, floatDo1_0, floatDo1_1, valOnly_val, readBoth_some, readTo_val, readAll_one, opKind, List.take_succ_cons, List.take_nil, doLoad_ptr, wantedV_none, opDo, eval_tmp, get_putN, Nat.reduceEqDiff, reduceIte, nxVal_some, Nat.zero_add, evB, List.getElem?_toArray, List.getElem?_cons_zero, List.getElem?_cons_succ, look_word g107 hbx, hword, if_false, decide_false, doNilCheck_ptr, fa274_1, lv86, ld1 g106, fa117_2, lv9, ld1 g104, doExtract_tuple]
          exact rfl
        case k108 =>
        repeat refine wp_seq ?_
        refine wp_region (t' := ?t109) (ds' := ?d109) (up' := ?u109) (s' := ?s109) (by kernel_rfl) ?h109 ?k109
        case h109 =>
          simp only [runOps_cons, ops_nil, opThen_true, nxThen_val, wantedV_none, opDo, eval_tmp, get_putN, Nat.reduceEqDiff, reduceIte, nxVal_some]
          exact rfl
        case k109 =>
        refine wp_cond false (by simp only [eval_tmp, get_putN, Nat.reduceEqDiff, reduceIte]) (fun h => by cases h) (fun _ => ?_)
        refine wp_skip ?_
        repeat refine wp_seq ?_
        have hm110 := hm.put 1 rfl (B' := .cells 117 false 1 [⟨0, 0, [.int .i64 kind, .int .i64 0, .str ((l.drop p).take (runN bPart l p)), .int .i64 ((p : Nat) : Int)]⟩]) (fun _ h => by cases h)
        simp only [List.set_cons_succ, List.set_cons_zero] at hm110
        refine wp_region (t' := ?t111) (ds' := ?d111) (up' := ?u111) (s' := ?s111) (by kernel_rfl) ?h111 ?k111
        case h111 =>
          simp only [nxSkip_some, doLoad_ptr, doStore_ptr, runOps_cons, ops_nil, opThen_true, nxThen_val, nxThen_skip, wantedV_none, opDo, eval_tmp, get_putN, putD_none, Nat.reduceEqDiff, reduceIte, nxVal_some, evB, Option.map, lv117, ldn g104, List.drop_zero, takeExact, Option.map, sv117 _ _ [.int .i64 kind, .int .i64 0, .str ((l.drop p).take (runN bPart l p)), .int .i64 ((p : Nat) : Int)] rfl, st1 g105 0 [.int .i64 kind, .int .i64 0, .str ((l.drop p).take (runN bPart l p)), .int .i64 ((p : Nat) : Int)] (rfl) rfl]
          exact rfl
        case k111 =>
        have hm := hm110
        generalize hs111 : S.put s102 f4 _ = s112 at hm ⊢
        have g113 := hm.at 0 rfl
        have g114 := hm.at 1 rfl
        have g115 := hm.fw.keep fs _ (by simp) hg
        have g116 := hm.fw.keep mm _ (by simp) hmm
        refine wp_retc1 (.agg [.int .i64 kind, .int .i64 0, .str ((l.drop p).take (runN bPart l p)), .int .i64 ((p : Nat) : Int)]) 4 ⟨f4, 0, 0⟩ 117 rfl (by simp only [get_putN, Nat.reduceEqDiff, reduceIte]) (by rw [evB, lv117, ldn g114]; rfl) ⟨by rw [hN, kd], hm.fw⟩
  · have h39 : ¬ peekN l (p + runN bPart l p) = 39 := by
      have h : ¬ ((peekN l (p + runN bPart l p) : Nat) : Int) = 39 := by simpa using h39
      omega
    have hN : nameLen l p = runN bPart l p := by unfold nameLen; rw [if_neg (fun h => h39 h.1)]
    have hbx : Bytes ((l.drop p).take (runN bPart l p)) := fun z hz => hb z (List.mem_of_mem_drop (List.mem_of_mem_take hz))
    by_cases hword : ((l.drop p).take (runN bPart l p)) ∈ words
    · have kd : nameKind ((l.drop p).take (runN bPart l p)) kind = 5 := if_pos hword
      refine wp_skip ?_
      repeat refine wp_seq ?_
      obtain ⟨_, u117, call117, rfl, fw117⟩ := madeW (p := p) (n := runN bPart l p) kind hl (by omega) hm.wf g6
      have call117 := ca_rec call117
      have hm118 := hm.call fw117
      have hm119 := hm118.alloc (B := .cells 117 false 1 [⟨0, 0, [.int .i64 0, .int .i64 0, .str [], .int .i64 0]⟩]) (fun _ h => by cases h)
      have g120 := hm119.at 0 rfl
      have hm121 := hm119.put 0 rfl (B' := .cells 117 false 1 [⟨0, 0, [.int .i64 kind, .int .i64 0, .str ((l.drop p).take (runN bPart l p)), .int .i64 ((p : Nat) : Int)]⟩]) (fun _ h => by cases h)
      simp only [List.set_cons_zero] at hm121
      refine wp_region (t' := ?t122) (ds' := ?d122) (up' := ?u122) (s' := ?s122) (by kernel_rfl) ?h122 ?k122
      case h122 =>
        simp only [nxSkip_some, doStore_ptr, runOps_cons, ops_nil, opThen_true, nxThen_val, nxThen_skip, nxThen_enter, outThen_ret, wantedV_none, opDo, eval_tmp, eval_func, get_putN, putD_none, Nat.reduceEqDiff, reduceIte, nxVal_some, callTo, callV, List.nil_append, List.append_nil, evals, evB, call117, cf244, al117, sv117 _ _ [.int .i64 kind, .int .i64 0, .str ((l.drop p).take (runN bPart l p)), .int .i64 ((p : Nat) : Int)] rfl, st1 g120 0 [.int .i64 kind, .int .i64 0, .str ((l.drop p).take (runN bPart l p)), .int .i64 ((p : Nat) : Int)] (rfl) rfl]
        exact rfl
      case k122 =>
      have hm := hm121
      generalize hs122 : S.put (S.alloc u117 _) _ _ = s123 at hm ⊢
      generalize hf124 : S.next u117 = f124 at hm ⊢
      have g125 := hm.at 0 rfl
      have g126 := hm.at 1 rfl
      have g127 := hm.fw.keep fs _ (by simp) hg
      have g128 := hm.fw.keep mm _ (by simp) hmm
      repeat refine wp_seq ?_
      refine wp_sch (t' := ?t129) (ds' := ?d129) (up' := ?u129) (s' := ?s129) [(some 1, 0), (some 1, 1), (some 1, 2), (some 1, 3), (some 1, 4), (some 1, 5), (some 1, 6), (some 1, 7), (some 1, 8), (some 1, 9), (some 1, 10), (some 1, 11)] (by kernel_rfl) (by kernel_rfl) ?h129 ?k129
      case h129 =>
        simp only [runSch_nil, runSch_f, runSchK_eq, schFloat_some, schThen_some, floatStep1_true, floatDo1_0, floatDo1_1, valOnly_val, readBoth_some, readTo_val, readAll_one, opKind, List.take_succ_cons, List.take_nil, doLoad_ptr, wantedV_none, opDo, eval_tmp, get_putN, Nat.reduceEqDiff, reduceIte, nxVal_some, Nat.zero_add, evB, List.getElem?_toArray, List.getElem?_cons_zero, List.getElem?_cons_succ, decide_true, look_word g128 hbx, hword, if_true, decide_true, doNilCheck_ptr, fa274_1, lv86, ld1 g127, fa117_2, lv9, ld1 g125, doExtract_tuple]
        exact rfl
      case k129 =>
      repeat refine wp_seq ?_
      refine wp_region (t' := ?t130) (ds' := ?d130) (up' := ?u130) (s' := ?s130) (by kernel_rfl) ?h130 ?k130
      case h130 =>
        simp only [runOps_cons, ops_nil, opThen_true, nxThen_val, wantedV_none, opDo, eval_tmp, get_putN, Nat.reduceEqDiff, reduceIte, nxVal_some]
        exact rfl
      case k130 =>
      refine wp_cond true (by simp only [eval_tmp, get_putN, Nat.reduceEqDiff, reduceIte]) (fun _ => ?_) (fun h => by cases h)
      have hm131 := hm.put 0 rfl (B' := .cells 117 false 1 [⟨0, 0, [.int .i64 5, .int .i64 0, .str ((l.drop p).take (runN bPart l p)), .int .i64 ((p : Nat) : Int)]⟩]) (fun _ h => by cases h)
      simp only [List.set_cons_zero] at hm131
      refine wp_region (t' := ?t132) (ds' := ?d132) (up' := ?u132) (s' := ?s132) (by kernel_rfl) ?h132 ?k132
      case h132 =>
        simp only [nxSkip_some, doStore_ptr, runOps_cons, ops_nil, opThen_true, nxThen_val, nxThen_skip, wantedV_none, opDo, eval_tmp, get_putN, putD_none, Nat.reduceEqDiff, reduceIte, nxVal_some, Nat.add_zero, evB, fa117_0, sv3 _ _ (.int .i64 5) rfl, st1 g125 0 [.int .i64 5] (rfl) rfl]
        exact rfl
      case k132 =>
      have hm := hm131
      generalize hs132 : S.put s123 f124 _ = s133 at hm ⊢
      have g134 := hm.at 0 rfl
      have g135 := hm.at 1 rfl
      have g136 := hm.fw.keep fs _ (by simp) hg
      have g137 := hm.fw.keep mm _ (by simp) hmm
      repeat refine wp_seq ?_
      have hm138 := hm.put 1 rfl (B' := .cells 117 false 1 [⟨0, 0, [.int .i64 5, .int .i64 0, .str ((l.drop p).take (runN bPart l p)), .int .i64 ((p : Nat) : Int)]⟩]) (fun _ h => by cases h)
      simp only [List.set_cons_succ, List.set_cons_zero] at hm138
      refine wp_region (t' := ?t139) (ds' := ?d139) (up' := ?u139) (s' := ?s139) (by kernel_rfl) ?h139 ?k139
      case h139 =>
        simp only [nxSkip_some, doLoad_ptr, doStore_ptr, runOps_cons, ops_nil, opThen_true, nxThen_val, nxThen_skip, wantedV_none, opDo, eval_tmp, get_putN, putD_none, Nat.reduceEqDiff, reduceIte, nxVal_some, evB, Option.map, lv117, ldn g134, List.drop_zero, takeExact, Option.map, sv117 _ _ [.int .i64 5, .int .i64 0, .str ((l.drop p).take (runN bPart l p)), .int .i64 ((p : Nat) : Int)] rfl, st1 g135 0 [.int .i64 5, .int .i64 0, .str ((l.drop p).take (runN bPart l p)), .int .i64 ((p : Nat) : Int)] (rfl) rfl]
        exact rfl
      case k139 =>
      have hm := hm138
      generalize hs139 : S.put s133 f4 _ = s140 at hm ⊢
      have g141 := hm.at 0 rfl
      have g142 := hm.at 1 rfl
      have g143 := hm.fw.keep fs _ (by simp) hg
      have g144 := hm.fw.keep mm _ (by simp) hmm
      refine wp_retc1 (.agg [.int .i64 5, .int .i64 0, .str ((l.drop p).take (runN bPart l p)), .int .i64 ((p : Nat) : Int)]) 4 ⟨f4, 0, 0⟩ 117 rfl (by simp only [get_putN, Nat.reduceEqDiff, reduceIte]) (by rw [evB, lv117, ldn g142]; rfl) ⟨by rw [hN, kd], hm.fw⟩
    · have kd : nameKind ((l.drop p).take (runN bPart l p)) kind = kind := if_neg hword
      refine wp_skip ?_
      repeat refine wp_seq ?_
      obtain ⟨_, u145, call145, rfl, fw145⟩ := madeW (p := p) (n := runN bPart l p) kind hl (by omega) hm.wf g6
      have call145 := ca_rec call145
      have hm146 := hm.call fw145
      have hm147 := hm146.alloc (B := .cells 117 false 1 [⟨0, 0, [.int .i64 0, .int .i64 0, .str [], .int .i64 0]⟩]) (fun _ h => by cases h)
      have g148 := hm147.at 0 rfl
      have hm149 := hm147.put 0 rfl (B' := .cells 117 false 1 [⟨0, 0, [.int .i64 kind, .int .i64 0, .str ((l.drop p).take (runN bPart l p)), .int .i64 ((p : Nat) : Int)]⟩]) (fun _ h => by cases h)
      simp only [List.set_cons_zero] at hm149
      refine wp_region (t' := ?t150) (ds' := ?d150) (up' := ?u150) (s' := ?s150) (by kernel_rfl) ?h150 ?k150
      case h150 =>
        simp only [nxSkip_some, doStore_ptr, runOps_cons, ops_nil, opThen_true, nxThen_val, nxThen_skip, nxThen_enter, outThen_ret, wantedV_none, opDo, eval_tmp, eval_func, get_putN, putD_none, Nat.reduceEqDiff, reduceIte, nxVal_some, callTo, callV, List.nil_append, List.append_nil, evals, evB, call145, cf244, al117, sv117 _ _ [.int .i64 kind, .int .i64 0, .str ((l.drop p).take (runN bPart l p)), .int .i64 ((p : Nat) : Int)] rfl, st1 g148 0 [.int .i64 kind, .int .i64 0, .str ((l.drop p).take (runN bPart l p)), .int .i64 ((p : Nat) : Int)] (rfl) rfl]
        exact rfl
      case k150 =>
      have hm := hm149
      generalize hs150 : S.put (S.alloc u145 _) _ _ = s151 at hm ⊢
      generalize hf152 : S.next u145 = f152 at hm ⊢
      have g153 := hm.at 0 rfl
      have g154 := hm.at 1 rfl
      have g155 := hm.fw.keep fs _ (by simp) hg
      have g156 := hm.fw.keep mm _ (by simp) hmm
      repeat refine wp_seq ?_
      refine wp_sch (t' := ?t157) (ds' := ?d157) (up' := ?u157) (s' := ?s157) [(some 1, 0), (some 1, 1), (some 1, 2), (some 1, 3), (some 1, 4), (some 1, 5), (some 1, 6), (some 1, 7), (some 1, 8), (some 1, 9), (some 1, 10), (some 1, 11)] (by kernel_rfl) (by kernel_rfl) ?h157 ?k157
      case h157 =>
        simp only [runSch_nil, runSch_f, runSchK_eq, schFloat_some, schThen_some, floatStep1_true, floatDo1_0, floatDo1_1, valOnly_val, readBoth_some, readTo_val, readAll_one, opKind, List.take_succ_cons, List.take_nil, doLoad_ptr, wantedV_none, opDo, eval_tmp, get_putN, Nat.reduceEqDiff, reduceIte, nxVal_some, Nat.zero_add, evB, List.getElem?_toArray, List.getElem?_cons_zero, List.getElem?_cons_succ, look_word g156 hbx, hword, if_false, decide_false, doNilCheck_ptr, fa274_1, lv86, ld1 g155, fa117_2, lv9, ld1 g153, doExtract_tuple]
        exact rfl
      case k157 =>
      repeat refine wp_seq ?_
      refine wp_region (t' := ?t158) (ds' := ?d158) (up' := ?u158) (s' := ?s158) (by kernel_rfl) ?h158 ?k158
      case h158 =>
        simp only [runOps_cons, ops_nil, opThen_true, nxThen_val, wantedV_none, opDo, eval_tmp, get_putN, Nat.reduceEqDiff, reduceIte, nxVal_some]
        exact rfl
      case k158 =>
      refine wp_cond false (by simp only [eval_tmp, get_putN, Nat.reduceEqDiff, reduceIte]) (fun h => by cases h) (fun _ => ?_)
      refine wp_skip ?_
      repeat refine wp_seq ?_
      have hm159 := hm.put 1 rfl (B' := .cells 117 false 1 [⟨0, 0, [.int .i64 kind, .int .i64 0, .str ((l.drop p).take (runN bPart l p)), .int .i64 ((p : Nat) : Int)]⟩]) (fun _ h => by cases h)
      simp only [List.set_cons_succ, List.set_cons_zero] at hm159
      refine wp_region (t' := ?t160) (ds' := ?d160) (up' := ?u160) (s' := ?s160) (by kernel_rfl) ?h160 ?k160
      case h160 =>
        simp only [nxSkip_some, doLoad_ptr, doStore_ptr, runOps_cons, ops_nil, opThen_true, nxThen_val, nxThen_skip, wantedV_none, opDo, eval_tmp, get_putN, putD_none, Nat.reduceEqDiff, reduceIte, nxVal_some, evB, Option.map, lv117, ldn g153, List.drop_zero, takeExact, Option.map, sv117 _ _ [.int .i64 kind, .int .i64 0, .str ((l.drop p).take (runN bPart l p)), .int .i64 ((p : Nat) : Int)] rfl, st1 g154 0 [.int .i64 kind, .int .i64 0, .str ((l.drop p).take (runN bPart l p)), .int .i64 ((p : Nat) : Int)] (rfl) rfl]
        exact rfl
      case k160 =>
      have hm := hm159
      generalize hs160 : S.put s151 f4 _ = s161 at hm ⊢
      have g162 := hm.at 0 rfl
      have g163 := hm.at 1 rfl
      have g164 := hm.fw.keep fs _ (by simp) hg
      have g165 := hm.fw.keep mm _ (by simp) hmm
      refine wp_retc1 (.agg [.int .i64 kind, .int .i64 0, .str ((l.drop p).take (runN bPart l p)), .int .i64 ((p : Nat) : Int)]) 4 ⟨f4, 0, 0⟩ 117 rfl (by simp only [get_putN, Nat.reduceEqDiff, reduceIte]) (by rw [evB, lv117, ldn g163]; rfl) ⟨by rw [hN, kd], hm.fw⟩
end Go.AI.Lx
