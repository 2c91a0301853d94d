/- What the functions answer in the evaluator: part 8. No conditions beyond those of the row. -/
import Derived.Test.YtkeaedhoaamfnaaGreatDoorL7
import Derived.Test.YtkeaedhoaamfnaaGreatDoorA12
set_option linter.unusedVariables false
set_option linter.unusedSimpArgs false
noncomputable section
/- The scanner's rows of tokens, all in all. -/
namespace Go.AI.Lx
open Go.Proofs Go.Proofs.YtkeaedhoaamfnaaGreatDoor
set_option maxRecDepth 10000
theorem ty_size135 : size Tryz.prog 135 = some 1 := by kernel_rfl
theorem ty_agg135 : isAggT Tryz.prog 135 = some false := by kernel_rfl
theorem al135 (s : S) : doAlloc Tryz.prog s 135 = some (.val (.ptr ⟨s.next, 0, 0⟩) (s.alloc (.cells 135 false 1 [⟨0, 0, [.nilslice]⟩]))) := by kernel_rfl
theorem lv135 (s : S) (a : Ad) : loadVar Tryz.prog s 135 a = loadCell s a := by simp only [loadVar, ty_agg135]
theorem sv135 (s : S) (a : Ad) (v : V) (h : v.cells = [v]) : storeVar Tryz.prog s 135 a v = storeCells s a [v] := by
  simp only [storeVar, ty_size135, h]; rfl
theorem row135 : RowTy Tryz.prog 135 117 4 := ⟨by kernel_rfl, by kernel_rfl, by kernel_rfl, by kernel_rfl, by kernel_rfl⟩
theorem bsl135 (s : S) (x0 x1 x2 x3 : V) : doBuildSlice Tryz.prog s 135 1 (some [(0, .agg [x0, x1, x2, x3])]) = some (.val (.slice ⟨s.next, 0, 0⟩ 0 1 (some 1) 4) (s.alloc (.cells 117 false 1 [⟨0, 0, [x0, x1, x2, x3]⟩]))) := by kernel_rfl
noncomputable def rf102 : Code := match Tryz.f102.body with
  | some (.seq _ (.seq _ (.seq _ (.seq (.seq _ (.block _ c)) _)))) => c
  | _ => .skip
noncomputable def ra102 : Code := match rf102 with
  | .rangeFunc _ _ a _ => a
  | _ => .skip
noncomputable def rb102 : Code := match rf102 with
  | .rangeFunc _ _ _ b => b
  | _ => .skip
noncomputable abbrev LoopB (tr : T V) (d : Nat) (st : LoopState) : Blk := .loop st none 102 tr #[11] ra102 rb102 d Tryz.f102.ntmps
def IT (tr : T V) (d lb A : Nat) (n : Nat) (c : List V) (D : List Nat) (s : S) : Prop := ∃ (o : Option Nat) (v : V) (cs : List V), D = lb :: A :: o.toList ∧ s.get lb = some (LoopB tr d .ready) ∧ s.get A = some (.cells 135 false 1 [⟨0, 0, [v]⟩]) ∧
  Gro 117 4 s v n cs o ∧ (1 ≤ n → cs.take 4 = c) ∧ (∀ X, o = some X → X ≠ lb ∧ X ≠ A) ∧ lb ≠ A
theorem it_stb (tr : T V) (d lb A n : Nat) (c : List V) (D : List Nat) : Stb D (IT tr d lb A n c D) := fun s s' ⟨o, v, cs, hD, h1, h2, h3, h4, h5, h6⟩ hk hn =>
  ⟨o, v, cs, hD, hk _ (by simp [hD]) _ h1, hk _ (by simp [hD]) _ h2, h3.keep (fun X B hX hB => hk X (by simp [hD, hX]) B hB), h4, h5, h6⟩
theorem yldW {tr : T V} {d lb A : Nat} (ht : tr.get (pth 3) = some (.ptr ⟨A, 0, 0⟩)) : Yld lb (IT tr d lb A) := by
  refine ⟨fun n c D => it_stb tr d lb A n c D, ?_⟩
  rintro n c D s tok ⟨o, v, cs, rfl, gl, ga, hG, hc, hX, hne⟩ hw h1 h4 hn hlt
  obtain ⟨x0, x1, x2, x3, rfl⟩ : ∃ x0 x1 x2 x3, tok = [x0, x1, x2, x3] := by
    match tok, h4 with
    | [a, b, c, d], _ => exact ⟨a, b, c, d, rfl⟩
  have hall : [x0, x1, x2, x3].all V.one = true := h1
  have key : Wp envB 102 Tryz.f102 (putParams tr [11] [.agg [x0, x1, x2, x3]] id) [.code ra102, .beginRound, .code rb102] [] none (some lb) s (fun out => ∃ s' D', out = ⟨.returned (.bool true), none, s'⟩ ∧ Fw (lb :: A :: o.toList) s s' ∧ IT tr d lb A (n + 1) (if n = 0 then [x0, x1, x2, x3] else c) D' s' ∧ (∀ g ∈ D', g < s'.next ∧ (g ∈ lb :: A :: o.toList ∨ s.next ≤ g))) := by
    rw [show putParams tr [11] [.agg [x0, x1, x2, x3]] id = putD tr (some 11) (.agg [x0, x1, x2, x3]) from rfl]
    have hm := (Me.start (F := []) hw).alloc (B := .cells 117 false 1 [⟨0, 0, [.int .i64 0, .int .i64 0, .str [], .int .i64 0]⟩]) (fun _ h => by cases h)
    generalize hN : s.next = N at hm
    have g1 := hm.at 0 rfl
    have hm2 := hm.put 0 rfl (B' := .cells 117 false 1 [⟨0, 0, [x0, x1, x2, x3]⟩]) (fun _ h => by cases h)
    simp only [List.set_cons_zero] at hm2
    refine wp_region (t' := ?t1) (ds' := ?d1) (up' := ?u1) (s' := ?s1) (by kernel_rfl) ?h1 ?k1
    case h1 =>
      simp only [nxSkip_some, doStore_ptr, runOps_cons, ops_nil, opThen_true, nxThen_val, nxThen_skip, wantedV_none, opDo, eval_tmp, get_putN, putD_none, Nat.reduceEqDiff, reduceIte, evB, al117, hN, sv117 _ _ [x0, x1, x2, x3] rfl, st1 g1 0 [x0, x1, x2, x3] hall rfl]
      exact rfl
    case k1 =>
    generalize S.put _ N _ = s1 at hm2 ⊢
    have hf1 := hm2.fw
    have gN := hm2.at 0 rfl
    have gl1 := hf1.keep _ _ (by simp) gl
    have ga1 := hf1.keep _ _ (by simp) ga
    have hG1 := hG.fw hf1 (by simp)
    have hnx1 := hf1.next
    have hlN : lb ≠ N := by have := hlt lb (by simp); omega
    have hAN : A ≠ N := by have := hlt A (by simp); omega
    have hXN : ∀ X, o = some X → X ≠ N := fun X hx => by have := hlt X (by simp [hx]); omega
    refine wp_begin gl1 ?_
    have hf2 : Fw [lb] s1 (s1.put lb (LoopB tr d .busy)) := Fw.put (by simp) gl1 (fun _ h => by cases h) _
    have hl2 : (s1.put lb (LoopB tr d .busy)).get lb = some (LoopB tr d .busy) := by rw [S.get_put, if_pos rfl]
    generalize s1.put lb (LoopB tr d .busy) = s2 at hf2 hl2 ⊢
    have gN2 := hf2.keep _ _ (by simp [hlN.symm]) gN
    have ga2 := hf2.keep _ _ (by simp [hne.symm]) ga1
    have hG2 := hG1.fw hf2 (fun X hx => by simp [(hX X hx).1])
    have hw2 := hf2.wf (hf1.wf hw)
    have hf3 := Fw.alloc [] hw2 (.cells 117 false 1 [⟨0, 0, [x0, x1, x2, x3]⟩])
    have gM3 := get_alloc_same s2 (.cells 117 false 1 [⟨0, 0, [x0, x1, x2, x3]⟩])
    have hnx2 := hf2.next
    have hnx3 := hf3.next
    obtain ⟨v', s4, X', happ, hG4, hble, hor⟩ := (hG2.fw hf3 (by simp)).app row135 (hf3.wf hw2) (c := some 1) gM3 rfl hall (by omega)
    have ga3 := hf3.keep _ _ (by simp) ga2
    have hl3 := hf3.keep _ _ (by simp) hl2
    have hXX : (X' ≠ lb ∧ X' ≠ A) ∧ (o = some X' ∨ s.next ≤ X') := by
      rcases hor with ⟨_, h, _⟩ | ⟨h, _⟩
      · have h2 := hlt lb (by simp)
        have h3 := hlt A (by simp)
        rw [S.next_alloc] at h
        exact ⟨⟨by omega, by omega⟩, .inr (by omega)⟩
      · exact ⟨hX X' h, .inl h⟩
    have hf4 : Fw [X'] (s2.alloc (.cells 117 false 1 [⟨0, 0, [x0, x1, x2, x3]⟩])) s4 := by
      rcases hor with ⟨_, _, h⟩ | ⟨_, h⟩
      · exact h.mono (by simp)
      · exact h
    have ga4 := hf4.keep _ _ (by simp [hXX.1.2.symm]) ga3
    have hl4 := hf4.keep _ _ (by simp [hXX.1.1.symm]) hl3
    have hv1 : [v'].all V.one = true := by simp [hG4.one]
    have htk : takeExact 4 [x0, x1, x2, x3] = some [x0, x1, x2, x3] := rfl
    refine wp_block ?_
    refine wp_region (t' := ?t2) (ds' := ?d2) (up' := ?u2) (s' := ?s2) (by kernel_rfl) ?h2 ?k2
    case h2 =>
      simp only [nxSkip_some, doLoad_ptr, doStore_ptr, runOps_cons, ops_nil, opThen_true, nxThen_val, nxThen_skip, wantedV_none, opDo, eval_tmp, get_putN, putD_none, Nat.reduceEqDiff, reduceIte, nxVal_some, callTo, callB, evals, evB, List.getElem?_toArray, List.getElem?_cons_zero, List.getElem?_cons_succ, Option.map, lv135, ld1 ga2, lv117, ldn gN2, List.drop_zero, htk, evalsO, bsl135, nxPair_some, happ, sv135 _ _ v' hG4.cel, st1 ga4 0 [v'] hv1 rfl, ht]
      exact rfl
    case k2 =>
    have hf5 : Fw [A] s4 (s4.put A (.cells 135 false 1 [⟨0, 0, [v']⟩])) := Fw.put (by simp) ga4 (fun _ h => by cases h) _
    have ga5 : (s4.put A (.cells 135 false 1 [⟨0, 0, [v']⟩])).get A = some (.cells 135 false 1 [⟨0, 0, [v']⟩]) := by rw [S.get_put, if_pos rfl]
    generalize s4.put A (.cells 135 false 1 [⟨0, 0, [v']⟩]) = s5 at hf5 ga5 ⊢
    have hl5 := hf5.keep _ _ (by simp [hne]) hl4
    have hG5 := hG4.fw hf5 (fun X hx => by cases hx; simp [hXX.1.2])
    refine wp_inBlock (wp_roundEnd hl5 ?_)
    have hf6 : Fw [lb] s5 (s5.put lb (LoopB tr d .ready)) := Fw.put (by simp) hl5 (fun _ h => by cases h) _
    have hl6 : (s5.put lb (LoopB tr d .ready)).get lb = some (LoopB tr d .ready) := by rw [S.get_put, if_pos rfl]
    refine ⟨_, lb :: A :: (some X').toList, rfl, ?_, ⟨some X', v', cs ++ [x0, x1, x2, x3], rfl, hl6, hf6.keep _ _ (by simp [hne.symm]) ga5, hG5.fw hf6 (fun X hx => by cases hx; simp [hXX.1.1]), ?_, fun X hx => by cases hx; exact hXX.1, hne⟩, ?_⟩
    · have hA : Fw (lb :: A :: X' :: []) s (s5.put lb (LoopB tr d .ready)) :=
        ((((hf1.mono (by simp)).trans (hf2.mono (by simp))).trans (hf3.mono (by simp))).trans (hf4.mono (by simp))).trans ((hf5.mono (by simp)).trans (hf6.mono (by simp)))
      rcases hXX.2 with h | h
      · rw [h]; exact hA
      · refine ⟨fun g B hg hB => hA.keep g B (fun hm => ?_) hB, hA.ro, hA.next, hA.wf⟩
        have := hw g B hB
        simp only [List.mem_cons, List.not_mem_nil, or_false] at hm
        rcases hm with rfl | rfl | rfl
        · exact hg (by simp)
        · exact hg (by simp)
        · omega
    · intro _
      by_cases h0 : n = 0
      · subst h0
        cases hG with
        | nil => rfl
        | row X nv rest n cs k1 k2 k3 =>
          have : cs = [] := List.eq_nil_of_length_eq_zero (by omega)
          subst this; rfl
      · rw [if_neg h0, ← hc (by omega)]
        have : 4 ≤ cs.length := by
          cases hG with
          | nil => omega
          | row X nv rest n cs k1 k2 k3 => omega
        rw [List.take_append_of_le_length this]
    · intro g hg
      have hn4 := hf4.next
      have hn5 := hf5.next
      have hn6 := hf6.next
      have hwf6 := hf6.wf (hf5.wf (hf4.wf (hf3.wf hw2)))
      simp only [List.mem_cons, Option.toList, List.not_mem_nil, or_false] at hg
      rcases hg with rfl | rfl | rfl
      · exact ⟨hwf6 _ _ hl6, .inl (by simp)⟩
      · exact ⟨Nat.lt_of_lt_of_le (show g < s5.next by have := hlt g (by simp); omega) hf6.next, .inl (by simp)⟩
      · refine ⟨Nat.lt_of_lt_of_le (Nat.lt_of_lt_of_le (hG4.lt (hf4.wf (hf3.wf hw2))) hf5.next) hf6.next, ?_⟩
        · rcases hXX.2 with h | h
          · exact .inl (by simp [h])
          · exact .inr (by omega)
  obtain ⟨out, hfr, s', D', rfl, hF, hI, hb⟩ := key
  exact ⟨s', D', none, round_of gl Tryz.func102 (by kernel_rfl) hfr (fun k => by simp only [putParams, T.setK_eq]; rfl), hF, hI, hb⟩
theorem wp_fall {E : Env} {f : FuncId} {fn : Func} {t : T V} {ds : List Dfr} {up : Option Md} {s : S} {Q : Out → Prop} (h : Un E f fn t ds .returning up s Q) : Wp E f fn t [] ds up none s Q := by
  obtain ⟨o, h1, h2⟩ := h
  refine ⟨o, ?_, h2⟩
  unfold Fr
  rw [lim_eq]
  simp only [jobStep, frameStep, todoStep, leaveV, goOf]
  exact h1
theorem nxThen_recover {rec : RecF} {recR : RecR} {rd : Option Nat} {d : Option Tmp} {t : T V} {ds : List Dfr} {up : Option Md} {k : RK} {s : S} : nxThen rec recR rd d t ds up k (some (.recover s)) = recovered d t ds s k up := rfl
theorem recovered_ret {d : Option Tmp} {t : T V} {ds : List Dfr} {s : S} {k : RK} : recovered d t ds s k (some .returning) = k (putD t d .nilIface) ds (some .returning) s := by simp only [recovered, putT_D]
theorem recovered_pan {d : Option Tmp} {t : T V} {ds : List Dfr} {s : S} {k : RK} {v : V} {r : List Pan} : recovered d t ds s k (some (.panicking (⟨v, false⟩ :: r))) = k (putD t d v) ds (some (.panicking (⟨v, true⟩ :: r))) s := by simp only [recovered, putT_D]
theorem d155_ret {A B : Nat} {s : S} : lim envB (.call 155 [.ptr ⟨A, 0, 0⟩, .ptr ⟨B, 0, 0⟩] (some .returning)) s = some ⟨.returned (.tuple []), some .returning, s⟩ := by
  have key : Wp envB 155 Tryz.f155 (initT [.ptr ⟨A, 0, 0⟩, .ptr ⟨B, 0, 0⟩] 0 .leaf id) [.code (match Tryz.f155.body with | some c => c | none => .skip)] [] (some .returning) none s (fun o => o = ⟨.returned (.tuple []), some .returning, s⟩) := by
    rw [initT_cons, initT_cons, initT_nil]
    refine wp_seq ?_
    refine wp_region (t' := ?t1) (ds' := ?d1) (up' := ?u1) (s' := ?s1) (by kernel_rfl) ?h1 ?k1
    case h1 =>
      simp only [runOps_cons, ops_nil, opThen_true, wantedV_none, opDo, callTo, callB, Nat.zero_add, evals, nxThen_recover, recovered_ret]
      exact rfl
    case k1 =>
    refine wp_block ?_
    refine wp_seq ?_
    refine wp_region (t' := ?t2) (ds' := ?d2) (up' := ?u2) (s' := ?s2) (by kernel_rfl) ?h2 ?k2
    case h2 =>
      simp only [runOps_cons, opThen_true, wantedV_none, opDo, eval_tmp, get_putN, Nat.reduceEqDiff, reduceIte, evB, doBin, guardOk, isEq, cond_true, binOpV, Option.map, eval_nilI]
      exact rfl
    case k2 =>
    refine wp_cond true (by simp only [eval_tmp]; exact rfl) (fun _ => ?_) (fun h => by cases h)
    refine wp_region (t' := ?t3) (ds' := ?d3) (up' := ?u3) (s' := ?s3) (by kernel_rfl) ?h3 ?k3
    case h3 =>
      simp only [runOps_cons, opThen_true, wantedV_none, opDo, eval_tmp]
      exact rfl
    case k3 =>
    refine wp_inBlock (wp_fall (un_ret (v := .tuple []) ?_ rfl))
    exact rfl
  obtain ⟨o, h1, rfl⟩ := key
  exact un_enter Tryz.func155 rfl (by kernel_rfl) h1
theorem d155_pan {A B : Nat} {a e : Int} {av : V} {be : List V} {s : S} (hw : WF s) (hA : s.get A = some (.cells 135 false 1 [⟨0, 0, [av]⟩])) (hB : s.get B = some (.cells 172 false 1 [⟨0, 0, be⟩])) (hbe : be.length = 2) (hne : A ≠ B) :
    ∃ s', lim envB (.call 155 [.ptr ⟨A, 0, 0⟩, .ptr ⟨B, 0, 0⟩] (some (.panicking [⟨.iface 172 (.agg [.int .i64 a, .int .i64 e]), false⟩]))) s = some ⟨.returned (.tuple []), some (.panicking [⟨.iface 172 (.agg [.int .i64 a, .int .i64 e]), true⟩]), s'⟩ ∧
      s'.get A = some (.cells 135 false 1 [⟨0, 0, [.nilslice]⟩]) ∧ s'.get B = some (.cells 172 false 1 [⟨0, 0, [.int .i64 a, .int .i64 e]⟩]) ∧ Fw [A, B] s s' := by
  have key : Wp envB 155 Tryz.f155 (initT [.ptr ⟨A, 0, 0⟩, .ptr ⟨B, 0, 0⟩] 0 .leaf id) [.code (match Tryz.f155.body with | some c => c | none => .skip)] [] (some (.panicking [⟨.iface 172 (.agg [.int .i64 a, .int .i64 e]), false⟩])) none s
      (fun o => ∃ s', o = ⟨.returned (.tuple []), some (.panicking [⟨.iface 172 (.agg [.int .i64 a, .int .i64 e]), true⟩]), s'⟩ ∧ s'.get A = some (.cells 135 false 1 [⟨0, 0, [.nilslice]⟩]) ∧ s'.get B = some (.cells 172 false 1 [⟨0, 0, [.int .i64 a, .int .i64 e]⟩]) ∧ Fw [A, B] s s') := by
    rw [initT_cons, initT_cons, initT_nil]
    refine wp_seq ?_
    refine wp_region (t' := ?t1) (ds' := ?d1) (up' := ?u1) (s' := ?s1) (by kernel_rfl) ?h1 ?k1
    case h1 =>
      simp only [runOps_cons, ops_nil, opThen_true, wantedV_none, opDo, callTo, callB, Nat.zero_add, evals, nxThen_recover, recovered_pan]
      exact rfl
    case k1 =>
    refine wp_block ?_
    refine wp_seq ?_
    have hq : eqlAt Tryz.prog (AI.plainAt s) 20 20 (.iface 172 (.agg [.int .i64 a, .int .i64 e])) .nilIface = some false := by kernel_rfl
    refine wp_region (t' := ?t2) (ds' := ?d2) (up' := ?u2) (s' := ?s2) (by kernel_rfl) ?h2 ?k2
    case h2 =>
      simp only [runOps_cons, ops_nil, opThen_true, nxThen_val, wantedV_none, opDo, eval_tmp, get_putN, Nat.reduceEqDiff, reduceIte, nxVal_some, evB, doBin, guardOk, isEq, cond_true, binOpV, Option.map, eval_nilI, hq]
      exact rfl
    case k2 =>
    refine wp_cond false (by simp only [eval_tmp, get_putN, Nat.reduceEqDiff, reduceIte]) (fun h => by cases h) (fun _ => ?_)
    refine wp_seq ?_
    have has : doAssert Tryz.prog (some (.iface 172 (.agg [.int .i64 a, .int .i64 e]))) 172 true = some (.tuple [.agg [.int .i64 a, .int .i64 e], .bool true]) := by kernel_rfl
    refine wp_region (t' := ?t3) (ds' := ?d3) (up' := ?u3) (s' := ?s3) (by kernel_rfl) ?h3 ?k3
    case h3 =>
      simp only [runOps_cons, ops_nil, opThen_true, nxThen_val, wantedV_none, opDo, eval_tmp, get_putN, Nat.reduceEqDiff, reduceIte, nxVal_some, evB, List.getElem?_cons_zero, List.getElem?_cons_succ, has, doExtract_tuple]
      exact rfl
    case k3 =>
    refine wp_cond true (by simp only [eval_tmp, get_putN, Nat.reduceEqDiff, reduceIte]) (fun _ => ?_) (fun h => by cases h)
    refine wp_seq ?_
    have hm := (Me.start (F := []) hw).alloc (B := .cells 172 false 1 [⟨0, 0, [.int .i64 0, .int .i64 0]⟩]) (fun _ h => by cases h)
    generalize hN : s.next = N at hm
    have g1 := hm.at 0 rfl
    have hm2 := hm.put 0 rfl (B' := .cells 172 false 1 [⟨0, 0, [.int .i64 a, .int .i64 e]⟩]) (fun _ h => by cases h)
    simp only [List.set_cons_zero] at hm2
    refine wp_region (t' := ?t4) (ds' := ?d4) (up' := ?u4) (s' := ?s4) (by kernel_rfl) ?h4 ?k4
    case h4 =>
      simp only [nxSkip_some, doStore_ptr, runOps_cons, ops_nil, opThen_true, nxThen_val, nxThen_skip, wantedV_none, opDo, eval_tmp, get_putN, putD_none, Nat.reduceEqDiff, reduceIte, evB, al172, hN, sv172 _ _ [.int .i64 a, .int .i64 e] rfl, st1 g1 0 [.int .i64 a, .int .i64 e] rfl rfl]
      exact rfl
    case k4 =>
    generalize S.put _ N _ = s1 at hm2 ⊢
    have hf1 := hm2.fw
    have gN := hm2.at 0 rfl
    have hA1 := hf1.keep _ _ (by simp) hA
    have hB1 := hf1.keep _ _ (by simp) hB
    have hf2 : Fw [A] s1 (s1.put A (.cells 135 false 1 [⟨0, 0, [.nilslice]⟩])) := Fw.put (by simp) hA1 (fun _ h => by cases h) _
    have hA2 : (s1.put A (.cells 135 false 1 [⟨0, 0, [.nilslice]⟩])).get A = some (.cells 135 false 1 [⟨0, 0, [.nilslice]⟩]) := by rw [S.get_put, if_pos rfl]
    have hst : storeCells s1 ⟨A, 0, 0⟩ [.nilslice] = some (s1.put A (.cells 135 false 1 [⟨0, 0, [.nilslice]⟩])) := st1 hA1 0 [.nilslice] rfl rfl
    generalize s1.put A (.cells 135 false 1 [⟨0, 0, [.nilslice]⟩]) = s2 at hf2 hA2 hst
    have hAN : A ≠ N := by have := hw A _ hA; omega
    have gN2 := hf2.keep _ _ (by simp [hAN.symm]) gN
    have hB2 := hf2.keep _ _ (by simp [hne.symm]) hB1
    obtain ⟨b1, b2, rfl⟩ : ∃ b1 b2, be = [b1, b2] := by
      match be, hbe with
      | [x, y], _ => exact ⟨x, y, rfl⟩
    have hf3 : Fw [B] s2 (s2.put B (.cells 172 false 1 [⟨0, 0, [.int .i64 a, .int .i64 e]⟩])) := Fw.put (by simp) hB2 (fun _ h => by cases h) _
    have hB3 : (s2.put B (.cells 172 false 1 [⟨0, 0, [.int .i64 a, .int .i64 e]⟩])).get B = some (.cells 172 false 1 [⟨0, 0, [.int .i64 a, .int .i64 e]⟩]) := by rw [S.get_put, if_pos rfl]
    have hst3 : storeCells s2 ⟨B, 0, 0⟩ [.int .i64 a, .int .i64 e] = some (s2.put B (.cells 172 false 1 [⟨0, 0, [.int .i64 a, .int .i64 e]⟩])) := st1 hB2 0 [.int .i64 a, .int .i64 e] rfl rfl
    have hnb2 := hf2.ble
    have hnb3 := hf3.ble
    generalize s2.put B (.cells 172 false 1 [⟨0, 0, [.int .i64 a, .int .i64 e]⟩]) = s3 at hf3 hB3 hst3 hnb3
    have htk : takeExact 2 [V.int .i64 a, .int .i64 e] = some [.int .i64 a, .int .i64 e] := rfl
    refine wp_sch (t' := ?t5) (ds' := ?d5) (up' := ?u5) (s' := ?s5) [(none, 1), (some 2, 0), (none, 2)] (by kernel_rfl) (by kernel_rfl) ?h5 ?k5
    case h5 =>
      simp only [runSch_nil, runSch_f, runSch_e, runSchK_eq, runSchE_eq, schFloat_some, schThen_some, schEff_some, schEThen_some, schNext_true, floatStep1_true, effStep_true, effDo_skip, readBoth_some, readTo_val, readAll_one, readAll_two, readCons_same, opKind, List.take_succ_cons, List.take_nil, floatDo1_1c, nxSkip_some, doLoad_ptr, doStore_ptr, wantedV_none, opDo, eval_tmp, get_putN, putD_none, Nat.reduceEqDiff, reduceIte, nxVal_some, evB, List.getElem?_toArray, List.getElem?_cons_zero, List.getElem?_cons_succ, Option.map, readAll_one, eval_nilS, sv135 _ _ .nilslice rfl, hst, hnb2, lv172, ldn gN, ldn gN2, List.drop_zero, htk, sv172 _ _ [.int .i64 a, .int .i64 e] rfl, hst3, hnb3]
      exact rfl
    case k5 =>
    refine wp_inBlock (wp_fall (un_ret (v := .tuple []) ?_ ?_))
    · exact rfl
    · exact ⟨s3, rfl, hf3.keep _ _ (by simp [hne]) hA2, hB3, ((hf1.mono (by simp)).trans (hf2.mono (by simp))).trans (hf3.mono (by simp))⟩
  obtain ⟨o, h1, s', rfl, h2, h3, h4⟩ := key
  exact ⟨s', un_enter Tryz.func155 rfl (by kernel_rfl) h1, h2, h3, h4⟩
theorem tokens0W {fs : Nat} {s : S} (hw : WF s) : Cw envB 156 [.ptr ⟨fs, 0, 0⟩] s fun v s' => ∃ vb, v = .func (.func 202) [] [.ptr ⟨vb, 0, 0⟩] ∧ s.next ≤ vb ∧ s'.get vb = some (.cells 170 false 1 [⟨0, 0, [.ptr ⟨fs, 0, 0⟩]⟩]) ∧ Fw [] s s' := by
  refine cw_of_co (x_enter (C := cfg_toks0) (e := ⟨[.ptr ⟨fs, 0, 0⟩], []⟩) (F := []) rfl Tryz.func156 rfl (by kernel_rfl) run_toks0 rfl ⟨rfl, rfl, rfl⟩ rfl hw rfl (by simp) trivial stb_true trivial (by simp) ?_)
  refine h_new fun b1 hb1 hd1 => ?_
  exact h_ret fun s1 h1 h2 h3 h4 => ⟨_, _, rfl, b1, rfl, hb1, h4.1, h1⟩
theorem cf154 (args : List V) (s : S) : callF envB 154 args s = some (.enter 154 args s) := by kernel_rfl
theorem cf156 (args : List V) (s : S) : callF envB 156 args s = some (.enter 156 args s) := by kernel_rfl
def ScanR (l : List Nat) (v : V) (b : Nat) (s : S) : Prop := ∃ (p row : V) (a e : Int), v = .tuple [p, row, .agg [.int .i64 a, .int .i64 e]] ∧ p.one = true ∧ ((e ≠ 0 ∧ kindC l = 0 ∧ row = .nilslice) ∨ (e = 0 ∧ ∃ (n : Nat) (c cs : List V) (o : Option Nat), Rel l l.length n c ∧ Gro 117 4 s row n cs o ∧ (1 ≤ n → cs.take 4 = c) ∧ ∀ X, o = some X → b ≤ X))
theorem scannedW {l : List Nat} (hb : Bytes l) (hl : l.length ≤ 24) {s : S} (hw : WF s) (hG : GlobOk s) : Cw envB 102 [.str l] s fun v s' => ScanR l v s.next s' ∧ Fw [] s s' := by
  refine cw_of_co ?_
  refine co_enter (fn := Tryz.f102) rfl Tryz.func102 rfl (by kernel_rfl) ?_
  rw [initT_cons, initT_nil]
  have hm := ((Me.start (F := []) hw).alloc (B := .cells 135 false 1 [⟨0, 0, [.nilslice]⟩]) (fun _ h => by cases h)).alloc (B := .cells 172 false 1 [⟨0, 0, [.int .i64 0, .int .i64 0]⟩]) (fun _ h => by cases h)
  have hBn : (s.alloc (.cells 135 false 1 [⟨0, 0, [.nilslice]⟩])).next = s.next + 1 := S.next_alloc _ _
  rw [hBn] at hm
  generalize hA : s.next = A at hm hBn
  repeat refine wp_seq ?_
  refine wp_region (t' := ?t1) (ds' := ?d1) (up' := ?u1) (s' := ?s1) (by kernel_rfl) ?h1 ?k1
  case h1 =>
    simp only [runOps_cons, ops_nil, opThen_true, nxThen_val, wantedV_none, opDo, nxVal_some, evB, eval_nilP, al135, al172, hA, hBn]
    exact rfl
  case k1 =>
  generalize S.alloc (S.alloc s _) _ = s1 at hm ⊢
  refine wp_seq ?_
  obtain ⟨v1, s2, call1, fs, mm, rfl, gfs, gmm, hfs, hmm, hfm, hf2⟩ := newScW (l := l) hm.wf
  have call1 := ca_rec call1
  refine wp_region (t' := ?t2) (ds' := ?d2) (up' := ?u2) (s' := ?s2) (by kernel_rfl) ?h2 ?k2
  case h2 =>
    simp only [runOps_cons, ops_nil, opThen_true, nxThen_val, nxThen_enter, outThen_ret, wantedV_none, opDo, eval_tmp, eval_func, get_putN, Nat.reduceEqDiff, reduceIte, nxVal_some, callTo, callV, List.nil_append, List.append_nil, evals, cf154, call1]
    exact rfl
  case k2 =>
  refine wp_seq ?_
  refine wp_region (t' := ?t3) (ds' := ?d3) (up' := ?u3) (s' := ?s3) (by kernel_rfl) ?h3 ?k3
  case h3 =>
    simp only [runOps_cons, opThen_true, wantedV_none, opDo, eval_tmp, get_putN, Nat.reduceEqDiff, reduceIte, evals]
    exact rfl
  case k3 =>
  generalize hT : T.node _ (some (V.str l)) _ = t3
  have l2 : t3.get (pth 2) = some (.ptr ⟨fs, 0, 0⟩) := by rw [← hT]; rfl
  have l3 : t3.get (pth 3) = some (.ptr ⟨A, 0, 0⟩) := by rw [← hT]; rfl
  have l4 : t3.get (pth 4) = some (.ptr ⟨A + 1, 0, 0⟩) := by rw [← hT]; rfl
  clear hT
  have hm2 := hm.call hf2
  obtain ⟨v2, s3, call2, vb, rfl, hvb, gvb, hf3⟩ := tokens0W (fs := fs) hm2.wf
  have call2 := ca_rec call2
  repeat refine wp_seq ?_
  refine wp_region (t' := ?t4) (ds' := ?d4) (up' := ?u4) (s' := ?s4) (by kernel_rfl) ?h4 ?k4
  case h4 =>
    simp only [runOps_cons, ops_nil, opThen_true, nxThen_val, nxThen_enter, outThen_ret, wantedV_none, opDo, eval_tmp, eval_func, get_putN, reduceIte, nxVal_some, callTo, callV, List.nil_append, List.append_nil, evals, cf156, call2, l2]
    exact rfl
  case k4 =>
  have hm3 := hm2.call hf3
  have gA := hm3.at 1 rfl
  have gB := hm3.at 0 rfl
  have gfs3 := hf3.keep _ _ (by simp) gfs
  have gmm3 := hf3.keep _ _ (by simp) gmm
  have hf13 := hm3.fw
  have hw3 := hm3.wf
  have hlA : A < s1.next := hm.wf _ _ (hm.at 1 rfl)
  have hlB : A + 1 < s1.next := hm.wf _ _ (hm.at 0 rfl)
  have hl2 := hf2.next
  refine wp_block ?_
  have hf4 : Fw [] s3 (s3.alloc .deferred) := Fw.alloc [] hw3 _
  have hw4 := hf4.wf hw3
  have hlb : (s3.alloc .deferred).next = s3.next + 1 := S.next_alloc _ _
  have hf5 : Fw [] (s3.alloc .deferred) ((s3.alloc .deferred).alloc (LoopB (putD (putD t3 (some 9) (.ptr ⟨fs, 0, 0⟩)) (some 10) (.func (.func 202) [] [.ptr ⟨vb, 0, 0⟩])) s3.next .ready)) := Fw.alloc [] hw4 _
  have gL := get_alloc_same (s3.alloc .deferred) (LoopB (putD (putD t3 (some 9) (.ptr ⟨fs, 0, 0⟩)) (some 10) (.func (.func 202) [] [.ptr ⟨vb, 0, 0⟩])) s3.next .ready)
  have hf45 := hf4.trans hf5
  have hw5 := hf45.wf hw3
  have hfsn : fs < s3.next := hw3 _ _ gfs3
  have hmmn : mm < s3.next := hw3 _ _ gmm3
  have hvbn : vb < s3.next := hw3 _ _ gvb
  have hs2n : s2.next ≤ s3.next := hf3.next
  have hs13 : s1.next ≤ s3.next := by omega
  have hfs2 : fs < s2.next := hm2.wf _ _ gfs
  have hmm2 : mm < s2.next := hm2.wf _ _ gmm
  have ht3 : (putD (putD t3 (some 9) (.ptr ⟨fs, 0, 0⟩)) (some 10) (.func (.func 202) [] [.ptr ⟨vb, 0, 0⟩])).get (pth 3) = some (.ptr ⟨A, 0, 0⟩) := by simp only [get_putN, Nat.reduceEqDiff, reduceIte, l3]
  have key := toksW (I := IT (putD (putD t3 (some 9) (.ptr ⟨fs, 0, 0⟩)) (some 10) (.func (.func 202) [] [.ptr ⟨vb, 0, 0⟩])) s3.next (s3.alloc .deferred).next A) (c0 := []) (DY := [(s3.alloc .deferred).next, A]) hb hl (yldW ht3)
    ⟨none, .nilslice, [], rfl, gL, hf45.keep _ _ (by simp) gA, .nil, fun h => by omega, (fun X h => by cases h), by omega⟩
    (by
      intro g hg
      simp only [List.mem_cons, List.not_mem_nil, or_false] at hg
      have h5 := hf5.next
      rcases hg with rfl | rfl
      · exact ⟨hw5 _ _ gL, by omega, by omega⟩
      · exact ⟨Nat.lt_of_lt_of_le (by omega) h5, by omega, by omega⟩)
    hw5 ((((hG.keep hm.fw.ro).keep hf2.ro).keep hf3.ro).keep hf45.ro) (by omega) (hf45.keep _ _ (by simp) gvb) (hf45.keep _ _ (by simp) gfs3) (hf45.keep _ _ (by simp) gmm3)
    (by simp only [List.mem_append, List.mem_cons, List.not_mem_nil, or_false]; omega)
  show Wp envB 102 Tryz.f102 _ (.code (.rangeFunc (.tmp 10) #[11] ra102 rb102) :: _) _ _ _ _ _
  unfold QS at key
  refine wp_range (g' := 202) (first := []) (cap := [.ptr ⟨vb, 0, 0⟩]) (by simp only [eval_tmp, get_putN, Nat.reduceEqDiff, reduceIte]) key ?_ ?_
  · rintro _ s6 ⟨rfl, n, c, D, hR, ⟨o, v', cs, rfl, gl, ga, hGr, hc, hX, hne⟩, hf6, hDn⟩
    refine ⟨gl, ?_⟩
    generalize hLB : (s3.alloc .deferred).next = LB at *
    have gd6 := hf6.keep _ _ (by simp only [List.mem_append, List.mem_cons, List.not_mem_nil, or_false]; omega) (hf5.keep _ _ (by simp) (get_alloc_same s3 .deferred))
    have gB6 := hf6.keep _ _ (by simp only [List.mem_append, List.mem_cons, List.not_mem_nil, or_false]; omega) (hf45.keep _ _ (by simp) gB)
    have hf7 : Fw [LB] s6 (s6.put LB (LoopB (putD (putD t3 (some 9) (.ptr ⟨fs, 0, 0⟩)) (some 10) (.func (.func 202) [] [.ptr ⟨vb, 0, 0⟩])) s3.next .exhausted)) := Fw.put (by simp) gl (fun _ h => by cases h) _
    show Wp envB 102 Tryz.f102 _ _ _ _ _ (s6.put LB (LoopB (putD (putD t3 (some 9) (.ptr ⟨fs, 0, 0⟩)) (some 10) (.func (.func 202) [] [.ptr ⟨vb, 0, 0⟩])) s3.next .exhausted)) _
    generalize s6.put LB (LoopB (putD (putD t3 (some 9) (.ptr ⟨fs, 0, 0⟩)) (some 10) (.func (.func 202) [] [.ptr ⟨vb, 0, 0⟩])) s3.next .exhausted) = s7 at hf7 ⊢
    have gd7 := hf7.keep _ _ (by simp only [List.mem_cons, List.not_mem_nil, or_false]; omega) gd6
    have gB7 := hf7.keep _ _ (by simp only [List.mem_cons, List.not_mem_nil, or_false]; omega) gB6
    have ga7 := hf7.keep _ _ (by simp [hne.symm]) ga
    have hG7 := hGr.fw hf7 (fun X hx => by simp [(hX X hx).1])
    have hw7 : WF s7 := hf7.wf (hf6.wf hw5)
    have hf8 : Fw [A] s7 (s7.put A (.cells 135 false 1 [⟨0, 0, [v']⟩])) := Fw.put (by simp) ga7 (fun _ h => by cases h) _
    have ga8 : (s7.put A (.cells 135 false 1 [⟨0, 0, [v']⟩])).get A = some (.cells 135 false 1 [⟨0, 0, [v']⟩]) := by rw [S.get_put, if_pos rfl]
    have hst8 : storeCells s7 ⟨A, 0, 0⟩ [v'] = some (s7.put A (.cells 135 false 1 [⟨0, 0, [v']⟩])) := st1 ga7 0 [v'] (by simp [hGr.one]) rfl
    have hnb8 := hf8.ble
    generalize s7.put A (.cells 135 false 1 [⟨0, 0, [v']⟩]) = s8 at hf8 ga8 hst8 hnb8
    have gB8 := hf8.keep _ _ (by simp) gB7
    have hf9 : Fw [A + 1] s8 (s8.put (A + 1) (.cells 172 false 1 [⟨0, 0, [.int .i64 0, .int .i64 0]⟩])) := Fw.put (by simp) gB8 (fun _ h => by cases h) _
    have gB9 : (s8.put (A + 1) (.cells 172 false 1 [⟨0, 0, [.int .i64 0, .int .i64 0]⟩])).get (A + 1) = some (.cells 172 false 1 [⟨0, 0, [.int .i64 0, .int .i64 0]⟩]) := by rw [S.get_put, if_pos rfl]
    have hst9 : storeCells s8 ⟨A + 1, 0, 0⟩ [.int .i64 0, .int .i64 0] = some (s8.put (A + 1) (.cells 172 false 1 [⟨0, 0, [.int .i64 0, .int .i64 0]⟩])) := st1 gB8 0 [.int .i64 0, .int .i64 0] rfl rfl
    have hnb9 := hf9.ble
    generalize s8.put (A + 1) (.cells 172 false 1 [⟨0, 0, [.int .i64 0, .int .i64 0]⟩]) = s9 at hf9 gB9 hst9 hnb9
    have ga9 := hf9.keep _ _ (by simp) ga8
    have htk : takeExact 2 [V.int .i64 0, .int .i64 0] = some [.int .i64 0, .int .i64 0] := rfl
    refine wp_inBlock ?_
    repeat refine wp_seq ?_
    refine wp_sch (t' := ?t5) (ds' := ?d5) (up' := ?u5) (s' := ?s5) [(some 1, 0), (some 1, 1), (some 1, 3), (none, 4), (some 2, 2), (none, 5)] (by kernel_rfl) (by kernel_rfl) ?h5 ?k5
    case h5 =>
      simp only [runSch_nil, runSch_f, runSch_e, runSchK_eq, runSchE_eq, schFloat_some, schThen_some, schEff_some, schEThen_some, schNext_true, floatStep1_true, effStep_true, effDo_skip, floatDo1_0, valOnly_val, readBoth_some, readTo_val, readAll_one, readAll_two, readCons_same, opKind, List.take_succ_cons, List.take_nil, floatDo1_1c, nxSkip_some, doLoad_ptr, doStore_ptr, wantedV_none, opDo, eval_tmp, get_putN, putD_none, Nat.reduceEqDiff, reduceIte, nxVal_some, evB, List.getElem?_toArray, List.getElem?_cons_zero, List.getElem?_cons_succ, Option.map, readAll_one, lv135, ld1 ga7, lv172, ldn gB7, ldn gB8, List.drop_zero, htk, sv135 _ _ v' hGr.cel, hst8, hnb8, sv172 _ _ [.int .i64 0, .int .i64 0] rfl, hst9, hnb9, l2, l3, l4]
      exact rfl
    case k5 =>
    have gd9 := hf9.keep _ _ (by simp only [List.mem_cons, List.not_mem_nil, or_false]; omega) (hf8.keep _ _ (by simp only [List.mem_cons, List.not_mem_nil, or_false]; omega) gd7)
    have hXB : ∀ X, o = some X → X ≠ A + 1 ∧ X ≠ s3.next := fun X hx => by
      subst hx
      cases hG7 with
      | row _ nv rest n cs q1 q2 q3 => exact ⟨fun h => (by rw [h, gB7] at q1; cases q1), fun h => (by rw [h, gd7] at q1; cases q1)⟩
    have hG9 := (hG7.fw hf8 (fun X hx => by simp [(hX X hx).2])).fw hf9 (fun X hx => by simp [(hXB X hx).1])
    have hf10 : Fw [s3.next] s9 (s9.put s3.next .gone) := Fw.put (by simp) gd9 (fun _ h => by cases h) _
    refine wp_retU (un_collected (by simp) gd9 ?_)
    generalize s9.put s3.next .gone = s10 at hf10 ⊢
    have hG10 := hG9.fw hf10 (fun X hx => by simp [(hXB X hx).2])
    have ga10 := hf10.keep _ _ (by simp only [List.mem_cons, List.not_mem_nil, or_false]; omega) ga9
    have gB10 := hf10.keep _ _ (by simp only [List.mem_cons, List.not_mem_nil, or_false]; omega) gB9
    refine un_call d155_ret (by simp) (by simp) ?_
    refine un_ret (v := .tuple [.ptr ⟨fs, 0, 0⟩, v', .agg [.int .i64 0, .int .i64 0]]) ?_ ?_
    · have hr : Tryz.f102.results.toList = [.tmp 2, .cell 3 135, .cell 4 172] := by kernel_rfl
      simp only [resultsV, hr, resultL, resultV, get_putN, Nat.reduceEqDiff, reduceIte, l2, l3, l4, evB, lv135, ld1 ga10, lv172, ldn gB10, List.drop_zero, htk, List.getElem?_cons_zero, Option.map, oneOr]
    · refine ⟨_, _, rfl, ⟨_, _, 0, 0, rfl, rfl, .inr ⟨rfl, n, c, cs, o, hR, hG10, hc, fun X hx => ?_⟩⟩, ?_⟩
      · have h1 := hf13.next
        have h2 := hf45.next
        rcases hDn X (by simp [hx]) with h | h
        · omega
        · simp only [List.mem_append, List.mem_cons, List.not_mem_nil, or_false] at h
          omega
      have hW : Fw ([vb, fs] ++ [LB, A, A + 1, s3.next]) s3 s10 :=
        ((((hf45.mono (by simp)).trans (hf6.mono (by simp))).trans (hf7.mono (by simp))).trans ((hf8.mono (by simp)).trans (hf9.mono (by simp)))).trans (hf10.mono (by simp))
      refine hf13.andThen hw hW (fun g hg => .inl ?_)
      have := hf13.next
      simp only [List.mem_append, List.mem_cons, List.not_mem_nil, or_false] at hg
      omega
  · rintro _ s6 ⟨⟨a, e, he, rfl⟩, hk, ⟨n, c, D, o, v', cs, rfl, gl, ga, hGr, hc, hX, hne⟩, hf6⟩
    generalize hLB : (s3.alloc .deferred).next = LB at *
    have gd6 := hf6.keep _ _ (by simp only [List.mem_append, List.mem_cons, List.not_mem_nil, or_false]; omega) (hf5.keep _ _ (by simp) (get_alloc_same s3 .deferred))
    have gB6 := hf6.keep _ _ (by simp only [List.mem_append, List.mem_cons, List.not_mem_nil, or_false]; omega) (hf45.keep _ _ (by simp) gB)
    have hf7 : Fw [s3.next] s6 (s6.put s3.next .gone) := Fw.put (by simp) gd6 (fun _ h => by cases h) _
    refine un_collected (by simp) gd6 ?_
    generalize s6.put s3.next .gone = s7 at hf7 ⊢
    have ga7 := hf7.keep _ _ (by simp only [List.mem_cons, List.not_mem_nil, or_false]; omega) ga
    have gB7 := hf7.keep _ _ (by simp only [List.mem_cons, List.not_mem_nil, or_false]; omega) gB6
    have hw7 : WF s7 := hf7.wf (hf6.wf hw5)
    obtain ⟨s8, hc8, ga8, gB8, hf8⟩ := d155_pan (a := a) (e := e) hw7 ga7 gB7 rfl (by omega)
    refine un_call hc8 (by simp) (by simp) ?_
    have htk : takeExact 2 [V.int .i64 a, .int .i64 e] = some [.int .i64 a, .int .i64 e] := rfl
    refine un_ret (v := .tuple [.ptr ⟨fs, 0, 0⟩, .nilslice, .agg [.int .i64 a, .int .i64 e]]) ?_ ?_
    · have hr : Tryz.f102.results.toList = [.tmp 2, .cell 3 135, .cell 4 172] := by kernel_rfl
      simp only [resultsV, hr, resultL, resultV, get_putN, Nat.reduceEqDiff, reduceIte, l2, l3, l4, evB, lv135, ld1 ga8, lv172, ldn gB8, List.drop_zero, htk, List.getElem?_cons_zero, Option.map, oneOr]
    · refine ⟨_, _, rfl, ⟨_, _, a, e, rfl, rfl, .inl ⟨he, hk, rfl⟩⟩, ?_⟩
      have hW : Fw ([vb, fs] ++ [LB, A, A + 1, s3.next]) s3 s8 :=
        (((hf45.mono (by simp)).trans (hf6.mono (by simp))).trans (hf7.mono (by simp))).trans (hf8.mono (by simp))
      refine hf13.andThen hw hW (fun g hg => .inl ?_)
      have := hf13.next
      simp only [List.mem_append, List.mem_cons, List.not_mem_nil, or_false] at hg
      omega
end Go.AI.Lx
/- lex.Kind: what the executor makes of it. -/
namespace Go.AI.Lx
open Go.Proofs Go.Proofs.YtkeaedhoaamfnaaGreatDoor
def anns_kindL : List LoopAnn := []
noncomputable def code_kindL : Code := match Tryz.f69.body with | some c => c | none => .skip
noncomputable def cfg_kindL : Cfg := ⟨envB, Tryz.f69, anns_kindL, [(102, ⟨[], false⟩)], [⟨100005, [(4, false), (30, true)], []⟩], 0⟩
def sub0_kindL : Tree := .cond 1 (.ret (.int .i64 0) []) (.ask (.indexAddr 135 (.atom 0) (.int .i64 0)) true [] 1 (.atom 2) (.ask (.fieldAddr 117 (.atom 2) 0) true [] 1 (.atom 3) (.ask (.load 3 (.atom 3)) true [] 1 (.atom 4) (.ret (.atom 4) []))))
def tree_kindL : Tree := .ask (.bif .len #[9] [.atom 0]) true [] 1 (.atom 1) (.ask (.bin .gtr 3 true (.atom 1) (.int .i64 24)) true [] 1 (.atom 2) (.cond 2 (.ret (.int .i64 0) []) (.call 102 [.atom 0] [] [] 4 (.tuple [.atom 3, .atom 4, .agg [.atom 5, .atom 6]]) false (.new (.ask (.bin .neq 31 true (.atom 6) (.int .i64 0)) true [] 1 (.atom 7) (.cond 7 (.cut 2 [.atom 4, .bool true] [] [] sub0_kindL) (.ask (.bif .len #[135] [.atom 4]) true [] 1 (.atom 8) (.ask (.bin .neq 3 true (.atom 8) (.int .i64 1)) true [] 1 (.atom 9) (.cond 9 (.cut 2 [.atom 4, .bool true] [] [] sub0_kindL) (.ask (.indexAddr 135 (.atom 4) (.int .i64 0)) true [] 1 (.atom 10) (.ask (.fieldAddr 117 (.atom 10) 2) true [] 1 (.atom 11) (.ask (.load 9 (.atom 11)) true [] 1 (.atom 12) (.ask (.bin .neq 9 false (.atom 12) (.atom 0)) true [] 1 (.atom 13) (.cut 2 [.atom 4, .atom 13] [] [] sub0_kindL))))))))))))))
theorem run_kindL : xrun cfg_kindL 400 [] [.code code_kindL] (initT [.atom 0] 0 .leaf id) (listS ⟨.leaf, 0⟩ []) 1 = some tree_kindL := by kernel_rfl
end Go.AI.Lx
/- lex.Kind. -/
namespace Go.AI.Lx
open Go.Proofs Go.Proofs.YtkeaedhoaamfnaaGreatDoor
set_option maxRecDepth 10000
theorem gro_first {s : S} {row : V} {n : Nat} {cs c : List V} {o : Option Nat} (h : Gro 117 4 s row n cs o) (hn : 1 ≤ n) (hc : cs.take 4 = c) {i : Nat} (hi : i < 4) {w : V} (hw : c[i]? = some w) {ty : TypeId} (hl : ∀ s a, loadVar Tryz.prog s ty a = loadCell s a) :
    ∃ X nv, doIndexAddr Tryz.prog 135 (some row) (some 0) = some (.ptr ⟨X, nv, 0⟩) ∧ doFieldAddr Tryz.prog 117 (some (.ptr ⟨X, nv, 0⟩)) i = (doFieldAddr Tryz.prog 117 (some (.ptr ⟨X, nv, 0⟩)) i) ∧ ∀ s', Gro 117 4 s' row n cs o → nxVal1 (doLoad Tryz.prog s' ty (some (.ptr ⟨X, nv, 0 + i⟩))) = some w := by
  cases h with
  | nil => omega
  | row X nv rest n cs h1 h2 h3 =>
    refine ⟨X, nv, ?_, rfl, fun s' hG => ?_⟩
    · have hu : Tryz.prog.underlying 135 = some (.slice 117) := row135.und
      simp only [doIndexAddr, hu, ty_size117, Nat.beq_refl, Bool.true_and]
      rw [show Nat.blt 0 n = true from Nat.ble_eq_true_of_le hn]
      rfl
    · cases hG with
      | row _ _ rest' _ _ g1 g2 g3 =>
        have hv : findVer (⟨nv, 0, cs⟩ :: rest') nv = some ⟨nv, 0, cs⟩ := by simp only [findVer, Nat.beq_refl, cond_true]
        rw [doLoad_ptr, hl]
        simp only [loadCell, g1, hv, ble0, cond_true, Nat.sub_zero, Nat.zero_add]
        have : cs[i]? = some w := by rw [← hw, ← hc, List.getElem?_take, if_pos hi]
        rw [this]; rfl
section
variable {l : List Nat} {s : S} {L : List LProp}
theorem fa117 (X nv i : Nat) (hi : i < 4) : doFieldAddr Tryz.prog 117 (some (.ptr ⟨X, nv, 0⟩)) i = some (.ptr ⟨X, nv, 0 + i⟩) := by
  match i, hi with
  | 0, _ => exact fa117_0 X nv 0
  | 1, _ => exact fa117_1 X nv 0
  | 2, _ => exact fa117_2 X nv 0
  | 3, _ => exact fa117_3 X nv 0
def CutK (l : List Nat) : LProp := fun vs bs D U => ∃ (row : V) (q : Bool), vs = [row, .bool q] ∧ bs = [] ∧ (q = true → kindC l = 0) ∧
  (q = false → ∃ (n : Nat) (cs : List V) (o : Option Nat) (k a p0 : Int) (s1 : S), D = o.toList ∧ U = (fun s => Gro 117 4 s row n cs o) ∧ 1 ≤ n ∧ cs.take 4 = [.int .i64 k, .int .i64 a, .str l, .int .i64 p0] ∧ KindOk l (.int .i64 k) ∧ Gro 117 4 s1 row n cs o)
theorem sub0_kindL_ok {vs : List V} {bs D : List Nat} {U : S → Prop} (h : CutK l vs bs D U) : holds envB [] s (QK l s) sub0_kindL ⟨vs, bs⟩ D U L := by
  obtain ⟨row, q, rfl, rfl, h1, h2⟩ := h
  refine h_cond rfl (fun c1 => ?_) (fun c1 => ?_)
  · exact h_ret fun s1 k1 k2 k3 k4 => qk_0 k1 (h1 c1)
  · obtain ⟨n, cs, o, k, a, p0, s1, rfl, rfl, hn, hc, hk, hG⟩ := h2 c1
    obtain ⟨X, nv, x1, -, x2⟩ := gro_first (i := 0) hG hn hc (by omega) rfl lv3
    refine h_ask1 (.ptr ⟨X, nv, 0⟩) rfl (fun s1 k1 k2 k3 k4 => x1) rfl ?_
    refine h_ask1 (.ptr ⟨X, nv, 0 + 0⟩) rfl (fun s1 k1 k2 k3 k4 => fa117 X nv 0 (by omega)) rfl ?_
    refine h_ask1 (.int .i64 k) rfl (fun s1 k1 k2 k3 k4 => x2 s1 (k3 rfl)) rfl ?_
    exact h_ret fun s1 k1 k2 k3 k4 => ⟨_, _, rfl, hk, k1⟩
theorem kindLW (hb : Bytes l) (hll : l.length < 4611686018427387904) {s : S} (hw : WF s) (hG : GlobOk s) : Cw envB 69 [.str l] s fun v s' => KindOk l v ∧ Fw [] s s' := by
  refine cw_of_co (x_enter (C := cfg_kindL) (e := ⟨[.str l], []⟩) (F := []) rfl Tryz.func69 rfl (by kernel_rfl) run_kindL rfl ⟨rfl, rfl, rfl⟩ rfl hw rfl (by simp) trivial stb_true trivial (by simp) ?_)
  refine h_lenS rfl Tryz.underlying9 rfl rfl ?_
  refine h_gtr rfl rfl rfl ?_
  refine h_if rfl (fun c2 => ?_) (fun c2 => ?_)
  · exact h_ret fun s1 h1 h2 h3 h4 => qk_0 h1 (by unfold kindC; rw [if_pos (.inr (.inl (by omega)))])
  · have hl : l.length ≤ 24 := by omega
    refine h_callD fun s1 k1 k2 k3 k4 => ?_
    obtain ⟨v, s2, hc, ⟨p, row, a, e, rfl, hp, hS⟩, hf⟩ := scannedW hb hl k2 (hG.keep k1.ro)
    rcases hS with ⟨he, hk, rfl⟩ | ⟨rfl, n, c, cs, o, hR, hGr, hcc, hXf⟩
    · refine .inl ⟨[p, .nilslice, .int .i64 a, .int .i64 e], _, s2, [], T0, inferInstance, rfl, by simp [onesV, hp, one_int]; rfl, hc, hf.mono (by simp), trivial, stb_true, trivial, by simp, ?_⟩
      refine h_new fun b1 hb1 hd1 => ?_
      refine h_neq rfl rfl rfl ?_
      refine h_if rfl (fun c3 => ?_) (fun c3 => absurd he c3)
      exact h_cut (CutK l) ⟨_, true, rfl, rfl, fun _ => hk, fun h => by cases h⟩ stb_true (fun vs bs D U h _ _ _ => sub0_kindL_ok h)
    · have hw2 := hf.wf k2
      have hst : Stb o.toList (fun s => Gro 117 4 s row n cs o) := fun s s' h hk _ => h.keep (fun X B hX hB => hk X (by simp [hX]) B hB)
      refine .inl ⟨[p, row, .int .i64 a, .int .i64 0], _, s2, o.toList, fun s => Gro 117 4 s row n cs o, inferInstance, rfl, by simp [onesV, hp, one_int, hGr.one], hc, hf.mono (by simp), trivial, hst, hGr, ?_, ?_⟩
      · intro g hg
        cases o with
        | none => simp at hg
        | some X =>
          simp at hg; subst hg
          exact ⟨hGr.lt hw2, .inr (hXf g rfl)⟩
      refine h_new fun b1 hb1 hd1 => ?_
      refine h_neq rfl rfl rfl ?_
      refine h_if rfl (fun c3 => absurd rfl c3) (fun c3 => ?_)
      refine h_len (n := n) rfl (fun s1 _ _ => hGr.len row135.und) rfl ?_
      refine h_neq rfl rfl rfl ?_
      have hkr := kind_rel hb hl hR
      refine h_if rfl (fun c4 => ?_) (fun c4 => ?_)
      · refine h_cut (CutK l) ⟨_, true, rfl, rfl, fun _ => ?_, fun h => by cases h⟩ hst (fun vs bs D U h _ _ _ => sub0_kindL_ok h)
        rcases hkr with h | ⟨k, a, x, p0, -, -, -, h, -⟩
        · exact h.2
        · exact h (.inl (by omega))
      · rcases hkr with h | ⟨k, a', x, p0, rfl, hn, hx, h5, h6⟩
        · omega
        obtain ⟨X, nv, x1, -, x2⟩ := gro_first (i := 2) hGr hn (hcc hn) (by omega) rfl lv9
        refine h_ask1 (.ptr ⟨X, nv, 0⟩) rfl (fun s1 k1 k2 k3 k4 => x1) rfl ?_
        refine h_ask1 (.ptr ⟨X, nv, 0 + 2⟩) rfl (fun s1 k1 k2 k3 k4 => fa117 X nv 2 (by omega)) rfl ?_
        refine h_ask1 (.str x) rfl (fun s1 k1 k2 k3 k4 => x2 s1 (k3 rfl)) rfl ?_
        refine h_neqS rfl rfl hx hb rfl ?_
        refine h_cut (CutK l) ⟨_, _, rfl, rfl, fun h => h5 (.inr (by simpa using h)), fun h => ?_⟩ hst (fun vs bs D U h _ _ _ => sub0_kindL_ok h)
        have hxl : x = l := by simpa using h
        subst hxl
        exact ⟨n, cs, o, k, a', _, s2, rfl, rfl, hn, hcc hn, h6 (by omega) rfl, hGr⟩
end
end Go.AI.Lx
/- Types: what the executor makes of the functions that read them. -/
namespace Go.AI.Lx
open Go.Proofs Go.Proofs.YtkeaedhoaamfnaaGreatDoor
def anns_isVar : List LoopAnn := []
noncomputable def code_isVar : Code := match Tryz.f43.body with | some c => c | none => .skip
noncomputable def cfg_isVar : Cfg := ⟨envB, Tryz.f43, anns_isVar, [(69, ⟨[], false⟩)], [], 0⟩
def tree_isVar : Tree := .call 69 [.atom 0] [] [] 1 (.atom 1) false (.ask (.bin .eql 3 true (.atom 1) (.int .i64 4)) true [] 1 (.atom 2) (.ret (.atom 2) []))
theorem run_isVar : xrun cfg_isVar 400 [] [.code code_isVar] (initT [.atom 0] 0 .leaf id) (listS ⟨.leaf, 0⟩ []) 1 = some tree_isVar := by kernel_rfl
def anns_isCon : List LoopAnn := []
noncomputable def code_isCon : Code := match Tryz.f68.body with | some c => c | none => .skip
noncomputable def cfg_isCon : Cfg := ⟨envB, Tryz.f68, anns_isCon, [(69, ⟨[], false⟩)], [], 0⟩
def tree_isCon : Tree := .call 69 [.atom 0] [] [] 1 (.atom 1) false (.ask (.bin .eql 3 true (.atom 1) (.int .i64 3)) true [] 1 (.atom 2) (.ret (.atom 2) []))
theorem run_isCon : xrun cfg_isCon 400 [] [.code code_isCon] (initT [.atom 0] 0 .leaf id) (listS ⟨.leaf, 0⟩ []) 1 = some tree_isCon := by kernel_rfl
def anns_isType : List LoopAnn := [⟨15, [(0, false), (1, false), (2, false), (76, false), (77, true)], []⟩]
noncomputable def code_isType : Code := match Tryz.f38.body with | some c => c | none => .skip
noncomputable def cfg_isType : Cfg := ⟨envB, Tryz.f38, anns_isType, [(43, ⟨[], false⟩), (68, ⟨[], false⟩), (38, ⟨[(2, [0])], false⟩)], [⟨12, [(0, false), (1, false), (2, false), (8, true)], []⟩, ⟨100013, [(0, false), (1, false), (2, false), (71, true)], []⟩], 1⟩
def sub0_isType : Tree := .ask (.bin .lss 3 false (.atom 3) (.atom 2)) true [] 1 (.atom 5) (.cond 5 (.ask (.nilCheck (.atom 0)) true [] 1 (.atom 6) (.ask (.fieldAddr 25 (.atom 6) 1) true [] 1 (.atom 7) (.ask (.load 23 (.atom 7)) true [] 1 (.atom 8) (.ask (.indexAddr 23 (.atom 8) (.atom 3)) true [] 1 (.atom 9) (.ask (.bin .add 3 true (.atom 1) (.int .i64 1)) true [] 1 (.atom 10) (.call 38 [.atom 9, .atom 10, .ptr ⟨0, 0, 0⟩] [(0, .cells 3 false 1 [⟨0, 0, [.atom 4]⟩])] [(0, .cells 3 false 1 [⟨0, 0, [.atom 11]⟩])] 2 (.atom 12) false (.ask (.un .not (.atom 12)) true [] 1 (.atom 13) (.cond 13 (.ret (.bool false) [(0, .cells 3 false 1 [⟨0, 0, [.atom 11]⟩])]) (.ask (.bin .add 3 true (.atom 3) (.int .i64 1)) true [] 1 (.atom 14) (.back 0 [.atom 0, .atom 1, .atom 2, .atom 14, .atom 11] [0])))))))))) (.ret (.bool true) [(0, .cells 3 false 1 [⟨0, 0, [.atom 4]⟩])]))
def sub1_isType : Tree := .cond 2 (.ret (.bool false) [(0, .cells 3 false 1 [⟨0, 0, [.atom 3]⟩])]) (.ask (.nilCheck (.atom 0)) true [] 1 (.atom 4) (.ask (.fieldAddr 25 (.atom 4) 1) true [] 1 (.atom 5) (.ask (.load 23 (.atom 5)) true [] 1 (.atom 6) (.ask (.bif .len #[23] [.atom 6]) true [] 1 (.atom 7) (.loop 0 5 [.atom 0, .atom 1, .atom 7, .int .i64 0, .atom 3] [0] [.cells 3 false 1 [⟨0, 0, [.atom 4]⟩]] sub0_isType)))))
def sub2_isType : Tree := .ask (.un .not (.atom 2)) true [] 1 (.atom 4) (.cond 4 (.cut 4 [.atom 0, .atom 1, .bool true, .atom 3] [0] [.cells 3 false 1 [⟨0, 0, [.atom 3]⟩]] sub1_isType) (.ask (.bin .gtr 3 true (.atom 3) (.int .i64 2000)) true [] 1 (.atom 5) (.cond 5 (.cut 4 [.atom 0, .atom 1, .bool true, .atom 3] [0] [.cells 3 false 1 [⟨0, 0, [.atom 3]⟩]] sub1_isType) (.ask (.bin .gtr 3 true (.atom 1) (.int .i64 100)) true [] 1 (.atom 6) (.cut 4 [.atom 0, .atom 1, .atom 6, .atom 3] [0] [.cells 3 false 1 [⟨0, 0, [.atom 3]⟩]] sub1_isType)))))
def tree_isType : Tree := .ask (.bin .add 3 true (.atom 2) (.int .i64 1)) true [] 1 (.atom 3) (.ask (.nilCheck (.atom 0)) true [] 1 (.atom 4) (.ask (.fieldAddr 25 (.atom 4) 1) true [] 1 (.atom 5) (.ask (.load 23 (.atom 5)) true [] 1 (.atom 6) (.ask (.bif .len #[23] [.atom 6]) true [] 1 (.atom 7) (.ask (.nilCheck (.atom 0)) true [] 1 (.atom 8) (.ask (.fieldAddr 25 (.atom 8) 0) true [] 1 (.atom 9) (.ask (.load 9 (.atom 9)) true [] 1 (.atom 10) (.ask (.bin .eql 9 true (.atom 10) (.str [73, 110, 116])) true [] 1 (.atom 11) (.cond 11 (.ask (.bin .eql 3 true (.atom 7) (.int .i64 0)) true [] 1 (.atom 12) (.cut 4 [.atom 0, .atom 1, .atom 12, .atom 3] [0] [.cells 3 false 1 [⟨0, 0, [.atom 3]⟩]] sub2_isType)) (.ask (.bin .eql 9 true (.atom 10) (.str [45, 62])) true [] 1 (.atom 12) (.cond 12 (.ask (.bin .eql 3 true (.atom 7) (.int .i64 2)) true [] 1 (.atom 13) (.cut 4 [.atom 0, .atom 1, .atom 13, .atom 3] [0] [.cells 3 false 1 [⟨0, 0, [.atom 3]⟩]] sub2_isType)) (.ask (.bin .eql 9 true (.atom 10) (.str [44])) true [] 1 (.atom 13) (.cond 13 (.ask (.bin .geq 3 true (.atom 7) (.int .i64 2)) true [] 1 (.atom 14) (.cond 14 (.ask (.bin .leq 3 true (.atom 7) (.int .i64 4)) true [] 1 (.atom 15) (.cut 4 [.atom 0, .atom 1, .atom 15, .atom 3] [0] [.cells 3 false 1 [⟨0, 0, [.atom 3]⟩]] sub2_isType)) (.cut 4 [.atom 0, .atom 1, .bool false, .atom 3] [0] [.cells 3 false 1 [⟨0, 0, [.atom 3]⟩]] sub2_isType))) (.ask (.nilCheck (.atom 0)) true [] 1 (.atom 14) (.ask (.fieldAddr 25 (.atom 14) 0) true [] 1 (.atom 15) (.ask (.load 9 (.atom 15)) true [] 1 (.atom 16) (.call 43 [.atom 16] [] [] 1 (.atom 17) false (.cond 17 (.ask (.bin .eql 3 true (.atom 7) (.int .i64 0)) true [] 1 (.atom 18) (.cond 18 (.cut 4 [.atom 0, .atom 1, .bool true, .atom 3] [0] [.cells 3 false 1 [⟨0, 0, [.atom 3]⟩]] sub2_isType) (.ask (.nilCheck (.atom 0)) true [] 1 (.atom 19) (.ask (.fieldAddr 25 (.atom 19) 0) true [] 1 (.atom 20) (.ask (.load 9 (.atom 20)) true [] 1 (.atom 21) (.call 68 [.atom 21] [] [] 1 (.atom 22) false (.cond 22 (.ask (.bin .leq 3 true (.atom 7) (.int .i64 16)) true [] 1 (.atom 23) (.cut 4 [.atom 0, .atom 1, .atom 23, .atom 3] [0] [.cells 3 false 1 [⟨0, 0, [.atom 3]⟩]] sub2_isType)) (.cut 4 [.atom 0, .atom 1, .bool false, .atom 3] [0] [.cells 3 false 1 [⟨0, 0, [.atom 3]⟩]] sub2_isType)))))))) (.ask (.nilCheck (.atom 0)) true [] 1 (.atom 18) (.ask (.fieldAddr 25 (.atom 18) 0) true [] 1 (.atom 19) (.ask (.load 9 (.atom 19)) true [] 1 (.atom 20) (.call 68 [.atom 20] [] [] 1 (.atom 21) false (.cond 21 (.ask (.bin .leq 3 true (.atom 7) (.int .i64 16)) true [] 1 (.atom 22) (.cut 4 [.atom 0, .atom 1, .atom 22, .atom 3] [0] [.cells 3 false 1 [⟨0, 0, [.atom 3]⟩]] sub2_isType)) (.cut 4 [.atom 0, .atom 1, .bool false, .atom 3] [0] [.cells 3 false 1 [⟨0, 0, [.atom 3]⟩]] sub2_isType))))))))))))))))))))))))
theorem run_isType : xrun cfg_isType 400 [] [.code code_isType] (initT [.atom 0, .atom 1, .ptr ⟨0, 0, 0⟩] 0 .leaf id) (listS ⟨.leaf, 0⟩ [.cells 3 false 1 [⟨0, 0, [.atom 2]⟩]]) 3 = some tree_isType := by kernel_rfl
def anns_sizeI : List LoopAnn := []
noncomputable def code_sizeI : Code := match Tryz.f13.body with | some c => c | none => .skip
noncomputable def cfg_sizeI : Cfg := ⟨envB, Tryz.f13, anns_sizeI, [(38, ⟨[(2, [0])], false⟩)], [], 0⟩
def tree_sizeI : Tree := .new (.new (.call 38 [.ptr ⟨0, 0, 0⟩, .int .i64 1, .ptr ⟨1, 0, 0⟩] [(0, .cells 25 false 1 [⟨0, 0, [.atom 0, .atom 1]⟩]), (1, .cells 3 false 1 [⟨0, 0, [.int .i64 0]⟩])] [(1, .cells 3 false 1 [⟨0, 0, [.atom 2]⟩])] 2 (.atom 3) false (.ask (.un .not (.atom 3)) true [] 1 (.atom 4) (.cond 4 (.ret (.int .i64 0) []) (.ret (.atom 2) [])))))
theorem run_sizeI : xrun cfg_sizeI 400 [] [.code code_sizeI] (initT [.agg [.atom 0, .atom 1]] 0 .leaf id) (listS ⟨.leaf, 0⟩ []) 2 = some tree_sizeI := by kernel_rfl
def anns_count : List LoopAnn := [⟨3, [(1, false), (2, false), (5, true), (6, true)], []⟩]
noncomputable def code_count : Code := match Tryz.f39.body with | some c => c | none => .skip
noncomputable def cfg_count : Cfg := ⟨envB, Tryz.f39, anns_count, [(39, ⟨[], false⟩)], [], 0⟩
def tree_count : Tree := .new (.loop 0 5 [.atom 2, .int .i64 1, .int .i64 0, .atom 0, .atom 1] [0] [.cells 25 false 1 [⟨0, 0, [.atom 3, .atom 4]⟩]] (.ask (.bif .len #[23] [.atom 4]) true [] 1 (.atom 5) (.ask (.bin .lss 3 false (.atom 2) (.atom 5)) true [] 1 (.atom 6) (.cond 6 (.ask (.bin .leq 3 false (.atom 1) (.atom 0)) true [] 1 (.atom 7) (.cond 7 (.ask (.indexAddr 23 (.atom 4) (.atom 2)) true [] 1 (.atom 8) (.ask (.load 25 (.atom 8)) true [] 2 (.agg [.atom 9, .atom 10]) (.ask (.bin .sub 3 false (.atom 0) (.atom 1)) true [] 1 (.atom 11) (.call 39 [.agg [.atom 9, .atom 10], .atom 11] [] [] 1 (.atom 12) false (.ask (.bin .add 3 false (.atom 1) (.atom 12)) true [] 1 (.atom 13) (.ask (.bin .add 3 true (.atom 2) (.int .i64 1)) true [] 1 (.atom 14) (.back 0 [.atom 0, .atom 13, .atom 14, .atom 3, .atom 4] [0]))))))) (.ret (.atom 1) []))) (.ret (.atom 1) [])))))
theorem run_count : xrun cfg_count 400 [] [.code code_count] (initT [.agg [.atom 0, .atom 1], .atom 2] 0 .leaf id) (listS ⟨.leaf, 0⟩ []) 3 = some tree_count := by kernel_rfl
def anns_deep : List LoopAnn := [⟨3, [(1, false), (3, true), (4, true)], []⟩]
noncomputable def code_deep : Code := match Tryz.f65.body with | some c => c | none => .skip
noncomputable def cfg_deep : Cfg := ⟨envB, Tryz.f65, anns_deep, [(65, ⟨[], false⟩)], [], 0⟩
def tree_deep : Tree := .new (.loop 0 4 [.int .i64 0, .int .i64 0, .atom 0, .atom 1] [0] [.cells 25 false 1 [⟨0, 0, [.atom 2, .atom 3]⟩]] (.ask (.bif .len #[23] [.atom 3]) true [] 1 (.atom 4) (.ask (.bin .lss 3 false (.atom 1) (.atom 4)) true [] 1 (.atom 5) (.cond 5 (.ask (.indexAddr 23 (.atom 3) (.atom 1)) true [] 1 (.atom 6) (.ask (.load 25 (.atom 6)) true [] 2 (.agg [.atom 7, .atom 8]) (.call 65 [.agg [.atom 7, .atom 8]] [] [] 1 (.atom 9) false (.ask (.bif .max #[3, 3] [.atom 0, .atom 9]) true [] 1 (.atom 10) (.ask (.bin .add 3 true (.atom 1) (.int .i64 1)) true [] 1 (.atom 11) (.back 0 [.atom 10, .atom 11, .atom 2, .atom 3] [0])))))) (.ask (.bin .add 3 true (.atom 0) (.int .i64 1)) true [] 1 (.atom 6) (.ret (.atom 6) []))))))
theorem run_deep : xrun cfg_deep 400 [] [.code code_deep] (initT [.agg [.atom 0, .atom 1]] 0 .leaf id) (listS ⟨.leaf, 0⟩ []) 2 = some tree_deep := by kernel_rfl
def anns_formed : List LoopAnn := [⟨2, [(1, false), (3, true)], []⟩]
noncomputable def code_formed : Code := match Tryz.f66.body with | some c => c | none => .skip
noncomputable def cfg_formed : Cfg := ⟨envB, Tryz.f66, anns_formed, [(66, ⟨[], false⟩), (45, ⟨[], false⟩)], [], 0⟩
def tree_formed : Tree := .new (.loop 0 3 [.int .i64 0, .atom 0, .atom 1] [0] [.cells 25 false 1 [⟨0, 0, [.atom 1, .atom 2]⟩]] (.ask (.bif .len #[23] [.atom 2]) true [] 1 (.atom 3) (.ask (.bin .lss 3 false (.atom 0) (.atom 3)) true [] 1 (.atom 4) (.cond 4 (.ask (.indexAddr 23 (.atom 2) (.atom 0)) true [] 1 (.atom 5) (.ask (.load 25 (.atom 5)) true [] 2 (.agg [.atom 6, .atom 7]) (.call 66 [.agg [.atom 6, .atom 7]] [] [] 1 (.atom 8) false (.ask (.un .not (.atom 8)) true [] 1 (.atom 9) (.cond 9 (.ret (.bool false) []) (.ask (.bin .add 3 true (.atom 0) (.int .i64 1)) true [] 1 (.atom 10) (.back 0 [.atom 10, .atom 1, .atom 2] [0]))))))) (.ask (.bin .eql 9 true (.atom 1) (.str [45, 62])) true [] 1 (.atom 5) (.cond 5 (.ask (.bif .len #[23] [.atom 2]) true [] 1 (.atom 6) (.ask (.bin .eql 3 true (.atom 6) (.int .i64 2)) true [] 1 (.atom 7) (.ret (.atom 7) []))) (.ask (.bin .eql 9 true (.atom 1) (.str [44])) true [] 1 (.atom 6) (.cond 6 (.ask (.bif .len #[23] [.atom 2]) true [] 1 (.atom 7) (.ask (.bin .geq 3 true (.atom 7) (.int .i64 2)) true [] 1 (.atom 8) (.cond 8 (.ask (.bif .len #[23] [.atom 2]) true [] 1 (.atom 9) (.ask (.bin .leq 3 true (.atom 9) (.int .i64 4)) true [] 1 (.atom 10) (.ret (.atom 10) []))) (.ret (.bool false) [])))) (.ask (.bin .eql 9 true (.atom 1) (.str [73, 110, 116])) true [] 1 (.atom 7) (.cond 7 (.ask (.bif .len #[23] [.atom 2]) true [] 1 (.atom 8) (.ask (.bin .eql 3 true (.atom 8) (.int .i64 0)) true [] 1 (.atom 9) (.ret (.atom 9) []))) (.call 45 [.atom 1] [] [] 1 (.atom 8) false (.ask (.bin .eql 3 true (.atom 8) (.int .i64 4)) true [] 1 (.atom 9) (.cond 9 (.ask (.bif .len #[23] [.atom 2]) true [] 1 (.atom 10) (.ask (.bin .eql 3 true (.atom 10) (.int .i64 0)) true [] 1 (.atom 11) (.cond 11 (.ret (.bool true) []) (.ask (.bin .eql 3 true (.atom 8) (.int .i64 3)) true [] 1 (.atom 12) (.cond 12 (.ask (.bif .len #[23] [.atom 2]) true [] 1 (.atom 13) (.ask (.bin .leq 3 true (.atom 13) (.int .i64 16)) true [] 1 (.atom 14) (.ret (.atom 14) []))) (.ret (.bool false) [])))))) (.ask (.bin .eql 3 true (.atom 8) (.int .i64 3)) true [] 1 (.atom 10) (.cond 10 (.ask (.bif .len #[23] [.atom 2]) true [] 1 (.atom 11) (.ask (.bin .leq 3 true (.atom 11) (.int .i64 16)) true [] 1 (.atom 12) (.ret (.atom 12) []))) (.ret (.bool false) []))))))))))))))))
theorem run_formed : xrun cfg_formed 400 [] [.code code_formed] (initT [.agg [.atom 0, .atom 1]] 0 .leaf id) (listS ⟨.leaf, 0⟩ []) 2 = some tree_formed := by kernel_rfl
def anns_valid : List LoopAnn := []
noncomputable def code_valid : Code := match Tryz.f36.body with | some c => c | none => .skip
noncomputable def cfg_valid : Cfg := ⟨envB, Tryz.f36, anns_valid, [(39, ⟨[], false⟩), (65, ⟨[], false⟩), (66, ⟨[], false⟩)], [], 0⟩
def tree_valid : Tree := .new (.call 39 [.agg [.atom 0, .atom 1], .int .i64 2000] [] [] 1 (.atom 2) false (.ask (.bin .leq 3 true (.atom 2) (.int .i64 2000)) true [] 1 (.atom 3) (.cond 3 (.call 65 [.agg [.atom 0, .atom 1]] [] [] 1 (.atom 4) false (.ask (.bin .leq 3 true (.atom 4) (.int .i64 100)) true [] 1 (.atom 5) (.cond 5 (.call 66 [.agg [.atom 0, .atom 1]] [] [] 1 (.atom 6) false (.ret (.atom 6) [])) (.ret (.bool false) [])))) (.ret (.bool false) []))))
theorem run_valid : xrun cfg_valid 400 [] [.code code_valid] (initT [.agg [.atom 0, .atom 1]] 0 .leaf id) (listS ⟨.leaf, 0⟩ []) 2 = some tree_valid := by kernel_rfl
def anns_isVarR : List LoopAnn := []
noncomputable def code_isVarR : Code := match Tryz.f67.body with | some c => c | none => .skip
noncomputable def cfg_isVarR : Cfg := ⟨envB, Tryz.f67, anns_isVarR, [], [], 0⟩
def tree_isVarR : Tree := .new (.ask (.bif .len #[9] [.atom 0]) true [] 1 (.atom 2) (.ask (.bin .gtr 3 true (.atom 2) (.int .i64 0)) true [] 1 (.atom 3) (.cond 3 (.ask (.index 9 (.atom 0) (.int .i64 0)) true [] 1 (.atom 4) (.ask (.bin .eql 5 true (.atom 4) (.int .u8 39)) true [] 1 (.atom 5) (.ret (.atom 5) []))) (.ret (.bool false) []))))
theorem run_isVarR : xrun cfg_isVarR 400 [] [.code code_isVarR] (initT [.agg [.atom 0, .atom 1]] 0 .leaf id) (listS ⟨.leaf, 0⟩ []) 2 = some tree_isVarR := by kernel_rfl
def anns_find : List LoopAnn := [⟨2, [(0, false), (1, false), (5, true)], []⟩]
noncomputable def code_find : Code := match Tryz.f42.body with | some c => c | none => .skip
noncomputable def cfg_find : Cfg := ⟨envB, Tryz.f42, anns_find, [], [], 0⟩
def tree_find : Tree := .loop 0 3 [.atom 0, .atom 1, .int .i64 0] [] [] (.ask (.bif .len #[22] [.atom 0]) true [] 1 (.atom 3) (.ask (.bin .lss 3 false (.atom 2) (.atom 3)) true [] 1 (.atom 4) (.cond 4 (.ask (.indexAddr 22 (.atom 0) (.atom 2)) true [] 1 (.atom 5) (.ask (.load 9 (.atom 5)) true [] 1 (.atom 6) (.ask (.bin .eql 9 false (.atom 6) (.atom 1)) true [] 1 (.atom 7) (.cond 7 (.ret (.atom 2) []) (.ask (.bin .add 3 true (.atom 2) (.int .i64 1)) true [] 1 (.atom 8) (.back 0 [.atom 0, .atom 1, .atom 8] [])))))) (.ret (.int .i64 (-1)) []))))
theorem run_find : xrun cfg_find 400 [] [.code code_find] (initT [.atom 0, .atom 1] 0 .leaf id) (listS ⟨.leaf, 0⟩ []) 2 = some tree_find := by kernel_rfl
def anns_has : List LoopAnn := []
noncomputable def code_has : Code := match Tryz.f41.body with | some c => c | none => .skip
noncomputable def cfg_has : Cfg := ⟨envB, Tryz.f41, anns_has, [(42, ⟨[], false⟩)], [], 0⟩
def tree_has : Tree := .call 42 [.atom 0, .atom 1] [] [] 1 (.atom 2) false (.ask (.bin .geq 3 true (.atom 2) (.int .i64 0)) true [] 1 (.atom 3) (.ret (.atom 3) []))
theorem run_has : xrun cfg_has 400 [] [.code code_has] (initT [.atom 0, .atom 1] 0 .leaf id) (listS ⟨.leaf, 0⟩ []) 2 = some tree_has := by kernel_rfl
end Go.AI.Lx
/- Types as data; how they lie in memory. -/
namespace Go.AI.Lx
open Go.Proofs Go.Proofs.YtkeaedhoaamfnaaGreatDoor
set_option maxRecDepth 10000
theorem _root_.Go.AI.h_askN {E : Env} {F : List Nat} {s0 : S} {Q : Out → Prop} {σ R : List V} {β : List Nat} {D : List Nat} {U : S → Prop} {L : List LProp} {k : Tree} {u : Bool} {own : List (Nat × Blk)} {v : V} {q : Ask} {n : Nat} (vs : List V) (w : V) (hl : vs.length = n) (h1 : onesV vs)
    (hr : ∀ s, Fw F s0 s → WF s → (u = true → U s) → facts ⟨σ, β⟩ s own → (q.sub ⟨σ, β⟩).run E.P s = some w) [hs : Apnd σ vs R] (hv : sub ⟨R, β⟩ v = w) (hk : holds E F s0 Q k ⟨R, β⟩ D U L) :
    holds E F s0 Q (.ask q u own n v k) ⟨σ, β⟩ D U L := h_ask vs hl h1 (fun s a b c d => by rw [hv]; exact hr s a b c d) hk
inductive Ty where
  | mk (name : List Nat) (args : List Ty)
inductive RowV (K : S → Prop) (sz : Nat) : V → List (List V) → Prop
  | nil : RowV K sz .nilslice []
  | zero (a : Ad) (c : Option Nat) (z : Nat) : RowV K sz (.slice a 0 0 c z) []
  | row (a : Ad) (n : Nat) (c : Option Nat) (cs : List (List V)) : n = cs.length → n < 4611686018427387904 → (∀ i x, cs[i]? = some x → ∀ s, K s → loadCells s (addC a (i * sz)) sz = some x) → RowV K sz (.slice a 0 n c sz) cs
theorem RowV.mono {K K' : S → Prop} (h : ∀ s, K' s → K s) {sz : Nat} {v : V} {cs : List (List V)} (r : RowV K sz v cs) : RowV K' sz v cs := by
  cases r with
  | nil => exact .nil
  | zero a c z => exact .zero a c z
  | row a n c cs h1 h2 h3 => exact .row a n c cs h1 h2 fun i x hx s hs => h3 i x hx s (h s hs)
theorem RowV.one {K : S → Prop} {sz : Nat} {v : V} {cs : List (List V)} (r : RowV K sz v cs) : v.one = true := by cases r <;> rfl
theorem RowV.lt {K : S → Prop} {sz : Nat} {v : V} {cs : List (List V)} (r : RowV K sz v cs) : cs.length < 4611686018427387904 := by
  cases r with
  | nil => simp
  | zero a c z => simp
  | row a n c cs h1 h2 h3 => omega
theorem RowV.len {K : S → Prop} {sz : Nat} {v : V} {cs : List (List V)} (r : RowV K sz v cs) {ty e : TypeId} (hu : Tryz.prog.underlying ty = some (.slice e)) (s : S) : lenV Tryz.prog ty s v = some (.int .i64 ((cs.length : Nat) : Int)) := by
  cases r with
  | nil => simp only [lenV, hu]; rfl
  | zero a c z => simp only [lenV, hu, mkInt_eq]; rfl
  | row a n c cs h1 h2 h3 => simp only [lenV, hu, mkInt_eq, h1]
theorem RowV.at {K : S → Prop} {sz : Nat} {v : V} {cs : List (List V)} (r : RowV K sz v cs) {ty e : TypeId} (hu : Tryz.prog.underlying ty = some (.slice e)) (hs : size Tryz.prog e = some sz) {i : Nat} {x : List V} (hx : cs[i]? = some x) :
    ∃ p, doIndexAddr Tryz.prog ty (some v) (some i) = some (.ptr p) ∧ ∀ s, K s → loadCells s p sz = some x := by
  cases r with
  | nil => simp at hx
  | zero a c z => simp at hx
  | row a n c cs h1 h2 h3 =>
    have hi : i < cs.length := by
      rcases Nat.lt_or_ge i cs.length with h | h
      · exact h
      · rw [List.getElem?_eq_none h] at hx; cases hx
    refine ⟨addC a (i * sz), ?_, h3 i x hx⟩
    simp only [doIndexAddr, hu, hs, Nat.beq_refl, Bool.true_and]
    rw [show Nat.blt i n = true from Nat.ble_eq_true_of_le (by omega)]
    rfl
theorem cell_of {s : S} {a : Ad} {n : Nat} {l : List V} (h : loadCells s a n = some l) {i : Nat} {x : V} (hx : l[i]? = some x) : loadCell s (addC a i) = some x := by
  have key : ∀ (u : Ver), (bif Nat.ble u.lo a.c then takeExact n (u.cells.drop (a.c - u.lo)) else none) = some l → (bif Nat.ble u.lo (a.c + i) then u.cells[a.c + i - u.lo]? else none) = some x := fun u hu => by
    cases hb : Nat.ble u.lo a.c with
    | false => rw [hb] at hu; cases hu
    | true =>
      rw [hb] at hu
      have hle := Nat.le_of_ble_eq_true hb
      obtain ⟨rfl, h2⟩ := takeExact_spec hu
      rw [show Nat.ble u.lo (a.c + i) = true from Nat.ble_eq_true_of_le (by omega)]
      simp only [cond_true]
      rw [List.getElem?_take] at hx
      split at hx
      · rw [List.getElem?_drop] at hx
        rw [show a.c + i - u.lo = a.c - u.lo + i by omega]; exact hx
      · cases hx
  unfold loadCells at h
  unfold loadCell
  simp only [addC]
  split at h
  · rename_i e1 e2 e3 vers hg
    split at h
    · rename_i u hu; exact key u h
    · cases h
  · rename_i vers hg
    split at h
    · rename_i u hu; exact key u h
    · cases h
  · cases h
mutual
def RdT (K : S → Prop) : Ty → V → V → Prop
  | .mk name args, nm, row => nm = .str name ∧ Bytes name ∧ name.length < 4611686018427387904 ∧ ∃ cs, RowV K 2 row cs ∧ RdTs K args cs
def RdTs (K : S → Prop) : List Ty → List (List V) → Prop
  | [], cs => cs = []
  | t :: r, cs => ∃ nm rw cs', cs = [nm, rw] :: cs' ∧ RdT K t nm rw ∧ RdTs K r cs'
end
mutual
theorem RdT.mono {K K' : S → Prop} (h : ∀ s, K' s → K s) : ∀ {t : Ty} {nm row : V}, RdT K t nm row → RdT K' t nm row
  | .mk name args, nm, row, r => by
    simp only [RdT] at r ⊢
    obtain ⟨h1, h2, h3, cs, h4, h5⟩ := r
    exact ⟨h1, h2, h3, cs, h4.mono h, RdTs.mono h h5⟩
theorem RdTs.mono {K K' : S → Prop} (h : ∀ s, K' s → K s) : ∀ {l : List Ty} {cs : List (List V)}, RdTs K l cs → RdTs K' l cs
  | [], cs, r => by simpa only [RdTs] using r
  | t :: l, cs, r => by
    simp only [RdTs] at r ⊢
    obtain ⟨nm, rw, cs', h1, h2, h3⟩ := r
    exact ⟨nm, rw, cs', h1, RdT.mono h h2, RdTs.mono h h3⟩
end
theorem RdTs.len {K : S → Prop} : ∀ {l : List Ty} {cs : List (List V)}, RdTs K l cs → cs.length = l.length
  | [], cs, r => by simp only [RdTs] at r; simp [r]
  | t :: l, cs, r => by
    simp only [RdTs] at r
    obtain ⟨nm, rw, cs', rfl, h2, h3⟩ := r
    simp [RdTs.len h3]
theorem RdTs.at {K : S → Prop} : ∀ {l : List Ty} {cs : List (List V)} {i : Nat} {t : Ty}, RdTs K l cs → l[i]? = some t → ∃ nm rw, cs[i]? = some [nm, rw] ∧ RdT K t nm rw
  | [], cs, i, t, r, h => by simp at h
  | t' :: l, cs, i, t, r, h => by
    simp only [RdTs] at r
    obtain ⟨nm, rw, cs', rfl, h2, h3⟩ := r
    cases i with
    | zero => simp at h; subst h; exact ⟨nm, rw, rfl, h2⟩
    | succ i => simpa using RdTs.at h3 (by simpa using h)
mutual
def szT : Ty → Nat
  | .mk _ args => szTs args + 1
def szTs : List Ty → Nat
  | [] => 0
  | t :: r => szT t + szTs r
end
theorem szTs_at : ∀ {l : List Ty} {i : Nat} {t : Ty}, l[i]? = some t → szT t ≤ szTs l
  | [], i, t, h => by simp at h
  | t' :: l, 0, t, h => by simp at h; subst h; simp only [szTs]; omega
  | t' :: l, i + 1, t, h => by have := szTs_at (l := l) (i := i) (t := t) (by simpa using h); simp only [szTs]; omega
theorem ty_size25 : size Tryz.prog 25 = some 2 := by kernel_rfl
theorem ty_agg25 : isAggT Tryz.prog 25 = some true := by kernel_rfl
theorem lv25 (s : S) (a : Ad) : loadVar Tryz.prog s 25 a = (loadCells s a 2).map .agg := by simp only [loadVar, ty_agg25, ty_size25, Option.bind]
theorem und23 : Tryz.prog.underlying 23 = some (.slice 25) := by kernel_rfl
theorem und22 : Tryz.prog.underlying 22 = some (.slice 9) := by kernel_rfl
theorem ty_agg23 : isAggT Tryz.prog 23 = some false := by kernel_rfl
theorem lv23 (s : S) (a : Ad) : loadVar Tryz.prog s 23 a = loadCell s a := by simp only [loadVar, ty_agg23]
theorem fa25_0 (f v c : Nat) : doFieldAddr Tryz.prog 25 (some (.ptr ⟨f, v, c⟩)) 0 = some (.ptr ⟨f, v, c + 0⟩) := by kernel_rfl
theorem fa25_1 (f v c : Nat) : doFieldAddr Tryz.prog 25 (some (.ptr ⟨f, v, c⟩)) 1 = some (.ptr ⟨f, v, c + 1⟩) := by kernel_rfl
theorem fa25 (p : Ad) (i : Nat) (hi : i < 2) : doFieldAddr Tryz.prog 25 (some (.ptr p)) i = some (.ptr (addC p i)) := by
  match i, hi with
  | 0, _ => exact fa25_0 p.f p.v p.c
  | 1, _ => exact fa25_1 p.f p.v p.c
theorem load_agg {s : S} {p : Ad} {l : List V} (h : loadCells s p 2 = some l) : nxVal1 (doLoad Tryz.prog s 25 (some (.ptr p))) = some (.agg l) := by
  rw [doLoad_ptr, lv25, h]; rfl
theorem load_cell {s : S} {p : Ad} {n : Nat} {l : List V} (h : loadCells s p n = some l) {i : Nat} {x : V} (hx : l[i]? = some x) {ty : TypeId} (hl : ∀ s a, loadVar Tryz.prog s ty a = loadCell s a) : nxVal1 (doLoad Tryz.prog s ty (some (.ptr (addC p i)))) = some x := by
  rw [doLoad_ptr, hl, cell_of h hx]; rfl
end Go.AI.Lx
