/- What the functions answer in the evaluator: part 12. No conditions beyond those of the row. -/
import Derived.Test.YtkeaedhoaamfnaaGreatDoorL11
import Derived.Test.YtkeaedhoaamfnaaGreatDoorL9
set_option linter.unusedVariables false
set_option linter.unusedSimpArgs false
noncomputable section
/- The reference's Apply; InferApplies. -/
namespace Go.AI.Lx
open Go.Proofs Go.Proofs.YtkeaedhoaamfnaaGreatDoor
set_option maxRecDepth 10000
section
variable {m : List (List Nat × Ty)}
mutual
theorem ptR_le : ∀ (t : Ty) (c : Nat), (ptR m t c).2 ≤ c + szT t * 2001
  | .mk name args, c => by
    simp only [ptR, szT]
    split
    · simp only; omega
    · split
      · rename_i x _
        have := cnt_le x 2000
        simp only; rw [Nat.succ_mul]; omega
      · have := ptRs_le args (c + 1)
        simp only; rw [Nat.succ_mul]; omega
theorem ptRs_le : ∀ (l : List Ty) (c : Nat), (ptRs m l c).2 ≤ c + szTs l * 2001
  | [], c => by simp [ptRs, szTs]
  | t :: r, c => by
    simp only [ptRs, szTs]
    have h1 := ptR_le t c
    have h2 := ptRs_le r (ptR m t c).2
    rw [Nat.add_mul]; omega
end
end
def apR (l : List (List Nat × Ty)) (t : Ty) : Ty × Int :=
  if vld t = true then (if 2000 < l.length then (.mk [] [], 1) else if bOk l [] = true then (if (ptR l t 0).2 ≤ 2000 ∧ vld (ptR l t 0).1 = true then ((ptR l t 0).1, 0) else (.mk [] [], 39)) else (.mk [] [], 1)) else (.mk [] [], 32)
theorem ap_same (l : List (List Nat × Ty)) (t : Ty) : apI l t = apR l t := by
  unfold apI apR
  split
  · rename_i hv
    split
    · rfl
    · split
      · rename_i hb
        obtain ⟨h1, h2⟩ := put_same (bOk_ok hb) (vld_parts hv).2.2
        by_cases h : vld (ptI l t 0).1 = true
        · rw [if_pos h, if_pos (h1.1 h), h2 h]
        · rw [if_neg h, if_neg (fun hh => h (h1.2 hh))]
      · rfl
  · rfl
section
variable {K : S → Prop} {n : Nat} {l : List (List Nat × Ty)} {bv nm rw : V}
def ArInv (l : List (List Nat × Ty)) (s : S) (bv nm rw : V) (b1 b2 : Nat) (j : Nat) : LProp := fun vs bs D U => ∃ (i : Nat) (o : Option Nat) (v : V), i ≤ l.length ∧ j = l.length - i ∧ vs = [bv, v, .int .i64 ((i : Nat) : Int), nm, rw, .str [], .nilslice] ∧ bs = [b1, b2] ∧ D = o.toList ∧ U = UV ((l.take i).map (·.1)) o v ∧
  v.one = true ∧ (∀ X, o = some X → s.next ≤ X) ∧ (∀ x ∈ (l.take i).map (·.1), Bytes x) ∧ bOk (l.drop i) ((l.take i).map (·.1)) = bOk l []
theorem applyRW (hK : Kn K n) {t : Ty} {s : S} (hn : n ≤ s.next) (hB : RdB K l bv) (hR : RdT K t nm rw) (hw : WF s) (hk : K s) : Cw envB 18 [bv, .agg [nm, rw]] s fun v s' => ∃ nm' rw' G, v = .tuple [.agg [nm', rw'], .int .i64 (apR l t).2] ∧ MT K G (apR l t).1 nm' rw' s' ∧ (∀ g ∈ G, s.next ≤ g) ∧ Fw [] s s' := by
  have ho := hR.one
  have hob := hB.one
  have hlt := hB.lt
  have hkk : ∀ s1, Fw [] s s1 → K s1 := fun s1 h1 => hK.still _ _ h1 hk
  refine cw_of_co (x_enter (C := cfg_applyR) (e := ⟨[bv, nm, rw], []⟩) (F := []) (orc_no rfl rfl rfl) Tryz.func18 rfl (by kernel_rfl) run_applyR rfl ⟨rfl, by simp [onesV, ho.1, ho.2, hob], rfl⟩ rfl hw rfl (by simp) trivial stb_true trivial (by simp) ?_)
  show holds envB [] s (QAp (apR l t) K s) _ _ _ _ _
  have no : ∀ {s1 : S} {e : Int}, Fw [] s s1 → apR l t = (.mk [] [], e) → QAp (apR l t) K s ⟨.returned (.tuple [.agg [.str [], .nilslice], .int .i64 e]), none, s1⟩ := fun h1 he => ⟨_, _, rfl, .str [], .nilslice, [], by rw [he], by rw [he]; exact MT.none, by simp, h1⟩
  refine h_new fun b1 hb1 hd1 => ?_
  refine h_new fun b2 hb2 hd2 => ?_
  refine h_callE (.bool (vld t)) (fun s1 h1 h2 h3 h4 => validW hK.still hR h2 (hkk s1 h1)) rfl rfl ?_
  refine h_not rfl rfl ?_
  refine h_cond rfl (fun c3 => ?_) (fun c3 => ?_)
  · have hv : ¬ vld t = true := by simpa using c3
    exact h_ret fun s1 h1 h2 h3 h4 => no h1 (by unfold apR; rw [if_neg hv])
  have hv : vld t = true := by simpa using c3
  refine h_len rfl (fun s1 _ _ => hB.len s1) rfl ?_
  refine h_gtr rfl rfl rfl ?_
  refine h_if rfl (fun c4 => ?_) (fun c4 => ?_)
  · exact h_ret fun s1 h1 h2 h3 h4 => no h1 (by unfold apR; rw [if_pos hv, if_pos (by omega)])
  have hap : apR l t = if bOk l [] = true then (if (ptR l t 0).2 ≤ 2000 ∧ vld (ptR l t 0).1 = true then ((ptR l t 0).1, 0) else (.mk [] [], 39)) else (.mk [] [], 1) := by unfold apR; rw [if_pos hv, if_neg (by omega)]
  refine h_loop (ArInv l s bv nm rw b1 b2) l.length ⟨0, none, .nilslice, by omega, rfl, rfl, rfl, rfl, funext fun s => propext ⟨fun _ => UV.nil s, fun _ => trivial⟩, rfl, (fun X h => by cases h), (fun x h => by simp at h), rfl⟩ stb_true ?_
  rintro j _ _ _ _ ⟨i, o, nv, hi, rfl, rfl, rfl, rfl, rfl, hone, hX, hby, hbo⟩ - - -
  refine h_len rfl (fun s1 _ _ => hB.len s1) rfl ?_
  refine h_lss rfl rfl rfl ?_
  refine h_if rfl (fun c5 => ?_) (fun c5 => ?_)
  · obtain ⟨⟨x, tx⟩, hx, hd⟩ := drop_at (show i < l.length by omega)
    rw [hd] at hbo
    simp only [bOk] at hbo
    obtain ⟨p, nm1, rw1, hp, hld, hxb, hxl, hR1⟩ := hB.at hx
    have ho1 := hR1.one
    have hlx : ∀ s1, Fw [] s s1 → nxVal1 (doLoad Tryz.prog s1 9 (some (.ptr p))) = some (.str x) := fun s1 h1 => load_cell (p := p) (i := 0) (hld s1 (hkk s1 h1)) rfl lv9
    have htk : l.take (i + 1) = l.take i ++ [(x, tx)] := by rw [List.take_add_one, hx]; rfl
    have hil : ((l.take i).map (·.1)).length = i := by rw [List.length_map, List.length_take]; omega
    have key : ∀ (q : Bool), (q = false ↔ (kindC x = 4 ∧ vld tx = true ∧ x ∉ (l.take i).map (·.1))) →
        holds envB [] s (QAp (apR l t) K s) sub0_applyR ⟨[bv, nv, .int .i64 ((i : Nat) : Int), .bool q, nm, rw, .str [], .nilslice], [b1, b2]⟩ o.toList (UV ((l.take i).map (·.1)) o nv) [fun vs bs D U => ∃ j', j' < l.length - i ∧ ArInv l s bv nm rw b1 b2 j' vs bs D U] := by
      intro q hq
      refine h_cond rfl (fun c1 => ?_) (fun c1 => ?_)
      · refine h_ret fun s1 h1 h2 h3 h4 => no h1 ?_
        rw [hap, if_neg]
        intro hb
        rw [hb] at hbo
        simp only [Bool.and_eq_true, decide_eq_true_eq] at hbo
        have := hq.2 ⟨hbo.1.1.1, hbo.1.1.2, hbo.1.2⟩
        rw [this] at c1; cases c1
      · obtain ⟨q1, q2, q3⟩ := hq.1 c1
        refine h_ask1 (.ptr p) rfl (fun s1 h1 h2 h3 h4 => hp) rfl ?_
        refine h_ask1 (.ptr p) rfl (fun s1 h1 h2 h3 h4 => fa56a p) rfl ?_
        refine h_ask1 (.str x) rfl (fun s1 h1 h2 h3 h4 => hlx s1 h1) rfl ?_
        refine h_new fun b3 hb3 hd3 => ?_
        refine h_act fun s4 k1 k2 k3 k4 => ?_
        obtain ⟨v', s5, X, hrun, hU, hf, hXl, hXo⟩ := UV.app k3 k2 (b := b3) k4.1 (by omega)
        have hX2 : ∀ Y, some X = some Y → s.next ≤ Y := fun Y hY => by
          cases hY
          rcases hXo with h | h
          · exact hX _ h
          · exact Nat.le_trans k1.next h
        refine ⟨[v'], _, s5, [X], UV ((l.take i).map (·.1) ++ [x]) (some X) v', inferInstance, rfl, by simp [onesV, hU.one], hrun, hf, UV.stb, hU, fun g hg => ?_, ?_⟩
        · simp at hg; subst hg
          refine ⟨hXl, ?_⟩
          rcases hXo with h | h
          · exact .inl (by simp [h])
          · exact .inr h
        refine h_add (r := ((i + 1 : Nat) : Int)) rfl rfl (by rw [show ((i : Nat) : Int) + 1 = ((i + 1 : Nat) : Int) by omega]; exact wrap_in _ ⟨by omega, by omega⟩) rfl ?_
        refine h_back rfl UV.stb ⟨l.length - (i + 1), by omega, i + 1, some X, v', by omega, rfl, rfl, rfl, rfl, by rw [htk, List.map_append]; rfl, hU.one, hX2, ?_, ?_⟩
        · rw [htk, List.map_append]
          intro z hz
          rcases List.mem_append.1 hz with hz | hz
          · exact hby z hz
          · simp at hz; subst hz; exact hxb
        · rw [htk, List.map_append, ← hbo, decide_eq_true q1, q2, decide_eq_true q3]; rfl
    have cut : ∀ (q : Bool), (q = false ↔ (kindC x = 4 ∧ vld tx = true ∧ x ∉ (l.take i).map (·.1))) → ∀ vs' bs' D' U', (vs' = [bv, nv, .int .i64 ((i : Nat) : Int), .bool q, nm, rw, .str [], .nilslice] ∧ bs' = [b1, b2] ∧ D' = o.toList ∧ U' = UV ((l.take i).map (·.1)) o nv) → vs'.length = 8 → onesV vs' → bs'.length = [0, 1].length →
        holds envB [] s (QAp (apR l t) K s) sub0_applyR ⟨vs', bs'⟩ D' U' [fun vs bs D U => ∃ j', j' < l.length - i ∧ ArInv l s bv nm rw b1 b2 j' vs bs D U] := by
      rintro q hq _ _ _ _ ⟨rfl, rfl, rfl, rfl⟩ - - -
      exact key q hq
    refine h_ask1 (.ptr p) rfl (fun s1 h1 h2 h3 h4 => hp) rfl ?_
    refine h_ask1 (.ptr p) rfl (fun s1 h1 h2 h3 h4 => fa56a p) rfl ?_
    refine h_ask1 (.str x) rfl (fun s1 h1 h2 h3 h4 => hlx s1 h1) rfl ?_
    refine h_call (fun s1 h1 h2 h3 h4 => kindRW hxb hxl h2) ?_
    intro v s1 s2 hkk' _ _
    obtain ⟨k, rfl, -⟩ := id hkk'
    have k4 := kind_is (c := 4) hkk' (by omega) (by omega)
    refine c_one rfl rfl ?_
    refine h_neq rfl rfl rfl ?_
    refine h_if rfl (fun c6 => ?_) (fun c6 => ?_)
    · exact h_cut _ ⟨rfl, rfl, rfl, rfl⟩ UV.stb (cut true ⟨fun h => (by cases h), fun h => absurd (k4.2 h.1) c6⟩)
    · have h4k : kindC x = 4 := k4.1 (by omega)
      refine h_ask1 (.ptr p) rfl (fun s1 h1 h2 h3 h4 => hp) rfl ?_
      refine h_ask1 (.ptr (addC p 1)) rfl (fun s1 h1 h2 h3 h4 => fa56b p) rfl ?_
      refine h_askN [nm1, rw1] (.agg [nm1, rw1]) rfl (by simp [onesV, ho1.1, ho1.2]) (fun s1 h1 h2 h3 h4 => load_bty (hld s1 (hkk s1 h1))) rfl ?_
      refine h_callE (.bool (vld tx)) (fun s1 h1 h2 h3 h4 => validW hK.still hR1 h2 (hkk s1 h1)) rfl rfl ?_
      refine h_not rfl rfl ?_
      refine h_cond rfl (fun c7 => ?_) (fun c7 => ?_)
      · have hvx : ¬ vld tx = true := by simpa using c7
        exact h_cut _ ⟨rfl, rfl, rfl, rfl⟩ UV.stb (cut true ⟨fun h => (by cases h), fun h => absurd h.2.1 hvx⟩)
      · have hvx : vld tx = true := by simpa using c7
        refine h_ask1 (.ptr p) rfl (fun s1 h1 h2 h3 h4 => hp) rfl ?_
        refine h_ask1 (.ptr p) rfl (fun s1 h1 h2 h3 h4 => fa56a p) rfl ?_
        refine h_ask1 (.str x) rfl (fun s1 h1 h2 h3 h4 => hlx s1 h1) rfl ?_
        refine h_callE (.bool (decide (x ∈ (l.take i).map (·.1)))) (fun s1 h1 h2 h3 h4 => hasW UV.still (UV.txs h3 (by omega) hby) hxb h2 h3) rfl rfl ?_
        refine h_cut _ ⟨rfl, rfl, rfl, rfl⟩ UV.stb (cut _ ⟨fun h => ⟨h4k, hvx, of_decide_eq_false h⟩, fun h => decide_eq_false h.2.2⟩)
  · have hil : i = l.length := by omega
    subst hil
    rw [List.drop_length] at hbo
    simp only [bOk] at hbo
    have hbok := bOk_ok hbo.symm
    have hap2 : apR l t = if (ptR l t 0).2 ≤ 2000 ∧ vld (ptR l t 0).1 = true then ((ptR l t 0).1, 0) else (.mk [] [], 39) := by rw [hap, if_pos hbo.symm]
    refine h_new fun b5 hb5 hd5 => ?_
    refine h_callD fun s1 k1 k2 k3 k4 => ?_
    have g5 : s1.get b5 = some (CntB 0) := k4.1
    have hKf : Kf K b5 s1.next := by
      intro F a b hF hf hk
      refine hK F a b (fun g hg => ?_) hf hk
      have := k1.next
      rcases hF g hg with h | h <;> omega
    have hle := ptR_le (m := l) t 0
    have hsz := (vld_parts hv).1
    have h3 : szT t * 2001 ≤ 2000 * 2001 := Nat.mul_le_mul_right _ hsz
    obtain ⟨v, s2, hcall, nm2, rw2, G, rfl, hMT, hGn, hc2, hf⟩ := putRW hKf hB (szT t) t 0 nm rw s1 (Nat.le_refl _) (sz_lt hv) hR k2 (hkk s1 k1) (Nat.le_refl _) g5 (by omega)
    have hoM := hMT.one
    refine .inl ⟨[.int .i64 (((ptR l t 0).2 : Nat) : Int), nm2, rw2], _, s2, G, MT K G (ptR l t 0).1 nm2 rw2, inferInstance, rfl, by simp [onesV, hoM.1, hoM.2, one_int], hcall, hf.mono (by simp [idsOf]; exact .inl rfl), ⟨hc2, trivial⟩, MT.stb, hMT, fun g hg => ⟨hMT.2 g hg, .inr (hGn g hg)⟩, ?_⟩
    refine h_new fun b6 hb6 hd6 => ?_
    have key1 : ∀ (q : Bool) (ba bb : Nat), (q = false ↔ ((ptR l t 0).2 ≤ 2000 ∧ vld (ptR l t 0).1 = true)) → ∀ (L : List LProp),
        holds envB [] s (QAp (apR l t) K s) sub1_applyR ⟨[.bool q, .str [], .nilslice, nm2, rw2], [ba, bb]⟩ G (MT K G (ptR l t 0).1 nm2 rw2) L := by
      intro q ba bb hq L
      refine h_cond rfl (fun c1 => ?_) (fun c1 => ?_)
      · exact h_ret fun s1 h1 h2 h3 h4 => no h1 (by rw [hap2, if_neg (fun h => by rw [hq.2 h] at c1; cases c1)])
      · have hap3 : apR l t = ((ptR l t 0).1, 0) := by rw [hap2, if_pos (hq.1 c1)]
        exact h_ret fun s4 h1 h2 h3 h4 => ⟨_, _, rfl, nm2, rw2, G, by rw [hap3]; rfl, by rw [hap3]; exact h3, fun g hg => Nat.le_trans k1.next (hGn g hg), h1⟩
    refine h_gtr rfl rfl rfl ?_
    refine h_if rfl (fun c8 => ?_) (fun c8 => ?_)
    · refine h_cut (fun vs bs D U => vs = [.bool true, .str [], .nilslice, nm2, rw2] ∧ (∃ ba bb, bs = [ba, bb]) ∧ D = G ∧ U = MT K G (ptR l t 0).1 nm2 rw2) ⟨rfl, ⟨_, _, rfl⟩, rfl, rfl⟩ MT.stb ?_
      rintro _ _ _ _ ⟨rfl, ⟨ba, bb, rfl⟩, rfl, rfl⟩ - - -
      exact key1 true ba bb ⟨fun h => (by cases h), fun h => by omega⟩ _
    · refine h_callE (.bool (vld (ptR l t 0).1)) (fun s1 h1 h2 h3 h4 => validW (h3.kn hK (Nat.le_trans hn h1.next)).still h3.1 h2 ⟨hkk s1 h1, KB.refl _ _⟩) rfl rfl ?_
      refine h_not rfl rfl ?_
      refine h_cut (fun vs bs D U => vs = [.bool (!vld (ptR l t 0).1), .str [], .nilslice, nm2, rw2] ∧ (∃ ba bb, bs = [ba, bb]) ∧ D = G ∧ U = MT K G (ptR l t 0).1 nm2 rw2) ⟨rfl, ⟨_, _, rfl⟩, rfl, rfl⟩ MT.stb ?_
      rintro _ _ _ _ ⟨rfl, ⟨ba, bb, rfl⟩, rfl, rfl⟩ - - -
      exact key1 _ ba bb ⟨fun h => ⟨by omega, by simpa using h⟩, fun h => by rw [h.2]; rfl⟩ _
theorem inferAppliesW (hK : Kn K n) {t : Ty} {s : S} (hn : n ≤ s.next) (hB : RdB K l bv) (hR : RdT K t nm rw) (hw : WF s) (hG : GlobOk s) (hk : K s) : Cw envB 4 [bv, .agg [nm, rw]] s fun v s' => v = .bool true ∧ Fw [] s s' := by
  have ho := hR.one
  have hob := hB.one
  have hkk : ∀ s1, Fw [] s s1 → K s1 := fun s1 h1 => hK.still _ _ h1 hk
  refine cw_of_co (x_enter (C := cfg_inferApplies) (e := ⟨[bv, nm, rw], []⟩) (F := []) (orc_no rfl rfl rfl) Tryz.func4 rfl (by kernel_rfl) run_inferApplies rfl ⟨rfl, by simp [onesV, ho.1, ho.2, hob], rfl⟩ rfl hw rfl (by simp) trivial stb_true trivial (by simp) ?_)
  refine h_new fun b1 hb1 hd1 => ?_
  refine h_callE (.bool true) (fun s1 h1 h2 h3 h4 => cw_fw (saneW s1)) rfl rfl ?_
  refine h_callD fun s1 k1 k2 k3 k4 => ?_
  obtain ⟨v1, s2, hcall, nm1, rw1, G1, rfl, hM1, hG1, hf⟩ := applyIW hK (Nat.le_trans hn k1.next) hB hR k2 (hG.keep k1.ro) (hkk s1 k1)
  have ho1 := hM1.one
  refine .inl ⟨[nm1, rw1, .int .i64 (apI l t).2], _, s2, G1, MT T0 G1 (apI l t).1 nm1 rw1, inferInstance, rfl, by simp [onesV, ho1.1, ho1.2, one_int], hcall, hf.mono (by simp), trivial, MT.stb, hM1, fun g hg => ⟨hM1.2 g hg, .inr (hG1 g hg)⟩, ?_⟩
  refine h_new fun b2 hb2 hd2 => ?_
  refine h_callD fun s3 j1 j2 j3 j4 => ?_
  obtain ⟨v2, s4, hcall2, nm2, rw2, G2, rfl, hM2, hG2, hf2⟩ := applyRW hK (Nat.le_trans hn j1.next) hB hR j2 (hkk s3 j1)
  have ho2 := hM2.one
  have hM1' := j3.keep (KB.fw hf2 (by simp)) hf2.next
  refine .inl ⟨[nm2, rw2, .int .i64 (apR l t).2], _, s4, G1 ++ G2, fun s => MT T0 G1 (apI l t).1 nm1 rw1 s ∧ MT K G2 (apR l t).1 nm2 rw2 s, inferInstance, rfl, by simp [onesV, ho2.1, ho2.2, one_int], hcall2, hf2.mono (by simp), trivial,
    fun a b ⟨h1, h2⟩ hk hn => ⟨h1.keep (fun g hg => hk g (List.mem_append_left _ hg)) hn, h2.keep (fun g hg => hk g (List.mem_append_right _ hg)) hn⟩, ⟨hM1', hM2⟩, fun g hg => ?_, ?_⟩
  · rcases List.mem_append.1 hg with hg | hg
    · exact ⟨hM1'.2 g hg, .inl hg⟩
    · exact ⟨hM2.2 g hg, .inr (hG2 g hg)⟩
  refine h_new fun b3 hb3 hd3 => ?_
  refine h_cond (q := true) rfl (fun _ => ?_) (fun h => by cases h)
  rw [← ap_same]
  refine h_eql rfl rfl rfl ?_
  refine h_if rfl (fun _ => ?_) (fun c => absurd rfl c)
  refine h_callE (.bool (sameT (apI l t).1 (apI l t).1)) (fun s5 h1 h2 h3 h4 => ?_) rfl rfl ?_
  · have hkn1 := h3.1.kn kn_t0 (Nat.zero_le _)
    have hkn2 := h3.2.kn hK (Nat.le_trans hn h1.next)
    exact sameRW (K := fun s' => (T0 s' ∧ KB G1 s5 s') ∧ (K s' ∧ KB G2 s5 s')) (kn_and hkn1 hkn2).still (szT (apI l t).1) _ _ nm1 rw1 nm2 rw2 s5 (Nat.le_refl _) (h3.1.1.mono fun _ h => h.1) (h3.2.1.mono fun _ h => h.2) h2 ⟨⟨trivial, KB.refl _ _⟩, ⟨hkk s5 h1, KB.refl _ _⟩⟩
  exact h_ret fun s1 h1 h2 h3 h4 => ⟨_, _, rfl, by rw [sameT_refl]; rfl, h1⟩
end
end Go.AI.Lx
