/- What the functions answer in the evaluator: part 11. No conditions beyond those of the row. -/
import Derived.Test.YtkeaedhoaamfnaaGreatDoorL10
set_option linter.unusedVariables false
set_option linter.unusedSimpArgs false
noncomputable section
namespace Go.AI.Lx
open Go.Proofs Go.Proofs.YtkeaedhoaamfnaaGreatDoor
set_option maxRecDepth 10000
def VarsW (f : FuncId) (spec : Ty → List (List Nat) → List (List Nat)) (K : S → Prop) (n N : Nat) : Prop := ∀ (t : Ty) (acc : List (List Nat)) (nm rw out : V) (o : Option Nat) (s : S), szT t ≤ N → RdT K t nm rw → WF s → GlobOk s → K s → n ≤ s.next → (∀ X, o = some X → n ≤ X) →
  UV acc o out s → (∀ x ∈ acc, Bytes x) → acc.length + szT t ≤ 99999 →
  Cw envB f [.agg [nm, rw], out] s fun v s' => ∃ o', UV (spec t acc) o' v s' ∧ (∀ X, o' = some X → o = some X ∨ s.next ≤ X) ∧ (∀ x ∈ spec t acc, Bytes x) ∧ Fw o.toList s s'
section
variable {K : S → Prop} {n : Nat}
theorem uv_lt {l : List (List Nat)} {o : Option Nat} {v : V} {s : S} (h : UV l o v s) (hw : WF s) : ∀ g ∈ o.toList, g < s.next := fun g hg => by
  cases o with
  | none => simp at hg
  | some X => simp at hg; subst hg; exact Gro.lt h hw
theorem varsIW (hK : Kn K n) : ∀ N, VarsW 35 vsI K n N := by
  intro N
  induction N with
  | zero => intro t acc nm rw out o s h; cases t; simp only [szT] at h; omega
  | succ N ih =>
    intro t acc nm rw out o s hN hR hw hG hk hn hon hU hba hal
    have ho := hR.one
    have hoo := hU.one
    obtain ⟨name, args⟩ := t
    simp only [RdT] at hR
    obtain ⟨rfl, hb, hbl, cs, hrow, hts⟩ := hR
    have hlen := hts.len
    have hlt := hrow.lt
    simp only [szT] at hN hal
    have hkk : ∀ s1, Fw o.toList s s1 → K s1 := fun s1 h1 => hK o.toList s s1 (fun b hb => by cases o with
      | none => simp at hb
      | some X => simp at hb; subst hb; exact hon b rfl) h1 hk
    refine cw_of_co (x_enter (C := cfg_varsI) (e := ⟨[.str name, rw, out], []⟩) (F := o.toList) (D := o.toList) (U := UV acc o out) (orc_no rfl rfl rfl) Tryz.func35 rfl (by kernel_rfl) run_varsI rfl ⟨rfl, by simp [onesV, ho.2, hoo, one_str], rfl⟩ rfl hw rfl (by simp) trivial UV.stb hU (fun g hg => ⟨uv_lt hU hw g hg, hg, by simp⟩) ?_)
    -- the loop over the arguments
    have key1 : ∀ (acc' : List (List Nat)) (out' : V) (o' : Option Nat) (b1 : Nat) (L : List LProp), out'.one = true → (∀ X, o' = some X → o = some X ∨ s.next ≤ X) → (∀ x ∈ acc', Bytes x) → acc'.length + szTs args ≤ 99999 → vsIs args acc' = vsI (.mk name args) acc →
        holds envB o.toList s (Ret fun v s' => ∃ o', UV (vsI (.mk name args) acc) o' v s' ∧ (∀ X, o' = some X → o = some X ∨ s.next ≤ X) ∧ (∀ x ∈ vsI (.mk name args) acc, Bytes x) ∧ Fw o.toList s s') sub1_varsI ⟨[out', .str name, rw], [b1]⟩ o'.toList (UV acc' o' out') L := by
      intro acc' out' o' b1 L hone hX hb' hl' hv
      refine h_len rfl (fun s1 _ _ => hrow.len und23 s1) rfl ?_
      refine h_loop (fun j vs bs D U => ∃ (i : Nat) (acc2 : List (List Nat)) (out2 : V) (o2 : Option Nat), i ≤ args.length ∧ j = args.length - i ∧ vs = [out2, rw, .int .i64 ((cs.length : Nat) : Int), .int .i64 ((i : Nat) : Int)] ∧ bs = [] ∧ D = o2.toList ∧ U = UV acc2 o2 out2 ∧ out2.one = true ∧ (∀ X, o2 = some X → o = some X ∨ s.next ≤ X) ∧ (∀ x ∈ acc2, Bytes x) ∧ acc2.length + szTs (args.drop i) ≤ 99999 ∧ vsIs (args.drop i) acc2 = vsI (.mk name args) acc)
        args.length ⟨0, acc', out', o', by omega, rfl, rfl, rfl, rfl, rfl, hone, hX, hb', hl', hv⟩ UV.stb ?_
      rintro j _ _ _ _ ⟨i, acc2, out2, o2, hi, rfl, rfl, rfl, rfl, rfl, hone2, hX2, hby2, hl2, hv2⟩ - - -
      refine h_lss rfl rfl rfl ?_
      refine h_if rfl (fun c1 => ?_) (fun c1 => ?_)
      · obtain ⟨t', ht', hdr⟩ := drop_at (show i < args.length by omega)
        rw [hdr] at hv2 hl2
        simp only [vsIs, szTs] at hv2 hl2
        obtain ⟨nm', rw', hx, hR'⟩ := hts.at ht'
        obtain ⟨p', hp', hld⟩ := hrow.at und23 ty_size25 hx
        have ho' := hR'.one
        have hsz := szTs_at ht'
        refine h_ask1 (.ptr p') rfl (fun s1 h1 h2 h3 h4 => hp') rfl ?_
        refine h_askN [nm', rw'] (.agg [nm', rw']) rfl (by simp [onesV, ho'.1, ho'.2]) (fun s1 h1 h2 h3 h4 => load_agg (hld s1 (hkk s1 h1))) rfl ?_
        refine h_new fun b2 hb2 hd2 => ?_
        refine h_callD fun s1 k1 k2 k3 k4 => ?_
        have hon2 : ∀ X, o2 = some X → n ≤ X := fun X hx => by
          rcases hX2 X hx with h | h
          · exact hon X h
          · omega
        obtain ⟨v, s2, hcall, o3, hU3, hX3, hb3, hf3⟩ := ih t' acc2 nm' rw' out2 o2 s1 (by omega) hR' k2 (hG.keep k1.ro) (hkk s1 k1) (Nat.le_trans hn k1.next) hon2 k3 hby2 (by omega)
        have hw2 := hf3.wf k2
        refine .inl ⟨[v], _, s2, o3.toList, UV (vsI t' acc2) o3 v, inferInstance, rfl, by simp [onesV, hU3.one], hcall, hf3.mono (by simp [idsOf]), trivial, UV.stb, hU3, fun g hg => ⟨uv_lt hU3 hw2 g hg, ?_⟩, ?_⟩
        · cases o3 with
          | none => simp at hg
          | some X =>
            simp at hg; subst hg
            rcases hX3 g rfl with h | h
            · exact .inl (by simp [h])
            · exact .inr h
        have hl3 := vsI_len t' acc2
        refine h_add (r := ((i + 1 : Nat) : Int)) rfl rfl (by rw [show ((i : Nat) : Int) + 1 = ((i + 1 : Nat) : Int) by omega]; exact wrap_in _ ⟨by omega, by omega⟩) rfl ?_
        refine h_back rfl UV.stb ⟨args.length - (i + 1), by omega, i + 1, vsI t' acc2, v, o3, by omega, rfl, rfl, rfl, rfl, rfl, hU3.one, fun X hx => ?_, hb3, by omega, hv2⟩
        rcases hX3 X hx with h | h
        · exact hX2 X h
        · exact .inr (Nat.le_trans k1.next h)
      · have : i = args.length := by omega
        subst this
        rw [List.drop_length] at hv2
        simp only [vsIs] at hv2
        exact h_ret fun s1 h1 h2 h3 h4 => ⟨_, _, rfl, o2, by rw [← hv2]; exact h3, hX2, by rw [← hv2]; exact hby2, h1⟩
    -- the name is added, if it is to be
    have key2 : ∀ (q : Bool) (b1 : Nat) (L : List LProp), (q = true ↔ kindC name = 4 ∧ name ∉ acc) →
        holds envB o.toList s (Ret fun v s' => ∃ o', UV (vsI (.mk name args) acc) o' v s' ∧ (∀ X, o' = some X → o = some X ∨ s.next ≤ X) ∧ (∀ x ∈ vsI (.mk name args) acc, Bytes x) ∧ Fw o.toList s s') sub2_varsI ⟨[out, .bool q, .str name, rw], [b1]⟩ o.toList (UV acc o out) L := by
      intro q b1 L hq
      refine h_cond rfl (fun c1 => ?_) (fun c1 => ?_)
      · refine h_new fun b2 hb2 hd2 => ?_
        refine h_act fun s1 k1 k2 k3 k4 => ?_
        obtain ⟨v', s2, X, hrun, hU2, hf2, hXl, hXo⟩ := UV.app k3 k2 k4.1 (by omega)
        refine ⟨[v'], _, s2, [X], UV (acc ++ [name]) (some X) v', inferInstance, rfl, by simp [onesV, hU2.one], hrun, hf2, UV.stb, hU2, fun g hg => ?_, ?_⟩
        · simp at hg; subst hg
          refine ⟨hXl, ?_⟩
          rcases hXo with h | h
          · exact .inl (by simp [h])
          · exact .inr h
        refine h_cut (fun vs bs D U => vs = [v', .str name, rw] ∧ bs = [b1] ∧ D = [X] ∧ U = UV (acc ++ [name]) (some X) v') ⟨rfl, rfl, rfl, rfl⟩ UV.stb ?_
        rintro _ _ _ _ ⟨rfl, rfl, rfl, rfl⟩ - - -
        refine key1 (acc ++ [name]) v' (some X) b1 _ hU2.one (fun Y hY => ?_) (fun x hx => ?_) (by simp only [List.length_append, List.length_cons, List.length_nil]; omega) (by simp only [vsI]; rw [if_pos (hq.1 c1)])
        · cases hY
          rcases hXo with h | h
          · exact .inl h
          · exact .inr (Nat.le_trans k1.next h)
        · simp at hx
          rcases hx with h | h
          · exact hba x h
          · rw [h]; exact hb
      · refine h_cut (fun vs bs D U => vs = [out, .str name, rw] ∧ bs = [b1] ∧ D = o.toList ∧ U = UV acc o out) ⟨rfl, rfl, rfl, rfl⟩ UV.stb ?_
        rintro _ _ _ _ ⟨rfl, rfl, rfl, rfl⟩ - - -
        refine key1 acc out o b1 _ hoo (fun Y hY => .inl hY) hba (by omega) (by simp only [vsI]; rw [if_neg (fun h => by rw [hq.2 h] at c1; cases c1)])
    refine h_new fun b1 hb1 hd1 => ?_
    refine h_callE (.bool (decide (kindC name = 4))) (fun s1 h1 h2 h3 h4 => isVarW hb hbl h2 (hG.keep h1.ro)) rfl rfl ?_
    refine h_if rfl (fun c1 => ?_) (fun c1 => ?_)
    · refine h_callE (.bool (decide (name ∈ acc))) (fun s1 h1 h2 h3 h4 => containsW UV.still (UV.txs hU (by omega) hba) hb h2 h3) rfl rfl ?_
      refine h_not rfl rfl ?_
      refine h_cut (fun vs bs D U => vs = [out, .bool (!decide (name ∈ acc)), .str name, rw] ∧ bs = [b1] ∧ D = o.toList ∧ U = UV acc o out) ⟨rfl, rfl, rfl, rfl⟩ UV.stb ?_
      rintro _ _ _ _ ⟨rfl, rfl, rfl, rfl⟩ - - -
      exact key2 _ _ _ (by simp [c1])
    · refine h_cut (fun vs bs D U => vs = [out, .bool false, .str name, rw] ∧ bs = [b1] ∧ D = o.toList ∧ U = UV acc o out) ⟨rfl, rfl, rfl, rfl⟩ UV.stb ?_
      rintro _ _ _ _ ⟨rfl, rfl, rfl, rfl⟩ - - -
      exact key2 _ _ _ (by simp [c1])
end
end Go.AI.Lx
namespace Go.AI.Lx
open Go.Proofs Go.Proofs.YtkeaedhoaamfnaaGreatDoor
set_option maxRecDepth 10000
section
variable {K : S → Prop} {n : Nat}
theorem collectW (hK : Kn K n) : ∀ N, VarsW 37 vsR K n N := by
  intro N
  induction N with
  | zero => intro t acc nm rw out o s h; cases t; simp only [szT] at h; omega
  | succ N ih =>
    intro t acc nm rw out o s hN hR hw hG hk hn hon hU hba hal
    have ho := hR.one
    have hoo := hU.one
    obtain ⟨name, args⟩ := t
    simp only [RdT] at hR
    obtain ⟨rfl, hb, hbl, cs, hrow, hts⟩ := hR
    have hlen := hts.len
    have hlt := hrow.lt
    simp only [szT] at hN hal
    have hkk : ∀ s1, Fw o.toList s s1 → K s1 := fun s1 h1 => hK o.toList s s1 (fun b hb => by cases o with
      | none => simp at hb
      | some X => simp at hb; subst hb; exact hon b rfl) h1 hk
    refine cw_of_co (x_enter (C := cfg_collect) (e := ⟨[.str name, rw, out], []⟩) (F := o.toList) (D := o.toList) (U := UV acc o out) (orc_no rfl rfl rfl) Tryz.func37 rfl (by kernel_rfl) run_collect rfl ⟨rfl, by simp [onesV, ho.2, hoo, one_str], rfl⟩ rfl hw rfl (by simp) trivial UV.stb hU (fun g hg => ⟨uv_lt hU hw g hg, hg, by simp⟩) ?_)
    have key1 : ∀ (q : Bool) (b1 : Nat) (L : List LProp), (q = true ↔ isV name = true ∧ name ∉ acc) →
        holds envB o.toList s (Ret fun v s' => ∃ o', UV (vsR (.mk name args) acc) o' v s' ∧ (∀ X, o' = some X → o = some X ∨ s.next ≤ X) ∧ (∀ x ∈ vsR (.mk name args) acc, Bytes x) ∧ Fw o.toList s s') sub1_collect ⟨[out, .bool q, .str name, rw], [b1]⟩ o.toList (UV acc o out) L := by
      intro q b1 L hq
      refine h_cond rfl (fun c1 => ?_) (fun c1 => ?_)
      · have hspec : vsR (.mk name args) acc = acc ++ [name] := by simp only [vsR]; rw [if_pos (hq.1 c1)]
        refine h_new fun b2 hb2 hd2 => ?_
        refine h_act fun s1 k1 k2 k3 k4 => ?_
        obtain ⟨v', s2, X, hrun, hU2, hf2, hXl, hXo⟩ := UV.app k3 k2 k4.1 (by omega)
        refine ⟨[v'], _, s2, [X], UV (acc ++ [name]) (some X) v', inferInstance, rfl, by simp [onesV, hU2.one], hrun, hf2, UV.stb, hU2, fun g hg => ?_, ?_⟩
        · simp at hg; subst hg
          refine ⟨hXl, ?_⟩
          rcases hXo with h | h
          · exact .inl (by simp [h])
          · exact .inr h
        refine h_ret fun s3 h1 h2 h3 h4 => ⟨_, _, rfl, some X, by rw [hspec]; exact h3, fun Y hY => ?_, fun x hx => ?_, h1⟩
        · cases hY
          rcases hXo with h | h
          · exact .inl h
          · exact .inr (Nat.le_trans k1.next h)
        · rw [hspec] at hx
          simp at hx
          rcases hx with h | h
          · exact hba x h
          · rw [h]; exact hb
      · have hspec : vsR (.mk name args) acc = vsRs args acc := by simp only [vsR]; rw [if_neg (fun h => by rw [hq.2 h] at c1; cases c1)]
        refine h_loop (fun j vs bs D U => ∃ (i : Nat) (acc2 : List (List Nat)) (out2 : V) (o2 : Option Nat), i ≤ args.length ∧ j = args.length - i ∧ vs = [out2, .int .i64 ((i : Nat) : Int), .str name, rw] ∧ bs = [b1] ∧ D = o2.toList ∧ U = UV acc2 o2 out2 ∧ out2.one = true ∧ (∀ X, o2 = some X → o = some X ∨ s.next ≤ X) ∧ (∀ x ∈ acc2, Bytes x) ∧ acc2.length + szTs (args.drop i) ≤ 99999 ∧ vsRs (args.drop i) acc2 = vsR (.mk name args) acc)
          args.length ⟨0, acc, out, o, by omega, rfl, rfl, rfl, rfl, rfl, hoo, fun X hX => .inl hX, hba, by rw [List.drop_zero]; omega, hspec.symm⟩ UV.stb ?_
        rintro j _ _ _ _ ⟨i, acc2, out2, o2, hi, rfl, rfl, rfl, rfl, rfl, hone2, hX2, hby2, hl2, hv2⟩ - - -
        refine h_len rfl (fun s1 _ _ => hrow.len und23 s1) rfl ?_
        refine h_lss rfl rfl rfl ?_
        refine h_if rfl (fun c1 => ?_) (fun c1 => ?_)
        · obtain ⟨t', ht', hdr⟩ := drop_at (show i < args.length by omega)
          rw [hdr] at hv2 hl2
          simp only [vsRs, szTs] at hv2 hl2
          obtain ⟨nm', rw', hx, hR'⟩ := hts.at ht'
          obtain ⟨p', hp', hld⟩ := hrow.at und23 ty_size25 hx
          have ho' := hR'.one
          have hsz := szTs_at ht'
          refine h_ask1 (.ptr p') rfl (fun s1 h1 h2 h3 h4 => hp') rfl ?_
          refine h_askN [nm', rw'] (.agg [nm', rw']) rfl (by simp [onesV, ho'.1, ho'.2]) (fun s1 h1 h2 h3 h4 => load_agg (hld s1 (hkk s1 h1))) rfl ?_
          refine h_callD fun s1 k1 k2 k3 k4 => ?_
          have hon2 : ∀ X, o2 = some X → n ≤ X := fun X hx => by
            rcases hX2 X hx with h | h
            · exact hon X h
            · omega
          obtain ⟨v, s2, hcall, o3, hU3, hX3, hb3, hf3⟩ := ih t' acc2 nm' rw' out2 o2 s1 (by omega) hR' k2 (hG.keep k1.ro) (hkk s1 k1) (Nat.le_trans hn k1.next) hon2 k3 hby2 (by omega)
          have hw2 := hf3.wf k2
          refine .inl ⟨[v], _, s2, o3.toList, UV (vsR t' acc2) o3 v, inferInstance, rfl, by simp [onesV, hU3.one], hcall, hf3.mono (by simp [idsOf]), trivial, UV.stb, hU3, fun g hg => ⟨uv_lt hU3 hw2 g hg, ?_⟩, ?_⟩
          · cases o3 with
            | none => simp at hg
            | some X =>
              simp at hg; subst hg
              rcases hX3 g rfl with h | h
              · exact .inl (by simp [h])
              · exact .inr h
          have hl3 := vsR_len t' acc2
          refine h_add (r := ((i + 1 : Nat) : Int)) rfl rfl (by rw [show ((i : Nat) : Int) + 1 = ((i + 1 : Nat) : Int) by omega]; exact wrap_in _ ⟨by omega, by omega⟩) rfl ?_
          refine h_back rfl UV.stb ⟨args.length - (i + 1), by omega, i + 1, vsR t' acc2, v, o3, by omega, rfl, rfl, rfl, rfl, rfl, hU3.one, fun X hx => ?_, hb3, by omega, hv2⟩
          rcases hX3 X hx with h | h
          · exact hX2 X h
          · exact .inr (Nat.le_trans k1.next h)
        · have : i = args.length := by omega
          subst this
          rw [List.drop_length] at hv2
          simp only [vsRs] at hv2
          exact h_ret fun s1 h1 h2 h3 h4 => ⟨_, _, rfl, o2, by rw [← hv2]; exact h3, hX2, by rw [← hv2]; exact hby2, h1⟩
    refine h_new fun b1 hb1 hd1 => ?_
    refine h_callE (.bool (isV name)) (fun s1 h1 h2 h3 h4 => isVarRW hb hbl ho.2 h2) rfl rfl ?_
    refine h_cond rfl (fun c1 => ?_) (fun c1 => ?_)
    · refine h_callE (.bool (decide (name ∈ acc))) (fun s1 h1 h2 h3 h4 => hasW UV.still (UV.txs hU (by omega) hba) hb h2 h3) rfl rfl ?_
      refine h_not rfl rfl ?_
      refine h_cut (fun vs bs D U => vs = [out, .bool (!decide (name ∈ acc)), .str name, rw] ∧ bs = [b1] ∧ D = o.toList ∧ U = UV acc o out) ⟨rfl, rfl, rfl, rfl⟩ UV.stb ?_
      rintro _ _ _ _ ⟨rfl, rfl, rfl, rfl⟩ - - -
      exact key1 _ _ _ (by simp [c1])
    · refine h_cut (fun vs bs D U => vs = [out, .bool false, .str name, rw] ∧ bs = [b1] ∧ D = o.toList ∧ U = UV acc o out) ⟨rfl, rfl, rfl, rfl⟩ UV.stb ?_
      rintro _ _ _ _ ⟨rfl, rfl, rfl, rfl⟩ - - -
      exact key1 _ _ _ (by simp [c1])
end
end Go.AI.Lx
namespace Go.AI.Lx
open Go.Proofs Go.Proofs.YtkeaedhoaamfnaaGreatDoor
set_option maxRecDepth 10000
theorem quote_signs : (39 : Nat) ∉ signs := by decide
theorem kind_quote {l : List Nat} : (kindC l = 4 → isV l = true) ∧ (isV l = true → kindC l = 4 ∨ kindC l = 0) := by
  unfold kindC
  split
  · exact ⟨fun h => by omega, fun _ => .inr rfl⟩
  · rename_i h0
    have hl : 0 < l.length := by
      rcases Nat.eq_zero_or_pos l.length with h | h
      · exact absurd (.inl h) h0
      · exact h
    unfold tokC
    by_cases hq : peekN l 0 = 39
    · have hv : isV l = true := decide_eq_true ⟨hl, hq⟩
      refine ⟨fun _ => hv, fun _ => ?_⟩
      by_cases h1 : peekN l 0 = 39 ∧ 1 < l.length ∧ bSmall (peekN l 1) = true
      · rw [if_pos h1]
        split
        · exact .inr rfl
        · rename_i k m hk
          split at hk
          · cases hk
          · cases hk
            split
            · exact .inl rfl
            · exact .inr rfl
      · rw [if_neg h1]
        have h2 : ¬ (bSmall (peekN l 0) = true ∨ bGreat (peekN l 0) = true) := by
          rw [hq, quote_small, quote_great]; simp
        rw [if_neg h2]
        split
        · exact .inr rfl
        · rename_i k m hk
          split at hk
          · cases hk
          · rename_i h3
            exfalso
            apply h3
            unfold signN
            have h4 : ¬ (0 + 1 < l.length ∧ ((l.drop 0).take 2 = [61, 62] ∨ (l.drop 0).take 2 = [45, 62])) := by
              rintro ⟨h5, h6⟩
              rw [List.drop_zero] at h6
              have h7 : peekN (l.take 2) 0 = peekN l 0 := peek_take (by omega)
              rcases h6 with h6 | h6
              · rw [h6, hq] at h7; revert h7; decide
              · rw [h6, hq] at h7; revert h7; decide
            rw [if_neg h4, hq, if_neg quote_signs]
    · have hv : isV l = false := decide_eq_false (fun h => hq h.2)
      rw [hv]
      refine ⟨fun h => ?_, fun h => by cases h⟩
      exfalso
      rw [if_neg (fun h => hq h.1)] at h
      revert h
      split
      · intro h; omega
      · rename_i k m hk
        split at hk
        · split at hk
          · cases hk
          · cases hk
            split
            · split
              · intro h; omega
              · split <;> intro h <;> omega
            · intro h; omega
        · split at hk
          · cases hk
          · cases hk
            split <;> intro h <;> omega
theorem kind_arrow : kindC [45, 62] = 6 := by decide +kernel
theorem kind_comma : kindC [44] = 6 := by decide +kernel
theorem kind_Int : kindC [73, 110, 116] = 3 := by decide +kernel
theorem name_var {name : List Nat} {n : Nat} (h : nameOk name n = true) : (isV name = true ↔ kindC name = 4) ∧ (kindC name = 4 → n = 0) := by
  unfold nameOk at h
  have hq := kind_quote (l := name)
  split at h
  · rename_i hn; subst hn
    rw [kind_arrow]
    exact ⟨⟨fun hh => by revert hh; decide, fun hh => by omega⟩, fun hh => by omega⟩
  · split at h
    · rename_i hn; subst hn
      rw [kind_comma]
      exact ⟨⟨fun hh => by revert hh; decide, fun hh => by omega⟩, fun hh => by omega⟩
    · split at h
      · rename_i hn; subst hn
        rw [kind_Int]
        exact ⟨⟨fun hh => by revert hh; decide, fun hh => by omega⟩, fun hh => by omega⟩
      · have h := of_decide_eq_true h
        refine ⟨⟨fun hh => ?_, hq.1⟩, fun hh => by omega⟩
        have := hq.2 hh
        omega
mutual
theorem vs_same : ∀ (t : Ty) (acc : List (List Nat)), fmd t = true → vsI t acc = vsR t acc
  | .mk name args, acc, h => by
    simp only [fmd, Bool.and_eq_true] at h
    obtain ⟨h1, h2⟩ := name_var h.2
    simp only [vsI, vsR]
    by_cases hk : kindC name = 4
    · have : args = [] := List.eq_nil_of_length_eq_zero (h2 hk)
      subst this
      have hv := h1.2 hk
      simp only [vsIs, vsRs, hk, hv]
    · have hv : ¬ isV name = true := fun hh => hk (h1.1 hh)
      rw [if_neg (fun hh => hk hh.1), if_neg (fun hh => hv hh.1)]
      exact vss_same args acc h.1
theorem vss_same : ∀ (l : List Ty) (acc : List (List Nat)), fmds l = true → vsIs l acc = vsRs l acc
  | [], acc, _ => by simp [vsIs, vsRs]
  | t :: r, acc, h => by
    simp only [fmds, Bool.and_eq_true] at h
    simp only [vsIs, vsRs]
    rw [vs_same t acc h.1]
    exact vss_same r _ h.2
end
theorem vld_parts {t : Ty} (h : vld t = true) : szT t ≤ 2000 ∧ dp t ≤ 100 ∧ fmd t = true := by
  unfold vld at h
  simp only [Bool.and_eq_true, decide_eq_true_eq] at h
  exact ⟨h.1.1, h.1.2, h.2⟩
def vsT (t : Ty) : List (List Nat) := if vld t = true then vsI t [] else []
def VarsTW (f : FuncId) (K : S → Prop) (n : Nat) : Prop := ∀ (t : Ty) (nm rw : V) (s : S), RdT K t nm rw → WF s → GlobOk s → K s → n ≤ s.next →
  Cw envB f [.agg [nm, rw]] s fun v s' => ∃ o', UV (vsT t) o' v s' ∧ (∀ X, o' = some X → s.next ≤ X) ∧ (∀ x ∈ vsT t, Bytes x) ∧ Fw [] s s'
section
variable {K : S → Prop} {n : Nat}
theorem varsTIW (hK : Kn K n) : VarsTW 9 K n := by
  intro t nm rw s hR hw hG hk hn
  have ho := hR.one
  refine cw_of_co (x_enter (C := cfg_varsTI) (e := ⟨[nm, rw], []⟩) (F := []) (orc_no rfl rfl rfl) Tryz.func9 rfl (by kernel_rfl) run_varsTI rfl ⟨rfl, by simp [onesV, ho.1, ho.2], rfl⟩ rfl hw rfl (by simp) trivial stb_true trivial (by simp) ?_)
  have hpos : 1 ≤ szT t := by cases t; simp only [szT]; omega
  refine h_new fun b1 hb1 hd1 => ?_
  refine h_callE (.int .i64 (if vld t = true then ((szT t : Nat) : Int) else 0)) (fun s1 h1 h2 h3 h4 => sizeIW hK (Nat.le_trans hn h1.next) hR h2 (hG.keep h1.ro) (hK.still _ _ h1 hk)) rfl rfl ?_
  refine h_eql rfl rfl rfl ?_
  refine h_if rfl (fun c1 => ?_) (fun c1 => ?_)
  · have hv : vsT t = [] := by
      unfold vsT
      cases hv : vld t with
      | true => rw [hv, if_pos rfl] at c1; omega
      | false => rfl
    exact h_ret fun s1 h1 h2 h3 h4 => ⟨_, _, rfl, none, by rw [hv]; exact UV.nil _, fun X hX => (by cases hX), by rw [hv]; simp, h1⟩
  · have hvl : vld t = true := by
      cases hv : vld t with
      | true => rfl
      | false => rw [hv] at c1; exact absurd rfl c1
    have hv : vsT t = vsI t [] := by unfold vsT; rw [if_pos hvl]
    refine h_callD fun s1 k1 k2 k3 k4 => ?_
    obtain ⟨v, s2, hcall, o', hU, hX, hby, hf⟩ := varsIW hK (szT t) t [] nm rw .nilslice none s1 (Nat.le_refl _) hR k2 (hG.keep k1.ro) (hK.still _ _ k1 hk) (Nat.le_trans hn k1.next) (fun X hX => by cases hX) (UV.nil _) (by simp) (by have := (vld_parts hvl).1; simp only [List.length_nil]; omega)
    have hw2 := hf.wf k2
    refine .inl ⟨[v], _, s2, o'.toList, UV (vsI t []) o' v, inferInstance, rfl, by simp [onesV, hU.one], hcall, hf.mono (by simp), trivial, UV.stb, hU, fun g hg => ⟨uv_lt hU hw2 g hg, ?_⟩, ?_⟩
    · cases o' with
      | none => simp at hg
      | some X =>
        simp at hg; subst hg
        rcases hX g rfl with h | h
        · cases h
        · exact .inr h
    exact h_ret fun s3 h1 h2 h3 h4 => ⟨_, _, rfl, o', by rw [hv]; exact h3, fun X hX' => (by
      rcases hX X hX' with h | h
      · cases h
      · exact Nat.le_trans k1.next h), by rw [hv]; exact hby, h1⟩
theorem varsTRW (hK : Kn K n) : VarsTW 10 K n := by
  intro t nm rw s hR hw hG hk hn
  have ho := hR.one
  refine cw_of_co (x_enter (C := cfg_varsTR) (e := ⟨[nm, rw], []⟩) (F := []) (orc_no rfl rfl rfl) Tryz.func10 rfl (by kernel_rfl) run_varsTR rfl ⟨rfl, by simp [onesV, ho.1, ho.2], rfl⟩ rfl hw rfl (by simp) trivial stb_true trivial (by simp) ?_)
  refine h_new fun b1 hb1 hd1 => ?_
  refine h_callE (.bool (vld t)) (fun s1 h1 h2 h3 h4 => validW hK.still hR h2 (hK.still _ _ h1 hk)) rfl rfl ?_
  refine h_not rfl rfl ?_
  refine h_cond rfl (fun c1 => ?_) (fun c1 => ?_)
  · have hv : vsT t = [] := by unfold vsT; rw [if_neg]; simpa using c1
    exact h_ret fun s1 h1 h2 h3 h4 => ⟨_, _, rfl, none, by rw [hv]; exact UV.nil _, fun X hX => (by cases hX), by rw [hv]; simp, h1⟩
  · have hvl : vld t = true := by simpa using c1
    have hv : vsT t = vsR t [] := by unfold vsT; rw [if_pos hvl]; exact vs_same t [] (vld_parts hvl).2.2
    refine h_callD fun s1 k1 k2 k3 k4 => ?_
    obtain ⟨v, s2, hcall, o', hU, hX, hby, hf⟩ := collectW hK (szT t) t [] nm rw .nilslice none s1 (Nat.le_refl _) hR k2 (hG.keep k1.ro) (hK.still _ _ k1 hk) (Nat.le_trans hn k1.next) (fun X hX => by cases hX) (UV.nil _) (by simp) (by have := (vld_parts hvl).1; simp only [List.length_nil]; omega)
    have hw2 := hf.wf k2
    refine .inl ⟨[v], _, s2, o'.toList, UV (vsR t []) o' v, inferInstance, rfl, by simp [onesV, hU.one], hcall, hf.mono (by simp), trivial, UV.stb, hU, fun g hg => ⟨uv_lt hU hw2 g hg, ?_⟩, ?_⟩
    · cases o' with
      | none => simp at hg
      | some X =>
        simp at hg; subst hg
        rcases hX g rfl with h | h
        · cases h
        · exact .inr h
    exact h_ret fun s3 h1 h2 h3 h4 => ⟨_, _, rfl, o', by rw [hv]; exact h3, fun X hX' => (by
      rcases hX X hX' with h | h
      · cases h
      · exact Nat.le_trans k1.next h), by rw [hv]; exact hby, h1⟩
end
end Go.AI.Lx
namespace Go.AI.Lx
open Go.Proofs Go.Proofs.YtkeaedhoaamfnaaGreatDoor
set_option maxRecDepth 10000
def mpE : List (List Nat × V) → Nat → List Ent
  | [], _ => []
  | (k, v) :: r, n => ⟨.str k, v, n⟩ :: mpE r (n + 1)
def mget (x : List Nat) : List (List Nat × V) → Option V
  | [] => none
  | (k, v) :: r => if x = k then some v else mget x r
def mset (x : List Nat) (w : V) : List (List Nat × V) → List (List Nat × V)
  | [] => [(x, w)]
  | (k, v) :: r => if x = k then (x, w) :: r else (k, v) :: mset x w r
theorem mget_mset (x y : List Nat) (w : V) : ∀ (m : List (List Nat × V)), mget y (mset x w m) = if y = x then some w else mget y m
  | [] => by simp [mset, mget]
  | (k, v) :: r => by
    have ih := mget_mset x y w r
    by_cases hx : x = k
    · subst hx
      simp only [mset, if_true, mget]
      by_cases hy : y = x <;> simp [hy]
    · simp only [mset, if_neg hx, mget, ih]
      by_cases hy : y = k
      · subst hy; simp [Ne.symm hx]
      · simp [hy]
theorem mset_len (x : List Nat) (w : V) : ∀ (m : List (List Nat × V)), (mset x w m).length = if (mget x m).isSome = true then m.length else m.length + 1
  | [] => by simp [mset, mget]
  | (k, v) :: r => by
    have ih := mset_len x w r
    by_cases hx : x = k
    · subst hx; simp [mset, mget]
    · simp only [mset, if_neg hx, mget, List.length_cons, ih]
      split <;> rfl
def Keys (m : List (List Nat × V)) : Prop := ∀ p ∈ m, Bytes p.1
theorem Keys.set {m : List (List Nat × V)} (h : Keys m) {x : List Nat} (hx : Bytes x) (w : V) : Keys (mset x w m) := by
  induction m with
  | nil => intro p hp; simp [mset] at hp; subst hp; exact hx
  | cons a r ih =>
    obtain ⟨k, v⟩ := a
    simp only [mset]
    split
    · intro p hp
      rcases List.mem_cons.1 hp with rfl | hp
      · exact hx
      · exact h p (List.mem_cons_of_mem _ hp)
    · intro p hp
      rcases List.mem_cons.1 hp with rfl | hp
      · exact h _ (by simp)
      · exact ih (fun q hq => h q (List.mem_cons_of_mem _ hq)) p hp
theorem find_mp {ok : V → V → Option Bool} (hok : ∀ a b, Bytes a → Bytes b → ok (.str a) (.str b) = some (decide (a = b))) {x : List Nat} (hx : Bytes x) : ∀ (m : List (List Nat × V)) (n : Nat), Keys m → findKeyV ok (.str x) (mpE m n) = some (mget x m)
  | [], n, _ => by simp [mpE, mget, findKeyV]
  | (k, v) :: r, n, h => by
    have ih := find_mp hok hx r (n + 1) (fun p hp => h p (List.mem_cons_of_mem _ hp))
    simp only [mpE, findKeyV, ih, hok x k hx (h (k, v) (by simp)), mget]
    by_cases hw : x = k
    · subst hw; simp [findKeyV.foundKey]
    · simp [findKeyV.foundKey, hw]
theorem upd_mp {ok : V → V → Option Bool} (hok : ∀ a b, Bytes a → Bytes b → ok (.str a) (.str b) = some (decide (a = b))) {x : List Nat} (hx : Bytes x) (w : V) : ∀ (m : List (List Nat × V)) (n : Nat), Keys m →
    updKeyV ok (.str x) w (mpE m n) = some (if (mget x m).isSome = true then some (mpE (mset x w m) n) else none)
  | [], n, _ => by simp [mpE, mget, updKeyV]
  | (k, v) :: r, n, h => by
    have ih := upd_mp hok hx w r (n + 1) (fun p hp => h p (List.mem_cons_of_mem _ hp))
    simp only [mpE, updKeyV, hok x k hx (h (k, v) (by simp)), mget, mset]
    rw [ih]
    by_cases hw : x = k
    · subst hw; simp [updKeyV.setKey, mpE]
    · cases hm : (mget x r).isSome with
      | true =>
        rw [hm] at ih
        simp only [if_true] at ih ⊢
        simp only [hw, decide_false, if_false, hm, if_true, updKeyV.setKey, mpE]
      | false =>
        rw [hm] at ih
        simp only [hw, decide_false, if_false, hm, updKeyV.setKey, Bool.false_eq_true]
theorem mset_new {x : List Nat} (w : V) : ∀ {m : List (List Nat × V)}, mget x m = none → mset x w m = m ++ [(x, w)]
  | [], _ => rfl
  | (k, v) :: r, h => by
    simp only [mget] at h
    split at h
    · cases h
    · rename_i hk
      simp only [mset, if_neg hk, mset_new w h, List.cons_append]
theorem mpE_snoc (x : List Nat) (w : V) : ∀ (m : List (List Nat × V)) (n : Nat), mpE (m ++ [(x, w)]) n = mpE m n ++ [⟨.str x, w, n + m.length⟩]
  | [], n => rfl
  | (k, v) :: r, n => by
    simp only [List.cons_append, mpE, mpE_snoc x w r (n + 1), List.length_cons]
    rw [show n + 1 + r.length = n + (r.length + 1) by omega]
def MP (s : S) (mm : Nat) (m : List (List Nat × V)) : Prop := s.get mm = some (.map (mpE m 0) m.length)
theorem MP.upd {s : S} {mm : Nat} {m : List (List Nat × V)} (h : MP s mm m) (hw : WF s) (hk : Keys m) {x : List Nat} (hx : Bytes x) (w : V) {ty vt : TypeId} (hu : Tryz.prog.underlying ty = some (.map 9 vt)) :
    ∃ s', Act.run Tryz.prog s (.mapUpd ty (.map mm) (.str x) w) = some (V.undef, s') ∧ MP s' mm (mset x w m) ∧ Fw [mm] s s' ∧ mm < s'.next := by
  have hupd := upd_mp (ok := eqlAt Tryz.prog (Go.AI.plainAt s) 20 9) (fun a b ha hb => eqlAt_str s a b ha hb) hx w m 0 hk
  have h' : s.get mm = some (.map (mpE m 0) m.length) := h
  have hlt := hw mm _ h'
  cases hm : mget x m with
  | none =>
    have hs := mset_new w hm
    refine ⟨s.put mm (.map (mpE (mset x w m) 0) (mset x w m).length), ?_, by unfold MP; rw [S.get_put, if_pos rfl], Fw.put (by simp) h' (fun _ h => by cases h) _, by rw [S.next_put]; exact hlt⟩
    rw [hm] at hupd
    simp only [Option.isSome_none, Bool.false_eq_true, if_false] at hupd
    show nxBoth (doMapUpdate Tryz.prog s ty (some (.map mm)) (some (.str x)) (some w)) = _
    simp only [doMapUpdate, hu, h', simple9, cond_true, hupd, updated]
    rw [hs, mpE_snoc, List.length_append]
    simp [nxBoth]
  | some v0 =>
    have hl := mset_len x w m
    rw [hm] at hl hupd
    simp only [Option.isSome_some, if_true] at hl hupd
    refine ⟨s.put mm (.map (mpE (mset x w m) 0) (mset x w m).length), ?_, by unfold MP; rw [S.get_put, if_pos rfl], Fw.put (by simp) h' (fun _ h => by cases h) _, by rw [S.next_put]; exact hlt⟩
    show nxBoth (doMapUpdate Tryz.prog s ty (some (.map mm)) (some (.str x)) (some w)) = _
    simp only [doMapUpdate, hu, h', simple9, cond_true, hupd, updated, hl]
    rfl
theorem zero3f : found Tryz.prog 3 false (some none) = some (.int .i64 0) := by kernel_rfl
theorem MP.look {s : S} {mm : Nat} {m : List (List Nat × V)} (h : MP s mm m) (hk : Keys m) {x : List Nat} (hx : Bytes x) : doLookup Tryz.prog s 86 (some (.map mm)) (some (.str x)) false = some ((mget x m).getD (.int .i64 0)) := by
  have h' : s.get mm = some (.map (mpE m 0) m.length) := h
  simp only [doLookup, Tryz.underlying86, entsOf, h', simple9, cond_true, find_mp (fun a b ha hb => eqlAt_str s a b ha hb) hx m 0 hk]
  cases hm : mget x m with
  | none => simp only [zero3f]; rfl
  | some v => rfl
end Go.AI.Lx
namespace Go.AI.Lx
open Go.Proofs Go.Proofs.YtkeaedhoaamfnaaGreatDoor
set_option maxRecDepth 10000
def schL (l : List (List Nat)) : List (List Nat) → List (List Nat) → Bool
  | _, [] => true
  | seen, v :: r => decide (v ∉ seen) && decide (v ∈ l) && schL l (seen ++ [v]) r
def schT (vars : List (List Nat)) (t : Ty) : Bool := vld t && decide (vars.length ≤ 2000) && schL (vsT t) [] vars
theorem uv_ne {l : List (List Nat)} {X : Nat} {v : V} {s : S} {mm : Nat} {m : List (List Nat × V)} (h : UV l (some X) v s) (h2 : MP s mm m) : X ≠ mm := fun e => by
  subst e
  have h' : Gro 9 1 s v l.length (l.map V.str) (some X) := h
  have h2' : s.get X = some (.map (mpE m 0) m.length) := h2
  generalize hn : l.length = n at h'
  generalize hc : l.map V.str = cs at h'
  cases h' with
  | row _ nv rest n cs h1 h3 h4 => rw [h2'] at h1; cases h1
def UM (l : List (List Nat)) (o : Option Nat) (v : V) (mm : Nat) (m : List (List Nat × V)) (s : S) : Prop := UV l o v s ∧ MP s mm m
theorem UM.stb {l : List (List Nat)} {o : Option Nat} {v : V} {mm : Nat} {m : List (List Nat × V)} : Stb (mm :: o.toList) (UM l o v mm m) := fun s s' ⟨h1, h2⟩ hk hn =>
  ⟨UV.stb s s' h1 (fun g hg => hk g (by simp at hg ⊢; exact .inr hg)) hn, hk mm (by simp) _ h2⟩
theorem UM.upd {l : List (List Nat)} {o : Option Nat} {v : V} {mm : Nat} {m : List (List Nat × V)} {s : S} (h : UM l o v mm m s) (hw : WF s) (hk : Keys m) {x : List Nat} (hx : Bytes x) (w : V) :
    ∃ s', Act.run Tryz.prog s (.mapUpd 86 (.map mm) (.str x) w) = some (V.undef, s') ∧ UM l o v mm (mset x w m) s' ∧ Fw (mm :: o.toList) s s' ∧ ∀ g ∈ mm :: o.toList, g < s'.next := by
  obtain ⟨s', h1, h2, h3, h4⟩ := MP.upd h.2 hw hk hx w Tryz.underlying86
  have hU : UV l o v s' := Gro.fw h.1 h3 (fun X hX => by subst hX; simp; exact uv_ne h.1 h.2)
  refine ⟨s', h1, ⟨hU, h2⟩, h3.mono (by simp), fun g hg => ?_⟩
  rcases List.mem_cons.1 hg with rfl | hg
  · exact h4
  · exact uv_lt hU (h3.wf hw) g hg
section
variable {K : S → Prop} {n : Nat}
structure RdS (K : S → Prop) (vars : List (List Nat)) (t : Ty) (vr nm rw : V) : Prop where
  vars : Txs K vr vars
  ty : RdT K t nm rw
theorem isSchemeW (hK : Kn K n) {vars : List (List Nat)} {t : Ty} {vr nm rw : V} {s : S} (hn : n ≤ s.next) (hR : RdS K vars t vr nm rw) (hw : WF s) (hG : GlobOk s) (hk : K s) : Cw envB 40 [.agg [vr, nm, rw]] s fun v s' => v = .bool (schT vars t) ∧ Fw [] s s' := by
  have ho := hR.ty.one
  have hov := hR.vars.row.one
  have hvl := hR.vars.lt
  refine cw_of_co (x_enter (C := cfg_isScheme) (e := ⟨[vr, nm, rw], []⟩) (F := []) (orc_no rfl rfl rfl) Tryz.func40 rfl (by kernel_rfl) run_isScheme rfl ⟨rfl, by simp [onesV, ho.1, ho.2, hov], rfl⟩ rfl hw rfl (by simp) trivial stb_true trivial (by simp) ?_)
  have hpos : 1 ≤ szT t := by cases t; simp only [szT]; omega
  have key : ∀ (q : Bool) (b1 : Nat) (L : List LProp), (q = false ↔ vld t = true ∧ vars.length ≤ 2000) → holds envB [] s (Ret fun v s' => v = .bool (schT vars t) ∧ Fw [] s s') sub1_isScheme ⟨[.bool q, vr, nm, rw], [b1]⟩ [] T0 L := by
    intro q b1 L hq
    refine h_cond rfl (fun c1 => ?_) (fun c1 => ?_)
    · refine h_ret fun s1 h1 h2 h3 h4 => ⟨_, _, rfl, ?_, h1⟩
      have : (vld t && decide (vars.length ≤ 2000)) = false := by
        cases hv : (vld t && decide (vars.length ≤ 2000)) with
        | false => rfl
        | true =>
          simp only [Bool.and_eq_true, decide_eq_true_eq] at hv
          rw [hq.2 hv] at c1; cases c1
      show V.bool false = V.bool (schT vars t)
      unfold schT; rw [this, Bool.false_and]
    · obtain ⟨hv, hl⟩ := hq.1 c1
      have hsp : schT vars t = schL (vsI t []) [] vars := by
        unfold schT vsT; rw [hv, decide_eq_true hl, if_pos rfl]; rfl
      rw [hsp]
      refine h_callD fun s1 k1 k2 k3 k4 => ?_
      obtain ⟨v, s2, hcall, o', hU, hX, hby, hf⟩ := varsIW hK (szT t) t [] nm rw .nilslice none s1 (Nat.le_refl _) hR.ty k2 (hG.keep k1.ro) (hK.still _ _ k1 hk) (Nat.le_trans hn k1.next) (fun X hX => by cases hX) (UV.nil _) (by simp) (by have := (vld_parts hv).1; simp only [List.length_nil]; omega)
      have hw2 := hf.wf k2
      have hil := vsI_len t []
      have hsz := (vld_parts hv).1
      simp only [List.length_nil] at hil
      refine .inl ⟨[v], _, s2, o'.toList, UV (vsI t []) o' v, inferInstance, rfl, by simp [onesV, hU.one], hcall, hf.mono (by simp), trivial, UV.stb, hU, fun g hg => ⟨uv_lt hU hw2 g hg, ?_⟩, ?_⟩
      · cases o' with
        | none => simp at hg
        | some X =>
          simp at hg; subst hg
          rcases hX g rfl with h | h
          · cases h
          · exact .inr h
      generalize hins : vsI t [] = ins at *
      have hvo := hU.one
      refine h_act fun s3 j1 j2 j3 j4 => ?_
      have hal := Fw.alloc [] j2 (.map [] 0)
      refine ⟨[.map s3.next], _, s3.alloc (.map [] 0), s3.next :: o'.toList, UM ins o' v s3.next [], inferInstance, rfl, rfl, rfl, hal.mono (by simp), UM.stb, ⟨Gro.fw j3 hal (by simp), get_alloc_same _ _⟩, fun g hg => ?_, ?_⟩
      · rw [S.next_alloc]
        rcases List.mem_cons.1 hg with rfl | hg
        · exact ⟨by omega, .inr (Nat.le_refl _)⟩
        · have := uv_lt j3 j2 g hg
          exact ⟨by omega, .inl hg⟩
      generalize s3.next = mm
      refine h_len rfl (fun s1 _ _ => hR.vars.len s1) rfl ?_
      refine h_loop (fun j vs bs D U => ∃ (i : Nat) (m : List (List Nat × V)), i ≤ vars.length ∧ j = vars.length - i ∧ vs = [v, .map mm, vr, .int .i64 ((vars.length : Nat) : Int), .int .i64 ((i : Nat) : Int)] ∧ bs = [] ∧ D = mm :: o'.toList ∧ U = UM ins o' v mm m ∧ Keys m ∧ (∀ x, mget x m = if x ∈ vars.take i then some (.int .i64 1) else none) ∧ schL ins (vars.take i) (vars.drop i) = schL ins [] vars)
        vars.length ⟨0, [], by omega, rfl, rfl, rfl, rfl, rfl, (fun p hp => by cases hp), (fun x => by simp [mget]), rfl⟩ UM.stb ?_
      rintro j _ _ _ _ ⟨i, m, hi, rfl, rfl, rfl, rfl, rfl, hkm, hmg, hs⟩ - - -
      refine h_lss rfl rfl rfl ?_
      refine h_if rfl (fun c2 => ?_) (fun c2 => ?_)
      · obtain ⟨x, hx, hd⟩ := drop_at (show i < vars.length by omega)
        rw [hd] at hs
        simp only [schL] at hs
        have hxb := hR.vars.bytes x (List.mem_of_getElem? hx)
        obtain ⟨p, hp, hld⟩ := hR.vars.at hx
        refine h_ask1 (.ptr p) rfl (fun s1 h1 h2 h3 h4 => hp) rfl ?_
        refine h_ask1 (.str x) rfl (fun s1 h1 h2 h3 h4 => hld s1 (hK.still _ _ h1 hk)) rfl ?_
        refine h_ask1 (.int .i64 (if x ∈ vars.take i then 1 else 0)) rfl (fun s1 h1 h2 h3 h4 => ?_) rfl ?_
        · have := (h3 rfl).2.look hkm hxb
          show doLookup Tryz.prog s1 86 (some (.map mm)) (some (.str x)) false = _
          rw [this, hmg x]
          split <;> rfl
        refine h_add (r := (if x ∈ vars.take i then 1 else 0) + 1) rfl rfl (by split <;> rfl) rfl ?_
        refine h_act fun s3 j1 j2 j3 j4 => ?_
        obtain ⟨s4, hrun, hU4, hf4, hb4⟩ := UM.upd j3 j2 hkm hxb (.int .i64 ((if x ∈ vars.take i then 1 else 0) + 1))
        refine ⟨[], _, s4, mm :: o'.toList, UM ins o' v mm (mset x (.int .i64 ((if x ∈ vars.take i then 1 else 0) + 1)) m), inferInstance, rfl, rfl, hrun, hf4, UM.stb, hU4, fun g hg => ⟨hb4 g hg, .inl hg⟩, ?_⟩
        have hkm2 := hkm.set hxb (.int .i64 ((if x ∈ vars.take i then 1 else 0) + 1))
        refine h_ask1 (.int .i64 ((if x ∈ vars.take i then 1 else 0) + 1)) rfl (fun s1 h1 h2 h3 h4 => ?_) rfl ?_
        · have := (h3 rfl).2.look hkm2 hxb
          show doLookup Tryz.prog s1 86 (some (.map mm)) (some (.str x)) false = _
          rw [this, mget_mset, if_pos rfl]; rfl
        refine h_gtr rfl rfl rfl ?_
        refine h_if rfl (fun c3 => ?_) (fun c3 => ?_)
        · have hmem : x ∈ vars.take i := by
            by_cases h : x ∈ vars.take i
            · exact h
            · rw [if_neg h] at c3; omega
          refine h_ret fun s1 h1 h2 h3 h4 => ⟨_, _, rfl, ?_, h1⟩
          show V.bool false = _
          rw [← hs]; simp [hmem]
        · have hmem : x ∉ vars.take i := fun h => by rw [if_pos h] at c3; omega
          simp only [hmem, not_false_eq_true, decide_true, Bool.true_and] at hs
          refine h_callE (.bool (decide (x ∈ ins))) (fun s1 h1 h2 h3 h4 => containsW UV.still (UV.txs h3.1 (by omega) hby) hxb h2 h3.1) rfl rfl ?_
          refine h_not rfl rfl ?_
          refine h_cond rfl (fun c4 => ?_) (fun c4 => ?_)
          · have hni : x ∉ ins := by simpa using c4
            refine h_ret fun s1 h1 h2 h3 h4 => ⟨_, _, rfl, ?_, h1⟩
            show V.bool false = _
            rw [← hs]; simp [hni]
          · have hin : x ∈ ins := by simpa using c4
            simp only [hin, decide_true, Bool.true_and] at hs
            refine h_add (r := ((i + 1 : Nat) : Int)) rfl rfl (by rw [show ((i : Nat) : Int) + 1 = ((i + 1 : Nat) : Int) by omega]; exact wrap_in _ ⟨by omega, by omega⟩) rfl ?_
            have htk : vars.take (i + 1) = vars.take i ++ [x] := by rw [List.take_add_one, hx]; rfl
            refine h_back rfl UM.stb ⟨vars.length - (i + 1), by omega, i + 1, _, by omega, rfl, rfl, rfl, rfl, rfl, hkm2, fun y => ?_, by rw [htk]; exact hs⟩
            rw [mget_mset, htk, hmg y]
            by_cases hy : y = x
            · subst hy; simp [hmem]
            · simp [hy]
      · have : i = vars.length := by omega
        subst this
        rw [List.drop_length] at hs
        simp only [schL] at hs
        exact h_ret fun s1 h1 h2 h3 h4 => ⟨_, _, rfl, by rw [← hs]; rfl, h1⟩
  refine h_new fun b1 hb1 hd1 => ?_
  refine h_callE (.int .i64 (if vld t = true then ((szT t : Nat) : Int) else 0)) (fun s1 h1 h2 h3 h4 => sizeIW hK (Nat.le_trans hn h1.next) hR.ty h2 (hG.keep h1.ro) (hK.still _ _ h1 hk)) rfl rfl ?_
  refine h_eql rfl rfl rfl ?_
  refine h_if rfl (fun c1 => ?_) (fun c1 => ?_)
  · refine h_cutE (key true _ _ ⟨fun h => (by cases h), fun h => ?_⟩)
    rw [if_pos h.1] at c1; omega
  · have hvt : vld t = true := by
      cases hv : vld t with
      | true => rfl
      | false => rw [hv] at c1; exact absurd rfl c1
    refine h_len rfl (fun s1 _ _ => hR.vars.len s1) rfl ?_
    refine h_gtr rfl rfl rfl ?_
    exact h_cutE (key _ _ _ ⟨fun h => ⟨hvt, by have := of_decide_eq_false h; omega⟩, fun h => decide_eq_false (by omega)⟩)
end
end Go.AI.Lx
namespace Go.AI.Lx
open Go.Proofs Go.Proofs.YtkeaedhoaamfnaaGreatDoor
set_option maxRecDepth 10000
theorem fnd_pre {x : List Nat} : ∀ (pre post : List (List Nat)) (i : Nat), (x ∈ pre → ∃ j, fnd x (pre ++ post) i = some j ∧ j < i + pre.length) ∧ (x ∉ pre → fnd x (pre ++ post) i = fnd x post (i + pre.length))
  | [], post, i => ⟨fun h => (by cases h), fun _ => rfl⟩
  | y :: r, post, i => by
    obtain ⟨h1, h2⟩ := fnd_pre r post (i + 1) (x := x)
    simp only [List.cons_append, fnd, List.length_cons]
    by_cases hy : y = x
    · subst hy
      exact ⟨fun _ => ⟨i, by rw [if_pos rfl], by omega⟩, fun h => absurd (by simp) h⟩
    · rw [if_neg hy]
      refine ⟨fun h => ?_, fun h => ?_⟩
      · rcases List.mem_cons.1 h with h | h
        · exact absurd h.symm hy
        · obtain ⟨j, hj, hl⟩ := h1 h
          exact ⟨j, hj, by omega⟩
      · rw [h2 (fun hh => h (List.mem_cons_of_mem _ hh))]
        congr 1; omega
theorem fnd_at {l : List (List Nat)} {i : Nat} {x : List Nat} (hx : l[i]? = some x) : (fndV (fnd x l 0) = ((i : Nat) : Int)) ↔ x ∉ l.take i := by
  have hi : i < l.length := by
    rcases Nat.lt_or_ge i l.length with h | h
    · exact h
    · rw [List.getElem?_eq_none h] at hx; cases hx
  obtain ⟨y, hy, hd⟩ := drop_at hi
  rw [hx] at hy; cases hy
  have hl : l = l.take i ++ x :: l.drop (i + 1) := by rw [← hd, List.take_append_drop]
  have htl : (l.take i).length = i := by rw [List.length_take]; omega
  obtain ⟨h1, h2⟩ := fnd_pre (x := x) (l.take i) (x :: l.drop (i + 1)) 0
  rw [← hl, htl] at h1 h2
  constructor
  · intro h hm
    obtain ⟨j, hj, hlt⟩ := h1 hm
    rw [hj] at h; simp only [fndV] at h; omega
  · intro h
    rw [h2 h]; simp [fnd, fndV]
section
variable {K : S → Prop} {n : Nat}
theorem checkSIW (hK : Kn K n) {vars : List (List Nat)} {t : Ty} {vr nm rw : V} {s : S} (hn : n ≤ s.next) (hR : RdS K vars t vr nm rw) (hw : WF s) (hG : GlobOk s) (hk : K s) : Cw envB 15 [.agg [vr, nm, rw]] s fun v s' => v = .int .i64 (if schT vars t = true then 0 else 32) ∧ Fw [] s s' := by
  have ho := hR.ty.one
  have hov := hR.vars.row.one
  refine cw_of_co (x_enter (C := cfg_checkSI) (e := ⟨[vr, nm, rw], []⟩) (F := []) (orc_no rfl rfl rfl) Tryz.func15 rfl (by kernel_rfl) run_checkSI rfl ⟨rfl, by simp [onesV, ho.1, ho.2, hov], rfl⟩ rfl hw rfl (by simp) trivial stb_true trivial (by simp) ?_)
  refine h_new fun b1 hb1 hd1 => ?_
  refine h_callE (.bool (schT vars t)) (fun s1 h1 h2 h3 h4 => isSchemeW hK (Nat.le_trans hn h1.next) hR h2 (hG.keep h1.ro) (hK.still _ _ h1 hk)) rfl rfl ?_
  refine h_not rfl rfl ?_
  refine h_cond rfl (fun c1 => ?_) (fun c1 => ?_)
  · exact h_ret fun s1 h1 h2 h3 h4 => ⟨_, _, rfl, by rw [show schT vars t = false by simpa using c1]; rfl, h1⟩
  · exact h_ret fun s1 h1 h2 h3 h4 => ⟨_, _, rfl, by rw [show schT vars t = true by simpa using c1]; rfl, h1⟩
theorem checkSRW (hK : Kn K n) {vars : List (List Nat)} {t : Ty} {vr nm rw : V} {s : S} (hn : n ≤ s.next) (hR : RdS K vars t vr nm rw) (hw : WF s) (hG : GlobOk s) (hk : K s) : Cw envB 16 [.agg [vr, nm, rw]] s fun v s' => v = .int .i64 (if schT vars t = true then 0 else 32) ∧ Fw [] s s' := by
  have ho := hR.ty.one
  have hov := hR.vars.row.one
  have hvl := hR.vars.lt
  refine cw_of_co (x_enter (C := cfg_checkSR) (e := ⟨[vr, nm, rw], []⟩) (F := []) (orc_no rfl rfl rfl) Tryz.func16 rfl (by kernel_rfl) run_checkSR rfl ⟨rfl, by simp [onesV, ho.1, ho.2, hov], rfl⟩ rfl hw rfl (by simp) trivial stb_true trivial (by simp) ?_)
  have key : ∀ (q : Bool) (b1 : Nat) (L : List LProp), (q = false ↔ vld t = true ∧ vars.length ≤ 2000) → holds envB [] s (Ret fun v s' => v = .int .i64 (if schT vars t = true then 0 else 32) ∧ Fw [] s s') sub2_checkSR ⟨[.bool q, vr, nm, rw], [b1]⟩ [] T0 L := by
    intro q b1 L hq
    refine h_cond rfl (fun c1 => ?_) (fun c1 => ?_)
    · refine h_ret fun s1 h1 h2 h3 h4 => ⟨_, _, rfl, ?_, h1⟩
      have : (vld t && decide (vars.length ≤ 2000)) = false := by
        cases hv : (vld t && decide (vars.length ≤ 2000)) with
        | false => rfl
        | true =>
          simp only [Bool.and_eq_true, decide_eq_true_eq] at hv
          rw [hq.2 hv] at c1; cases c1
      have h0 : schT vars t = false := by unfold schT; rw [this, Bool.false_and]
      rw [h0]; rfl
    · obtain ⟨hv, hl⟩ := hq.1 c1
      have hsp : schT vars t = schL (vsR t []) [] vars := by
        unfold schT vsT; rw [hv, decide_eq_true hl, if_pos rfl, vs_same t [] (vld_parts hv).2.2]; rfl
      rw [hsp]
      refine h_callD fun s1 k1 k2 k3 k4 => ?_
      obtain ⟨v, s2, hcall, o', hU, hX, hby, hf⟩ := collectW hK (szT t) t [] nm rw .nilslice none s1 (Nat.le_refl _) hR.ty k2 (hG.keep k1.ro) (hK.still _ _ k1 hk) (Nat.le_trans hn k1.next) (fun X hX => by cases hX) (UV.nil _) (by simp) (by have := (vld_parts hv).1; simp only [List.length_nil]; omega)
      have hw2 := hf.wf k2
      have hil := vsR_len t []
      have hsz := (vld_parts hv).1
      simp only [List.length_nil] at hil
      refine .inl ⟨[v], _, s2, o'.toList, UV (vsR t []) o' v, inferInstance, rfl, by simp [onesV, hU.one], hcall, hf.mono (by simp), trivial, UV.stb, hU, fun g hg => ⟨uv_lt hU hw2 g hg, ?_⟩, ?_⟩
      · cases o' with
        | none => simp at hg
        | some X =>
          simp at hg; subst hg
          rcases hX g rfl with h | h
          · cases h
          · exact .inr h
      generalize hins : vsR t [] = ins at *
      have hvo := hU.one
      refine h_loop (fun j vs bs D U => ∃ (i : Nat), i ≤ vars.length ∧ j = vars.length - i ∧ vs = [v, .int .i64 ((i : Nat) : Int), vr, nm, rw] ∧ bs = [b1] ∧ D = o'.toList ∧ U = UV ins o' v ∧ schL ins (vars.take i) (vars.drop i) = schL ins [] vars)
        vars.length ⟨0, by omega, rfl, rfl, rfl, rfl, rfl, rfl⟩ UV.stb ?_
      rintro j _ _ _ _ ⟨i, hi, rfl, rfl, rfl, rfl, rfl, hs⟩ - - -
      refine h_len rfl (fun s1 _ _ => hR.vars.len s1) rfl ?_
      refine h_lss rfl rfl rfl ?_
      refine h_if rfl (fun c2 => ?_) (fun c2 => ?_)
      · obtain ⟨x, hx, hd⟩ := drop_at (show i < vars.length by omega)
        rw [hd] at hs
        simp only [schL] at hs
        have hxb := hR.vars.bytes x (List.mem_of_getElem? hx)
        obtain ⟨p, hp, hld⟩ := hR.vars.at hx
        have hfa := fnd_at hx
        -- what follows the check of one
        have fin : ∀ (q : Bool), (q = false ↔ x ∉ vars.take i ∧ x ∈ ins) → ∀ vs bs D U, (vs = [v, .int .i64 ((i : Nat) : Int), .bool q, vr, nm, rw] ∧ bs = [b1] ∧ D = o'.toList ∧ U = UV ins o' v) → 
            holds envB [] s (Ret fun v s' => v = .int .i64 (if schL ins [] vars = true then 0 else 32) ∧ Fw [] s s') sub0_checkSR ⟨vs, bs⟩ D U (List.take 0 L ++ [fun vs bs D U => ∃ j', j' < vars.length - i ∧ ∃ (i : Nat), i ≤ vars.length ∧ j' = vars.length - i ∧ vs = [v, .int .i64 ((i : Nat) : Int), vr, nm, rw] ∧ bs = [b1] ∧ D = o'.toList ∧ U = UV ins o' v ∧ schL ins (vars.take i) (vars.drop i) = schL ins [] vars]) := by
          rintro q hq _ _ _ _ ⟨rfl, rfl, rfl, rfl⟩
          refine h_cond rfl (fun c3 => ?_) (fun c3 => ?_)
          · refine h_ret fun s1 h1 h2 h3 h4 => ⟨_, _, rfl, ?_, h1⟩
            have : schL ins [] vars = false := by
              rw [← hs]
              by_cases h5 : x ∈ vars.take i
              · simp [h5]
              · by_cases h6 : x ∈ ins
                · rw [hq.2 ⟨h5, h6⟩] at c3; cases c3
                · simp [h6]
            rw [this]; rfl
          · obtain ⟨h5, h6⟩ := hq.1 c3
            simp only [h5, h6, not_false_eq_true, decide_true, Bool.true_and] at hs
            refine h_add (r := ((i + 1 : Nat) : Int)) rfl rfl (by rw [show ((i : Nat) : Int) + 1 = ((i + 1 : Nat) : Int) by omega]; exact wrap_in _ ⟨by omega, by omega⟩) rfl ?_
            have htk : vars.take (i + 1) = vars.take i ++ [x] := by rw [List.take_add_one, hx]; rfl
            exact h_back rfl UV.stb ⟨vars.length - (i + 1), by omega, i + 1, by omega, rfl, rfl, rfl, rfl, rfl, by rw [htk]; exact hs⟩
        refine h_ask1 (.ptr p) rfl (fun s1 h1 h2 h3 h4 => hp) rfl ?_
        refine h_ask1 (.str x) rfl (fun s1 h1 h2 h3 h4 => hld s1 (hK.still _ _ h1 hk)) rfl ?_
        refine h_callE (.bool (decide (x ∈ ins))) (fun s1 h1 h2 h3 h4 => hasW UV.still (UV.txs h3 (by omega) hby) hxb h2 h3) rfl rfl ?_
        refine h_not rfl rfl ?_
        refine h_cond rfl (fun c3 => ?_) (fun c3 => ?_)
        · have hni : x ∉ ins := by simpa using c3
          refine h_cut _ ⟨rfl, rfl, rfl, rfl⟩ UV.stb (fun vs bs D U h _ _ _ => fin true ⟨fun h => (by cases h), fun h => absurd h.2 hni⟩ vs bs D U h)
        · have hin : x ∈ ins := by simpa using c3
          refine h_ask1 (.ptr p) rfl (fun s1 h1 h2 h3 h4 => hp) rfl ?_
          refine h_ask1 (.str x) rfl (fun s1 h1 h2 h3 h4 => hld s1 (hK.still _ _ h1 hk)) rfl ?_
          refine h_callE (.int .i64 (fndV (fnd x vars 0))) (fun s1 h1 h2 h3 h4 => findW hK.still hR.vars hxb h2 (hK.still _ _ h1 hk)) rfl rfl ?_
          refine h_neq rfl rfl rfl ?_
          refine h_cut _ ⟨rfl, rfl, rfl, rfl⟩ UV.stb (fun vs bs D U h _ _ _ => fin (decide (fndV (fnd x vars 0) ≠ ((i : Nat) : Int))) ⟨fun h => ⟨hfa.1 (by have := of_decide_eq_false h; omega), hin⟩, fun h => decide_eq_false (by have := hfa.2 h.1; omega)⟩ vs bs D U h)
      · have : i = vars.length := by omega
        subst this
        rw [List.drop_length] at hs
        simp only [schL] at hs
        exact h_ret fun s1 h1 h2 h3 h4 => ⟨_, _, rfl, by rw [← hs]; rfl, h1⟩
  refine h_new fun b1 hb1 hd1 => ?_
  refine h_callE (.bool (vld t)) (fun s1 h1 h2 h3 h4 => validW hK.still hR.ty h2 (hK.still _ _ h1 hk)) rfl rfl ?_
  refine h_not rfl rfl ?_
  refine h_cond rfl (fun c1 => ?_) (fun c1 => ?_)
  · refine h_cutE (key true _ _ ⟨fun h => (by cases h), fun h => ?_⟩)
    rw [h.1] at c1; cases c1
  · have hvt : vld t = true := by simpa using c1
    refine h_len rfl (fun s1 _ _ => hR.vars.len s1) rfl ?_
    refine h_gtr rfl rfl rfl ?_
    exact h_cutE (key _ _ _ ⟨fun h => ⟨hvt, by have := of_decide_eq_false h; omega⟩, fun h => decide_eq_false (by omega)⟩)
end
end Go.AI.Lx
namespace Go.AI.Lx
open Go.Proofs Go.Proofs.YtkeaedhoaamfnaaGreatDoor
def anns_inferTypes : List LoopAnn := []
noncomputable def code_inferTypes : Code := match Tryz.f3.body with | some c => c | none => .skip
noncomputable def cfg_inferTypes : Cfg := ⟨envB, Tryz.f3, anns_inferTypes, [(7, ⟨[], false⟩), (8, ⟨[], false⟩), (9, ⟨[], false⟩), (10, ⟨[], false⟩), (11, ⟨[], false⟩), (12, ⟨[], false⟩), (13, ⟨[], false⟩), (14, ⟨[], false⟩), (15, ⟨[], false⟩), (16, ⟨[], false⟩)], [], 0⟩
def tree_inferTypes : Tree := .new (.call 7 [] [] [] 1 (.atom 3) false (.call 9 [.agg [.atom 1, .atom 2]] [] [] 1 (.atom 4) false (.call 10 [.agg [.atom 1, .atom 2]] [] [] 1 (.atom 5) false (.call 8 [.atom 4, .atom 5] [] [] 1 (.atom 6) false (.cond 3 (.cond 6 (.call 11 [.agg [.atom 1, .atom 2]] [] [] 1 (.atom 7) false (.call 12 [.agg [.atom 1, .atom 2]] [] [] 1 (.atom 8) false (.ask (.bin .eql 31 false (.atom 7) (.atom 8)) false [] 1 (.atom 9) (.cond 9 (.call 13 [.agg [.atom 1, .atom 2]] [] [] 1 (.atom 10) false (.call 14 [.agg [.atom 1, .atom 2]] [] [] 1 (.atom 11) false (.ask (.bin .eql 3 false (.atom 10) (.atom 11)) false [] 1 (.atom 12) (.cond 12 (.call 15 [.agg [.atom 0, .atom 1, .atom 2]] [] [] 1 (.atom 13) false (.call 16 [.agg [.atom 0, .atom 1, .atom 2]] [] [] 1 (.atom 14) false (.ask (.bin .eql 31 false (.atom 13) (.atom 14)) false [] 1 (.atom 15) (.ret (.atom 15) [])))) (.ret (.bool false) []))))) (.ret (.bool false) []))))) (.ret (.bool false) [])) (.ret (.bool false) []))))))
theorem run_inferTypes : xrun cfg_inferTypes 400 [] [.code code_inferTypes] (initT [.agg [.atom 0, .atom 1, .atom 2]] 0 .leaf id) (listS ⟨.leaf, 0⟩ []) 3 = some tree_inferTypes := by kernel_rfl
end Go.AI.Lx
namespace Go.AI.Lx
open Go.Proofs Go.Proofs.YtkeaedhoaamfnaaGreatDoor
set_option maxRecDepth 10000
section
variable {K : S → Prop} {n : Nat}
theorem inferTypesW (hK : Kn K n) {vars : List (List Nat)} {t : Ty} {vr nm rw : V} {s : S} (hn : n ≤ s.next) (hR : RdS K vars t vr nm rw) (hw : WF s) (hG : GlobOk s) (hk : K s) : Cw envB 3 [.agg [vr, nm, rw]] s fun v s' => v = .bool true ∧ Fw [] s s' := by
  have ho := hR.ty.one
  have hov := hR.vars.row.one
  refine cw_of_co (x_enter (C := cfg_inferTypes) (e := ⟨[vr, nm, rw], []⟩) (F := []) (orc_no rfl rfl rfl) Tryz.func3 rfl (by kernel_rfl) run_inferTypes rfl ⟨rfl, by simp [onesV, ho.1, ho.2, hov], rfl⟩ rfl hw rfl (by simp) trivial stb_true trivial (by simp) ?_)
  refine h_new fun b1 hb1 hd1 => ?_
  refine h_callE (.bool true) (fun s1 h1 h2 h3 h4 => cw_fw (saneW s1)) rfl rfl ?_
  refine h_callD fun s1 k1 k2 k3 k4 => ?_
  obtain ⟨v1, s2, hcall, o1, hU, hX, hby, hf⟩ := varsTIW hK t nm rw s1 hR.ty k2 (hG.keep k1.ro) (hK.still _ _ k1 hk) (Nat.le_trans hn k1.next)
  have hw2 := hf.wf k2
  refine .inl ⟨[v1], _, s2, o1.toList, UV (vsT t) o1 v1, inferInstance, rfl, by simp [onesV, hU.one], hcall, hf.mono (by simp), trivial, UV.stb, hU, fun g hg => ⟨uv_lt hU hw2 g hg, ?_⟩, ?_⟩
  · cases o1 with
    | none => simp at hg
    | some X => simp at hg; subst hg; exact .inr (hX g rfl)
  refine h_callD fun s3 j1 j2 j3 j4 => ?_
  obtain ⟨v2, s4, hcall2, o2, hU2, hX2, hby2, hf2⟩ := varsTRW hK t nm rw s3 hR.ty j2 (hG.keep j1.ro) (hK.still _ _ j1 hk) (Nat.le_trans hn j1.next)
  have hw4 := hf2.wf j2
  have hlen : (vsT t).length < 4611686018427387904 := by
    unfold vsT
    split
    · rename_i hv
      have := vsI_len t []
      have := (vld_parts hv).1
      simp only [List.length_nil] at *
      omega
    · simp
  have hU1' : UV (vsT t) o1 v1 s4 := UV.still _ _ hf2 j3
  refine .inl ⟨[v2], _, s4, o1.toList ++ o2.toList, fun s => UV (vsT t) o1 v1 s ∧ UV (vsT t) o2 v2 s, inferInstance, rfl, by simp [onesV, hU2.one], hcall2, hf2.mono (by simp), trivial, ?_, ⟨hU1', hU2⟩, fun g hg => ?_, ?_⟩
  · exact fun s s' ⟨h1, h2⟩ hk hn => ⟨UV.stb s s' h1 (fun g hg => hk g (by simp [hg])) hn, UV.stb s s' h2 (fun g hg => hk g (by simp [hg])) hn⟩
  · rcases List.mem_append.1 hg with hg | hg
    · exact ⟨uv_lt hU1' hw4 g hg, .inl hg⟩
    · refine ⟨uv_lt hU2 hw4 g hg, ?_⟩
      cases o2 with
      | none => simp at hg
      | some X => simp at hg; subst hg; exact .inr (hX2 g rfl)
  refine h_callE (.bool true) (fun s5 h1 h2 h3 h4 => ?_) rfl rfl ?_
  · have hst : Still fun s => UV (vsT t) o1 v1 s ∧ UV (vsT t) o2 v2 s := fun s s' hf ⟨h1, h2⟩ => ⟨UV.still _ _ hf h1, UV.still _ _ hf h2⟩
    have := sameTextsW hst ((UV.txs h3.1 hlen hby).mono fun s h => h.1) ((UV.txs h3.2 hlen hby2).mono fun s h => h.2) h2 h3
    rwa [decide_eq_true rfl] at this
  refine h_cond (q := true) rfl (fun _ => ?_) (fun h => by cases h)
  refine h_cond (q := true) rfl (fun _ => ?_) (fun h => by cases h)
  refine h_callE (.int .i64 (if vld t = true then 0 else 32)) (fun s1 h1 h2 h3 h4 => checkIW hK (Nat.le_trans hn h1.next) hR.ty h2 (hG.keep h1.ro) (hK.still _ _ h1 hk)) rfl rfl ?_
  refine h_callE (.int .i64 (if vld t = true then 0 else 32)) (fun s1 h1 h2 h3 h4 => checkRW hK.still hR.ty h2 (hK.still _ _ h1 hk)) rfl rfl ?_
  refine h_eql rfl rfl rfl ?_
  refine h_if rfl (fun _ => ?_) (fun c => absurd rfl c)
  refine h_callE (.int .i64 (if vld t = true then ((szT t : Nat) : Int) else 0)) (fun s1 h1 h2 h3 h4 => sizeIW hK (Nat.le_trans hn h1.next) hR.ty h2 (hG.keep h1.ro) (hK.still _ _ h1 hk)) rfl rfl ?_
  refine h_callE (.int .i64 (if vld t = true then ((szT t : Nat) : Int) else 0)) (fun s1 h1 h2 h3 h4 => sizeRW hK.still hR.ty h2 (hK.still _ _ h1 hk)) rfl rfl ?_
  refine h_eql rfl rfl rfl ?_
  refine h_if rfl (fun _ => ?_) (fun c => absurd rfl c)
  refine h_callE (.int .i64 (if schT vars t = true then 0 else 32)) (fun s1 h1 h2 h3 h4 => checkSIW hK (Nat.le_trans hn h1.next) hR h2 (hG.keep h1.ro) (hK.still _ _ h1 hk)) rfl rfl ?_
  refine h_callE (.int .i64 (if schT vars t = true then 0 else 32)) (fun s1 h1 h2 h3 h4 => checkSRW hK (Nat.le_trans hn h1.next) hR h2 (hG.keep h1.ro) (hK.still _ _ h1 hk)) rfl rfl ?_
  refine h_eql rfl rfl rfl ?_
  exact h_ret fun s1 h1 h2 h3 h4 => ⟨_, _, rfl, by show V.bool _ = V.bool true; congr 1; exact decide_eq_true rfl, h1⟩
end
end Go.AI.Lx
