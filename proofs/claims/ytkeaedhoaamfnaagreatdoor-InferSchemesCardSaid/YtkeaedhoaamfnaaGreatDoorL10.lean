/- What the functions answer in the evaluator: part 10. No conditions beyond those of the row. -/
import Derived.Test.YtkeaedhoaamfnaaGreatDoorL9
set_option linter.unusedVariables false
set_option linter.unusedSimpArgs false
noncomputable section
namespace Go.AI.Lx
open Go.Proofs Go.Proofs.YtkeaedhoaamfnaaGreatDoor
set_option maxRecDepth 10000
def Ti (f : FuncId) (spec : Ty → List (List Nat) → List (List Nat)) (K : S → Prop) (n N : Nat) : Prop := ∀ (t : Ty) (acc : List (List Nat)) (nm rw out : V) (o : Option Nat) (s : S), cq t ≤ N → ff K t nm rw → WF s → cd s → K s → n ≤ s.next → (∀ X, o = some X → n ≤ X) →
 UV acc o out s → (∀ x ∈ acc, Bytes x) → acc.length + cq t ≤ 99999 →
 Cw aq f [.agg [nm, rw], out] s fun v s' => ∃ o', UV (spec t acc) o' v s' ∧ (∀ X, o' = some X → o = some X ∨ s.next ≤ X) ∧ (∀ x ∈ spec t acc, Bytes x) ∧ Fw o.toList s s'
section
variable {K : S → Prop} {n : Nat}
theorem ja {l : List (List Nat)} {o : Option Nat} {v : V} {s : S} (h : UV l o v s) (hw : WF s) : ∀ g ∈ o.toList, g < s.next := fun g hg => by
 cases o with
 | none => simp at hg
 | some X => simp at hg; subst hg; exact gQ.lt h hw
theorem Bm (hK : Kn K n) : ∀ N, Ti 35 hQ K n N := by
 intro N
 induction N with
 | zero => intro t acc nm rw out o s h; cases t; simp only [cq] at h; omega
 | succ N ih =>
  intro t acc nm rw out o s hN hR hw hG hk hn hon hU hba hal
  have ho := hR.one
  have hoo := hU.one
  obtain ⟨name, args⟩ := t
  simp only [ff] at hR
  obtain ⟨rfl, hb, hbl, cs, hrow, hts⟩ := hR
  have hlen := hts.len
  have hlt := hrow.lt
  simp only [cq] at hN hal
  have hkk : ∀ s1, Fw o.toList s s1 → K s1 := fun s1 h1 => hK o.toList s s1 (fun b hb => by cases o with
   | none => simp at hb
   | some X => simp at hb; subst hb; exact hon b rfl) h1 hk
  refine ay (aI (C := AC) (e := ⟨[.str name, rw, out], []⟩) (F := o.toList) (D := o.toList) (U := UV acc o out) (bE rfl rfl rfl) Tryz.func35 rfl (by kernel_rfl) Mh rfl ⟨rfl, by simp [au, ho.2, hoo, iW], rfl⟩ rfl hw rfl (by simp) trivial UV.stb hU (fun g hg => ⟨ja hU hw g hg, hg, by simp⟩) ?_)
  have key1 : ∀ (acc' : List (List Nat)) (out' : V) (o' : Option Nat) (b1 : Nat) (L : List bS), out'.one = true → (∀ X, o' = some X → o = some X ∨ s.next ≤ X) → (∀ x ∈ acc', Bytes x) → acc'.length + cG args ≤ 99999 → jW args acc' = hQ (.mk name args) acc →
   ai aq o.toList s (sq fun v s' => ∃ o', UV (hQ (.mk name args) acc) o' v s' ∧ (∀ X, o' = some X → o = some X ∨ s.next ≤ X) ∧ (∀ x ∈ hQ (.mk name args) acc, Bytes x) ∧ Fw o.toList s s') qe ⟨[out', .str name, rw], [b1]⟩ o'.toList (UV acc' o' out') L := by
   intro acc' out' o' b1 L hone hX hb' hl' hv
   refine bT rfl (fun s1 _ _ => hrow.len cX s1) rfl ?_
   refine fv (fun j vs bs D U => ∃ (i : Nat) (acc2 : List (List Nat)) (out2 : V) (o2 : Option Nat), i ≤ args.length ∧ j = args.length - i ∧ vs = [out2, rw, .int .i64 ((cs.length : Nat) : Int), .int .i64 ((i : Nat) : Int)] ∧ bs = [] ∧ D = o2.toList ∧ U = UV acc2 o2 out2 ∧ out2.one = true ∧ (∀ X, o2 = some X → o = some X ∨ s.next ≤ X) ∧ (∀ x ∈ acc2, Bytes x) ∧ acc2.length + cG (args.drop i) ≤ 99999 ∧ jW (args.drop i) acc2 = hQ (.mk name args) acc)
    args.length ⟨0, acc', out', o', by omega, rfl, rfl, rfl, rfl, rfl, hone, hX, hb', hl', hv⟩ UV.stb ?_
   rintro j _ _ _ _ ⟨i, acc2, out2, o2, hi, rfl, rfl, rfl, rfl, rfl, hone2, hX2, hby2, hl2, hv2⟩ - - -
   refine cP rfl rfl rfl ?_
   refine aP rfl (fun c1 => ?_) (fun c1 => ?_)
   ·obtain ⟨t', ht', hdr⟩ := bM (show i < args.length by omega)
    rw [hdr] at hv2 hl2
    simp only [jW, cG] at hv2 hl2
    obtain ⟨nm', rw', hx, hR'⟩ := hts.at ht'
    obtain ⟨p', hp', hld⟩ := hrow.at cX dj hx
    have ho' := hR'.one
    have hsz := fT ht'
    refine ao (.ptr p') rfl (fun _ _ _ _ _ => hp') rfl ?_
    refine h_askN [nm', rw'] (.agg [nm', rw']) rfl (by simp [au, ho'.1, ho'.2]) (fun a b _ _ _ => eM (hld a (hkk a b))) rfl ?_
    refine aN fun b2 hb2 hd2 => ?_
    refine cU fun s1 k1 k2 k3 k4 => ?_
    have hon2 : ∀ X, o2 = some X → n ≤ X := fun X hx => by
     rcases hX2 X hx with h | h
     ·exact hon X h
     ·omega
    obtain ⟨v, s2, hcall, o3, hU3, hX3, hb3, hf3⟩ := ih t' acc2 nm' rw' out2 o2 s1 (by omega) hR' k2 (hG.keep k1.ro) (hkk s1 k1) (Nat.le_trans hn k1.next) hon2 k3 hby2 (by omega)
    have hw2 := hf3.wf k2
    refine .inl ⟨[v], _, s2, o3.toList, UV (hQ t' acc2) o3 v, inferInstance, rfl, by simp [au, hU3.one], hcall, hf3.mono (by simp [eI]), trivial, UV.stb, hU3, fun g hg => ⟨ja hU3 hw2 g hg, ?_⟩, ?_⟩
    ·cases o3 with
     | none => simp at hg
     | some X =>
      simp at hg; subst hg
      rcases hX3 g rfl with h | h
      ·exact .inl (by simp [h])
      ·exact .inr h
    have hl3 := iS t' acc2
    refine br (r := ((i + 1 : Nat) : Int)) rfl rfl (wI (by omega)) rfl ?_
    refine fx rfl UV.stb ⟨args.length - (i + 1), by omega, i + 1, hQ t' acc2, v, o3, by omega, rfl, rfl, rfl, rfl, rfl, hU3.one, fun X hx => ?_, hb3, by omega, hv2⟩
    rcases hX3 X hx with h | h
    ·exact hX2 X h
    ·exact .inr (Nat.le_trans k1.next h)
   ·have : i = args.length := by omega
    subst this
    rw [List.drop_length] at hv2
    simp only [jW] at hv2
    exact ak fun s1 h1 h2 h3 h4 => ⟨_, _, rfl, o2, by rw [← hv2]; exact h3, hX2, by rw [← hv2]; exact hby2, h1⟩
  have key2 : ∀ (q : Bool) (b1 : Nat) (L : List bS), (q = true ↔ bo name = 4 ∧ name ∉ acc) →
   ai aq o.toList s (sq fun v s' => ∃ o', UV (hQ (.mk name args) acc) o' v s' ∧ (∀ X, o' = some X → o = some X ∨ s.next ≤ X) ∧ (∀ x ∈ hQ (.mk name args) acc, Bytes x) ∧ Fw o.toList s s') qd ⟨[out, .bool q, .str name, rw], [b1]⟩ o.toList (UV acc o out) L := by
   intro q b1 L hq
   refine aB rfl (fun c1 => ?_) (fun c1 => ?_)
   ·refine aN fun b2 hb2 hd2 => ?_
    refine gT fun s1 k1 k2 k3 k4 => ?_
    obtain ⟨v', s2, X, hrun, hU2, hf2, hXl, hXo⟩ := UV.app k3 k2 k4.1 (by omega)
    refine ⟨[v'], _, s2, [X], UV (acc ++ [name]) (some X) v', inferInstance, rfl, by simp [au, hU2.one], hrun, hf2, UV.stb, hU2, fun g hg => ?_, ?_⟩
    ·simp at hg; subst hg
     refine ⟨hXl, ?_⟩
     rcases hXo with h | h
     ·exact .inl (by simp [h])
     ·exact .inr h
    refine iw (fun vs bs D U => vs = [v', .str name, rw] ∧ bs = [b1] ∧ D = [X] ∧ U = UV (acc ++ [name]) (some X) v') ⟨rfl, rfl, rfl, rfl⟩ UV.stb ?_
    rintro _ _ _ _ ⟨rfl, rfl, rfl, rfl⟩ - - -
    refine key1 (acc ++ [name]) v' (some X) b1 _ hU2.one (fun Y hY => ?_) (fun x hx => ?_) (by simp only [List.length_append, List.length_cons, List.length_nil]; omega) (by simp only [hQ]; rw [if_pos (hq.1 c1)])
    ·cases hY
     rcases hXo with h | h
     ·exact .inl h
     ·exact .inr (Nat.le_trans k1.next h)
    ·simp at hx
     rcases hx with h | h
     ·exact hba x h
     ·rw [h]; exact hb
   ·refine iw (fun vs bs D U => vs = [out, .str name, rw] ∧ bs = [b1] ∧ D = o.toList ∧ U = UV acc o out) ⟨rfl, rfl, rfl, rfl⟩ UV.stb ?_
    rintro _ _ _ _ ⟨rfl, rfl, rfl, rfl⟩ - - -
    refine key1 acc out o b1 _ hoo (fun Y hY => .inl hY) hba (by omega) (by simp only [hQ]; rw [if_neg (fun h => by rw [hq.2 h] at c1; cases c1)])
  refine aN fun b1 hb1 hd1 => ?_
  refine aj (.bool (decide (bo name = 4))) (fun _ a b _ _ => Pz hb hbl b (hG.keep a.ro)) rfl rfl ?_
  refine aP rfl (fun c1 => ?_) (fun c1 => ?_)
  ·refine aj (.bool (decide (name ∈ acc))) (fun _ _ a b _ => Az UV.still (UV.txs hU (by omega) hba) hb a b) rfl rfl ?_
   refine dR rfl rfl ?_
   refine iw (fun vs bs D U => vs = [out, .bool (!decide (name ∈ acc)), .str name, rw] ∧ bs = [b1] ∧ D = o.toList ∧ U = UV acc o out) ⟨rfl, rfl, rfl, rfl⟩ UV.stb ?_
   rintro _ _ _ _ ⟨rfl, rfl, rfl, rfl⟩ - - -
   exact key2 _ _ _ (by simp [c1])
  ·refine iw (fun vs bs D U => vs = [out, .bool false, .str name, rw] ∧ bs = [b1] ∧ D = o.toList ∧ U = UV acc o out) ⟨rfl, rfl, rfl, rfl⟩ UV.stb ?_
   rintro _ _ _ _ ⟨rfl, rfl, rfl, rfl⟩ - - -
   exact key2 _ _ _ (by simp [c1])
end
section
variable {K : S → Prop} {n : Nat}
theorem rV (hK : Kn K n) : ∀ N, Ti 37 yv K n N := by
 intro N
 induction N with
 | zero => intro t acc nm rw out o s h; cases t; simp only [cq] at h; omega
 | succ N ih =>
  intro t acc nm rw out o s hN hR hw hG hk hn hon hU hba hal
  have ho := hR.one
  have hoo := hU.one
  obtain ⟨name, args⟩ := t
  simp only [ff] at hR
  obtain ⟨rfl, hb, hbl, cs, hrow, hts⟩ := hR
  have hlen := hts.len
  have hlt := hrow.lt
  simp only [cq] at hN hal
  have hkk : ∀ s1, Fw o.toList s s1 → K s1 := fun s1 h1 => hK o.toList s s1 (fun b hb => by cases o with
   | none => simp at hb
   | some X => simp at hb; subst hb; exact hon b rfl) h1 hk
  refine ay (aI (C := uz) (e := ⟨[.str name, rw, out], []⟩) (F := o.toList) (D := o.toList) (U := UV acc o out) (bE rfl rfl rfl) Tryz.func37 rfl (by kernel_rfl) Fc rfl ⟨rfl, by simp [au, ho.2, hoo, iW], rfl⟩ rfl hw rfl (by simp) trivial UV.stb hU (fun g hg => ⟨ja hU hw g hg, hg, by simp⟩) ?_)
  have key1 : ∀ (q : Bool) (b1 : Nat) (L : List bS), (q = true ↔ CN name = true ∧ name ∉ acc) →
   ai aq o.toList s (sq fun v s' => ∃ o', UV (yv (.mk name args) acc) o' v s' ∧ (∀ X, o' = some X → o = some X ∨ s.next ≤ X) ∧ (∀ x ∈ yv (.mk name args) acc, Bytes x) ∧ Fw o.toList s s') mu ⟨[out, .bool q, .str name, rw], [b1]⟩ o.toList (UV acc o out) L := by
   intro q b1 L hq
   refine aB rfl (fun c1 => ?_) (fun c1 => ?_)
   ·have hspec : yv (.mk name args) acc = acc ++ [name] := by simp only [yv]; rw [if_pos (hq.1 c1)]
    refine aN fun b2 hb2 hd2 => ?_
    refine gT fun s1 k1 k2 k3 k4 => ?_
    obtain ⟨v', s2, X, hrun, hU2, hf2, hXl, hXo⟩ := UV.app k3 k2 k4.1 (by omega)
    refine ⟨[v'], _, s2, [X], UV (acc ++ [name]) (some X) v', inferInstance, rfl, by simp [au, hU2.one], hrun, hf2, UV.stb, hU2, fun g hg => ?_, ?_⟩
    ·simp at hg; subst hg
     refine ⟨hXl, ?_⟩
     rcases hXo with h | h
     ·exact .inl (by simp [h])
     ·exact .inr h
    refine ak fun s3 h1 h2 h3 h4 => ⟨_, _, rfl, some X, by rw [hspec]; exact h3, fun Y hY => ?_, fun x hx => ?_, h1⟩
    ·cases hY
     rcases hXo with h | h
     ·exact .inl h
     ·exact .inr (Nat.le_trans k1.next h)
    ·rw [hspec] at hx
     simp at hx
     rcases hx with h | h
     ·exact hba x h
     ·rw [h]; exact hb
   ·have hspec : yv (.mk name args) acc = su args acc := by simp only [yv]; rw [if_neg (fun h => by rw [hq.2 h] at c1; cases c1)]
    refine fv (fun j vs bs D U => ∃ (i : Nat) (acc2 : List (List Nat)) (out2 : V) (o2 : Option Nat), i ≤ args.length ∧ j = args.length - i ∧ vs = [out2, .int .i64 ((i : Nat) : Int), .str name, rw] ∧ bs = [b1] ∧ D = o2.toList ∧ U = UV acc2 o2 out2 ∧ out2.one = true ∧ (∀ X, o2 = some X → o = some X ∨ s.next ≤ X) ∧ (∀ x ∈ acc2, Bytes x) ∧ acc2.length + cG (args.drop i) ≤ 99999 ∧ su (args.drop i) acc2 = yv (.mk name args) acc)
     args.length ⟨0, acc, out, o, by omega, rfl, rfl, rfl, rfl, rfl, hoo, fun X hX => .inl hX, hba, by rw [List.drop_zero]; omega, hspec.symm⟩ UV.stb ?_
    rintro j _ _ _ _ ⟨i, acc2, out2, o2, hi, rfl, rfl, rfl, rfl, rfl, hone2, hX2, hby2, hl2, hv2⟩ - - -
    refine bT rfl (fun s1 _ _ => hrow.len cX s1) rfl ?_
    refine cP rfl rfl rfl ?_
    refine aP rfl (fun c1 => ?_) (fun c1 => ?_)
    ·obtain ⟨t', ht', hdr⟩ := bM (show i < args.length by omega)
     rw [hdr] at hv2 hl2
     simp only [su, cG] at hv2 hl2
     obtain ⟨nm', rw', hx, hR'⟩ := hts.at ht'
     obtain ⟨p', hp', hld⟩ := hrow.at cX dj hx
     have ho' := hR'.one
     have hsz := fT ht'
     refine ao (.ptr p') rfl (fun _ _ _ _ _ => hp') rfl ?_
     refine h_askN [nm', rw'] (.agg [nm', rw']) rfl (by simp [au, ho'.1, ho'.2]) (fun a b _ _ _ => eM (hld a (hkk a b))) rfl ?_
     refine cU fun s1 k1 k2 k3 k4 => ?_
     have hon2 : ∀ X, o2 = some X → n ≤ X := fun X hx => by
      rcases hX2 X hx with h | h
      ·exact hon X h
      ·omega
     obtain ⟨v, s2, hcall, o3, hU3, hX3, hb3, hf3⟩ := ih t' acc2 nm' rw' out2 o2 s1 (by omega) hR' k2 (hG.keep k1.ro) (hkk s1 k1) (Nat.le_trans hn k1.next) hon2 k3 hby2 (by omega)
     have hw2 := hf3.wf k2
     refine .inl ⟨[v], _, s2, o3.toList, UV (yv t' acc2) o3 v, inferInstance, rfl, by simp [au, hU3.one], hcall, hf3.mono (by simp [eI]), trivial, UV.stb, hU3, fun g hg => ⟨ja hU3 hw2 g hg, ?_⟩, ?_⟩
     ·cases o3 with
      | none => simp at hg
      | some X =>
       simp at hg; subst hg
       rcases hX3 g rfl with h | h
       ·exact .inl (by simp [h])
       ·exact .inr h
     have hl3 := Bk t' acc2
     refine br (r := ((i + 1 : Nat) : Int)) rfl rfl (wI (by omega)) rfl ?_
     refine fx rfl UV.stb ⟨args.length - (i + 1), by omega, i + 1, yv t' acc2, v, o3, by omega, rfl, rfl, rfl, rfl, rfl, hU3.one, fun X hx => ?_, hb3, by omega, hv2⟩
     rcases hX3 X hx with h | h
     ·exact hX2 X h
     ·exact .inr (Nat.le_trans k1.next h)
    ·have : i = args.length := by omega
     subst this
     rw [List.drop_length] at hv2
     simp only [su] at hv2
     exact ak fun s1 h1 h2 h3 h4 => ⟨_, _, rfl, o2, by rw [← hv2]; exact h3, hX2, by rw [← hv2]; exact hby2, h1⟩
  refine aN fun b1 hb1 hd1 => ?_
  refine aj (.bool (CN name)) (fun _ _ a _ _ => CM hb hbl ho.2 a) rfl rfl ?_
  refine aB rfl (fun c1 => ?_) (fun c1 => ?_)
  ·refine aj (.bool (decide (name ∈ acc))) (fun _ _ a b _ => Uj UV.still (UV.txs hU (by omega) hba) hb a b) rfl rfl ?_
   refine dR rfl rfl ?_
   refine iw (fun vs bs D U => vs = [out, .bool (!decide (name ∈ acc)), .str name, rw] ∧ bs = [b1] ∧ D = o.toList ∧ U = UV acc o out) ⟨rfl, rfl, rfl, rfl⟩ UV.stb ?_
   rintro _ _ _ _ ⟨rfl, rfl, rfl, rfl⟩ - - -
   exact key1 _ _ _ (by simp [c1])
  ·refine iw (fun vs bs D U => vs = [out, .bool false, .str name, rw] ∧ bs = [b1] ∧ D = o.toList ∧ U = UV acc o out) ⟨rfl, rfl, rfl, rfl⟩ UV.stb ?_
   rintro _ _ _ _ ⟨rfl, rfl, rfl, rfl⟩ - - -
   exact key1 _ _ _ (by simp [c1])
end
theorem Fl : (39 : Nat) ∉ kH := by decide
theorem wR {l : List Nat} : (bo l = 4 → CN l = true) ∧ (CN l = true → bo l = 4 ∨ bo l = 0) := by
 unfold bo
 split
 ·exact ⟨fun h => by omega, fun _ => .inr rfl⟩
 ·rename_i h0
  have hl : 0 < l.length := by
   rcases Nat.eq_zero_or_pos l.length with h | h
   ·exact absurd (.inl h) h0
   ·exact h
  unfold li
  by_cases hq : aw l 0 = 39
  ·have hv : CN l = true := decide_eq_true ⟨hl, hq⟩
   refine ⟨fun _ => hv, fun _ => ?_⟩
   by_cases h1 : aw l 0 = 39 ∧ 1 < l.length ∧ cA (aw l 1) = true
   ·rw [if_pos h1]
    split
    ·exact .inr rfl
    ·rename_i k m hk
     split at hk
     ·cases hk
     ·cases hk
      split
      ·exact .inl rfl
      ·exact .inr rfl
   ·rw [if_neg h1]
    have h2 : ¬ (cA (aw l 0) = true ∨ eU (aw l 0) = true) := by
     rw [hq, tN, tO]; simp
    rw [if_neg h2]
    split
    ·exact .inr rfl
    ·rename_i k m hk
     split at hk
     ·cases hk
     ·rename_i h3
      exfalso
      apply h3
      unfold kc
      have h4 : ¬ (0 + 1 < l.length ∧ ((l.drop 0).take 2 = [61, 62] ∨ (l.drop 0).take 2 = [45, 62])) := by
       rintro ⟨h5, h6⟩
       rw [List.drop_zero] at h6
       have h7 : aw (l.take 2) 0 = aw l 0 := zN (by omega)
       rcases h6 with h6 | h6
       ·rw [h6, hq] at h7; revert h7; decide
       ·rw [h6, hq] at h7; revert h7; decide
      rw [if_neg h4, hq, if_neg Fl]
  ·have hv : CN l = false := decide_eq_false (fun h => hq h.2)
   rw [hv]
   refine ⟨fun h => ?_, fun h => by cases h⟩
   exfalso
   rw [if_neg (fun h => hq h.1)] at h
   revert h
   split
   ·intro h; omega
   ·rename_i k m hk
    split at hk
    ·split at hk
     ·cases hk
     ·cases hk
      split
      ·split
       ·intro h; omega
       ·split <;> intro h <;> omega
      ·intro h; omega
    ·split at hk
     ·cases hk
     ·cases hk
      split <;> intro h <;> omega
theorem wU : bo [45, 62] = 6 := by decide +kernel
theorem wT : bo [44] = 6 := by decide +kernel
theorem FH : bo [73, 110, 116] = 3 := by decide +kernel
theorem wB {name : List Nat} {n : Nat} (h : dI name n = true) : (CN name = true ↔ bo name = 4) ∧ (bo name = 4 → n = 0) := by
 unfold dI at h
 have hq := wR (l := name)
 split at h
 ·rename_i hn; subst hn
  rw [wU]
  exact ⟨⟨fun hh => by revert hh; decide, fun hh => by omega⟩, fun hh => by omega⟩
 ·split at h
  ·rename_i hn; subst hn
   rw [wT]
   exact ⟨⟨fun hh => by revert hh; decide, fun hh => by omega⟩, fun hh => by omega⟩
  ·split at h
   ·rename_i hn; subst hn
    rw [FH]
    exact ⟨⟨fun hh => by revert hh; decide, fun hh => by omega⟩, fun hh => by omega⟩
   ·have h := of_decide_eq_true h
    refine ⟨⟨fun hh => ?_, hq.1⟩, fun hh => by omega⟩
    have := hq.2 hh
    omega
mutual
theorem qQ : ∀ (t : Ty) (acc : List (List Nat)), qN t = true → hQ t acc = yv t acc
 | .mk name args, acc, h => by
  simp only [qN, Bool.and_eq_true] at h
  obtain ⟨h1, h2⟩ := wB h.2
  simp only [hQ, yv]
  by_cases hk : bo name = 4
  ·have : args = [] := List.eq_nil_of_length_eq_zero (h2 hk)
   subst this
   have hv := h1.2 hk
   simp only [jW, su, hk, hv]
  ·have hv : ¬ CN name = true := fun hh => hk (h1.1 hh)
   rw [if_neg (fun hh => hk hh.1), if_neg (fun hh => hv hh.1)]
   exact Ej args acc h.1
theorem Ej : ∀ (l : List Ty) (acc : List (List Nat)), iM l = true → jW l acc = su l acc
 | [], acc, _ => by simp [jW, su]
 | t :: r, acc, h => by
  simp only [iM, Bool.and_eq_true] at h
  simp only [jW, su]
  rw [qQ t acc h.1]
  exact Ej r _ h.2
end
theorem bF {t : Ty} (h : fR t = true) : cq t ≤ 2000 ∧ dp t ≤ 100 ∧ qN t = true := by
 unfold fR at h
 simp only [Bool.and_eq_true, decide_eq_true_eq] at h
 exact ⟨h.1.1, h.1.2, h.2⟩
def ve (t : Ty) : List (List Nat) := if fR t = true then hQ t [] else []
def Vn (f : FuncId) (K : S → Prop) (n : Nat) : Prop := ∀ (t : Ty) (nm rw : V) (s : S), ff K t nm rw → WF s → cd s → K s → n ≤ s.next →
 Cw aq f [.agg [nm, rw]] s fun v s' => ∃ o', UV (ve t) o' v s' ∧ (∀ X, o' = some X → s.next ≤ X) ∧ (∀ x ∈ ve t, Bytes x) ∧ Fw [] s s'
section
variable {K : S → Prop} {n : Nat}
theorem Rd (hK : Kn K n) : Vn 10 K n := by
 intro t nm rw s hR hw hG hk hn
 have ho := hR.one
 refine ay (aI (C := xE) (e := ⟨[nm, rw], []⟩) (F := []) (bE rfl rfl rfl) Tryz.func10 rfl (by kernel_rfl) Il rfl ⟨rfl, by simp [au, ho.1, ho.2], rfl⟩ rfl hw rfl (by simp) trivial am trivial (by simp) ?_)
 refine aN fun b1 hb1 hd1 => ?_
 refine aj (.bool (fR t)) (fun _ a b _ _ => Bn hK.still hR b (hK.still _ _ a hk)) rfl rfl ?_
 refine dR rfl rfl ?_
 refine aB rfl (fun c1 => ?_) (fun c1 => ?_)
 ·have hv : ve t = [] := by unfold ve; rw [if_neg]; simpa using c1
  exact ak fun s1 h1 h2 h3 h4 => ⟨_, _, rfl, none, by rw [hv]; exact UV.nil _, fun X hX => (by cases hX), by rw [hv]; simp, h1⟩
 ·have hvl : fR t = true := by simpa using c1
  have hv : ve t = yv t [] := by unfold ve; rw [if_pos hvl]; exact qQ t [] (bF hvl).2.2
  refine cU fun s1 k1 k2 k3 k4 => ?_
  obtain ⟨v, s2, hcall, o', hU, hX, hby, hf⟩ := rV hK (cq t) t [] nm rw .nilslice none s1 (Nat.le_refl _) hR k2 (hG.keep k1.ro) (hK.still _ _ k1 hk) (Nat.le_trans hn k1.next) (fun X hX => by cases hX) (UV.nil _) (by simp) (by have := (bF hvl).1; simp only [List.length_nil]; omega)
  have hw2 := hf.wf k2
  refine .inl ⟨[v], _, s2, o'.toList, UV (yv t []) o' v, inferInstance, rfl, by simp [au, hU.one], hcall, hf.mono (by simp), trivial, UV.stb, hU, fun g hg => ⟨ja hU hw2 g hg, ?_⟩, ?_⟩
  ·cases o' with
   | none => simp at hg
   | some X =>
    simp at hg; subst hg
    rcases hX g rfl with h | h
    ·cases h
    ·exact .inr h
  exact ak fun s3 h1 h2 h3 h4 => ⟨_, _, rfl, o', by rw [hv]; exact h3, fun X hX' => (by
   rcases hX X hX' with h | h
   ·cases h
   ·exact Nat.le_trans k1.next h), by rw [hv]; exact hby, h1⟩
end
def ub : List (List Nat × V) → Nat → List qO
 | [], _ => []
 | (k, v) :: r, n => ⟨.str k, v, n⟩ :: ub r (n + 1)
def fH (x : List Nat) : List (List Nat × V) → Option V
 | [] => none
 | (k, v) :: r => if x = k then some v else fH x r
def ir (x : List Nat) (w : V) : List (List Nat × V) → List (List Nat × V)
 | [] => [(x, w)]
 | (k, v) :: r => if x = k then (x, w) :: r else (k, v) :: ir x w r
theorem oW (x y : List Nat) (w : V) : ∀ (m : List (List Nat × V)), fH y (ir x w m) = if y = x then some w else fH y m
 | [] => by simp [ir, fH]
 | (k, v) :: r => by
  have ih := oW x y w r
  by_cases hx : x = k
  ·subst hx
   simp only [ir, if_true, fH]
   by_cases hy : y = x <;> simp [hy]
  ·simp only [ir, if_neg hx, fH, ih]
   by_cases hy : y = k
   ·subst hy; simp [Ne.symm hx]
   ·simp [hy]
theorem FA (x : List Nat) (w : V) : ∀ (m : List (List Nat × V)), (ir x w m).length = if (fH x m).isSome = true then m.length else m.length + 1
 | [] => by simp [ir, fH]
 | (k, v) :: r => by
  have ih := FA x w r
  by_cases hx : x = k
  ·subst hx; simp [ir, fH]
  ·simp only [ir, if_neg hx, fH, List.length_cons, ih]
   split <;> rfl
def lY (m : List (List Nat × V)) : Prop := ∀ p ∈ m, Bytes p.1
theorem lY.set {m : List (List Nat × V)} (h : lY m) {x : List Nat} (hx : Bytes x) (w : V) : lY (ir x w m) := by
 induction m with
 | nil => intro p hp; simp [ir] at hp; subst hp; exact hx
 | cons a r ih =>
  obtain ⟨k, v⟩ := a
  simp only [ir]
  split
  ·intro p hp
   rcases List.mem_cons.1 hp with rfl | hp
   ·exact hx
   ·exact h p (List.mem_cons_of_mem _ hp)
  ·intro p hp
   rcases List.mem_cons.1 hp with rfl | hp
   ·exact h _ (by simp)
   ·exact ih (fun q hq => h q (List.mem_cons_of_mem _ hq)) p hp
theorem rG {ok : V → V → Option Bool} (hok : ∀ a b, Bytes a → Bytes b → ok (.str a) (.str b) = some (decide (a = b))) {x : List Nat} (hx : Bytes x) : ∀ (m : List (List Nat × V)) (n : Nat), lY m → bX ok (.str x) (ub m n) = some (fH x m)
 | [], n, _ => by simp [ub, fH, bX]
 | (k, v) :: r, n, h => by
  have ih := rG hok hx r (n + 1) (fun p hp => h p (List.mem_cons_of_mem _ hp))
  simp only [ub, bX, ih, hok x k hx (h (k, v) (by simp)), fH]
  by_cases hw : x = k
  ·subst hw; simp [bX.foundKey]
  ·simp [bX.foundKey, hw]
theorem NZ {ok : V → V → Option Bool} (hok : ∀ a b, Bytes a → Bytes b → ok (.str a) (.str b) = some (decide (a = b))) {x : List Nat} (hx : Bytes x) (w : V) : ∀ (m : List (List Nat × V)) (n : Nat), lY m →
 cD ok (.str x) w (ub m n) = some (if (fH x m).isSome = true then some (ub (ir x w m) n) else none)
 | [], n, _ => by simp [ub, fH, cD]
 | (k, v) :: r, n, h => by
  have ih := NZ hok hx w r (n + 1) (fun p hp => h p (List.mem_cons_of_mem _ hp))
  simp only [ub, cD, hok x k hx (h (k, v) (by simp)), fH, ir]
  rw [ih]
  by_cases hw : x = k
  ·subst hw; simp [cD.setKey, ub]
  ·cases hm : (fH x r).isSome with
   | true =>
    rw [hm] at ih
    simp only [if_true] at ih ⊢
    simp only [hw, decide_false, if_false, hm, if_true, cD.setKey, ub]
   | false =>
    rw [hm] at ih
    simp only [hw, decide_false, if_false, hm, cD.setKey, Bool.false_eq_true]
theorem rq {x : List Nat} (w : V) : ∀ {m : List (List Nat × V)}, fH x m = none → ir x w m = m ++ [(x, w)]
 | [], _ => rfl
 | (k, v) :: r, h => by
  simp only [fH] at h
  split at h
  ·cases h
  ·rename_i hk
   simp only [ir, if_neg hk, rq w h, List.cons_append]
theorem FB (x : List Nat) (w : V) : ∀ (m : List (List Nat × V)) (n : Nat), ub (m ++ [(x, w)]) n = ub m n ++ [⟨.str x, w, n + m.length⟩]
 | [], n => rfl
 | (k, v) :: r, n => by
  simp only [List.cons_append, ub, FB x w r (n + 1), List.length_cons]
  rw [show n + 1 + r.length = n + (r.length + 1) by omega]
def MP (s : S) (mm : Nat) (m : List (List Nat × V)) : Prop := s.get mm = some (.map (ub m 0) m.length)
theorem MP.upd {s : S} {mm : Nat} {m : List (List Nat × V)} (h : MP s mm m) (hw : WF s) (hk : lY m) {x : List Nat} (hx : Bytes x) (w : V) {ty vt : TypeId} (hu : Tryz.prog.underlying ty = some (.map 9 vt)) :
 ∃ s', yp.run Tryz.prog s (.mapUpd ty (.map mm) (.str x) w) = some (V.undef, s') ∧ MP s' mm (ir x w m) ∧ Fw [mm] s s' ∧ mm < s'.next := by
 have hupd := NZ (ok := eb Tryz.prog (Go.AI.plainAt s) 20 9) (fun a b ha hb => iO s a b ha hb) hx w m 0 hk
 have h' : s.get mm = some (.map (ub m 0) m.length) := h
 have hlt := hw mm _ h'
 cases hm : fH x m with
 | none =>
  have hs := rq w hm
  refine ⟨s.put mm (.map (ub (ir x w m) 0) (ir x w m).length), ?_, by unfold MP; rw [S.get_put, if_pos rfl], Fw.put (by simp) h' (fun _ h => by cases h) _, by rw [S.next_put]; exact hlt⟩
  rw [hm] at hupd
  simp only [Option.isSome_none, Bool.false_eq_true, if_false] at hupd
  show io (dJ Tryz.prog s ty (some (.map mm)) (some (.str x)) (some w)) = _
  simp only [dJ, hu, h', jF, cond_true, hupd, qT]
  rw [hs, FB, List.length_append]
  simp [io]
 | some v0 =>
  have hl := FA x w m
  rw [hm] at hl hupd
  simp only [Option.isSome_some, if_true] at hl hupd
  refine ⟨s.put mm (.map (ub (ir x w m) 0) (ir x w m).length), ?_, by unfold MP; rw [S.get_put, if_pos rfl], Fw.put (by simp) h' (fun _ h => by cases h) _, by rw [S.next_put]; exact hlt⟩
  show io (dJ Tryz.prog s ty (some (.map mm)) (some (.str x)) (some w)) = _
  simp only [dJ, hu, h', jF, cond_true, hupd, qT, hl]
  rfl
theorem Tp : rE Tryz.prog 3 false (some none) = some (.int .i64 0) := by kernel_rfl
theorem MP.look {s : S} {mm : Nat} {m : List (List Nat × V)} (h : MP s mm m) (hk : lY m) {x : List Nat} (hx : Bytes x) : cp Tryz.prog s 86 (some (.map mm)) (some (.str x)) false = some ((fH x m).getD (.int .i64 0)) := by
 have h' : s.get mm = some (.map (ub m 0) m.length) := h
 simp only [cp, Tryz.underlying86, oz, h', jF, cond_true, rG (fun a b ha hb => iO s a b ha hb) hx m 0 hk]
 cases hm : fH x m with
 | none => simp only [Tp]; rfl
 | some v => rfl
def lI (l : List (List Nat)) : List (List Nat) → List (List Nat) → Bool
 | _, [] => true
 | seen, v :: r => decide (v ∉ seen) && decide (v ∈ l) && lI l (seen ++ [v]) r
def eE (vars : List (List Nat)) (t : Ty) : Bool := fR t && decide (vars.length ≤ 2000) && lI (ve t) [] vars
theorem NY {l : List (List Nat)} {X : Nat} {v : V} {s : S} {mm : Nat} {m : List (List Nat × V)} (h : UV l (some X) v s) (h2 : MP s mm m) : X ≠ mm := fun e => by
 subst e
 have h' : gQ 9 1 s v l.length (l.map V.str) (some X) := h
 have h2' : s.get X = some (.map (ub m 0) m.length) := h2
 generalize hn : l.length = n at h'
 generalize hc : l.map V.str = cs at h'
 cases h' with
 | row _ nv rest n cs h1 h3 h4 => rw [h2'] at h1; cases h1
def UM (l : List (List Nat)) (o : Option Nat) (v : V) (mm : Nat) (m : List (List Nat × V)) (s : S) : Prop := UV l o v s ∧ MP s mm m
theorem UM.stb {l : List (List Nat)} {o : Option Nat} {v : V} {mm : Nat} {m : List (List Nat × V)} : kz (mm :: o.toList) (UM l o v mm m) := fun s s' ⟨h1, h2⟩ hk hn =>
 ⟨UV.stb s s' h1 (fun g hg => hk g (by simp at hg ⊢; exact .inr hg)) hn, hk mm (by simp) _ h2⟩
theorem UM.upd {l : List (List Nat)} {o : Option Nat} {v : V} {mm : Nat} {m : List (List Nat × V)} {s : S} (h : UM l o v mm m s) (hw : WF s) (hk : lY m) {x : List Nat} (hx : Bytes x) (w : V) :
 ∃ s', yp.run Tryz.prog s (.mapUpd 86 (.map mm) (.str x) w) = some (V.undef, s') ∧ UM l o v mm (ir x w m) s' ∧ Fw (mm :: o.toList) s s' ∧ ∀ g ∈ mm :: o.toList, g < s'.next := by
 obtain ⟨s', h1, h2, h3, h4⟩ := MP.upd h.2 hw hk hx w Tryz.underlying86
 have hU : UV l o v s' := gQ.fw h.1 h3 (fun X hX => by subst hX; simp; exact NY h.1 h.2)
 refine ⟨s', h1, ⟨hU, h2⟩, h3.mono (by simp), fun g hg => ?_⟩
 rcases List.mem_cons.1 hg with rfl | hg
 ·exact h4
 ·exact ja hU (h3.wf hw) g hg
section
variable {K : S → Prop} {n : Nat}
structure DX (K : S → Prop) (vars : List (List Nat)) (t : Ty) (vr nm rw : V) : Prop where
 vars : DV K vr vars
 ty : ff K t nm rw
theorem oZ (hK : Kn K n) {vars : List (List Nat)} {t : Ty} {vr nm rw : V} {s : S} (hn : n ≤ s.next) (hR : DX K vars t vr nm rw) (hw : WF s) (hG : cd s) (hk : K s) : Cw aq 40 [.agg [vr, nm, rw]] s fun v s' => v = .bool (eE vars t) ∧ Fw [] s s' := by
 have ho := hR.ty.one
 have hov := hR.vars.row.one
 have hvl := hR.vars.lt
 refine ay (aI (C := rY) (e := ⟨[vr, nm, rw], []⟩) (F := []) (bE rfl rfl rfl) Tryz.func40 rfl (by kernel_rfl) Ce rfl ⟨rfl, by simp [au, ho.1, ho.2, hov], rfl⟩ rfl hw rfl (by simp) trivial am trivial (by simp) ?_)
 have hpos : 1 ≤ cq t := by cases t; simp only [cq]; omega
 have key : ∀ (q : Bool) (b1 : Nat) (L : List bS), (q = false ↔ fR t = true ∧ vars.length ≤ 2000) → ai aq [] s (sq fun v s' => v = .bool (eE vars t) ∧ Fw [] s s') lp ⟨[.bool q, vr, nm, rw], [b1]⟩ [] T0 L := by
  intro q b1 L hq
  refine aB rfl (fun c1 => ?_) (fun c1 => ?_)
  ·refine ak fun s1 h1 h2 h3 h4 => ⟨_, _, rfl, ?_, h1⟩
   have : (fR t && decide (vars.length ≤ 2000)) = false := by
    cases hv : (fR t && decide (vars.length ≤ 2000)) with
    | false => rfl
    | true =>
     simp only [Bool.and_eq_true, decide_eq_true_eq] at hv
     rw [hq.2 hv] at c1; cases c1
   show V.bool false = V.bool (eE vars t)
   unfold eE; rw [this, Bool.false_and]
  ·obtain ⟨hv, hl⟩ := hq.1 c1
   have hsp : eE vars t = lI (hQ t []) [] vars := by
    unfold eE ve; rw [hv, decide_eq_true hl, if_pos rfl]; rfl
   rw [hsp]
   refine cU fun s1 k1 k2 k3 k4 => ?_
   obtain ⟨v, s2, hcall, o', hU, hX, hby, hf⟩ := Bm hK (cq t) t [] nm rw .nilslice none s1 (Nat.le_refl _) hR.ty k2 (hG.keep k1.ro) (hK.still _ _ k1 hk) (Nat.le_trans hn k1.next) (fun X hX => by cases hX) (UV.nil _) (by simp) (by have := (bF hv).1; simp only [List.length_nil]; omega)
   have hw2 := hf.wf k2
   have hil := iS t []
   have hsz := (bF hv).1
   simp only [List.length_nil] at hil
   refine .inl ⟨[v], _, s2, o'.toList, UV (hQ t []) o' v, inferInstance, rfl, by simp [au, hU.one], hcall, hf.mono (by simp), trivial, UV.stb, hU, fun g hg => ⟨ja hU hw2 g hg, ?_⟩, ?_⟩
   ·cases o' with
    | none => simp at hg
    | some X =>
     simp at hg; subst hg
     rcases hX g rfl with h | h
     ·cases h
     ·exact .inr h
   generalize hins : hQ t [] = ins at *
   have hvo := hU.one
   refine gT fun s3 j1 j2 j3 j4 => ?_
   have hal := Fw.alloc [] j2 (.map [] 0)
   refine ⟨[.map s3.next], _, s3.alloc (.map [] 0), s3.next :: o'.toList, UM ins o' v s3.next [], inferInstance, rfl, rfl, rfl, hal.mono (by simp), UM.stb, ⟨gQ.fw j3 hal (by simp), cy _ _⟩, fun g hg => ?_, ?_⟩
   ·rw [S.next_alloc]
    rcases List.mem_cons.1 hg with rfl | hg
    ·exact ⟨by omega, .inr (Nat.le_refl _)⟩
    ·have := ja j3 j2 g hg
     exact ⟨by omega, .inl hg⟩
   generalize s3.next = mm
   refine bT rfl (fun s1 _ _ => hR.vars.len s1) rfl ?_
   refine fv (fun j vs bs D U => ∃ (i : Nat) (m : List (List Nat × V)), i ≤ vars.length ∧ j = vars.length - i ∧ vs = [v, .map mm, vr, .int .i64 ((vars.length : Nat) : Int), .int .i64 ((i : Nat) : Int)] ∧ bs = [] ∧ D = mm :: o'.toList ∧ U = UM ins o' v mm m ∧ lY m ∧ (∀ x, fH x m = if x ∈ vars.take i then some (.int .i64 1) else none) ∧ lI ins (vars.take i) (vars.drop i) = lI ins [] vars)
    vars.length ⟨0, [], by omega, rfl, rfl, rfl, rfl, rfl, (fun p hp => by cases hp), (fun x => by simp [fH]), rfl⟩ UM.stb ?_
   rintro j _ _ _ _ ⟨i, m, hi, rfl, rfl, rfl, rfl, rfl, hkm, hmg, hs⟩ - - -
   refine cP rfl rfl rfl ?_
   refine aP rfl (fun c2 => ?_) (fun c2 => ?_)
   ·obtain ⟨x, hx, hd⟩ := bM (show i < vars.length by omega)
    rw [hd] at hs
    simp only [lI] at hs
    have hxb := hR.vars.bytes x (List.mem_of_getElem? hx)
    obtain ⟨p, hp, hld⟩ := hR.vars.at hx
    refine ao (.ptr p) rfl (fun _ _ _ _ _ => hp) rfl ?_
    refine ao (.str x) rfl (fun a b _ _ _ => hld a (hK.still _ _ b hk)) rfl ?_
    refine ao (.int .i64 (if x ∈ vars.take i then 1 else 0)) rfl (fun s1 h1 h2 h3 h4 => ?_) rfl ?_
    ·have := (h3 rfl).2.look hkm hxb
     show cp Tryz.prog s1 86 (some (.map mm)) (some (.str x)) false = _
     rw [this, hmg x]
     split <;> rfl
    refine br (r := (if x ∈ vars.take i then 1 else 0) + 1) rfl rfl (by split <;> rfl) rfl ?_
    refine gT fun s3 j1 j2 j3 j4 => ?_
    obtain ⟨s4, hrun, hU4, hf4, hb4⟩ := UM.upd j3 j2 hkm hxb (.int .i64 ((if x ∈ vars.take i then 1 else 0) + 1))
    refine ⟨[], _, s4, mm :: o'.toList, UM ins o' v mm (ir x (.int .i64 ((if x ∈ vars.take i then 1 else 0) + 1)) m), inferInstance, rfl, rfl, hrun, hf4, UM.stb, hU4, fun g hg => ⟨hb4 g hg, .inl hg⟩, ?_⟩
    have hkm2 := hkm.set hxb (.int .i64 ((if x ∈ vars.take i then 1 else 0) + 1))
    refine ao (.int .i64 ((if x ∈ vars.take i then 1 else 0) + 1)) rfl (fun s1 h1 h2 h3 h4 => ?_) rfl ?_
    ·have := (h3 rfl).2.look hkm2 hxb
     show cp Tryz.prog s1 86 (some (.map mm)) (some (.str x)) false = _
     rw [this, oW, if_pos rfl]; rfl
    refine gp rfl rfl rfl ?_
    refine aP rfl (fun c3 => ?_) (fun c3 => ?_)
    ·have hmem : x ∈ vars.take i := by
      by_cases h : x ∈ vars.take i
      ·exact h
      ·rw [if_neg h] at c3; omega
     refine ak fun s1 h1 h2 h3 h4 => ⟨_, _, rfl, ?_, h1⟩
     show V.bool false = _
     rw [← hs]; simp [hmem]
    ·have hmem : x ∉ vars.take i := fun h => by rw [if_pos h] at c3; omega
     simp only [hmem, not_false_eq_true, decide_true, Bool.true_and] at hs
     refine aj (.bool (decide (x ∈ ins))) (fun _ _ a b _ => Az UV.still (UV.txs b.1 (by omega) hby) hxb a b.1) rfl rfl ?_
     refine dR rfl rfl ?_
     refine aB rfl (fun c4 => ?_) (fun c4 => ?_)
     ·have hni : x ∉ ins := by simpa using c4
      refine ak fun s1 h1 h2 h3 h4 => ⟨_, _, rfl, ?_, h1⟩
      show V.bool false = _
      rw [← hs]; simp [hni]
     ·have hin : x ∈ ins := by simpa using c4
      simp only [hin, decide_true, Bool.true_and] at hs
      refine br (r := ((i + 1 : Nat) : Int)) rfl rfl (wI (by omega)) rfl ?_
      have htk : vars.take (i + 1) = vars.take i ++ [x] := by rw [List.take_add_one, hx]; rfl
      refine fx rfl UM.stb ⟨vars.length - (i + 1), by omega, i + 1, _, by omega, rfl, rfl, rfl, rfl, rfl, hkm2, fun y => ?_, by rw [htk]; exact hs⟩
      rw [oW, htk, hmg y]
      by_cases hy : y = x
      ·subst hy; simp [hmem]
      ·simp [hy]
   ·have : i = vars.length := by omega
    subst this
    rw [List.drop_length] at hs
    simp only [lI] at hs
    exact ak fun s1 h1 h2 h3 h4 => ⟨_, _, rfl, by rw [← hs]; rfl, h1⟩
 refine aN fun b1 hb1 hd1 => ?_
 refine aj (.int .i64 (if fR t = true then ((cq t : Nat) : Int) else 0)) (fun _ a b _ _ => Ib hK (Nat.le_trans hn a.next) hR.ty b (hG.keep a.ro) (hK.still _ _ a hk)) rfl rfl ?_
 refine cQ rfl rfl rfl ?_
 refine aP rfl (fun c1 => ?_) (fun c1 => ?_)
 ·refine aK (key true _ _ ⟨fun h => (by cases h), fun h => ?_⟩)
  rw [if_pos h.1] at c1; omega
 ·have hvt : fR t = true := by
   cases hv : fR t with
   | true => rfl
   | false => rw [hv] at c1; exact absurd rfl c1
  refine bT rfl (fun s1 _ _ => hR.vars.len s1) rfl ?_
  refine gp rfl rfl rfl ?_
  exact aK (key _ _ _ ⟨fun h => ⟨hvt, by have := of_decide_eq_false h; omega⟩, fun h => decide_eq_false (by omega)⟩)
end
theorem Lr {x : List Nat} : ∀ (pre post : List (List Nat)) (i : Nat), (x ∈ pre → ∃ j, yt x (pre ++ post) i = some j ∧ j < i + pre.length) ∧ (x ∉ pre → yt x (pre ++ post) i = yt x post (i + pre.length))
 | [], post, i => ⟨fun h => (by cases h), fun _ => rfl⟩
 | y :: r, post, i => by
  obtain ⟨h1, h2⟩ := Lr r post (i + 1) (x := x)
  simp only [List.cons_append, yt, List.length_cons]
  by_cases hy : y = x
  ·subst hy
   exact ⟨fun _ => ⟨i, by rw [if_pos rfl], by omega⟩, fun h => absurd (by simp) h⟩
  ·rw [if_neg hy]
   refine ⟨fun h => ?_, fun h => ?_⟩
   ·rcases List.mem_cons.1 h with h | h
    ·exact absurd h.symm hy
    ·obtain ⟨j, hj, hl⟩ := h1 h
     exact ⟨j, hj, by omega⟩
   ·rw [h2 (fun hh => h (List.mem_cons_of_mem _ hh))]
    congr 1; omega
theorem Uv {l : List (List Nat)} {i : Nat} {x : List Nat} (hx : l[i]? = some x) : (uN (yt x l 0) = ((i : Nat) : Int)) ↔ x ∉ l.take i := by
 have hi : i < l.length := by
  rcases Nat.lt_or_ge i l.length with h | h
  ·exact h
  ·rw [List.getElem?_eq_none h] at hx; cases hx
 obtain ⟨y, hy, hd⟩ := bM hi
 rw [hx] at hy; cases hy
 have hl : l = l.take i ++ x :: l.drop (i + 1) := by rw [← hd, List.take_append_drop]
 have htl : (l.take i).length = i := by rw [List.length_take]; omega
 obtain ⟨h1, h2⟩ := Lr (x := x) (l.take i) (x :: l.drop (i + 1)) 0
 rw [← hl, htl] at h1 h2
 constructor
 ·intro h hm
  obtain ⟨j, hj, hlt⟩ := h1 hm
  rw [hj] at h; simp only [uN] at h; omega
 ·intro h
  rw [h2 h]; simp [yt, uN]
section
variable {K : S → Prop} {n : Nat}
theorem xD (hK : Kn K n) {vars : List (List Nat)} {t : Ty} {vr nm rw : V} {s : S} (hn : n ≤ s.next) (hR : DX K vars t vr nm rw) (hw : WF s) (hG : cd s) (hk : K s) : Cw aq 16 [.agg [vr, nm, rw]] s fun v s' => v = .int .i64 (if eE vars t = true then 0 else 32) ∧ Fw [] s s' := by
 have ho := hR.ty.one
 have hov := hR.vars.row.one
 have hvl := hR.vars.lt
 refine ay (aI (C := uC) (e := ⟨[vr, nm, rw], []⟩) (F := []) (bE rfl rfl rfl) Tryz.func16 rfl (by kernel_rfl) Ff rfl ⟨rfl, by simp [au, ho.1, ho.2, hov], rfl⟩ rfl hw rfl (by simp) trivial am trivial (by simp) ?_)
 have key : ∀ (q : Bool) (b1 : Nat) (L : List bS), (q = false ↔ fR t = true ∧ vars.length ≤ 2000) → ai aq [] s (sq fun v s' => v = .int .i64 (if eE vars t = true then 0 else 32) ∧ Fw [] s s') mq ⟨[.bool q, vr, nm, rw], [b1]⟩ [] T0 L := by
  intro q b1 L hq
  refine aB rfl (fun c1 => ?_) (fun c1 => ?_)
  ·refine ak fun s1 h1 h2 h3 h4 => ⟨_, _, rfl, ?_, h1⟩
   have : (fR t && decide (vars.length ≤ 2000)) = false := by
    cases hv : (fR t && decide (vars.length ≤ 2000)) with
    | false => rfl
    | true =>
     simp only [Bool.and_eq_true, decide_eq_true_eq] at hv
     rw [hq.2 hv] at c1; cases c1
   have h0 : eE vars t = false := by unfold eE; rw [this, Bool.false_and]
   rw [h0]; rfl
  ·obtain ⟨hv, hl⟩ := hq.1 c1
   have hsp : eE vars t = lI (yv t []) [] vars := by
    unfold eE ve; rw [hv, decide_eq_true hl, if_pos rfl, qQ t [] (bF hv).2.2]; rfl
   rw [hsp]
   refine cU fun s1 k1 k2 k3 k4 => ?_
   obtain ⟨v, s2, hcall, o', hU, hX, hby, hf⟩ := rV hK (cq t) t [] nm rw .nilslice none s1 (Nat.le_refl _) hR.ty k2 (hG.keep k1.ro) (hK.still _ _ k1 hk) (Nat.le_trans hn k1.next) (fun X hX => by cases hX) (UV.nil _) (by simp) (by have := (bF hv).1; simp only [List.length_nil]; omega)
   have hw2 := hf.wf k2
   have hil := Bk t []
   have hsz := (bF hv).1
   simp only [List.length_nil] at hil
   refine .inl ⟨[v], _, s2, o'.toList, UV (yv t []) o' v, inferInstance, rfl, by simp [au, hU.one], hcall, hf.mono (by simp), trivial, UV.stb, hU, fun g hg => ⟨ja hU hw2 g hg, ?_⟩, ?_⟩
   ·cases o' with
    | none => simp at hg
    | some X =>
     simp at hg; subst hg
     rcases hX g rfl with h | h
     ·cases h
     ·exact .inr h
   generalize hins : yv t [] = ins at *
   have hvo := hU.one
   refine fv (fun j vs bs D U => ∃ (i : Nat), i ≤ vars.length ∧ j = vars.length - i ∧ vs = [v, .int .i64 ((i : Nat) : Int), vr, nm, rw] ∧ bs = [b1] ∧ D = o'.toList ∧ U = UV ins o' v ∧ lI ins (vars.take i) (vars.drop i) = lI ins [] vars)
    vars.length ⟨0, by omega, rfl, rfl, rfl, rfl, rfl, rfl⟩ UV.stb ?_
   rintro j _ _ _ _ ⟨i, hi, rfl, rfl, rfl, rfl, rfl, hs⟩ - - -
   refine bT rfl (fun s1 _ _ => hR.vars.len s1) rfl ?_
   refine cP rfl rfl rfl ?_
   refine aP rfl (fun c2 => ?_) (fun c2 => ?_)
   ·obtain ⟨x, hx, hd⟩ := bM (show i < vars.length by omega)
    rw [hd] at hs
    simp only [lI] at hs
    have hxb := hR.vars.bytes x (List.mem_of_getElem? hx)
    obtain ⟨p, hp, hld⟩ := hR.vars.at hx
    have hfa := Uv hx
    have fin : ∀ (q : Bool), (q = false ↔ x ∉ vars.take i ∧ x ∈ ins) → ∀ vs bs D U, (vs = [v, .int .i64 ((i : Nat) : Int), .bool q, vr, nm, rw] ∧ bs = [b1] ∧ D = o'.toList ∧ U = UV ins o' v) → 
     ai aq [] s (sq fun v s' => v = .int .i64 (if lI ins [] vars = true then 0 else 32) ∧ Fw [] s s') mA ⟨vs, bs⟩ D U (List.take 0 L ++ [fun vs bs D U => ∃ j', j' < vars.length - i ∧ ∃ (i : Nat), i ≤ vars.length ∧ j' = vars.length - i ∧ vs = [v, .int .i64 ((i : Nat) : Int), vr, nm, rw] ∧ bs = [b1] ∧ D = o'.toList ∧ U = UV ins o' v ∧ lI ins (vars.take i) (vars.drop i) = lI ins [] vars]) := by
     rintro q hq _ _ _ _ ⟨rfl, rfl, rfl, rfl⟩
     refine aB rfl (fun c3 => ?_) (fun c3 => ?_)
     ·refine ak fun s1 h1 h2 h3 h4 => ⟨_, _, rfl, ?_, h1⟩
      have : lI ins [] vars = false := by
       rw [← hs]
       by_cases h5 : x ∈ vars.take i
       ·simp [h5]
       ·by_cases h6 : x ∈ ins
        ·rw [hq.2 ⟨h5, h6⟩] at c3; cases c3
        ·simp [h6]
      rw [this]; rfl
     ·obtain ⟨h5, h6⟩ := hq.1 c3
      simp only [h5, h6, not_false_eq_true, decide_true, Bool.true_and] at hs
      refine br (r := ((i + 1 : Nat) : Int)) rfl rfl (wI (by omega)) rfl ?_
      have htk : vars.take (i + 1) = vars.take i ++ [x] := by rw [List.take_add_one, hx]; rfl
      exact fx rfl UV.stb ⟨vars.length - (i + 1), by omega, i + 1, by omega, rfl, rfl, rfl, rfl, rfl, by rw [htk]; exact hs⟩
    refine ao (.ptr p) rfl (fun _ _ _ _ _ => hp) rfl ?_
    refine ao (.str x) rfl (fun a b _ _ _ => hld a (hK.still _ _ b hk)) rfl ?_
    refine aj (.bool (decide (x ∈ ins))) (fun _ _ a b _ => Uj UV.still (UV.txs b (by omega) hby) hxb a b) rfl rfl ?_
    refine dR rfl rfl ?_
    refine aB rfl (fun c3 => ?_) (fun c3 => ?_)
    ·have hni : x ∉ ins := by simpa using c3
     refine iw _ ⟨rfl, rfl, rfl, rfl⟩ UV.stb (fun vs bs D U h _ _ _ => fin true ⟨fun h => (by cases h), fun h => absurd h.2 hni⟩ vs bs D U h)
    ·have hin : x ∈ ins := by simpa using c3
     refine ao (.ptr p) rfl (fun _ _ _ _ _ => hp) rfl ?_
     refine ao (.str x) rfl (fun a b _ _ _ => hld a (hK.still _ _ b hk)) rfl ?_
     refine aj (.int .i64 (uN (yt x vars 0))) (fun _ a b _ _ => SU hK.still hR.vars hxb b (hK.still _ _ a hk)) rfl rfl ?_
     refine iv rfl rfl rfl ?_
     refine iw _ ⟨rfl, rfl, rfl, rfl⟩ UV.stb (fun vs bs D U h _ _ _ => fin (decide (uN (yt x vars 0) ≠ ((i : Nat) : Int))) ⟨fun h => ⟨hfa.1 (by have := of_decide_eq_false h; omega), hin⟩, fun h => decide_eq_false (by have := hfa.2 h.1; omega)⟩ vs bs D U h)
   ·have : i = vars.length := by omega
    subst this
    rw [List.drop_length] at hs
    simp only [lI] at hs
    exact ak fun s1 h1 h2 h3 h4 => ⟨_, _, rfl, by rw [← hs]; rfl, h1⟩
 refine aN fun b1 hb1 hd1 => ?_
 refine aj (.bool (fR t)) (fun _ a b _ _ => Bn hK.still hR.ty b (hK.still _ _ a hk)) rfl rfl ?_
 refine dR rfl rfl ?_
 refine aB rfl (fun c1 => ?_) (fun c1 => ?_)
 ·refine aK (key true _ _ ⟨fun h => (by cases h), fun h => ?_⟩)
  rw [h.1] at c1; cases c1
 ·have hvt : fR t = true := by simpa using c1
  refine bT rfl (fun s1 _ _ => hR.vars.len s1) rfl ?_
  refine gp rfl rfl rfl ?_
  exact aK (key _ _ _ ⟨fun h => ⟨hvt, by have := of_decide_eq_false h; omega⟩, fun h => decide_eq_false (by omega)⟩)
end
end Go.AI.Lx
