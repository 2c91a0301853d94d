/- What the functions answer in the evaluator: part 9. No conditions beyond those of the row. -/
import Derived.Test.YtkeaedhoaamfnaaGreatDoorL8
set_option linter.unusedVariables false
set_option linter.unusedSimpArgs false
noncomputable section
/- What the reference's functions answer of types. -/
namespace Go.AI.Lx
open Go.Proofs Go.Proofs.YtkeaedhoaamfnaaGreatDoor
set_option maxRecDepth 10000
mutual
def cnt : Ty → Nat → Nat
  | .mk _ args, m => cnts args 1 m
def cnts : List Ty → Nat → Nat → Nat
  | [], n, _ => n
  | t :: r, n, m => if n ≤ m then cnts r (n + cnt t (m - n)) m else n
end
mutual
theorem cnt_le : ∀ (t : Ty) (m : Nat), cnt t m ≤ m + 1
  | .mk _ args, m => by
    simp only [cnt]
    exact cnts_le args 1 m (by omega)
theorem cnts_le : ∀ (l : List Ty) (n m : Nat), n ≤ m + 1 → cnts l n m ≤ m + 1
  | [], n, m, h => by simpa only [cnts] using h
  | t :: r, n, m, h => by
    simp only [cnts]
    split
    · have := cnt_le t (m - n)
      exact cnts_le r _ m (by omega)
    · exact h
end
abbrev Still (K : S → Prop) : Prop := ∀ s s', Fw [] s s' → K s → K s'
theorem drop_at {α : Type} {l : List α} {i : Nat} (h : i < l.length) : ∃ x, l[i]? = some x ∧ l.drop i = x :: l.drop (i + 1) := ⟨l[i], List.getElem?_eq_getElem h, List.drop_eq_getElem_cons h⟩
theorem RdT.one {K : S → Prop} : ∀ {t : Ty} {nm rw : V}, RdT K t nm rw → nm.one = true ∧ rw.one = true
  | .mk name args, nm, rw, h => by
    simp only [RdT] at h
    obtain ⟨rfl, _, _, cs, h4, _⟩ := h
    exact ⟨rfl, h4.one⟩
section
variable {K : S → Prop}
theorem countW (hK : Still K) : ∀ (N : Nat) (t : Ty) (m : Nat) (nm rw : V) (s : S), szT t ≤ N → RdT K t nm rw → m < 4611686018427387904 → WF s → K s → Cw envB 39 [.agg [nm, rw], .int .i64 ((m : Nat) : Int)] s fun v s' => v = .int .i64 ((cnt t m : Nat) : Int) ∧ Fw [] s s' := by
  intro N
  induction N with
  | zero => intro t m nm rw s h; cases t; simp only [szT] at h; omega
  | succ N ih =>
    intro t m nm rw s hN hR hm hw hk
    have ho := hR.one
    refine cw_of_co (x_enter (C := cfg_count) (e := ⟨[nm, rw, .int .i64 ((m : Nat) : Int)], []⟩) (F := []) rfl Tryz.func39 rfl (by kernel_rfl) run_count rfl ⟨rfl, by simp [onesV, ho.1, ho.2, one_int], rfl⟩ rfl hw rfl (by simp) trivial stb_true trivial (by simp) ?_)
    obtain ⟨name, args⟩ := t
    simp only [RdT] at hR
    obtain ⟨rfl, hb, -, cs, hrow, hts⟩ := hR
    have hlen := hts.len
    have hlt := hrow.lt
    simp only [szT] at hN
    refine h_new fun b1 hb1 hd1 => ?_
    refine h_loop0 (fun j vs bs => ∃ i n, i ≤ args.length ∧ j = args.length - i ∧ vs = [.int .i64 ((m : Nat) : Int), .int .i64 ((n : Nat) : Int), .int .i64 ((i : Nat) : Int), .str name, rw] ∧ bs = [b1] ∧ cnts (args.drop i) n m = cnts args 1 m ∧ n ≤ m + 1) args.length ⟨0, 1, by omega, rfl, rfl, rfl, rfl, by omega⟩ ?_
    rintro j _ _ ⟨i, n, hi, rfl, rfl, rfl, hc, hn⟩
    refine h_len rfl (fun s1 _ _ => hrow.len und23 s1) rfl ?_
    refine h_lss rfl rfl rfl ?_
    refine h_if rfl (fun c1 => ?_) (fun c1 => ?_)
    · have hi2 : i < args.length := by omega
      obtain ⟨t', ht', hd⟩ := drop_at hi2
      rw [hd] at hc
      simp only [cnts] at hc
      refine h_leq rfl rfl rfl ?_
      refine h_if rfl (fun c2 => ?_) (fun c2 => ?_)
      · rw [if_pos (by omega)] at hc
        obtain ⟨nm', rw', hx, hR'⟩ := hts.at ht'
        obtain ⟨p, hp, hld⟩ := hrow.at und23 ty_size25 hx
        have ho' := hR'.one
        refine h_ask1 (.ptr p) rfl (fun s1 h1 h2 h3 h4 => hp) rfl ?_
        refine h_askN [nm', rw'] (.agg [nm', rw']) rfl (by simp [onesV, ho'.1, ho'.2]) (fun s1 h1 h2 h3 h4 => load_agg (hld s1 (hK _ _ h1 hk))) rfl ?_
        refine h_sub (r := ((m - n : Nat) : Int)) rfl rfl (by rw [show ((m : Nat) : Int) - ((n : Nat) : Int) = ((m - n : Nat) : Int) by omega]; exact wrap_in _ ⟨by omega, by omega⟩) rfl ?_
        refine h_callE (.int .i64 ((cnt t' (m - n) : Nat) : Int)) (fun s1 h1 h2 h3 h4 => ih t' (m - n) nm' rw' s1 (by have := szTs_at ht'; omega) hR' (by omega) h2 (hK _ _ h1 hk)) rfl rfl ?_
        have hcl := cnt_le t' (m - n)
        refine h_add (r := ((n + cnt t' (m - n) : Nat) : Int)) rfl rfl (by rw [show ((n : Nat) : Int) + ((cnt t' (m - n) : Nat) : Int) = ((n + cnt t' (m - n) : Nat) : Int) by omega]; exact wrap_in _ ⟨by omega, by omega⟩) rfl ?_
        refine h_add (r := ((i + 1 : Nat) : Int)) rfl rfl (by rw [show ((i : Nat) : Int) + 1 = ((i + 1 : Nat) : Int) by omega]; exact wrap_in _ ⟨by omega, by omega⟩) rfl ?_
        exact h_back0 (args.length - (i + 1)) rfl (by omega) ⟨i + 1, n + cnt t' (m - n), by omega, rfl, rfl, rfl, hc, by omega⟩
      · rw [if_neg (by omega)] at hc
        exact h_ret fun s1 h1 h2 h3 h4 => ⟨_, _, rfl, by rw [show cnt (.mk name args) m = n by simp only [cnt]; exact hc.symm]; rfl, h1⟩
    · have : i = args.length := by omega
      subst this
      rw [List.drop_length] at hc
      simp only [cnts] at hc
      exact h_ret fun s1 h1 h2 h3 h4 => ⟨_, _, rfl, by rw [show cnt (.mk name args) m = n by simp only [cnt]; exact hc.symm]; rfl, h1⟩
end
mutual
def dp : Ty → Nat
  | .mk _ args => dps args 0 + 1
def dps : List Ty → Nat → Nat
  | [], n => n
  | t :: r, n => dps r (max n (dp t))
end
mutual
theorem dp_le : ∀ (t : Ty), dp t ≤ szT t
  | .mk _ args => by
    have := dps_le args 0
    simp only [dp, szT]; omega
theorem dps_le : ∀ (l : List Ty) (n : Nat), dps l n ≤ max n (szTs l)
  | [], n => by simp only [dps]; omega
  | t :: r, n => by
    have h1 := dp_le t
    have h2 := dps_le r (max n (dp t))
    simp only [dps, szTs]; omega
end
section
variable {K : S → Prop}
theorem deepW (hK : Still K) : ∀ (N : Nat) (t : Ty) (nm rw : V) (s : S), szT t ≤ N → N < 4611686018427387904 → RdT K t nm rw → WF s → K s → Cw envB 65 [.agg [nm, rw]] s fun v s' => v = .int .i64 ((dp t : Nat) : Int) ∧ Fw [] s s' := by
  intro N
  induction N with
  | zero => intro t nm rw s h; cases t; simp only [szT] at h; omega
  | succ N ih =>
    intro t nm rw s hN hNl hR hw hk
    have ho := hR.one
    refine cw_of_co (x_enter (C := cfg_deep) (e := ⟨[nm, rw], []⟩) (F := []) rfl Tryz.func65 rfl (by kernel_rfl) run_deep rfl ⟨rfl, by simp [onesV, ho.1, ho.2], rfl⟩ rfl hw rfl (by simp) trivial stb_true trivial (by simp) ?_)
    obtain ⟨name, args⟩ := t
    simp only [RdT] at hR
    obtain ⟨rfl, hb, -, cs, hrow, hts⟩ := hR
    have hlen := hts.len
    have hlt := hrow.lt
    simp only [szT] at hN
    refine h_new fun b1 hb1 hd1 => ?_
    refine h_loop0 (fun j vs bs => ∃ i n, i ≤ args.length ∧ j = args.length - i ∧ vs = [.int .i64 ((n : Nat) : Int), .int .i64 ((i : Nat) : Int), .str name, rw] ∧ bs = [b1] ∧ dps (args.drop i) n = dps args 0 ∧ n ≤ szTs args) args.length ⟨0, 0, by omega, rfl, rfl, rfl, rfl, by omega⟩ ?_
    rintro j _ _ ⟨i, n, hi, rfl, rfl, rfl, hc, hn⟩
    refine h_len rfl (fun s1 _ _ => hrow.len und23 s1) rfl ?_
    refine h_lss rfl rfl rfl ?_
    refine h_if rfl (fun c1 => ?_) (fun c1 => ?_)
    · have hi2 : i < args.length := by omega
      obtain ⟨t', ht', hd⟩ := drop_at hi2
      rw [hd] at hc
      simp only [dps] at hc
      obtain ⟨nm', rw', hx, hR'⟩ := hts.at ht'
      obtain ⟨p, hp, hld⟩ := hrow.at und23 ty_size25 hx
      have ho' := hR'.one
      have hsz := szTs_at ht'
      have hdp := dp_le t'
      refine h_ask1 (.ptr p) rfl (fun s1 h1 h2 h3 h4 => hp) rfl ?_
      refine h_askN [nm', rw'] (.agg [nm', rw']) rfl (by simp [onesV, ho'.1, ho'.2]) (fun s1 h1 h2 h3 h4 => load_agg (hld s1 (hK _ _ h1 hk))) rfl ?_
      refine h_callE (.int .i64 ((dp t' : Nat) : Int)) (fun s1 h1 h2 h3 h4 => ih t' nm' rw' s1 (by omega) (by omega) hR' h2 (hK _ _ h1 hk)) rfl rfl ?_
      refine h_ask1 (.int .i64 ((max n (dp t') : Nat) : Int)) rfl (fun s1 h1 h2 h3 h4 => ?_) rfl ?_
      · show some (V.int .i64 (bif decide (((dp t' : Nat) : Int) > ((n : Nat) : Int)) then ((dp t' : Nat) : Int) else ((n : Nat) : Int))) = _
        by_cases hd : ((dp t' : Nat) : Int) > ((n : Nat) : Int)
        · rw [decide_eq_true hd, cond_true, show max n (dp t') = dp t' by omega]
        · rw [decide_eq_false hd, cond_false, show max n (dp t') = n by omega]
      refine h_add (r := ((i + 1 : Nat) : Int)) rfl rfl (by rw [show ((i : Nat) : Int) + 1 = ((i + 1 : Nat) : Int) by omega]; exact wrap_in _ ⟨by omega, by omega⟩) rfl ?_
      exact h_back0 (args.length - (i + 1)) rfl (by omega) ⟨i + 1, max n (dp t'), by omega, rfl, rfl, rfl, hc, by omega⟩
    · have : i = args.length := by omega
      subst this
      rw [List.drop_length] at hc
      simp only [dps] at hc
      refine h_add (r := ((n + 1 : Nat) : Int)) rfl rfl (by rw [show ((n : Nat) : Int) + 1 = ((n + 1 : Nat) : Int) by omega]; exact wrap_in _ ⟨by omega, by omega⟩) rfl ?_
      exact h_ret fun s1 h1 h2 h3 h4 => ⟨_, _, rfl, by rw [show dp (.mk name args) = n + 1 by simp only [dp, hc]]; rfl, h1⟩
end
def nameOk (name : List Nat) (n : Nat) : Bool :=
  if name = [45, 62] then decide (n = 2) else if name = [44] then decide (2 ≤ n ∧ n ≤ 4) else if name = [73, 110, 116] then decide (n = 0) else decide (kindC name = 4 ∧ n = 0 ∨ kindC name = 3 ∧ n ≤ 16)
mutual
def fmd : Ty → Bool
  | .mk name args => fmds args && nameOk name args.length
def fmds : List Ty → Bool
  | [] => true
  | t :: r => fmd t && fmds r
end
theorem kind_is {l : List Nat} {k c : Int} (h : KindOk l (.int .i64 k)) (h0 : c ≠ 0) (h1 : c ≠ 1) : k = c ↔ kindC l = c := by
  obtain ⟨k', hk, h⟩ := h
  cases hk
  rcases h with rfl | ⟨hn, rfl⟩
  · rfl
  · have : kindC l = 0 := kind_num hn
    rw [this]; omega
theorem lit2 {a b : Nat} (ha : a < 256) (hb : b < 256) : ∀ z ∈ [a, b], z < 256 := by intro z hz; simp at hz; omega
theorem lit1 {a : Nat} (ha : a < 256) : ∀ z ∈ [a], z < 256 := by intro z hz; simp at hz; omega
theorem lit3 {a b c : Nat} (ha : a < 256) (hb : b < 256) (hc : c < 256) : ∀ z ∈ [a, b, c], z < 256 := by intro z hz; simp at hz; omega
section
variable {K : S → Prop}
theorem formedW (hK : Still K) : ∀ (N : Nat) (t : Ty) (nm rw : V) (s : S), szT t ≤ N → RdT K t nm rw → WF s → K s → Cw envB 66 [.agg [nm, rw]] s fun v s' => v = .bool (fmd t) ∧ Fw [] s s' := by
  intro N
  induction N with
  | zero => intro t nm rw s h; cases t; simp only [szT] at h; omega
  | succ N ih =>
    intro t nm rw s hN hR hw hk
    have ho := hR.one
    refine cw_of_co (x_enter (C := cfg_formed) (e := ⟨[nm, rw], []⟩) (F := []) rfl Tryz.func66 rfl (by kernel_rfl) run_formed rfl ⟨rfl, by simp [onesV, ho.1, ho.2], rfl⟩ rfl hw rfl (by simp) trivial stb_true trivial (by simp) ?_)
    obtain ⟨name, args⟩ := t
    simp only [RdT] at hR
    obtain ⟨rfl, hb, hbl, cs, hrow, hts⟩ := hR
    have hlen := hts.len
    have hlt := hrow.lt
    simp only [szT] at hN
    have hend : ∀ {q : Bool} {s1 : S}, fmds args = true → nameOk name args.length = q → Fw [] s s1 → (Ret fun v s' => v = .bool (fmd (.mk name args)) ∧ Fw [] s s') ⟨.returned (.bool q), none, s1⟩ := fun h1 h2 h3 => ⟨_, _, rfl, by simp only [fmd, h1, h2, Bool.true_and], h3⟩
    refine h_new fun b1 hb1 hd1 => ?_
    refine h_loop0 (fun j vs bs => ∃ i, i ≤ args.length ∧ j = args.length - i ∧ vs = [.int .i64 ((i : Nat) : Int), .str name, rw] ∧ bs = [b1] ∧ fmds (args.drop i) = fmds args) args.length ⟨0, by omega, rfl, rfl, rfl, rfl⟩ ?_
    rintro j _ _ ⟨i, hi, rfl, rfl, rfl, hc⟩
    refine h_len rfl (fun s1 _ _ => hrow.len und23 s1) rfl ?_
    refine h_lss rfl rfl rfl ?_
    refine h_if rfl (fun c1 => ?_) (fun c1 => ?_)
    · have hi2 : i < args.length := by omega
      obtain ⟨t', ht', hd⟩ := drop_at hi2
      rw [hd] at hc
      simp only [fmds] at hc
      obtain ⟨nm', rw', hx, hR'⟩ := hts.at ht'
      obtain ⟨p, hp, hld⟩ := hrow.at und23 ty_size25 hx
      have ho' := hR'.one
      have hsz := szTs_at ht'
      refine h_ask1 (.ptr p) rfl (fun s1 h1 h2 h3 h4 => hp) rfl ?_
      refine h_askN [nm', rw'] (.agg [nm', rw']) rfl (by simp [onesV, ho'.1, ho'.2]) (fun s1 h1 h2 h3 h4 => load_agg (hld s1 (hK _ _ h1 hk))) rfl ?_
      refine h_callE (.bool (fmd t')) (fun s1 h1 h2 h3 h4 => ih t' nm' rw' s1 (by omega) hR' h2 (hK _ _ h1 hk)) rfl rfl ?_
      refine h_not rfl rfl ?_
      refine h_cond rfl (fun c2 => ?_) (fun c2 => ?_)
      · have c3 : fmd t' = false := by simpa using c2
        rw [c3, Bool.false_and] at hc
        exact h_ret fun s1 h1 h2 h3 h4 => ⟨_, _, rfl, by simp only [fmd, ← hc, Bool.false_and]; rfl, h1⟩
      · have c3 : fmd t' = true := by simpa using c2
        rw [c3, Bool.true_and] at hc
        refine h_add (r := ((i + 1 : Nat) : Int)) rfl rfl (by rw [show ((i : Nat) : Int) + 1 = ((i + 1 : Nat) : Int) by omega]; exact wrap_in _ ⟨by omega, by omega⟩) rfl ?_
        exact h_back0 (args.length - (i + 1)) rfl (by omega) ⟨i + 1, by omega, rfl, rfl, rfl, hc⟩
    · have : i = args.length := by omega
      subst this
      rw [List.drop_length] at hc
      simp only [fmds] at hc
      have hc := hc.symm
      refine h_eqlS rfl rfl hb (lit2 (by omega) (by omega)) rfl ?_
      refine h_if rfl (fun n1 => ?_) (fun n1 => ?_)
      · refine h_len rfl (fun s1 _ _ => hrow.len und23 s1) rfl ?_
        refine h_eql rfl rfl rfl ?_
        exact h_ret fun s1 h1 h2 h3 h4 => hend hc (by unfold nameOk; rw [if_pos n1, decide_eq_decide]; omega) h1
      · refine h_eqlS rfl rfl hb (lit1 (by omega)) rfl ?_
        refine h_if rfl (fun n2 => ?_) (fun n2 => ?_)
        · refine h_len rfl (fun s1 _ _ => hrow.len und23 s1) rfl ?_
          refine h_geq rfl rfl rfl ?_
          refine h_if rfl (fun c5 => ?_) (fun c5 => ?_)
          · refine h_len rfl (fun s1 _ _ => hrow.len und23 s1) rfl ?_
            refine h_leq rfl rfl rfl ?_
            exact h_ret fun s1 h1 h2 h3 h4 => hend hc (by unfold nameOk; rw [if_neg n1, if_pos n2, decide_eq_decide]; omega) h1
          · exact h_ret fun s1 h1 h2 h3 h4 => hend hc (by unfold nameOk; rw [if_neg n1, if_pos n2, decide_eq_false (by omega)]) h1
        · refine h_eqlS rfl rfl hb (lit3 (by omega) (by omega) (by omega)) rfl ?_
          refine h_if rfl (fun n3 => ?_) (fun n3 => ?_)
          · refine h_len rfl (fun s1 _ _ => hrow.len und23 s1) rfl ?_
            refine h_eql rfl rfl rfl ?_
            exact h_ret fun s1 h1 h2 h3 h4 => hend hc (by unfold nameOk; rw [if_neg n1, if_neg n2, if_pos n3, decide_eq_decide]; omega) h1
          · have hno : nameOk name args.length = decide (kindC name = 4 ∧ args.length = 0 ∨ kindC name = 3 ∧ args.length ≤ 16) := by unfold nameOk; rw [if_neg n1, if_neg n2, if_neg n3]
            refine h_call (fun s1 h1 h2 h3 h4 => kindRW hb hbl h2) ?_
            intro v s1 s2 hkk _ _
            obtain ⟨k, rfl, -⟩ := id hkk
            have k4 := kind_is (c := 4) hkk (by omega) (by omega)
            have k3 := kind_is (c := 3) hkk (by omega) (by omega)
            refine c_one rfl rfl ?_
            refine h_eql rfl rfl rfl ?_
            refine h_if rfl (fun c7 => ?_) (fun c7 => ?_)
            · have q4 := k4.1 c7
              refine h_len rfl (fun s1 _ _ => hrow.len und23 s1) rfl ?_
              refine h_eql rfl rfl rfl ?_
              refine h_if rfl (fun c8 => ?_) (fun c8 => ?_)
              · exact h_ret fun s1 h1 h2 h3 h4 => hend hc (by rw [hno, decide_eq_true (.inl ⟨q4, by omega⟩)]) h1
              · refine h_eql rfl rfl rfl ?_
                refine h_if rfl (fun c9 => ?_) (fun c9 => ?_)
                · omega
                · exact h_ret fun s1 h1 h2 h3 h4 => hend hc (by rw [hno, decide_eq_false]; omega) h1
            · refine h_eql rfl rfl rfl ?_
              refine h_if rfl (fun c10 => ?_) (fun c10 => ?_)
              · refine h_len rfl (fun s1 _ _ => hrow.len und23 s1) rfl ?_
                refine h_leq rfl rfl rfl ?_
                exact h_ret fun s1 h1 h2 h3 h4 => hend hc (by rw [hno, decide_eq_decide]; have := k3.1 c10; omega) h1
              · exact h_ret fun s1 h1 h2 h3 h4 => hend hc (by rw [hno, decide_eq_false]; intro h; rcases h with h | h; exact c7 (k4.2 h.1); exact c10 (k3.2 h.1)) h1
end
end Go.AI.Lx
/- Valid types: what the reference answers. -/
namespace Go.AI.Lx
open Go.Proofs Go.Proofs.YtkeaedhoaamfnaaGreatDoor
set_option maxRecDepth 10000
theorem cnts_ge : ∀ (l : List Ty) (n m : Nat), n ≤ cnts l n m
  | [], n, m => by simp [cnts]
  | t :: r, n, m => by
    simp only [cnts]
    split
    · exact Nat.le_trans (by omega) (cnts_ge r _ m)
    · exact Nat.le_refl _
mutual
theorem cnt_sz : ∀ (t : Ty) (m : Nat), cnt t m ≤ m → cnt t m = szT t
  | .mk _ args, m, h => by
    simp only [cnt, szT] at h ⊢
    have := cnts_sz args 1 m h
    omega
theorem cnts_sz : ∀ (l : List Ty) (n m : Nat), cnts l n m ≤ m → cnts l n m = n + szTs l
  | [], n, m, h => by simp [cnts, szTs]
  | t :: r, n, m, h => by
    simp only [cnts, szTs] at h ⊢
    split at h
    · rename_i hn
      rw [if_pos hn]
      have h1 := cnts_ge r (n + cnt t (m - n)) m
      have h2 := cnt_sz t (m - n) (by omega)
      have h3 := cnts_sz r _ m h
      omega
    · omega
end
mutual
theorem cnt_of : ∀ (t : Ty) (m : Nat), szT t ≤ m → cnt t m = szT t
  | .mk _ args, m, h => by
    simp only [cnt, szT] at h ⊢
    have := cnts_of args 1 m (by omega)
    omega
theorem cnts_of : ∀ (l : List Ty) (n m : Nat), n + szTs l ≤ m → cnts l n m = n + szTs l
  | [], n, m, h => by simp [cnts, szTs]
  | t :: r, n, m, h => by
    simp only [cnts, szTs] at h ⊢
    rw [if_pos (by omega), cnt_of t (m - n) (by omega)]
    have := cnts_of r (n + szT t) m (by omega)
    omega
end
def vld (t : Ty) : Bool := decide (szT t ≤ 2000) && decide (dp t ≤ 100) && fmd t
section
variable {K : S → Prop}
theorem validW (hK : Still K) {t : Ty} {nm rw : V} {s : S} (hR : RdT K t nm rw) (hw : WF s) (hk : K s) : Cw envB 36 [.agg [nm, rw]] s fun v s' => v = .bool (vld t) ∧ Fw [] s s' := by
  have ho := hR.one
  refine cw_of_co (x_enter (C := cfg_valid) (e := ⟨[nm, rw], []⟩) (F := []) rfl Tryz.func36 rfl (by kernel_rfl) run_valid rfl ⟨rfl, by simp [onesV, ho.1, ho.2], rfl⟩ rfl hw rfl (by simp) trivial stb_true trivial (by simp) ?_)
  refine h_new fun b1 hb1 hd1 => ?_
  refine h_callE (.int .i64 ((cnt t 2000 : Nat) : Int)) (fun s1 h1 h2 h3 h4 => countW hK (szT t) t 2000 nm rw s1 (Nat.le_refl _) hR (by omega) h2 (hK _ _ h1 hk)) rfl rfl ?_
  refine h_leq rfl rfl rfl ?_
  refine h_if rfl (fun c1 => ?_) (fun c1 => ?_)
  · have hsz := cnt_sz t 2000 (by omega)
    refine h_callE (.int .i64 ((dp t : Nat) : Int)) (fun s1 h1 h2 h3 h4 => deepW hK 2000 t nm rw s1 (by omega) (by omega) hR h2 (hK _ _ h1 hk)) rfl rfl ?_
    refine h_leq rfl rfl rfl ?_
    refine h_if rfl (fun c2 => ?_) (fun c2 => ?_)
    · refine h_callE (.bool (fmd t)) (fun s1 h1 h2 h3 h4 => formedW hK (szT t) t nm rw s1 (Nat.le_refl _) hR h2 (hK _ _ h1 hk)) rfl rfl ?_
      exact h_ret fun s1 h1 h2 h3 h4 => ⟨_, _, rfl, by unfold vld; rw [decide_eq_true (show szT t ≤ 2000 by omega), decide_eq_true (show dp t ≤ 100 by omega)]; rfl, h1⟩
    · exact h_ret fun s1 h1 h2 h3 h4 => ⟨_, _, rfl, by unfold vld; rw [decide_eq_false (show ¬ dp t ≤ 100 by omega), Bool.and_false, Bool.false_and]; rfl, h1⟩
  · have hn : ¬ szT t ≤ 2000 := fun h => c1 (by rw [cnt_of t 2000 h]; omega)
    exact h_ret fun s1 h1 h2 h3 h4 => ⟨_, _, rfl, by unfold vld; rw [decide_eq_false hn, Bool.false_and, Bool.false_and]; rfl, h1⟩
def isV (name : List Nat) : Bool := decide (0 < name.length ∧ peekN name 0 = 39)
theorem isVarRW {name : List Nat} {rw : V} {s : S} (hb : Bytes name) (hl : name.length < 4611686018427387904) (ho : rw.one = true) (hw : WF s) : Cw envB 67 [.agg [.str name, rw]] s fun v s' => v = .bool (isV name) ∧ Fw [] s s' := by
  refine cw_of_co (x_enter (C := cfg_isVarR) (e := ⟨[.str name, rw], []⟩) (F := []) rfl Tryz.func67 rfl (by kernel_rfl) run_isVarR rfl ⟨rfl, by simp [onesV, ho, one_str], rfl⟩ rfl hw rfl (by simp) trivial stb_true trivial (by simp) ?_)
  refine h_new fun b1 hb1 hd1 => ?_
  refine h_lenS rfl Tryz.underlying9 rfl rfl ?_
  refine h_gtr rfl rfl rfl ?_
  refine h_if rfl (fun c1 => ?_) (fun c1 => ?_)
  · refine h_idxS (n := 0) Tryz.underlying9 rfl rfl (at_of_lt hb (by omega)) rfl ?_
    refine h_eql rfl rfl rfl ?_
    exact h_ret fun s1 h1 h2 h3 h4 => ⟨_, _, rfl, by unfold isV; show V.bool _ = V.bool _; congr 1; rw [decide_eq_decide]; omega, h1⟩
  · exact h_ret fun s1 h1 h2 h3 h4 => ⟨_, _, rfl, by unfold isV; rw [decide_eq_false (show ¬ (0 < name.length ∧ peekN name 0 = 39) by omega)]; rfl, h1⟩
theorem isVarW {name : List Nat} {s : S} (hb : Bytes name) (hl : name.length < 4611686018427387904) (hw : WF s) (hG : GlobOk s) : Cw envB 43 [.str name] s fun v s' => v = .bool (decide (kindC name = 4)) ∧ Fw [] s s' := by
  refine cw_of_co (x_enter (C := cfg_isVar) (e := ⟨[.str name], []⟩) (F := []) rfl Tryz.func43 rfl (by kernel_rfl) run_isVar rfl ⟨rfl, rfl, rfl⟩ rfl hw rfl (by simp) trivial stb_true trivial (by simp) ?_)
  refine h_call (fun s1 h1 h2 h3 h4 => kindLW hb hl h2 (hG.keep h1.ro)) ?_
  intro v s1 s2 hkk _ _
  obtain ⟨k, rfl, -⟩ := id hkk
  have k4 := kind_is (c := 4) hkk (by omega) (by omega)
  refine c_one rfl rfl ?_
  refine h_eql rfl rfl rfl ?_
  exact h_ret fun s1 h1 h2 h3 h4 => ⟨_, _, rfl, by show V.bool _ = V.bool _; congr 1; rw [decide_eq_decide]; exact k4, h1⟩
theorem isConW {name : List Nat} {s : S} (hb : Bytes name) (hl : name.length < 4611686018427387904) (hw : WF s) (hG : GlobOk s) : Cw envB 68 [.str name] s fun v s' => v = .bool (decide (kindC name = 3)) ∧ Fw [] s s' := by
  refine cw_of_co (x_enter (C := cfg_isCon) (e := ⟨[.str name], []⟩) (F := []) rfl Tryz.func68 rfl (by kernel_rfl) run_isCon rfl ⟨rfl, rfl, rfl⟩ rfl hw rfl (by simp) trivial stb_true trivial (by simp) ?_)
  refine h_call (fun s1 h1 h2 h3 h4 => kindLW hb hl h2 (hG.keep h1.ro)) ?_
  intro v s1 s2 hkk _ _
  obtain ⟨k, rfl, -⟩ := id hkk
  have k3 := kind_is (c := 3) hkk (by omega) (by omega)
  refine c_one rfl rfl ?_
  refine h_eql rfl rfl rfl ?_
  exact h_ret fun s1 h1 h2 h3 h4 => ⟨_, _, rfl, by show V.bool _ = V.bool _; congr 1; rw [decide_eq_decide]; exact k3, h1⟩
end
end Go.AI.Lx
/- Valid types: what the program answers. -/
namespace Go.AI.Lx
open Go.Proofs Go.Proofs.YtkeaedhoaamfnaaGreatDoor
set_option maxRecDepth 10000
mutual
def isTy : Ty → Nat → Nat → Bool × Nat
  | .mk name args, d, c => if nameOk name args.length = true ∧ c + 1 ≤ 2000 ∧ d ≤ 100 then isTys args (d + 1) (c + 1) else (false, c + 1)
def isTys : List Ty → Nat → Nat → Bool × Nat
  | [], _, c => (true, c)
  | t :: r, d, c => if (isTy t d c).1 = true then isTys r d (isTy t d c).2 else (false, (isTy t d c).2)
end
mutual
theorem isTy_ok : ∀ (t : Ty) (d c : Nat), (isTy t d c).1 = true → (isTy t d c).2 ≤ 2000
  | .mk name args, d, c => by
    simp only [isTy]
    split
    · rename_i h
      exact isTys_ok args (d + 1) (c + 1) h.2.1
    · intro h; cases h
theorem isTys_ok : ∀ (l : List Ty) (d c : Nat), c ≤ 2000 → (isTys l d c).1 = true → (isTys l d c).2 ≤ 2000
  | [], d, c, h => by simpa [isTys] using h
  | t :: r, d, c, h => by
    simp only [isTys]
    split
    · rename_i h1
      exact isTys_ok r d _ (isTy_ok t d c h1)
    · intro h; cases h
end
abbrev CntB (c : Nat) : Blk := .cells 3 false 1 [⟨0, 0, [.int .i64 ((c : Nat) : Int)]⟩]
def QI (t : Ty) (d c fc : Nat) (s : S) : Out → Prop := Ret fun v s' => v = .bool (isTy t d c).1 ∧ s'.get fc = some (CntB (isTy t d c).2) ∧ Fw [fc] s s'
def IsTyW (K : S → Prop) (fc N : Nat) : Prop := ∀ (t : Ty) (d c : Nat) (p : Ad) (nm rw : V) (s : S), szT t ≤ N → RdT K t nm rw → (∀ s, K s → loadCells s p 2 = some [nm, rw]) → d ≤ 101 → c ≤ 2000 → WF s → GlobOk s → K s → s.get fc = some (CntB c) →
  Cw envB 38 [.ptr p, .int .i64 ((d : Nat) : Int), .ptr ⟨fc, 0, 0⟩] s fun v s' => v = .bool (isTy t d c).1 ∧ s'.get fc = some (CntB (isTy t d c).2) ∧ Fw [fc] s s'
section
variable {K : S → Prop} {fc : Nat} {L : List LProp}
theorem isTy_no {name : List Nat} {args : List Ty} {d c : Nat} (h : ¬ (nameOk name args.length = true ∧ c + 1 ≤ 2000 ∧ d ≤ 100)) : isTy (.mk name args) d c = (false, c + 1) := by simp only [isTy]; rw [if_neg h]
theorem isTy_yes {name : List Nat} {args : List Ty} {d c : Nat} (h : nameOk name args.length = true ∧ c + 1 ≤ 2000 ∧ d ≤ 100) : isTy (.mk name args) d c = isTys args (d + 1) (c + 1) := by simp only [isTy]; rw [if_pos h]
theorem sub1_isType_ok (hK : ∀ s s', Fw [fc] s s' → K s → K s') {N : Nat} (ih : IsTyW K fc N) {name : List Nat} {args : List Ty} {d c : Nat} {p : Ad} {rw : V} {cs : List (List V)} {s : S} (hN : szTs args ≤ N) (hrow : RowV K 2 rw cs) (hts : RdTs K args cs) (hp : ∀ s, K s → loadCells s p 2 = some [.str name, rw]) (hd : d ≤ 101) (hc : c ≤ 2000)
    (hw : WF s) (hG : GlobOk s) (hk : K s) {q : Bool} (hq : q = false ↔ (nameOk name args.length = true ∧ c + 1 ≤ 2000 ∧ d ≤ 100)) :
    holds envB [fc] s (QI (.mk name args) d c fc s) sub1_isType ⟨[.ptr p, .int .i64 ((d : Nat) : Int), .bool q, .int .i64 ((c + 1 : Nat) : Int)], [fc]⟩ [] T0 L := by
  refine h_cond rfl (fun c1 => ?_) (fun c1 => ?_)
  · refine h_ret fun s1 h1 h2 h3 h4 => ⟨_, _, rfl, ?_⟩
    rw [isTy_no (fun h => by rw [hq.2 h] at c1; cases c1)]
    exact ⟨rfl, h4.1, h1⟩
  · have hyes := hq.1 c1
    have hlen := hts.len
    have hlt := hrow.lt
    refine h_ask1 (.ptr p) rfl (fun s1 h1 h2 h3 h4 => rfl) rfl ?_
    refine h_ask1 (.ptr (addC p 1)) rfl (fun s1 h1 h2 h3 h4 => fa25 p 1 (by omega)) rfl ?_
    refine h_ask1 rw hrow.one (fun s1 h1 h2 h3 h4 => load_cell (hp s1 (hK _ _ h1 hk)) rfl lv23) rfl ?_
    refine h_len rfl (fun s1 _ _ => hrow.len und23 s1) rfl ?_
    refine h_loop0 (fun j vs bs => ∃ i c', i ≤ args.length ∧ j = args.length - i ∧ vs = [.ptr p, .int .i64 ((d : Nat) : Int), .int .i64 ((cs.length : Nat) : Int), .int .i64 ((i : Nat) : Int), .int .i64 ((c' : Nat) : Int)] ∧ bs = [fc] ∧ isTys (args.drop i) (d + 1) c' = isTys args (d + 1) (c + 1) ∧ c' ≤ 2000) args.length ⟨0, c + 1, by omega, rfl, rfl, rfl, rfl, hyes.2.1⟩ ?_
    rintro j _ _ ⟨i, c', hi, rfl, rfl, rfl, hcc, hcl⟩
    refine h_lss rfl rfl rfl ?_
    refine h_if rfl (fun c2 => ?_) (fun c2 => ?_)
    · have hi2 : i < args.length := by omega
      obtain ⟨t', ht', hdr⟩ := drop_at hi2
      rw [hdr] at hcc
      simp only [isTys] at hcc
      obtain ⟨nm', rw', hx, hR'⟩ := hts.at ht'
      obtain ⟨p', hp', hld⟩ := hrow.at und23 ty_size25 hx
      have hsz := szTs_at ht'
      refine h_ask1 (.ptr p) rfl (fun s1 h1 h2 h3 h4 => rfl) rfl ?_
      refine h_ask1 (.ptr (addC p 1)) rfl (fun s1 h1 h2 h3 h4 => fa25 p 1 (by omega)) rfl ?_
      refine h_ask1 rw hrow.one (fun s1 h1 h2 h3 h4 => load_cell (hp s1 (hK _ _ h1 hk)) rfl lv23) rfl ?_
      refine h_ask1 (.ptr p') rfl (fun s1 h1 h2 h3 h4 => hp') rfl ?_
      refine h_add (r := ((d + 1 : Nat) : Int)) rfl rfl (by rw [show ((d : Nat) : Int) + 1 = ((d + 1 : Nat) : Int) by omega]; exact wrap_in _ ⟨by omega, by omega⟩) rfl ?_
      refine h_callD fun s1 k1 k2 k3 k4 => ?_
      obtain ⟨v, s2, hcall, rfl, hcnt, hf⟩ := ih t' (d + 1) c' p' nm' rw' s1 (by omega) hR' hld (by omega) hcl k2 (hG.keep k1.ro) (hK _ _ k1 hk) k4.1
      refine .inl ⟨[.int .i64 (((isTy t' (d + 1) c').2 : Nat) : Int), .bool (isTy t' (d + 1) c').1], _, s2, [], T0, inferInstance, rfl, rfl, hcall, hf.mono (by simp [idsOf]; rfl), ⟨hcnt, trivial⟩, stb_true, trivial, by simp, ?_⟩
      refine h_not rfl rfl ?_
      refine h_cond rfl (fun c3 => ?_) (fun c3 => ?_)
      · have c4 : (isTy t' (d + 1) c').1 = false := by simpa using c3
        rw [if_neg (by rw [c4]; simp)] at hcc
        refine h_ret fun s1 h1 h2 h3 h4 => ⟨_, _, rfl, ?_⟩
        rw [isTy_yes hyes, ← hcc]
        exact ⟨rfl, h4.1, h1⟩
      · have c4 : (isTy t' (d + 1) c').1 = true := by simpa using c3
        rw [if_pos c4] at hcc
        refine h_add (r := ((i + 1 : Nat) : Int)) rfl rfl (by rw [show ((i : Nat) : Int) + 1 = ((i + 1 : Nat) : Int) by omega]; exact wrap_in _ ⟨by omega, by omega⟩) rfl ?_
        exact h_back0 (args.length - (i + 1)) rfl (by omega) ⟨i + 1, _, by omega, rfl, rfl, rfl, hcc, isTy_ok t' (d + 1) c' c4⟩
    · have : i = args.length := by omega
      subst this
      rw [List.drop_length] at hcc
      simp only [isTys] at hcc
      refine h_ret fun s1 h1 h2 h3 h4 => ⟨_, _, rfl, ?_⟩
      rw [isTy_yes hyes, ← hcc]
      exact ⟨rfl, h4.1, h1⟩
theorem sub2_isType_ok (hK : ∀ s s', Fw [fc] s s' → K s → K s') {N : Nat} (ih : IsTyW K fc N) {name : List Nat} {args : List Ty} {d c : Nat} {p : Ad} {rw : V} {cs : List (List V)} {s : S} (hN : szTs args ≤ N) (hrow : RowV K 2 rw cs) (hts : RdTs K args cs) (hp : ∀ s, K s → loadCells s p 2 = some [.str name, rw]) (hd : d ≤ 101) (hc : c ≤ 2000)
    (hw : WF s) (hG : GlobOk s) (hk : K s) {q : Bool} (hq : q = nameOk name args.length) :
    holds envB [fc] s (QI (.mk name args) d c fc s) sub2_isType ⟨[.ptr p, .int .i64 ((d : Nat) : Int), .bool q, .int .i64 ((c + 1 : Nat) : Int)], [fc]⟩ [] T0 L := by
  refine h_not rfl rfl ?_
  refine h_cond rfl (fun c1 => ?_) (fun c1 => ?_)
  · exact h_cutE (sub1_isType_ok hK ih hN hrow hts hp hd hc hw hG hk (q := true) ⟨fun h => by (cases h), fun h => by rw [hq, h.1] at c1; cases c1⟩)
  · have hr : nameOk name args.length = true := by rw [← hq]; simpa using c1
    refine h_gtr rfl rfl rfl ?_
    refine h_if rfl (fun c2 => ?_) (fun c2 => ?_)
    · exact h_cutE (sub1_isType_ok hK ih hN hrow hts hp hd hc hw hG hk (q := true) ⟨fun h => by (cases h), fun h => by omega⟩)
    · refine h_gtr rfl rfl rfl ?_
      exact h_cutE (sub1_isType_ok hK ih hN hrow hts hp hd hc hw hG hk (q := decide (((d : Nat) : Int) > 100)) ⟨fun h => ⟨hr, by omega, by have := of_decide_eq_false h; omega⟩, fun h => decide_eq_false (by omega)⟩)
theorem isTypeW (hK : ∀ s s', Fw [fc] s s' → K s → K s') : ∀ N, IsTyW K fc N := by
  intro N
  induction N with
  | zero => intro t d c p nm rw s h; cases t; simp only [szT] at h; omega
  | succ N ih =>
    intro t d c p nm rw s hN hR hp hd hc hw hG hk hg
    refine cw_of_co (x_enter (C := cfg_isType) (e := ⟨[.ptr p, .int .i64 ((d : Nat) : Int), .int .i64 ((c : Nat) : Int)], [fc]⟩) (F := [fc]) rfl Tryz.func38 rfl (by kernel_rfl) run_isType rfl ⟨rfl, rfl, rfl⟩ rfl hw rfl (by simp) ⟨hg, trivial⟩ stb_true trivial (by simp) ?_)
    obtain ⟨name, args⟩ := t
    simp only [RdT] at hR
    obtain ⟨rfl, hb, hbl, cs, hrow, hts⟩ := hR
    have hlen := hts.len
    have hlt := hrow.lt
    simp only [szT] at hN
    have hN' : szTs args ≤ N := by omega
    have hend : ∀ {L : List LProp} {q : Bool}, q = nameOk name args.length → holds envB [fc] s (QI (.mk name args) d c fc s) sub2_isType ⟨[.ptr p, .int .i64 ((d : Nat) : Int), .bool q, .int .i64 ((c + 1 : Nat) : Int)], [fc]⟩ [] T0 L :=
      fun hq => sub2_isType_ok hK ih hN' hrow hts hp hd hc hw hG hk hq
    have hld0 : ∀ s1, Fw [fc] s s1 → nxVal1 (doLoad Tryz.prog s1 9 (some (.ptr (addC p 0)))) = some (.str name) := fun s1 h1 => load_cell (hp s1 (hK _ _ h1 hk)) rfl lv9
    have hld1 : ∀ s1, Fw [fc] s s1 → nxVal1 (doLoad Tryz.prog s1 23 (some (.ptr (addC p 1)))) = some rw := fun s1 h1 => load_cell (hp s1 (hK _ _ h1 hk)) rfl lv23
    show holds envB [fc] s (QI (.mk name args) d c fc s) _ _ _ _ _
    refine h_add (r := ((c + 1 : Nat) : Int)) rfl rfl (by rw [show ((c : Nat) : Int) + 1 = ((c + 1 : Nat) : Int) by omega]; exact wrap_in _ ⟨by omega, by omega⟩) rfl ?_
    refine h_ask1 (.ptr p) rfl (fun s1 h1 h2 h3 h4 => rfl) rfl ?_
    refine h_ask1 (.ptr (addC p 1)) rfl (fun s1 h1 h2 h3 h4 => fa25 p 1 (by omega)) rfl ?_
    refine h_ask1 rw hrow.one (fun s1 h1 h2 h3 h4 => hld1 s1 h1) rfl ?_
    refine h_len rfl (fun s1 _ _ => hrow.len und23 s1) rfl ?_
    refine h_ask1 (.ptr p) rfl (fun s1 h1 h2 h3 h4 => rfl) rfl ?_
    refine h_ask1 (.ptr (addC p 0)) rfl (fun s1 h1 h2 h3 h4 => fa25 p 0 (by omega)) rfl ?_
    refine h_ask1 (.str name) rfl (fun s1 h1 h2 h3 h4 => hld0 s1 h1) rfl ?_
    refine h_eqlS rfl rfl hb (lit3 (by omega) (by omega) (by omega)) rfl ?_
    refine h_if rfl (fun n3 => ?_) (fun n3 => ?_)
    · refine h_eql rfl rfl rfl ?_
      exact h_cutE (hend (by subst n3; unfold nameOk; rw [if_neg (by decide), if_neg (by decide), if_pos rfl, decide_eq_decide]; omega))
    · refine h_eqlS rfl rfl hb (lit2 (by omega) (by omega)) rfl ?_
      refine h_if rfl (fun n1 => ?_) (fun n1 => ?_)
      · refine h_eql rfl rfl rfl ?_
        exact h_cutE (hend (by unfold nameOk; rw [if_pos n1, decide_eq_decide]; omega))
      · refine h_eqlS rfl rfl hb (lit1 (by omega)) rfl ?_
        refine h_if rfl (fun n2 => ?_) (fun n2 => ?_)
        · refine h_geq rfl rfl rfl ?_
          refine h_if rfl (fun c5 => ?_) (fun c5 => ?_)
          · refine h_leq rfl rfl rfl ?_
            exact h_cutE (hend (by unfold nameOk; rw [if_neg n1, if_pos n2, decide_eq_decide]; omega))
          · exact h_cutE (hend (by unfold nameOk; rw [if_neg n1, if_pos n2, decide_eq_false (by omega)]))
        · have hno : nameOk name args.length = decide (kindC name = 4 ∧ args.length = 0 ∨ kindC name = 3 ∧ args.length ≤ 16) := by unfold nameOk; rw [if_neg n1, if_neg n2, if_neg n3]
          refine h_ask1 (.ptr p) rfl (fun s1 h1 h2 h3 h4 => rfl) rfl ?_
          refine h_ask1 (.ptr (addC p 0)) rfl (fun s1 h1 h2 h3 h4 => fa25 p 0 (by omega)) rfl ?_
          refine h_ask1 (.str name) rfl (fun s1 h1 h2 h3 h4 => hld0 s1 h1) rfl ?_
          refine h_callE (.bool (decide (kindC name = 4))) (fun s1 h1 h2 h3 h4 => isVarW hb hbl h2 (hG.keep h1.ro)) rfl rfl ?_
          refine h_if rfl (fun c7 => ?_) (fun c7 => ?_)
          · refine h_eql rfl rfl rfl ?_
            refine h_if rfl (fun c8 => ?_) (fun c8 => ?_)
            · exact h_cutE (hend (by rw [hno, decide_eq_true (.inl ⟨c7, by omega⟩)]))
            · refine h_ask1 (.ptr p) rfl (fun s1 h1 h2 h3 h4 => rfl) rfl ?_
              refine h_ask1 (.ptr (addC p 0)) rfl (fun s1 h1 h2 h3 h4 => fa25 p 0 (by omega)) rfl ?_
              refine h_ask1 (.str name) rfl (fun s1 h1 h2 h3 h4 => hld0 s1 h1) rfl ?_
              refine h_callE (.bool (decide (kindC name = 3))) (fun s1 h1 h2 h3 h4 => isConW hb hbl h2 (hG.keep h1.ro)) rfl rfl ?_
              refine h_if rfl (fun c9 => ?_) (fun c9 => ?_)
              · omega
              · exact h_cutE (hend (by rw [hno, decide_eq_false (by omega)]))
          · refine h_ask1 (.ptr p) rfl (fun s1 h1 h2 h3 h4 => rfl) rfl ?_
            refine h_ask1 (.ptr (addC p 0)) rfl (fun s1 h1 h2 h3 h4 => fa25 p 0 (by omega)) rfl ?_
            refine h_ask1 (.str name) rfl (fun s1 h1 h2 h3 h4 => hld0 s1 h1) rfl ?_
            refine h_callE (.bool (decide (kindC name = 3))) (fun s1 h1 h2 h3 h4 => isConW hb hbl h2 (hG.keep h1.ro)) rfl rfl ?_
            refine h_if rfl (fun c9 => ?_) (fun c9 => ?_)
            · refine h_leq rfl rfl rfl ?_
              exact h_cutE (hend (by rw [hno, decide_eq_decide]; omega))
            · exact h_cutE (hend (by rw [hno, decide_eq_false (by omega)]))
end
theorem dps_max : ∀ (l : List Ty) (n : Nat), dps l n = max n (dps l 0)
  | [], n => by simp [dps]
  | t :: r, n => by
    have h1 := dps_max r (max n (dp t))
    have h2 := dps_max r (max 0 (dp t))
    simp only [dps]; omega
mutual
theorem isTy_law : ∀ (t : Ty) (d c : Nat), ((isTy t d c).1 = true ↔ c + szT t ≤ 2000 ∧ d + dp t ≤ 101 ∧ fmd t = true) ∧ ((isTy t d c).1 = true → (isTy t d c).2 = c + szT t)
  | .mk name args, d, c => by
    simp only [isTy, szT, dp, fmd, Bool.and_eq_true]
    by_cases h : nameOk name args.length = true ∧ c + 1 ≤ 2000 ∧ d ≤ 100
    · rw [if_pos h]
      obtain ⟨h1, h2⟩ := isTys_law args (d + 1) (c + 1) h.2.1 (by omega)
      refine ⟨?_, fun hh => by rw [h2 hh]; omega⟩
      rw [h1]
      constructor
      · rintro ⟨a, b, e⟩; exact ⟨by omega, by omega, e, h.1⟩
      · rintro ⟨a, b, e, _⟩; exact ⟨by omega, by omega, e⟩
    · rw [if_neg h]
      refine ⟨⟨fun hh => (by cases hh), fun ⟨a, b, e, f⟩ => absurd ⟨f, by omega, by omega⟩ h⟩, fun hh => by cases hh⟩
theorem isTys_law : ∀ (l : List Ty) (d c : Nat), c ≤ 2000 → d ≤ 101 → ((isTys l d c).1 = true ↔ c + szTs l ≤ 2000 ∧ d + dps l 0 ≤ 101 ∧ fmds l = true) ∧ ((isTys l d c).1 = true → (isTys l d c).2 = c + szTs l)
  | [], d, c, hc, hd => by simp only [isTys, szTs, dps, fmds]; exact ⟨⟨fun _ => ⟨by omega, by omega, trivial⟩, fun _ => trivial⟩, fun _ => by omega⟩
  | t :: r, d, c, hc, hd => by
    obtain ⟨h1, h2⟩ := isTy_law t d c
    have hm := dps_max r (max 0 (dp t))
    simp only [isTys, szTs, dps, fmds, Bool.and_eq_true]
    by_cases h : (isTy t d c).1 = true
    · rw [if_pos h]
      have h3 := h1.1 h
      have h4 := h2 h
      obtain ⟨h5, h6⟩ := isTys_law r d (isTy t d c).2 (by omega) hd
      refine ⟨?_, fun hh => by rw [h6 hh]; omega⟩
      rw [h5]
      constructor
      · rintro ⟨a, b, e⟩; exact ⟨by omega, by omega, h3.2.2, e⟩
      · rintro ⟨a, b, e, f⟩; exact ⟨by omega, by omega, f⟩
    · rw [if_neg h]
      refine ⟨⟨fun hh => (by cases hh), fun ⟨a, b, e, f⟩ => absurd (h1.2 ⟨by omega, by omega, e⟩) h⟩, fun hh => by cases hh⟩
end
theorem isTy_vld (t : Ty) : (isTy t 1 0).1 = vld t ∧ (vld t = true → (isTy t 1 0).2 = szT t) := by
  obtain ⟨h1, h2⟩ := isTy_law t 1 0
  have hv : vld t = true ↔ (isTy t 1 0).1 = true := by
    rw [h1]; unfold vld
    simp only [Bool.and_eq_true, decide_eq_true_eq]
    constructor
    · rintro ⟨⟨a, b⟩, c⟩; exact ⟨by omega, by omega, c⟩
    · rintro ⟨a, b, c⟩; exact ⟨⟨by omega, by omega⟩, c⟩
  refine ⟨?_, fun h => by rw [h2 (hv.1 h)]; omega⟩
  cases hq : vld t with
  | true => exact hv.1 hq
  | false =>
    cases hi : (isTy t 1 0).1 with
    | true => have := hv.2 hi; rw [hq] at this; cases this
    | false => rfl
def Kn (K : S → Prop) (n : Nat) : Prop := ∀ F s s', (∀ b ∈ F, n ≤ b) → Fw F s s' → K s → K s'
theorem Kn.still {K : S → Prop} {n : Nat} (h : Kn K n) : Still K := fun s s' hf => h [] s s' (by simp) hf
section
variable {K : S → Prop} {n : Nat}
theorem sizeIW (hK : Kn K n) {t : Ty} {nm rw : V} {s : S} (hn : n ≤ s.next) (hR : RdT K t nm rw) (hw : WF s) (hG : GlobOk s) (hk : K s) : Cw envB 13 [.agg [nm, rw]] s fun v s' => v = .int .i64 (if vld t = true then ((szT t : Nat) : Int) else 0) ∧ Fw [] s s' := by
  have ho := hR.one
  refine cw_of_co (x_enter (C := cfg_sizeI) (e := ⟨[nm, rw], []⟩) (F := []) rfl Tryz.func13 rfl (by kernel_rfl) run_sizeI rfl ⟨rfl, by simp [onesV, ho.1, ho.2], rfl⟩ rfl hw rfl (by simp) trivial stb_true trivial (by simp) ?_)
  refine h_new fun b1 hb1 hd1 => ?_
  refine h_new fun b2 hb2 hd2 => ?_
  refine h_callD fun s1 k1 k2 k3 k4 => ?_
  have g1 : s1.get b1 = some (.cells 25 false 1 [⟨0, 0, [nm, rw]⟩]) := k4.1
  have g2 : s1.get b2 = some (CntB 0) := k4.2.1
  have hne : b1 ≠ b2 := fun h => by subst h; rw [g1] at g2; cases g2
  obtain ⟨v, s2, hcall, rfl, hcnt, hf⟩ := isTypeW (K := fun s => K s ∧ s.get b1 = some (.cells 25 false 1 [⟨0, 0, [nm, rw]⟩])) (fc := b2)
    (fun s s' hf ⟨h1, h2⟩ => ⟨hK [b2] s s' (by simp; omega) hf h1, hf.keep _ _ (by simp [hne]) h2⟩) (szT t) t 1 0 ⟨b1, 0, 0⟩ nm rw s1 (Nat.le_refl _) (hR.mono fun s h => h.1) (fun s h => by rw [ldn h.2]; rfl) (by omega) (by omega) k2 (hG.keep k1.ro) ⟨hK.still _ _ k1 hk, g1⟩ g2
  refine .inl ⟨[.int .i64 (((isTy t 1 0).2 : Nat) : Int), .bool (isTy t 1 0).1], _, s2, [], T0, inferInstance, rfl, rfl, hcall, hf.mono (by simp [idsOf]; rfl), ⟨hcnt, trivial⟩, stb_true, trivial, by simp, ?_⟩
  obtain ⟨hl1, hl2⟩ := isTy_vld t
  refine h_not rfl rfl ?_
  refine h_cond rfl (fun c1 => ?_) (fun c1 => ?_)
  · have hv : vld t = false := by rw [← hl1]; simpa using c1
    exact h_ret fun s1 h1 h2 h3 h4 => ⟨_, _, rfl, by rw [hv]; rfl, h1⟩
  · have hv : vld t = true := by rw [← hl1]; simpa using c1
    exact h_ret fun s1 h1 h2 h3 h4 => ⟨_, _, rfl, by rw [if_pos hv, ← hl2 hv]; rfl, h1⟩
end
end Go.AI.Lx
/- Rows of texts. -/
namespace Go.AI.Lx
open Go.Proofs Go.Proofs.YtkeaedhoaamfnaaGreatDoor
set_option maxRecDepth 10000
structure Txs (K : S → Prop) (v : V) (l : List (List Nat)) : Prop where
  row : RowV K 1 v (l.map fun x => [.str x])
  bytes : ∀ x ∈ l, Bytes x
theorem Txs.mono {K K' : S → Prop} (h : ∀ s, K' s → K s) {v : V} {l : List (List Nat)} (r : Txs K v l) : Txs K' v l := ⟨r.row.mono h, r.bytes⟩
theorem cell1 {s : S} {p : Ad} {x : V} (h : loadCells s p 1 = some [x]) {ty : TypeId} (hl : ∀ s a, loadVar Tryz.prog s ty a = loadCell s a) : nxVal1 (doLoad Tryz.prog s ty (some (.ptr p))) = some x := by
  have := load_cell h (i := 0) rfl hl
  rwa [show addC p 0 = p from rfl] at this
theorem Txs.len {K : S → Prop} {v : V} {l : List (List Nat)} (r : Txs K v l) (s : S) : lenV Tryz.prog 22 s v = some (.int .i64 ((l.length : Nat) : Int)) := by
  have := r.row.len und22 s
  rwa [List.length_map] at this
theorem Txs.lt {K : S → Prop} {v : V} {l : List (List Nat)} (r : Txs K v l) : l.length < 4611686018427387904 := by
  have := r.row.lt; rwa [List.length_map] at this
theorem Txs.at {K : S → Prop} {v : V} {l : List (List Nat)} (r : Txs K v l) {i : Nat} {x : List Nat} (h : l[i]? = some x) :
    ∃ p, doIndexAddr Tryz.prog 22 (some v) (some i) = some (.ptr p) ∧ ∀ s, K s → nxVal1 (doLoad Tryz.prog s 9 (some (.ptr p))) = some (.str x) := by
  obtain ⟨p, h1, h2⟩ := r.row.at und22 ty_size9 (i := i) (x := [.str x]) (by rw [List.getElem?_map, h]; rfl)
  exact ⟨p, h1, fun s hs => cell1 (h2 s hs) lv9⟩
def fnd (x : List Nat) : List (List Nat) → Nat → Option Nat
  | [], _ => none
  | y :: r, i => if y = x then some i else fnd x r (i + 1)
def fndV (o : Option Nat) : Int := match o with
  | some i => ((i : Nat) : Int)
  | none => -1
theorem fnd_mem {x : List Nat} : ∀ {l : List (List Nat)} {i : Nat}, (fndV (fnd x l i) ≥ 0) ↔ x ∈ l
  | [], i => by simp [fnd, fndV]
  | y :: r, i => by
    simp only [fnd]
    split
    · rename_i h; subst h; simp [fndV]
    · rename_i h
      rw [fnd_mem (l := r) (i := i + 1)]
      simp [Ne.symm h]
section
variable {K : S → Prop}
theorem findW (hK : Still K) {v : V} {l : List (List Nat)} {x : List Nat} {s : S} (hr : Txs K v l) (hx : Bytes x) (hw : WF s) (hk : K s) : Cw envB 42 [v, .str x] s fun w s' => w = .int .i64 (fndV (fnd x l 0)) ∧ Fw [] s s' := by
  have hlt := hr.lt
  refine cw_of_co (x_enter (C := cfg_find) (e := ⟨[v, .str x], []⟩) (F := []) (orc_no rfl rfl rfl) Tryz.func42 rfl (by kernel_rfl) run_find rfl ⟨rfl, by simp [onesV, hr.row.one, one_str], rfl⟩ rfl hw rfl (by simp) trivial stb_true trivial (by simp) ?_)
  refine h_loop0 (fun j vs bs => ∃ i, i ≤ l.length ∧ j = l.length - i ∧ vs = [v, .str x, .int .i64 ((i : Nat) : Int)] ∧ bs = [] ∧ fnd x (l.drop i) i = fnd x l 0) l.length ⟨0, by omega, rfl, rfl, rfl, rfl⟩ ?_
  rintro j _ _ ⟨i, hi, rfl, rfl, rfl, hf⟩
  refine h_len rfl (fun s1 _ _ => hr.len s1) rfl ?_
  refine h_lss rfl rfl rfl ?_
  refine h_if rfl (fun c1 => ?_) (fun c1 => ?_)
  · obtain ⟨y, hy, hd⟩ := drop_at (show i < l.length by omega)
    rw [hd] at hf
    simp only [fnd] at hf
    obtain ⟨p, hp, hld⟩ := hr.at hy
    refine h_ask1 (.ptr p) rfl (fun s1 h1 h2 h3 h4 => hp) rfl ?_
    refine h_ask1 (.str y) rfl (fun s1 h1 h2 h3 h4 => hld s1 (hK _ _ h1 hk)) rfl ?_
    refine h_eqlS rfl rfl (hr.bytes y (List.mem_of_getElem? hy)) hx rfl ?_
    refine h_if rfl (fun c2 => ?_) (fun c2 => ?_)
    · rw [if_pos c2] at hf
      exact h_ret fun s1 h1 h2 h3 h4 => ⟨_, _, rfl, by rw [← hf]; rfl, h1⟩
    · rw [if_neg c2] at hf
      refine h_add (r := ((i + 1 : Nat) : Int)) rfl rfl (by rw [show ((i : Nat) : Int) + 1 = ((i + 1 : Nat) : Int) by omega]; exact wrap_in _ ⟨by omega, by omega⟩) rfl ?_
      exact h_back0 (l.length - (i + 1)) rfl (by omega) ⟨i + 1, by omega, rfl, rfl, rfl, hf⟩
  · have : i = l.length := by omega
    subst this
    rw [List.drop_length] at hf
    exact h_ret fun s1 h1 h2 h3 h4 => ⟨_, _, rfl, by rw [← hf]; rfl, h1⟩
theorem hasW (hK : Still K) {v : V} {l : List (List Nat)} {x : List Nat} {s : S} (hr : Txs K v l) (hx : Bytes x) (hw : WF s) (hk : K s) : Cw envB 41 [v, .str x] s fun w s' => w = .bool (decide (x ∈ l)) ∧ Fw [] s s' := by
  refine cw_of_co (x_enter (C := cfg_has) (e := ⟨[v, .str x], []⟩) (F := []) (orc_no rfl rfl rfl) Tryz.func41 rfl (by kernel_rfl) run_has rfl ⟨rfl, by simp [onesV, hr.row.one, one_str], rfl⟩ rfl hw rfl (by simp) trivial stb_true trivial (by simp) ?_)
  refine h_callE (.int .i64 (fndV (fnd x l 0))) (fun s1 h1 h2 h3 h4 => findW hK hr hx h2 (hK _ _ h1 hk)) rfl rfl ?_
  refine h_geq rfl rfl rfl ?_
  exact h_ret fun s1 h1 h2 h3 h4 => ⟨_, _, rfl, by show V.bool _ = V.bool _; congr 1; rw [decide_eq_decide]; exact fnd_mem, h1⟩
end
end Go.AI.Lx
/- The variables of a type. -/
namespace Go.AI.Lx
open Go.Proofs Go.Proofs.YtkeaedhoaamfnaaGreatDoor
set_option maxRecDepth 10000
theorem row22 : RowTy Tryz.prog 22 9 1 := ⟨by kernel_rfl, by kernel_rfl, by kernel_rfl, by kernel_rfl, by kernel_rfl⟩
def UV (l : List (List Nat)) (o : Option Nat) (v : V) (s : S) : Prop := Gro 9 1 s v l.length (l.map V.str) o
theorem UV.stb {l : List (List Nat)} {o : Option Nat} {v : V} : Stb o.toList (UV l o v) := fun s s' h hk _ => Gro.keep h (fun X B hX hB => hk X (by simp [hX]) B hB)
theorem UV.still {l : List (List Nat)} {o : Option Nat} {v : V} : Still (UV l o v) := fun s s' hf h => Gro.fw h hf (by simp)
theorem UV.one {l : List (List Nat)} {o : Option Nat} {v : V} {s : S} (h : UV l o v s) : v.one = true := Gro.one h
theorem UV.nil (s : S) : UV [] none .nilslice s := Gro.nil
theorem UV.txs {l : List (List Nat)} {o : Option Nat} {v : V} {s : S} (h : UV l o v s) (hl : l.length < 4611686018427387904) (hb : ∀ x ∈ l, Bytes x) : Txs (UV l o v) v l := by
  refine ⟨?_, hb⟩
  have h' : Gro 9 1 s v l.length (l.map V.str) o := h
  generalize hn : l.length = n at h'
  generalize hc : l.map V.str = cs at h'
  have hcl : cs.length = l.length := by rw [← hc, List.length_map]
  cases h' with
  | nil =>
    have : l = [] := List.eq_nil_of_length_eq_zero hn
    subst this; exact .nil
  | row X nv rest n cs h1 h2 h3 =>
    refine .row _ _ _ _ (by simp [hn]) (by omega) fun i x hx s' hs => ?_
    rw [List.getElem?_map] at hx
    cases hy : l[i]? with
    | none => rw [hy] at hx; cases hx
    | some y =>
      rw [hy] at hx; cases hx
      have hs' : Gro 9 1 s' (.slice ⟨X, nv, 0⟩ 0 n none 1) l.length (l.map V.str) (some X) := hs
      rw [hn, hc] at hs'
      cases hs' with
      | row _ _ rest' _ _ g1 g2 g3 =>
        have hv : findVer (⟨nv, 0, cs⟩ :: rest') nv = some ⟨nv, 0, cs⟩ := by simp only [findVer, Nat.beq_refl, cond_true]
        have hi : cs[i]? = some (.str y) := by rw [← hc, List.getElem?_map, hy]; rfl
        have hlt : i < cs.length := by
          rcases Nat.lt_or_ge i cs.length with h | h
          · exact h
          · rw [List.getElem?_eq_none h] at hi; cases hi
        simp only [loadCells, addC, g1, hv, ble0, cond_true, Nat.sub_zero, Nat.zero_add, Nat.mul_one]
        rw [List.drop_eq_getElem_cons hlt]
        rw [List.getElem?_eq_getElem hlt] at hi
        rw [Option.some.inj hi]
        rfl
theorem UV.app {l : List (List Nat)} {o : Option Nat} {v : V} {s : S} (h : UV l o v s) (hw : WF s) {b : Nat} {x : List Nat} (hb : s.get b = some (.cells 9 false 1 [⟨0, 0, [.str x]⟩])) (hl : l.length ≤ 999999) :
    ∃ v' s' X, Act.run Tryz.prog s (.bif .append #[22, 22] [v, .slice ⟨b, 0, 0⟩ 0 1 (some 1) 1]) = some (v', s') ∧ UV (l ++ [x]) (some X) v' s' ∧ Fw o.toList s s' ∧ X < s'.next ∧ (o = some X ∨ s.next ≤ X) := by
  obtain ⟨v', s', X, happ, hG, hble, hor⟩ := Gro.app row22 h hw (c := some 1) hb rfl rfl hl
  have hU : UV (l ++ [x]) (some X) v' s' := by
    unfold UV
    rw [List.length_append, List.map_append]
    exact hG
  have hf : Fw o.toList s s' := by
    rcases hor with ⟨rfl, _, hf⟩ | ⟨rfl, hf⟩
    · exact hf
    · exact hf
  refine ⟨v', s', X, ?_, hU, hf, hG.lt (hf.wf hw), ?_⟩
  · show nxBoth (nxPair (appendV Tryz.prog 22 22 s v (.slice ⟨b, 0, 0⟩ 0 1 (some 1) 1))) = _
    rw [happ]; rfl
  · rcases hor with ⟨_, h, _⟩ | ⟨h, _⟩
    · exact .inr (by omega)
    · exact .inl h
end Go.AI.Lx
/- The variables of a type: both answer alike. -/
namespace Go.AI.Lx
open Go.Proofs Go.Proofs.YtkeaedhoaamfnaaGreatDoor
set_option maxRecDepth 10000
theorem quote_signs : (39 : Nat) ∉ signs := by decide
theorem kind_quote {l : List Nat} : (kindC l = 4 → isV l = true) ∧ (isV l = true → kindC l = 4 ∨ kindC l = 0) := by
  unfold kindC
  split
  · exact ⟨fun h => by omega, fun _ => .inr rfl⟩
  · rename_i h0
    have hl : 0 < l.length := by
      rcases Nat.eq_zero_or_pos l.length with h | h
      · exact absurd (.inl h) h0
      · exact h
    unfold tokC
    by_cases hq : peekN l 0 = 39
    · have hv : isV l = true := decide_eq_true ⟨hl, hq⟩
      refine ⟨fun _ => hv, fun _ => ?_⟩
      by_cases h1 : peekN l 0 = 39 ∧ 1 < l.length ∧ bSmall (peekN l 1) = true
      · rw [if_pos h1]
        split
        · exact .inr rfl
        · rename_i k m hk
          split at hk
          · cases hk
          · cases hk
            split
            · exact .inl rfl
            · exact .inr rfl
      · rw [if_neg h1]
        have h2 : ¬ (bSmall (peekN l 0) = true ∨ bGreat (peekN l 0) = true) := by
          rw [hq, quote_small, quote_great]; simp
        rw [if_neg h2]
        split
        · exact .inr rfl
        · rename_i k m hk
          split at hk
          · cases hk
          · rename_i h3
            exfalso
            apply h3
            unfold signN
            have h4 : ¬ (0 + 1 < l.length ∧ ((l.drop 0).take 2 = [61, 62] ∨ (l.drop 0).take 2 = [45, 62])) := by
              rintro ⟨h5, h6⟩
              rw [List.drop_zero] at h6
              have h7 : peekN (l.take 2) 0 = peekN l 0 := peek_take (by omega)
              rcases h6 with h6 | h6
              · rw [h6, hq] at h7; revert h7; decide
              · rw [h6, hq] at h7; revert h7; decide
            rw [if_neg h4, hq, if_neg quote_signs]
    · have hv : isV l = false := decide_eq_false (fun h => hq h.2)
      rw [hv]
      refine ⟨fun h => ?_, fun h => by cases h⟩
      exfalso
      rw [if_neg (fun h => hq h.1)] at h
      revert h
      split
      · intro h; omega
      · rename_i k m hk
        split at hk
        · split at hk
          · cases hk
          · cases hk
            split
            · split
              · intro h; omega
              · split <;> intro h <;> omega
            · intro h; omega
        · split at hk
          · cases hk
          · cases hk
            split <;> intro h <;> omega
theorem kind_arrow : kindC [45, 62] = 6 := by decide +kernel
theorem kind_comma : kindC [44] = 6 := by decide +kernel
theorem kind_Int : kindC [73, 110, 116] = 3 := by decide +kernel
theorem name_var {name : List Nat} {n : Nat} (h : nameOk name n = true) : (isV name = true ↔ kindC name = 4) ∧ (kindC name = 4 → n = 0) := by
  unfold nameOk at h
  have hq := kind_quote (l := name)
  split at h
  · rename_i hn; subst hn
    rw [kind_arrow]
    exact ⟨⟨fun hh => by revert hh; decide, fun hh => by omega⟩, fun hh => by omega⟩
  · split at h
    · rename_i hn; subst hn
      rw [kind_comma]
      exact ⟨⟨fun hh => by revert hh; decide, fun hh => by omega⟩, fun hh => by omega⟩
    · split at h
      · rename_i hn; subst hn
        rw [kind_Int]
        exact ⟨⟨fun hh => by revert hh; decide, fun hh => by omega⟩, fun hh => by omega⟩
      · have h := of_decide_eq_true h
        refine ⟨⟨fun hh => ?_, hq.1⟩, fun hh => by omega⟩
        have := hq.2 hh
        omega
theorem vld_parts {t : Ty} (h : vld t = true) : szT t ≤ 2000 ∧ dp t ≤ 100 ∧ fmd t = true := by
  unfold vld at h
  simp only [Bool.and_eq_true, decide_eq_true_eq] at h
  exact ⟨h.1.1, h.1.2, h.2⟩
section
variable {K : S → Prop} {n : Nat}
end
end Go.AI.Lx
/- Maps by texts. -/
namespace Go.AI.Lx
open Go.Proofs Go.Proofs.YtkeaedhoaamfnaaGreatDoor
set_option maxRecDepth 10000
def mpE : List (List Nat × V) → Nat → List Ent
  | [], _ => []
  | (k, v) :: r, n => ⟨.str k, v, n⟩ :: mpE r (n + 1)
def mget (x : List Nat) : List (List Nat × V) → Option V
  | [] => none
  | (k, v) :: r => if x = k then some v else mget x r
def mset (x : List Nat) (w : V) : List (List Nat × V) → List (List Nat × V)
  | [] => [(x, w)]
  | (k, v) :: r => if x = k then (x, w) :: r else (k, v) :: mset x w r
theorem mset_len (x : List Nat) (w : V) : ∀ (m : List (List Nat × V)), (mset x w m).length = if (mget x m).isSome = true then m.length else m.length + 1
  | [] => by simp [mset, mget]
  | (k, v) :: r => by
    have ih := mset_len x w r
    by_cases hx : x = k
    · subst hx; simp [mset, mget]
    · simp only [mset, if_neg hx, mget, List.length_cons, ih]
      split <;> rfl
def Keys (m : List (List Nat × V)) : Prop := ∀ p ∈ m, Bytes p.1
theorem Keys.set {m : List (List Nat × V)} (h : Keys m) {x : List Nat} (hx : Bytes x) (w : V) : Keys (mset x w m) := by
  induction m with
  | nil => intro p hp; simp [mset] at hp; subst hp; exact hx
  | cons a r ih =>
    obtain ⟨k, v⟩ := a
    simp only [mset]
    split
    · intro p hp
      rcases List.mem_cons.1 hp with rfl | hp
      · exact hx
      · exact h p (List.mem_cons_of_mem _ hp)
    · intro p hp
      rcases List.mem_cons.1 hp with rfl | hp
      · exact h _ (by simp)
      · exact ih (fun q hq => h q (List.mem_cons_of_mem _ hq)) p hp
theorem find_mp {ok : V → V → Option Bool} (hok : ∀ a b, Bytes a → Bytes b → ok (.str a) (.str b) = some (decide (a = b))) {x : List Nat} (hx : Bytes x) : ∀ (m : List (List Nat × V)) (n : Nat), Keys m → findKeyV ok (.str x) (mpE m n) = some (mget x m)
  | [], n, _ => by simp [mpE, mget, findKeyV]
  | (k, v) :: r, n, h => by
    have ih := find_mp hok hx r (n + 1) (fun p hp => h p (List.mem_cons_of_mem _ hp))
    simp only [mpE, findKeyV, ih, hok x k hx (h (k, v) (by simp)), mget]
    by_cases hw : x = k
    · subst hw; simp [findKeyV.foundKey]
    · simp [findKeyV.foundKey, hw]
theorem upd_mp {ok : V → V → Option Bool} (hok : ∀ a b, Bytes a → Bytes b → ok (.str a) (.str b) = some (decide (a = b))) {x : List Nat} (hx : Bytes x) (w : V) : ∀ (m : List (List Nat × V)) (n : Nat), Keys m →
    updKeyV ok (.str x) w (mpE m n) = some (if (mget x m).isSome = true then some (mpE (mset x w m) n) else none)
  | [], n, _ => by simp [mpE, mget, updKeyV]
  | (k, v) :: r, n, h => by
    have ih := upd_mp hok hx w r (n + 1) (fun p hp => h p (List.mem_cons_of_mem _ hp))
    simp only [mpE, updKeyV, hok x k hx (h (k, v) (by simp)), mget, mset]
    rw [ih]
    by_cases hw : x = k
    · subst hw; simp [updKeyV.setKey, mpE]
    · cases hm : (mget x r).isSome with
      | true =>
        rw [hm] at ih
        simp only [if_true] at ih ⊢
        simp only [hw, decide_false, if_false, hm, if_true, updKeyV.setKey, mpE]
      | false =>
        rw [hm] at ih
        simp only [hw, decide_false, if_false, hm, updKeyV.setKey, Bool.false_eq_true]
theorem mset_new {x : List Nat} (w : V) : ∀ {m : List (List Nat × V)}, mget x m = none → mset x w m = m ++ [(x, w)]
  | [], _ => rfl
  | (k, v) :: r, h => by
    simp only [mget] at h
    split at h
    · cases h
    · rename_i hk
      simp only [mset, if_neg hk, mset_new w h, List.cons_append]
theorem mpE_snoc (x : List Nat) (w : V) : ∀ (m : List (List Nat × V)) (n : Nat), mpE (m ++ [(x, w)]) n = mpE m n ++ [⟨.str x, w, n + m.length⟩]
  | [], n => rfl
  | (k, v) :: r, n => by
    simp only [List.cons_append, mpE, mpE_snoc x w r (n + 1), List.length_cons]
    rw [show n + 1 + r.length = n + (r.length + 1) by omega]
def MP (s : S) (mm : Nat) (m : List (List Nat × V)) : Prop := s.get mm = some (.map (mpE m 0) m.length)
theorem MP.upd {s : S} {mm : Nat} {m : List (List Nat × V)} (h : MP s mm m) (hw : WF s) (hk : Keys m) {x : List Nat} (hx : Bytes x) (w : V) {ty vt : TypeId} (hu : Tryz.prog.underlying ty = some (.map 9 vt)) :
    ∃ s', Act.run Tryz.prog s (.mapUpd ty (.map mm) (.str x) w) = some (V.undef, s') ∧ MP s' mm (mset x w m) ∧ Fw [mm] s s' ∧ mm < s'.next := by
  have hupd := upd_mp (ok := eqlAt Tryz.prog (Go.AI.plainAt s) 20 9) (fun a b ha hb => eqlAt_str s a b ha hb) hx w m 0 hk
  have h' : s.get mm = some (.map (mpE m 0) m.length) := h
  have hlt := hw mm _ h'
  cases hm : mget x m with
  | none =>
    have hs := mset_new w hm
    refine ⟨s.put mm (.map (mpE (mset x w m) 0) (mset x w m).length), ?_, by unfold MP; rw [S.get_put, if_pos rfl], Fw.put (by simp) h' (fun _ h => by cases h) _, by rw [S.next_put]; exact hlt⟩
    rw [hm] at hupd
    simp only [Option.isSome_none, Bool.false_eq_true, if_false] at hupd
    show nxBoth (doMapUpdate Tryz.prog s ty (some (.map mm)) (some (.str x)) (some w)) = _
    simp only [doMapUpdate, hu, h', simple9, cond_true, hupd, updated]
    rw [hs, mpE_snoc, List.length_append]
    simp [nxBoth]
  | some v0 =>
    have hl := mset_len x w m
    rw [hm] at hl hupd
    simp only [Option.isSome_some, if_true] at hl hupd
    refine ⟨s.put mm (.map (mpE (mset x w m) 0) (mset x w m).length), ?_, by unfold MP; rw [S.get_put, if_pos rfl], Fw.put (by simp) h' (fun _ h => by cases h) _, by rw [S.next_put]; exact hlt⟩
    show nxBoth (doMapUpdate Tryz.prog s ty (some (.map mm)) (some (.str x)) (some w)) = _
    simp only [doMapUpdate, hu, h', simple9, cond_true, hupd, updated, hl]
    rfl
theorem zero3f : found Tryz.prog 3 false (some none) = some (.int .i64 0) := by kernel_rfl
theorem MP.look {s : S} {mm : Nat} {m : List (List Nat × V)} (h : MP s mm m) (hk : Keys m) {x : List Nat} (hx : Bytes x) : doLookup Tryz.prog s 86 (some (.map mm)) (some (.str x)) false = some ((mget x m).getD (.int .i64 0)) := by
  have h' : s.get mm = some (.map (mpE m 0) m.length) := h
  simp only [doLookup, Tryz.underlying86, entsOf, h', simple9, cond_true, find_mp (fun a b ha hb => eqlAt_str s a b ha hb) hx m 0 hk]
  cases hm : mget x m with
  | none => simp only [zero3f]; rfl
  | some v => rfl
end Go.AI.Lx
