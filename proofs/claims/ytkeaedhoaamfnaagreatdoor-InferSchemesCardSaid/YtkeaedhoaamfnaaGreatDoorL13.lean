/- What the functions answer in the evaluator: part 13. No conditions beyond those of the row. -/
import Derived.Test.YtkeaedhoaamfnaaGreatDoorL12
set_option linter.unusedVariables false
set_option linter.unusedSimpArgs false
noncomputable section
namespace Go.AI.Lx
open Go.Proofs Go.Proofs.YtkeaedhoaamfnaaGreatDoor
set_option maxRecDepth 10000
mutual
theorem II {vs : List (List Nat)} : ∀ (t u : Ty) (m m' : List (List Nat × Ty)), so vs t u m = some m' → m'.length ≤ m.length + cq t
 | .mk a l, .mk b q, m, m', h => by
  simp only [so] at h
  simp only [cq]
  split at h
  ·split at h
   ·split at h
    ·cases h; omega
    ·cases h
   ·cases h; simp only [List.length_append, List.length_cons, List.length_nil]; omega
  ·split at h
   ·have := Le l q m m' h; omega
   ·cases h
theorem Le {vs : List (List Nat)} : ∀ (l q : List Ty) (m m' : List (List Nat × Ty)), lL vs l q m = some m' → m'.length ≤ m.length + cG l
 | [], q, m, m', h => by simp only [lL] at h; cases h; simp [cG]
 | t :: r, [], m, m', h => by simp only [lL] at h; cases h; omega
 | t :: r, u :: q, m, m', h => by
  simp only [lL] at h
  simp only [cG]
  split at h
  ·rename_i m2 h2
   have h3 := II t u m m2 h2
   have h4 := Le r q m2 m' h
   omega
  ·cases h
end
theorem Hi {e sz : Nat} {s : S} {v : V} {cs : List (List V)} {o : Option Nat} (h : gQ e sz s v cs.length cs.flatten o) (hs : ∀ x ∈ cs, x.length = sz) (hn : cs.length < 4611686018427387904) : jO (fun s => gQ e sz s v cs.length cs.flatten o) sz v cs := by
 generalize hl : cs.length = n at h ⊢
 generalize hc : cs.flatten = fs at h ⊢
 cases h with
 | nil =>
  have : cs = [] := List.eq_nil_of_length_eq_zero hl
  subst this; exact .nil
 | row X nv rest n fs h1 h2 h3 =>
  refine .row _ _ _ _ hl.symm (by omega) fun i x hx s' hk => ?_
  cases hk with
  | row _ _ rest' _ _ g1 g2 g3 =>
   have hv : bw (⟨nv, 0, fs⟩ :: rest') nv = some ⟨nv, 0, fs⟩ := by simp only [bw, Nat.beq_refl, cond_true]
   simp only [loadCells, dZ, g1, hv, GO, cond_true, Nat.sub_zero, Nat.zero_add]
   rw [← hc]
   exact sA hs hx
def BG (cs : List (List V)) (o : Option Nat) (v : V) (s : S) : Prop := gQ 56 3 s v cs.length cs.flatten o
theorem BG.nil (s : S) : BG [] none .nilslice s := gQ.nil
theorem BG.one {cs : List (List V)} {o : Option Nat} {v : V} {s : S} (h : BG cs o v s) : v.one = true := gQ.one h
theorem BG.stb {cs : List (List V)} {o : Option Nat} {v : V} : kz o.toList (BG cs o v) := fun _ _ h hk _ => gQ.keep h (fun X B hX hB => hk X (by simp [hX]) B hB)
theorem BG.still {cs : List (List V)} {o : Option Nat} {v : V} : ep (BG cs o v) := fun _ _ hf h => gQ.fw h hf (by simp)
theorem BG.blk {cs : List (List V)} {o : Option Nat} {v : V} {s : S} (h : BG cs o v s) (hw : WF s) : ∀ g ∈ o.toList, g < s.next := fun g hg => by
 cases o with
 | none => simp at hg
 | some X => simp at hg; subst hg; exact gQ.lt h hw
theorem BG.rdb {K : S → Prop} {m : List (List Nat × Ty)} {cs : List (List V)} {o : Option Nat} {v : V} {s : S} (h : BG cs o v s) (hB : fP K m cs) (hl : m.length < 4611686018427387904) : Hg (fun s => K s ∧ BG cs o v s) m v :=
 ⟨cs, (Hi h hB.three (by rw [hB.len]; exact hl)).mono fun _ h => h.2, hB.mono fun _ h => h.1⟩
theorem BG.app {cs : List (List V)} {x : List Nat} {nm rw : V} {o : Option Nat} {v : V} {s : S} (h : BG cs o v s) (hw : WF s) {b : Nat} (hb : s.get b = some (.cells 56 false 1 [⟨0, 0, [.str x, nm, rw]⟩])) (h1 : nm.one = true ∧ rw.one = true) (hl : cs.length ≤ 999999) :
 ∃ v' s' X, yp.run Tryz.prog s (.bif .append #[36, 36] [v, .slice ⟨b, 0, 0⟩ 0 1 (some 1) 3]) = some (v', s') ∧ BG (cs ++ [[.str x, nm, rw]]) (some X) v' s' ∧ Fw o.toList s s' ∧ X < s'.next ∧ (o = some X ∨ s.next ≤ X) := by
 obtain ⟨v', s', X, happ, hG2, hble, hor⟩ := gQ.app SI h hw (c := some 1) hb rfl (by simp [h1.1, h1.2, iW]) hl
 have hf : Fw o.toList s s' := by
  rcases hor with ⟨rfl, _, hf⟩ | ⟨rfl, hf⟩
  ·exact hf
  ·exact hf
 have hX : o = some X ∨ s.next ≤ X := by
  rcases hor with ⟨_, h, _⟩ | ⟨h, _⟩
  ·exact .inr (by omega)
  ·exact .inl h
 refine ⟨v', s', X, ?_, ?_, hf, hG2.lt (hf.wf hw), hX⟩
 ·show io (fF (iZ Tryz.prog 36 36 s v (.slice ⟨b, 0, 0⟩ 0 1 (some 1) 3))) = _
  rw [happ]; rfl
 ·unfold BG
  rw [List.length_append, List.flatten_append]
  simpa using hG2
theorem fP.snoc {K : S → Prop} {m : List (List Nat × Ty)} {cs : List (List V)} {x : List Nat} {t : Ty} {nm rw : V} (h : fP K m cs) (hx : Bytes x) (hxl : x.length < 4611686018427387904) (hR : ff K t nm rw) : fP K (m ++ [(x, t)]) (cs ++ [[.str x, nm, rw]]) := fP.app h ⟨nm, rw, [], rfl, hx, hxl, hR, rfl⟩
def WV (K : S → Prop) (vs : List (List Nat)) (t u : Ty) (m : List (List Nat × Ty)) (o : Option Nat) (s : S) : dz → Prop := sq fun r s' => Fw o.toList s s' ∧ ((∃ m' cs' o' v', so vs t u m = some m' ∧ r = .tuple [v', .bool true] ∧ BG cs' o' v' s' ∧ fP K m' cs' ∧ (∀ X, o' = some X → o = some X ∨ s.next ≤ X)) ∨ (so vs t u m = none ∧ ∃ v', r = .tuple [v', .bool false] ∧ v'.one = true))
def WR (K : S → Prop) (vs : List (List Nat)) (vv : V) (n N : Nat) : Prop := ∀ (t u : Ty) (m : List (List Nat × Ty)) (cs : List (List V)) (nm rw nm' rw' lv : V) (o : Option Nat) (s : S), cq t ≤ N → ff K t nm rw → ff K u nm' rw' → WF s → K s → n ≤ s.next → (∀ X, o = some X → n ≤ X) → BG cs o lv s → fP K m cs → m.length + cq t ≤ 99999 →
 Cw aq 52 [vv, .agg [nm, rw], .agg [nm', rw'], lv] s fun r s' => Fw o.toList s s' ∧ ((∃ m' cs' o' v', so vs t u m = some m' ∧ r = .tuple [v', .bool true] ∧ BG cs' o' v' s' ∧ fP K m' cs' ∧ (∀ X, o' = some X → o = some X ∨ s.next ≤ X)) ∨ (so vs t u m = none ∧ ∃ v', r = .tuple [v', .bool false] ∧ v'.one = true))
section
variable {K : S → Prop} {vs : List (List Nat)} {vv : V} {n : Nat}
theorem VN (hK : Kn K n) (hvs : ∀ x ∈ vs, CN x = true) (hT : DV K vv vs) : ∀ N, WR K vs vv n N := by
 intro N
 induction N with
 | zero => intro t u m cs nm rw nm' rw' lv o s h; cases t; simp only [cq] at h; omega
 | succ N ih =>
  intro t u m bs0 nm rw nm' rw' lv o s hN hR hR' hw hk hn hon hG hB hml
  have ho := hR.one
  have ho' := hR'.one
  have hRt := hR
  have hRu := hR'
  have hgo := hG.one
  have hblk := hG.blk hw
  refine ay (aI (C := AP) (e := ⟨[vv, nm, rw, nm', rw', lv], []⟩) (F := o.toList) (D := o.toList) (U := BG bs0 o lv) (bE rfl rfl rfl) Tryz.func52 rfl (by kernel_rfl) Mv rfl ⟨rfl, by simp [au, ho.1, ho.2, ho'.1, ho'.2, hT.row.one, hgo], rfl⟩ rfl hw rfl (by simp) trivial BG.stb hG (fun g hg => ⟨hblk g hg, hg, by simp⟩) ?_)
  show ai aq o.toList s (WV K vs t u m o s) _ _ _ _ _
  have hkk : ∀ s1, Fw o.toList s s1 → K s1 := fun s1 h1 => hK _ _ _ (fun b hb => by
   cases o with
   | none => simp at hb
   | some X => simp at hb; subst hb; exact hon b rfl) h1 hk
  obtain ⟨name, args⟩ := t
  obtain ⟨name', args'⟩ := u
  simp only [ff] at hR hR'
  obtain ⟨rfl, hb, hbl, cs, hrow, hts⟩ := hR
  obtain ⟨rfl, hb', hbl', cs', hrow', hts'⟩ := hR'
  have hlt := hrow.lt
  have hlen := hts.len
  have hlt' := hrow'.lt
  have hlen' := hts'.len
  simp only [cq] at hN hml
  have hm9 : m.length < 4611686018427387904 := by omega
  have hrdb := hG.rdb hB hm9
  have key2 : ∀ (q : Bool) (b1 b2 : Nat) (L : List bS), name ∉ vs → (q = false ↔ name = name' ∧ args.length = args'.length) → ai aq o.toList s (WV K vs (.mk name args) (.mk name' args') m o s) mn ⟨[vv, lv, .bool q, .str name, rw, .str name', rw'], [b1, b2]⟩ o.toList (BG bs0 o lv) L := by
   intro q b1 b2 L hin hq
   have hsp : so vs (.mk name args) (.mk name' args') m = if name = name' ∧ args.length = args'.length then lL vs args args' m else none := by simp only [so]; rw [if_neg hin]
   refine aB rfl (fun c5 => ?_) (fun c5 => ?_)
   ·exact ak fun s1 h1 h2 h3 h4 => ⟨_, _, rfl, h1, .inr ⟨by rw [hsp, if_neg (fun h => by rw [hq.2 h] at c5; cases c5)], lv, rfl, hgo⟩⟩
   ·obtain ⟨hnn, hll⟩ := hq.1 c5
    rw [if_pos ⟨hnn, hll⟩] at hsp
    refine fv (fun j vs' bs' D U => ∃ (i : Nat) (m2 : List (List Nat × Ty)) (c2 : List (List V)) (o2 : Option Nat) (l2 : V), i ≤ args.length ∧ j = args.length - i ∧ vs' = [vv, lv, l2, .int .i64 ((i : Nat) : Int), .str name, rw, .str name', rw'] ∧ bs' = [b1, b2] ∧ D = o2.toList ∧ U = BG c2 o2 l2 ∧ l2.one = true ∧ fP K m2 c2 ∧ (∀ X, o2 = some X → o = some X ∨ s.next ≤ X) ∧ m2.length + cG (args.drop i) ≤ 99999 ∧ lL vs (args.drop i) (args'.drop i) m2 = lL vs args args' m)
     args.length ⟨0, m, bs0, o, lv, by omega, rfl, rfl, rfl, rfl, rfl, hgo, hB, (fun X h => .inl h), by simp; omega, by simp⟩ BG.stb ?_
    rintro j _ _ _ _ ⟨i, m2, c2, o2, l2, hi, rfl, rfl, rfl, rfl, rfl, hone, hB2, hX2, hml2, hmt⟩ - - -
    refine bT rfl (fun s1 _ _ => hrow.len cX s1) rfl ?_
    refine cP rfl rfl rfl ?_
    refine aP rfl (fun c3 => ?_) (fun c3 => ?_)
    ·obtain ⟨x, hx, hd⟩ := bM (show i < args.length by omega)
     obtain ⟨y, hy, hd'⟩ := bM (show i < args'.length by omega)
     rw [hd, hd'] at hmt
     rw [hd] at hml2
     simp only [lL, cG] at hmt hml2
     obtain ⟨nm1, rw1, hx1, hR1⟩ := hts.at hx
     obtain ⟨p, hp, hld⟩ := hrow.at cX dj hx1
     obtain ⟨nm2, rw2, hx2, hR2⟩ := hts'.at hy
     obtain ⟨p', hp', hld'⟩ := hrow'.at cX dj hx2
     have ho1 := hR1.one
     have ho2 := hR2.one
     have hsz := fT hx
     refine ao (.ptr p) rfl (fun _ _ _ _ _ => hp) rfl ?_
     refine h_askN [nm1, rw1] (.agg [nm1, rw1]) rfl (by simp [au, ho1.1, ho1.2]) (fun a b _ _ _ => eM (hld a (hkk a b))) rfl ?_
     refine ao (.ptr p') rfl (fun _ _ _ _ _ => hp') rfl ?_
     refine h_askN [nm2, rw2] (.agg [nm2, rw2]) rfl (by simp [au, ho2.1, ho2.2]) (fun a b _ _ _ => eM (hld' a (hkk a b))) rfl ?_
     refine cU fun s1 k1 k2 k3 k4 => ?_
     have hon2 : ∀ X, o2 = some X → n ≤ X := fun X hx => by
      rcases hX2 X hx with h | h
      ·exact hon X h
      ·omega
     obtain ⟨r, s2, hcall, hf, hor⟩ := ih x y m2 c2 nm1 rw1 nm2 rw2 l2 o2 s1 (by omega) hR1 hR2 k2 (hkk s1 k1) (Nat.le_trans hn k1.next) hon2 k3 hB2 (by omega)
     rcases hor with ⟨m3, c3', o3, v3, e1, rfl, e3, e4, e5⟩ | ⟨e1, v3, rfl, e3⟩
     ·have hl3 := II _ _ _ _ e1
      have hbl3 := e3.blk (hf.wf k2)
      refine .inl ⟨[v3, .bool true], _, s2, o3.toList, BG c3' o3 v3, inferInstance, rfl, by simp [au, e3.one]; rfl, hcall, hf.mono (by simp [eI]), trivial, BG.stb, e3, fun g hg => ⟨hbl3 g hg, ?_⟩, ?_⟩
      ·cases o3 with
       | none => simp at hg
       | some X =>
        simp at hg; subst hg
        rcases e5 g rfl with h | h
        ·exact .inl (by simp [h])
        ·exact .inr h
      refine dR rfl rfl ?_
      refine aB (q := false) rfl (fun h => by cases h) (fun _ => ?_)
      refine br (r := ((i + 1 : Nat) : Int)) rfl rfl (wI (by omega)) rfl ?_
      refine fx rfl BG.stb ⟨args.length - (i + 1), by omega, i + 1, m3, c3', o3, v3, by omega, rfl, rfl, rfl, rfl, rfl, e3.one, e4, fun X hX => ?_, by omega, by rw [← hmt, e1]⟩
      rcases e5 X hX with h | h
      ·exact hX2 X h
      ·exact .inr (Nat.le_trans k1.next h)
     ·refine .inl ⟨[v3, .bool false], _, s2, [], T0, inferInstance, rfl, by simp [au, e3]; rfl, hcall, hf.mono (by simp [eI]), trivial, am, trivial, by simp, ?_⟩
      refine dR rfl rfl ?_
      refine aB (q := true) rfl (fun _ => ?_) (fun h => by cases h)
      exact ak fun s1 h1 h2 h3 h4 => ⟨_, _, rfl, h1, .inr ⟨by rw [hsp, ← hmt, e1], lv, rfl, hgo⟩⟩
    ·have : i = args.length := by omega
     subst this
     rw [hll, List.drop_length, ← hll, List.drop_length] at hmt
     simp only [lL] at hmt
     exact ak fun s1 h1 h2 h3 h4 => ⟨_, _, rfl, h1, .inl ⟨m2, c2, o2, l2, by rw [hsp, ← hmt], rfl, h3, hB2, hX2⟩⟩
  have cut2 : ∀ (q : Bool) (L : List bS), name ∉ vs → (q = false ↔ name = name' ∧ args.length = args'.length) → ∀ vs' bs' D' U', (vs' = [vv, lv, .bool q, .str name, rw, .str name', rw'] ∧ (∃ b1 b2, bs' = [b1, b2]) ∧ D' = o.toList ∧ U' = BG bs0 o lv) → vs'.length = 7 → au vs' → bs'.length = [0, 1].length →
   ai aq o.toList s (WV K vs (.mk name args) (.mk name' args') m o s) mn ⟨vs', bs'⟩ D' U' L := by
   rintro q L hin hq _ _ _ _ ⟨rfl, ⟨b1, b2, rfl⟩, rfl, rfl⟩ - - -
   exact key2 q b1 b2 L hin hq
  have key3 : ∀ (q : Bool) (L : List bS), (q = true ↔ name ∈ vs) → ∀ vs' bs' D' U', (vs' = [vv, lv, .bool q, .str name, rw, .str name', rw'] ∧ (∃ b1 b2, bs' = [b1, b2]) ∧ D' = o.toList ∧ U' = BG bs0 o lv) → vs'.length = 7 → au vs' → bs'.length = [0, 1].length →
   ai aq o.toList s (WV K vs (.mk name args) (.mk name' args') m o s) qc ⟨vs', bs'⟩ D' U' L := by
   rintro q L hq _ _ _ _ ⟨rfl, ⟨b1, b2, rfl⟩, rfl, rfl⟩ - - -
   refine aB rfl (fun c6 => ?_) (fun c6 => ?_)
   ·have hin := hq.1 c6
    refine fv (fun j vs' bs' D U => ∃ i, i ≤ m.length ∧ j = m.length - i ∧ vs' = [lv, .int .i64 ((i : Nat) : Int), .str name, rw, .str name', rw'] ∧ bs' = [b1, b2] ∧ D = o.toList ∧ U = BG bs0 o lv ∧ fI name (m.drop i) = fI name m) m.length ⟨0, by omega, rfl, rfl, rfl, rfl, rfl, by simp⟩ BG.stb ?_
    rintro j _ _ _ _ ⟨i, hi, rfl, rfl, rfl, rfl, rfl, hlk⟩ - - -
    refine bT rfl (fun s1 _ _ => hrdb.len s1) rfl ?_
    refine cP rfl rfl rfl ?_
    refine aP rfl (fun c1 => ?_) (fun c1 => ?_)
    ·obtain ⟨⟨y, ty⟩, hy, hd⟩ := bM (show i < m.length by omega)
     rw [CK hy] at hlk
     obtain ⟨p, nm1, rw1, hp, hld, hyb, hyl, hR1⟩ := hrdb.at hy
     have ho1 := hR1.one
     refine ao (.ptr p) rfl (fun _ _ _ _ _ => hp) rfl ?_
     refine ao (.ptr p) rfl (fun _ _ _ _ _ => FZ p) rfl ?_
     refine ao (.str y) rfl (fun a b _ c _ => fo (p := p) (i := 0) (hld a ⟨hkk a b, c rfl⟩) rfl CF) rfl ?_
     refine gi rfl rfl hyb hb rfl ?_
     refine aP rfl (fun c2 => ?_) (fun c2 => ?_)
     ·rw [if_pos c2.symm] at hlk
      refine ao (.ptr p) rfl (fun _ _ _ _ _ => hp) rfl ?_
      refine ao (.ptr (dZ p 1)) rfl (fun _ _ _ _ _ => FY p) rfl ?_
      refine h_askN [nm1, rw1] (.agg [nm1, rw1]) rfl (by simp [au, ho1.1, ho1.2]) (fun a b _ c _ => oh (hld a ⟨hkk a b, c rfl⟩)) rfl ?_
      refine aj (.bool (dP ty (.mk name' args'))) (fun c d e f _ => If (K := fun s => K s ∧ BG bs0 o lv s) (fun a b hf hk => ⟨hK.still _ _ hf hk.1, BG.still _ _ hf hk.2⟩) (cq ty) ty _ nm1 rw1 _ _ c (Nat.le_refl _) hR1 (hRu.mono fun _ h => h.1) e ⟨hkk c d, f⟩) rfl rfl ?_
      refine ak fun s1 h1 h2 h3 h4 => ⟨_, _, rfl, h1, ?_⟩
      cases hs : dP ty (.mk name' args') with
      | true => exact .inl ⟨m, bs0, o, lv, by simp only [so]; rw [if_pos hin, ← hlk]; simp only [hs, if_true], rfl, h3, hB, fun X h => .inl h⟩
      | false => exact .inr ⟨by simp only [so]; rw [if_pos hin, ← hlk]; simp only [hs]; rfl, lv, rfl, hgo⟩
     ·rw [if_neg (fun h => c2 h.symm)] at hlk
      refine br (r := ((i + 1 : Nat) : Int)) rfl rfl (wI (by omega)) rfl ?_
      exact fx rfl BG.stb ⟨m.length - (i + 1), by omega, i + 1, by omega, rfl, rfl, rfl, rfl, rfl, hlk⟩
    ·have : i = m.length := by omega
     subst this
     rw [List.drop_length] at hlk
     have hno : fI name m = none := by rw [← hlk]; rfl
     refine aN fun b3 hb3 hd3 => ?_
     refine gT fun s4 k1 k2 k3 k4 => ?_
     obtain ⟨v', s5, X, hrun, hU, hf, hXl, hXo⟩ := k3.app k2 (b := b3) k4.1 ho' (by rw [hB.len]; omega)
     refine ⟨[v'], _, s5, [X], BG (bs0 ++ [[.str name, .str name', rw']]) (some X) v', inferInstance, rfl, by simp [au, hU.one], hrun, hf, BG.stb, hU, fun g hg => ?_, ?_⟩
     ·simp at hg; subst hg
      refine ⟨hXl, ?_⟩
      rcases hXo with h | h
      ·exact .inl (by simp [h])
      ·exact .inr h
     refine ak fun s1 h1 h2 h3 h4 => ⟨_, _, rfl, h1, .inl ⟨m ++ [(name, .mk name' args')], _, some X, v', by simp only [so]; rw [if_pos hin, hno], rfl, h3, hB.snoc hb hbl hRu, fun Y hY => ?_⟩⟩
     cases hY
     rcases hXo with h | h
     ·exact .inl h
     ·exact .inr (Nat.le_trans k1.next h)
   ·have hin : name ∉ vs := fun h => by rw [hq.2 h] at c6; cases c6
    refine wY rfl rfl hb hb' rfl ?_
    refine aB rfl (fun c7 => ?_) (fun c7 => ?_)
    ·have hne : name ≠ name' := by simpa using c7
     exact iw _ ⟨rfl, ⟨_, _, rfl⟩, rfl, rfl⟩ BG.stb (cut2 true _ hin ⟨fun h => (by cases h), fun h => absurd h.1 hne⟩)
    ·have heq : name = name' := by simpa using c7
     refine bT rfl (fun s1 _ _ => hrow.len cX s1) rfl ?_
     refine bT rfl (fun s1 _ _ => hrow'.len cX s1) rfl ?_
     refine iv rfl rfl rfl ?_
     exact iw _ ⟨rfl, ⟨_, _, rfl⟩, rfl, rfl⟩ BG.stb (cut2 _ _ hin ⟨fun h => ⟨heq, by have := of_decide_eq_false h; omega⟩, fun h => decide_eq_false (by omega)⟩)
  refine aN fun b1 hb1 hd1 => ?_
  refine aN fun b2 hb2 hd2 => ?_
  refine aj (.bool (CN name)) (fun _ _ a _ _ => CM hb hbl ho.2 a) rfl rfl ?_
  refine aB rfl (fun c8 => ?_) (fun c8 => ?_)
  ·refine aj (.bool (decide (name ∈ vs))) (fun a b c _ _ => Uj hK.still hT hb c (hkk a b)) rfl rfl ?_
   exact iw _ ⟨rfl, ⟨_, _, rfl⟩, rfl, rfl⟩ BG.stb (key3 _ _ (by simp))
  ·exact iw _ ⟨rfl, ⟨_, _, rfl⟩, rfl, rfl⟩ BG.stb (key3 false _ ⟨fun h => (by cases h), fun h => by rw [hvs _ h] at c8; cases c8⟩)
end
abbrev yr (m : List (List Nat × Ty)) : List (List Nat) := m.map (·.1)
theorem IM {x : List Nat} : ∀ {m m' : List (List Nat × Ty)}, fI x (m ++ m') = match fI x m with | some t => some t | none => fI x m'
 | [], m' => rfl
 | (k, t) :: r, m' => by
  simp only [List.cons_append, fI]
  split
  ·rfl
  ·exact IM
theorem oY {x : List Nat} : ∀ {m : List (List Nat × Ty)}, fI x m = none ↔ x ∉ yr m
 | [] => by simp [fI]
 | (k, t) :: r => by
  have := oY (x := x) (m := r)
  by_cases hx : x = k
  ·subst hx; simp [fI]
  ·simp only [fI, if_neg hx, List.map_cons, List.mem_cons, not_or]
   rw [this]
   exact ⟨fun h => ⟨hx, h⟩, fun h => h.2⟩
theorem CJ {x : List Nat} {m : List (List Nat × Ty)} (h : x ∈ yr m) : ∃ t, fI x m = some t := by
 cases hl : fI x m with
 | none => exact absurd h (oY.1 hl)
 | some t => exact ⟨t, rfl⟩
mutual
theorem nC : ∀ (t : Ty) (acc : List (List Nat)), (∀ x ∈ acc, bo x = 4) → ∀ x ∈ hQ t acc, bo x = 4
 | .mk name args, acc, ha, x, h => by
  simp only [hQ] at h
  refine zA args _ ?_ x h
  split
  ·rename_i hh
   intro y hy
   rcases List.mem_append.1 hy with hy | hy
   ·exact ha y hy
   ·simp at hy; subst hy; exact hh.1
  ·exact ha
theorem zA : ∀ (l : List Ty) (acc : List (List Nat)), (∀ x ∈ acc, bo x = 4) → ∀ x ∈ jW l acc, bo x = 4
 | [], acc, ha, x, h => by simp only [jW] at h; exact ha x h
 | t :: r, acc, ha, x, h => by simp only [jW] at h; exact zA r _ (nC t acc ha) x h
end
structure zw (vs : List (List Nat)) (u : Nat → Prop) (m m' : List (List Nat × Ty)) : Prop where
 old : ∀ x t, fI x m = some t → fI x m' = some t
 nd : (yr m).Nodup → (yr m').Nodup
 sub : ∀ x ∈ yr m', x ∈ yr m ∨ x ∈ vs
theorem zw.refl {vs : List (List Nat)} {u : Nat → Prop} (m : List (List Nat × Ty)) : zw vs u m m := ⟨fun _ _ h => h, id, fun _ h => .inl h⟩
theorem zw.trans {vs : List (List Nat)} {u : Nat → Prop} {a b c : List (List Nat × Ty)} (h : zw vs u a b) (k : zw vs u b c) : zw vs u a c :=
 ⟨fun x t hx => k.old x t (h.old x t hx), fun hn => k.nd (h.nd hn), fun x hx => by
  rcases k.sub x hx with h1 | h1
  ·exact h.sub x h1
  ·exact .inr h1⟩
def yi (m : List (List Nat × Ty)) : Prop := ∀ k x, fI k m = some x → fR x = true
def sQ (u : Ty) : Prop := cq u ≤ 2000 ∧ dp u ≤ 100 ∧ qN u = true
theorem ID {u : Ty} (h : sQ u) : fR u = true := by unfold fR; simp only [Bool.and_eq_true, decide_eq_true_eq]; exact ⟨⟨h.1, h.2.1⟩, h.2.2⟩
theorem zQ {b : List Nat} : ∀ {q : List Ty}, cG q ≤ 1999 → Dd q 0 ≤ 99 → iM q = true → ∀ u ∈ q, sQ u
 | [], _, _, _, u, h => by cases h
 | t :: r, h1, h2, h3, u, h => by
  simp only [cG] at h1
  simp only [Dd] at h2
  rw [vD] at h2
  simp only [iM, Bool.and_eq_true] at h3
  rcases List.mem_cons.1 h with rfl | h
  ·exact ⟨by omega, by omega, h3.1⟩
  ·exact zQ (b := b) (by omega) (by omega) h3.2 u h
theorem Fx {b : List Nat} {q : List Ty} (h : sQ (.mk b q)) : ∀ u ∈ q, sQ u := by
 obtain ⟨h1, h2, h3⟩ := h
 simp only [cq] at h1
 simp only [dp] at h2
 simp only [qN, Bool.and_eq_true] at h3
 exact zQ (b := b) (by omega) (by omega) h3.1
mutual
theorem SP {vs : List (List Nat)} (hk : ∀ v ∈ vs, bo v = 4) : ∀ (t u : Ty) (m m' : List (List Nat × Ty)), so vs t u m = some m' → qN t = true → sQ u → yi m → zw vs (fun _ => True) m m' ∧ yi m' ∧ (∀ x ∈ vs, ∀ acc, x ∈ hQ t acc → x ∈ acc ∨ x ∈ yr m')
 | .mk a l, .mk b q, m, m', h, hf, hu, hm => by
  simp only [qN, Bool.and_eq_true] at hf
  simp only [so] at h
  split at h
  ·rename_i hin
   have hnil : l = [] := List.eq_nil_of_length_eq_zero ((wB hf.2).2 (hk a hin))
   subst hnil
   have hocc : ∀ m'' : List (List Nat × Ty), a ∈ yr m'' → ∀ x ∈ vs, ∀ acc, x ∈ hQ (.mk a []) acc → x ∈ acc ∨ x ∈ yr m'' := fun m'' ha x hx acc hxx => by
    simp only [hQ, jW] at hxx
    split at hxx
    ·rcases List.mem_append.1 hxx with h1 | h1
     ·exact .inl h1
     ·simp at h1; subst h1; exact .inr ha
    ·exact .inl hxx
   split at h
   ·rename_i x hx
    split at h
    ·cases h
     exact ⟨zw.refl _, hm, hocc _ (by by_cases hh : a ∈ yr m; exact hh; rw [oY.2 hh] at hx; cases hx)⟩
    ·cases h
   ·rename_i hx
    cases h
    have hnk := oY.1 hx
    refine ⟨⟨fun x t hxt => by rw [IM, hxt], fun hn => ?_, fun x hxx => ?_⟩, fun k x hkx => ?_, hocc _ (by simp)⟩
    ·show ((m ++ [(a, Ty.mk b q)]).map (·.1)).Nodup
     rw [List.map_append, List.nodup_append]
     exact ⟨hn, by simp, fun x hxm y hy => by simp at hy; subst hy; intro he; subst he; exact hnk hxm⟩
    ·have hxx : x ∈ (m ++ [(a, Ty.mk b q)]).map (·.1) := hxx
     rw [List.map_append, List.mem_append] at hxx
     rcases hxx with h1 | h1
     ·exact .inl h1
     ·simp at h1; subst h1; exact .inr hin
    ·rw [IM] at hkx
     split at hkx
     ·rename_i t ht
      cases hkx; exact hm k _ ht
     ·simp only [fI] at hkx
      split at hkx
      ·cases hkx; exact ID hu
      ·cases hkx
  ·rename_i hin
   split at h
   ·rename_i hh
    obtain ⟨h1, h2, h3⟩ := Pm hk l q m m' h hf.1 (Fx hu) hm hh.2
    refine ⟨h1, h2, fun x hx acc hxx => ?_⟩
    simp only [hQ] at hxx
    rcases h3 x hx _ hxx with h4 | h4
    ·split at h4
     ·rcases List.mem_append.1 h4 with h5 | h5
      ·exact .inl h5
      ·simp at h5; subst h5; exact absurd hx hin
     ·exact .inl h4
    ·exact .inr h4
   ·cases h
theorem Pm {vs : List (List Nat)} (hk : ∀ v ∈ vs, bo v = 4) : ∀ (l q : List Ty) (m m' : List (List Nat × Ty)), lL vs l q m = some m' → iM l = true → (∀ u ∈ q, sQ u) → yi m → l.length = q.length → zw vs (fun _ => True) m m' ∧ yi m' ∧ (∀ x ∈ vs, ∀ acc, x ∈ jW l acc → x ∈ acc ∨ x ∈ yr m')
 | [], q, m, m', h, _, _, hm, _ => by
  simp only [lL] at h; cases h
  exact ⟨zw.refl _, hm, fun x _ acc hx => .inl (by simpa only [jW] using hx)⟩
 | t :: r, [], m, m', h, _, _, hm, hl => by simp at hl
 | t :: r, u :: q, m, m', h, hf, hu, hm, hl => by
  simp only [iM, Bool.and_eq_true] at hf
  simp only [lL] at h
  split at h
  ·rename_i m2 h2
   obtain ⟨a1, a2, a3⟩ := SP hk t u m m2 h2 hf.1 (hu u (by simp)) hm
   obtain ⟨b1, b2, b3⟩ := Pm hk r q m2 m' h hf.2 (fun v hv => hu v (List.mem_cons_of_mem _ hv)) a2 (by simpa using hl)
   refine ⟨a1.trans b1, b2, fun x hx acc hxx => ?_⟩
   simp only [jW] at hxx
   rcases b3 x hx _ hxx with h4 | h4
   ·rcases a3 x hx acc h4 with h5 | h5
    ·exact .inl h5
    ·obtain ⟨tx, htx⟩ := CJ h5
     refine .inr ?_
     by_cases hh : x ∈ yr m'
     ·exact hh
     ·have := b1.old x tx htx; rw [oY.2 hh] at this; cases this
   ·exact .inr h4
  ·cases h
end
def qq (vs : List (List Nat)) (m : List (List Nat × Ty)) : List (List Nat × Ty) := vs.map fun v => (v, (fI v m).getD (.mk [] []))
def pick (v : List Nat) (m : List (List Nat × Ty)) : List (List Nat × Ty) := m.filter fun p => decide (p.1 = v)
def yO (vs : List (List Nat)) (m : List (List Nat × Ty)) : List (List Nat × Ty) := vs.flatMap fun v => pick v m
theorem zM {v : List Nat} : ∀ {m : List (List Nat × Ty)}, v ∉ yr m → pick v m = []
 | [], _ => rfl
 | (k, t) :: r, h => by
  simp only [List.map_cons, List.mem_cons, not_or] at h
  unfold pick
  rw [List.filter_cons, if_neg (by simpa using Ne.symm h.1)]
  exact zM h.2
theorem Ft {v : List Nat} {t : Ty} : ∀ {m : List (List Nat × Ty)}, (yr m).Nodup → fI v m = some t → pick v m = [(v, t)]
 | [], _, h => by cases h
 | (k, x) :: r, hn, h => by
  simp only [List.map_cons, List.nodup_cons] at hn
  unfold pick
  simp only [fI] at h
  split at h
  ·rename_i hk
   cases h; subst hk
   rw [List.filter_cons, if_pos (by simp)]
   have := zM (v := v) (m := r) hn.1
   unfold pick at this
   rw [this]
  ·rename_i hk
   rw [List.filter_cons, if_neg (by simpa using Ne.symm hk)]
   exact Ft hn.2 h
theorem Fv {m : List (List Nat × Ty)} (hn : (yr m).Nodup) : ∀ {vs : List (List Nat)}, (∀ v ∈ vs, v ∈ yr m) → yO vs m = qq vs m
 | [], _ => rfl
 | v :: r, h => by
  obtain ⟨t, ht⟩ := CJ (h v (by simp))
  have ih := Fv hn (vs := r) fun x hx => h x (List.mem_cons_of_mem _ hx)
  unfold yO qq at ih ⊢
  rw [List.flatMap_cons, List.map_cons, Ft hn ht, ht, ih]; rfl
theorem wh {l : List (List Nat)} : ∀ {vs seen : List (List Nat)}, lI l seen vs = true → ∀ v ∈ vs, v ∈ l
 | [], _, _, v, h => by cases h
 | a :: r, seen, hs, v, h => by
  simp only [lI, Bool.and_eq_true, decide_eq_true_eq] at hs
  rcases List.mem_cons.1 h with rfl | h
  ·exact hs.1.2
  ·exact wh hs.2 v h
theorem sG {vs : List (List Nat)} {t : Ty} (h : eE vs t = true) : fR t = true ∧ vs.length ≤ 2000 ∧ (∀ v ∈ vs, v ∈ hQ t []) ∧ (∀ v ∈ vs, bo v = 4) := by
 unfold eE at h
 simp only [Bool.and_eq_true, decide_eq_true_eq] at h
 have hv : ve t = hQ t [] := by unfold ve; rw [if_pos h.1.1]
 rw [hv] at h
 exact ⟨h.1.1, h.1.2, wh h.2, fun v hv => nC t [] (fun x hx => by cases hx) v (wh h.2 v hv)⟩
def vo (vs : List (List Nat)) (t u : Ty) : Option (List (List Nat × Ty)) := if eE vs t = true ∧ fR u = true then so vs t u [] else none
theorem Pn {vs : List (List Nat)} {t u : Ty} {m : List (List Nat × Ty)} (h : vo vs t u = some m) : yi m ∧ (yr m).Nodup ∧ (∀ v ∈ vs, v ∈ yr m) ∧ (∀ x ∈ yr m, x ∈ vs) ∧ yO vs m = qq vs m := by
 unfold vo at h
 split at h
 ·rename_i hh
  obtain ⟨h1, h2, h3, h4⟩ := sG hh.1
  have hu := bF hh.2
  obtain ⟨a, b, c⟩ := SP h4 t u [] m h (bF h1).2.2 hu (fun k x hx => by cases hx)
  have hc : ∀ v ∈ vs, v ∈ yr m := fun v hv => (c v hv [] (h3 v hv)).resolve_left (by simp)
  have hn := a.nd (by simp)
  exact ⟨b, hn, hc, fun x hx => (a.sub x hx).resolve_left (by simp), Fv hn hc⟩
 ·cases h
structure BM (K : S → Prop) (G : List Nat) (l : List (List Nat × Ty)) (o : Option Nat) (v : V) (s : S) : Prop where
 row : ∃ cs : List (List V), BG cs o v s ∧ fP (fun s' => K s' ∧ KB G s s') l cs
 lt : ∀ g ∈ G, g < s.next ∧ o ≠ some g
section
variable {K : S → Prop} {G : List Nat} {l : List (List Nat × Ty)} {o : Option Nat} {v : V} {s s' : S}
theorem BM.one (h : BM K G l o v s) : v.one = true := by obtain ⟨⟨cs, h1, _⟩, _⟩ := h; exact h1.one
theorem BM.nil (s : S) : BM K [] [] none .nilslice s := ⟨⟨[], BG.nil s, rfl⟩, by simp⟩
theorem BM.keep (h : BM K G l o v s) (hk : KB (G ++ o.toList) s s') (hn : s.next ≤ s'.next) : BM K G l o v s' := by
 obtain ⟨⟨cs, h1, h2⟩, h3⟩ := h
 exact ⟨⟨cs, gQ.keep h1 (fun X B hX hB => hk X (by simp [hX]) B hB), h2.mono fun _ h4 => ⟨h4.1, (hk.mono (by simp; intro g hg; exact .inl hg)).trans h4.2⟩⟩, fun g hg => ⟨Nat.lt_of_lt_of_le (h3 g hg).1 hn, (h3 g hg).2⟩⟩
theorem BM.stb : kz (G ++ o.toList) (BM K G l o v) := fun _ _ h hk hn => h.keep hk hn
theorem BM.still : ep (BM K G l o v) := fun _ _ hf h => h.keep (KB.fw hf (by simp)) hf.next
theorem BM.blk (h : BM K G l o v s) (hw : WF s) : ∀ g ∈ G ++ o.toList, g < s.next := fun g hg => by
 obtain ⟨⟨cs, h1, _⟩, h3⟩ := h
 rcases List.mem_append.1 hg with hg | hg
 ·exact (h3 g hg).1
 ·exact h1.blk hw g hg
theorem BM.app {G' : List Nat} {x : List Nat} {t : Ty} {nm rw : V} (h : BM K G l o v s) (hw : WF s) {b : Nat} (hb : s.get b = some (.cells 56 false 1 [⟨0, 0, [.str x, nm, rw]⟩])) (hx : Bytes x) (hxl : x.length < 4611686018427387904) (ht : MT K G' t nm rw s) (hG : ∀ g ∈ G', o ≠ some g) (hl : l.length ≤ 999999) :
 ∃ v' s' X, yp.run Tryz.prog s (.bif .append #[36, 36] [v, .slice ⟨b, 0, 0⟩ 0 1 (some 1) 3]) = some (v', s') ∧ BM K (G ++ G') (l ++ [(x, t)]) (some X) v' s' ∧ Fw o.toList s s' ∧ X < s'.next ∧ (o = some X ∨ s.next ≤ X) := by
 obtain ⟨⟨cs, h1, h2⟩, h3⟩ := h
 have hlen := h2.len
 obtain ⟨v', s', X, hrun, hU, hf, hXl, hX⟩ := h1.app hw hb ht.one (by omega)
 have hne : ∀ g, g ∈ G ++ G' → g < s.next ∧ o ≠ some g := fun g hg => by
  rcases List.mem_append.1 hg with hg | hg
  ·exact h3 g hg
  ·exact ⟨ht.2 g hg, hG g hg⟩
 have hkb : KB (G ++ G') s s' := KB.fw hf (fun g hg hgo => by
  have := (hne g hg).2
  cases o with
  | none => simp at hgo
  | some Y => simp at hgo; subst hgo; exact this rfl)
 refine ⟨v', s', X, hrun, ⟨⟨cs ++ [[.str x, nm, rw]], hU, ?_⟩, fun g hg => ⟨Nat.lt_of_lt_of_le (hne g hg).1 hf.next, fun hgX => ?_⟩⟩, hf, hXl, hX⟩
 ·exact (h2.mono fun _ h4 => ⟨h4.1, (hkb.mono (by simp; intro g hg; exact .inl hg)).trans (h4.2.mono (by simp; intro g hg; exact .inl hg))⟩).snoc hx hxl (ht.1.mono fun _ h4 => ⟨h4.1, (hkb.mono (by simp; intro g hg; exact .inr hg)).trans (h4.2.mono (by simp; intro g hg; exact .inr hg))⟩)
 ·cases hgX
  rcases hX with h5 | h5
  ·exact (hne _ hg).2 h5
  ·have := (hne _ hg).1; omega
theorem BM.rdb (h : BM K G l o v s) (hl : l.length < 4611686018427387904) : Hg (fun s' => K s' ∧ KB (G ++ o.toList) s s') l v := by
 obtain ⟨⟨cs, h1, h2⟩, h3⟩ := h
 refine ⟨cs, (ym h1 h2.three (by rw [h2.len]; exact hl)).mono fun _ h4 => h4.2.mono (by simp; intro g hg; exact .inr hg), h2.mono fun _ h4 => ⟨h4.1, h4.2.mono (by simp; intro g hg; exact .inl hg)⟩⟩
end
def kO (vs : List (List Nat)) (t u : Ty) : List (List Nat × Ty) := match vo vs t u with
 | some m => qq vs m
 | none => []
def Vu (K : S → Prop) (vs : List (List Nat)) (t u : Ty) (s : S) : dz → Prop := sq fun v s' => ∃ G o lv, v = .tuple [lv, .bool (vo vs t u).isSome] ∧ BM K G (kO vs t u) o lv s' ∧ (∀ g ∈ G ++ o.toList, s.next ≤ g) ∧ Fw [] s s'
theorem MI {v : List Nat} {m : List (List Nat × Ty)} {k : Nat} {x : List Nat} {t : Ty} (h : m[k]? = some (x, t)) : pick v (m.drop k) = (if x = v then [(x, t)] else []) ++ pick v (m.drop (k + 1)) := by
 rw [pg h]
 unfold pick
 rw [List.filter_cons]
 by_cases hx : x = v
 ·simp [hx]
 ·simp [hx]
theorem MK {vs : List (List Nat)} {m : List (List Nat × Ty)} {i : Nat} {x : List Nat} (h : vs[i]? = some x) : yO (vs.drop i) m = pick x m ++ yO (vs.drop (i + 1)) m := by
 rw [pg h]
 unfold yO
 rw [List.flatMap_cons]
section
variable {K : S → Prop} {vs : List (List Nat)} {n : Nat}
def UR (K : S → Prop) (c : List (List V)) (o : Option Nat) (lv : V) (l2 : List (List Nat × Ty)) (o2 : Option Nat) (v2 : V) (s : S) : Prop := BG c o lv s ∧ BM K [] l2 o2 v2 s
theorem UR.stb {c : List (List V)} {o : Option Nat} {lv : V} {l2 : List (List Nat × Ty)} {o2 : Option Nat} {v2 : V} : kz (o.toList ++ o2.toList) (UR K c o lv l2 o2 v2) := fun a b ⟨h1, h2⟩ hk hn =>
 ⟨BG.stb a b h1 (fun g hg => hk g (List.mem_append_left _ hg)) hn, h2.keep (fun g hg => hk g (List.mem_append_right _ hg)) hn⟩
def XA (K : S → Prop) (vs : List (List Nat)) (m : List (List Nat × Ty)) (c : List (List V)) (o : Option Nat) (lv vr nm rw : V) (b1 : Nat) (s : S) (j : Nat) : bS := fun vs' bs' D U => ∃ (i : Nat) (l2 : List (List Nat × Ty)) (o2 : Option Nat) (v2 : V), i ≤ vs.length ∧ j = vs.length - i ∧ vs' = [lv, v2, .int .i64 ((i : Nat) : Int), vr, nm, rw] ∧ bs' = [b1] ∧ D = o.toList ++ o2.toList ∧ U = UR K c o lv l2 o2 v2 ∧ v2.one = true ∧
 (∀ X, o2 = some X → s.next ≤ X ∧ o ≠ some X) ∧ l2 ++ yO (vs.drop i) m = yO vs m
theorem Lg (hK : Kn K n) {t u : Ty} {vr nm rw nm' rw' : V} {s : S} (hn : n ≤ s.next) (hR : DX K vs t vr nm rw) (hR' : ff K u nm' rw') (hw : WF s) (hG : cd s) (hk : K s) :
 Cw aq 24 [.agg [vr, nm, rw], .agg [nm', rw']] s fun v s' => ∃ G o lv, v = .tuple [lv, .bool (vo vs t u).isSome] ∧ BM K G (kO vs t u) o lv s' ∧ (∀ g ∈ G ++ o.toList, s.next ≤ g) ∧ Fw [] s s' := by
 have ho := hR.ty.one
 have hov := hR.vars.row.one
 have ho' := hR'.one
 have hvl := hR.vars.lt
 have hkk : ∀ s1, Fw [] s s1 → K s1 := fun s1 h1 => hK.still _ _ h1 hk
 refine ay (aI (C := xJ) (e := ⟨[vr, nm, rw, nm', rw'], []⟩) (F := []) (bE rfl rfl rfl) Tryz.func24 rfl (by kernel_rfl) Iq rfl ⟨rfl, by simp [au, ho.1, ho.2, ho'.1, ho'.2, hov], rfl⟩ rfl hw rfl (by simp) trivial am trivial (by simp) ?_)
 show ai aq [] s (Vu K vs t u s) _ _ _ _ _
 have no : ∀ {s1 : S}, Fw [] s s1 → vo vs t u = none → Vu K vs t u s ⟨.returned (.tuple [.nilslice, .bool false]), none, s1⟩ := fun {s1} h1 he => ⟨_, _, rfl, [], none, .nilslice, by rw [he]; rfl, by unfold kO; rw [he]; exact BM.nil s1, by simp, h1⟩
 have key3 : ∀ (q : Bool) (b1 b2 : Nat) (L : List bS), (q = false ↔ eE vs t = true ∧ fR u = true) → ai aq [] s (Vu K vs t u s) nH ⟨[.bool q, vr, nm, rw, nm', rw'], [b1, b2]⟩ [] T0 L := by
  intro q b1 b2 L hq
  refine aB rfl (fun c4 => ?_) (fun c4 => ?_)
  ·exact ak fun s1 h1 h2 h3 h4 => no h1 (by unfold vo; rw [if_neg (fun h => by rw [hq.2 h] at c4; cases c4)])
  ·have hsv := hq.1 c4
   have hmt : vo vs t u = so vs t u [] := by unfold vo; rw [if_pos hsv]
   obtain ⟨p1, p2, p3, p4⟩ := sG hsv.1
   have hsz := (bF p1).1
   refine cU fun s1 k1 k2 k3 k4 => ?_
   obtain ⟨r, s2, hcall, hf, hor⟩ := VN hK (fun x hx => wR.1 (p4 x hx)) hR.vars (cq t) t u [] [] nm rw nm' rw' .nilslice none s1 (Nat.le_refl _) hR.ty hR' k2 (hkk s1 k1) (Nat.le_trans hn k1.next) (fun X h => by cases h) (BG.nil s1) rfl (by simp; omega)
   rcases hor with ⟨m, c, o, lv, e1, rfl, e3, e4, e5⟩ | ⟨e1, v3, rfl, e3⟩
   ·have hbl3 := e3.blk (hf.wf k2)
    have hlm := II _ _ _ _ e1
    simp only [List.length_nil] at hlm
    have hoX : ∀ X, o = some X → s1.next ≤ X := fun X hX => (e5 X hX).resolve_left (fun h => by cases h)
    refine .inl ⟨[lv, .bool true], _, s2, o.toList, BG c o lv, inferInstance, rfl, by simp [au, e3.one]; rfl, hcall, hf.mono (by simp), trivial, BG.stb, e3, fun g hg => ⟨hbl3 g hg, ?_⟩, ?_⟩
    ·cases o with
     | none => simp at hg
     | some X => simp at hg; subst hg; exact .inr (hoX g rfl)
    have hrdb := e3.rdb e4 (by omega)
    have hsome : vo vs t u = some m := by rw [hmt, e1]
    obtain ⟨q1, q2, q3, q4, q5⟩ := Pn hsome
    have hout : kO vs t u = qq vs m := by unfold kO; rw [hsome]
    refine dR rfl rfl ?_
    refine aB (q := false) rfl (fun h => by cases h) (fun _ => ?_)
    refine fv (XA K vs m c o lv vr nm rw b1 s) vs.length ⟨0, [], none, .nilslice, by omega, rfl, rfl, rfl, by simp, funext fun s => propext ⟨fun h => ⟨h, BM.nil s⟩, fun h => h.1⟩, rfl, (fun X h => by cases h), by simp⟩ BG.stb ?_
    rintro j _ _ _ _ ⟨i, l2, o2, v2, hi, rfl, rfl, rfl, rfl, rfl, hone2, hX2, hl2⟩ - - -
    refine bT rfl (fun s1 _ _ => hR.vars.len s1) rfl ?_
    refine cP rfl rfl rfl ?_
    refine aP rfl (fun c3 => ?_) (fun c3 => ?_)
    ·obtain ⟨x, hx, -⟩ := bM (show i < vs.length by omega)
     rw [MK hx] at hl2
     have hxb := hR.vars.bytes x (List.mem_of_getElem? hx)
     obtain ⟨px, hpx, hldx⟩ := hR.vars.at hx
     refine fv (fun j vs' bs' D U => ∃ (k : Nat) (l3 : List (List Nat × Ty)) (o3 : Option Nat) (v3 : V), k ≤ m.length ∧ j = m.length - k ∧ vs' = [lv, v3, .int .i64 ((i : Nat) : Int), .int .i64 ((k : Nat) : Int), vr, nm, rw] ∧ bs' = [b1] ∧ D = o.toList ++ o3.toList ∧ U = UR K c o lv l3 o3 v3 ∧ v3.one = true ∧
      (∀ X, o3 = some X → s.next ≤ X ∧ o ≠ some X) ∧ l3 ++ pick x (m.drop k) = l2 ++ pick x m)
      m.length ⟨0, l2, o2, v2, by omega, rfl, rfl, rfl, rfl, rfl, hone2, hX2, by simp⟩ UR.stb ?_
     rintro j _ _ _ _ ⟨k, l3, o3, v3, hk3, rfl, rfl, rfl, rfl, rfl, hone3, hX3, hl3⟩ - - -
     refine bT rfl (fun s1 _ _ => hrdb.len s1) rfl ?_
     refine cP rfl rfl rfl ?_
     refine aP rfl (fun c1 => ?_) (fun c1 => ?_)
     ·obtain ⟨⟨y, ty⟩, hy, hd⟩ := bM (show k < m.length by omega)
      rw [MI hy] at hl3
      obtain ⟨nm1, rw1, z1, hyb, hyl, hR1⟩ := e4.at hy
      obtain ⟨p, hp, hld⟩ := (Hi e3 e4.three (by rw [e4.len]; omega)).at Oa sw z1
      have ho1 := hR1.one
      refine ao (.ptr p) rfl (fun _ _ _ _ _ => hp) rfl ?_
      refine ao (.ptr p) rfl (fun _ _ _ _ _ => FZ p) rfl ?_
      refine ao (.str y) rfl (fun a _ _ b _ => fo (p := p) (i := 0) (hld a (b rfl).1) rfl CF) rfl ?_
      refine ao (.ptr px) rfl (fun _ _ _ _ _ => hpx) rfl ?_
      refine ao (.str x) rfl (fun a b _ _ _ => hldx a (hkk a b)) rfl ?_
      refine gi rfl rfl hyb hxb rfl ?_
      refine aP rfl (fun c2 => ?_) (fun c2 => ?_)
      ·subst c2
       rw [if_pos rfl] at hl3
       refine ao (.ptr p) rfl (fun _ _ _ _ _ => hp) rfl ?_
       refine h_askN [.str y, nm1, rw1] (.agg [.str y, nm1, rw1]) rfl (by simp [au, ho1.1, ho1.2, iW]) (fun a _ _ b _ => by
        show gh (eQ Tryz.prog a 56 (some (.ptr p))) = _
        rw [aZ, Xp, hld a (b rfl).1]; rfl) rfl ?_
       refine aN fun b3 hb3 hd3 => ?_
       refine gT fun s4 f1 f2 f3 f4 => ?_
       have hl9 : l3.length ≤ 999999 := by
        have z2 := congrArg List.length hl2
        have z3 := congrArg List.length hl3
        rw [q5] at z2
        unfold qq at z2
        simp only [List.length_append, List.length_map] at z2 z3
        omega
       obtain ⟨v', s5, X, hrun, hU, hf5, hXl, hXo⟩ := f3.2.app f2 (b := b3) f4.1 hyb hyl (MT.of hR1) (by simp) hl9
       have hblo := f3.1.blk f2
       have hXn : o ≠ some X := fun h => by
        rcases hXo with h1 | h1
        ·exact (hX3 X h1).2 h
        ·have := hblo X (by simp [h]); omega
       have hX4 : ∀ Y, some X = some Y → s.next ≤ Y ∧ o ≠ some Y := fun Y hY => by
        cases hY
        refine ⟨?_, hXn⟩
        rcases hXo with h1 | h1
        ·exact (hX3 X h1).1
        ·exact Nat.le_trans f1.next h1
       have hBG5 : BG c o lv s5 := gQ.fw f3.1 hf5 (fun Z hZ hZ3 => by
        cases o3 with
        | none => simp at hZ3
        | some Y => simp at hZ3; subst hZ3; exact (hX3 Z rfl).2 hZ)
       refine ⟨[v'], _, s5, o.toList ++ [X], UR K c o lv (l3 ++ [(y, ty)]) (some X) v', inferInstance, rfl, by simp [au, hU.one], hrun, hf5.mono (by intro g hg; exact List.mem_append_right _ hg), UR.stb, ⟨hBG5, by simpa using hU⟩, fun g hg => ?_, ?_⟩
       ·rcases List.mem_append.1 hg with hg | hg
        ·exact ⟨Nat.lt_of_lt_of_le (hblo g hg) hf5.next, .inl (by simp at hg; simp [hg])⟩
        ·simp at hg; subst hg
         refine ⟨hXl, ?_⟩
         rcases hXo with h1 | h1
         ·exact .inl (by simp [h1])
         ·exact .inr h1
       refine iw (fun vs' bs' D U => vs' = [lv, v', .int .i64 ((i : Nat) : Int), .int .i64 ((k : Nat) : Int), vr, nm, rw] ∧ bs' = [b1] ∧ D = o.toList ++ [X] ∧ U = UR K c o lv (l3 ++ [(y, ty)]) (some X) v') ⟨rfl, rfl, rfl, rfl⟩ UR.stb ?_
       rintro _ _ _ _ ⟨rfl, rfl, rfl, rfl⟩ - - -
       refine br (r := ((k + 1 : Nat) : Int)) rfl rfl (wI (by omega)) rfl ?_
       exact fx rfl UR.stb ⟨m.length - (k + 1), by omega, k + 1, _, some X, v', by omega, rfl, rfl, rfl, rfl, rfl, hU.one, hX4, by rw [List.append_assoc]; exact hl3⟩
      ·rw [if_neg c2] at hl3
       refine iw (fun vs' bs' D U => vs' = [lv, v3, .int .i64 ((i : Nat) : Int), .int .i64 ((k : Nat) : Int), vr, nm, rw] ∧ bs' = [b1] ∧ D = o.toList ++ o3.toList ∧ U = UR K c o lv l3 o3 v3) ⟨rfl, rfl, rfl, rfl⟩ UR.stb ?_
       rintro _ _ _ _ ⟨rfl, rfl, rfl, rfl⟩ - - -
       refine br (r := ((k + 1 : Nat) : Int)) rfl rfl (wI (by omega)) rfl ?_
       exact fx rfl UR.stb ⟨m.length - (k + 1), by omega, k + 1, l3, o3, v3, by omega, rfl, rfl, rfl, rfl, rfl, hone3, hX3, hl3⟩
     ·have : k = m.length := by omega
      subst this
      rw [List.drop_length] at hl3
      have hl3 : l3 = l2 ++ pick x m := by rw [← hl3]; unfold pick; simp
      refine br (r := ((i + 1 : Nat) : Int)) rfl rfl (wI (by omega)) rfl ?_
      exact fx rfl UR.stb ⟨vs.length - (i + 1), by omega, i + 1, l3, o3, v3, by omega, rfl, rfl, rfl, rfl, rfl, hone3, hX3, by rw [hl3, List.append_assoc]; exact hl2⟩
    ·have : i = vs.length := by omega
     subst this
     rw [List.drop_length] at hl2
     have hl2 : l2 = yO vs m := by rw [← hl2]; unfold yO; simp
     refine ak fun s1 h1 h2 h3 h4 => ⟨_, _, rfl, [], o2, v2, by rw [hsome]; rfl, ?_, fun g hg => ?_, h1⟩
     ·rw [hout, ← q5, ← hl2]; exact h3.2
     ·cases o2 with
      | none => simp at hg
      | some X => simp at hg; subst hg; exact (hX2 g rfl).1
   ·refine .inl ⟨[v3, .bool false], _, s2, [], T0, inferInstance, rfl, by simp [au, e3]; rfl, hcall, hf.mono (by simp), trivial, am, trivial, by simp, ?_⟩
    refine dR rfl rfl ?_
    refine aB (q := true) rfl (fun _ => ?_) (fun h => by cases h)
    exact ak fun s1 h1 h2 h3 h4 => no h1 (by rw [hmt, e1])
 refine aN fun b1 hb1 hd1 => ?_
 refine aN fun b2 hb2 hd2 => ?_
 refine aj (.int .i64 (if eE vs t = true then 0 else 32)) (fun a b c _ _ => xD hK (Nat.le_trans hn b.next) hR c (hG.keep b.ro) (hkk a b)) rfl rfl ?_
 refine iv rfl rfl rfl ?_
 refine aP rfl (fun c6 => ?_) (fun c6 => ?_)
 ·exact aK (key3 true _ _ _ ⟨fun h => (by cases h), fun h => by rw [if_pos h.1] at c6; exact absurd rfl c6⟩)
 ·have hs : eE vs t = true := by
   cases hv : eE vs t with
   | true => rfl
   | false => rw [hv] at c6; exact absurd (by decide) c6
  refine aj (.bool (fR u)) (fun a b c _ _ => Bn hK.still hR' c (hkk a b)) rfl rfl ?_
  refine dR rfl rfl ?_
  exact aK (key3 _ _ _ _ ⟨fun h => ⟨hs, by simpa using h⟩, fun h => by rw [h.2]; rfl⟩)
end
theorem KF {l : List (List Nat)} : ∀ {vs seen : List (List Nat)}, lI l seen vs = true → vs.Nodup ∧ ∀ v ∈ vs, v ∉ seen
 | [], _, _ => ⟨by simp, by simp⟩
 | a :: r, seen, hs => by
  simp only [lI, Bool.and_eq_true, decide_eq_true_eq] at hs
  obtain ⟨h1, h2⟩ := KF hs.2
  refine ⟨List.nodup_cons.2 ⟨fun h => h2 a h (by simp), h1⟩, fun v hv => ?_⟩
  rcases List.mem_cons.1 hv with rfl | hv
  ·exact hs.1.1
  ·exact fun h => h2 v hv (List.mem_append_left _ h)
theorem Lc {l : List (List Nat)} (h : l.Nodup) {i : Nat} {x : List Nat} (hx : l[i]? = some x) : x ∉ l.take i := fun hm => by
 obtain ⟨j, hj, he⟩ := List.mem_iff_getElem.1 hm
 rw [List.length_take] at hj
 rw [List.getElem_take] at he
 obtain ⟨hi, hxe⟩ := List.getElem?_eq_some_iff.1 hx
 have := (List.nodup_iff_pairwise_ne.1 h)
 have := List.pairwise_iff_getElem.1 this j i (by omega) hi (by omega)
 exact this (he.trans hxe.symm)
theorem FG {l : List Nat} (h : bo l ≠ 0) : l.length ≤ 24 := by
 unfold bo at h
 split at h
 ·exact absurd rfl h
 ·rename_i hh
  rcases Nat.lt_or_ge 24 l.length with h1 | h1
  ·exact absurd (.inr (.inl h1)) hh
  ·exact h1
theorem VQ {s : S} {mm : Nat} {M : List (List Nat × V)} (h : MP s mm M) (hk : lY M) {x : List Nat} (hx : Bytes x) {v : V} (hv : fH x M = some v) : cp Tryz.prog s 78 (some (.map mm)) (some (.str x)) false = some v := by
 have h' : s.get mm = some (.map (ub M 0) M.length) := h
 simp only [cp, Tryz.underlying78, oz, h', jF, cond_true, rG (fun a b ha hb => iO s a b ha hb) hx M 0 hk, hv, rE, cond_false]
section
variable {K : S → Prop} {vs : List (List Nat)} {n : Nat}
def UO (mo mm : Nat) (Mo M : List (List Nat × V)) (s : S) : Prop := MP s mo Mo ∧ MP s mm M
theorem UO.stb {mo mm : Nat} {Mo M : List (List Nat × V)} : kz [mo, mm] (UO mo mm Mo M) := fun _ _ ⟨h1, h2⟩ hk _ => ⟨hk mo (by simp) _ h1, hk mm (by simp) _ h2⟩
def UT (mo mm : Nat) (Mo M : List (List Nat × V)) (G : List Nat) (l : List (List Nat × Ty)) (o : Option Nat) (v : V) (s : S) : Prop := UO mo mm Mo M s ∧ BM T0 G l o v s
theorem UT.stb {mo mm : Nat} {Mo M : List (List Nat × V)} {G : List Nat} {l : List (List Nat × Ty)} {o : Option Nat} {v : V} : kz ([mo, mm] ++ (G ++ o.toList)) (UT mo mm Mo M G l o v) := fun a b ⟨h1, h2⟩ hk hn =>
 ⟨UO.stb a b h1 (fun g hg => hk g (List.mem_append_left _ hg)) hn, h2.keep (fun g hg => hk g (List.mem_append_right _ hg)) hn⟩
theorem Lh (hK : Kn K n) {t u : Ty} {vr nm rw nm' rw' : V} {s : S} (hn : n ≤ s.next) (hR : DX K vs t vr nm rw) (hR' : ff K u nm' rw') (hw : WF s) (hG : cd s) (hk : K s) :
 Cw aq 23 [.agg [vr, nm, rw], .agg [nm', rw']] s fun v s' => ∃ G o lv, v = .tuple [lv, .bool (vo vs t u).isSome] ∧ BM T0 G (kO vs t u) o lv s' ∧ (∀ g ∈ G ++ o.toList, s.next ≤ g) ∧ Fw [] s s' := by
 have ho := hR.ty.one
 have hov := hR.vars.row.one
 have ho' := hR'.one
 have hvl := hR.vars.lt
 have hkk : ∀ s1, Fw [] s s1 → K s1 := fun s1 h1 => hK.still _ _ h1 hk
 refine ay (aI (C := uv) (e := ⟨[vr, nm, rw, nm', rw'], []⟩) (F := []) (bE rfl rfl rfl) Tryz.func23 rfl (by kernel_rfl) EX rfl ⟨rfl, by simp [au, ho.1, ho.2, ho'.1, ho'.2, hov], rfl⟩ rfl hw rfl (by simp) trivial am trivial (by simp) ?_)
 show ai aq [] s (Vu T0 vs t u s) _ _ _ _ _
 have no : ∀ {s1 : S}, Fw [] s s1 → vo vs t u = none → Vu T0 vs t u s ⟨.returned (.tuple [.nilslice, .bool false]), none, s1⟩ := fun {s1} h1 he => ⟨_, _, rfl, [], none, .nilslice, by rw [he]; rfl, by unfold kO; rw [he]; exact BM.nil s1, by simp, h1⟩
 have hpu := vf u
 have key2 : ∀ (q : Bool) (b1 b2 : Nat) (L : List bS), (q = false ↔ eE vs t = true ∧ fR u = true) → ai aq [] s (Vu T0 vs t u s) mp ⟨[.bool q, vr, nm, rw, nm', rw'], [b1, b2]⟩ [] T0 L := by
  intro q b1 b2 L hq
  refine aB rfl (fun c4 => ?_) (fun c4 => ?_)
  ·exact ak fun s1 h1 h2 h3 h4 => no h1 (by unfold vo; rw [if_neg (fun h => by rw [hq.2 h] at c4; cases c4)])
  have hsv := hq.1 c4
  have hmt : vo vs t u = so vs t u [] := by unfold vo; rw [if_pos hsv]
  obtain ⟨p1, p2, p3, p4⟩ := sG hsv.1
  have hnd : vs.Nodup := by
   have := hsv.1
   unfold eE at this
   simp only [Bool.and_eq_true] at this
   exact (KF this.2).1
  refine gT fun s3 j1 j2 j3 j4 => ?_
  have hal := Fw.alloc [] j2 (.map [] 0)
  refine ⟨[.map s3.next], _, s3.alloc (.map [] 0), [s3.next], fun s => MP s s3.next [], inferInstance, rfl, rfl, rfl, hal.mono (by simp), gH, cy _ _, fun g hg => ?_, ?_⟩
  ·simp at hg; subst hg; rw [S.next_alloc]; exact ⟨by omega, .inr (Nat.le_refl _)⟩
  have hmn : s.next ≤ s3.next := j1.next
  generalize s3.next = mo at hmn
  refine bT rfl (fun s1 _ _ => hR.vars.len s1) rfl ?_
  refine fv (fun j vs' bs' D U => ∃ (i : Nat) (Mo : List (List Nat × V)), i ≤ vs.length ∧ j = vs.length - i ∧ vs' = [.map mo, vr, .int .i64 ((vs.length : Nat) : Int), .int .i64 ((i : Nat) : Int), vr, nm, rw, nm', rw'] ∧ bs' = [b1, b2] ∧ D = [mo] ∧ U = (fun s => MP s mo Mo) ∧ lY Mo ∧ (∀ x, fH x Mo = if x ∈ vs.take i then some (.int .i64 1) else none))
   vs.length ⟨0, [], by omega, rfl, rfl, rfl, rfl, rfl, (fun p hp => by cases hp), (fun x => by simp [fH])⟩ gH ?_
  rintro j _ _ _ _ ⟨i, Mo, hi, rfl, rfl, rfl, rfl, rfl, hkm, hmg⟩ - - -
  refine cP rfl rfl rfl ?_
  refine aP rfl (fun c2 => ?_) (fun c2 => ?_)
  ·obtain ⟨x, hx, hd⟩ := bM (show i < vs.length by omega)
   have hxb := hR.vars.bytes x (List.mem_of_getElem? hx)
   obtain ⟨p, hp, hld⟩ := hR.vars.at hx
   have hnt := Lc hnd hx
   refine ao (.ptr p) rfl (fun _ _ _ _ _ => hp) rfl ?_
   refine ao (.str x) rfl (fun a b _ _ _ => hld a (hkk a b)) rfl ?_
   refine ao (.int .i64 0) rfl (fun s1 h1 h2 h3 h4 => ?_) rfl ?_
   ·have := (h3 rfl).look hkm hxb
    show cp Tryz.prog s1 86 (some (.map mo)) (some (.str x)) false = _
    rw [this, hmg x, if_neg hnt]; rfl
   refine br (r := 1) rfl rfl rfl rfl ?_
   refine gT fun s4 k1 k2 k3 k4 => ?_
   obtain ⟨s5, hrun, hmp, hf, hml2⟩ := MP.upd k3 k2 hkm hxb (.int .i64 1) Tryz.underlying86
   refine ⟨[], _, s5, [mo], fun s => MP s mo (ir x (.int .i64 1) Mo), inferInstance, rfl, rfl, hrun, hf, gH, hmp, fun g hg => ?_, ?_⟩
   ·simp at hg; subst hg; exact ⟨hml2, .inl (by simp)⟩
   have htk : vs.take (i + 1) = vs.take i ++ [x] := by rw [List.take_add_one, hx]; rfl
   refine br (r := ((i + 1 : Nat) : Int)) rfl rfl (wI (by omega)) rfl ?_
   refine fx rfl gH ⟨vs.length - (i + 1), by omega, i + 1, _, by omega, rfl, rfl, rfl, rfl, rfl, hkm.set hxb _, fun y => ?_⟩
   rw [oW, htk, hmg y]
   by_cases hy : y = x
   ·subst hy; simp
   ·simp [hy]
  ·have : i = vs.length := by omega
   subst this
   rw [List.take_length] at hmg
   have hO : XG vs Mo := ⟨hkm, fun x => by rw [hmg x]; split <;> rfl⟩
   refine gT fun s3 j1 j2 j3 j4 => ?_
   have hal := Fw.alloc [] j2 (.map [] 0)
   have hmol : mo < s3.next := j2 mo _ j3
   refine ⟨[.map s3.next], _, s3.alloc (.map [] 0), [mo, s3.next], UO mo s3.next Mo [], inferInstance, rfl, rfl, rfl, hal.mono (by simp), UO.stb, ⟨hal.keep _ _ (by simp) j3, cy _ _⟩, fun g hg => ?_, ?_⟩
   ·rw [S.next_alloc]
    simp at hg
    rcases hg with rfl | rfl
    ·exact ⟨by omega, .inl (by simp)⟩
    ·exact ⟨by omega, .inr (Nat.le_refl _)⟩
   have hmn2 : s.next ≤ s3.next := j1.next
   have hne : s3.next ≠ mo := by omega
   generalize s3.next = mm at hmn2 hne
   refine cU fun s1 k1 k2 k3 k4 => ?_
   have hml : mm < s1.next := k2 mm _ k3.2
   have hmol : mo < s1.next := k2 mo _ k3.1
   have hn1 := k1.next
   have hKf : Kf (fun s => K s ∧ MP s mo Mo) mm s1.next := by
    intro F a b hF hf hk
    refine ⟨hK F a b (fun g hg => ?_) hf hk.1, hf.keep mo _ (fun h => ?_) hk.2⟩
    ·rcases hF g hg with h | h <;> omega
    ·rcases hF mo h with h | h
     ·exact hne h.symm
     ·omega
   obtain ⟨v, s2, hcall, hf, hor⟩ := TW (K := fun s => K s ∧ MP s mo Mo) hKf hne hO (fun _ h => h.2) (cq t) t u [] [] nm rw nm' rw' s1 (Nat.le_refl _) (hR.ty.mono fun _ h => h.1) (hR'.mono fun _ h => h.1) k2 ⟨hkk s1 k1, k3.1⟩ (Nat.le_refl _) k3.2 trivial (fun p hp => by cases hp)
   rcases hor with ⟨m, M, e1, rfl, e3, e4, e5⟩ | ⟨e1, rfl⟩
   ·have hsome : vo vs t u = some m := by rw [hmt, e1]
    obtain ⟨q1, q2, q3, q4, q5⟩ := Pn hsome
    have hout : kO vs t u = qq vs m := by unfold kO; rw [hsome]
    refine .inl ⟨[.bool true], _, s2, [mo, mm], UO mo mm Mo M, inferInstance, rfl, rfl, hcall, hf.mono (by simp [eI]), trivial, UO.stb, ⟨hf.keep _ _ (by simp [Ne.symm hne]) k3.1, e3⟩, fun g hg => ?_, ?_⟩
    ·simp at hg
     have := hf.next
     rcases hg with rfl | rfl
     ·exact ⟨by omega, .inl (by simp)⟩
     ·exact ⟨by omega, .inl (by simp)⟩
    refine dR rfl rfl ?_
    refine aB (q := false) rfl (fun h => by cases h) (fun _ => ?_)
    refine bT rfl (fun s1 _ _ => hR.vars.len s1) rfl ?_
    refine fv (fun j vs' bs' D U => ∃ (i : Nat) (G : List Nat) (l2 : List (List Nat × Ty)) (o2 : Option Nat) (v2 : V), i ≤ vs.length ∧ j = vs.length - i ∧ vs' = [.map mm, v2, vr, .int .i64 ((vs.length : Nat) : Int), .int .i64 ((i : Nat) : Int)] ∧ bs' = [] ∧ D = [mo, mm] ++ (G ++ o2.toList) ∧ U = UT mo mm Mo M G l2 o2 v2 ∧ v2.one = true ∧ l2.length = i ∧
     (∀ g ∈ G ++ o2.toList, s.next ≤ g ∧ g ≠ mo ∧ g ≠ mm) ∧ l2 ++ qq (vs.drop i) m = qq vs m)
     vs.length ⟨0, [], [], none, .nilslice, by omega, rfl, rfl, rfl, by simp, funext fun s => propext ⟨fun h => ⟨h, BM.nil s⟩, fun h => h.1⟩, rfl, rfl, by simp, by simp⟩ UO.stb ?_
    rintro j _ _ _ _ ⟨i, G, l2, o2, v2, hi, rfl, rfl, rfl, rfl, rfl, hone2, hl2n, hfr, hl2⟩ - - -
    refine cP rfl rfl rfl ?_
    refine aP rfl (fun c1 => ?_) (fun c1 => ?_)
    ·obtain ⟨x, hx, hd⟩ := bM (show i < vs.length by omega)
     have hxm := List.mem_of_getElem? hx
     have hxb := hR.vars.bytes x hxm
     obtain ⟨p, hp, hld⟩ := hR.vars.at hx
     obtain ⟨tx, htx⟩ := CJ (q3 x hxm)
     have hvx := q1 x tx htx
     have hsx := (bF hvx).1
     obtain ⟨nmx, rwx, hmx, hRx⟩ : ∃ nmx rwx, fH x M = some (.agg [nmx, rwx]) ∧ ff (fun s => K s ∧ MP s mo Mo) tx nmx rwx := by
      rcases e4.get x with ⟨t', n1, r1, h1, h2, h3⟩ | ⟨h1, h2⟩
      ·rw [htx] at h2; cases h2; exact ⟨n1, r1, h1, h3⟩
      ·rw [htx] at h2; cases h2
     have hxo := hRx.one
     rw [hd] at hl2
     have hl2 : l2 ++ ((x, tx) :: qq (vs.drop (i + 1)) m) = qq vs m := by
      rw [← hl2]; unfold qq; rw [List.map_cons, htx]; rfl
     have hxl : x.length < 4611686018427387904 := by have := FG (l := x) (by rw [p4 x hxm]; decide); omega
     refine ao (.ptr p) rfl (fun _ _ _ _ _ => hp) rfl ?_
     refine ao (.str x) rfl (fun a b _ _ _ => hld a (hkk a b)) rfl ?_
     refine aN fun b3 hb3 hd3 => ?_
     refine h_askN [nmx, rwx] (.agg [nmx, rwx]) rfl (by simp [au, hxo.1, hxo.2]) (fun _ _ _ a _ => VQ (a rfl).1.2 e5 hxb hmx) rfl ?_
     refine cU fun s4 f1 f2 f3 f4 => ?_
     have g3 : s4.get b3 = some (tC 0) := f4.1
     have hb3o : b3 ≠ mo := fun h => by subst h; have : s4.get b3 = some (.map (ub Mo 0) Mo.length) := f3.1.1; rw [g3] at this; cases this
     have hb3m : b3 ≠ mm := fun h => by subst h; have : s4.get b3 = some (.map (ub M 0) M.length) := f3.1.2; rw [g3] at this; cases this
     have hmol4 : mo < s4.next := f2 mo _ f3.1.1
     have hnx4 := f1.next
     have hKf4 : Kf (fun s => K s ∧ MP s mo Mo) b3 s4.next := by
      intro F a b hF hf hk
      refine ⟨hK F a b (fun g hg => ?_) hf hk.1, hf.keep mo _ (fun h => ?_) hk.2⟩
      ·rcases hF g hg with h | h <;> omega
      ·rcases hF mo h with h | h
       ·exact hb3o h.symm
       ·omega
     have hcp := (Dl tx 0).1 (by omega)
     have hput := KR (Ko := T0) hKf4 (m := []) IL rfl (fun x t h => by cases h) (fun x t h => by cases h) (cq tx)
     rw [show pm [] = ze from funext fun t => funext fun c => Dk t c] at hput
     obtain ⟨v, s5, hcall5, nm5, rw5, G5, rfl, hMT, hGn, hc5, hf5⟩ := hput tx 0 nmx rwx s4 (Nat.le_refl _) (KD hvx) hRx f2 ⟨hkk s4 f1, f3.1.1⟩ (Nat.le_refl _) g3 (by rw [hcp]; simp only; omega)
     rw [hcp] at hMT hc5
     simp only at hMT hc5
     have hoM := hMT.one
     have hblk := f3.2.blk f2
     have hb3G : ∀ g ∈ G ++ o2.toList, g ≠ b3 := fun g hg h => hd3 (by subst h; exact List.mem_append_right _ hg)
     have hUT5 : UT mo mm Mo M G l2 o2 v2 s5 := ⟨⟨hf5.keep _ _ (by simp [Ne.symm hb3o]) f3.1.1, hf5.keep _ _ (by simp [Ne.symm hb3m]) f3.1.2⟩, f3.2.keep (KB.fw hf5 (fun g hgm hgf => by simp at hgf; exact hb3G g hgm hgf)) hf5.next⟩
     have hml4 : mm < s4.next := f2 mm _ f3.1.2
     refine .inl ⟨[.int .i64 (((0 + cq tx : Nat) : Nat) : Int), nm5, rw5], _, s5, ([mo, mm] ++ (G ++ o2.toList)) ++ G5, fun s => UT mo mm Mo M G l2 o2 v2 s ∧ MT T0 G5 tx nm5 rw5 s, inferInstance, rfl, by simp [au, hoM.1, hoM.2, eA], hcall5, hf5.mono (by simp [eI]; exact .inl rfl), ⟨hc5, trivial⟩,
      fun a b ⟨h1, h2⟩ hk hn => ⟨UT.stb a b h1 (fun g hg => hk g (List.mem_append_left _ hg)) hn, h2.keep (fun g hg => hk g (List.mem_append_right _ hg)) hn⟩, ⟨hUT5, hMT⟩, fun g hg => ?_, ?_⟩
     ·have := hf5.next
      rcases List.mem_append.1 hg with hg | hg
      ·refine ⟨?_, .inl hg⟩
       rcases List.mem_append.1 hg with hg | hg
       ·simp at hg; rcases hg with rfl | rfl <;> omega
       ·have := hblk g hg; omega
      ·exact ⟨hMT.2 g hg, .inr (hGn g hg)⟩
     refine aN fun b4 hb4 hd4 => ?_
     refine gT fun s6 g1 g2 g3' g4 => ?_
     have hoG : ∀ g ∈ G5, o2 ≠ some g := fun g hg ho2 => by
      have h1 := hblk g (by simp [ho2])
      have h2 := hGn g hg
      omega
     obtain ⟨v', s7, X, hrun, hT7, hf7, hXl, hXo⟩ := g3'.1.2.app g2 (b := b4) g4.1 hxb hxl g3'.2 hoG (by omega)
     have hX7 : s.next ≤ X ∧ X ≠ mo ∧ X ≠ mm := by
      rcases hXo with h | h
      ·exact hfr X (by simp [h])
      ·have z1 := g2 mo _ g3'.1.1.1
       have z2 := g2 mm _ g3'.1.1.2
       have z3 := g1.next
       omega
     have hfr7 : ∀ g ∈ (G ++ G5) ++ (some X).toList, s.next ≤ g ∧ g ≠ mo ∧ g ≠ mm := fun g hg => by
      simp only [List.mem_append, Option.mem_toList, Option.some.injEq] at hg
      rcases hg with (hg | hg) | hg
      ·exact hfr g (by simp [hg])
      ·have := hGn g hg; omega
      ·subst hg; exact hX7
     have hUO7 : UO mo mm Mo M s7 := ⟨hf7.keep _ _ (fun h => (hfr mo (by simp at h; simp [h])).2.1 rfl) g3'.1.1.1, hf7.keep _ _ (fun h => (hfr mm (by simp at h; simp [h])).2.2 rfl) g3'.1.1.2⟩
     refine ⟨[v'], _, s7, [mo, mm] ++ ((G ++ G5) ++ (some X).toList), UT mo mm Mo M (G ++ G5) (l2 ++ [(x, tx)]) (some X) v', inferInstance, rfl, by simp [au, hT7.one], hrun, hf7.mono (by intro g hg; simp at hg ⊢; simp [hg]), UT.stb, ⟨hUO7, hT7⟩, fun g hg => ?_, ?_⟩
     ·have hw7 := hf7.wf g2
      have z1 := hw7 mo _ hUO7.1
      have z2 := hw7 mm _ hUO7.2
      rcases List.mem_append.1 hg with hg | hg
      ·simp at hg
       rcases hg with rfl | rfl
       ·exact ⟨z1, .inl (by simp)⟩
       ·exact ⟨z2, .inl (by simp)⟩
      ·refine ⟨hT7.blk hw7 g hg, ?_⟩
       simp only [List.mem_append, Option.mem_toList, Option.some.injEq] at hg
       rcases hg with (hg | hg) | hg
       ·exact .inl (by simp [hg])
       ·exact .inl (by simp [hg])
       ·subst hg
        rcases hXo with h | h
        ·exact .inl (by simp [h])
        ·exact .inr h
     refine br (r := ((i + 1 : Nat) : Int)) rfl rfl (wI (by omega)) rfl ?_
     exact fx rfl UT.stb ⟨vs.length - (i + 1), by omega, i + 1, G ++ G5, _, some X, v', by omega, rfl, rfl, rfl, rfl, rfl, hT7.one, by simp [hl2n], hfr7, by rw [List.append_assoc]; exact hl2⟩
    ·have : i = vs.length := by omega
     subst this
     rw [List.drop_length] at hl2
     have hl2 : l2 = qq vs m := by rw [← hl2]; unfold qq; simp
     exact ak fun s1 h1 h2 h3 h4 => ⟨_, _, rfl, G, o2, v2, by rw [hsome]; rfl, by rw [hout, ← hl2]; exact h3.2, fun g hg => (hfr g hg).1, h1⟩
   ·refine .inl ⟨[.bool false], _, s2, [], T0, inferInstance, rfl, rfl, hcall, hf.mono (by simp [eI]), trivial, am, trivial, by simp, ?_⟩
    refine dR rfl rfl ?_
    refine aB (q := true) rfl (fun _ => ?_) (fun h => by cases h)
    exact ak fun s1 h1 h2 h3 h4 => no h1 (by rw [hmt, e1])
 refine aN fun b1 hb1 hd1 => ?_
 refine aN fun b2 hb2 hd2 => ?_
 refine aj (.bool (eE vs t)) (fun a b c _ _ => oZ hK (Nat.le_trans hn b.next) hR c (hG.keep b.ro) (hkk a b)) rfl rfl ?_
 refine dR rfl rfl ?_
 refine aB rfl (fun c5 => ?_) (fun c5 => ?_)
 ·have hs : ¬ eE vs t = true := by simpa using c5
  exact aK (key2 true _ _ _ ⟨fun h => (by cases h), fun h => absurd h.1 hs⟩)
 ·have hs : eE vs t = true := by simpa using c5
  refine aj (.int .i64 (if fR u = true then ((cq u : Nat) : Int) else 0)) (fun a b c _ _ => Ib hK (Nat.le_trans hn b.next) hR' c (hG.keep b.ro) (hkk a b)) rfl rfl ?_
  refine cQ rfl rfl rfl ?_
  refine aK (key2 _ _ _ _ ⟨fun h => ⟨hs, ?_⟩, fun h => decide_eq_false (by rw [if_pos h.2]; omega)⟩)
  cases hv : fR u with
  | true => rfl
  | false => rw [hv] at h; simp at h
end
end Go.AI.Lx
namespace Go.AI.Lx
open Go.Proofs Go.Proofs.YtkeaedhoaamfnaaGreatDoor
def Kg : List aA := []
def JB : Code := match Tryz.f112.body with | some c => c | none => .skip
def AT : eK := ⟨aq, Tryz.f112, Kg, [(157, ⟨[], false⟩)], [], 0⟩
def HH : ax := cT 157 [0] 1 (rT 1)
theorem Mz : bu AT 400 [] [.code JB] (aO [.atom 0] 0 .leaf id) (aR ⟨.leaf, 0⟩ []) 1 = some HH := by kernel_rfl
def Ke : List aA := []
def JA : Code := match Tryz.f157.body with | some c => c | none => .skip
def AS : eK := ⟨aq, Tryz.f157, Ke, [(247, ⟨[], false⟩), (205, ⟨[], false⟩)], [], 0⟩
def HG : ax := cT 205 [0, iV 10] 1 (rT 1)
theorem My : bu AS 400 [] [.code JA] (aO [.atom 0] 0 .leaf id) (aR ⟨.leaf, 0⟩ []) 1 = some HG := by kernel_rfl
def GT : List aA := []
def Gu : Code := match Tryz.f247.body with | some c => c | none => .skip
def xG : eK := ⟨aq, Tryz.f247, GT, [], [], 0⟩
def Et : ax := aT (.bin .lss 3 true 0 (iV 10)) 1 (.cond 1 (aT (.bin .add 3 true 0 (iV 1)) 2 (aT (.slice 9 (.str [48, 49, 50, 51, 52, 53, 54, 55, 56, 57, 97, 98, 99, 100, 101, 102, 103, 104, 105, 106, 107, 108, 109, 110, 111, 112, 113, 114, 115, 116, 117, 118, 119, 120, 121, 122]) (some 0) (some 2) none) 3 (rT 3))) (aT (.bin .mul 3 true 0 (iV 2)) 2 (aT (.bin .mul 3 true 0 (iV 2)) 3 (aT (.bin .add 3 true 3 (iV 2)) 4 (aT (.slice 9 (.str [48, 48, 48, 49, 48, 50, 48, 51, 48, 52, 48, 53, 48, 54, 48, 55, 48, 56, 48, 57, 49, 48, 49, 49, 49, 50, 49, 51, 49, 52, 49, 53, 49, 54, 49, 55, 49, 56, 49, 57, 50, 48, 50, 49, 50, 50, 50, 51, 50, 52, 50, 53, 50, 54, 50, 55, 50, 56, 50, 57, 51, 48, 51, 49, 51, 50, 51, 51, 51, 52, 51, 53, 51, 54, 51, 55, 51, 56, 51, 57, 52, 48, 52, 49, 52, 50, 52, 51, 52, 52, 52, 53, 52, 54, 52, 55, 52, 56, 52, 57, 53, 48, 53, 49, 53, 50, 53, 51, 53, 52, 53, 53, 53, 54, 53, 55, 53, 56, 53, 57, 54, 48, 54, 49, 54, 50, 54, 51, 54, 52, 54, 53, 54, 54, 54, 55, 54, 56, 54, 57, 55, 48, 55, 49, 55, 50, 55, 51, 55, 52, 55, 53, 55, 54, 55, 55, 55, 56, 55, 57, 56, 48, 56, 49, 56, 50, 56, 51, 56, 52, 56, 53, 56, 54, 56, 55, 56, 56, 56, 57, 57, 48, 57, 49, 57, 50, 57, 51, 57, 52, 57, 53, 57, 54, 57, 55, 57, 56, 57, 57]) (some 2) (some 4) none) 5 (rT 5))))))
theorem In : bu xG 400 [] [.code Gu] (aO [.atom 0] 0 .leaf id) (aR ⟨.leaf, 0⟩ []) 1 = some Et := by kernel_rfl
def ND : List aA := []
def Ns : Code := match Tryz.f205.body with | some c => c | none => .skip
def GG : eK := ⟨aq, Tryz.f205, ND, [(247, ⟨[], false⟩)], [], 0⟩
def DP : List aA := [⟨7, [(0, false), (3, true), (4, true)], []⟩]
def Dv : Code := match Tryz.f73.body with | some c => c | none => .skip
def uy : eK := ⟨aq, Tryz.f73, DP, [], [⟨6, [(0, false), (3, true)], []⟩], 0⟩
def BN : ax := aT (.bin .neq 3 true 1 (iV 0)) 3 (.cond 3 (aT (.bin .rem 3 true 1 (iV 10)) 4 (aT (.bin .sub 3 true (iV 48) 4) 5 (aT (.conv 3 21 5) 6 (aT (.conv 21 9 6) 7 (aT (.bin .add 9 false 7 2) 8 (aT (.bin .quo 3 true 1 (iV 10)) 9 (.back 0 [0, 9, 8] []))))))) (aT (.bin .lss 3 true 0 (iV 0)) 4 (.cond 4 (aT (.bin .add 9 true (.str [126]) 2) 5 (rT 5)) (rT 2))))
def qX : ax := .loop 0 3 [0, 1, s0] [] [] BN
def Bx : ax := aT (.bin .eql 3 true 0 (iV 0)) 1 (.cond 1 (rT (.str [48])) (aT (.bin .gtr 3 true 0 (iV 0)) 2 (.cond 2 (aT (.un .neg 0) 3 (.cut 2 [0, 3] [] [] qX)) (.cut 2 [0, 0] [] [] qX))))
theorem Fb : bu uy 400 [] [.code Dv] (aO [.atom 0] 0 .leaf id) (aR ⟨.leaf, 0⟩ []) 1 = some Bx := by kernel_rfl
abbrev Wx : List Nat := [48, 49, 50, 51, 52, 53, 54, 55, 56, 57, 97, 98, 99, 100, 101, 102, 103, 104, 105, 106, 107, 108, 109, 110, 111, 112, 113, 114, 115, 116, 117, 118, 119, 120, 121, 122]
abbrev VC : List Nat := [48, 48, 48, 49, 48, 50, 48, 51, 48, 52, 48, 53, 48, 54, 48, 55, 48, 56, 48, 57, 49, 48, 49, 49, 49, 50, 49, 51, 49, 52, 49, 53, 49, 54, 49, 55, 49, 56, 49, 57, 50, 48, 50, 49, 50, 50, 50, 51, 50, 52, 50, 53, 50, 54, 50, 55, 50, 56, 50, 57, 51, 48, 51, 49, 51, 50, 51, 51, 51, 52, 51, 53, 51, 54, 51, 55, 51, 56, 51, 57, 52, 48, 52, 49, 52, 50, 52, 51, 52, 52, 52, 53, 52, 54, 52, 55, 52, 56, 52, 57, 53, 48, 53, 49, 53, 50, 53, 51, 53, 52, 53, 53, 53, 54, 53, 55, 53, 56, 53, 57, 54, 48, 54, 49, 54, 50, 54, 51, 54, 52, 54, 53, 54, 54, 54, 55, 54, 56, 54, 57, 55, 48, 55, 49, 55, 50, 55, 51, 55, 52, 55, 53, 55, 54, 55, 55, 55, 56, 55, 57, 56, 48, 56, 49, 56, 50, 56, 51, 56, 52, 56, 53, 56, 54, 56, 55, 56, 56, 56, 57, 57, 48, 57, 49, 57, 50, 57, 51, 57, 52, 57, 53, 57, 54, 57, 55, 57, 56, 57, 57]
end Go.AI.Lx
