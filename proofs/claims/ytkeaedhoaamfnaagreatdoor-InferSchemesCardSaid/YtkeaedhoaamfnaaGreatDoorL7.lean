/- What the functions answer in the evaluator: part 7. No conditions beyond those of the row. -/
import Derived.Test.YtkeaedhoaamfnaaGreatDoorL6
set_option linter.unusedVariables false
set_option linter.unusedSimpArgs false
noncomputable section
namespace Go.AI.Lx
open Go.Proofs Go.Proofs.YtkeaedhoaamfnaaGreatDoor
set_option maxRecDepth 10000
section
variable {l : List Nat} {s : S} {fs p mm n0 clk : Nat} {cm : V}
abbrev XM (l : List Nat) (p : Nat) (kind : Int) (s : S) : dz → Prop := sq fun v s' => v = .agg [.int .i64 (iq ((l.drop p).take (bf l p)) kind), .int .i64 0, .str ((l.drop p).take (bf l p)), .int .i64 ((p : Nat) : Int)] ∧ Fw [fs] s s' ∧ s'.get fs = some (.cells 274 false 1 [⟨0, 0, [.str l, .int .i64 ((p : Nat) : Int), .map mm, cm]⟩])
theorem SO (kind : Int) (hb : Bytes l) (hl : l.length ≤ 24) (hp : p ≤ l.length) (hcm : cm.one = true) (hw : WF s) (hg : s.get fs = some (.cells 274 false 1 [⟨0, 0, [.str l, .int .i64 ((p : Nat) : Int), .map mm, cm]⟩])) (hmm : s.get mm = some (.map (bV bL n0) clk)) :
 Cw aq 242 [.ptr ⟨fs, 0, 0⟩, .int .i64 kind] s fun v s' => v = .agg [.int .i64 (iq ((l.drop p).take (bf l p)) kind), .int .i64 0, .str ((l.drop p).take (bf l p)), .int .i64 ((p : Nat) : Int)] ∧ Fw [] s s' := by
 have hne : mm ≠ fs := fun h => by subst h; rw [hg] at hmm; cases hmm
 have hnl := kj l p hp
 have hr1 := iT bb l p hp
 refine (ay (P := fun v s' => v = .agg [.int .i64 (iq ((l.drop p).take (bf l p)) kind), .int .i64 0, .str ((l.drop p).take (bf l p)), .int .i64 ((p : Nat) : Int)] ∧ Fw [fs] s s' ∧ s'.get fs = some (.cells 274 false 1 [⟨0, 0, [.str l, .int .i64 ((p : Nat) : Int), .map mm, cm]⟩])) (aI (C := AN) (e := ⟨[.str l, .int .i64 ((p : Nat) : Int), .map mm, cm, .int .i64 kind], [fs]⟩) (F := [fs]) (bE rfl rfl rfl) Tryz.func242 rfl (by kernel_rfl) Mt rfl ⟨rfl, by simp only [au, List.all_cons, List.all_nil, hcm]; rfl, rfl⟩ rfl hw rfl (by simp) ⟨hg, trivial⟩ am trivial (by simp) ?_)).mono fun v s' ⟨h1, h2, h3⟩ => ⟨h1, h2.strike fun B hB => by rw [hg] at hB; cases hB; exact h3⟩
 have key : ∀ (m b2 : Nat) (L : List bS), m = bf l p → ai aq [fs] s (XM (fs := fs) (mm := mm) (cm := cm) l p kind s) mw ⟨[.int .i64 kind, .int .i64 ((m : Nat) : Int), .str l, .int .i64 ((p : Nat) : Int), .map mm, cm, .int .i64 0, .int .i64 0, .str [], .int .i64 0], [fs, b2]⟩ [] T0 L := by
  rintro m b2 L rfl
  have hxb : Bytes ((l.drop p).take (bf l p)) := fun z hz => hb z (List.mem_of_mem_drop (List.mem_of_mem_take hz))
  refine gI (P := fun v s' => v = .agg [.int .i64 kind, .int .i64 0, .str ((l.drop p).take (bf l p)), .int .i64 ((p : Nat) : Int)]) (fun _ _ a _ b => Li kind hl hnl a b.1) ?_
  rintro v s1 s2 rfl _ _
  refine xS rfl rfl rfl ?_
  refine aN fun b1 hb1 hd1 => ?_
  have hlk : ∀ s1, Fw [fs] s s1 → cp Tryz.prog s1 86 (some (.map mm)) (some (.str ((l.drop p).take (bf l p)))) true = some (.tuple (if (l.drop p).take (bf l p) ∈ bL then [.int .i64 5, .bool true] else [.int .i64 0, .bool false])) := fun s1 h1 => by
   have := MV (h1.keep _ _ (by simp [hne]) hmm) hxb
   rw [this]
   by_cases h : (l.drop p).take (bf l p) ∈ bL
   ·rw [if_pos h, if_pos h, decide_eq_true h]
   ·rw [if_neg h, if_neg h, decide_eq_false h]
  by_cases hin : (l.drop p).take (bf l p) ∈ bL
  ·refine PF [.int .i64 5, .bool true] rfl rfl (fun a b _ _ _ => by have := hlk a b; rw [if_pos hin] at this; exact this) ?_
   refine aB (q := true) rfl (fun _ => ?_) (fun h => by cases h)
   exact ak fun s1 h1 h2 h3 h4 => ⟨_, _, rfl, by unfold iq; rw [if_pos hin]; rfl, h1, h4.1⟩
  ·refine PF [.int .i64 0, .bool false] rfl rfl (fun a b _ _ _ => by have := hlk a b; rw [if_neg hin] at this; exact this) ?_
   refine aB (q := false) rfl (fun h => by cases h) (fun _ => ?_)
   exact ak fun s1 h1 h2 h3 h4 => ⟨_, _, rfl, by unfold iq; rw [if_neg hin]; rfl, h1, h4.1⟩
 refine aN fun b2 hb2 hd2 => ?_
 refine aj (.int .i64 ((aV bb l (p + 0) : Nat) : Int)) (fun _ _ _ _ a => lc (MF (k := 0) (g := 245) rfl Ta hb (by omega) (by omega) a.1)) rfl rfl ?_
 refine aj (.int .u8 ((aw l (p + aV bb l (p + 0)) : Nat) : Int)) (fun _ _ _ _ a => lc (Fu hb (by omega) hp (by rw [Nat.add_zero]; omega) a.1)) rfl rfl ?_
 refine cQ rfl rfl rfl ?_
 rw [Nat.add_zero]
 refine aP rfl (fun c2 => ?_) (fun c2 => ?_)
 ·have hlt : p + aV bb l p < l.length := by
   rcases Nat.lt_or_ge (p + aV bb l p) l.length with h | h
   ·exact h
   ·exfalso
    have h0 : aw l (p + aV bb l p) = 0 := by unfold aw; rw [List.getElem?_eq_none h]; rfl
    rw [h0] at c2; omega
  have h39 : aw l (p + aV bb l p) = 39 := by omega
  refine br (r := ((aV bb l p + 1 : Nat) : Int)) rfl rfl (by rw [show ((aV bb l p : Nat) : Int) + 1 = ((aV bb l p + 1 : Nat) : Int) by omega]; exact aY _ ⟨by omega, by omega⟩) rfl ?_
  refine aj (.int .i64 ((aV bq l (p + (aV bb l p + 1)) : Nat) : Int)) (fun _ _ _ _ a => lc (MF (g := 239) rfl Tb hb (by omega) (by omega) a.1)) rfl rfl ?_
  have hd1 := iT bq l (p + (aV bb l p + 1)) (by omega)
  have hnm : bf l p = if 0 < aV bq l (p + (aV bb l p + 1)) then aV bb l p + (1 + aV bq l (p + (aV bb l p + 1))) else aV bb l p := by
   unfold bf
   rw [show p + aV bb l p + 1 = p + (aV bb l p + 1) by omega]
   by_cases h : 0 < aV bq l (p + (aV bb l p + 1))
   ·rw [if_pos ⟨h39, h⟩, if_pos h]
   ·rw [if_neg (fun hh => h hh.2), if_neg h]
  refine gp rfl rfl rfl ?_
  refine aP rfl (fun c3 => ?_) (fun c3 => ?_)
  ·refine br (r := ((1 + aV bq l (p + (aV bb l p + 1)) : Nat) : Int)) rfl rfl (by rw [show (1 : Int) + ((aV bq l (p + (aV bb l p + 1)) : Nat) : Int) = ((1 + aV bq l (p + (aV bb l p + 1)) : Nat) : Int) by omega]; exact aY _ ⟨by omega, by omega⟩) rfl ?_
   refine br (r := ((aV bb l p + (1 + aV bq l (p + (aV bb l p + 1))) : Nat) : Int)) rfl rfl (by rw [show ((aV bb l p : Nat) : Int) + ((1 + aV bq l (p + (aV bb l p + 1)) : Nat) : Int) = ((aV bb l p + (1 + aV bq l (p + (aV bb l p + 1))) : Nat) : Int) by omega]; exact aY _ ⟨by omega, by omega⟩) rfl ?_
   exact aK (key _ b2 _ (by rw [hnm, if_pos (by omega)]))
  ·exact aK (key _ b2 _ (by rw [hnm, if_neg (by omega)]))
 ·exact aK (key _ b2 _ (by unfold bf; rw [if_neg (fun h => c2 (by omega))]))
end
section
variable {l : List Nat} {s : S} {L : List bS} {w1 w2 w3 w4 cm : V} {fs b0 mm : Nat} {p : Nat}
abbrev LL (l : List Nat) (p mm : Nat) (cm : V) : bZ := .cells 274 false 1 [⟨0, 0, [.str l, .int .i64 ((p : Nat) : Int), .map mm, cm]⟩]
def WP (l : List Nat) (p : Nat) (v : V) : Prop := ∃ (a : Int) (m : Nat), 1 ≤ m ∧ p + m ≤ l.length ∧ v = .agg [.int .i64 1, .int .i64 a, .str ((l.drop p).take m), .int .i64 ((p : Nat) : Int)]
def QN (l : List Nat) (p : Nat) (s : S) : dz → Prop := RP (fun v s' => WP l p v ∧ Fw [] s s') (fun c s' => qJ c ∧ Fw [] s s')
theorem Fw.shrink {F : List Nat} {f : Nat} {B : bZ} {s s' : S} (h : Fw (f :: F) s s') (h1 : s.get f = some B) (h2 : s'.get f = some B) : Fw F s s' :=
 ⟨fun g C hg hC => by
  by_cases hgf : g = f
  ·subst hgf; rw [h1] at hC; cases hC; exact h2
  ·exact h.keep g C (by simp [hgf, hg]) hC, h.ro, h.next, h.wf⟩
theorem jq (hg : s.get fs = some (LL l p mm cm)) {a : Int} {m : Nat} {q : Bool} (hm1 : 1 ≤ m) (hm : p + m ≤ l.length) : ai aq [fs] s (QN l p s) jD ⟨[.str ((l.drop p).take m), .int .i64 a, .bool q, .str l, .int .i64 ((p : Nat) : Int), .map mm, cm, w1, w2, w3, w4], [fs, b0]⟩ [] T0 L := by
 refine aB rfl (fun c1 => ?_) (fun c1 => ?_)
 ·exact SS fun s1 h1 h2 h3 h4 => .inr ⟨_, _, rfl, ⟨_, _, by decide, rfl⟩, Fw.shrink h1 hg h4.1⟩
 ·exact ak fun s1 h1 h2 h3 h4 => .inl ⟨_, _, rfl, ⟨a, m, hm1, hm, rfl⟩, Fw.shrink h1 hg h4.1⟩
theorem nl (hb : Bytes l) (hl : l.length ≤ 24) (hG : cd s) (hg : s.get fs = some (LL l p mm cm)) {k : Nat} (hk : p + k ≤ l.length) (hk1 : k = 1 ∨ k = 0 ∧ 1 ≤ aV bq l p) : ai aq [fs] s (QN l p s) mt ⟨[.int .i64 ((k : Nat) : Int), .str l, .int .i64 ((p : Nat) : Int), .map mm, cm, w1, w2, w3, w4], [fs, b0]⟩ [] T0 L := by
 have hle := iT bq l (p + k) hk
 refine aj (.int .i64 ((aV bq l (p + k) : Nat) : Int)) (fun _ _ _ _ a => lc (MF (g := 239) (q := bq) rfl Tb hb (by omega) hk a.1)) rfl rfl ?_
 refine br (r := ((k + aV bq l (p + k) : Nat) : Int)) rfl rfl (by rw [show ((k : Nat) : Int) + ((aV bq l (p + k) : Nat) : Int) = ((k + aV bq l (p + k) : Nat) : Int) by omega]; exact aY _ ⟨by omega, by omega⟩) rfl ?_
 refine aj (.int .u8 ((aw l (p + (k + aV bq l (p + k))) : Nat) : Int)) (fun _ _ _ _ a => lc (Fu hb (by omega) (by omega) (by omega) a.1)) rfl rfl ?_
 refine br (r := ((p + k : Nat) : Int)) rfl rfl (by rw [show ((p : Nat) : Int) + ((k : Nat) : Int) = ((p + k : Nat) : Int) by omega]; exact aY _ ⟨by omega, by omega⟩) rfl ?_
 refine br (r := ((p + k + aV bq l (p + k) : Nat) : Int)) rfl rfl (by rw [show ((p + k : Nat) : Int) + ((aV bq l (p + k) : Nat) : Int) = ((p + k + aV bq l (p + k) : Nat) : Int) by omega]; exact aY _ ⟨by omega, by omega⟩) rfl ?_
 refine lP (n := p) (m := p + k + aV bq l (p + k)) Tryz.underlying9 rfl rfl rfl (by omega) (by omega) rfl ?_
 have hx : p + k + aV bq l (p + k) - p = k + aV bq l (p + k) := by omega
 rw [hx]
 have hm1 : 1 ≤ k + aV bq l (p + k) := by
  rcases hk1 with rfl | ⟨rfl, h⟩
  ·omega
  ·rw [Nat.add_zero]; omega
 have hm2 : p + (k + aV bq l (p + k)) ≤ l.length := by omega
 refine gI (fun _ a _ _ _ => lc (Xo (hG.keep a.ro) (by rw [List.length_take, List.length_drop]; omega))) ?_
 rintro _ s1 s2 ⟨a, e, rfl⟩ - -
 refine DC [.int .i64 a, .int .i64 e] rfl rfl rfl ?_
 refine iv rfl rfl rfl ?_
 refine aP rfl (fun c2 => ?_) (fun c2 => ?_)
 ·exact aK (jq hg hm1 hm2)
 ·refine aj (.bool (bb (aw l (p + (k + aV bq l (p + k)))))) (fun a _ _ _ _ => jB rfl (kh hb _) a) rfl rfl ?_
  refine aB rfl (fun c3 => ?_) (fun c3 => ?_)
  ·exact aK (jq hg hm1 hm2)
  ·refine cQ rfl rfl rfl ?_
   exact aK (jq hg hm1 hm2)
theorem Pg (hb : Bytes l) (hl : l.length ≤ 24) (hp : p < l.length) (hn : cN l p) (hcm : cm.one = true) (hw : WF s) (hG : cd s) (hg : s.get fs = some (LL l p mm cm)) : Co aq 240 [.ptr ⟨fs, 0, 0⟩] s (QN l p s) := by
 refine aI (C := uu) (e := ⟨[.str l, .int .i64 ((p : Nat) : Int), .map mm, cm], [fs]⟩) (F := [fs]) rfl Tryz.func240 rfl (by kernel_rfl) EV rfl ⟨rfl, ?_, rfl⟩ rfl hw rfl (by simp) ⟨hg, trivial⟩ am trivial (by simp) ?_
 ·simp only [au, List.all_cons, List.all_nil, hcm]; rfl
 refine aN fun b1 hb1 hd1 => ?_
 refine aj (.int .u8 ((aw l (p + 0) : Nat) : Int)) (fun _ _ _ _ a => lc (Fu (k := 0) hb (by omega) (by omega) (by omega) a.1)) rfl rfl ?_
 refine cQ rfl rfl rfl ?_
 refine aP rfl (fun c4 => ?_) (fun c4 => ?_)
 ·exact aK (nl (k := 1) hb hl hG hg (by omega) (.inl rfl))
 ·refine aK (nl (k := 0) hb hl hG hg (by omega) (.inr ⟨rfl, ?_⟩))
  rcases hn with hn | hn
  ·exact wn hp hn
  ·exact absurd hn (by rw [Nat.add_zero] at c4; omega)
def sx (l : List Nat) (p : Nat) : Option (Int × Nat) :=
 if cA (aw l p) = true then some (iq ((l.drop p).take (bf l p)) 2, bf l p)
 else if eU (aw l p) = true then some (iq ((l.drop p).take (bf l p)) 3, bf l p)
 else if aw l p = 39 ∧ cA (aw l (p + 1)) = true then some (4, 1 + aV bb l (p + 1))
 else if gG (l.drop p) [61, 62] = true ∨ gG (l.drop p) [45, 62] = true then some (6, 2)
 else if aw l p ∈ kH then some (6, 1) else none
def Xz (l : List Nat) (p : Nat) (v : V) : Prop := ∃ (k a : Int) (m : Nat), 1 ≤ m ∧ p + m ≤ l.length ∧ v = .agg [.int .i64 k, .int .i64 a, .str ((l.drop p).take m), .int .i64 ((p : Nat) : Int)] ∧ (cN l p → k = 1) ∧ (¬ cN l p → sx l p = some (k, m))
def QT (l : List Nat) (p : Nat) (s : S) : dz → Prop := RP (fun v s' => Xz l p v ∧ Fw [] s s') (fun c s' => (qJ c ∧ (¬ cN l p → sx l p = none)) ∧ Fw [] s s')
theorem FN {c : Nat} (hc : c < 256) : ∀ (q : List Nat) (i : Nat), (∀ z ∈ q, z < 256) → ((∃ j : Nat, cv c q i = some j) ↔ c ∈ q)
 | [], i, _ => by simp [cv]
 | x :: r, i, h => by
  have hx : x % 256 = x := Nat.mod_eq_of_lt (h x (by simp))
  have ih := FN hc r (i + 1) (fun z hz => h z (List.mem_cons_of_mem _ hz))
  simp only [cv]
  rw [show Nat.mod x 256 = x from hx]
  cases hb : Nat.beq x c with
  | true => have := Nat.eq_of_beq_eq_true hb; subst this; simp
  | false =>
   have hn : c ≠ x := fun h => by subst h; rw [Nat.beq_refl] at hb; cases hb
   simp only [cond_false, ih, List.mem_cons, hn, false_or]
theorem Wi {q : List Nat} {c : Nat} (hc : c < 256) {s : S} (hw : WF s) : Cw aq 273 [.str q, .int .u8 ((c : Nat) : Int)] s fun v s' => v = (match cv c q 0 with | some i => .int .i64 (.ofNat i) | none => .int .i64 (-1)) ∧ Fw [] s s' := by
 refine ay (aI (C := sd) (e := ⟨[.str q, .int .u8 ((c : Nat) : Int)], []⟩) (F := []) rfl Tryz.func273 rfl (by kernel_rfl) Cg rfl ⟨rfl, rfl, rfl⟩ rfl hw rfl (by simp) trivial am trivial (by simp) ?_)
 refine ao (match cv c q 0 with | some i => .int .i64 (.ofNat i) | none => .int .i64 (-1)) (by split <;> rfl) (fun s1 h1 h2 h3 h4 => ?_) rfl ?_
 ·show gE .indexByte [.str q, .int .u8 (.ofNat c)] = _
  simp only [gE]
  rw [show Nat.mod c 256 = c from Nat.mod_eq_of_lt hc]
  cases cv c q 0 <;> rfl
 ·exact ak fun s1 h1 h2 h3 h4 => ⟨_, _, rfl, rfl, h1⟩
theorem Xr {q : List Nat} {c : Nat} (hc : c < 256) {s : S} (hw : WF s) : Cw aq 246 [.str q, .int .u8 ((c : Nat) : Int)] s fun v s' => v = (match cv c q 0 with | some i => .int .i64 (.ofNat i) | none => .int .i64 (-1)) ∧ Fw [] s s' := by
 refine ay (aI (C := ux) (e := ⟨[.str q, .int .u8 ((c : Nat) : Int)], []⟩) (F := []) rfl Tryz.func246 rfl (by kernel_rfl) EZ rfl ⟨rfl, rfl, rfl⟩ rfl hw rfl (by simp) trivial am trivial (by simp) ?_)
 refine aj (match cv c q 0 with | some i => .int .i64 (.ofNat i) | none => .int .i64 (-1)) (fun _ _ a _ _ => Wi hc a) (by split <;> rfl) rfl ?_
 exact ak fun s1 h1 h2 h3 h4 => ⟨_, _, rfl, rfl, h1⟩
theorem Wh {q : List Nat} (hq : ∀ z ∈ q, z < 256) {c : Nat} (hc : c < 256) {s : S} (hw : WF s) : Cw aq 246 [.str q, .int .u8 ((c : Nat) : Int)] s fun v s' => (∃ i : Int, v = .int .i64 i ∧ (i ≥ 0 ↔ c ∈ q)) ∧ Fw [] s s' := by
 refine (Xr hc hw).mono fun v s' ⟨h1, h2⟩ => ⟨?_, h2⟩
 have h3 := FN hc q 0 hq
 cases h : cv c q 0 with
 | none => rw [h] at h1 h3; exact ⟨-1, h1, ⟨fun h => by omega, fun hm => by obtain ⟨j, hj⟩ := h3.2 hm; cases hj⟩⟩
 | some i => rw [h] at h1 h3; exact ⟨.ofNat i, h1, ⟨fun _ => h3.1 ⟨i, rfl⟩, fun _ => Int.natCast_nonneg i⟩⟩
theorem zJ {s1 : S} {k a : Int} {m : Nat} (hg : s.get fs = some (LL l p mm cm)) (h1 : Fw [fs] s s1) (h2 : s1.get fs = some (LL l p mm cm)) (hm1 : 1 ≤ m) (hm : p + m ≤ l.length) (hn : cN l p → k = 1) (ht : ¬ cN l p → sx l p = some (k, m)) :
 QT l p s ⟨.returned (.agg [.int .i64 k, .int .i64 a, .str ((l.drop p).take m), .int .i64 ((p : Nat) : Int)]), none, s1⟩ := .inl ⟨_, _, rfl, ⟨k, a, m, hm1, hm, rfl, hn, ht⟩, Fw.shrink h1 hg h2⟩
theorem nM (hb : Bytes l) (hl : l.length ≤ 24) (hp : p < l.length) (hg : s.get fs = some (LL l p mm cm)) (hn : ¬ cN l p)
 (h1 : ¬ cA (aw l p) = true) (h2 : ¬ eU (aw l p) = true) (h3 : ¬ (aw l p = 39 ∧ cA (aw l (p + 1)) = true)) {q : Bool} (hq : q = true ↔ (gG (l.drop p) [61, 62] = true ∨ gG (l.drop p) [45, 62] = true)) :
 ai aq [fs] s (QT l p s) nN ⟨[.int .u8 ((aw l p : Nat) : Int), .bool q, .str l, .int .i64 ((p : Nat) : Int), .map mm, cm, w1, w2, w3, w4], [fs, b0]⟩ [] T0 L := by
 refine aB rfl (fun c1 => ?_) (fun c1 => ?_)
 ·have hs := hq.1 c1
  have hp2 : p + 2 ≤ l.length := hs.elim Fp Fp
  refine gI (fun s1 k1 k2 k3 k4 => Li (n := 2) 6 hl hp2 k2 k4.1) ?_
  rintro _ s1 s2 rfl - -
  refine xS rfl rfl rfl ?_
  exact ak fun s1 k1 k2 k3 k4 => zJ hg k1 k4.1 (by omega) hp2 (fun h => absurd h hn) (fun _ => by unfold sx; rw [if_neg h1, if_neg h2, if_neg h3, if_pos hs])
 ·have hs : ¬ (gG (l.drop p) [61, 62] = true ∨ gG (l.drop p) [45, 62] = true) := fun h => by have := hq.2 h; rw [c1] at this; cases this
  refine gI (fun s1 k1 k2 k3 k4 => Wh EO (kh hb p) k2) ?_
  rintro _ s1 s2 ⟨i, rfl, hi⟩ - -
  refine LH rfl rfl ?_
  refine xa rfl rfl rfl ?_
  refine aP rfl (fun c2 => ?_) (fun c2 => ?_)
  ·refine gI (fun s1 k1 k2 k3 k4 => Li (n := 1) 6 hl (by omega) k2 k4.1) ?_
   rintro _ s1 s2 rfl - -
   refine xS rfl rfl rfl ?_
   exact ak fun s1 k1 k2 k3 k4 => zJ hg k1 k4.1 (by omega) (by omega) (fun h => absurd h hn) (fun _ => by unfold sx; rw [if_neg h1, if_neg h2, if_neg h3, if_neg hs, if_pos (hi.1 c2)])
  ·exact SS fun s1 k1 k2 k3 k4 => .inr ⟨_, _, rfl, ⟨⟨_, _, by decide, rfl⟩, fun _ => by unfold sx; rw [if_neg h1, if_neg h2, if_neg h3, if_neg hs, if_neg (fun h => c2 (hi.2 h))]⟩, Fw.shrink k1 hg k4.1⟩
theorem nK (hb : Bytes l) (hl : l.length ≤ 24) (hp : p < l.length) (hg : s.get fs = some (LL l p mm cm)) (hn : ¬ cN l p)
 (h1 : ¬ cA (aw l p) = true) (h2 : ¬ eU (aw l p) = true) {q : Bool} (hq : q = true ↔ (aw l p = 39 ∧ cA (aw l (p + 1)) = true)) :
 ai aq [fs] s (QT l p s) nL ⟨[.int .u8 ((aw l p : Nat) : Int), .bool q, .str l, .int .i64 ((p : Nat) : Int), .map mm, cm, w1, w2, w3, w4], [fs, b0]⟩ [] T0 L := by
 refine aB rfl (fun c3 => ?_) (fun c3 => ?_)
 ·have hs := hq.1 c3
  have hle := iT bb l (p + 1) (by omega)
  refine aj (.int .i64 ((aV bb l (p + 1) : Nat) : Int)) (fun s1 k1 k2 k3 k4 => lc (MF (k := 1) (g := 245) (q := bb) rfl Ta hb (by omega) (by omega) k4.1)) rfl rfl ?_
  refine br (r := ((1 + aV bb l (p + 1) : Nat) : Int)) rfl rfl (by rw [show (1 : Int) + ((aV bb l (p + 1) : Nat) : Int) = ((1 + aV bb l (p + 1) : Nat) : Int) by omega]; exact aY _ ⟨by omega, by omega⟩) rfl ?_
  refine gI (fun s1 k1 k2 k3 k4 => Li (n := 1 + aV bb l (p + 1)) 4 hl (by omega) k2 k4.1) ?_
  rintro _ s1 s2 rfl - -
  refine xS rfl rfl rfl ?_
  exact ak fun s1 k1 k2 k3 k4 => zJ hg k1 k4.1 (by omega) (by omega) (fun h => absurd h hn) (fun _ => by unfold sx; rw [if_neg h1, if_neg h2, if_pos hs])
 ·have hs : ¬ (aw l p = 39 ∧ cA (aw l (p + 1)) = true) := fun h => by have := hq.2 h; rw [c3] at this; cases this
  refine aj (.bool (gG (l.drop p) [61, 62])) (fun s1 k1 k2 k3 k4 => lc (jE hb (by omega) (by omega) [61, 62] (fun z hz => by simp at hz; omega) k4.1)) rfl rfl ?_
  refine aB rfl (fun c4 => ?_) (fun c4 => ?_)
  ·exact aK (nM hb hl hp hg hn h1 h2 hs ⟨fun _ => .inl c4, fun _ => rfl⟩)
  ·refine aj (.bool (gG (l.drop p) [45, 62])) (fun s1 k1 k2 k3 k4 => lc (jE hb (by omega) (by omega) [45, 62] (fun z hz => by simp at hz; omega) k4.1)) rfl rfl ?_
   exact aK (nM hb hl hp hg hn h1 h2 hs ⟨.inr, fun h => h.elim (fun h => by rw [c4] at h; cases h) id⟩)
theorem ua {l : List Nat} {p : Nat} (hp : p < l.length) (h : cA (aw l p) = true ∨ eU (aw l p) = true) : 1 ≤ bf l p := by
 have h1 : bb (aw l p) = true := by
  simp only [Go.Proofs.YtkeaedhoaamfnaaGreatDoor.part, Go.Proofs.YtkeaedhoaamfnaaGreatDoor.small, Go.Proofs.YtkeaedhoaamfnaaGreatDoor.great] at h ⊢
  rcases h with h | h <;> simp_all
 have h2 := wn hp h1
 unfold bf
 split <;> omega
theorem nI (hb : Bytes l) (hl : l.length ≤ 24) (hp : p < l.length) (hcm : cm.one = true) (hG : cd s) (hg : s.get fs = some (LL l p mm cm)) {n0 clk : Nat} (hmm : s.get mm = some (.map (bV bL n0) clk)) (hne : mm ≠ fs) {q : Bool} (hq : q = true ↔ cN l p) :
 ai aq [fs] s (QT l p s) nJ ⟨[.int .u8 ((aw l p : Nat) : Int), .bool q, .str l, .int .i64 ((p : Nat) : Int), .map mm, cm, w1, w2, w3, w4], [fs, b0]⟩ [] T0 L := by
 have hnl := kj l p (by omega)
 refine aB rfl (fun c5 => ?_) (fun c5 => ?_)
 ·have hn := hq.1 c5
  refine RJ (P := fun w _ => WP l p w) (N := fun c _ => qJ c) (fun s1 k1 k2 k3 k4 => Pg hb hl hp hn hcm k2 (hG.keep k1.ro) k4.1) ?_ ?_
  ·intro c s1 s2 hc k1 k2 k3
   exact .inr ⟨_, _, rfl, ⟨hc, fun h => absurd hn h⟩, (Fw.shrink k1 hg k2.1).trans k3⟩
  ·rintro _ s1 s2 ⟨a, m, hm1, hm2, rfl⟩ - -
   refine xS rfl rfl rfl ?_
   exact ak fun s1 k1 k2 k3 k4 => zJ hg k1 k4.1 hm1 hm2 (fun _ => rfl) (fun h => absurd hn h)
 ·have hn : ¬ cN l p := fun h => by have := hq.2 h; rw [c5] at this; cases this
  have hkm : ∀ s1, Fw [fs] s s1 → s1.get mm = some (.map (bV bL n0) clk) := fun s1 k1 => k1.keep mm _ (by simpa using hne) hmm
  refine aj (.bool (cA (aw l p))) (fun s1 k1 k2 k3 k4 => jB rfl (kh hb p) s1) rfl rfl ?_
  refine aB rfl (fun c6 => ?_) (fun c6 => ?_)
  ·refine gI (fun s1 k1 k2 k3 k4 => SO 2 hb hl (by omega) hcm k2 k4.1 (hkm s1 k1)) ?_
   rintro _ s1 s2 rfl - -
   refine xS rfl rfl rfl ?_
   exact ak fun s1 k1 k2 k3 k4 => zJ hg k1 k4.1 (ua hp (.inl c6)) hnl (fun h => absurd h hn) (fun _ => by unfold sx; rw [if_pos c6])
  ·have c6' : ¬ cA (aw l p) = true := by rw [c6]; decide
   refine aj (.bool (eU (aw l p))) (fun s1 k1 k2 k3 k4 => jB rfl (kh hb p) s1) rfl rfl ?_
   refine aB rfl (fun c7 => ?_) (fun c7 => ?_)
   ·refine gI (fun s1 k1 k2 k3 k4 => SO 3 hb hl (by omega) hcm k2 k4.1 (hkm s1 k1)) ?_
    rintro _ s1 s2 rfl - -
    refine xS rfl rfl rfl ?_
    exact ak fun s1 k1 k2 k3 k4 => zJ hg k1 k4.1 (ua hp (.inr c7)) hnl (fun h => absurd h hn) (fun _ => by unfold sx; rw [if_neg c6', if_pos c7])
   ·have c7' : ¬ eU (aw l p) = true := by rw [c7]; decide
    refine cQ rfl rfl rfl ?_
    refine aP rfl (fun c8 => ?_) (fun c8 => ?_)
    ·have h39 : aw l p = 39 := by omega
     refine aj (.int .u8 ((aw l (p + 1) : Nat) : Int)) (fun s1 k1 k2 k3 k4 => lc (Fu (k := 1) hb (by omega) (by omega) (by omega) k4.1)) rfl rfl ?_
     refine aj (.bool (cA (aw l (p + 1)))) (fun s1 k1 k2 k3 k4 => jB rfl (kh hb _) s1) rfl rfl ?_
     exact aK (nK hb hl hp hg hn c6' c7' ⟨fun h => ⟨h39, h⟩, fun h => h.2⟩)
    ·exact aK (nK hb hl hp hg hn c6' c7' ⟨fun h => (by cases h), fun h => absurd h.1 (by omega)⟩)
theorem Rg (hb : Bytes l) (hl : l.length ≤ 24) (hp : p < l.length) (hcm : cm.one = true) (hw : WF s) (hG : cd s) (hg : s.get fs = some (LL l p mm cm)) {n0 clk : Nat} (hmm : s.get mm = some (.map (bV bL n0) clk)) (hne : mm ≠ fs) : Co aq 204 [.ptr ⟨fs, 0, 0⟩] s (QT l p s) := by
 refine aI (C := xF) (e := ⟨[.str l, .int .i64 ((p : Nat) : Int), .map mm, cm], [fs]⟩) (F := [fs]) rfl Tryz.func204 rfl (by kernel_rfl) Im rfl ⟨rfl, ?_, rfl⟩ rfl hw rfl (by simp) ⟨hg, trivial⟩ am trivial (by simp) ?_
 ·simp only [au, List.all_cons, List.all_nil, hcm]; rfl
 refine aN fun b1 hb1 hd1 => ?_
 refine aj (.int .u8 ((aw l (p + 0) : Nat) : Int)) (fun _ _ _ _ a => lc (Fu (k := 0) hb (by omega) (by omega) (by omega) a.1)) rfl rfl ?_
 rw [Nat.add_zero]
 refine aj (.bool (bq (aw l p))) (fun s1 k1 k2 k3 k4 => jB rfl (kh hb p) s1) rfl rfl ?_
 refine aB rfl (fun c9 => ?_) (fun c9 => ?_)
 ·exact aK (nI hb hl hp hcm hG hg hmm hne ⟨fun _ => .inl c9, fun _ => rfl⟩)
 ·refine cQ rfl rfl rfl ?_
  exact aK (nI hb hl hp hcm hG hg hmm hne ⟨fun h => .inr (by have := of_decide_eq_true h; omega), fun h => decide_eq_true (h.elim (fun h => by rw [c9] at h; cases h) (fun h => by omega))⟩)
end
end Go.AI.Lx
namespace Go.AI.Lx
open Go.Proofs Go.Proofs.YtkeaedhoaamfnaaGreatDoor
def JR : List aA := [⟨1, [(0, false), (1, false)], []⟩]
def Jm : Code := match Tryz.f202.body with | some c => c | none => .skip
def AE : eK := ⟨aq, Tryz.f202, JR, [(203, ⟨[(0, [1, 3])], true⟩), (204, ⟨[], true⟩)], [], 2⟩
def Ht : ax := .call 203 [.ptr ⟨1, 0, 0⟩] [(1, cB 274 [1, 2, 3, 4])] [(1, cB 274 [1, 5, 3, 6])] 2 (.tuple []) true (.loop 0 5 [0, 1, 5, 3, 6] [0, 1] [cB 170 [.ptr ⟨1, 0, 0⟩], cB 274 [1, 2, 3, 4]] (aF (.bif .len #[9] [1]) 5 (aF (.bin .lss 3 false 2 5) 6 (.cond 6 (.call 204 [.ptr ⟨1, 0, 0⟩] [(1, cB 274 [1, 2, 3, 4])] [] 4 (.agg [7, 8, 9, 10]) true (.new (aF (.bif .len #[9] [9]) 11 (aF (.bin .add 3 false 2 11) 12 (.calla 0 [.agg [7, 8, 9, 10]] [] 1 13 (aT (.un .not 13) 14 (.cond 14 (.ret (.tuple []) [(0, cB 170 [.ptr ⟨1, 0, 0⟩]), (1, cB 274 [1, 12, 3, 4])]) (.call 203 [.ptr ⟨1, 0, 0⟩] [(1, cB 274 [1, 12, 3, 4])] [(1, cB 274 [1, 15, 3, 16])] 2 (.tuple []) true (.back 0 [0, 1, 15, 3, 16] [0, 1]))))))))) (.ret (.tuple []) [(0, cB 170 [.ptr ⟨1, 0, 0⟩]), (1, cB 274 [1, 2, 3, 4])])))))
theorem Mj : bu AE 400 [] [.code Jm] (aO [.atom 0, .ptr ⟨0, 0, 0⟩] 0 .leaf id) (aR ⟨.leaf, 0⟩ [.cells 170 false 1 [⟨0, 0, [.ptr ⟨1, 0, 0⟩]⟩], .cells 274 false 1 [⟨0, 0, [.atom 1, .atom 2, .atom 3, .atom 4]⟩]]) 5 = some Ht := by kernel_rfl
end Go.AI.Lx
namespace Go.AI
theorem Fw.andThen {F W : List Nat} {s0 s s' : S} (h0 : WF s0) (h : Fw F s0 s) (k : Fw W s s') (hW : ∀ g ∈ W, s0.next ≤ g ∨ g ∈ F) : Fw F s0 s' :=
 ⟨fun g B hg hB => k.keep g B (fun hgW => by
  rcases hW g hgW with h1 | h1
  ·have := h0 g B hB; omega
  ·exact hg h1) (h.keep g B hg hB), fun g vs hb => k.ro g vs (h.ro g vs hb), Nat.le_trans h.next k.next, fun hw => k.wf (h.wf hw)⟩
end Go.AI
namespace Go.AI.Lx
open Go.Proofs Go.Proofs.YtkeaedhoaamfnaaGreatDoor
set_option maxRecDepth 10000
structure XF (lb : Nat) (I : Nat → List V → List Nat → S → Prop) : Prop where
 st : ∀ n c D, kz D (I n c D)
 go : ∀ n c D s tok, I n c D s → WF s → au tok → tok.length = 4 → n ≤ 24 → (∀ g ∈ D, g < s.next) → ∃ s' D' u, lim aq (.round lb [.agg tok]) s = some ⟨.returned (.bool true), u, s'⟩ ∧ Fw D s s' ∧ I (n + 1) (if n = 0 then tok else c) D' s' ∧ (∀ g ∈ D', g < s'.next ∧ (g ∈ D ∨ s.next ≤ g))
def WU (l : List Nat) (k a : Int) (m p0 : Nat) : Prop := 1 ≤ m ∧ (cN l p0 → k = 1) ∧ (¬ cN l p0 → sx l p0 = some (k, m)) ∧ (p0 = 0 ↔ plainAt l 0)
def WO (l : List Nat) (q n : Nat) (c : List V) : Prop :=
 (n = 0 ∧ (q = 0 ↔ plainAt l 0)) ∨ (∃ (k a : Int) (m p0 : Nat), c = [.int .i64 k, .int .i64 a, .str ((l.drop p0).take m), .int .i64 ((p0 : Nat) : Int)] ∧ WU l k a m p0 ∧ 1 ≤ n ∧ p0 + m + (n - 1) ≤ q ∧ q ≤ l.length)
section
variable {I : Nat → List V → List Nat → S → Prop} {l : List Nat} {s : S} {fs vb mm lb : Nat}
def UU (I : Nat → List V → List Nat → S → Prop) (n : Nat) (c : List V) (DY : List Nat) (cm : V) (n' : Nat) (cs : List V) (o : Option Nat) (s : S) : Prop := I n c DY s ∧ gQ 295 2 s cm n' cs o ∧ ∀ g ∈ DY ++ o.toList, g < s.next
theorem UU.stb {n n' : Nat} {c cs : List V} {DY : List Nat} {cm : V} {o : Option Nat} (h : ∀ n c D, kz D (I n c D)) : kz (DY ++ o.toList) (UU I n c DY cm n' cs o) := fun s s' ⟨h1, h2, h3⟩ hk hn =>
 ⟨h n c DY s s' h1 (fun g hg B hB => hk g (by simp [hg]) B hB) hn, h2.keep (fun X B hX hB => hk X (by simp [hX]) B hB), fun g hg => Nat.lt_of_lt_of_le (h3 g hg) hn⟩
theorem SN (hb : Bytes l) (hl : l.length ≤ 24) (hI : ∀ n c D, kz D (I n c D)) {q n n' : Nat} {c cs : List V} {DY : List Nat} {cm : V} {o : Option Nat} {s1 : S} (hq : q ≤ l.length) (hw : WF s1) (hu : UU I n c DY cm n' cs o s1) (hg : s1.get fs = some (LL l q mm cm)) (hn : n' ≤ q)
 (hX : ∀ X, o = some X → X ≠ fs ∧ X ∉ DY) (hf : fs ∉ DY) :
 (∃ q' cm' n2 cs2 o2 s', lim aq (.call 203 [.ptr ⟨fs, 0, 0⟩] none) s1 = some ⟨.returned (.tuple []), none, s'⟩ ∧ q ≤ q' ∧ q' ≤ l.length ∧ (q' = q ↔ plainAt l q) ∧ n2 ≤ q' ∧ s'.get fs = some (LL l q' mm cm') ∧ Fw ([fs] ++ (DY ++ o.toList)) s1 s' ∧
  UU I n c DY cm' n2 cs2 o2 s' ∧ (∀ g ∈ DY ++ o2.toList, g < s'.next ∧ (g ∈ DY ++ o.toList ∨ s1.next ≤ g)) ∧ (∀ X, o2 = some X → X ≠ fs ∧ X ∉ DY) ∧ cm'.one = true) ∨
 (∃ c' s', lim aq (.call 203 [.ptr ⟨fs, 0, 0⟩] none) s1 = some ⟨.panicked c', none, s'⟩ ∧ qJ c' ∧ ¬ plainAt l q ∧ I n c DY s' ∧ Fw ([fs] ++ (DY ++ o.toList)) s1 s') := by
 obtain ⟨h1, h2, h3⟩ := hu
 have hsub : ∀ g ∈ fs :: o.toList, g ∈ [fs] ++ (DY ++ o.toList) := fun g hg => by
  simp only [List.mem_cons, List.mem_append] at hg ⊢
  rcases hg with rfl | hg
  ·simp
  ·simp [hg]
 have hkeep : ∀ s', Fw (fs :: o.toList) s1 s' → I n c DY s' := fun s' hfw => hI n c DY s1 s' h1 (fun g hgD B hB => hfw.keep g B (by
  intro hm
  simp only [List.mem_cons] at hm
  rcases hm with rfl | hm
  ·exact hf hgD
  ·cases o with
   | none => simp at hm
   | some X => simp at hm; subst hm; exact (hX g rfl).2 hgD) hB) hfw.next
 obtain ⟨out, hco, hout⟩ := VL hb hl hq hw hg h2 hn (fun X hx => (hX X hx).1)
 rcases hout with ⟨v, s', rfl, rfl, q', cm', n2, cs2, o2, k1, k2, k3, k4, k5, k6, k7, k8⟩ | ⟨c', s', rfl, ⟨k1, k2⟩, k3⟩
 ·have hnx := k8.next
  have hw' := k8.wf hw
  refine .inl ⟨q', cm', n2, cs2, o2, s', hco, k1, k2, k3, k4, k5, k8.mono hsub, ⟨hkeep s' k8, k6, ?_⟩, ?_, ?_, k6.one⟩
  ·intro g hg'
   simp only [List.mem_append] at hg'
   rcases hg' with hg' | hg'
   ·exact Nat.lt_of_lt_of_le (h3 g (by simp [hg'])) hnx
   ·cases o2 with
    | none => simp at hg'
    | some X => simp at hg'; subst hg'; exact k6.lt hw'
  ·intro g hg'
   simp only [List.mem_append] at hg'
   rcases hg' with hg' | hg'
   ·exact ⟨Nat.lt_of_lt_of_le (h3 g (by simp [hg'])) hnx, .inl (by simp [hg'])⟩
   ·cases o2 with
    | none => simp at hg'
    | some X =>
     simp at hg'; subst hg'
     refine ⟨k6.lt hw', ?_⟩
     rcases (k7 g rfl).2 with h | h
     ·exact .inr h
     ·exact .inl (by simp [h])
  ·intro X hx
   refine ⟨(k7 X hx).1, fun hD => ?_⟩
   rcases (k7 X hx).2 with h | h
   ·have := h3 X (by simp [hD]); omega
   ·exact (hX X h).2 hD
 ·exact .inr ⟨c', s', hco, k1, k2, hkeep s' k3, k3.mono hsub⟩
theorem MH {l : List Nat} : plainAt l l.length := ⟨lJ _ (Nat.le_refl _), by simp [gG]⟩
theorem Qk {q : Nat → Bool} (h : (List.range 256).all q = true) {c : Nat} (hc : c < 256) : q c = true := List.all_eq_true.1 h c (List.mem_range.2 hc)
theorem EN {c : Nat} (hc : c < 256) (h : cA c = true) : eU c = false := by
 have := Qk (q := fun c => !(cA c && eU c)) (by kernel_rfl) hc
 simp only [h, Bool.true_and, Bool.not_eq_true'] at this
 exact this
theorem tN : cA 39 = false := by kernel_rfl
theorem tO : eU 39 = false := by kernel_rfl
theorem Eh : bL.all (fun w => cA (aw w 0)) = true := by kernel_rfl
theorem zN {n : Nat} (h : 1 ≤ n) : aw (l.take n) 0 = aw l 0 := by
 unfold aw
 rw [List.getElem?_take, if_pos (by omega)]
theorem BC (hb : Bytes l) (hl : l.length ≤ 24) : sx l 0 = li l := by
 have hp := kh hb 0
 have hne := kj l 0 (Nat.zero_le _)
 have hru := iT bb l 1
 unfold sx li
 simp only [List.drop_zero, Nat.zero_add]
 by_cases h1 : cA (aw l 0) = true
 ·have h39 : aw l 0 ≠ 39 := fun h => by rw [h, tN] at h1; cases h1
  have hg := EN hp h1
  rw [if_pos h1, if_neg (fun h => h39 h.1), if_pos (.inl h1), if_neg (by omega), hg]
  simp [iq]
 ·by_cases h2 : eU (aw l 0) = true
  ·have h39 : aw l 0 ≠ 39 := fun h => by rw [h, tO] at h2; cases h2
   have hw : l.take (bf l 0) ∉ bL := fun h => by
    have h3 := List.all_eq_true.1 Eh _ h
    by_cases h0 : 1 ≤ bf l 0
    ·simp only [zN h0] at h3; exact h1 h3
    ·rw [show bf l 0 = 0 by omega] at h3
     have h5 : cA (aw [] 0) = false := by kernel_rfl
     rw [List.take_zero, h5] at h3; cases h3
   rw [if_neg h1, if_pos h2, if_neg (fun h => h39 h.1), if_pos (.inr h2), if_neg (by omega), if_pos h2]
   simp [iq, hw]
  ·rw [if_neg h1, if_neg h2]
   by_cases h3 : aw l 0 = 39 ∧ cA (aw l 1) = true
   ·have h4 : 1 < l.length := by
     rcases Nat.lt_or_ge 1 l.length with h | h
     ·exact h
     ·have : aw l 1 = 0 := by unfold aw; rw [List.getElem?_eq_none h]; rfl
      rw [this] at h3
      have h5 := h3.2
      have h6 : cA 0 = false := by kernel_rfl
      rw [h6] at h5; cases h5
    have := hru (by omega)
    rw [if_pos h3, if_pos ⟨h3.1, h4, h3.2⟩, if_neg (by omega)]
   ·have h3' : ¬ (aw l 0 = 39 ∧ 1 < l.length ∧ cA (aw l 1) = true) := fun h => h3 ⟨h.1, h.2.2⟩
    have h12 : ¬ (cA (aw l 0) = true ∨ eU (aw l 0) = true) := fun h => h.elim h1 h2
    rw [if_neg h3, if_neg h3', if_neg h12]
    unfold kc
    by_cases h5 : gG l [61, 62] = true ∨ gG l [45, 62] = true
    ·have h6 : 0 + 1 < l.length ∧ ((l.drop 0).take 2 = [61, 62] ∨ (l.drop 0).take 2 = [45, 62]) := by
      rw [List.drop_zero]
      rcases h5 with h5 | h5
      ·simp [gG] at h5; exact ⟨by omega, .inl h5.2⟩
      ·simp [gG] at h5; exact ⟨by omega, .inr h5.2⟩
     rw [if_pos h5, if_pos h6]; rfl
    ·have h6 : ¬ (0 + 1 < l.length ∧ ((l.drop 0).take 2 = [61, 62] ∨ (l.drop 0).take 2 = [45, 62])) := fun ⟨h7, h8⟩ => h5 (by
      rw [List.drop_zero] at h8
      rcases h8 with h8 | h8
      ·exact .inl (by simp [gG, h8]; omega)
      ·exact .inr (by simp [gG, h8]; omega))
     rw [if_neg h5, if_neg h6]
     by_cases h7 : aw l 0 ∈ kH
     ·rw [if_pos h7, if_pos h7]; rfl
     ·rw [if_neg h7, if_neg h7]; rfl
theorem KW : plainAt l 0 ↔ (l = [] ∨ cb (aw l 0) = false) ∧ ¬ l.take 2 = [40, 42] := by
 unfold plainAt
 rw [List.drop_zero]
 constructor
 ·rintro ⟨h1, h2⟩
  refine ⟨?_, fun h => ?_⟩
  ·cases l with
   | nil => exact .inl rfl
   | cons c r =>
    refine .inr ?_
    cases hc : cb (aw (c :: r) 0) with
    | false => rfl
    | true => have := wn (l := c :: r) (p := 0) (by simp) hc; omega
  ·have h3 := congrArg List.length h
   rw [List.length_take] at h3
   simp at h3
   simp [gG, h] at h2; omega
 ·rintro ⟨h1, h2⟩
  refine ⟨?_, ?_⟩
  ·rcases h1 with rfl | h1
   ·rfl
   ·unfold aV
    rw [List.drop_zero]
    cases l with
    | nil => rfl
    | cons c r =>
     have h3 : cb c = false := h1
     simp [List.takeWhile, h3]
  ·simp [gG, h2]
theorem km (h : ¬ plainAt l 0) : bo l = 0 := by
 rw [KW] at h
 refine lN ?_
 by_cases h0 : l = []
 ·exact .inl (by simp [h0])
 ·by_cases h1 : cb (aw l 0) = true
  ·exact .inr (.inl h1)
  ·by_cases h2 : l.take 2 = [40, 42]
   ·exact .inr (.inr h2)
   ·exact absurd ⟨.inr (by simpa using h1), h2⟩ h
theorem wS (h : cN l 0) : bo l = 0 := by
 unfold bo; rw [if_pos (.inr (.inr (.inr (.inr h))))]
theorem MX (hb : Bytes l) (hl : l.length ≤ 24) (h : ¬ cN l 0 → sx l 0 = none) : bo l = 0 := by
 by_cases hn : cN l 0
 ·exact wS hn
 ·have := h hn
  rw [BC hb hl] at this
  unfold bo; rw [this]; split <;> rfl
theorem qw (hb : Bytes l) (hl : l.length ≤ 24) {k a : Int} {m p0 : Nat} (h : WU l k a m p0) (hm : p0 + m < l.length) : bo l = 0 := by
 obtain ⟨h1, h2, h3, h4⟩ := h
 by_cases hp : plainAt l 0
 ·have := h4.2 hp; subst this
  by_cases hn : cN l 0
  ·exact wS hn
  ·have h5 := h3 hn
   rw [BC hb hl] at h5
   unfold bo; rw [h5]; split
   ·rfl
   ·exact if_neg (by omega)
 ·exact km hp
theorem Px (hb : Bytes l) (hl : l.length ≤ 24) {n : Nat} {c : List V} (h : WO l l.length n c) :
 (n ≠ 1 ∧ bo l = 0) ∨ ∃ (k a : Int) (x : List Nat) (p0 : Nat), c = [.int .i64 k, .int .i64 a, .str x, .int .i64 ((p0 : Nat) : Int)] ∧ 1 ≤ n ∧ (∀ z ∈ x, z < 256) ∧ (n ≠ 1 ∨ x ≠ l → bo l = 0) ∧ (n = 1 → x = l → qL l (.int .i64 k)) := by
 rcases h with ⟨rfl, h⟩ | ⟨k, a, m, p0, rfl, hf, hn, hm, -⟩
 ·refine .inl ⟨by omega, ?_⟩
  by_cases h0 : l.length = 0
  ·exact lN (.inl h0)
  ·exact km (fun hp => h0 (h.2 hp))
 ·refine .inr ⟨k, a, _, p0, rfl, hn, fun z hz => hb z (List.mem_of_mem_drop (List.mem_of_mem_take hz)), ?_, ?_⟩
  ·intro hx
   by_cases hlt : p0 + m < l.length
   ·exact qw hb hl hf hlt
   ·rcases hx with hx | hx
    ·omega
    ·by_cases hp : plainAt l 0
     ·have := hf.2.2.2.2 hp; subst this
      exact absurd (by rw [List.drop_zero, List.take_of_length_le (by omega)]) hx
     ·exact km hp
  ·intro hn1 hx
   have h1 := congrArg List.length hx
   rw [List.length_take, List.length_drop] at h1
   have h0 : p0 = 0 := by omega
   subst h0
   obtain ⟨h3, h4, h5, h6⟩ := hf
   have hp : plainAt l 0 := h6.1 rfl
   refine ⟨k, rfl, ?_⟩
   by_cases hnm : cN l 0
   ·exact .inr ⟨hnm, h4 hnm⟩
   ·left
    have h7 := h5 hnm
    rw [BC hb hl] at h7
    rw [KW] at hp
    have h8 : ¬ (l.length = 0 ∨ 24 < l.length ∨ cb (aw l 0) = true ∨ l.take 2 = [40, 42] ∨ dD l) := by
     rintro (h | h | h | h | h)
     ·omega
     ·omega
     ·rcases hp.1 with h9 | h9
      ·subst h9; rw [List.length_nil] at hm; omega
      ·rw [h9] at h; cases h
     ·exact hp.2 h
     ·exact hnm h
    unfold bo; rw [if_neg h8, h7]; simp only []; rw [if_pos (by omega)]
def QS (I : Nat → List V → List Nat → S → Prop) (l : List Nat) (W : List Nat) (s : S) : dz → Prop :=
 RP (fun v s' => v = .tuple [] ∧ ∃ n c D, WO l l.length n c ∧ I n c D s' ∧ Fw W s s' ∧ ∀ g ∈ D, s.next ≤ g ∨ g ∈ W) (fun c s' => qJ c ∧ bo l = 0 ∧ (∃ n c D, I n c D s') ∧ Fw W s s')
theorem Vz (hb : Bytes l) (hl : l.length ≤ 24) (hY : XF lb I) {DY : List Nat} {c0 : List V} (hI : I 0 c0 DY s) (hD : ∀ g ∈ DY, g < s.next ∧ g ≠ vb ∧ g ≠ fs) (hw : WF s) (hG : cd s) (hne : vb ≠ fs)
 (hv : s.get vb = some (.cells 170 false 1 [⟨0, 0, [.ptr ⟨fs, 0, 0⟩]⟩])) (hg : s.get fs = some (LL l 0 mm .nilslice)) {n0 clk : Nat} (hmm : s.get mm = some (.map (bV bL n0) clk)) (hmF : mm ∉ [vb, fs] ++ DY) :
 Co aq 202 [.func (.yield lb) [] [], .ptr ⟨vb, 0, 0⟩] s (QS I l ([vb, fs] ++ DY) s) := by
 have hlt : ∀ g B, s.get g = some B → g < s.next := hw
 have hfs : fs ∉ DY := fun h => (hD fs h).2.2 rfl
 have hkm : ∀ s1, Fw ([vb, fs] ++ DY) s s1 → s1.get mm = some (.map (bV bL n0) clk) := fun s1 k1 => k1.keep mm _ hmF hmm
 have hmf : mm ≠ fs := fun h => hmF (by subst h; simp)
 refine aI (C := AE) (e := ⟨[.func (.yield lb) [] [], .str l, .int .i64 ((0 : Nat) : Int), .map mm, .nilslice], [vb, fs]⟩) (F := [vb, fs] ++ DY) (D := DY ++ (none : Option Nat).toList) (U := UU I 0 c0 DY .nilslice 0 [] none) rfl Tryz.func202 rfl (by kernel_rfl) Mj rfl ⟨rfl, rfl, rfl⟩ rfl hw ?_ ?_ ⟨hv, hg, trivial⟩ (UU.stb hY.st) ⟨hI, .nil, fun g hg => (hD g (by simpa using hg)).1⟩ ?_ ?_
 ·simp [jk, hne]
 ·intro b hb; simp at hb ⊢; omega
 ·intro g hg'
  have := hD g (by simpa using hg')
  refine ⟨this.1, by simp at hg' ⊢; exact .inr (.inr hg'), ?_⟩
  simp only [List.mem_cons, List.not_mem_nil, or_false]
  omega
 refine cU fun s1 k1 k2 k3 k4 => ?_
 rcases SN (fs := fs) hb hl hY.st (q := 0) (Nat.zero_le _) k2 k3 k4.1 (Nat.zero_le _) (fun X hX => by cases hX) hfs with ⟨q, cm, n2, cs, o, s2, j1, j2, j3, j4, j5, j6, j7, j8, j9, j10, j11⟩ | ⟨c', s2, j1, j2, j3, j4, j5⟩
 rotate_left
 ·refine .inr ⟨rfl, c', s2, j1, .inr ⟨_, _, rfl, j2, km j3, ⟨_, _, _, j4⟩, k1.andThen hw j5 ?_⟩⟩
  intro g hg'
  simp only [List.mem_append, List.mem_cons, List.not_mem_nil, or_false, Option.toList] at hg' ⊢
  rcases hg' with h | h <;> simp [h]
 refine .inl ⟨[.int .i64 ((q : Nat) : Int), cm], _, s2, DY ++ o.toList, UU I 0 c0 DY cm n2 cs o, inferInstance, rfl, by simp [au, j11, eA], j1, j7, ⟨j6, trivial⟩, UU.stb hY.st, j8, j9, ?_⟩
 refine fv (fun j vs bs D U => ∃ (q n n2 : Nat) (c cs : List V) (DY' : List Nat) (cm : V) (o : Option Nat), j = l.length - q ∧ vs = [.func (.yield lb) [] [], .str l, .int .i64 ((q : Nat) : Int), .map mm, cm] ∧ bs = [vb, fs] ∧ D = DY' ++ o.toList ∧ U = UU I n c DY' cm n2 cs o ∧
  q ≤ l.length ∧ n2 ≤ q ∧ n ≤ q ∧ WO l q n c ∧ (∀ X, o = some X → X ≠ fs ∧ X ∉ DY') ∧ fs ∉ DY' ∧ (∀ g ∈ DY' ++ o.toList, s.next ≤ g ∨ g ∈ [vb, fs] ++ DY) ∧ cm.one = true) (l.length - q) ⟨q, 0, n2, c0, cs, DY, cm, o, rfl, rfl, rfl, rfl, rfl, j3, j5, Nat.zero_le _, .inl ⟨rfl, j4⟩, j10, hfs, ?_, j11⟩ (UU.stb hY.st) ?_
 ·intro g hg'
  rcases (j9 g hg').2 with h | h
  ·exact .inr (by simp at h ⊢; exact .inr (.inr h))
  ·exact .inl (Nat.le_trans k1.next h)
 clear j1 j2 j3 j4 j5 j6 j7 j8 j9 j10 j11 k1 k2 k3 k4 s1 s2 q cm n2 cs o
 rintro j _ _ _ _ ⟨q, n, n2, c, cs, D, cm, o, rfl, rfl, rfl, rfl, rfl, hq, hn2, hn, hR, hX, hfD, hDn, hcm⟩ - - -
 refine dV rfl Tryz.underlying9 rfl rfl ?_
 refine cP rfl rfl rfl ?_
 refine aP rfl (fun c1 => ?_) (fun c1 => ?_)
 ·have hql : q < l.length := by omega
  refine cU fun s1 k1 k2 k3 k4 => ?_
  obtain ⟨out, hco, hout⟩ := Rg hb hl hql hcm k2 (hG.keep k1.ro) k4.1 (hkm s1 k1) hmf
  rcases hout with ⟨v, s2, rfl, ⟨k, a, m, t1, t2, rfl, t3, t4⟩, t5⟩ | ⟨c', s2, rfl, ⟨t1, t2⟩, t5⟩
  rotate_left
  ·refine .inr ⟨rfl, c', s2, hco, .inr ⟨_, _, rfl, t1, ?_, ⟨n, c, D, hY.st _ _ _ _ _ k3.1 (fun g _ B hB => t5.keep g B (by simp) hB) t5.next⟩, k1.trans (t5.mono (by simp))⟩⟩
   rcases hR with ⟨rfl, h0⟩ | ⟨k, a, m, p0, rfl, hf, hn1, hm, _⟩
   ·by_cases hp : plainAt l 0
    ·have := h0.2 hp; subst this
     exact MX hb hl t2
    ·exact km hp
   ·exact qw hb hl hf (by omega)
  refine .inl ⟨[.int .i64 k, .int .i64 a, .str ((l.drop q).take m), .int .i64 ((q : Nat) : Int)], _, s2, D ++ o.toList, UU I n c D cm n2 cs o, inferInstance, rfl, rfl, hco, t5.mono (by simp), trivial, UU.stb hY.st, UU.stb hY.st _ _ k3 (fun g _ B hB => t5.keep g B (by simp) hB) t5.next, fun g hg' => ⟨Nat.lt_of_lt_of_le (k3.2.2 g hg') t5.next, .inl hg'⟩, ?_⟩
  have hml : ((l.drop q).take m).length = m := by rw [List.length_take, List.length_drop]; omega
  refine aN fun b1 hb1 hd1 => ?_
  refine dV rfl Tryz.underlying9 rfl rfl ?_
  rw [hml]
  refine br (r := ((q + m : Nat) : Int)) rfl rfl (by rw [show ((q : Nat) : Int) + ((m : Nat) : Int) = ((q + m : Nat) : Int) by omega]; exact aY _ ⟨by omega, by omega⟩) rfl ?_
  have hfsg : ∀ s1, Fw ([vb, fs] ++ DY) s s1 → fs < s1.next := fun s1 k1 => Nat.lt_of_lt_of_le (hw fs _ hg) k1.next
  refine Lo fun s1 k1 k2 k3 k4 => ?_
  obtain ⟨s2, D', u, y1, y2, y3, y4⟩ := hY.go n c D s1 [.int .i64 k, .int .i64 a, .str ((l.drop q).take m), .int .i64 ((q : Nat) : Int)] k3.1 k2 rfl rfl (by omega) (fun g hg' => k3.2.2 g (by simp [hg']))
  have hX' : ∀ X, o = some X → X < s1.next := fun X hx => k3.2.2 X (by simp [hx])
  have hG2 : gQ 295 2 s2 cm n2 cs o := k3.2.1.fw y2 (fun X hx => (hX X hx).2)
  have hb2 : ∀ g ∈ D' ++ o.toList, g < s2.next ∧ (g ∈ D ++ o.toList ∨ s1.next ≤ g) := by
   intro g hg'
   simp only [List.mem_append] at hg' ⊢
   rcases hg' with hg' | hg'
   ·rcases y4 g hg' with ⟨h1, h2 | h2⟩
    ·exact ⟨h1, .inl (.inl h2)⟩
    ·exact ⟨h1, .inr h2⟩
   ·refine ⟨?_, .inl (.inr hg')⟩
    cases o with
    | none => simp at hg'
    | some X => simp at hg'; subst hg'; exact Nat.lt_of_lt_of_le (hX' g rfl) y2.next
  refine ⟨[.bool true], _, s2, D' ++ o.toList, UU I (n + 1) (if n = 0 then [.int .i64 k, .int .i64 a, .str ((l.drop q).take m), .int .i64 ((q : Nat) : Int)] else c) D' cm n2 cs o, inferInstance, rfl, rfl, .inr ⟨lb, [], [], u, rfl, y1⟩, y2.mono (fun g hg' => by simp [hg']), UU.stb hY.st, ⟨y3, hG2, fun g hg' => (hb2 g hg').1⟩, hb2, ?_⟩
  have hX2 : ∀ X, o = some X → X ≠ fs ∧ X ∉ D' := fun X hx => ⟨(hX X hx).1, fun hd => by
   rcases (y4 X hd).2 with h | h
   ·exact (hX X hx).2 h
   ·have := hX' X hx; omega⟩
  have hf2 : fs ∉ D' := fun hd => by
   rcases (y4 fs hd).2 with h | h
   ·exact hfD h
   ·have := hfsg s1 k1; omega
  have hDn2 : ∀ g ∈ D' ++ o.toList, s.next ≤ g ∨ g ∈ [vb, fs] ++ DY := fun g hg' => by
   rcases (hb2 g hg').2 with h | h
   ·exact hDn g h
   ·exact .inl (Nat.le_trans k1.next h)
  have hR2 : WO l (q + m) (n + 1) (if n = 0 then [.int .i64 k, .int .i64 a, .str ((l.drop q).take m), .int .i64 ((q : Nat) : Int)] else c) := by
   rcases hR with ⟨rfl, h0⟩ | ⟨k', a', m', p0, rfl, hf, hn1, hm, hq'⟩
   ·exact .inr ⟨k, a, m, q, rfl, ⟨t1, t3, t4, h0⟩, by omega, by omega, by omega⟩
   ·exact .inr ⟨k', a', m', p0, by rw [if_neg (by omega)], hf, by omega, by omega, by omega⟩
  refine dR rfl rfl ?_
  refine aB (q := false) rfl (fun h => by cases h) (fun _ => ?_)
  clear y1 y2 y3 y4 hG2 hb2 k1 k2 k3 k4 hX' hX hfD hDn hco t5
  revert hX2 hf2 hDn2 hR2
  generalize (if n = 0 then [V.int .i64 k, .int .i64 a, .str ((l.drop q).take m), .int .i64 ((q : Nat) : Int)] else c) = c2
  intro hX2 hf2 hDn2 hR2
  refine cU fun s1 k1 k2 k3 k4 => ?_
  rcases SN (fs := fs) hb hl hY.st (q := q + m) t2 k2 k3 k4.1 (by omega) hX2 hf2 with ⟨q', cm', n3, cs', o', s2, j1, j2, j3, j4, j5, j6, j7, j8, j9, j10, j11⟩ | ⟨c', s2, j1, j2, j3, j4, j5⟩
  rotate_left
  ·refine .inr ⟨rfl, c', s2, j1, .inr ⟨_, _, rfl, j2, ?_, ⟨_, _, _, j4⟩, k1.andThen hw j5 ?_⟩⟩
   ·rcases hR2 with ⟨h, _⟩ | ⟨k', a', m', p0, rfl, hf, hn1, hm, hq'⟩
    ·omega
    ·have : q + m ≠ l.length := fun h => j3 (by rw [h]; exact MH)
     exact qw hb hl hf (by omega)
   ·intro g hg'
    rw [List.mem_append] at hg'
    rcases hg' with h | h
    ·exact .inr (by simp at h ⊢; exact .inr (.inl h))
    ·exact hDn2 g h
  refine .inl ⟨[.int .i64 ((q' : Nat) : Int), cm'], _, s2, D' ++ o'.toList, UU I (n + 1) c2 D' cm' n3 cs' o', inferInstance, rfl, by simp [au, j11, eA], j1, j7, ⟨j6, trivial⟩, UU.stb hY.st, j8, j9, ?_⟩
  refine fx rfl (UU.stb hY.st) ⟨l.length - q', by omega, q', n + 1, n3, c2, cs', D', cm', o', rfl, rfl, rfl, rfl, rfl, j3, j5, by omega, ?_, j10, hf2, ?_, j11⟩
  ·rcases hR2 with ⟨h, _⟩ | ⟨k', a', m', p0, rfl, hf, hn1, hm, hq'⟩
   ·omega
   ·exact .inr ⟨k', a', m', p0, rfl, hf, hn1, by omega, j3⟩
  ·intro g hg'
   rcases (j9 g hg').2 with h | h
   ·exact hDn2 g h
   ·exact .inl (Nat.le_trans k1.next h)
 ·exact ak fun s1 k1 k2 k3 k4 => by
   have : q = l.length := by omega
   subst this
   exact .inl ⟨_, _, rfl, rfl, n, c, D, hR, k3.1, k1, fun g hg => hDn g (by simp [hg])⟩
end
end Go.AI.Lx
namespace Go.AI.Lx
open Go.Proofs Go.Proofs.YtkeaedhoaamfnaaGreatDoor
def JY : List aA := [⟨3, [(3, false), (11, false), (12, true)], []⟩]
def Ju : Code := match Tryz.f154.body with | some c => c | none => .skip
def AM : eK := ⟨aq, Tryz.f154, JY, [], [], 0⟩
def HA : ax := .act .makeMap [] 1 1 (.new (.loop 0 5 [iV 0, 0, iV 0, 1, nS] [0] [cB 274 [1, 2, 3, 4]] (aT (.bin .lss 3 true 0 (iV 15)) 5 (.cond 5 (aT (.index 275 (.agg [.str [97, 110, 100], .str [99, 97, 115, 101], .str [100, 97, 116, 97], .str [101, 108, 115, 101], .str [101, 110, 100], .str [102, 110], .str [102, 117, 110], .str [105, 102], .str [105, 110], .str [105, 110, 112, 117, 116], .str [108, 101, 116], .str [111, 102], .str [111, 117, 116, 112, 117, 116], .str [116, 104, 101, 110], .str [118, 97, 108]]) 0) 6 (.act (.mapUpd 86 3 6 (iV 5)) [] 0 (.tuple []) (aT (.bin .add 3 true 0 (iV 1)) 7 (.back 0 [7, 1, 2, 3, 4] [0])))) (.ret (.ptr ⟨0, 0, 0⟩) [(0, cB 274 [1, 2, 3, 4])])))))
theorem Ms : bu AM 400 [] [.code Ju] (aO [.atom 0] 0 .leaf id) (aR ⟨.leaf, 0⟩ []) 1 = some HA := by kernel_rfl
def JS : List aA := []
def Jn : Code := match Tryz.f156.body with | some c => c | none => .skip
def AF : eK := ⟨aq, Tryz.f156, JS, [], [], 0⟩
def Hu : ax := .new (.ret (.func (.func 202) [] [.ptr ⟨0, 0, 0⟩]) [(0, cB 170 [0])])
theorem Mk : bu AF 400 [] [.code Jn] (aO [.atom 0] 0 .leaf id) (aR ⟨.leaf, 0⟩ []) 1 = some Hu := by kernel_rfl
end Go.AI.Lx
namespace Go.AI.Lx
open Go.Proofs Go.Proofs.YtkeaedhoaamfnaaGreatDoor
set_option maxRecDepth 10000
theorem pt (w : List Nat) : ∀ (ws : List (List Nat)) (n : Nat), bV (ws ++ [w]) n = bV ws n ++ [⟨.str w, .int .i64 5, n + ws.length⟩]
 | [], n => rfl
 | x :: r, n => by
  have ih := pt w r (n + 1)
  simp only [List.cons_append, bV, ih, List.length_cons]
  rw [show n + 1 + r.length = n + (r.length + 1) by omega]
theorem Em {ok : V → V → Option Bool} (hok : ∀ a b, Bytes a → Bytes b → ok (.str a) (.str b) = some (decide (a = b))) {x : List Nat} (hx : Bytes x) {v : V} : ∀ (ws : List (List Nat)) (n : Nat), (∀ w ∈ ws, Bytes w) → x ∉ ws → cD ok (.str x) v (bV ws n) = some none
 | [], n, _, _ => rfl
 | w :: r, n, h, hn => by
  have ih := Em hok hx (v := v) r (n + 1) (fun z hz => h z (List.mem_cons_of_mem _ hz)) (fun hm => hn (List.mem_cons_of_mem _ hm))
  have hw : x ≠ w := fun hh => hn (by simp [hh])
  simp only [bV, cD, hok x w hx (h w (by simp)), hw, decide_false, cD.setKey, ih]
theorem Rb : ∀ i, i < 15 → kX Tryz.prog 275 (some (.agg (bL.map V.str))) (some i) = some (.str (bL.getD i []))
 | 0, _ => by kernel_rfl | 1, _ => by kernel_rfl | 2, _ => by kernel_rfl | 3, _ => by kernel_rfl | 4, _ => by kernel_rfl | 5, _ => by kernel_rfl | 6, _ => by kernel_rfl | 7, _ => by kernel_rfl
 | 8, _ => by kernel_rfl | 9, _ => by kernel_rfl | 10, _ => by kernel_rfl | 11, _ => by kernel_rfl | 12, _ => by kernel_rfl | 13, _ => by kernel_rfl | 14, _ => by kernel_rfl
 | n + 15, h => absurd h (by omega)
theorem Ei : ∀ i, i < 15 → bL.getD i [] ∉ bL.take i := by decide
theorem ss : bL.length = 15 := rfl
theorem LY {i : Nat} (h : i < 15) : bL.take (i + 1) = bL.take i ++ [bL.getD i []] := by
 rw [List.take_add_one, List.getD_eq_getElem?_getD, List.getElem?_eq_getElem (by rw [ss]; exact h)]
 rfl
theorem TP {l : List Nat} {s : S} (hw : WF s) : Cw aq 154 [.str l] s fun v s' => ∃ fs mm, v = .ptr ⟨fs, 0, 0⟩ ∧ s'.get fs = some (LL l 0 mm .nilslice) ∧ s'.get mm = some (.map (bV bL 0) 15) ∧ s.next ≤ fs ∧ s.next ≤ mm ∧ fs ≠ mm ∧ Fw [] s s' := by
 refine ay (aI (C := AM) (e := ⟨[.str l], []⟩) (F := []) rfl Tryz.func154 rfl (by kernel_rfl) Ms rfl ⟨rfl, rfl, rfl⟩ rfl hw rfl (by simp) trivial am trivial (by simp) ?_)
 refine gT fun s1 k1 k2 k3 k4 => ?_
 refine ⟨[.map s1.next], _, s1.alloc (.map [] 0), [s1.next], fun s' => s'.get s1.next = some (.map (bV (bL.take 0) 0) 0), inferInstance, rfl, rfl, rfl, Fw.alloc _ k2 _, fun s s' h hk _ => hk _ (by simp) _ h, cy _ _, ?_, ?_⟩
 ·intro g hg; simp at hg; subst hg; exact ⟨by rw [S.next_alloc]; omega, .inr (Nat.le_refl _)⟩
 have hmn := k1.next
 generalize s1.next = mm at *
 refine aN fun b1 hb1 hd1 => ?_
 refine fv (fun j vs bs D U => ∃ i, i ≤ 15 ∧ j = 15 - i ∧ vs = [.int .i64 ((i : Nat) : Int), .str l, .int .i64 0, .map mm, .nilslice] ∧ bs = [b1] ∧ D = [mm] ∧ U = fun s' => s'.get mm = some (.map (bV (bL.take i) 0) i)) 15 ⟨0, by omega, rfl, rfl, rfl, rfl, rfl⟩ (fun s s' h hk _ => hk _ (by simp) _ h) ?_
 rintro j _ _ _ _ ⟨i, hi, rfl, rfl, rfl, rfl, rfl⟩ - - -
 refine cP rfl rfl rfl ?_
 refine aP rfl (fun c1 => ?_) (fun c1 => ?_)
 ·have hi2 : i < 15 := by omega
  refine ao (.str (bL.getD i [])) rfl (fun _ _ _ _ _ => Rb i hi2) rfl ?_
  refine gT fun s1 k1 k2 k3 k4 => ?_
  have hu : cD (eb Tryz.prog (Go.AI.plainAt s1) 20 9) (.str (bL.getD i [])) (.int .i64 5) (bV (bL.take i) 0) = some none :=
   Em (fun a b ha hb => iO s1 a b ha hb) (kD _ (by rw [List.getD_eq_getElem?_getD, List.getElem?_eq_getElem (by rw [ss]; exact hi2)]; exact List.getElem_mem _)) _ _ (fun w hw => kD w (List.mem_of_mem_take hw)) (Ei i hi2)
  have hn : bV (bL.take (i + 1)) 0 = bV (bL.take i) 0 ++ [⟨.str (bL.getD i []), .int .i64 5, i⟩] := by
   rw [LY hi2, pt, List.length_take, ss, show 0 + min i 15 = i by omega]
  refine ⟨[], _, s1.put mm (.map (bV (bL.take (i + 1)) 0) (i + 1)), [mm], fun s' => s'.get mm = some (.map (bV (bL.take (i + 1)) 0) (i + 1)), inferInstance, rfl, rfl, ?_, Fw.put (by simp) k3 (fun _ h => by cases h) _, fun s s' h hk _ => hk _ (by simp) _ h, (by show (s1.put mm _).get mm = _; rw [S.get_put, if_pos rfl]), ?_, ?_⟩
  ·show io (dJ Tryz.prog s1 86 (some (.map mm)) (some (.str (bL.getD i []))) (some (.int .i64 5))) = _
   simp only [dJ, Tryz.underlying86, k3, jF, cond_true, hu, qT, hn]
   rfl
  ·intro g hg; simp at hg; subst hg; exact ⟨by rw [S.next_put]; exact k2 g _ k3, .inl (by simp)⟩
  refine br (r := ((i + 1 : Nat) : Int)) rfl rfl (wI (by omega)) rfl ?_
  exact fx rfl (fun s s' h hk _ => hk _ (by simp) _ h) ⟨15 - (i + 1), by omega, i + 1, by omega, rfl, rfl, rfl, rfl, rfl⟩
 ·refine ak fun s1 h1 h2 h3 h4 => ?_
  have h15 : i = 15 := by omega
  subst h15
  have h5 : s1.get b1 = some (LL l 0 mm .nilslice) := h4.1
  refine ⟨_, _, rfl, b1, mm, rfl, h5, h3, hb1, hmn, fun h => ?_, h1⟩
  subst h
  rw [h3] at h5; cases h5
end Go.AI.Lx
