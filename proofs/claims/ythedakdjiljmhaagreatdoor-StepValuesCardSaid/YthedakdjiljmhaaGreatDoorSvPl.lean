/- What the readers of a value answer, in plain terms. No conditions. -/
import Derived.Test.YthedakdjiljmhaaGreatDoorSvFits
set_option linter.unusedVariables false
set_option linter.unusedSimpArgs false
noncomputable section
/- What the readers of a value answer, in plain Lean; and the row that they make. -/
namespace Go.AI.Sv
open Go.Proofs

/-- What is reached is well ordered, to a depth. -/
def Wo (cs : List Cl) : Nat → Rf → Prop
  | 0, x => x.cell = false
  | n + 1, x => x.cell = false ∨ ∃ c, 0 ≤ x.num ∧ cs[x.num.toNat]? = some c ∧ (c.kind = 2 ∨ c.kind = 1 ∧ ∀ y ∈ c.refs, Wo cs n y)

theorem Wo.mono {cs : List Cl} : ∀ {n m : Nat} {x : Rf}, n ≤ m → Wo cs n x → Wo cs m x
  | 0, 0, _, _, h => h
  | 0, m + 1, _, _, h => .inl h
  | n + 1, 0, _, hl, _ => by omega
  | n + 1, m + 1, x, hl, h => by
    rcases h with h | ⟨c, h1, h2, h3⟩
    · exact .inl h
    · refine .inr ⟨c, h1, h2, ?_⟩
      rcases h3 with h3 | ⟨h3, h4⟩
      · exact .inl h3
      · exact .inr ⟨h3, fun y hy => Wo.mono (by omega) (h4 y hy)⟩

def zeroVl : Vl := .mk [] 0 []

mutual
/-- The value of a reference: the error, how many were met, the value. -/
def pl (cs : List Cl) : Nat → Rf → Nat → Int × Nat × Vl
  | 0, x, k => if 4000 < k + 1 then (7, k + 1, zeroVl) else (0, k + 1, .mk [] x.num [])
  | n + 1, x, k =>
    if 4000 < k + 1 then (7, k + 1, zeroVl)
    else if x.cell = false then (0, k + 1, .mk [] x.num [])
    else match cs[x.num.toNat]? with
      | none => (7, k + 1, zeroVl)
      | some c => if c.kind = 2 then (61, k + 1, zeroVl) else ((plL cs n c.refs (k + 1) []).1, (plL cs n c.refs (k + 1) []).2.1, .mk c.con 0 (plL cs n c.refs (k + 1) []).2.2)
def plL (cs : List Cl) : Nat → List Rf → Nat → List Vl → Int × Nat × List Vl
  | _, [], k, acc => (0, k, acc)
  | n, y :: r, k, acc => if (pl cs n y k).1 = 0 then plL cs n r (pl cs n y k).2.1 (acc ++ [(pl cs n y k).2.2]) else ((pl cs n y k).1, (pl cs n y k).2.1, acc)
end

theorem plL_le {cs : List Cl} {n : Nat} (h : ∀ x k, (pl cs n x k).1 = 0 → (pl cs n x k).2.1 ≤ 4000) : ∀ (r : List Rf) (k : Nat) (acc : List Vl), k ≤ 4000 → (plL cs n r k acc).1 = 0 → (plL cs n r k acc).2.1 ≤ 4000
  | [], k, acc, hk, _ => by simpa [plL] using hk
  | y :: r, k, acc, hk, h0 => by
    simp only [plL] at h0 ⊢
    by_cases hy : (pl cs n y k).1 = 0
    · rw [if_pos hy] at h0 ⊢
      exact plL_le h r _ _ (h y k hy) h0
    · rw [if_neg hy] at h0
      exact absurd h0 hy
theorem pl_le (cs : List Cl) : ∀ (n : Nat) (x : Rf) (k : Nat), (pl cs n x k).1 = 0 → (pl cs n x k).2.1 ≤ 4000 := by
  intro n
  induction n with
  | zero =>
    intro x k h
    simp only [pl] at h ⊢
    by_cases hk : 4000 < k + 1
    · rw [if_pos hk] at h; cases h
    · rw [if_neg hk]; show k + 1 ≤ 4000; omega
  | succ n ih =>
    intro x k h
    simp only [pl] at h ⊢
    by_cases hk : 4000 < k + 1
    · rw [if_pos hk] at h; cases h
    rw [if_neg hk] at h ⊢
    by_cases hc : x.cell = false
    · rw [if_pos hc]; show k + 1 ≤ 4000; omega
    rw [if_neg hc] at h ⊢
    split at h
    · cases h
    · rename_i c hcs
      by_cases h2 : c.kind = 2
      · rw [if_pos h2] at h; cases h
      · rw [if_neg h2] at h ⊢
        exact plL_le ih _ _ _ (by omega) h

theorem plL_ge {cs : List Cl} {n : Nat} (h : ∀ x k, k + 1 ≤ (pl cs n x k).2.1) : ∀ (r : List Rf) (k : Nat) (acc : List Vl), k ≤ (plL cs n r k acc).2.1
  | [], k, acc => by simp [plL]
  | y :: r, k, acc => by
    simp only [plL]
    have := h y k
    by_cases hy : (pl cs n y k).1 = 0
    · rw [if_pos hy]
      have := plL_ge h r (pl cs n y k).2.1 (acc ++ [(pl cs n y k).2.2])
      omega
    · rw [if_neg hy]; show k ≤ (pl cs n y k).2.1; omega
theorem pl_ge (cs : List Cl) : ∀ (n : Nat) (x : Rf) (k : Nat), k + 1 ≤ (pl cs n x k).2.1 := by
  intro n
  induction n with
  | zero => intro x k; simp only [pl]; split <;> exact Nat.le_refl _
  | succ n ih =>
    intro x k
    simp only [pl]
    split
    · exact Nat.le_refl _
    · split
      · exact Nat.le_refl _
      · split
        · exact Nat.le_refl _
        · split
          · exact Nat.le_refl _
          · exact plL_ge ih _ _ _

/- ---- what is seen is well ordered ---- -/
def WoL (cs : List Cl) (before : Int) (l : List Int) : Prop := ∀ m ∈ l, 0 ≤ m → m < before → Wo cs (m.toNat + 1) ⟨true, m⟩

theorem visL_wo {cs : List Cl} {n : Nat} {before : Int}
    (h : ∀ x l, (∀ m ∈ (vis cs n before x l).2, m ∈ l ∨ (0 ≤ m ∧ m < before)) ∧ (WoL cs before l → (vis cs n before x l).1 = true → Wo cs before.toNat x ∧ WoL cs before (vis cs n before x l).2)) :
    ∀ (r : List Rf) (l : List Int), (∀ m ∈ (visL cs n before r l).2, m ∈ l ∨ (0 ≤ m ∧ m < before)) ∧ (WoL cs before l → (visL cs n before r l).1 = true → (∀ y ∈ r, Wo cs before.toNat y) ∧ WoL cs before (visL cs n before r l).2)
  | [], l => by simp only [visL]; exact ⟨fun m hm => .inl hm, fun hl _ => ⟨by simp, hl⟩⟩
  | y :: r, l => by
    have hy := h y l
    simp only [visL]
    cases hv : vis cs n before y l with
    | mk b l2 =>
      rw [hv] at hy
      cases b with
      | false => exact ⟨hy.1, fun _ h => by cases h⟩
      | true =>
        simp only
        have ih := visL_wo h r l2
        refine ⟨fun m hm => ?_, fun hl ht => ?_⟩
        · rcases ih.1 m hm with hm | hm
          · exact hy.1 m hm
          · exact .inr hm
        · obtain ⟨h1, h2⟩ := hy.2 hl rfl
          obtain ⟨h3, h4⟩ := ih.2 h2 ht
          refine ⟨fun z hz => ?_, h4⟩
          rcases List.mem_cons.1 hz with rfl | hz
          · exact h1
          · exact h3 z hz

theorem vis_wo (cs : List Cl) : ∀ (n : Nat) (before : Int) (x : Rf) (l : List Int), (∀ m ∈ (vis cs n before x l).2, m ∈ l ∨ (0 ≤ m ∧ m < before)) ∧ (WoL cs before l → (vis cs n before x l).1 = true → Wo cs before.toNat x ∧ WoL cs before (vis cs n before x l).2) := by
  intro n
  induction n with
  | zero => intro before x l; simp only [vis]; exact ⟨fun m hm => .inl hm, fun _ h => by cases h⟩
  | succ n ih =>
    intro before x l
    obtain ⟨xc, xn⟩ := x
    by_cases hc : xc = false
    · have e : vis cs (n + 1) before ⟨xc, xn⟩ l = (true, l) := by simp [vis, hc]
      rw [e]
      exact ⟨fun m hm => .inl hm, fun hl _ => ⟨Wo.mono (Nat.zero_le _) (show xc = false from hc), hl⟩⟩
    have hc : xc = true := by simpa using hc
    subst hc
    by_cases h0 : xn < 0 ∨ before ≤ xn
    · have e : vis cs (n + 1) before ⟨true, xn⟩ l = (false, l) := by simp [vis, h0]
      rw [e]
      exact ⟨fun m hm => .inl hm, fun _ h => by cases h⟩
    by_cases hm : xn ∈ l
    · have e : vis cs (n + 1) before ⟨true, xn⟩ l = (true, l) := by simp [vis, h0, hm]
      rw [e]
      exact ⟨fun m hm => .inl hm, fun hl _ => ⟨Wo.mono (by omega) (hl xn hm (by omega) (by omega)), hl⟩⟩
    obtain ⟨k, rfl⟩ := Int.eq_ofNat_of_zero_le (show 0 ≤ xn by omega)
    cases hcs : cs[k]? with
    | none =>
      have e : vis cs (n + 1) before ⟨true, (k : Int)⟩ l = (false, l) := by
        simp only [vis]
        rw [if_neg (by simp), if_neg h0, if_neg hm]
        simp [hcs]
      rw [e]
      exact ⟨fun m hm => .inl hm, fun _ h => by cases h⟩
    | some c =>
      rw [vis_at cs n before k l (by omega) hm c hcs]
      have hsnoc : ∀ m ∈ l ++ [(k : Int)], m ∈ l ∨ (0 ≤ m ∧ m < before) := by
        intro m hm
        rcases List.mem_append.1 hm with hm | hm
        · exact .inl hm
        · simp at hm; subst hm; exact .inr ⟨by omega, by omega⟩
      by_cases h2 : c.kind = 2
      · rw [if_pos h2]
        have hw : Wo cs 1 ⟨true, (k : Int)⟩ := .inr ⟨c, by simp, by simpa using hcs, .inl h2⟩
        refine ⟨hsnoc, fun hl _ => ⟨Wo.mono (by omega) hw, fun m hm hm0 hmb => ?_⟩⟩
        rcases List.mem_append.1 hm with hm | hm
        · exact hl m hm hm0 hmb
        · simp at hm; subst hm; exact Wo.mono (by omega) hw
      rw [if_neg h2]
      by_cases h1 : c.kind = 1
      · rw [if_pos h1]
        have hL := visL_wo (ih k) c.refs (l ++ [(k : Int)])
        refine ⟨fun m hm => ?_, fun hl ht => ?_⟩
        · rcases hL.1 m hm with hm | hm
          · exact hsnoc m hm
          · exact .inr ⟨hm.1, by omega⟩
        · obtain ⟨hr, hl2⟩ := hL.2 (fun m hm hm0 hmk => by
            rcases List.mem_append.1 hm with hm | hm
            · exact hl m hm hm0 (by omega)
            · simp at hm; omega) ht
          have hw : Wo cs (k + 1) ⟨true, (k : Int)⟩ := .inr ⟨c, by simp, by simpa using hcs, .inr ⟨h1, fun y hy => by simpa using hr y hy⟩⟩
          refine ⟨Wo.mono (by omega) hw, fun m hm hm0 hmb => ?_⟩
          by_cases hmk : m < k
          · exact hl2 m hm hm0 hmk
          · by_cases hmk : m = k
            · subst hmk; exact Wo.mono (by omega) hw
            · rcases hL.1 m hm with hm | hm
              · rcases List.mem_append.1 hm with hm | hm
                · exact hl m hm hm0 hmb
                · simp at hm; omega
              · omega
      · rw [if_neg h1]
        exact ⟨hsnoc, fun _ h => by cases h⟩

theorem vis_top (cs : List Cl) (n : Nat) (x : Rf) (h : (vis cs n cs.length x []).1 = true) : Wo cs cs.length x := by
  have := ((vis_wo cs n cs.length x []).2 (fun m hm => by cases hm) h).1
  simpa using this

/- ---- the row of values ---- -/
/-- What was made from a place on is there still. -/
def Kn (lo : Nat) (s0 s : S) : Prop := ∀ g B, lo ≤ g → s0.get g = some B → s.get g = some B
def Kx (L X : Nat) (s0 s : S) : Prop := ∀ g B, L ≤ g → g ≠ X → s0.get g = some B → s.get g = some B

theorem Sl.mono {α : Type} {K K' : S → Prop} {ty sz : Nat} {v : V} {xs : List α} {rd rd' : α → List V → Prop} (hK : ∀ s, K' s → K s) (hr : ∀ x l, rd x l → rd' x l) (h : Sl K ty sz v xs rd) : Sl K' ty sz v xs rd' := by
  refine ⟨h.len, h.bnd, h.one, h.cel, ?_⟩
  obtain ⟨pa, hpa⟩ := h.el
  refine ⟨pa, fun k x hx => ?_⟩
  obtain ⟨ia, l, e, el, o, r⟩ := hpa k x hx
  exact ⟨ia, l, fun s hs => e s (hK s hs), el, o, hr x l r⟩
theorem RdVl.mono {K K' : S → Prop} (hK : ∀ s, K' s → K s) : ∀ (n : Nat) (x : Vl) (l : List V), RdVl K n x l → RdVl K' n x l
  | 0, _, _, h => h
  | n + 1, .mk _ _ _, l, h => by
    obtain ⟨va, h1, h2, h3⟩ := h
    exact ⟨va, h1, h2, h3.mono hK (RdVl.mono hK n)⟩

/-- Blocks below a place are left alone. -/
structure Ab (L : Nat) (s s' : S) : Prop where
  keep : ∀ g B, g < L → s.get g = some B → s'.get g = some B
  ro : ∀ g vs, s.get g = some (.ro vs) → s'.get g = some (.ro vs)
  next : s.next ≤ s'.next
  wf : WF s'

theorem _root_.Go.AI.Me.ab {F : List Nat} {s0 s s' : S} {m : List (Nat × Blk)} {L : Nat} (h : Me F s0 s m) (k : Ab L s s') (hL : s0.next ≤ L) (hm : ∀ x ∈ m, x.1 < L) : Me F s0 s' m :=
  ⟨h.wf0, ⟨fun g B hg hb => k.keep g B (by have := h.wf0 g B hb; omega) (h.fw.keep g B hg hb), fun g vs hb => k.ro g vs (h.fw.ro g vs hb), Nat.le_trans h.fw.next k.next, fun _ => k.wf⟩, h.own.keep fun x hx => k.keep _ _ (hm x hx) (h.own.mem hx), h.hi⟩
theorem _root_.Go.AI.Me.tl {F : List Nat} {s0 s : S} {x : Nat × Blk} {m : List (Nat × Blk)} (h : Me F s0 s (x :: m)) : Me F s0 s m :=
  ⟨h.wf0, h.fw, h.own.2, fun y hy => h.hi y (List.mem_cons_of_mem _ hy)⟩

/-- The values that are met so far. -/
def Grow (P : Prop) (n L : Nat) (s : S) (v : V) (vs : List Vl) : Prop :=
  (vs = [] ∧ v = .nilslice) ∨ ∃ X nv rest cs, L ≤ X ∧ v = .slice ⟨X, nv, 0⟩ 0 vs.length none 3 ∧ s.get X = some (.cells 33 false (nv + 1) (⟨nv, 0, cs⟩ :: rest)) ∧ cs.length = vs.length * 3 ∧ cs.all V.one = true ∧ (P → ∀ (i : Nat) (x : Vl), vs[i]? = some x → RdVl (Kx L X s) n x ((cs.drop (i * 3)).take 3))

theorem Grow.keep {P : Prop} {n L : Nat} {s s' : S} {v : V} {vs : List Vl} (h : Grow P n L s v vs) (k : ∀ g B, L ≤ g → s.get g = some B → s'.get g = some B) : Grow P n L s' v vs := by
  rcases h with h | ⟨X, nv, rest, cs, h1, h2, h3, h4, h5, h6⟩
  · exact .inl h
  · exact .inr ⟨X, nv, rest, cs, h1, h2, k _ _ h1 h3, h4, h5, fun hP i x hx => RdVl.mono (fun s'' hs g B hg hne hB => hs g B hg hne (k g B hg hB)) n x _ (h6 hP i x hx)⟩
theorem Grow.imp {P P' : Prop} {n L : Nat} {s : S} {v : V} {vs : List Vl} (h : Grow P n L s v vs) (hp : P' → P) : Grow P' n L s v vs := by
  rcases h with h | ⟨X, nv, rest, cs, h1, h2, h3, h4, h5, h6⟩
  · exact .inl h
  · exact .inr ⟨X, nv, rest, cs, h1, h2, h3, h4, h5, fun hP => h6 (hp hP)⟩

theorem takeExact_take : ∀ (l : List V) (n : Nat), n ≤ l.length → takeExact n l = some (l.take n)
  | _, 0, _ => by simp [takeExact]
  | [], _ + 1, h => by simp at h
  | x :: l, n + 1, h => by simp [takeExact, takeExact_take l n (by simpa using h)]

theorem und31 : Tryz.prog.underlying 31 = some (.slice 33) := by kernel_rfl
theorem Grow.one {P : Prop} {n L : Nat} {s : S} {v : V} {vs : List Vl} (h : Grow P n L s v vs) : v.one = true ∧ v.cells = [v] := by
  rcases h with ⟨_, rfl⟩ | ⟨X, nv, rest, cs, h1, rfl, _⟩
  · exact ⟨rfl, rfl⟩
  · exact ⟨rfl, rfl⟩
theorem Grow.sl {n L : Nat} {s : S} {v : V} {vs : List Vl} (h : Grow True n L s v vs) (hb : vs.length < 4611686018427387904) : Sl (Kn L s) 31 3 v vs (RdVl (Kn L s) n) := by
  rcases h with ⟨rfl, rfl⟩ | ⟨X, nv, rest, cs, h1, rfl, h3, h4, h5, h6⟩
  · exact ⟨fun s => by simp only [lenV, und31]; rfl, by simp, rfl, rfl, ⟨fun _ => ⟨0, 0, 0⟩, fun k x hx => by simp at hx⟩⟩
  · refine ⟨fun s => by simp only [lenV, und31, mkInt_eq], hb, rfl, rfl, ⟨fun k => addC ⟨X, nv, 0⟩ (k * 3), fun k x hx => ?_⟩⟩
    have hk : k < vs.length := (List.getElem?_eq_some_iff.1 hx).1
    have hlen : 3 ≤ (cs.drop (k * 3)).length := by rw [List.length_drop]; omega
    refine ⟨?_, (cs.drop (k * 3)).take 3, fun s' hs => ?_, by rw [List.length_take]; omega, ?_, ?_⟩
    · have hbl : Nat.blt k vs.length = true := by simp [Nat.blt]; omega
      have h33 : Nat.beq 3 3 = true := rfl
      simp only [doIndexAddr, und31, ty_size33, h33, hbl, Bool.and_self, cond_true]
    · have hg := hs X _ h1 h3
      simp only [loadCells, addC, hg, findVer]
      rw [show Nat.beq nv nv = true from Nat.beq_refl nv]
      simp only [cond_true, ble0, Nat.zero_add, Nat.sub_zero]
      exact takeExact_take _ _ hlen
    · rw [List.all_eq_true] at h5 ⊢
      exact fun y hy => h5 y (List.mem_of_mem_drop (List.mem_of_mem_take hy))
    · exact RdVl.mono (fun s'' hs g B hg _ hB => hs g B hg hB) n x _ (h6 trivial k x hx)

theorem elem33 : elemOk Tryz.prog 33 3 = true := by kernel_rfl
theorem noInt31 : noInt Tryz.prog 31 = true := by kernel_rfl

theorem Grow.step {P Q : Prop} {n L : Nat} {s s1 : S} {v : V} {vs : List Vl} {x : Vl} {l : List V} (h : Grow P n L s v vs) (hL : L ≤ s.next) (hw : WF s) (hw1 : WF s1) (hk : ∀ g B, L ≤ g → s.get g = some B → s1.get g = some B) (hn : s.next ≤ s1.next)
    (hx : Q → RdVl (Kn s.next s1) n x l) (hl : l.length = 3) (ho : l.all V.one = true) (hb : vs.length ≤ 4001) :
    ∃ v' s3, appendV Tryz.prog 31 31 (s1.alloc (.cells 33 false 1 [⟨0, 0, l⟩])) v (.slice ⟨s1.next, 0, 0⟩ 0 1 (some 1) 3) = some (v', s3) ∧ Ab L s1 s3 ∧ Nat.ble (s1.alloc (.cells 33 false 1 [⟨0, 0, l⟩])).next s3.next = true ∧ Grow (P ∧ Q) n L s3 v' (vs ++ [x]) := by
  have g1 : S.get (s1.alloc (.cells 33 false 1 [⟨0, 0, l⟩])) s1.next = some (.cells 33 false 1 [⟨0, 0, l⟩]) := get_alloc_same _ _
  have hw2 : WF (s1.alloc (.cells 33 false 1 [⟨0, 0, l⟩])) := (Fw.alloc [] hw1 _).wf hw1
  have hf2 := Fw.alloc [] hw1 (.cells 33 false 1 [⟨0, 0, l⟩])
  have hn2 : (s1.alloc (.cells 33 false 1 [⟨0, 0, l⟩])).next = s1.next + 1 := S.next_alloc _ _
  have ha : appended (s1.alloc (.cells 33 false 1 [⟨0, 0, l⟩])) 3 (.slice ⟨s1.next, 0, 0⟩ 0 1 (some 1) 3) = some (l, 1) := by
    simp only [appended, ldn g1, List.drop_zero, Nat.one_mul, takeExact_all l 3 hl]
    rfl
  generalize hs2 : s1.alloc (.cells 33 false 1 [⟨0, 0, l⟩]) = s2 at *
  have e0 : ∀ v, appendV Tryz.prog 31 31 s2 v (.slice ⟨s1.next, 0, 0⟩ 0 1 (some 1) 3) = appendTo s2 33 3 v (some (l, 1)) := by
    intro v; simp only [appendV, und31, noInt31, ty_size33, elem33, cond_true, ha]
  rw [e0]
  rcases h with ⟨rfl, rfl⟩ | ⟨X, nv, rest, cs, h1, rfl, h3, h4, h5, h6⟩
  · refine ⟨.slice ⟨s2.next, 0, 0⟩ 0 1 none 3, s2.alloc (.cells 33 false 1 [⟨0, 0, l⟩]), rfl, ?_, ble_alloc1 _ _, ?_⟩
    · have hf3 := hf2.trans (Fw.alloc [] hw2 (.cells 33 false 1 [⟨0, 0, l⟩]))
      exact ⟨fun g B _ hB => hf3.keep g B (by simp) hB, hf3.ro, hf3.next, hf3.wf hw1⟩
    · refine .inr ⟨s2.next, 0, [], l, by omega, rfl, get_alloc_same _ _, by simpa using hl, ho, fun hPQ i y hy => ?_⟩
      have hi : i = 0 := by
        have := (List.getElem?_eq_some_iff.1 hy).1
        simp at this; exact this
      subst hi
      simp at hy; subst hy
      have e : (l.drop (0 * 3)).take 3 = l := by simp [List.take_of_length_le (show l.length ≤ 3 by omega)]
      rw [e]
      refine RdVl.mono (fun s'' hs g B hg hB => ?_) n x l (hx hPQ.2)
      have hg1 := hw1 g B hB
      exact hs g B (by omega) (by omega) ((Fw.alloc [] hw2 _).keep g B (by simp) (hf2.keep g B (by simp) hB))
  · have hXs : X < s.next := hw X _ h3
    have g2 := hf2.keep X _ (by simp) (hk X _ h1 h3)
    have hbn : Nat.ble vs.length 1000000 = true := Nat.ble_eq_true_of_le (by omega)
    have hv : findVer (⟨nv, 0, cs⟩ :: rest) nv = some ⟨nv, 0, cs⟩ := by simp only [findVer, Nat.beq_refl, cond_true]
    have ht : takeExact (vs.length * 3) (cs.drop 0) = some cs := takeExact_all cs _ h4
    have hgrow : growS s2 33 ⟨X, nv, 0⟩ 0 vs.length none 3 l 1 = some (growNone s2 X 0 0 vs.length 3 33 false (nv + 1) (⟨nv, 0, cs⟩ :: rest) (cs ++ l) 1) := by
      simp only [growS, g2, hv, ble0, cond_true, Nat.sub_zero, ht, ho]
    have e1 : appendTo s2 33 3 (.slice ⟨X, nv, 0⟩ 0 vs.length none 3) (some (l, 1)) = growS s2 33 ⟨X, nv, 0⟩ 0 vs.length none 3 l 1 := by
      have : Nat.ble 1 1000000 = true := rfl
      have h33 : Nat.beq 3 3 = true := rfl
      have h10 : Nat.beq 1 0 = false := rfl
      simp only [appendTo, this, h33, hbn, h10, Bool.and_self, cond_true, cond_false]
    rw [e1, hgrow]
    refine ⟨_, _, rfl, ?_, ble_put _ _ _, ?_⟩
    · have hput := Fw.put (F := [X]) (by simp) g2 (fun _ h => by cases h) (.cells 33 false (nv + 1 + 1) (⟨nv + 1, 0, cs ++ l⟩ :: (⟨nv, 0, cs⟩ :: rest).filter fun u => Nat.ble (u.lo + u.cells.length) (0 + vs.length * 3)))
      refine ⟨fun g B hg hB => hput.keep g B (by simp; omega) (hf2.keep g B (by simp) hB), fun g vs hg => hput.ro g vs (hf2.ro g vs hg), Nat.le_trans hf2.next hput.next, hput.wf hw2⟩
    · refine .inr ⟨X, nv + 1, _, cs ++ l, h1, by simp, by rw [S.get_put, if_pos rfl], by simp [h4, hl]; omega, by simp [h5, ho], fun hPQ i y hy => ?_⟩
      have hput : ∀ g B, g ≠ X → s2.get g = some B → (s2.put X (.cells 33 false (nv + 1 + 1) (⟨nv + 1, 0, cs ++ l⟩ :: (⟨nv, 0, cs⟩ :: rest).filter fun u => Nat.ble (u.lo + u.cells.length) (0 + vs.length * 3)))).get g = some B := by
        intro g B hg hB
        rw [S.get_put, if_neg (fun e => hg e.symm)]; exact hB
      by_cases hi : i < vs.length
      · rw [List.getElem?_append_left hi] at hy
        have e : ((cs ++ l).drop (i * 3)).take 3 = (cs.drop (i * 3)).take 3 := by
          rw [List.drop_append_of_le_length (by omega), List.take_append_of_le_length (by rw [List.length_drop]; omega)]
        rw [e]
        exact RdVl.mono (fun s'' hs g B hg hne hB => hs g B hg hne (hput g B hne (hf2.keep g B (by simp) (hk g B hg hB)))) n y _ (h6 hPQ.1 i y hy)
      · have hi : i = vs.length := by
          have := (List.getElem?_eq_some_iff.1 hy).1
          simp at this; omega
        subst hi
        simp at hy; subst hy
        have e : ((cs ++ l).drop (vs.length * 3)).take 3 = l := by
          rw [← h4, List.drop_left, List.take_of_length_le (by omega)]
        rw [e]
        refine RdVl.mono (fun s'' hs g B hg hB => ?_) n x l (hx hPQ.2)
        exact hs g B (by omega) (by omega) (hput g B (by omega) (hf2.keep g B (by simp) hB))
end Go.AI.Sv
