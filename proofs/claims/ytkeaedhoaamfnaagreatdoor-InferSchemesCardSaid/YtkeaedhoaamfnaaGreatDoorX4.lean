/- Symbolic walks in the evaluator: part 4. No conditions beyond those of the row. -/
import Derived.Test.YtkeaedhoaamfnaaGreatDoorX3
set_option linter.unusedVariables false
set_option linter.unusedSimpArgs false
noncomputable section
namespace Go.AI
theorem ay {E : cx} {f : FuncId} {ws : List V} {s : S} {P : V → S → Prop} (h : Co E f ws s (sq P)) : Cw E f ws s P := by
 obtain ⟨o, h1, v, s', rfl, h2⟩ := h
 exact ⟨v, s', h1, h2⟩
class gP {α : Type} (l : List α) (x : α) (r : outParam (List α)) : Prop where
 eq : l ++ [x] = r
instance gP.nil {α : Type} {x : α} : gP [] x [x] := ⟨rfl⟩
instance gP.cons {α : Type} {a x : α} {l r : List α} [h : gP l x r] : gP (a :: l) x (a :: r) := ⟨by rw [List.cons_append, h.eq]⟩
class lZ {α : Type} (l m : List α) (r : outParam (List α)) : Prop where
 eq : l ++ m = r
instance lZ.nil {α : Type} {m : List α} : lZ [] m m := ⟨rfl⟩
instance lZ.cons {α : Type} {a : α} {l m r : List α} [h : lZ l m r] : lZ (a :: l) m (a :: r) := ⟨by rw [List.cons_append, h.eq]⟩
section
variable {E : cx} {F : List Nat} {s0 : S} {Q : dz → Prop} {σ R : List V} {β : List Nat} {D : List Nat} {U : S → Prop} {L : List bS} {k : ax} {u : Bool} {own : List (Nat × bZ)} {v x y w : V} {ty : TypeId} {c : Bool} {kd : IntKind} {a b r : Int}
theorem gO {vs : List V} (hs : lZ σ vs R) : (⟨σ, β⟩ : Sg).add vs = ⟨R, β⟩ := by simp only [Sg.add, hs.eq]
theorem LK (hs : gP σ w R) : (⟨σ, β⟩ : Sg).add [w] = ⟨R, β⟩ := by simp only [Sg.add, hs.eq]
theorem PF {q : lE} {n : Nat} (vs : List V) (hl : vs.length = n) (h1 : au vs) [hs : lZ σ vs R] (hr : ∀ s, Fw F s0 s → WF s → (u = true → U s) → eo ⟨σ, β⟩ s own → (q.sub ⟨σ, β⟩).run E.P s = some (sub ⟨R, β⟩ v)) (hk : ai E F s0 Q k ⟨R, β⟩ D U L) :
 ai E F s0 Q (.ask q u own n v k) ⟨σ, β⟩ D U L := ⟨vs, hl, h1, by rw [gO hs]; exact hr, by rw [gO hs]; exact hk⟩
theorem ao {q : lE} (w : V) (h1 : w.one = true) (hr : ∀ s, Fw F s0 s → WF s → (u = true → U s) → eo ⟨σ, β⟩ s own → (q.sub ⟨σ, β⟩).run E.P s = some w) [hs : gP σ w R] (hv : sub ⟨R, β⟩ v = w) (hk : ai E F s0 Q k ⟨R, β⟩ D U L) :
 ai E F s0 Q (.ask q u own 1 v k) ⟨σ, β⟩ D U L := ⟨[w], rfl, by simp [au, h1], fun s a b c d => by rw [LK hs, hv]; exact hr s a b c d, by rw [LK hs]; exact hk⟩
theorem jA {op : BinOp} (hx : sub ⟨σ, β⟩ x = .int kd a) (hy : sub ⟨σ, β⟩ y = .int kd b) {w : V} (h1 : w.one = true) (hop : bH op = false ∧ di op kd a b = some w) [hs : gP σ (w) R] (hv : sub ⟨R, β⟩ v = w) (hk : ai E F s0 Q k ⟨R, β⟩ D U L) :
 ai E F s0 Q (.ask (.bin op ty c x y) u own 1 v k) ⟨σ, β⟩ D U L :=
 ao w h1 (fun s _ _ _ _ => by
  simp only [lE.sub, lE.run, hx, hy, xo]
  have : qy E.P op ty c (.int kd a) (.int kd b) = true := by unfold qy; cases eg op <;> rfl
  rw [this, cond_true]
  simp only [bt, hop.1, aU, decide_true, cond_true, cond_false, hop.2]) hv hk
theorem br (hx : sub ⟨σ, β⟩ x = .int kd a) (hy : sub ⟨σ, β⟩ y = .int kd b) (hr : kd.wrap (a + b) = r) [hs : gP σ (.int kd r) R] (hv : sub ⟨R, β⟩ v = .int kd r) (hk : ai E F s0 Q k ⟨R, β⟩ D U L) : ai E F s0 Q (.ask (.bin .add ty c x y) u own 1 v k) ⟨σ, β⟩ D U L :=
 jA hx hy rfl ⟨rfl, by simp only [di, aX, hr]⟩ hv hk
theorem Aa (hx : sub ⟨σ, β⟩ x = .int kd a) (hy : sub ⟨σ, β⟩ y = .int kd b) (hr : kd.wrap (a - b) = r) [hs : gP σ (.int kd r) R] (hv : sub ⟨R, β⟩ v = .int kd r) (hk : ai E F s0 Q k ⟨R, β⟩ D U L) : ai E F s0 Q (.ask (.bin .sub ty c x y) u own 1 v k) ⟨σ, β⟩ D U L :=
 jA hx hy rfl ⟨rfl, by simp only [di, aX, hr]⟩ hv hk
theorem PE (hx : sub ⟨σ, β⟩ x = .int kd a) (hy : sub ⟨σ, β⟩ y = .int kd b) (hr : kd.wrap (a * b) = r) [hs : gP σ (.int kd r) R] (hv : sub ⟨R, β⟩ v = .int kd r) (hk : ai E F s0 Q k ⟨R, β⟩ D U L) : ai E F s0 Q (.ask (.bin .mul ty c x y) u own 1 v k) ⟨σ, β⟩ D U L :=
 jA hx hy rfl ⟨rfl, by simp only [di, aX, hr]⟩ hv hk
theorem cP (hx : sub ⟨σ, β⟩ x = .int kd a) (hy : sub ⟨σ, β⟩ y = .int kd b) [hs : gP σ (.bool (decide (a < b))) R] (hv : sub ⟨R, β⟩ v = .bool (decide (a < b))) (hk : ai E F s0 Q k ⟨R, β⟩ D U L) : ai E F s0 Q (.ask (.bin .lss ty c x y) u own 1 v k) ⟨σ, β⟩ D U L :=
 jA hx hy rfl ⟨rfl, rfl⟩ hv hk
theorem wZ (hx : sub ⟨σ, β⟩ x = .int kd a) (hy : sub ⟨σ, β⟩ y = .int kd b) [hs : gP σ (.bool (decide (a ≤ b))) R] (hv : sub ⟨R, β⟩ v = .bool (decide (a ≤ b))) (hk : ai E F s0 Q k ⟨R, β⟩ D U L) : ai E F s0 Q (.ask (.bin .leq ty c x y) u own 1 v k) ⟨σ, β⟩ D U L :=
 jA hx hy rfl ⟨rfl, rfl⟩ hv hk
theorem gp (hx : sub ⟨σ, β⟩ x = .int kd a) (hy : sub ⟨σ, β⟩ y = .int kd b) [hs : gP σ (.bool (decide (a > b))) R] (hv : sub ⟨R, β⟩ v = .bool (decide (a > b))) (hk : ai E F s0 Q k ⟨R, β⟩ D U L) : ai E F s0 Q (.ask (.bin .gtr ty c x y) u own 1 v k) ⟨σ, β⟩ D U L :=
 jA hx hy rfl ⟨rfl, rfl⟩ hv hk
theorem xa (hx : sub ⟨σ, β⟩ x = .int kd a) (hy : sub ⟨σ, β⟩ y = .int kd b) [hs : gP σ (.bool (decide (a ≥ b))) R] (hv : sub ⟨R, β⟩ v = .bool (decide (a ≥ b))) (hk : ai E F s0 Q k ⟨R, β⟩ D U L) : ai E F s0 Q (.ask (.bin .geq ty c x y) u own 1 v k) ⟨σ, β⟩ D U L :=
 jA hx hy rfl ⟨rfl, rfl⟩ hv hk
theorem Sx (a b : Int) : (a == b) = decide (a = b) := by by_cases h : a = b <;> simp [h]
theorem Sw (a b : Int) : (a != b) = decide (a ≠ b) := by by_cases h : a = b <;> simp [h, bne]
theorem cQ (hx : sub ⟨σ, β⟩ x = .int kd a) (hy : sub ⟨σ, β⟩ y = .int kd b) [hs : gP σ (.bool (decide (a = b))) R] (hv : sub ⟨R, β⟩ v = .bool (decide (a = b))) (hk : ai E F s0 Q k ⟨R, β⟩ D U L) : ai E F s0 Q (.ask (.bin .eql ty c x y) u own 1 v k) ⟨σ, β⟩ D U L :=
 jA hx hy rfl ⟨rfl, by simp only [di, Sx]⟩ hv hk
theorem iv (hx : sub ⟨σ, β⟩ x = .int kd a) (hy : sub ⟨σ, β⟩ y = .int kd b) [hs : gP σ (.bool (decide (a ≠ b))) R] (hv : sub ⟨R, β⟩ v = .bool (decide (a ≠ b))) (hk : ai E F s0 Q k ⟨R, β⟩ D U L) : ai E F s0 Q (.ask (.bin .neq ty c x y) u own 1 v k) ⟨σ, β⟩ D U L :=
 jA hx hy rfl ⟨rfl, by simp only [di, Sw]⟩ hv hk
theorem vY : ∀ {p q : List Nat}, (∀ z ∈ p, z < 256) → (∀ z ∈ q, z < 256) → iF p q = some (decide (p = q))
 | [], [], _, _ => rfl
 | [], _ :: _, _, _ => rfl
 | _ :: _, [], _, _ => rfl
 | x :: p, y :: q, hp, hq => by
  have ih := vY (p := p) (q := q) (fun z hz => hp z (List.mem_cons_of_mem _ hz)) (fun z hz => hq z (List.mem_cons_of_mem _ hz))
  have hx : Nat.blt x 256 = true := Nat.ble_eq_true_of_le (hp x (by simp))
  have hy : Nat.blt y 256 = true := Nat.ble_eq_true_of_le (hq y (by simp))
  simp only [iF]
  cases hb : Nat.beq x y with
  | true =>
   have := Nat.eq_of_beq_eq_true hb; subst this
   simp only [cond_true, ih, List.cons.injEq, true_and]
  | false =>
   have hn : x ≠ y := fun h => by subst h; rw [Nat.beq_refl] at hb; cases hb
   simp only [cond_false, hx, hy, Bool.and_self, cond_true, List.cons.injEq, hn, false_and, decide_false]
theorem mT {op : BinOp} {p q : List Nat} (hx : sub ⟨σ, β⟩ x = .str p) (hy : sub ⟨σ, β⟩ y = .str q) {w : V} (h1 : w.one = true) (hop : lG op p q = some w) [hs : gP σ (w) R] (hv : sub ⟨R, β⟩ v = w) (hk : ai E F s0 Q k ⟨R, β⟩ D U L) :
 ai E F s0 Q (.ask (.bin op ty c x y) u own 1 v k) ⟨σ, β⟩ D U L :=
 ao w h1 (fun s _ _ _ _ => by
  simp only [lE.sub, lE.run, hx, hy, xo]
  have : qy E.P op ty c (.str p) (.str q) = true := by unfold qy; cases eg op <;> rfl
  rw [this, cond_true]
  simp only [bt, hop]) hv hk
theorem gi {p q : List Nat} (hx : sub ⟨σ, β⟩ x = .str p) (hy : sub ⟨σ, β⟩ y = .str q) (hp : ∀ z ∈ p, z < 256) (hq : ∀ z ∈ q, z < 256) [hs : gP σ (.bool (decide (p = q))) R] (hv : sub ⟨R, β⟩ v = .bool (decide (p = q))) (hk : ai E F s0 Q k ⟨R, β⟩ D U L) :
 ai E F s0 Q (.ask (.bin .eql ty c x y) u own 1 v k) ⟨σ, β⟩ D U L := mT hx hy rfl (by simp only [lG, vY hp hq, Option.map]) hv hk
theorem wY {p q : List Nat} (hx : sub ⟨σ, β⟩ x = .str p) (hy : sub ⟨σ, β⟩ y = .str q) (hp : ∀ z ∈ p, z < 256) (hq : ∀ z ∈ q, z < 256) [hs : gP σ (.bool (!decide (p = q))) R] (hv : sub ⟨R, β⟩ v = .bool (!decide (p = q))) (hk : ai E F s0 Q k ⟨R, β⟩ D U L) :
 ai E F s0 Q (.ask (.bin .neq ty c x y) u own 1 v k) ⟨σ, β⟩ D U L := mT hx hy rfl (by simp only [lG, vY hp hq, Option.map]) hv hk
theorem dR {q : Bool} (hx : sub ⟨σ, β⟩ x = .bool q) [hs : gP σ (.bool (!q)) R] (hv : sub ⟨R, β⟩ v = .bool (!q)) (hk : ai E F s0 Q k ⟨R, β⟩ D U L) : ai E F s0 Q (.ask (.un .not x) u own 1 v k) ⟨σ, β⟩ D U L :=
 ao _ rfl (fun s _ _ _ _ => by simp only [lE.sub, lE.run, hx, pu]) hv hk
theorem ST (hx : sub ⟨σ, β⟩ x = .int kd a) (hr : kd.wrap (0 - a) = r) [hs : gP σ (.int kd r) R] (hv : sub ⟨R, β⟩ v = .int kd r) (hk : ai E F s0 Q k ⟨R, β⟩ D U L) : ai E F s0 Q (.ask (.un .neg x) u own 1 v k) ⟨σ, β⟩ D U L :=
 ao _ rfl (fun s _ _ _ _ => by simp only [lE.sub, lE.run, hx, pu, hr]) hv hk
theorem dV {l : List Nat} {ts : Array TypeId} {t0 : TypeId} (ht : ts[0]? = some t0) (hu : E.P.underlying t0 = some .string) (hx : sub ⟨σ, β⟩ x = .str l) [hs : gP σ (.int .i64 (l.length : Int)) R] (hv : sub ⟨R, β⟩ v = .int .i64 (l.length : Int)) (hk : ai E F s0 Q k ⟨R, β⟩ D U L) :
 ai E F s0 Q (.ask (.bif .len ts [x]) u own 1 v k) ⟨σ, β⟩ D U L :=
 ao _ rfl (fun s _ _ _ _ => by simp only [lE.sub, lE.run, iD, hx, dS, ht, lM, hu, bp, gh, aX]) hv hk
theorem bT {ts : Array TypeId} {t0 : TypeId} {n : Nat} (ht : ts[0]? = some t0) (hx : ∀ s, Fw F s0 s → WF s → lM E.P t0 s (sub ⟨σ, β⟩ x) = some (.int .i64 (n : Int))) [hs : gP σ (.int .i64 (n : Int)) R] (hv : sub ⟨R, β⟩ v = .int .i64 (n : Int)) (hk : ai E F s0 Q k ⟨R, β⟩ D U L) :
 ai E F s0 Q (.ask (.bif .len ts [x]) u own 1 v k) ⟨σ, β⟩ D U L :=
 ao _ rfl (fun s h1 h2 _ _ => by simp only [lE.sub, lE.run, iD, dS, ht, hx s h1 h2, bp, gh]) hv hk
theorem fL {l : List Nat} {n ch : Nat} (hu : E.P.underlying ty = some .string) (hx : sub ⟨σ, β⟩ x = .str l) (hi : sub ⟨σ, β⟩ y = .int kd (n : Int)) (hc : l[n]? = some ch ∧ ch < 256) [hs : gP σ (.int .u8 (ch : Int)) R] (hv : sub ⟨R, β⟩ v = .int .u8 (ch : Int)) (hk : ai E F s0 Q k ⟨R, β⟩ D U L) :
 ai E F s0 Q (.ask (.index ty x y) u own 1 v k) ⟨σ, β⟩ D U L :=
 ao _ rfl (fun s _ _ _ _ => by
  simp only [lE.sub, lE.run, hx, hi]
  rw [show jy (.int kd (n : Int)) = some n from rfl]
  simp only [kX, hu, hc.1, lV]
  show some (V.int .u8 ((ch % 256 : Nat) : Int)) = _
  rw [Nat.mod_eq_of_lt hc.2]) hv hk
theorem lP {l : List Nat} {n m : Nat} {o1 o2 : Option V} (hu : E.P.underlying ty = some .string) (hx : sub ⟨σ, β⟩ x = .str l) (hlo : nf (HO ⟨σ, β⟩ o1) 0 = some n) (hhi : nf (HO ⟨σ, β⟩ o2) l.length = some m) (h1 : n ≤ m) (h2 : m ≤ l.length)
 [hs : gP σ (.str ((l.drop n).take (m - n))) R] (hv : sub ⟨R, β⟩ v = .str ((l.drop n).take (m - n))) (hk : ai E F s0 Q k ⟨R, β⟩ D U L) : ai E F s0 Q (.ask (.slice ty x o1 o2 none) u own 1 v k) ⟨σ, β⟩ D U L :=
 ao _ rfl (fun s _ _ _ _ => by
  simp only [lE.sub, lE.run, hx, iA, qk, hu, HO, Option.map] at hlo hhi ⊢
  simp only [hlo, hhi, Nat.ble_eq_true_of_le h1, Nat.ble_eq_true_of_le h2, Bool.and_self, cond_true]) hv hk
theorem vA {src dst : TypeId} {kd' : IntKind} (h1 : (E.P.underlying src).isSome = true) (h2 : E.P.underlying dst = some (.int kd')) (hx : sub ⟨σ, β⟩ x = .int kd a) (hr : kd'.wrap a = r) [hs : gP σ (.int kd' r) R] (hv : sub ⟨R, β⟩ v = .int kd' r) (hk : ai E F s0 Q k ⟨R, β⟩ D U L) :
 ai E F s0 Q (.ask (.conv src dst x) u own 1 v k) ⟨σ, β⟩ D U L :=
 ao _ rfl (fun s _ _ _ _ => by
  simp only [lE.sub, lE.run, hx, je, h2, cond_true, jm]
  cases hs : E.P.underlying src with
  | none => rw [hs] at h1; cases h1
  | some ds => simp only [Option.map, aX, hr]) hv hk
theorem aB {i : Nat} {t1 t2 : ax} {q : Bool} (hq : Sg.val ⟨σ, β⟩ i = .bool q) (h1 : q = true → ai E F s0 Q t1 ⟨σ, β⟩ D U L) (h2 : q = false → ai E F s0 Q t2 ⟨σ, β⟩ D U L) : ai E F s0 Q (.cond i t1 t2) ⟨σ, β⟩ D U L := ⟨q, hq, h1, h2⟩
theorem aP {i : Nat} {t1 t2 : ax} {p : Prop} [Decidable p] (hq : Sg.val ⟨σ, β⟩ i = .bool (decide p)) (h1 : p → ai E F s0 Q t1 ⟨σ, β⟩ D U L) (h2 : ¬ p → ai E F s0 Q t2 ⟨σ, β⟩ D U L) : ai E F s0 Q (.cond i t1 t2) ⟨σ, β⟩ D U L :=
 ⟨decide p, hq, fun h => h1 (of_decide_eq_true h), fun h => h2 (of_decide_eq_false h)⟩
theorem aN {B : Nat → List Nat} [hs : ∀ b, gP β b (B b)] (hk : ∀ b, s0.next ≤ b → b ∉ D → ai E F s0 Q k ⟨σ, B b⟩ D U L) : ai E F s0 Q (.new k) ⟨σ, β⟩ D U L := fun b h1 h2 => by rw [(hs b).eq]; exact hk b h1 h2
theorem ak (h : ∀ s, Fw F s0 s → WF s → U s → eo ⟨σ, β⟩ s own → Q ⟨.returned (sub ⟨σ, β⟩ v), none, s⟩) : ai E F s0 Q (.ret v own) ⟨σ, β⟩ D U L := h
theorem SS (h : ∀ s, Fw F s0 s → WF s → U s → eo ⟨σ, β⟩ s own → Q ⟨.panicked [⟨sub ⟨σ, β⟩ v, false⟩], none, s⟩) : ai E F s0 Q (.pan v own) ⟨σ, β⟩ D U L := h
theorem gI {f : FuncId} {args : List V} {n : Nat} {pk : Bool} {P : V → S → Prop} (hc : ∀ s, Fw F s0 s → WF s → U s → eo ⟨σ, β⟩ s own → Cw E f (args.map (sub ⟨σ, β⟩)) s fun w s' => P w s' ∧ Fw [] s s')
 (hk : ∀ w s s', P w s' → Fw F s0 s → Fw F s0 s' → ∃ vs R : List V, lZ σ vs R ∧ vs.length = n ∧ au vs ∧ sub ⟨R, β⟩ v = w ∧ ai E F s0 Q k ⟨R, β⟩ D U L) : ai E F s0 Q (.call f args own [] n v pk k) ⟨σ, β⟩ D U L := by
 intro s hf hw hu hfa
 obtain ⟨w, s', h1, h2, h3⟩ := hc s hf hw hu hfa
 obtain ⟨vs, R, k0, k1, k2, k3, k4⟩ := hk w s s' h2 hf (hf.trans (h3.mono (by simp)))
 exact .inl ⟨vs, s', k1, k2, by rw [gO k0, k3]; exact h1, h3, trivial, by rw [gO k0]; exact k4⟩
theorem DC (vs : List V) [hs : lZ σ vs R] {n : Nat} {w : V} (h3 : sub ⟨R, β⟩ v = w) (h1 : vs.length = n) (h2 : au vs) (h4 : ai E F s0 Q k ⟨R, β⟩ D U L) : ∃ vs R : List V, lZ σ vs R ∧ vs.length = n ∧ au vs ∧ sub ⟨R, β⟩ v = w ∧ ai E F s0 Q k ⟨R, β⟩ D U L :=
 ⟨vs, R, hs, h1, h2, h3, h4⟩
theorem xS {vs : List V} [hs : lZ σ vs R] {n : Nat} (h1 : vs.length = n) (h2 : au vs) (h3 : sub ⟨R, β⟩ v = .agg vs) (h4 : ai E F s0 Q k ⟨R, β⟩ D U L) : ∃ vs' R : List V, lZ σ vs' R ∧ vs'.length = n ∧ au vs' ∧ sub ⟨R, β⟩ v = .agg vs ∧ ai E F s0 Q k ⟨R, β⟩ D U L :=
 ⟨vs, R, hs, h1, h2, h3, h4⟩
theorem LH {w : V} [hs : gP σ w R] (h2 : w.one = true) (h3 : sub ⟨R, β⟩ v = w) (h4 : ai E F s0 Q k ⟨R, β⟩ D U L) : ∃ vs' R : List V, lZ σ vs' R ∧ vs'.length = 1 ∧ au vs' ∧ sub ⟨R, β⟩ v = w ∧ ai E F s0 Q k ⟨R, β⟩ D U L :=
 ⟨[w], R, ⟨hs.eq⟩, rfl, by simp [au, h2], h3, h4⟩
theorem aj {f : FuncId} {args : List V} {pk : Bool} (w : V) (hc : ∀ s, Fw F s0 s → WF s → U s → eo ⟨σ, β⟩ s own → Cw E f (args.map (sub ⟨σ, β⟩)) s fun w' s' => w' = w ∧ Fw [] s s') (ho : w.one = true) [hs : gP σ w R] (hv : sub ⟨R, β⟩ v = w)
 (hk : ai E F s0 Q k ⟨R, β⟩ D U L) : ai E F s0 Q (.call f args own [] 1 v pk k) ⟨σ, β⟩ D U L :=
 gI (P := fun w' _ => w' = w) hc fun w' _ _ hw _ _ => by subst hw; exact ⟨[w'], R, ⟨hs.eq⟩, rfl, by simp [au, ho], hv, hk⟩
theorem FO {f : FuncId} {args : List V} (w : V) (hc : ∀ s, Fw F s0 s → WF s → U s → eo ⟨σ, β⟩ s own → Cw E f (args.map (sub ⟨σ, β⟩)) s fun w' s' => w' = w ∧ Fw [] s s') (ho : w.one = true) [hs : gP σ w R] (hv : sub ⟨R, β⟩ v = w)
 (hk : ai E F s0 Q k ⟨R, β⟩ D U L) : ai E F s0 Q (.callS f args own 1 v k) ⟨σ, β⟩ D U L := by
 intro s hf hw hu hfa
 obtain ⟨w', s', h1, rfl, h3⟩ := hc s hf hw hu hfa
 have k0 : lZ σ [w'] R := ⟨hs.eq⟩
 exact ⟨[w'], s', rfl, by simp [au, ho], by rw [gO k0, hv]; exact h1, h3, by rw [gO k0]; exact hk⟩
theorem RJ {f : FuncId} {args : List V} {n : Nat} {P : V → S → Prop} {N : List vJ → S → Prop} (hc : ∀ s, Fw F s0 s → WF s → U s → eo ⟨σ, β⟩ s own → Co E f (args.map (sub ⟨σ, β⟩)) s (RP (fun w s' => P w s' ∧ Fw [] s s') (fun c s' => N c s' ∧ Fw [] s s')))
 (hp : ∀ c s s', N c s' → Fw F s0 s → eo ⟨σ, β⟩ s own → Fw [] s s' → Q ⟨.panicked c, none, s'⟩)
 (hk : ∀ w s s', P w s' → Fw F s0 s → Fw F s0 s' → ∃ vs R : List V, lZ σ vs R ∧ vs.length = n ∧ au vs ∧ sub ⟨R, β⟩ v = w ∧ ai E F s0 Q k ⟨R, β⟩ D U L) : ai E F s0 Q (.call f args own [] n v true k) ⟨σ, β⟩ D U L := by
 intro s hf hw hu hfa
 obtain ⟨o, h1, h2⟩ := hc s hf hw hu hfa
 rcases h2 with ⟨w, s', rfl, h2, h3⟩ | ⟨c, s', rfl, h2, h3⟩
 ·obtain ⟨vs, R, k0, k1, k2, k3, k4⟩ := hk w s s' h2 hf (hf.trans (h3.mono (by simp)))
  exact .inl ⟨vs, s', k1, k2, by rw [gO k0, k3]; exact h1, h3, trivial, by rw [gO k0]; exact k4⟩
 ·exact .inr (.inr ⟨rfl, c, s', h1, hp c s s' h2 hf hfa h3⟩)
theorem cU {f : FuncId} {args : List V} {n : Nat} {after : List (Nat × bZ)} {pk : Bool}
 (hc : ∀ s, Fw F s0 s → WF s → U s → eo ⟨σ, β⟩ s own →
  (∃ (vs R : List V) (s' : S) (D' : List Nat) (U' : S → Prop), lZ σ vs R ∧ vs.length = n ∧ au vs ∧ lim E (.call f (args.map (sub ⟨σ, β⟩)) none) s = some ⟨.returned (sub ⟨R, β⟩ v), none, s'⟩ ∧ Fw (eI ⟨σ, β⟩ after ++ D) s s' ∧ eo ⟨R, β⟩ s' after ∧
   kz D' U' ∧ U' s' ∧ (∀ g ∈ D', g < s'.next ∧ (g ∈ D ∨ s.next ≤ g)) ∧ ai E F s0 Q k ⟨R, β⟩ D' U' L) ∨
  (pk = true ∧ ∃ c s', lim E (.call f (args.map (sub ⟨σ, β⟩)) none) s = some ⟨.panicked c, none, s'⟩ ∧ Q ⟨.panicked c, none, s'⟩)) : ai E F s0 Q (.call f args own after n v pk k) ⟨σ, β⟩ D U L := by
 intro s hf hw hu hfa
 rcases hc s hf hw hu hfa with ⟨vs, R, s', D', U', h0, h1, h2, h3, h4, h5, h6, h7, h8, h9⟩ | h
 ·exact .inr (.inl ⟨vs, s', D', U', h1, h2, by rw [gO h0]; exact h3, h4, by rw [gO h0]; exact h5, h6, h7, h8, by rw [gO h0]; exact h9⟩)
 ·exact .inr (.inr h)
theorem Lo {f : V} {args : List V} {n : Nat}
 (hc : ∀ s, Fw F s0 s → WF s → U s → eo ⟨σ, β⟩ s own → ∃ (vs R : List V) (s' : S) (D' : List Nat) (U' : S → Prop), lZ σ vs R ∧ vs.length = n ∧ au vs ∧ Hj E (sub ⟨σ, β⟩ f) (args.map (sub ⟨σ, β⟩)) s (sub ⟨R, β⟩ v) s' ∧ Fw D s s' ∧
  kz D' U' ∧ U' s' ∧ (∀ g ∈ D', g < s'.next ∧ (g ∈ D ∨ s.next ≤ g)) ∧ ai E F s0 Q k ⟨R, β⟩ D' U' L) : ai E F s0 Q (.calla f args own n v k) ⟨σ, β⟩ D U L := by
 intro s hf hw hu hfa
 obtain ⟨vs, R, s', D', U', h0, h1, h2, h3, h4, h5, h6, h7, h8⟩ := hc s hf hw hu hfa
 exact ⟨vs, s', D', U', h1, h2, by rw [gO h0]; exact h3, h4, h5, h6, h7, by rw [gO h0]; exact h8⟩
theorem gT {a : yp} {n : Nat}
 (hc : ∀ s, Fw F s0 s → WF s → U s → eo ⟨σ, β⟩ s own → ∃ (vs R : List V) (s' : S) (D' : List Nat) (U' : S → Prop), lZ σ vs R ∧ vs.length = n ∧ au vs ∧ (a.sub ⟨σ, β⟩).run E.P s = some (sub ⟨R, β⟩ v, s') ∧ Fw D s s' ∧
  kz D' U' ∧ U' s' ∧ (∀ g ∈ D', g < s'.next ∧ (g ∈ D ∨ s.next ≤ g)) ∧ ai E F s0 Q k ⟨R, β⟩ D' U' L) : ai E F s0 Q (.act a own n v k) ⟨σ, β⟩ D U L := by
 intro s hf hw hu hfa
 obtain ⟨vs, R, s', D', U', h0, h1, h2, h3, h4, h5, h6, h7, h8⟩ := hc s hf hw hu hfa
 exact ⟨vs, s', D', U', h1, h2, by rw [gO h0]; exact h3, h4, h5, h6, h7, by rw [gO h0]; exact h8⟩
theorem fv {d n : Nat} {vs : List V} {bs : List Nat} {bl : List bZ} (I : Nat → bS) (j : Nat) (h0 : I j (vs.map (sub ⟨σ, β⟩)) (bs.map (Sg.bl ⟨σ, β⟩)) D U) (hst : kz D U)
 (hk : ∀ j vs' bs' D' U', I j vs' bs' D' U' → vs'.length = n → au vs' → bs'.length = bs.length → ai E F s0 Q k ⟨vs', bs'⟩ D' U' (L.take d ++ [fun vs bs D U => ∃ j', j' < j ∧ I j' vs bs D U])) : ai E F s0 Q (.loop d n vs bs bl k) ⟨σ, β⟩ D U L :=
 ⟨I, ⟨j, U, hst, fun _ _ _ h => h, h0⟩, hk⟩
theorem iw {n : Nat} {vs : List V} {bs : List Nat} {bl : List bZ} (P : bS) (h0 : P (vs.map (sub ⟨σ, β⟩)) (bs.map (Sg.bl ⟨σ, β⟩)) D U) (hst : kz D U)
 (hk : ∀ vs' bs' D' U', P vs' bs' D' U' → vs'.length = n → au vs' → bs'.length = bs.length → ai E F s0 Q k ⟨vs', bs'⟩ D' U' L) : ai E F s0 Q (.cut n vs bs bl k) ⟨σ, β⟩ D U L :=
 ⟨P, ⟨U, hst, fun _ _ _ h => h, h0⟩, hk⟩
theorem fx {d : Nat} {vs : List V} {bs : List Nat} {P : bS} (hp : L[d]? = some P) (hst : kz D U) (h : P (vs.map (sub ⟨σ, β⟩)) (bs.map (Sg.bl ⟨σ, β⟩)) D U) : ai E F s0 Q (.back d vs bs) ⟨σ, β⟩ D U L := ⟨P, U, hp, hst, fun _ _ _ h => h, h⟩
abbrev T0 : S → Prop := fun _ => True
theorem aK {n : Nat} {vs : List V} {bs : List Nat} {bl : List bZ} (hk : ai E F s0 Q k ⟨vs.map (sub ⟨σ, β⟩), bs.map (Sg.bl ⟨σ, β⟩)⟩ [] T0 L) : ai E F s0 Q (.cut n vs bs bl k) ⟨σ, β⟩ [] T0 L :=
 iw (fun vs' bs' D' U' => vs' = vs.map (sub ⟨σ, β⟩) ∧ bs' = bs.map (Sg.bl ⟨σ, β⟩) ∧ D' = [] ∧ U' = T0) ⟨rfl, rfl, rfl, rfl⟩ am (by rintro vs' bs' D' U' ⟨rfl, rfl, rfl, rfl⟩ - - -; exact hk)
def QH (I : Nat → List V → List Nat → Prop) (j : Nat) : bS := fun vs bs D U => ∃ j', j' < j ∧ (I j' vs bs ∧ D = [] ∧ U = T0)
theorem ej {d n : Nat} {vs : List V} {bs : List Nat} {bl : List bZ} (I : Nat → List V → List Nat → Prop) (j : Nat) (h0 : I j (vs.map (sub ⟨σ, β⟩)) (bs.map (Sg.bl ⟨σ, β⟩)))
 (hk : ∀ j vs' bs', I j vs' bs' → ai E F s0 Q k ⟨vs', bs'⟩ [] T0 (L.take d ++ [QH I j])) : ai E F s0 Q (.loop d n vs bs bl k) ⟨σ, β⟩ [] T0 L :=
 fv (fun j vs bs D U => I j vs bs ∧ D = [] ∧ U = T0) j ⟨h0, rfl, rfl⟩ am (by rintro j vs' bs' D' U' ⟨h, rfl, rfl⟩ - - -; exact hk j vs' bs' h)
theorem eJ {d : Nat} {vs : List V} {bs : List Nat} {I : Nat → List V → List Nat → Prop} {j : Nat} (j' : Nat) (hp : L[d]? = some (QH I j)) (hj : j' < j) (h : I j' (vs.map (sub ⟨σ, β⟩)) (bs.map (Sg.bl ⟨σ, β⟩))) : ai E F s0 Q (.back d vs bs) ⟨σ, β⟩ [] T0 L :=
 fx hp am ⟨j', hj, h, rfl, rfl⟩
end
end Go.AI
