/- Symbolic walks in the evaluator: part 4. No conditions beyond those of the row. -/
import Derived.Test.YtkeaedhoaamfnaaGreatDoorX3
import Derived.Test.YtkeaedhoaamfnaaGreatDoorA10
import Derived.IntWalk
set_option linter.unusedVariables false
set_option linter.unusedSimpArgs false
noncomputable section
/- Symbolic walks: a line a node. -/
namespace Go.AI
theorem cw_of_co {E : Env} {f : FuncId} {ws : List V} {s : S} {P : V → S → Prop} (h : Co E f ws s (Ret P)) : Cw E f ws s P := by
  obtain ⟨o, h1, v, s', rfl, h2⟩ := h
  exact ⟨v, s', h1, h2⟩
class Snoc {α : Type} (l : List α) (x : α) (r : outParam (List α)) : Prop where
  eq : l ++ [x] = r
instance Snoc.nil {α : Type} {x : α} : Snoc [] x [x] := ⟨rfl⟩
instance Snoc.cons {α : Type} {a x : α} {l r : List α} [h : Snoc l x r] : Snoc (a :: l) x (a :: r) := ⟨by rw [List.cons_append, h.eq]⟩
class Apnd {α : Type} (l m : List α) (r : outParam (List α)) : Prop where
  eq : l ++ m = r
instance Apnd.nil {α : Type} {m : List α} : Apnd [] m m := ⟨rfl⟩
instance Apnd.cons {α : Type} {a : α} {l m r : List α} [h : Apnd l m r] : Apnd (a :: l) m (a :: r) := ⟨by rw [List.cons_append, h.eq]⟩
section
variable {E : Env} {F : List Nat} {s0 : S} {Q : Out → Prop} {σ R : List V} {β : List Nat} {D : List Nat} {U : S → Prop} {L : List LProp} {k : Tree} {u : Bool} {own : List (Nat × Blk)} {v x y w : V} {ty : TypeId} {c : Bool} {kd : IntKind} {a b r : Int}
theorem add_of {vs : List V} (hs : Apnd σ vs R) : (⟨σ, β⟩ : Sg).add vs = ⟨R, β⟩ := by simp only [Sg.add, hs.eq]
theorem add1_of (hs : Snoc σ w R) : (⟨σ, β⟩ : Sg).add [w] = ⟨R, β⟩ := by simp only [Sg.add, hs.eq]
theorem h_ask {q : Ask} {n : Nat} (vs : List V) (hl : vs.length = n) (h1 : onesV vs) [hs : Apnd σ vs R] (hr : ∀ s, Fw F s0 s → WF s → (u = true → U s) → facts ⟨σ, β⟩ s own → (q.sub ⟨σ, β⟩).run E.P s = some (sub ⟨R, β⟩ v)) (hk : holds E F s0 Q k ⟨R, β⟩ D U L) :
    holds E F s0 Q (.ask q u own n v k) ⟨σ, β⟩ D U L := ⟨vs, hl, h1, by rw [add_of hs]; exact hr, by rw [add_of hs]; exact hk⟩
theorem h_ask1 {q : Ask} (w : V) (h1 : w.one = true) (hr : ∀ s, Fw F s0 s → WF s → (u = true → U s) → facts ⟨σ, β⟩ s own → (q.sub ⟨σ, β⟩).run E.P s = some w) [hs : Snoc σ w R] (hv : sub ⟨R, β⟩ v = w) (hk : holds E F s0 Q k ⟨R, β⟩ D U L) :
    holds E F s0 Q (.ask q u own 1 v k) ⟨σ, β⟩ D U L := ⟨[w], rfl, by simp [onesV, h1], fun s a b c d => by rw [add1_of hs, hv]; exact hr s a b c d, by rw [add1_of hs]; exact hk⟩
theorem h_int {op : BinOp} (hx : sub ⟨σ, β⟩ x = .int kd a) (hy : sub ⟨σ, β⟩ y = .int kd b) {w : V} (h1 : w.one = true) (hop : isShift op = false ∧ intOp op kd a b = some w) [hs : Snoc σ (w) R] (hv : sub ⟨R, β⟩ v = w) (hk : holds E F s0 Q k ⟨R, β⟩ D U L) :
    holds E F s0 Q (.ask (.bin op ty c x y) u own 1 v k) ⟨σ, β⟩ D U L :=
  h_ask1 w h1 (fun s _ _ _ _ => by
    simp only [Ask.sub, Ask.run, hx, hy, doBinA]
    have : guardA E.P op ty c (.int kd a) (.int kd b) = true := by unfold guardA; cases isEq op <;> rfl
    rw [this, cond_true]
    simp only [binOpV, hop.1, sameKind, decide_true, cond_true, cond_false, hop.2]) hv hk
theorem h_add (hx : sub ⟨σ, β⟩ x = .int kd a) (hy : sub ⟨σ, β⟩ y = .int kd b) (hr : kd.wrap (a + b) = r) [hs : Snoc σ (.int kd r) R] (hv : sub ⟨R, β⟩ v = .int kd r) (hk : holds E F s0 Q k ⟨R, β⟩ D U L) : holds E F s0 Q (.ask (.bin .add ty c x y) u own 1 v k) ⟨σ, β⟩ D U L :=
  h_int hx hy rfl ⟨rfl, by simp only [intOp, mkInt_eq, hr]⟩ hv hk
theorem h_sub (hx : sub ⟨σ, β⟩ x = .int kd a) (hy : sub ⟨σ, β⟩ y = .int kd b) (hr : kd.wrap (a - b) = r) [hs : Snoc σ (.int kd r) R] (hv : sub ⟨R, β⟩ v = .int kd r) (hk : holds E F s0 Q k ⟨R, β⟩ D U L) : holds E F s0 Q (.ask (.bin .sub ty c x y) u own 1 v k) ⟨σ, β⟩ D U L :=
  h_int hx hy rfl ⟨rfl, by simp only [intOp, mkInt_eq, hr]⟩ hv hk
theorem h_mul (hx : sub ⟨σ, β⟩ x = .int kd a) (hy : sub ⟨σ, β⟩ y = .int kd b) (hr : kd.wrap (a * b) = r) [hs : Snoc σ (.int kd r) R] (hv : sub ⟨R, β⟩ v = .int kd r) (hk : holds E F s0 Q k ⟨R, β⟩ D U L) : holds E F s0 Q (.ask (.bin .mul ty c x y) u own 1 v k) ⟨σ, β⟩ D U L :=
  h_int hx hy rfl ⟨rfl, by simp only [intOp, mkInt_eq, hr]⟩ hv hk
theorem h_lss (hx : sub ⟨σ, β⟩ x = .int kd a) (hy : sub ⟨σ, β⟩ y = .int kd b) [hs : Snoc σ (.bool (decide (a < b))) R] (hv : sub ⟨R, β⟩ v = .bool (decide (a < b))) (hk : holds E F s0 Q k ⟨R, β⟩ D U L) : holds E F s0 Q (.ask (.bin .lss ty c x y) u own 1 v k) ⟨σ, β⟩ D U L :=
  h_int hx hy rfl ⟨rfl, rfl⟩ hv hk
theorem h_leq (hx : sub ⟨σ, β⟩ x = .int kd a) (hy : sub ⟨σ, β⟩ y = .int kd b) [hs : Snoc σ (.bool (decide (a ≤ b))) R] (hv : sub ⟨R, β⟩ v = .bool (decide (a ≤ b))) (hk : holds E F s0 Q k ⟨R, β⟩ D U L) : holds E F s0 Q (.ask (.bin .leq ty c x y) u own 1 v k) ⟨σ, β⟩ D U L :=
  h_int hx hy rfl ⟨rfl, rfl⟩ hv hk
theorem h_gtr (hx : sub ⟨σ, β⟩ x = .int kd a) (hy : sub ⟨σ, β⟩ y = .int kd b) [hs : Snoc σ (.bool (decide (a > b))) R] (hv : sub ⟨R, β⟩ v = .bool (decide (a > b))) (hk : holds E F s0 Q k ⟨R, β⟩ D U L) : holds E F s0 Q (.ask (.bin .gtr ty c x y) u own 1 v k) ⟨σ, β⟩ D U L :=
  h_int hx hy rfl ⟨rfl, rfl⟩ hv hk
theorem h_geq (hx : sub ⟨σ, β⟩ x = .int kd a) (hy : sub ⟨σ, β⟩ y = .int kd b) [hs : Snoc σ (.bool (decide (a ≥ b))) R] (hv : sub ⟨R, β⟩ v = .bool (decide (a ≥ b))) (hk : holds E F s0 Q k ⟨R, β⟩ D U L) : holds E F s0 Q (.ask (.bin .geq ty c x y) u own 1 v k) ⟨σ, β⟩ D U L :=
  h_int hx hy rfl ⟨rfl, rfl⟩ hv hk
theorem beq_dec (a b : Int) : (a == b) = decide (a = b) := by by_cases h : a = b <;> simp [h]
theorem bne_dec (a b : Int) : (a != b) = decide (a ≠ b) := by by_cases h : a = b <;> simp [h, bne]
theorem h_eql (hx : sub ⟨σ, β⟩ x = .int kd a) (hy : sub ⟨σ, β⟩ y = .int kd b) [hs : Snoc σ (.bool (decide (a = b))) R] (hv : sub ⟨R, β⟩ v = .bool (decide (a = b))) (hk : holds E F s0 Q k ⟨R, β⟩ D U L) : holds E F s0 Q (.ask (.bin .eql ty c x y) u own 1 v k) ⟨σ, β⟩ D U L :=
  h_int hx hy rfl ⟨rfl, by simp only [intOp, beq_dec]⟩ hv hk
theorem h_neq (hx : sub ⟨σ, β⟩ x = .int kd a) (hy : sub ⟨σ, β⟩ y = .int kd b) [hs : Snoc σ (.bool (decide (a ≠ b))) R] (hv : sub ⟨R, β⟩ v = .bool (decide (a ≠ b))) (hk : holds E F s0 Q k ⟨R, β⟩ D U L) : holds E F s0 Q (.ask (.bin .neq ty c x y) u own 1 v k) ⟨σ, β⟩ D U L :=
  h_int hx hy rfl ⟨rfl, by simp only [intOp, bne_dec]⟩ hv hk
theorem strEq_at : ∀ {p q : List Nat}, (∀ z ∈ p, z < 256) → (∀ z ∈ q, z < 256) → strEq p q = some (decide (p = q))
  | [], [], _, _ => rfl
  | [], _ :: _, _, _ => rfl
  | _ :: _, [], _, _ => rfl
  | x :: p, y :: q, hp, hq => by
    have ih := strEq_at (p := p) (q := q) (fun z hz => hp z (List.mem_cons_of_mem _ hz)) (fun z hz => hq z (List.mem_cons_of_mem _ hz))
    have hx : Nat.blt x 256 = true := Nat.ble_eq_true_of_le (hp x (by simp))
    have hy : Nat.blt y 256 = true := Nat.ble_eq_true_of_le (hq y (by simp))
    simp only [strEq]
    cases hb : Nat.beq x y with
    | true =>
      have := Nat.eq_of_beq_eq_true hb; subst this
      simp only [cond_true, ih, List.cons.injEq, true_and]
    | false =>
      have hn : x ≠ y := fun h => by subst h; rw [Nat.beq_refl] at hb; cases hb
      simp only [cond_false, hx, hy, Bool.and_self, cond_true, List.cons.injEq, hn, false_and, decide_false]
theorem h_strOp {op : BinOp} {p q : List Nat} (hx : sub ⟨σ, β⟩ x = .str p) (hy : sub ⟨σ, β⟩ y = .str q) {w : V} (h1 : w.one = true) (hop : strOp op p q = some w) [hs : Snoc σ (w) R] (hv : sub ⟨R, β⟩ v = w) (hk : holds E F s0 Q k ⟨R, β⟩ D U L) :
    holds E F s0 Q (.ask (.bin op ty c x y) u own 1 v k) ⟨σ, β⟩ D U L :=
  h_ask1 w h1 (fun s _ _ _ _ => by
    simp only [Ask.sub, Ask.run, hx, hy, doBinA]
    have : guardA E.P op ty c (.str p) (.str q) = true := by unfold guardA; cases isEq op <;> rfl
    rw [this, cond_true]
    simp only [binOpV, hop]) hv hk
theorem h_eqlS {p q : List Nat} (hx : sub ⟨σ, β⟩ x = .str p) (hy : sub ⟨σ, β⟩ y = .str q) (hp : ∀ z ∈ p, z < 256) (hq : ∀ z ∈ q, z < 256) [hs : Snoc σ (.bool (decide (p = q))) R] (hv : sub ⟨R, β⟩ v = .bool (decide (p = q))) (hk : holds E F s0 Q k ⟨R, β⟩ D U L) :
    holds E F s0 Q (.ask (.bin .eql ty c x y) u own 1 v k) ⟨σ, β⟩ D U L := h_strOp hx hy rfl (by simp only [strOp, strEq_at hp hq, Option.map]) hv hk
theorem h_neqS {p q : List Nat} (hx : sub ⟨σ, β⟩ x = .str p) (hy : sub ⟨σ, β⟩ y = .str q) (hp : ∀ z ∈ p, z < 256) (hq : ∀ z ∈ q, z < 256) [hs : Snoc σ (.bool (!decide (p = q))) R] (hv : sub ⟨R, β⟩ v = .bool (!decide (p = q))) (hk : holds E F s0 Q k ⟨R, β⟩ D U L) :
    holds E F s0 Q (.ask (.bin .neq ty c x y) u own 1 v k) ⟨σ, β⟩ D U L := h_strOp hx hy rfl (by simp only [strOp, strEq_at hp hq, Option.map]) hv hk
theorem h_not {q : Bool} (hx : sub ⟨σ, β⟩ x = .bool q) [hs : Snoc σ (.bool (!q)) R] (hv : sub ⟨R, β⟩ v = .bool (!q)) (hk : holds E F s0 Q k ⟨R, β⟩ D U L) : holds E F s0 Q (.ask (.un .not x) u own 1 v k) ⟨σ, β⟩ D U L :=
  h_ask1 _ rfl (fun s _ _ _ _ => by simp only [Ask.sub, Ask.run, hx, unOpV]) hv hk
theorem h_neg (hx : sub ⟨σ, β⟩ x = .int kd a) (hr : kd.wrap (0 - a) = r) [hs : Snoc σ (.int kd r) R] (hv : sub ⟨R, β⟩ v = .int kd r) (hk : holds E F s0 Q k ⟨R, β⟩ D U L) : holds E F s0 Q (.ask (.un .neg x) u own 1 v k) ⟨σ, β⟩ D U L :=
  h_ask1 _ rfl (fun s _ _ _ _ => by simp only [Ask.sub, Ask.run, hx, unOpV, hr]) hv hk
theorem h_lenS {l : List Nat} {ts : Array TypeId} {t0 : TypeId} (ht : ts[0]? = some t0) (hu : E.P.underlying t0 = some .string) (hx : sub ⟨σ, β⟩ x = .str l) [hs : Snoc σ (.int .i64 (l.length : Int)) R] (hv : sub ⟨R, β⟩ v = .int .i64 (l.length : Int)) (hk : holds E F s0 Q k ⟨R, β⟩ D U L) :
    holds E F s0 Q (.ask (.bif .len ts [x]) u own 1 v k) ⟨σ, β⟩ D U L :=
  h_ask1 _ rfl (fun s _ _ _ _ => by simp only [Ask.sub, Ask.run, subL, hx, callB, ht, lenV, hu, nxVal, nxVal1, mkInt_eq]) hv hk
theorem h_len {ts : Array TypeId} {t0 : TypeId} {n : Nat} (ht : ts[0]? = some t0) (hx : ∀ s, Fw F s0 s → WF s → lenV E.P t0 s (sub ⟨σ, β⟩ x) = some (.int .i64 (n : Int))) [hs : Snoc σ (.int .i64 (n : Int)) R] (hv : sub ⟨R, β⟩ v = .int .i64 (n : Int)) (hk : holds E F s0 Q k ⟨R, β⟩ D U L) :
    holds E F s0 Q (.ask (.bif .len ts [x]) u own 1 v k) ⟨σ, β⟩ D U L :=
  h_ask1 _ rfl (fun s h1 h2 _ _ => by simp only [Ask.sub, Ask.run, subL, callB, ht, hx s h1 h2, nxVal, nxVal1]) hv hk
theorem h_idxS {l : List Nat} {n ch : Nat} (hu : E.P.underlying ty = some .string) (hx : sub ⟨σ, β⟩ x = .str l) (hi : sub ⟨σ, β⟩ y = .int kd (n : Int)) (hc : l[n]? = some ch ∧ ch < 256) [hs : Snoc σ (.int .u8 (ch : Int)) R] (hv : sub ⟨R, β⟩ v = .int .u8 (ch : Int)) (hk : holds E F s0 Q k ⟨R, β⟩ D U L) :
    holds E F s0 Q (.ask (.index ty x y) u own 1 v k) ⟨σ, β⟩ D U L :=
  h_ask1 _ rfl (fun s _ _ _ _ => by
    simp only [Ask.sub, Ask.run, hx, hi]
    rw [show natOf (.int kd (n : Int)) = some n from rfl]
    simp only [doIndex, hu, hc.1, byteV]
    show some (V.int .u8 ((ch % 256 : Nat) : Int)) = _
    rw [Nat.mod_eq_of_lt hc.2]) hv hk
theorem h_slS {l : List Nat} {n m : Nat} {o1 o2 : Option V} (hu : E.P.underlying ty = some .string) (hx : sub ⟨σ, β⟩ x = .str l) (hlo : bndV (subO ⟨σ, β⟩ o1) 0 = some n) (hhi : bndV (subO ⟨σ, β⟩ o2) l.length = some m) (h1 : n ≤ m) (h2 : m ≤ l.length)
    [hs : Snoc σ (.str ((l.drop n).take (m - n))) R] (hv : sub ⟨R, β⟩ v = .str ((l.drop n).take (m - n))) (hk : holds E F s0 Q k ⟨R, β⟩ D U L) : holds E F s0 Q (.ask (.slice ty x o1 o2 none) u own 1 v k) ⟨σ, β⟩ D U L :=
  h_ask1 _ rfl (fun s _ _ _ _ => by
    simp only [Ask.sub, Ask.run, hx, doSlice, sliceV, hu, subO, Option.map] at hlo hhi ⊢
    simp only [hlo, hhi, Nat.ble_eq_true_of_le h1, Nat.ble_eq_true_of_le h2, Bool.and_self, cond_true]) hv hk
theorem h_convI {src dst : TypeId} {kd' : IntKind} (h1 : (E.P.underlying src).isSome = true) (h2 : E.P.underlying dst = some (.int kd')) (hx : sub ⟨σ, β⟩ x = .int kd a) (hr : kd'.wrap a = r) [hs : Snoc σ (.int kd' r) R] (hv : sub ⟨R, β⟩ v = .int kd' r) (hk : holds E F s0 Q k ⟨R, β⟩ D U L) :
    holds E F s0 Q (.ask (.conv src dst x) u own 1 v k) ⟨σ, β⟩ D U L :=
  h_ask1 _ rfl (fun s _ _ _ _ => by
    simp only [Ask.sub, Ask.run, hx, plainDst, h2, cond_true, convV]
    cases hs : E.P.underlying src with
    | none => rw [hs] at h1; cases h1
    | some ds => simp only [Option.map, mkInt_eq, hr]) hv hk
theorem h_cond {i : Nat} {t1 t2 : Tree} {q : Bool} (hq : Sg.val ⟨σ, β⟩ i = .bool q) (h1 : q = true → holds E F s0 Q t1 ⟨σ, β⟩ D U L) (h2 : q = false → holds E F s0 Q t2 ⟨σ, β⟩ D U L) : holds E F s0 Q (.cond i t1 t2) ⟨σ, β⟩ D U L := ⟨q, hq, h1, h2⟩
theorem h_if {i : Nat} {t1 t2 : Tree} {p : Prop} [Decidable p] (hq : Sg.val ⟨σ, β⟩ i = .bool (decide p)) (h1 : p → holds E F s0 Q t1 ⟨σ, β⟩ D U L) (h2 : ¬ p → holds E F s0 Q t2 ⟨σ, β⟩ D U L) : holds E F s0 Q (.cond i t1 t2) ⟨σ, β⟩ D U L :=
  ⟨decide p, hq, fun h => h1 (of_decide_eq_true h), fun h => h2 (of_decide_eq_false h)⟩
theorem h_new {B : Nat → List Nat} [hs : ∀ b, Snoc β b (B b)] (hk : ∀ b, s0.next ≤ b → b ∉ D → holds E F s0 Q k ⟨σ, B b⟩ D U L) : holds E F s0 Q (.new k) ⟨σ, β⟩ D U L := fun b h1 h2 => by rw [(hs b).eq]; exact hk b h1 h2
theorem h_ret (h : ∀ s, Fw F s0 s → WF s → U s → facts ⟨σ, β⟩ s own → Q ⟨.returned (sub ⟨σ, β⟩ v), none, s⟩) : holds E F s0 Q (.ret v own) ⟨σ, β⟩ D U L := h
theorem h_pan (h : ∀ s, Fw F s0 s → WF s → U s → facts ⟨σ, β⟩ s own → Q ⟨.panicked [⟨sub ⟨σ, β⟩ v, false⟩], none, s⟩) : holds E F s0 Q (.pan v own) ⟨σ, β⟩ D U L := h
theorem h_call {f : FuncId} {args : List V} {n : Nat} {pk : Bool} {P : V → S → Prop} (hc : ∀ s, Fw F s0 s → WF s → U s → facts ⟨σ, β⟩ s own → Cw E f (args.map (sub ⟨σ, β⟩)) s fun w s' => P w s' ∧ Fw [] s s')
    (hk : ∀ w s s', P w s' → Fw F s0 s → Fw F s0 s' → ∃ vs R : List V, Apnd σ vs R ∧ vs.length = n ∧ onesV vs ∧ sub ⟨R, β⟩ v = w ∧ holds E F s0 Q k ⟨R, β⟩ D U L) : holds E F s0 Q (.call f args own [] n v pk k) ⟨σ, β⟩ D U L := by
  intro s hf hw hu hfa
  obtain ⟨w, s', h1, h2, h3⟩ := hc s hf hw hu hfa
  obtain ⟨vs, R, k0, k1, k2, k3, k4⟩ := hk w s s' h2 hf (hf.trans (h3.mono (by simp)))
  exact .inl ⟨vs, s', k1, k2, by rw [add_of k0, k3]; exact h1, h3, trivial, by rw [add_of k0]; exact k4⟩
theorem c_vals (vs : List V) [hs : Apnd σ vs R] {n : Nat} {w : V} (h3 : sub ⟨R, β⟩ v = w) (h1 : vs.length = n) (h2 : onesV vs) (h4 : holds E F s0 Q k ⟨R, β⟩ D U L) : ∃ vs R : List V, Apnd σ vs R ∧ vs.length = n ∧ onesV vs ∧ sub ⟨R, β⟩ v = w ∧ holds E F s0 Q k ⟨R, β⟩ D U L :=
  ⟨vs, R, hs, h1, h2, h3, h4⟩
theorem c_agg {vs : List V} [hs : Apnd σ vs R] {n : Nat} (h1 : vs.length = n) (h2 : onesV vs) (h3 : sub ⟨R, β⟩ v = .agg vs) (h4 : holds E F s0 Q k ⟨R, β⟩ D U L) : ∃ vs' R : List V, Apnd σ vs' R ∧ vs'.length = n ∧ onesV vs' ∧ sub ⟨R, β⟩ v = .agg vs ∧ holds E F s0 Q k ⟨R, β⟩ D U L :=
  ⟨vs, R, hs, h1, h2, h3, h4⟩
theorem c_one {w : V} [hs : Snoc σ w R] (h2 : w.one = true) (h3 : sub ⟨R, β⟩ v = w) (h4 : holds E F s0 Q k ⟨R, β⟩ D U L) : ∃ vs' R : List V, Apnd σ vs' R ∧ vs'.length = 1 ∧ onesV vs' ∧ sub ⟨R, β⟩ v = w ∧ holds E F s0 Q k ⟨R, β⟩ D U L :=
  ⟨[w], R, ⟨hs.eq⟩, rfl, by simp [onesV, h2], h3, h4⟩
theorem h_callE {f : FuncId} {args : List V} {pk : Bool} (w : V) (hc : ∀ s, Fw F s0 s → WF s → U s → facts ⟨σ, β⟩ s own → Cw E f (args.map (sub ⟨σ, β⟩)) s fun w' s' => w' = w ∧ Fw [] s s') (ho : w.one = true) [hs : Snoc σ w R] (hv : sub ⟨R, β⟩ v = w)
    (hk : holds E F s0 Q k ⟨R, β⟩ D U L) : holds E F s0 Q (.call f args own [] 1 v pk k) ⟨σ, β⟩ D U L :=
  h_call (P := fun w' _ => w' = w) hc fun w' _ _ hw _ _ => by subst hw; exact ⟨[w'], R, ⟨hs.eq⟩, rfl, by simp [onesV, ho], hv, hk⟩
theorem h_callP {f : FuncId} {args : List V} {n : Nat} {P : V → S → Prop} {N : List Pan → S → Prop} (hc : ∀ s, Fw F s0 s → WF s → U s → facts ⟨σ, β⟩ s own → Co E f (args.map (sub ⟨σ, β⟩)) s (RP (fun w s' => P w s' ∧ Fw [] s s') (fun c s' => N c s' ∧ Fw [] s s')))
    (hp : ∀ c s s', N c s' → Fw F s0 s → facts ⟨σ, β⟩ s own → Fw [] s s' → Q ⟨.panicked c, none, s'⟩)
    (hk : ∀ w s s', P w s' → Fw F s0 s → Fw F s0 s' → ∃ vs R : List V, Apnd σ vs R ∧ vs.length = n ∧ onesV vs ∧ sub ⟨R, β⟩ v = w ∧ holds E F s0 Q k ⟨R, β⟩ D U L) : holds E F s0 Q (.call f args own [] n v true k) ⟨σ, β⟩ D U L := by
  intro s hf hw hu hfa
  obtain ⟨o, h1, h2⟩ := hc s hf hw hu hfa
  rcases h2 with ⟨w, s', rfl, h2, h3⟩ | ⟨c, s', rfl, h2, h3⟩
  · obtain ⟨vs, R, k0, k1, k2, k3, k4⟩ := hk w s s' h2 hf (hf.trans (h3.mono (by simp)))
    exact .inl ⟨vs, s', k1, k2, by rw [add_of k0, k3]; exact h1, h3, trivial, by rw [add_of k0]; exact k4⟩
  · exact .inr (.inr ⟨rfl, c, s', h1, hp c s s' h2 hf hfa h3⟩)
theorem h_callD {f : FuncId} {args : List V} {n : Nat} {after : List (Nat × Blk)} {pk : Bool}
    (hc : ∀ s, Fw F s0 s → WF s → U s → facts ⟨σ, β⟩ s own →
      (∃ (vs R : List V) (s' : S) (D' : List Nat) (U' : S → Prop), Apnd σ vs R ∧ vs.length = n ∧ onesV vs ∧ lim E (.call f (args.map (sub ⟨σ, β⟩)) none) s = some ⟨.returned (sub ⟨R, β⟩ v), none, s'⟩ ∧ Fw (idsOf ⟨σ, β⟩ after ++ D) s s' ∧ facts ⟨R, β⟩ s' after ∧
        Stb D' U' ∧ U' s' ∧ (∀ g ∈ D', g < s'.next ∧ (g ∈ D ∨ s.next ≤ g)) ∧ holds E F s0 Q k ⟨R, β⟩ D' U' L) ∨
      (pk = true ∧ ∃ c s', lim E (.call f (args.map (sub ⟨σ, β⟩)) none) s = some ⟨.panicked c, none, s'⟩ ∧ Q ⟨.panicked c, none, s'⟩)) : holds E F s0 Q (.call f args own after n v pk k) ⟨σ, β⟩ D U L := by
  intro s hf hw hu hfa
  rcases hc s hf hw hu hfa with ⟨vs, R, s', D', U', h0, h1, h2, h3, h4, h5, h6, h7, h8, h9⟩ | h
  · exact .inr (.inl ⟨vs, s', D', U', h1, h2, by rw [add_of h0]; exact h3, h4, by rw [add_of h0]; exact h5, h6, h7, h8, by rw [add_of h0]; exact h9⟩)
  · exact .inr (.inr h)
theorem h_calla {f : V} {args : List V} {n : Nat}
    (hc : ∀ s, Fw F s0 s → WF s → U s → facts ⟨σ, β⟩ s own → ∃ (vs R : List V) (s' : S) (D' : List Nat) (U' : S → Prop), Apnd σ vs R ∧ vs.length = n ∧ onesV vs ∧ FCall E (sub ⟨σ, β⟩ f) (args.map (sub ⟨σ, β⟩)) s (sub ⟨R, β⟩ v) s' ∧ Fw D s s' ∧
        Stb D' U' ∧ U' s' ∧ (∀ g ∈ D', g < s'.next ∧ (g ∈ D ∨ s.next ≤ g)) ∧ holds E F s0 Q k ⟨R, β⟩ D' U' L) : holds E F s0 Q (.calla f args own n v k) ⟨σ, β⟩ D U L := by
  intro s hf hw hu hfa
  obtain ⟨vs, R, s', D', U', h0, h1, h2, h3, h4, h5, h6, h7, h8⟩ := hc s hf hw hu hfa
  exact ⟨vs, s', D', U', h1, h2, by rw [add_of h0]; exact h3, h4, h5, h6, h7, by rw [add_of h0]; exact h8⟩
theorem h_act {a : Act} {n : Nat}
    (hc : ∀ s, Fw F s0 s → WF s → U s → facts ⟨σ, β⟩ s own → ∃ (vs R : List V) (s' : S) (D' : List Nat) (U' : S → Prop), Apnd σ vs R ∧ vs.length = n ∧ onesV vs ∧ (a.sub ⟨σ, β⟩).run E.P s = some (sub ⟨R, β⟩ v, s') ∧ Fw D s s' ∧
        Stb D' U' ∧ U' s' ∧ (∀ g ∈ D', g < s'.next ∧ (g ∈ D ∨ s.next ≤ g)) ∧ holds E F s0 Q k ⟨R, β⟩ D' U' L) : holds E F s0 Q (.act a own n v k) ⟨σ, β⟩ D U L := by
  intro s hf hw hu hfa
  obtain ⟨vs, R, s', D', U', h0, h1, h2, h3, h4, h5, h6, h7, h8⟩ := hc s hf hw hu hfa
  exact ⟨vs, s', D', U', h1, h2, by rw [add_of h0]; exact h3, h4, h5, h6, h7, by rw [add_of h0]; exact h8⟩
theorem h_loop {d n : Nat} {vs : List V} {bs : List Nat} {bl : List Blk} (I : Nat → LProp) (j : Nat) (h0 : I j (vs.map (sub ⟨σ, β⟩)) (bs.map (Sg.bl ⟨σ, β⟩)) D U) (hst : Stb D U)
    (hk : ∀ j vs' bs' D' U', I j vs' bs' D' U' → vs'.length = n → onesV vs' → bs'.length = bs.length → holds E F s0 Q k ⟨vs', bs'⟩ D' U' (L.take d ++ [fun vs bs D U => ∃ j', j' < j ∧ I j' vs bs D U])) : holds E F s0 Q (.loop d n vs bs bl k) ⟨σ, β⟩ D U L :=
  ⟨I, ⟨j, U, hst, fun _ _ _ h => h, h0⟩, hk⟩
theorem h_cut {n : Nat} {vs : List V} {bs : List Nat} {bl : List Blk} (P : LProp) (h0 : P (vs.map (sub ⟨σ, β⟩)) (bs.map (Sg.bl ⟨σ, β⟩)) D U) (hst : Stb D U)
    (hk : ∀ vs' bs' D' U', P vs' bs' D' U' → vs'.length = n → onesV vs' → bs'.length = bs.length → holds E F s0 Q k ⟨vs', bs'⟩ D' U' L) : holds E F s0 Q (.cut n vs bs bl k) ⟨σ, β⟩ D U L :=
  ⟨P, ⟨U, hst, fun _ _ _ h => h, h0⟩, hk⟩
theorem h_back {d : Nat} {vs : List V} {bs : List Nat} {P : LProp} (hp : L[d]? = some P) (hst : Stb D U) (h : P (vs.map (sub ⟨σ, β⟩)) (bs.map (Sg.bl ⟨σ, β⟩)) D U) : holds E F s0 Q (.back d vs bs) ⟨σ, β⟩ D U L := ⟨P, U, hp, hst, fun _ _ _ h => h, h⟩
abbrev T0 : S → Prop := fun _ => True
theorem h_cutE {n : Nat} {vs : List V} {bs : List Nat} {bl : List Blk} (hk : holds E F s0 Q k ⟨vs.map (sub ⟨σ, β⟩), bs.map (Sg.bl ⟨σ, β⟩)⟩ [] T0 L) : holds E F s0 Q (.cut n vs bs bl k) ⟨σ, β⟩ [] T0 L :=
  h_cut (fun vs' bs' D' U' => vs' = vs.map (sub ⟨σ, β⟩) ∧ bs' = bs.map (Sg.bl ⟨σ, β⟩) ∧ D' = [] ∧ U' = T0) ⟨rfl, rfl, rfl, rfl⟩ stb_true (by rintro vs' bs' D' U' ⟨rfl, rfl, rfl, rfl⟩ - - -; exact hk)
def LpOf (I : Nat → List V → List Nat → Prop) (j : Nat) : LProp := fun vs bs D U => ∃ j', j' < j ∧ (I j' vs bs ∧ D = [] ∧ U = T0)
theorem h_loop0 {d n : Nat} {vs : List V} {bs : List Nat} {bl : List Blk} (I : Nat → List V → List Nat → Prop) (j : Nat) (h0 : I j (vs.map (sub ⟨σ, β⟩)) (bs.map (Sg.bl ⟨σ, β⟩)))
    (hk : ∀ j vs' bs', I j vs' bs' → holds E F s0 Q k ⟨vs', bs'⟩ [] T0 (L.take d ++ [LpOf I j])) : holds E F s0 Q (.loop d n vs bs bl k) ⟨σ, β⟩ [] T0 L :=
  h_loop (fun j vs bs D U => I j vs bs ∧ D = [] ∧ U = T0) j ⟨h0, rfl, rfl⟩ stb_true (by rintro j vs' bs' D' U' ⟨h, rfl, rfl⟩ - - -; exact hk j vs' bs' h)
theorem h_back0 {d : Nat} {vs : List V} {bs : List Nat} {I : Nat → List V → List Nat → Prop} {j : Nat} (j' : Nat) (hp : L[d]? = some (LpOf I j)) (hj : j' < j) (h : I j' (vs.map (sub ⟨σ, β⟩)) (bs.map (Sg.bl ⟨σ, β⟩))) : holds E F s0 Q (.back d vs bs) ⟨σ, β⟩ [] T0 L :=
  h_back hp stb_true ⟨j', hj, h, rfl, rfl⟩
end
end Go.AI
