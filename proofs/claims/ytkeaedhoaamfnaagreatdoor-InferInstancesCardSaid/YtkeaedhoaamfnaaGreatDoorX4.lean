/- Symbolic walks in the evaluator: part 4. No conditions beyond those of the row. -/
import Derived.Test.YtkeaedhoaamfnaaGreatDoorX3
set_option linter.unusedVariables false
set_option linter.unusedSimpArgs false
noncomputable section
namespace Go.AI
theorem aL {E : cg} {f : FuncId} {ws : List V} {s : S} {P : V → S → Prop} (h : Co E f ws s (tW P)) : Cw E f ws s P := by
 obtain ⟨o, h1, v, s', rfl, h2⟩ := h
 exact ⟨v, s', h1, h2⟩
class iv {α : Type} (l : List α) (x : α) (r : outParam (List α)) : Prop where
 eq : l ++ [x] = r
instance iv.nil {α : Type} {x : α} : iv [] x [x] := ⟨rfl⟩
instance iv.cons {α : Type} {a x : α} {l r : List α} [h : iv l x r] : iv (a :: l) x (a :: r) := ⟨by rw [List.cons_append, h.eq]⟩
class mu {α : Type} (l m : List α) (r : outParam (List α)) : Prop where
 eq : l ++ m = r
instance mu.nil {α : Type} {m : List α} : mu [] m m := ⟨rfl⟩
instance mu.cons {α : Type} {a : α} {l m r : List α} [h : mu l m r] : mu (a :: l) m (a :: r) := ⟨by rw [List.cons_append, h.eq]⟩
section
variable {E : cg} {F : List Nat} {s0 : S} {Q : cX → Prop} {σ R : List V} {β : List Nat} {D : List Nat} {U : S → Prop} {L : List ck} {k : aB} {u : Bool} {own : List (Nat × bP)} {v x y w : V} {ty : TypeId} {c : Bool} {kd : IntKind} {a b r : Int}
theorem iu {vs : List V} (hs : mu σ vs R) : (⟨σ, β⟩ : Sg).add vs = ⟨R, β⟩ := by simp only [Sg.add, hs.eq]
theorem HY (hs : iv σ w R) : (⟨σ, β⟩ : Sg).add [w] = ⟨R, β⟩ := by simp only [Sg.add, hs.eq]
theorem LM {q : mt} {n : Nat} (vs : List V) (hl : vs.length = n) (h1 : aA vs) [hs : mu σ vs R] (hr : ∀ s, Fw F s0 s → WF s → (u = true → U s) → ef ⟨σ, β⟩ s own → (q.sub ⟨σ, β⟩).run E.P s = some (sub ⟨R, β⟩ v)) (hk : ah E F s0 Q k ⟨R, β⟩ D U L) :
 ah E F s0 Q (.ask q u own n v k) ⟨σ, β⟩ D U L := ⟨vs, hl, h1, by rw [iu hs]; exact hr, by rw [iu hs]; exact hk⟩
theorem aD {q : mt} (w : V) (h1 : w.one = true) (hr : ∀ s, Fw F s0 s → WF s → (u = true → U s) → ef ⟨σ, β⟩ s own → (q.sub ⟨σ, β⟩).run E.P s = some w) [hs : iv σ w R] (hv : sub ⟨R, β⟩ v = w) (hk : ah E F s0 Q k ⟨R, β⟩ D U L) :
 ah E F s0 Q (.ask q u own 1 v k) ⟨σ, β⟩ D U L := ⟨[w], rfl, by simp [aA, h1], fun s a b c d => by rw [HY hs, hv]; exact hr s a b c d, by rw [HY hs]; exact hk⟩
theorem oH {op : BinOp} (hx : sub ⟨σ, β⟩ x = .int kd a) (hy : sub ⟨σ, β⟩ y = .int kd b) {w : V} (h1 : w.one = true) (hop : bQ op = false ∧ dI op kd a b = some w) [hs : iv σ (w) R] (hv : sub ⟨R, β⟩ v = w) (hk : ah E F s0 Q k ⟨R, β⟩ D U L) :
 ah E F s0 Q (.ask (.bin op ty c x y) u own 1 v k) ⟨σ, β⟩ D U L :=
 aD w h1 (fun s _ _ _ _ => by
  simp only [mt.sub, mt.run, hx, hy, vP]
  have : py E.P op ty c (.int kd a) (.int kd b) = true := by unfold py; cases eE op <;> rfl
  rw [this, cond_true]
  simp only [bD, hop.1, aR, decide_true, cond_true, cond_false, hop.2]) hv hk
theorem ed (hx : sub ⟨σ, β⟩ x = .int kd a) (hy : sub ⟨σ, β⟩ y = .int kd b) (hr : kd.wrap (a + b) = r) [hs : iv σ (.int kd r) R] (hv : sub ⟨R, β⟩ v = .int kd r) (hk : ah E F s0 Q k ⟨R, β⟩ D U L) : ah E F s0 Q (.ask (.bin .add ty c x y) u own 1 v k) ⟨σ, β⟩ D U L :=
 oH hx hy rfl ⟨rfl, by simp only [dI, aS, hr]⟩ hv hk
theorem Pg (hx : sub ⟨σ, β⟩ x = .int kd a) (hy : sub ⟨σ, β⟩ y = .int kd b) (hr : kd.wrap (a * b) = r) [hs : iv σ (.int kd r) R] (hv : sub ⟨R, β⟩ v = .int kd r) (hk : ah E F s0 Q k ⟨R, β⟩ D U L) : ah E F s0 Q (.ask (.bin .mul ty c x y) u own 1 v k) ⟨σ, β⟩ D U L :=
 oH hx hy rfl ⟨rfl, by simp only [dI, aS, hr]⟩ hv hk
theorem jO (hx : sub ⟨σ, β⟩ x = .int kd a) (hy : sub ⟨σ, β⟩ y = .int kd b) [hs : iv σ (.bool (decide (a < b))) R] (hv : sub ⟨R, β⟩ v = .bool (decide (a < b))) (hk : ah E F s0 Q k ⟨R, β⟩ D U L) : ah E F s0 Q (.ask (.bin .lss ty c x y) u own 1 v k) ⟨σ, β⟩ D U L :=
 oH hx hy rfl ⟨rfl, rfl⟩ hv hk
theorem Ph (hx : sub ⟨σ, β⟩ x = .int kd a) (hy : sub ⟨σ, β⟩ y = .int kd b) [hs : iv σ (.bool (decide (a ≤ b))) R] (hv : sub ⟨R, β⟩ v = .bool (decide (a ≤ b))) (hk : ah E F s0 Q k ⟨R, β⟩ D U L) : ah E F s0 Q (.ask (.bin .leq ty c x y) u own 1 v k) ⟨σ, β⟩ D U L :=
 oH hx hy rfl ⟨rfl, rfl⟩ hv hk
theorem qw (hx : sub ⟨σ, β⟩ x = .int kd a) (hy : sub ⟨σ, β⟩ y = .int kd b) [hs : iv σ (.bool (decide (a > b))) R] (hv : sub ⟨R, β⟩ v = .bool (decide (a > b))) (hk : ah E F s0 Q k ⟨R, β⟩ D U L) : ah E F s0 Q (.ask (.bin .gtr ty c x y) u own 1 v k) ⟨σ, β⟩ D U L :=
 oH hx hy rfl ⟨rfl, rfl⟩ hv hk
theorem HF (hx : sub ⟨σ, β⟩ x = .int kd a) (hy : sub ⟨σ, β⟩ y = .int kd b) [hs : iv σ (.bool (decide (a ≥ b))) R] (hv : sub ⟨R, β⟩ v = .bool (decide (a ≥ b))) (hk : ah E F s0 Q k ⟨R, β⟩ D U L) : ah E F s0 Q (.ask (.bin .geq ty c x y) u own 1 v k) ⟨σ, β⟩ D U L :=
 oH hx hy rfl ⟨rfl, rfl⟩ hv hk
theorem OE (a b : Int) : (a == b) = decide (a = b) := by by_cases h : a = b <;> simp [h]
theorem OD (a b : Int) : (a != b) = decide (a ≠ b) := by by_cases h : a = b <;> simp [h, bne]
theorem gP (hx : sub ⟨σ, β⟩ x = .int kd a) (hy : sub ⟨σ, β⟩ y = .int kd b) [hs : iv σ (.bool (decide (a = b))) R] (hv : sub ⟨R, β⟩ v = .bool (decide (a = b))) (hk : ah E F s0 Q k ⟨R, β⟩ D U L) : ah E F s0 Q (.ask (.bin .eql ty c x y) u own 1 v k) ⟨σ, β⟩ D U L :=
 oH hx hy rfl ⟨rfl, by simp only [dI, OE]⟩ hv hk
theorem sG (hx : sub ⟨σ, β⟩ x = .int kd a) (hy : sub ⟨σ, β⟩ y = .int kd b) [hs : iv σ (.bool (decide (a ≠ b))) R] (hv : sub ⟨R, β⟩ v = .bool (decide (a ≠ b))) (hk : ah E F s0 Q k ⟨R, β⟩ D U L) : ah E F s0 Q (.ask (.bin .neq ty c x y) u own 1 v k) ⟨σ, β⟩ D U L :=
 oH hx hy rfl ⟨rfl, by simp only [dI, OD]⟩ hv hk
theorem uo : ∀ {p q : List Nat}, (∀ z ∈ p, z < 256) → (∀ z ∈ q, z < 256) → ia p q = some (decide (p = q))
 | [], [], _, _ => rfl
 | [], _ :: _, _, _ => rfl
 | _ :: _, [], _, _ => rfl
 | x :: p, y :: q, hp, hq => by
  have ih := uo (p := p) (q := q) (fun z hz => hp z (List.mem_cons_of_mem _ hz)) (fun z hz => hq z (List.mem_cons_of_mem _ hz))
  have hx : Nat.blt x 256 = true := Nat.ble_eq_true_of_le (hp x (by simp))
  have hy : Nat.blt y 256 = true := Nat.ble_eq_true_of_le (hq y (by simp))
  simp only [ia]
  cases hb : Nat.beq x y with
  | true =>
   have := Nat.eq_of_beq_eq_true hb; subst this
   simp only [cond_true, ih, List.cons.injEq, true_and]
  | false =>
   have hn : x ≠ y := fun h => by subst h; rw [Nat.beq_refl] at hb; cases hb
   simp only [cond_false, hx, hy, Bool.and_self, cond_true, List.cons.injEq, hn, false_and, decide_false]
theorem tL {op : BinOp} {p q : List Nat} (hx : sub ⟨σ, β⟩ x = .str p) (hy : sub ⟨σ, β⟩ y = .str q) {w : V} (h1 : w.one = true) (hop : oB op p q = some w) [hs : iv σ (w) R] (hv : sub ⟨R, β⟩ v = w) (hk : ah E F s0 Q k ⟨R, β⟩ D U L) :
 ah E F s0 Q (.ask (.bin op ty c x y) u own 1 v k) ⟨σ, β⟩ D U L :=
 aD w h1 (fun s _ _ _ _ => by
  simp only [mt.sub, mt.run, hx, hy, vP]
  have : py E.P op ty c (.str p) (.str q) = true := by unfold py; cases eE op <;> rfl
  rw [this, cond_true]
  simp only [bD, hop]) hv hk
theorem rN {p q : List Nat} (hx : sub ⟨σ, β⟩ x = .str p) (hy : sub ⟨σ, β⟩ y = .str q) (hp : ∀ z ∈ p, z < 256) (hq : ∀ z ∈ q, z < 256) [hs : iv σ (.bool (decide (p = q))) R] (hv : sub ⟨R, β⟩ v = .bool (decide (p = q))) (hk : ah E F s0 Q k ⟨R, β⟩ D U L) :
 ah E F s0 Q (.ask (.bin .eql ty c x y) u own 1 v k) ⟨σ, β⟩ D U L := tL hx hy rfl (by simp only [oB, uo hp hq, Option.map]) hv hk
theorem Fs {p q : List Nat} (hx : sub ⟨σ, β⟩ x = .str p) (hy : sub ⟨σ, β⟩ y = .str q) (hp : ∀ z ∈ p, z < 256) (hq : ∀ z ∈ q, z < 256) [hs : iv σ (.bool (!decide (p = q))) R] (hv : sub ⟨R, β⟩ v = .bool (!decide (p = q))) (hk : ah E F s0 Q k ⟨R, β⟩ D U L) :
 ah E F s0 Q (.ask (.bin .neq ty c x y) u own 1 v k) ⟨σ, β⟩ D U L := tL hx hy rfl (by simp only [oB, uo hp hq, Option.map]) hv hk
theorem fl {q : Bool} (hx : sub ⟨σ, β⟩ x = .bool q) [hs : iv σ (.bool (!q)) R] (hv : sub ⟨R, β⟩ v = .bool (!q)) (hk : ah E F s0 Q k ⟨R, β⟩ D U L) : ah E F s0 Q (.ask (.un .not x) u own 1 v k) ⟨σ, β⟩ D U L :=
 aD _ rfl (fun s _ _ _ _ => by simp only [mt.sub, mt.run, hx, pU]) hv hk
theorem Ft {l : List Nat} {ts : Array TypeId} {t0 : TypeId} (ht : ts[0]? = some t0) (hu : E.P.underlying t0 = some .string) (hx : sub ⟨σ, β⟩ x = .str l) [hs : iv σ (.int .i64 (l.length : Int)) R] (hv : sub ⟨R, β⟩ v = .int .i64 (l.length : Int)) (hk : ah E F s0 Q k ⟨R, β⟩ D U L) :
 ah E F s0 Q (.ask (.bif .len ts [x]) u own 1 v k) ⟨σ, β⟩ D U L :=
 aD _ rfl (fun s _ _ _ _ => by simp only [mt.sub, mt.run, gZ, hx, eg, ht, mK, hu, bc, gc, aS]) hv hk
theorem eL {ts : Array TypeId} {t0 : TypeId} {n : Nat} (ht : ts[0]? = some t0) (hx : ∀ s, Fw F s0 s → WF s → mK E.P t0 s (sub ⟨σ, β⟩ x) = some (.int .i64 (n : Int))) [hs : iv σ (.int .i64 (n : Int)) R] (hv : sub ⟨R, β⟩ v = .int .i64 (n : Int)) (hk : ah E F s0 Q k ⟨R, β⟩ D U L) :
 ah E F s0 Q (.ask (.bif .len ts [x]) u own 1 v k) ⟨σ, β⟩ D U L :=
 aD _ rfl (fun s h1 h2 _ _ => by simp only [mt.sub, mt.run, gZ, eg, ht, hx s h1 h2, bc, gc]) hv hk
theorem LL {l : List Nat} {n m : Nat} {o1 o2 : Option V} (hu : E.P.underlying ty = some .string) (hx : sub ⟨σ, β⟩ x = .str l) (hlo : mq (EB ⟨σ, β⟩ o1) 0 = some n) (hhi : mq (EB ⟨σ, β⟩ o2) l.length = some m) (h1 : n ≤ m) (h2 : m ≤ l.length)
 [hs : iv σ (.str ((l.drop n).take (m - n))) R] (hv : sub ⟨R, β⟩ v = .str ((l.drop n).take (m - n))) (hk : ah E F s0 Q k ⟨R, β⟩ D U L) : ah E F s0 Q (.ask (.slice ty x o1 o2 none) u own 1 v k) ⟨σ, β⟩ D U L :=
 aD _ rfl (fun s _ _ _ _ => by
  simp only [mt.sub, mt.run, hx, gT, pd, hu, EB, Option.map] at hlo hhi ⊢
  simp only [hlo, hhi, Nat.ble_eq_true_of_le h1, Nat.ble_eq_true_of_le h2, Bool.and_self, cond_true]) hv hk
theorem NV {src dst : TypeId} {kd' : IntKind} (h1 : (E.P.underlying src).isSome = true) (h2 : E.P.underlying dst = some (.int kd')) (hx : sub ⟨σ, β⟩ x = .int kd a) (hr : kd'.wrap a = r) [hs : iv σ (.int kd' r) R] (hv : sub ⟨R, β⟩ v = .int kd' r) (hk : ah E F s0 Q k ⟨R, β⟩ D U L) :
 ah E F s0 Q (.ask (.conv src dst x) u own 1 v k) ⟨σ, β⟩ D U L :=
 aD _ rfl (fun s _ _ _ _ => by
  simp only [mt.sub, mt.run, hx, iG, h2, cond_true, iN]
  cases hs : E.P.underlying src with
  | none => rw [hs] at h1; cases h1
  | some ds => simp only [Option.map, aS, hr]) hv hk
theorem aI {i : Nat} {t1 t2 : aB} {q : Bool} (hq : Sg.val ⟨σ, β⟩ i = .bool q) (h1 : q = true → ah E F s0 Q t1 ⟨σ, β⟩ D U L) (h2 : q = false → ah E F s0 Q t2 ⟨σ, β⟩ D U L) : ah E F s0 Q (.cond i t1 t2) ⟨σ, β⟩ D U L := ⟨q, hq, h1, h2⟩
theorem dA {i : Nat} {t1 t2 : aB} {p : Prop} [Decidable p] (hq : Sg.val ⟨σ, β⟩ i = .bool (decide p)) (h1 : p → ah E F s0 Q t1 ⟨σ, β⟩ D U L) (h2 : ¬ p → ah E F s0 Q t2 ⟨σ, β⟩ D U L) : ah E F s0 Q (.cond i t1 t2) ⟨σ, β⟩ D U L :=
 ⟨decide p, hq, fun h => h1 (of_decide_eq_true h), fun h => h2 (of_decide_eq_false h)⟩
theorem bd {B : Nat → List Nat} [hs : ∀ b, iv β b (B b)] (hk : ∀ b, s0.next ≤ b → b ∉ D → ah E F s0 Q k ⟨σ, B b⟩ D U L) : ah E F s0 Q (.new k) ⟨σ, β⟩ D U L := fun b h1 h2 => by rw [(hs b).eq]; exact hk b h1 h2
theorem aE (h : ∀ s, Fw F s0 s → WF s → U s → ef ⟨σ, β⟩ s own → Q ⟨.returned (sub ⟨σ, β⟩ v), none, s⟩) : ah E F s0 Q (.ret v own) ⟨σ, β⟩ D U L := h
theorem Pf (h : ∀ s, Fw F s0 s → WF s → U s → ef ⟨σ, β⟩ s own → Q ⟨.panicked [⟨sub ⟨σ, β⟩ v, false⟩], none, s⟩) : ah E F s0 Q (.pan v own) ⟨σ, β⟩ D U L := h
theorem jQ {f : FuncId} {args : List V} {n : Nat} {pk : Bool} {P : V → S → Prop} (hc : ∀ s, Fw F s0 s → WF s → U s → ef ⟨σ, β⟩ s own → Cw E f (args.map (sub ⟨σ, β⟩)) s fun w s' => P w s' ∧ Fw [] s s')
 (hk : ∀ w s s', P w s' → Fw F s0 s → Fw F s0 s' → ∃ vs R : List V, mu σ vs R ∧ vs.length = n ∧ aA vs ∧ sub ⟨R, β⟩ v = w ∧ ah E F s0 Q k ⟨R, β⟩ D U L) : ah E F s0 Q (.call f args own [] n v pk k) ⟨σ, β⟩ D U L := by
 intro s hf hw hu hfa
 obtain ⟨w, s', h1, h2, h3⟩ := hc s hf hw hu hfa
 obtain ⟨vs, R, k0, k1, k2, k3, k4⟩ := hk w s s' h2 hf (hf.trans (h3.mono (by simp)))
 exact .inl ⟨vs, s', k1, k2, by rw [iu k0, k3]; exact h1, h3, trivial, by rw [iu k0]; exact k4⟩
theorem Rq (vs : List V) [hs : mu σ vs R] {n : Nat} {w : V} (h3 : sub ⟨R, β⟩ v = w) (h1 : vs.length = n) (h2 : aA vs) (h4 : ah E F s0 Q k ⟨R, β⟩ D U L) : ∃ vs R : List V, mu σ vs R ∧ vs.length = n ∧ aA vs ∧ sub ⟨R, β⟩ v = w ∧ ah E F s0 Q k ⟨R, β⟩ D U L :=
 ⟨vs, R, hs, h1, h2, h3, h4⟩
theorem wi {vs : List V} [hs : mu σ vs R] {n : Nat} (h1 : vs.length = n) (h2 : aA vs) (h3 : sub ⟨R, β⟩ v = .agg vs) (h4 : ah E F s0 Q k ⟨R, β⟩ D U L) : ∃ vs' R : List V, mu σ vs' R ∧ vs'.length = n ∧ aA vs' ∧ sub ⟨R, β⟩ v = .agg vs ∧ ah E F s0 Q k ⟨R, β⟩ D U L :=
 ⟨vs, R, hs, h1, h2, h3, h4⟩
theorem Mq {w : V} [hs : iv σ w R] (h2 : w.one = true) (h3 : sub ⟨R, β⟩ v = w) (h4 : ah E F s0 Q k ⟨R, β⟩ D U L) : ∃ vs' R : List V, mu σ vs' R ∧ vs'.length = 1 ∧ aA vs' ∧ sub ⟨R, β⟩ v = w ∧ ah E F s0 Q k ⟨R, β⟩ D U L :=
 ⟨[w], R, ⟨hs.eq⟩, rfl, by simp [aA, h2], h3, h4⟩
theorem ax {f : FuncId} {args : List V} {pk : Bool} (w : V) (hc : ∀ s, Fw F s0 s → WF s → U s → ef ⟨σ, β⟩ s own → Cw E f (args.map (sub ⟨σ, β⟩)) s fun w' s' => w' = w ∧ Fw [] s s') (ho : w.one = true) [hs : iv σ w R] (hv : sub ⟨R, β⟩ v = w)
 (hk : ah E F s0 Q k ⟨R, β⟩ D U L) : ah E F s0 Q (.call f args own [] 1 v pk k) ⟨σ, β⟩ D U L :=
 jQ (P := fun w' _ => w' = w) hc fun w' _ _ hw _ _ => by subst hw; exact ⟨[w'], R, ⟨hs.eq⟩, rfl, by simp [aA, ho], hv, hk⟩
theorem NW {f : FuncId} {args : List V} {n : Nat} {P : V → S → Prop} {N : List tX → S → Prop} (hc : ∀ s, Fw F s0 s → WF s → U s → ef ⟨σ, β⟩ s own → Co E f (args.map (sub ⟨σ, β⟩)) s (RP (fun w s' => P w s' ∧ Fw [] s s') (fun c s' => N c s' ∧ Fw [] s s')))
 (hp : ∀ c s s', N c s' → Fw F s0 s → ef ⟨σ, β⟩ s own → Fw [] s s' → Q ⟨.panicked c, none, s'⟩)
 (hk : ∀ w s s', P w s' → Fw F s0 s → Fw F s0 s' → ∃ vs R : List V, mu σ vs R ∧ vs.length = n ∧ aA vs ∧ sub ⟨R, β⟩ v = w ∧ ah E F s0 Q k ⟨R, β⟩ D U L) : ah E F s0 Q (.call f args own [] n v true k) ⟨σ, β⟩ D U L := by
 intro s hf hw hu hfa
 obtain ⟨o, h1, h2⟩ := hc s hf hw hu hfa
 rcases h2 with ⟨w, s', rfl, h2, h3⟩ | ⟨c, s', rfl, h2, h3⟩
 ·obtain ⟨vs, R, k0, k1, k2, k3, k4⟩ := hk w s s' h2 hf (hf.trans (h3.mono (by simp)))
  exact .inl ⟨vs, s', k1, k2, by rw [iu k0, k3]; exact h1, h3, trivial, by rw [iu k0]; exact k4⟩
 ·exact .inr (.inr ⟨rfl, c, s', h1, hp c s s' h2 hf hfa h3⟩)
theorem ec {f : FuncId} {args : List V} {n : Nat} {after : List (Nat × bP)} {pk : Bool}
 (hc : ∀ s, Fw F s0 s → WF s → U s → ef ⟨σ, β⟩ s own →
  (∃ (vs R : List V) (s' : S) (D' : List Nat) (U' : S → Prop), mu σ vs R ∧ vs.length = n ∧ aA vs ∧ lim E (.call f (args.map (sub ⟨σ, β⟩)) none) s = some ⟨.returned (sub ⟨R, β⟩ v), none, s'⟩ ∧ Fw (fk ⟨σ, β⟩ after ++ D) s s' ∧ ef ⟨R, β⟩ s' after ∧
   iA D' U' ∧ U' s' ∧ (∀ g ∈ D', g < s'.next ∧ (g ∈ D ∨ s.next ≤ g)) ∧ ah E F s0 Q k ⟨R, β⟩ D' U' L) ∨
  (pk = true ∧ ∃ c s', lim E (.call f (args.map (sub ⟨σ, β⟩)) none) s = some ⟨.panicked c, none, s'⟩ ∧ Q ⟨.panicked c, none, s'⟩)) : ah E F s0 Q (.call f args own after n v pk k) ⟨σ, β⟩ D U L := by
 intro s hf hw hu hfa
 rcases hc s hf hw hu hfa with ⟨vs, R, s', D', U', h0, h1, h2, h3, h4, h5, h6, h7, h8, h9⟩ | h
 ·exact .inr (.inl ⟨vs, s', D', U', h1, h2, by rw [iu h0]; exact h3, h4, by rw [iu h0]; exact h5, h6, h7, h8, by rw [iu h0]; exact h9⟩)
 ·exact .inr (.inr h)
theorem HG {f : V} {args : List V} {n : Nat}
 (hc : ∀ s, Fw F s0 s → WF s → U s → ef ⟨σ, β⟩ s own → ∃ (vs R : List V) (s' : S) (D' : List Nat) (U' : S → Prop), mu σ vs R ∧ vs.length = n ∧ aA vs ∧ DT E (sub ⟨σ, β⟩ f) (args.map (sub ⟨σ, β⟩)) s (sub ⟨R, β⟩ v) s' ∧ Fw D s s' ∧
  iA D' U' ∧ U' s' ∧ (∀ g ∈ D', g < s'.next ∧ (g ∈ D ∨ s.next ≤ g)) ∧ ah E F s0 Q k ⟨R, β⟩ D' U' L) : ah E F s0 Q (.calla f args own n v k) ⟨σ, β⟩ D U L := by
 intro s hf hw hu hfa
 obtain ⟨vs, R, s', D', U', h0, h1, h2, h3, h4, h5, h6, h7, h8⟩ := hc s hf hw hu hfa
 exact ⟨vs, s', D', U', h1, h2, by rw [iu h0]; exact h3, h4, h5, h6, h7, by rw [iu h0]; exact h8⟩
theorem jb {a : wG} {n : Nat}
 (hc : ∀ s, Fw F s0 s → WF s → U s → ef ⟨σ, β⟩ s own → ∃ (vs R : List V) (s' : S) (D' : List Nat) (U' : S → Prop), mu σ vs R ∧ vs.length = n ∧ aA vs ∧ (a.sub ⟨σ, β⟩).run E.P s = some (sub ⟨R, β⟩ v, s') ∧ Fw D s s' ∧
  iA D' U' ∧ U' s' ∧ (∀ g ∈ D', g < s'.next ∧ (g ∈ D ∨ s.next ≤ g)) ∧ ah E F s0 Q k ⟨R, β⟩ D' U' L) : ah E F s0 Q (.act a own n v k) ⟨σ, β⟩ D U L := by
 intro s hf hw hu hfa
 obtain ⟨vs, R, s', D', U', h0, h1, h2, h3, h4, h5, h6, h7, h8⟩ := hc s hf hw hu hfa
 exact ⟨vs, s', D', U', h1, h2, by rw [iu h0]; exact h3, h4, h5, h6, h7, by rw [iu h0]; exact h8⟩
theorem jP {d n : Nat} {vs : List V} {bs : List Nat} {bl : List bP} (I : Nat → ck) (j : Nat) (h0 : I j (vs.map (sub ⟨σ, β⟩)) (bs.map (Sg.bl ⟨σ, β⟩)) D U) (hst : iA D U)
 (hk : ∀ j vs' bs' D' U', I j vs' bs' D' U' → vs'.length = n → aA vs' → bs'.length = bs.length → ah E F s0 Q k ⟨vs', bs'⟩ D' U' (L.take d ++ [fun vs bs D U => ∃ j', j' < j ∧ I j' vs bs D U])) : ah E F s0 Q (.loop d n vs bs bl k) ⟨σ, β⟩ D U L :=
 ⟨I, ⟨j, U, hst, fun _ _ _ h => h, h0⟩, hk⟩
theorem ib {n : Nat} {vs : List V} {bs : List Nat} {bl : List bP} (P : ck) (h0 : P (vs.map (sub ⟨σ, β⟩)) (bs.map (Sg.bl ⟨σ, β⟩)) D U) (hst : iA D U)
 (hk : ∀ vs' bs' D' U', P vs' bs' D' U' → vs'.length = n → aA vs' → bs'.length = bs.length → ah E F s0 Q k ⟨vs', bs'⟩ D' U' L) : ah E F s0 Q (.cut n vs bs bl k) ⟨σ, β⟩ D U L :=
 ⟨P, ⟨U, hst, fun _ _ _ h => h, h0⟩, hk⟩
theorem kT {d : Nat} {vs : List V} {bs : List Nat} {P : ck} (hp : L[d]? = some P) (hst : iA D U) (h : P (vs.map (sub ⟨σ, β⟩)) (bs.map (Sg.bl ⟨σ, β⟩)) D U) : ah E F s0 Q (.back d vs bs) ⟨σ, β⟩ D U L := ⟨P, U, hp, hst, fun _ _ _ h => h, h⟩
abbrev T0 : S → Prop := fun _ => True
theorem bI {n : Nat} {vs : List V} {bs : List Nat} {bl : List bP} (hk : ah E F s0 Q k ⟨vs.map (sub ⟨σ, β⟩), bs.map (Sg.bl ⟨σ, β⟩)⟩ [] T0 L) : ah E F s0 Q (.cut n vs bs bl k) ⟨σ, β⟩ [] T0 L :=
 ib (fun vs' bs' D' U' => vs' = vs.map (sub ⟨σ, β⟩) ∧ bs' = bs.map (Sg.bl ⟨σ, β⟩) ∧ D' = [] ∧ U' = T0) ⟨rfl, rfl, rfl, rfl⟩ ay (by rintro vs' bs' D' U' ⟨rfl, rfl, rfl, rfl⟩ - - -; exact hk)
def SS (I : Nat → List V → List Nat → Prop) (j : Nat) : ck := fun vs bs D U => ∃ j', j' < j ∧ (I j' vs bs ∧ D = [] ∧ U = T0)
theorem tM {d n : Nat} {vs : List V} {bs : List Nat} {bl : List bP} (I : Nat → List V → List Nat → Prop) (j : Nat) (h0 : I j (vs.map (sub ⟨σ, β⟩)) (bs.map (Sg.bl ⟨σ, β⟩)))
 (hk : ∀ j vs' bs', I j vs' bs' → ah E F s0 Q k ⟨vs', bs'⟩ [] T0 (L.take d ++ [SS I j])) : ah E F s0 Q (.loop d n vs bs bl k) ⟨σ, β⟩ [] T0 L :=
 jP (fun j vs bs D U => I j vs bs ∧ D = [] ∧ U = T0) j ⟨h0, rfl, rfl⟩ ay (by rintro j vs' bs' D' U' ⟨h, rfl, rfl⟩ - - -; exact hk j vs' bs' h)
theorem tN {d : Nat} {vs : List V} {bs : List Nat} {I : Nat → List V → List Nat → Prop} {j : Nat} (j' : Nat) (hp : L[d]? = some (SS I j)) (hj : j' < j) (h : I j' (vs.map (sub ⟨σ, β⟩)) (bs.map (Sg.bl ⟨σ, β⟩))) : ah E F s0 Q (.back d vs bs) ⟨σ, β⟩ [] T0 L :=
 kT hp ay ⟨j', hj, h, rfl, rfl⟩
end
end Go.AI
