/- The evaluator by which runs of the program are reckoned, and that it is sound: part 9. No conditions beyond those of the row. -/
import Derived.Test.YtkeaedhoaamfnaaGreatDoorA8
import Derived.IntWalk
set_option linter.unusedVariables false
set_option linter.unusedSimpArgs false
noncomputable section
namespace Go.AI
variable {E : cg} {f : FuncId} {fn : Func} {t : T V} {i : Item} {k : List Item} {ds : List dT} {up : Option Md} {rd : Option Nat} {s : S} {o : cX}
def Fr (E : cg) (f : FuncId) (fn : Func) (t : T V) (todo : List Item) (ds : List dT) (up : Option Md) (rd : Option Nat) (s : S) (o : cX) : Prop := lim E (.frame f fn t todo ds .run up rd) s = some o
def Ca (E : cg) (f : FuncId) (args : List V) (s : S) (v : V) (s' : S) : Prop := lim E (.call f args none) s = some ⟨.returned v, none, s'⟩
theorem gQ (h : aU E (lim E) (.frame f fn t (i :: k) ds .run up rd) s = some o) : Fr E f fn t (i :: k) ds up rd s o := by
 unfold Fr; rw [ey]; exact h
theorem QC {a b : Code} (h : Fr E f fn t (.code a :: .code b :: k) ds up rd s o) : Fr E f fn t (.code (.seq a b) :: k) ds up rd s o := gQ h
theorem NY (h : Fr E f fn t k ds up rd s o) : Fr E f fn t (.code .skip :: k) ds up rd s o := gQ h
theorem LW {id : Nat} {c : Code} (h : Fr E f fn t (.code c :: .inBlock id :: k) ds up rd s o) : Fr E f fn t (.code (.block id c) :: k) ds up rd s o := gQ h
theorem Fx {id : Nat} (h : Fr E f fn t k ds up rd s o) : Fr E f fn t (.inBlock id :: k) ds up rd s o := gQ h
theorem Oa {c : Code} (h : Fr E f fn t (.code c :: .inLoop c :: k) ds up rd s o) : Fr E f fn t (.code (.loop c) :: k) ds up rd s o := gQ h
theorem LR {c : Code} (h : Fr E f fn t (.code c :: .inScope c :: k) ds up rd s o) : Fr E f fn t (.code (.scope c) :: k) ds up rd s o := gQ h
theorem Fv {c : Code} (h : Fr E f fn t k ds up rd s o) : Fr E f fn t (.inScope c :: k) ds up rd s o := gQ h
theorem LT {l : Nat} (h : Fr E f fn t k ds up rd s o) : Fr E f fn t (.code (.label l) :: k) ds up rd s o := gQ h
theorem NX {c : Operand} {a b : Code} (hc : eval t c = some (.bool true)) (h : Fr E f fn t (.code a :: k) ds up rd s o) : Fr E f fn t (.code (.cond c a b) :: k) ds up rd s o :=
 gQ (by simp only [aU, aV, cQ, dD, cA, hc, vT]; exact h)
theorem LU {c : Operand} {a b : Code} (hc : eval t c = some (.bool false)) (h : Fr E f fn t (.code b :: k) ds up rd s o) : Fr E f fn t (.code (.cond c a b) :: k) ds up rd s o :=
 gQ (by simp only [aU, aV, cQ, dD, cA, hc, vT]; exact h)
theorem Ob {id : Nat} {k' : List Item} (hx : exitTo id k = some k') (h : Fr E f fn t k' ds up rd s o) : Fr E f fn t (.code (.exit id) :: k) ds up rd s o :=
 gQ (by simp only [aU, aV, cQ, dD, cA, hx, px]; exact h)
theorem Ja {id : Nat} {ops : Array Oper} {t' : T V} {ds' : List dT} {up' : Option Md} {s' : S} (hd : gp ops fn.ntmps = true) (hr : gG E ops (bq (lim E)) (dW (lim E)) rd ops.toList t ds up s = some (.on t' ds' up' s'))
 (h : Fr E f fn t' k ds' up' rd s' o) : Fr E f fn t (.code (.region id ops false) :: k) ds up rd s o :=
 gQ (by simp only [aU, aV, cQ, dD, cA, hd, cond_true, hr, iE]; exact h)
theorem LV {id : Nat} {ops : Array Oper} {t' : T V} {ds' : List dT} {up' : Option Md} {s' : S} (hd : gp ops fn.ntmps = true) (hr : gI E ops (bq (lim E)) (dW (lim E)) t ds up s = some (.on t' ds' up' s'))
 (h : Fr E f fn t' k ds' up' rd s' o) : Fr E f fn t (.code (.region id ops true) :: k) ds up rd s o :=
 gQ (by simp only [aU, aV, cQ, dD, cA, hd, cond_true, hr, iE]; exact h)
theorem Ax {v : V} (hv : cJ E.P fn t s = some v) : Fr E f fn t (.code .ret :: k) [] none none s ⟨.returned v, none, s⟩ :=
 gQ (by
  simp only [aU, aV, cQ, dD, cA, iU, fF]
  rw [ey]
  simp only [aU, aV, cn, jt, hv, Cm])
theorem QE {v : V} (hv : cJ E.P fn t s = some v) : Fr E f fn t [] [] none none s ⟨.returned v, none, s⟩ := by
 unfold Fr
 rw [ey]
 simp only [aU, aV, cQ, iU, fF]
 rw [ey]
 simp only [aU, aV, cn, jt, hv, Cm]
theorem Mp {args : List V} {v : V} {s' : S} {c : Code} (ho : E.orc f args s = none) (hf : E.P.funcs[f]? = some fn) (hb : fn.body = some c) (hn : (fn.name == "runtime.NumGoroutine") = false)
 (h : Fr E f fn (bi args 0 .leaf id) [.code c] [] none none s ⟨.returned v, none, s'⟩) : Ca E f args s v s' := by
 unfold Ca
 rw [ey]
 simp only [aU, ho, mp, pB, hf, hb, hn, cond_false]
 rw [ln]
 exact h
theorem ir {args : List V} {v : V} {s' : S} (h : Ca E f args s v s') : bq (lim E) f args none s = some ⟨.returned v, none, s'⟩ := h
variable {ops : Array Oper} {rec : fu} {recR : pK} {r : List Oper}
theorem aN : gG E ops rec recR rd [] t ds up s = some (.on t ds up s) := rfl
def Dw (m : Nat) : List Nat → Nat
 | [] => 0
 | e :: r => bif m.testBit e then 1 else Dw m r + 1
def sr (ms : List Nat) (effs m : Nat) (H : List Nat) : List (Nat × Oper) → Nat → Option (List (Option Nat × Nat) × Nat)
 | [], done => some ([], done)
 | (i, _) :: r, done =>
  bif !(m.testBit i) || done.testBit i then sr ms effs m H r done
  else bif effs.testBit i then none
  else match sr ms effs m H r (Nat.lor done (Nat.pow 2 i)) with
   | some (l, d) => some ((some (Dw (ms.getD i 0) H), i) :: l, d)
   | none => none
def vL (ms : List Nat) (effs n : Nat) (all : List (Nat × Oper)) : List (Nat × Oper) → List Nat → Nat → Option (List (Option Nat × Nat))
 | [], H, done => match sr ms effs (Nat.pow 2 n - 1) H all done with
  | some (l, _) => some l
  | none => none
 | (i, _) :: r, H, done => match sr ms effs (ms.getD i 0) H all done with
  | some (l, d) => bif !(d.testBit i) && effs.testBit i then (match vL ms effs n all r (i :: H) (Nat.lor d (Nat.pow 2 i)) with
   | some l2 => some (l ++ (none, i) :: l2)
   | none => none) else none
  | none => none
def xR (P : Program) (ops : Array Oper) : Option (List (Option Nat × Nat)) := match Le P ops with
 | some ⟨ms, l, es, mask⟩ => vL ms mask ops.size l es [ops.size] 0
 | none => none
def iI (E : cg) (hist : List S) (t : T V) (s : S) (o : Oper) : Nat → Option (V × S)
 | 0 => pO s (dV E t s o)
 | 1 => jI s (du E t o hist)
 | 2 => pP (dV E t s o)
 | _ => none
def cd (E : cg) (hist : List S) (t : T V) (s : S) (o : Oper) : Option Bool → Option (V × S)
 | some true => iI E hist t s o (al E.P o.op)
 | some false => some (V.undef, s)
 | none => none
def cO (E : cg) (ops : Array Oper) (rec : fu) (ds : List dT) (up : Option Md) : List (Option Nat × Nat) → List S → T V → S → Option fv
 | [], _, t, s => some (.on t ds up s)
 | (c, i) :: r, hist, t, s => match ops[i]? with
  | none => none
  | some o => match c with
   | some c => match cd E (hist.take c) t s o (aM ops t o) with
    | some (v, s) => cO E ops rec ds up r hist (putD t o.dst v) s
    | none => none
   | none => match dH E rec t s o (aM ops t o) with
    | some (v, s') => bif Nat.ble s.next s'.next then cO E ops rec ds up r (s' :: hist) (putD t o.dst v) s' else none
    | none => none
theorem sF (m : Nat) : ∀ (h : List (Nat × S)), ns m h = (h.map (·.2)).take (Dw m (h.map (·.1)))
 | [] => rfl
 | (e, s) :: r => by
  simp only [ns, List.map_cons, Dw]
  cases m.testBit e with
  | true => simp
  | false => simp [sF m r]
theorem CZ {E : cg} {h : List (Nat × S)} {m : Nat} {t : T V} {s : S} {o : Oper} (b : Option Bool) : jw E h m t s o b = cd E ((h.map (·.2)).take (Dw m (h.map (·.1)))) t s o b := by
 cases b with
 | none => rfl
 | some b => cases b with
  | false => rfl
  | true =>
   simp only [jw, cd]
   unfold AA iI
   rw [sF]
   generalize al E.P o.op = q
   match q with
   | 0 => rfl
   | 1 => rfl
   | 2 => rfl
   | _ + 3 => rfl
theorem qe {E : cg} {ops : Array Oper} {rec : fu} {ds : List dT} {up : Option Md} {ms : List Nat} {effs m : Nat} {hist : List (Nat × S)} :
 ∀ (l : List (Nat × Oper)) (done : Nat) (t : T V) (s : S), (∀ x ∈ l, ops[x.1]? = some x.2) → ∀ sc d, sr ms effs m (hist.map (·.1)) l done = some (sc, d) → ∀ (rest : List (Option Nat × Nat)),
  cO E ops rec ds up (sc ++ rest) (hist.map (·.2)) t s = match dl E ops ms effs hist m l done t s with
   | some (_, t, s) => cO E ops rec ds up rest (hist.map (·.2)) t s
   | none => none
 | [], done, t, s, _, sc, d, h, rest => by cases h; rfl
 | (i, o) :: l, done, t, s, hops, sc, d, h, rest => by
  simp only [sr] at h
  simp only [dl]
  cases hb : (!(m.testBit i) || done.testBit i) with
  | true =>
   rw [hb] at h
   simp only [cond_true] at h ⊢
   exact qe l done t s (fun x hx => hops x (List.mem_cons_of_mem _ hx)) sc d h rest
  | false =>
   rw [hb] at h
   simp only [cond_false] at h ⊢
   cases he : effs.testBit i with
   | true => rw [he] at h; cases h
   | false =>
    rw [he] at h
    simp only [cond_false] at h ⊢
    split at h
    ·rename_i l1 d1 hp
     cases h
     simp only [List.cons_append, cO]
     have ho : ops[i]? = some o := hops (i, o) (by simp)
     rw [ho]
     simp only
     rw [← CZ]
     cases jw E hist (ms.getD i 0) t s o (aM ops t o) with
     | none => rfl
     | some x =>
      obtain ⟨v, s1⟩ := x
      simp only [cV]
      exact qe l _ _ s1 (fun x hx => hops x (List.mem_cons_of_mem _ hx)) l1 _ hp rest
    ·cases h
theorem pm {E : cg} {ops : Array Oper} {ms : List Nat} {effs m : Nat} {hist : List (Nat × S)} : ∀ (l : List (Nat × Oper)) (done : Nat) (t : T V) (s : S) sc d, sr ms effs m (hist.map (·.1)) l done = some (sc, d) →
 ∀ d' t' s', dl E ops ms effs hist m l done t s = some (d', t', s') → d' = d
 | [], done, t, s, sc, d, h, d', t', s', e => by cases h; cases e; rfl
 | (i, o) :: l, done, t, s, sc, d, h, d', t', s', e => by
  simp only [sr] at h
  simp only [dl] at e
  cases hb : (!(m.testBit i) || done.testBit i) with
  | true =>
   rw [hb] at h e
   exact pm l done t s sc d h d' t' s' e
  | false =>
   rw [hb] at h e
   simp only [cond_false] at h e
   cases he : effs.testBit i with
   | true => rw [he] at h; cases h
   | false =>
    rw [he] at h e
    simp only [cond_false] at h e
    split at h
    ·rename_i l1 d1 hp
     cases h
     split at e
     ·rename_i v s1 hf
      rw [cV] at e
      exact pm l _ _ s1 l1 d hp d' t' s' e
     ·cases e
    ·cases h
theorem yC {E : cg} {ops : Array Oper} {rec : fu} {ds : List dT} {up : Option Md} {ms : List Nat} {effs : Nat} {all : List (Nat × Oper)} (hall : ∀ x ∈ all, ops[x.1]? = some x.2) :
 ∀ (es : List (Nat × Oper)), (∀ x ∈ es, ops[x.1]? = some x.2) → ∀ (hist : List (Nat × S)) (done : Nat) (t : T V) (s : S) sc, vL ms effs ops.size all es (hist.map (·.1)) done = some sc →
  ∀ rr, cO E ops rec ds up sc (hist.map (·.2)) t s = some rr → gH E ops ms effs all rec ds up es hist done t s = some rr
 | [], _, hist, done, t, s, sc, h, rr, e => by
  simp only [vL] at h
  simp only [gH]
  split at h
  ·rename_i l d hp
   cases h
   have := qe (E := E) (rec := rec) (ds := ds) (up := up) all done t s hall _ _ hp []
   rw [List.append_nil] at this
   rw [this] at e
   rw [← e]
   cases dl E ops ms effs hist (Nat.pow 2 ops.size - 1) all done t s with
   | none => rfl
   | some x => rfl
  ·cases h
 | (i, o) :: r, hes, hist, done, t, s, sc, h, rr, e => by
  simp only [vL] at h
  simp only [gH]
  split at h
  ·rename_i l d hp
   cases hb : (!(d.testBit i) && effs.testBit i) with
   | false => rw [hb] at h; cases h
   | true =>
    rw [hb] at h
    simp only [cond_true] at h
    split at h
    ·rename_i l2 h2
     cases h
     rw [qe (E := E) (rec := rec) (ds := ds) (up := up) all done t s hall _ _ hp] at e
     cases hph : dl E ops ms effs hist (ms.getD i 0) all done t s with
     | none => rw [hph] at e; cases e
     | some x =>
      obtain ⟨d1, t1, s1⟩ := x
      have hd := pm all done t s _ _ hp _ _ _ hph
      subst hd
      rw [hph] at e
      simp only [cO] at e
      have ho : ops[i]? = some o := hes (i, o) (by simp)
      rw [ho] at e
      simp only at e ⊢
      cases hst : dH E rec t1 s1 o (aM ops t1 o) with
      | none => rw [hst] at e; cases e
      | some y =>
       obtain ⟨v, s2⟩ := y
       rw [hst] at e
       rw [vM.2 hst]
       simp only [cV, Bool.and_assoc, hb, Bool.and_true] at e ⊢
       cases hn : Nat.ble s1.next s2.next with
       | false => rw [hn] at e; cases e
       | true =>
        rw [hn] at e
        simp only [cond_true] at e ⊢
        exact yC hall r (fun x hx => hes x (List.mem_cons_of_mem _ hx)) ((i, s2) :: hist) _ _ s2 l2 h2 rr e
    ·cases h
  ·cases h
theorem Ac {E : cg} {ops : Array Oper} {sc : List (Option Nat × Nat)} (h : xR E.P ops = some sc) (rec : fu) (recR : pK) (t : T V) (ds : List dT) (up : Option Md) (s : S) :
 ∀ rr, cO E ops rec ds up sc [s] t s = some rr → gI E ops rec recR t ds up s = some rr := by
 intro rr e
 unfold xR at h
 unfold gI
 split at h
 ·rename_i ms l es mask hp
  rw [hp]
  simp only
  have hl : l = dz ops.toList 0 ∧ es = qE E.P (dz ops.toList 0) := by
   simp only [Le] at hp
   have hp := qT hp
   simp only [Option.some.injEq, Rx.mk.injEq] at hp
   exact ⟨hp.2.1.symm, hp.2.2.1.symm⟩
  obtain ⟨rfl, rfl⟩ := hl
  have hall : ∀ x ∈ dz ops.toList 0, ops[x.1]? = some x.2 := fun x hx => ej.1 (by obtain ⟨a, b⟩ := x; exact hx)
  exact yC hall _ (fun x hx => hall x (List.mem_filter.1 hx).1) [(ops.size, s)] 0 t s sc h rr e
 ·cases h
theorem QD {E : cg} {f : FuncId} {fn : Func} {t : T V} {k : List Item} {ds : List dT} {up : Option Md} {rd : Option Nat} {s : S} {o : cX} {id : Nat} {ops : Array Oper} {t' : T V} {ds' : List dT} {up' : Option Md} {s' : S} (sc : List (Option Nat × Nat)) (hd : gp ops fn.ntmps = true)
 (hsc : xR E.P ops = some sc) (hr : cO E ops (bq (lim E)) ds up sc [s] t s = some (.on t' ds' up' s')) (h : Fr E f fn t' k ds' up' rd s' o) : Fr E f fn t (.code (.region id ops true) :: k) ds up rd s o :=
 LV hd (Ac hsc _ _ _ _ _ _ _ hr) h
theorem bf (x : V) (r : List V) (i : Nat) (t : T V) : bi (x :: r) i t id = bi r (i + 1) (putD t (some i) x) id := by
 simp only [bi, T.setK_eq]; rfl
theorem dM (i : Nat) (t : T V) : bi [] i t id = t := rfl
theorem ab (t : T V) (d i : Nat) (v : V) : (putD t (some d) v).get (eT i) = if d = i then some v else t.get (eT i) := by
 rw [vE]; simp
theorem dY (t : T V) (v : V) : putD t none v = t := rfl
theorem ai (t : T V) (i : Nat) : eval t (.tmp i) = t.get (eT i) := rfl
theorem dq (t : T V) (k : IntKind) (n : Int) : eval t (.const (.int k n)) = some (.int k n) := rfl
theorem jx (t : T V) (b : Bool) : eval t (.const (.bool b)) = some (.bool b) := rfl
theorem cW (t : T V) (g : FuncId) : eval t (.func g) = some (.func (.func g) [] []) := rfl
theorem ag (s : S) (v : V) : bc s (some v) = some (.val v s) := rfl
section
variable {E : cg} {ops : Array Oper} {rec : fu} {recR : pK} {rd : Option Nat} {o : Oper} {r : List Oper} {t : T V} {ds : List dT} {up : Option Md} {s : S}
theorem ae : gG E ops rec recR rd (o :: r) t ds up s = lZ E rec recR rd o t ds up s (gG E ops rec recR rd r) (aM ops t o) := rfl
theorem cp {h : List S} : cO E ops rec ds up [] h t s = some (.on t ds up s) := rfl
theorem Aa {c i : Nat} {r : List (Option Nat × Nat)} {h : List S} : cO E ops rec ds up ((some c, i) :: r) h t s = match ops[i]? with
 | none => none
 | some o => match cd E (h.take c) t s o (aM ops t o) with
  | some (v, s) => cO E ops rec ds up r h (putD t o.dst v) s
  | none => none := rfl
theorem EV {i : Nat} {r : List (Option Nat × Nat)} {h : List S} : cO E ops rec ds up ((none, i) :: r) h t s = match ops[i]? with
 | none => none
 | some o => match dH E rec t s o (aM ops t o) with
  | some (v, s') => bif Nat.ble s.next s'.next then cO E ops rec ds up r (s' :: h) (putD t o.dst v) s' else none
  | none => none := rfl
end
theorem NZ {E : cg} {f : FuncId} {fn : Func} {t : T V} {k : List Item} {s : S} {i : Tmp} {v : V} (hr : fn.results = #[.tmp i]) (hv : t.get (eT i) = some v) : Fr E f fn t (.code .ret :: k) [] none none s ⟨.returned v, none, s⟩ :=
 Ax (by unfold cJ; rw [hr]; simp only [fC, fX, hv]; rfl)
theorem aX (P : Program) (s : S) (ty : TypeId) (a : Ad) : eI P s ty (some (.ptr a)) = bc s (loadVar P s ty a) := rfl
theorem cN (P : Program) (s : S) (ty : TypeId) (a : Ad) (v : V) : kH P s ty (some (.ptr a)) (some v) = uQ (storeVar P s ty a v) := rfl
theorem me (kd : IntKind) (k : Nat) : eU (some (.int kd (k : Int))) = some k := rfl
def WF (s : S) : Prop := ∀ f B, s.get f = some B → f < s.next
def Ex (a s : S) : Prop := ∀ f vs, a.get f = some (.ro vs) → s.get f = some (.ro vs)
structure Fw (F : List Nat) (s s' : S) : Prop where
 keep : ∀ g B, g ∉ F → s.get g = some B → s'.get g = some B
 ro : ∀ g vs, s.get g = some (.ro vs) → s'.get g = some (.ro vs)
 next : s.next ≤ s'.next
 wf : WF s → WF s'
theorem Fw.refl (F : List Nat) (s : S) : Fw F s s := ⟨fun _ _ _ h => h, fun _ _ h => h, Nat.le_refl _, id⟩
theorem Fw.trans {F : List Nat} {a b c : S} (h : Fw F a b) (k : Fw F b c) : Fw F a c := ⟨fun g B hg hb => k.keep g B hg (h.keep g B hg hb), fun g vs hb => k.ro g vs (h.ro g vs hb), Nat.le_trans h.next k.next, fun hw => k.wf (h.wf hw)⟩
theorem Fw.mono {F G : List Nat} {a b : S} (h : Fw F a b) (hs : ∀ g ∈ F, g ∈ G) : Fw G a b := ⟨fun g B hg hb => h.keep g B (fun hf => hg (hs g hf)) hb, h.ro, h.next, h.wf⟩
theorem Fw.ex {F : List Nat} {a s s' : S} (h : Fw F s s') (he : Ex a s) : Ex a s' := fun f vs hf => h.ro f vs (he f vs hf)
theorem Fw.ble {F : List Nat} {s s' : S} (h : Fw F s s') : Nat.ble s.next s'.next = true := Nat.ble_eq_true_of_le h.next
theorem Fw.alloc (F : List Nat) {s : S} (hw : WF s) (B : bP) : Fw F s (s.alloc B) := by
 refine ⟨fun g C _ hg => ?_, fun g vs hg => ?_, by rw [S.next_alloc]; omega, fun _ g C hg => ?_⟩
 ·rw [S.get_alloc, if_neg (by have := hw g C hg; omega)]; exact hg
 ·rw [S.get_alloc, if_neg (by have := hw g _ hg; omega)]; exact hg
 ·rw [S.get_alloc] at hg
  rw [S.next_alloc]
  split at hg
  ·omega
  ·have := hw g C hg; omega
theorem Fw.put {F : List Nat} {s : S} {f : Nat} {B0 : bP} (hf : f ∈ F) (h0 : s.get f = some B0) (hr : ∀ vs, B0 ≠ .ro vs) (B : bP) : Fw F s (s.put f B) := by
 refine ⟨fun g C hg hb => ?_, fun g vs hb => ?_, by rw [S.next_put]; exact Nat.le_refl _, fun hw g C hg => ?_⟩
 ·rw [S.get_put, if_neg (fun e => hg (by rw [← e]; exact hf))]; exact hb
 ·rw [S.get_put, if_neg (fun e => by subst e; rw [h0] at hb; exact hr vs (Option.some.inj hb))]; exact hb
 ·rw [S.get_put] at hg
  rw [S.next_put]
  split at hg
  ·rename_i e; subst e; exact hw _ _ h0
  ·exact hw g C hg
theorem Fw.drop {F : List Nat} {s s' : S} {f : Nat} (h : Fw (f :: F) s s') (hf : s.next ≤ f) (hw : WF s) : Fw F s s' :=
 ⟨fun g B hg hb => h.keep g B (fun hm => by
  rcases List.mem_cons.1 hm with rfl | hm
  ·have := hw g B hb; omega
  ·exact hg hm) hb, h.ro, h.next, h.wf⟩
def Bn (s : S) : List (Nat × bP) → Prop
 | [] => True
 | (f, B) :: m => (s.get f = some B ∧ (∀ vs, B ≠ .ro vs) ∧ ∀ x ∈ m, x.1 ≠ f) ∧ Bn s m
structure Me (F : List Nat) (s0 s : S) (m : List (Nat × bP)) : Prop where
 wf0 : WF s0
 fw : Fw F s0 s
 own : Bn s m
 hi : ∀ x ∈ m, s0.next ≤ x.1 ∨ x.1 ∈ F
theorem Bn.at : ∀ {s : S} {m : List (Nat × bP)} {i : Nat} {f : Nat} {B : bP}, Bn s m → m[i]? = some (f, B) → s.get f = some B
 | s, [], i, f, B, _, hi => by simp at hi
 | s, (g, C) :: m, 0, f, B, h, hi => by simp at hi; obtain ⟨rfl, rfl⟩ := hi; exact h.1.1
 | s, (g, C) :: m, i + 1, f, B, h, hi => by simp at hi; exact Bn.at h.2 hi
theorem Me.at {F : List Nat} {s0 s : S} {m : List (Nat × bP)} (h : Me F s0 s m) (i : Nat) {f : Nat} {B : bP} (hi : m[i]? = some (f, B)) : s.get f = some B := h.own.at hi
theorem Me.wf {F : List Nat} {s0 s : S} {m : List (Nat × bP)} (h : Me F s0 s m) : WF s := h.fw.wf h.wf0
theorem Bn.mem : ∀ {s : S} {m : List (Nat × bP)} {x : Nat × bP}, Bn s m → x ∈ m → s.get x.1 = some x.2
 | s, [], x, _, hx => by cases hx
 | s, (g, C) :: m, x, h, hx => by
  rcases List.mem_cons.1 hx with rfl | hx
  ·exact h.1.1
  ·exact Bn.mem h.2 hx
theorem Bn.keep : ∀ {s s' : S} {m : List (Nat × bP)}, Bn s m → (∀ x ∈ m, s'.get x.1 = some x.2) → Bn s' m
 | s, s', [], _, _ => trivial
 | s, s', (g, C) :: m, h, k => ⟨⟨k (g, C) (by simp), h.1.2⟩, Bn.keep h.2 fun x hx => k x (List.mem_cons_of_mem _ hx)⟩
theorem Me.start {F : List Nat} {s : S} (hw : WF s) : Me F s s [] := ⟨hw, Fw.refl F s, trivial, by simp⟩
theorem Me.alloc {F : List Nat} {s0 s : S} {m : List (Nat × bP)} (h : Me F s0 s m) {B : bP} (hr : ∀ vs, B ≠ .ro vs) : Me F s0 (s.alloc B) ((s.next, B) :: m) := by
 have hf := Fw.alloc F h.wf B
 refine ⟨h.wf0, h.fw.trans hf, ⟨⟨by rw [S.get_alloc, if_pos rfl], hr, fun x hx => ?_⟩, h.own.keep fun x hx => ?_⟩, fun x hx => ?_⟩
 ·have := h.wf _ _ (h.own.mem hx); omega
 ·exact (Fw.alloc [] h.wf B).keep _ _ (by simp) (h.own.mem hx)
 ·rcases List.mem_cons.1 hx with rfl | hx
  ·exact .inl h.fw.next
  ·exact h.hi x hx
theorem Me.call {F : List Nat} {s0 s s' : S} {m : List (Nat × bP)} (h : Me F s0 s m) (hf : Fw [] s s') : Me F s0 s' m :=
 ⟨h.wf0, h.fw.trans (hf.mono (by simp)), h.own.keep fun x hx => hf.keep _ _ (by simp) (h.own.mem hx), h.hi⟩
theorem Bn.set : ∀ {s s' : S} {m : List (Nat × bP)} {i f : Nat} {B B' : bP}, Bn s m → m[i]? = some (f, B) → (∀ vs, B' ≠ .ro vs) → s'.get f = some B' → (∀ g C, g ≠ f → s.get g = some C → s'.get g = some C) → Bn s' (m.set i (f, B'))
 | s, s', [], i, f, B, B', _, hi, _, _, _ => by simp at hi
 | s, s', (g, C) :: m, 0, f, B, B', h, hi, hr, h1, h2 => by
  simp at hi; obtain ⟨rfl, rfl⟩ := hi
  exact ⟨⟨h1, hr, h.1.2.2⟩, h.2.keep fun x hx => h2 _ _ (h.1.2.2 x hx) (h.2.mem hx)⟩
 | s, s', (g, C) :: m, i + 1, f, B, B', h, hi, hr, h1, h2 => by
  simp at hi
  have hm : (f, B) ∈ m := List.mem_of_getElem? hi
  have hne : f ≠ g := h.1.2.2 _ hm
  refine ⟨⟨h2 _ _ (fun e => hne e.symm) h.1.1, h.1.2.1, fun x hx => ?_⟩, Bn.set h.2 hi hr h1 h2⟩
  rcases List.mem_or_eq_of_mem_set hx with hx | rfl
  ·exact h.1.2.2 x hx
  ·exact hne
theorem Bn.ne : ∀ {s : S} {m : List (Nat × bP)} {i f : Nat} {B : bP}, Bn s m → m[i]? = some (f, B) → ∀ vs, B ≠ .ro vs
 | s, [], i, f, B, _, hi => by simp at hi
 | s, (g, C) :: m, 0, f, B, h, hi => by simp at hi; obtain ⟨rfl, rfl⟩ := hi; exact h.1.2.1
 | s, (g, C) :: m, i + 1, f, B, h, hi => by simp at hi; exact Bn.ne h.2 hi
theorem Me.call1 {F : List Nat} {s0 s s' : S} {m : List (Nat × bP)} (h : Me F s0 s m) (i : Nat) {f : Nat} {B B' : bP} (hi : m[i]? = some (f, B)) (hr : ∀ vs, B' ≠ .ro vs) (hf : Fw [f] s s') (hB : s'.get f = some B') : Me F s0 s' (m.set i (f, B')) := by
 have hm : (f, B) ∈ m := List.mem_of_getElem? hi
 refine ⟨h.wf0, ?_, h.own.set hi hr hB fun g C hg hC => hf.keep g C (by simpa using hg) hC, fun x hx => ?_⟩
 ·rcases h.hi _ hm with hh | hh
  ·have h1 : Fw (f :: F) s0 s' := (h.fw.mono (fun g hg => List.mem_cons_of_mem _ hg)).trans (hf.mono (fun g hg => by simp at hg; subst hg; simp))
   exact h1.drop hh h.wf0
  ·exact h.fw.trans (hf.mono (fun g hg => by simp at hg; subst hg; exact hh))
 ·rcases List.mem_or_eq_of_mem_set hx with hx | rfl
  ·exact h.hi x hx
  ·exact h.hi (f, B) hm
theorem Me.put {F : List Nat} {s0 s : S} {m : List (Nat × bP)} (h : Me F s0 s m) (i : Nat) {f : Nat} {B : bP} (hi : m[i]? = some (f, B)) {B' : bP} (hr : ∀ vs, B' ≠ .ro vs) : Me F s0 (s.put f B') (m.set i (f, B')) :=
 h.call1 i hi hr (Fw.put (by simp) (h.at i hi) (h.own.ne hi) B') (by rw [S.get_put, if_pos rfl])
section
variable {s : S} {f : Nat} {e : TypeId} {sb : Bool} {nv : Nat} {cs : List V}
theorem DG (c : Nat) : Nat.ble 0 c = true := Nat.ble_eq_true_of_le (Nat.zero_le c)
theorem wE (h : s.get f = some (.cells e sb nv [⟨0, 0, cs⟩])) (c : Nat) : cz s ⟨f, 0, c⟩ = cs[c]? := by
 unfold cz; rw [h]; simp [bg, DG]
theorem MY (h : s.get f = some (.cells e sb nv [⟨0, 0, cs⟩])) (c n : Nat) : loadCells s ⟨f, 0, c⟩ n = aO n (cs.drop c) := by
 unfold loadCells; rw [h]; simp [bg, DG]
theorem GU (h : s.get f = some (.cells e sb nv [⟨0, 0, cs⟩])) (c : Nat) (new : List V) (h1 : new.all V.one = true) {cs' : List V} (h2 : bw cs c new = some cs') : storeCells s ⟨f, 0, c⟩ new = some (s.put f (.cells e sb nv [⟨0, 0, cs'⟩])) := by
 unfold storeCells; rw [h]; simp [bg, h1, h2, DG]
end
theorem bT (s : S) (B : bP) : (s.alloc B).get s.next = some B := by rw [S.get_alloc, if_pos rfl]
theorem bJ (n : Int) (h : -9223372036854775808 ≤ n ∧ n ≤ 9223372036854775807) : IntKind.i64.wrap n = n := IntWalk.i64_in n h
theorem TI : (true == true) = true := rfl
theorem TJ : (false == true) = false := rfl
variable {E : cg} {f : FuncId} {fn : Func} {t : T V} {i : Item} {k : List Item} {ds : List dT} {up : Option Md} {rd : Option Nat} {s : S} {Q : cX → Prop}
def Wp (E : cg) (f : FuncId) (fn : Func) (t : T V) (todo : List Item) (ds : List dT) (up : Option Md) (rd : Option Nat) (s : S) (Q : cX → Prop) : Prop := ∃ o, Fr E f fn t todo ds up rd s o ∧ Q o
def Cw (E : cg) (f : FuncId) (args : List V) (s : S) (Q : V → S → Prop) : Prop := ∃ v s', Ca E f args s v s' ∧ Q v s'
def tW (Q : V → S → Prop) : cX → Prop := fun o => ∃ v s, o = ⟨.returned v, none, s⟩ ∧ Q v s
theorem Wp.map {t' : T V} {k' : List Item} {ds' : List dT} {up' : Option Md} {s' : S} (h : Wp E f fn t' k' ds' up' rd s' Q) (m : ∀ o, Fr E f fn t' k' ds' up' rd s' o → Fr E f fn t k ds up rd s o) : Wp E f fn t k ds up rd s Q := by
 obtain ⟨o, h1, h2⟩ := h; exact ⟨o, m o h1, h2⟩
theorem aJ {a b : Code} (h : Wp E f fn t (.code a :: .code b :: k) ds up rd s Q) : Wp E f fn t (.code (.seq a b) :: k) ds up rd s Q := h.map fun _ => QC
theorem lE (h : Wp E f fn t k ds up rd s Q) : Wp E f fn t (.code .skip :: k) ds up rd s Q := h.map fun _ => NY
theorem cH {id : Nat} {c : Code} (h : Wp E f fn t (.code c :: .inBlock id :: k) ds up rd s Q) : Wp E f fn t (.code (.block id c) :: k) ds up rd s Q := h.map fun _ => LW
theorem cU {id : Nat} (h : Wp E f fn t k ds up rd s Q) : Wp E f fn t (.inBlock id :: k) ds up rd s Q := h.map fun _ => Fx
theorem JH {c : Code} (h : Wp E f fn t (.code c :: .inScope c :: k) ds up rd s Q) : Wp E f fn t (.code (.scope c) :: k) ds up rd s Q := h.map fun _ => LR
theorem Eb {c : Code} (h : Wp E f fn t k ds up rd s Q) : Wp E f fn t (.inScope c :: k) ds up rd s Q := h.map fun _ => Fv
theorem JL {l : Nat} (h : Wp E f fn t k ds up rd s Q) : Wp E f fn t (.code (.label l) :: k) ds up rd s Q := h.map fun _ => LT
theorem cP {c : Operand} {a b : Code} (q : Bool) (hc : eval t c = some (.bool q)) (h1 : q = true → Wp E f fn t (.code a :: k) ds up rd s Q) (h2 : q = false → Wp E f fn t (.code b :: k) ds up rd s Q) : Wp E f fn t (.code (.cond c a b) :: k) ds up rd s Q := by
 cases q with
 | true => exact (h1 rfl).map fun _ => NX hc
 | false => exact (h2 rfl).map fun _ => LU hc
theorem zp {id : Nat} {k' : List Item} (hx : exitTo id k = some k') (h : Wp E f fn t k' ds up rd s Q) : Wp E f fn t (.code (.exit id) :: k) ds up rd s Q := h.map fun _ => Ob hx
theorem ao {id : Nat} {ops : Array Oper} {t' : T V} {ds' : List dT} {up' : Option Md} {s' : S} (hd : gp ops fn.ntmps = true) (hr : gG E ops (bq (lim E)) (dW (lim E)) rd ops.toList t ds up s = some (.on t' ds' up' s'))
 (h : Wp E f fn t' k ds' up' rd s' Q) : Wp E f fn t (.code (.region id ops false) :: k) ds up rd s Q := h.map fun _ => Ja hd hr
theorem fK {id : Nat} {ops : Array Oper} {t' : T V} {ds' : List dT} {up' : Option Md} {s' : S} (sc : List (Option Nat × Nat)) (hd : gp ops fn.ntmps = true)
 (hsc : xR E.P ops = some sc) (hr : cO E ops (bq (lim E)) ds up sc [s] t s = some (.on t' ds' up' s')) (h : Wp E f fn t' k ds' up' rd s' Q) : Wp E f fn t (.code (.region id ops true) :: k) ds up rd s Q := h.map fun _ => QD sc hd hsc hr
theorem PE {Q : V → S → Prop} (v : V) (hv : cJ E.P fn t s = some v) (h : Q v s) : Wp E f fn t (.code .ret :: k) [] none none s (tW Q) := ⟨_, Ax hv, v, s, rfl, h⟩
theorem kg {Q : V → S → Prop} (v : V) (i : Tmp) (hr : fn.results = #[.tmp i]) (hv : t.get (eT i) = some v) (h : Q v s) : Wp E f fn t (.code .ret :: k) [] none none s (tW Q) := ⟨_, NZ hr hv, v, s, rfl, h⟩
theorem kh {c : Code} (I : Nat → T V → S → Prop)
 (step : ∀ j t s, I j t s → (∀ j' t' s', j' < j → I j' t' s' → Wp E f fn t' (.inLoop c :: k) ds up rd s' Q) → Wp E f fn t (.code c :: .inLoop c :: k) ds up rd s Q) :
 ∀ (n : Nat) (t : T V) (s : S), I n t s → Wp E f fn t (.code (.loop c) :: k) ds up rd s Q := by
 intro n
 induction n using Nat.strongRecOn with
 | ind n ih =>
  intro t s h
  refine (step n t s h fun j' t' s' hj hI => ?_).map fun _ => Oa
  refine (ih j' hj t' s' hI).map fun o ho => ?_
  unfold Fr at ho ⊢
  rw [ey] at ho ⊢
  exact ho
theorem ls {args : List V} {Q : V → S → Prop} {c : Code} (ho : E.orc f args s = none) (hf : E.P.funcs[f]? = some fn) (hb : fn.body = some c) (hn : (fn.name == "runtime.NumGoroutine") = false)
 (h : Wp E f fn (bi args 0 .leaf id) [.code c] [] none none s (tW Q)) : Cw E f args s Q := by
 obtain ⟨o, h1, v, s', rfl, h2⟩ := h
 exact ⟨v, s', Mp ho hf hb hn h1, h2⟩
theorem Cw.mono {args : List V} {Q Q' : V → S → Prop} (h : Cw E f args s Q) (m : ∀ v s', Q v s' → Q' v s') : Cw E f args s Q' := by
 obtain ⟨v, s', h1, h2⟩ := h; exact ⟨v, s', h1, m v s' h2⟩
section
variable {E : cg} {ops : Array Oper} {rec : fu} {recR : pK} {rd : Option Nat} {o : Oper} {t : T V} {ds : List dT} {up : Option Md} {s s' : S} {k : RK} {d : Option Tmp} {v : V}
theorem af : lZ E rec recR rd o t ds up s k (some true) = dX rec recR rd o.dst t ds up k (az o.op E t s) := rfl
theorem qh : lZ E rec recR rd o t ds up s k (some false) = k (putD t o.dst V.undef) ds up s := by simp only [lZ, cV]
theorem ak : dX rec recR rd d t ds up k (some (.val v s)) = k (putD t d v) ds up s := by simp only [dX, cV]
theorem fe : dX rec recR rd d t ds up k (some (.skip s)) = k (putD t d V.undef) ds up s := by simp only [dX, cV]
theorem bM {f : FuncId} {args : List V} : dX rec recR rd d t ds up k (some (.enter f args s)) = eH d t ds up k (rec f args none s) := rfl
theorem Al {l : Nat} {args : List V} : dX rec recR rd d t ds up k (some (.round l args s)) = eH d t ds up k (recR l args s) := rfl
theorem cx {u : Option Md} : eH d t ds up k (some ⟨.returned v, u, s⟩) = k (putD t d v) ds up s := by simp only [eH, cV]
def zN (d : Option Tmp) (t : T V) (k : T V → S → Option fv) : Option (V × S) → Option fv
 | some (v, s) => k (putD t d v) s
 | none => none
def uA (E : cg) (ops : Array Oper) (h : List S) (t : T V) (s : S) (k : T V → S → Option fv) : Option Oper → Option fv
 | some o => zN o.dst t k (cd E h t s o (aM ops t o))
 | none => none
def zO (s s' : S) (d : Option Tmp) (t : T V) (v : V) (k : S → T V → S → Option fv) : Bool → Option fv
 | true => k s' (putD t d v) s'
 | false => none
def pX (s : S) (d : Option Tmp) (t : T V) (k : S → T V → S → Option fv) : Option (V × S) → Option fv
 | some (v, s') => zO s s' d t v k (Nat.ble s.next s'.next)
 | none => none
def EK (E : cg) (ops : Array Oper) (rec : fu) (t : T V) (s : S) (k : S → T V → S → Option fv) : Option Oper → Option fv
 | some o => pX s o.dst t k (dH E rec t s o (aM ops t o))
 | none => none
def He (E : cg) (ops : Array Oper) (rec : fu) (ds : List dT) (up : Option Md) (r : List (Option Nat × Nat)) (h : List S) (t : T V) (s : S) : Option fv := cO E ops rec ds up r h t s
def Hf (E : cg) (ops : Array Oper) (rec : fu) (ds : List dT) (up : Option Md) (r : List (Option Nat × Nat)) (h : List S) (s1 : S) (t : T V) (s : S) : Option fv := cO E ops rec ds up r (s1 :: h) t s
theorem dO {c i : Nat} {r : List (Option Nat × Nat)} {h : List S} : cO E ops rec ds up ((some c, i) :: r) h t s = uA E ops (h.take c) t s (He E ops rec ds up r h) (ops[i]?) := by
 rw [Aa]
 cases ops[i]? with
 | none => rfl
 | some o =>
  simp only [uA]
  cases cd E (h.take c) t s o (aM ops t o) with
  | none => rfl
  | some x => rfl
theorem gF {i : Nat} {r : List (Option Nat × Nat)} {h : List S} : cO E ops rec ds up ((none, i) :: r) h t s = EK E ops rec t s (Hf E ops rec ds up r h) (ops[i]?) := by
 rw [EV]
 cases ops[i]? with
 | none => rfl
 | some o =>
  simp only [EK]
  cases dH E rec t s o (aM ops t o) with
  | none => rfl
  | some x =>
   obtain ⟨v, s'⟩ := x
   simp only [pX]
   cases Nat.ble s.next s'.next <;> rfl
theorem cq {r : List (Option Nat × Nat)} {h : List S} : He E ops rec ds up r h t s = cO E ops rec ds up r h t s := rfl
theorem eG {r : List (Option Nat × Nat)} {h : List S} {s1 : S} : Hf E ops rec ds up r h s1 t s = cO E ops rec ds up r (s1 :: h) t s := rfl
theorem bn {h : List S} {k : T V → S → Option fv} : uA E ops h t s k (some o) = zN o.dst t k (cd E h t s o (aM ops t o)) := rfl
theorem bC {k : T V → S → Option fv} : zN d t k (some (v, s)) = k (putD t d v) s := rfl
theorem ea {k : S → T V → S → Option fv} : EK E ops rec t s k (some o) = pX s o.dst t k (dH E rec t s o (aM ops t o)) := rfl
theorem cZ {k : S → T V → S → Option fv} : pX s d t k (some (v, s')) = zO s s' d t v k (Nat.ble s.next s'.next) := rfl
theorem dE {k : S → T V → S → Option fv} : zO s s' d t v k true = k s' (putD t d v) s' := rfl
theorem aG {h : List S} : cd E h t s o (some true) = iI E h t s o (al E.P o.op) := rfl
theorem rP {h : List S} : cd E h t s o (some false) = some (V.undef, s) := rfl
theorem dG : dH E rec t s o (some true) = kG rec (az o.op E t s) := rfl
theorem xh : dH E rec t s o (some false) = some (V.undef, s) := rfl
theorem yE : kG rec (some (.val v s)) = some (v, s) := rfl
theorem gg : kG rec (some (.skip s)) = some (V.undef, s) := rfl
theorem iL {f : FuncId} {args : List V} : kG rec (some (.enter f args s)) = nG (rec f args none s) := rfl
theorem jV {u : Option Md} : nG (some ⟨.returned v, u, s⟩) = some (v, s) := rfl
theorem cu {h : List S} : iI E h t s o 0 = pO s (az o.op E t s) := rfl
theorem em {h : List S} {x : S} : iI E [x] t s o 1 = jI s (du E t o [x]) := rfl
theorem vH {h : List S} : iI E h t s o 2 = pP (az o.op E t s) := rfl
theorem bR : pO s (some (.val v s')) = some (v, s) := rfl
theorem sh : pP (some (.val v s')) = some (v, s') := rfl
theorem bo : jI s (some v) = some (v, s) := rfl
def Af : Option Nx → Option V
 | some (.val v _) => some v
 | _ => none
theorem cr : Af (some (.val v s)) = some v := rfl
theorem bz {x : S} : du E t o [x] = Af (az o.op E t x) := by
 simp only [du, dV]
 cases az o.op E t x with
 | none => rfl
 | some n => cases n <;> rfl
end
def vC (t : T V) (want : Bool) : Option Tmp → Option Bool
 | some d => guardB want (t.get (eT d))
 | none => none
 where
  guardB (want : Bool) : Option V → Option Bool
   | some (.bool b) => some (b == want)
   | some (.tuple _) => some false
   | _ => none
theorem ac {ops : Array Oper} {t : T V} {dst : Option Tmp} {op : Op} {ty : TypeId} {pos : String} {aft : Array Edge} : aM ops t ⟨dst, op, ty, pos, aft, none⟩ = some true := rfl
theorem jd {ops : Array Oper} {t : T V} {dst : Option Tmp} {op : Op} {ty : TypeId} {pos : String} {aft : Array Edge} {j : Nat} {w : Bool} : aM ops t ⟨dst, op, ty, pos, aft, some (j, w)⟩ = vC t w ((ops[j]?).bind (·.dst)) := by
 simp only [aM]
 cases (ops[j]?).bind (·.dst) with
 | none => rfl
 | some d =>
  simp only [vC]
  cases t.get (eT d) with
  | none => rfl
  | some v => cases v <;> rfl
theorem kC {t : T V} {w : Bool} {d : Tmp} : vC t w (some d) = vC.guardB w (t.get (eT d)) := rfl
theorem kD {w b : Bool} : vC.guardB w (some (.bool b)) = some (b == w) := rfl
mutual
theorem uC : ∀ v : V, ba.sameV v v = true
 | .bool _ => by simp [ba.sameV]
 | .int _ _ => by simp [ba.sameV]
 | .str _ => by simp [ba.sameV]
 | .ptr a => by simp [ba.sameV]
 | .nilptr => rfl
 | .slice .. => by simp [ba.sameV]
 | .nilslice => rfl
 | .map _ => by simp [ba.sameV]
 | .nilmap => rfl
 | .nilFunc => rfl
 | .nilIface => rfl
 | .func f a b => by simp [ba.sameV, eY a, eY b]
 | .iface t v => by simp [ba.sameV, uC v]
 | .agg a => by simp [ba.sameV, eY a]
 | .tuple a => by simp [ba.sameV, eY a]
 | .atom a => by simp [ba.sameV]
theorem eY : ∀ l : List V, ba l l = true
 | [] => rfl
 | v :: l => by simp [ba, uC v, eY l]
end
def uK : Option V → Option V → Option V
 | some v, some w => bif ba [v] [w] then some v else none
 | _, _ => none
theorem ku {E : cg} {t : T V} {o : Oper} {x y : S} {r : List S} : du E t o (x :: y :: r) = uK (Af (az o.op E t x)) (du E t o (y :: r)) := by
 simp only [du, dV]
 cases az o.op E t x with
 | none => rfl
 | some n =>
  cases n <;> try rfl
  simp only [Af]
  cases du E t o (y :: r) <;> rfl
theorem iw (v : V) : uK (some v) (some v) = some v := by simp [uK, eY]
theorem cM (s : S) : uQ (some s) = some (.skip s) := rfl
theorem kO : ∀ (l : List V) (n : Nat), l.length = n → aO n l = some l
 | [], 0, _ => rfl
 | [], _ + 1, h => by simp at h
 | _ :: _, 0, h => by simp at h
 | x :: l, n + 1, h => by simp [aO, kO l n (by simpa using h)]
theorem iP (n : Nat) : Nat.ble n n = true := Nat.ble_eq_true_of_le (Nat.le_refl n)
theorem qS (s : S) (f : Nat) (B : bP) : Nat.ble s.next (s.put f B).next = true := by rw [S.next_put]; exact iP _
theorem Gm (s : S) (B : bP) : Nat.ble s.next (s.alloc B).next = true := by rw [S.next_alloc]; exact Nat.ble_eq_true_of_le (Nat.le_succ _)
theorem Me.start1 {F : List Nat} {s : S} (hw : WF s) {f : Nat} {B : bP} (hf : f ∈ F) (hB : s.get f = some B) (hr : ∀ vs, B ≠ .ro vs) : Me F s s [(f, B)] :=
 ⟨hw, Fw.refl F s, ⟨⟨hB, hr, by simp⟩, trivial⟩, fun x hx => by simp at hx; subst hx; exact .inr hf⟩
end Go.AI
namespace Go.AI
theorem wI {i : Nat} (h : i < 9223372036854775807) : IntKind.wrap .i64 (((i : Nat) : Int) + 1) = ((i + 1 : Nat) : Int) := by
 rw [show ((i : Nat) : Int) + 1 = ((i + 1 : Nat) : Int) by omega]; exact bJ _ ⟨by omega, by omega⟩
end Go.AI
