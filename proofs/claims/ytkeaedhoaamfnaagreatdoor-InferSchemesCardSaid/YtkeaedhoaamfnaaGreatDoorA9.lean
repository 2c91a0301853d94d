/- The evaluator by which runs of the program are reckoned, and that it is sound: part 9. No conditions beyond those of the row. -/
import Derived.Test.YtkeaedhoaamfnaaGreatDoorA8
import Derived.IntWalk
set_option linter.unusedVariables false
set_option linter.unusedSimpArgs false
noncomputable section
namespace Go.AI
variable {E : cx} {f : FuncId} {fn : Func} {t : T V} {i : Item} {k : List Item} {ds : List ei} {up : Option Md} {rd : Option Nat} {s : S} {o : dz}
def Fr (E : cx) (f : FuncId) (fn : Func) (t : T V) (todo : List Item) (ds : List ei) (up : Option Md) (rd : Option Nat) (s : S) (o : dz) : Prop := lim E (.frame f fn t todo ds .run up rd) s = some o
def Ca (E : cx) (f : FuncId) (args : List V) (s : S) (v : V) (s' : S) : Prop := lim E (.call f args none) s = some ⟨.returned v, none, s'⟩
theorem ix (h : bg E (lim E) (.frame f fn t (i :: k) ds .run up rd) s = some o) : Fr E f fn t (i :: k) ds up rd s o := by
 unfold Fr; rw [eN]; exact h
theorem Ur {a b : Code} (h : Fr E f fn t (.code a :: .code b :: k) ds up rd s o) : Fr E f fn t (.code (.seq a b) :: k) ds up rd s o := ix h
theorem RM (h : Fr E f fn t k ds up rd s o) : Fr E f fn t (.code .skip :: k) ds up rd s o := ix h
theorem PO {id : Nat} {c : Code} (h : Fr E f fn t (.code c :: .inBlock id :: k) ds up rd s o) : Fr E f fn t (.code (.block id c) :: k) ds up rd s o := ix h
theorem IR {id : Nat} (h : Fr E f fn t k ds up rd s o) : Fr E f fn t (.inBlock id :: k) ds up rd s o := ix h
theorem RO {c : Code} (h : Fr E f fn t (.code c :: .inLoop c :: k) ds up rd s o) : Fr E f fn t (.code (.loop c) :: k) ds up rd s o := ix h
theorem PJ {c : Code} (h : Fr E f fn t (.code c :: .inScope c :: k) ds up rd s o) : Fr E f fn t (.code (.scope c) :: k) ds up rd s o := ix h
theorem IQ {c : Code} (h : Fr E f fn t k ds up rd s o) : Fr E f fn t (.inScope c :: k) ds up rd s o := ix h
theorem PL {l : Nat} (h : Fr E f fn t k ds up rd s o) : Fr E f fn t (.code (.label l) :: k) ds up rd s o := ix h
theorem RL {c : Operand} {a b : Code} (hc : eval t c = some (.bool true)) (h : Fr E f fn t (.code a :: k) ds up rd s o) : Fr E f fn t (.code (.cond c a b) :: k) ds up rd s o :=
 ix (by simp only [bg, bh, dy, dQ, cR, hc, xw]; exact h)
theorem PM {c : Operand} {a b : Code} (hc : eval t c = some (.bool false)) (h : Fr E f fn t (.code b :: k) ds up rd s o) : Fr E f fn t (.code (.cond c a b) :: k) ds up rd s o :=
 ix (by simp only [bg, bh, dy, dQ, cR, hc, xw]; exact h)
theorem RQ {id : Nat} {k' : List Item} (hx : exitTo id k = some k') (h : Fr E f fn t k' ds up rd s o) : Fr E f fn t (.code (.exit id) :: k) ds up rd s o :=
 ix (by simp only [bg, bh, dy, dQ, cR, hx, qx]; exact h)
theorem Nb {id : Nat} {ops : Array Oper} {t' : T V} {ds' : List ei} {up' : Option Md} {s' : S} (hd : gY ops fn.ntmps = true) (hr : ij E ops (bI (lim E)) (er (lim E)) rd ops.toList t ds up s = some (.on t' ds' up' s'))
 (h : Fr E f fn t' k ds' up' rd s' o) : Fr E f fn t (.code (.region id ops false) :: k) ds up rd s o :=
 ix (by simp only [bg, bh, dy, dQ, cR, hd, cond_true, hr, jd]; exact h)
theorem PN {id : Nat} {ops : Array Oper} {t' : T V} {ds' : List ei} {up' : Option Md} {s' : S} (hd : gY ops fn.ntmps = true) (hr : il E ops (bI (lim E)) (er (lim E)) t ds up s = some (.on t' ds' up' s'))
 (h : Fr E f fn t' k ds' up' rd s' o) : Fr E f fn t (.code (.region id ops true) :: k) ds up rd s o :=
 ix (by simp only [bg, bh, dy, dQ, cR, hd, cond_true, hr, jd]; exact h)
theorem CQ {v : V} (hv : de E.P fn t s = some v) : Fr E f fn t (.code .ret :: k) [] none none s ⟨.returned v, none, s⟩ :=
 ix (by
  simp only [bg, bh, dy, dQ, cR, js, fY]
  rw [eN]
  simp only [bg, bh, cF, jR, hv, Fh])
theorem Ut {v : V} (hv : de E.P fn t s = some v) : Fr E f fn t [] [] none none s ⟨.returned v, none, s⟩ := by
 unfold Fr
 rw [eN]
 simp only [bg, bh, dy, js, fY]
 rw [eN]
 simp only [bg, bh, cF, jR, hv, Fh]
theorem Qj {args : List V} {v : V} {s' : S} {c : Code} (ho : E.orc f args s = none) (hf : E.P.funcs[f]? = some fn) (hb : fn.body = some c) (hn : (fn.name == "runtime.NumGoroutine") = false)
 (h : Fr E f fn (aO args 0 .leaf id) [.code c] [] none none s ⟨.returned v, none, s'⟩) : Ca E f args s v s' := by
 unfold Ca
 rw [eN]
 simp only [bg, ho, nc, qB, hf, hb, hn, cond_false]
 rw [lO]
 exact h
theorem iQ {args : List V} {v : V} {s' : S} (h : Ca E f args s v s') : bI (lim E) f args none s = some ⟨.returned v, none, s'⟩ := h
variable {ops : Array Oper} {rec : fO} {recR : qK} {r : List Oper}
theorem aL : ij E ops rec recR rd [] t ds up s = some (.on t ds up s) := rfl
def GD (m : Nat) : List Nat → Nat
 | [] => 0
 | e :: r => bif m.testBit e then 1 else GD m r + 1
def tQ (ms : List Nat) (effs m : Nat) (H : List Nat) : List (Nat × Oper) → Nat → Option (List (Option Nat × Nat) × Nat)
 | [], done => some ([], done)
 | (i, _) :: r, done =>
  bif !(m.testBit i) || done.testBit i then tQ ms effs m H r done
  else bif effs.testBit i then none
  else match tQ ms effs m H r (Nat.lor done (Nat.pow 2 i)) with
   | some (l, d) => some ((some (GD (ms.getD i 0) H), i) :: l, d)
   | none => none
def xk (ms : List Nat) (effs n : Nat) (all : List (Nat × Oper)) : List (Nat × Oper) → List Nat → Nat → Option (List (Option Nat × Nat))
 | [], H, done => match tQ ms effs (Nat.pow 2 n - 1) H all done with
  | some (l, _) => some l
  | none => none
 | (i, _) :: r, H, done => match tQ ms effs (ms.getD i 0) H all done with
  | some (l, d) => bif !(d.testBit i) && effs.testBit i then (match xk ms effs n all r (i :: H) (Nat.lor d (Nat.pow 2 i)) with
   | some l2 => some (l ++ (none, i) :: l2)
   | none => none) else none
  | none => none
def zH (P : Program) (ops : Array Oper) : Option (List (Option Nat × Nat)) := match Pe P ops with
 | some ⟨ms, l, es, mask⟩ => xk ms mask ops.size l es [ops.size] 0
 | none => none
def jg (E : cx) (hist : List S) (t : T V) (s : S) (o : Oper) : Nat → Option (V × S)
 | 0 => qR s (em E t s o)
 | 1 => kf s (dK E t o hist)
 | 2 => qS (em E t s o)
 | _ => none
def cr (E : cx) (hist : List S) (t : T V) (s : S) (o : Oper) : Option Bool → Option (V × S)
 | some true => jg E hist t s o (aC E.P o.op)
 | some false => some (V.undef, s)
 | none => none
def dw (E : cx) (ops : Array Oper) (rec : fO) (ds : List ei) (up : Option Md) : List (Option Nat × Nat) → List S → T V → S → Option fQ
 | [], _, t, s => some (.on t ds up s)
 | (c, i) :: r, hist, t, s => match ops[i]? with
  | none => none
  | some o => match c with
   | some c => match cr E (hist.take c) t s o (ba ops t o) with
    | some (v, s) => dw E ops rec ds up r hist (putD t o.dst v) s
    | none => none
   | none => match dY E rec t s o (ba ops t o) with
    | some (v, s') => bif Nat.ble s.next s'.next then dw E ops rec ds up r (s' :: hist) (putD t o.dst v) s' else none
    | none => none
theorem ud (m : Nat) : ∀ (h : List (Nat × S)), oj m h = (h.map (·.2)).take (GD m (h.map (·.1)))
 | [] => rfl
 | (e, s) :: r => by
  simp only [oj, List.map_cons, GD]
  cases m.testBit e with
  | true => simp
  | false => simp [ud m r]
theorem FT {E : cx} {h : List (Nat × S)} {m : Nat} {t : T V} {s : S} {o : Oper} (b : Option Bool) : jS E h m t s o b = cr E ((h.map (·.2)).take (GD m (h.map (·.1)))) t s o b := by
 cases b with
 | none => rfl
 | some b => cases b with
  | false => rfl
  | true =>
   simp only [jS, cr]
   unfold CU jg
   rw [ud]
   generalize aC E.P o.op = q
   match q with
   | 0 => rfl
   | 1 => rfl
   | 2 => rfl
   | _ + 3 => rfl
theorem rh {E : cx} {ops : Array Oper} {rec : fO} {ds : List ei} {up : Option Md} {ms : List Nat} {effs m : Nat} {hist : List (Nat × S)} :
 ∀ (l : List (Nat × Oper)) (done : Nat) (t : T V) (s : S), (∀ x ∈ l, ops[x.1]? = some x.2) → ∀ sc d, tQ ms effs m (hist.map (·.1)) l done = some (sc, d) → ∀ (rest : List (Option Nat × Nat)),
  dw E ops rec ds up (sc ++ rest) (hist.map (·.2)) t s = match dH E ops ms effs hist m l done t s with
   | some (_, t, s) => dw E ops rec ds up rest (hist.map (·.2)) t s
   | none => none
 | [], done, t, s, _, sc, d, h, rest => by cases h; rfl
 | (i, o) :: l, done, t, s, hops, sc, d, h, rest => by
  simp only [tQ] at h
  simp only [dH]
  cases hb : (!(m.testBit i) || done.testBit i) with
  | true =>
   rw [hb] at h
   simp only [cond_true] at h ⊢
   exact rh l done t s (fun x hx => hops x (List.mem_cons_of_mem _ hx)) sc d h rest
  | false =>
   rw [hb] at h
   simp only [cond_false] at h ⊢
   cases he : effs.testBit i with
   | true => rw [he] at h; cases h
   | false =>
    rw [he] at h
    simp only [cond_false] at h ⊢
    split at h
    ·rename_i l1 d1 hp
     cases h
     simp only [List.cons_append, dw]
     have ho : ops[i]? = some o := hops (i, o) (by simp)
     rw [ho]
     simp only
     rw [← FT]
     cases jS E hist (ms.getD i 0) t s o (ba ops t o) with
     | none => rfl
     | some x =>
      obtain ⟨v, s1⟩ := x
      simp only [dA]
      exact rh l _ _ s1 (fun x hx => hops x (List.mem_cons_of_mem _ hx)) l1 _ hp rest
    ·cases h
theorem qp {E : cx} {ops : Array Oper} {ms : List Nat} {effs m : Nat} {hist : List (Nat × S)} : ∀ (l : List (Nat × Oper)) (done : Nat) (t : T V) (s : S) sc d, tQ ms effs m (hist.map (·.1)) l done = some (sc, d) →
 ∀ d' t' s', dH E ops ms effs hist m l done t s = some (d', t', s') → d' = d
 | [], done, t, s, sc, d, h, d', t', s', e => by cases h; cases e; rfl
 | (i, o) :: l, done, t, s, sc, d, h, d', t', s', e => by
  simp only [tQ] at h
  simp only [dH] at e
  cases hb : (!(m.testBit i) || done.testBit i) with
  | true =>
   rw [hb] at h e
   exact qp l done t s sc d h d' t' s' e
  | false =>
   rw [hb] at h e
   simp only [cond_false] at h e
   cases he : effs.testBit i with
   | true => rw [he] at h; cases h
   | false =>
    rw [he] at h e
    simp only [cond_false] at h e
    split at h
    ·rename_i l1 d1 hp
     cases h
     split at e
     ·rename_i v s1 hf
      rw [dA] at e
      exact qp l _ _ s1 l1 d hp d' t' s' e
     ·cases e
    ·cases h
theorem Ap {E : cx} {ops : Array Oper} {rec : fO} {ds : List ei} {up : Option Md} {ms : List Nat} {effs : Nat} {all : List (Nat × Oper)} (hall : ∀ x ∈ all, ops[x.1]? = some x.2) :
 ∀ (es : List (Nat × Oper)), (∀ x ∈ es, ops[x.1]? = some x.2) → ∀ (hist : List (Nat × S)) (done : Nat) (t : T V) (s : S) sc, xk ms effs ops.size all es (hist.map (·.1)) done = some sc →
  ∀ rr, dw E ops rec ds up sc (hist.map (·.2)) t s = some rr → ik E ops ms effs all rec ds up es hist done t s = some rr
 | [], _, hist, done, t, s, sc, h, rr, e => by
  simp only [xk] at h
  simp only [ik]
  split at h
  ·rename_i l d hp
   cases h
   have := rh (E := E) (rec := rec) (ds := ds) (up := up) all done t s hall _ _ hp []
   rw [List.append_nil] at this
   rw [this] at e
   rw [← e]
   cases dH E ops ms effs hist (Nat.pow 2 ops.size - 1) all done t s with
   | none => rfl
   | some x => rfl
  ·cases h
 | (i, o) :: r, hes, hist, done, t, s, sc, h, rr, e => by
  simp only [xk] at h
  simp only [ik]
  split at h
  ·rename_i l d hp
   cases hb : (!(d.testBit i) && effs.testBit i) with
   | false => rw [hb] at h; cases h
   | true =>
    rw [hb] at h
    simp only [cond_true] at h
    split at h
    ·rename_i l2 h2
     cases h
     rw [rh (E := E) (rec := rec) (ds := ds) (up := up) all done t s hall _ _ hp] at e
     cases hph : dH E ops ms effs hist (ms.getD i 0) all done t s with
     | none => rw [hph] at e; cases e
     | some x =>
      obtain ⟨d1, t1, s1⟩ := x
      have hd := qp all done t s _ _ hp _ _ _ hph
      subst hd
      rw [hph] at e
      simp only [dw] at e
      have ho : ops[i]? = some o := hes (i, o) (by simp)
      rw [ho] at e
      simp only at e ⊢
      cases hst : dY E rec t1 s1 o (ba ops t1 o) with
      | none => rw [hst] at e; cases e
      | some y =>
       obtain ⟨v, s2⟩ := y
       rw [hst] at e
       rw [xl.2 hst]
       simp only [dA, Bool.and_assoc, hb, Bool.and_true] at e ⊢
       cases hn : Nat.ble s1.next s2.next with
       | false => rw [hn] at e; cases e
       | true =>
        rw [hn] at e
        simp only [cond_true] at e ⊢
        exact Ap hall r (fun x hx => hes x (List.mem_cons_of_mem _ hx)) ((i, s2) :: hist) _ _ s2 l2 h2 rr e
    ·cases h
  ·cases h
theorem Cl {E : cx} {ops : Array Oper} {sc : List (Option Nat × Nat)} (h : zH E.P ops = some sc) (rec : fO) (recR : qK) (t : T V) (ds : List ei) (up : Option Md) (s : S) :
 ∀ rr, dw E ops rec ds up sc [s] t s = some rr → il E ops rec recR t ds up s = some rr := by
 intro rr e
 unfold zH at h
 unfold il
 split at h
 ·rename_i ms l es mask hp
  rw [hp]
  simp only
  have hl : l = dN ops.toList 0 ∧ es = rJ E.P (dN ops.toList 0) := by
   simp only [Pe] at hp
   have hp := sh hp
   simp only [Option.some.injEq, Vq.mk.injEq] at hp
   exact ⟨hp.2.1.symm, hp.2.2.1.symm⟩
  obtain ⟨rfl, rfl⟩ := hl
  have hall : ∀ x ∈ dN ops.toList 0, ops[x.1]? = some x.2 := fun x hx => eF.1 (by obtain ⟨a, b⟩ := x; exact hx)
  exact Ap hall _ (fun x hx => hall x (List.mem_filter.1 hx).1) [(ops.size, s)] 0 t s sc h rr e
 ·cases h
theorem Us {E : cx} {f : FuncId} {fn : Func} {t : T V} {k : List Item} {ds : List ei} {up : Option Md} {rd : Option Nat} {s : S} {o : dz} {id : Nat} {ops : Array Oper} {t' : T V} {ds' : List ei} {up' : Option Md} {s' : S} (sc : List (Option Nat × Nat)) (hd : gY ops fn.ntmps = true)
 (hsc : zH E.P ops = some sc) (hr : dw E ops (bI (lim E)) ds up sc [s] t s = some (.on t' ds' up' s')) (h : Fr E f fn t' k ds' up' rd s' o) : Fr E f fn t (.code (.region id ops true) :: k) ds up rd s o :=
 PN hd (Cl hsc _ _ _ _ _ _ _ hr) h
theorem bc (x : V) (r : List V) (i : Nat) (t : T V) : aO (x :: r) i t id = aO r (i + 1) (putD t (some i) x) id := by
 simp only [aO, T.setK_eq]; rfl
theorem dB (i : Nat) (t : T V) : aO [] i t id = t := rfl
theorem ab (t : T V) (d i : Nat) (v : V) : (putD t (some d) v).get (eV i) = if d = i then some v else t.get (eV i) := by
 rw [xd]; simp
theorem eu (t : T V) (v : V) : putD t none v = t := rfl
theorem ah (t : T V) (i : Nat) : eval t (.tmp i) = t.get (eV i) := rfl
theorem cz (t : T V) (k : IntKind) (n : Int) : eval t (.const (.int k n)) = some (.int k n) := rfl
theorem fp (t : T V) (b : Bool) : eval t (.const (.bool b)) = some (.bool b) := rfl
theorem dq (t : T V) (g : FuncId) : eval t (.func g) = some (.func (.func g) [] []) := rfl
theorem ag (s : S) (v : V) : bp s (some v) = some (.val v s) := rfl
section
variable {E : cx} {ops : Array Oper} {rec : fO} {recR : qK} {rd : Option Nat} {o : Oper} {r : List Oper} {t : T V} {ds : List ei} {up : Option Md} {s : S}
theorem ae : ij E ops rec recR rd (o :: r) t ds up s = mQ E rec recR rd o t ds up s (ij E ops rec recR rd r) (ba ops t o) := rfl
theorem cH {h : List S} : dw E ops rec ds up [] h t s = some (.on t ds up s) := rfl
theorem Cj {c i : Nat} {r : List (Option Nat × Nat)} {h : List S} : dw E ops rec ds up ((some c, i) :: r) h t s = match ops[i]? with
 | none => none
 | some o => match cr E (h.take c) t s o (ba ops t o) with
  | some (v, s) => dw E ops rec ds up r h (putD t o.dst v) s
  | none => none := rfl
theorem Iw {i : Nat} {r : List (Option Nat × Nat)} {h : List S} : dw E ops rec ds up ((none, i) :: r) h t s = match ops[i]? with
 | none => none
 | some o => match dY E rec t s o (ba ops t o) with
  | some (v, s') => bif Nat.ble s.next s'.next then dw E ops rec ds up r (s' :: h) (putD t o.dst v) s' else none
  | none => none := rfl
end
theorem RN {E : cx} {f : FuncId} {fn : Func} {t : T V} {k : List Item} {s : S} {i : Tmp} {v : V} (hr : fn.results = #[.tmp i]) (hv : t.get (eV i) = some v) : Fr E f fn t (.code .ret :: k) [] none none s ⟨.returned v, none, s⟩ :=
 CQ (by unfold de; rw [hr]; simp only [fW, gD, hv]; rfl)
theorem aZ (P : Program) (s : S) (ty : TypeId) (a : Ad) : eQ P s ty (some (.ptr a)) = bp s (loadVar P s ty a) := rfl
theorem du (P : Program) (s : S) (ty : TypeId) (a : Ad) (v : V) : kU P s ty (some (.ptr a)) (some v) = wz (storeVar P s ty a v) := rfl
theorem fG (kd : IntKind) (k : Nat) : fu (some (.int kd (k : Int))) = some k := rfl
def WF (s : S) : Prop := ∀ f B, s.get f = some B → f < s.next
def Ex (a s : S) : Prop := ∀ f vs, a.get f = some (.ro vs) → s.get f = some (.ro vs)
structure Fw (F : List Nat) (s s' : S) : Prop where
 keep : ∀ g B, g ∉ F → s.get g = some B → s'.get g = some B
 ro : ∀ g vs, s.get g = some (.ro vs) → s'.get g = some (.ro vs)
 next : s.next ≤ s'.next
 wf : WF s → WF s'
theorem Fw.refl (F : List Nat) (s : S) : Fw F s s := ⟨fun _ _ _ h => h, fun _ _ h => h, Nat.le_refl _, id⟩
theorem Fw.trans {F : List Nat} {a b c : S} (h : Fw F a b) (k : Fw F b c) : Fw F a c := ⟨fun g B hg hb => k.keep g B hg (h.keep g B hg hb), fun g vs hb => k.ro g vs (h.ro g vs hb), Nat.le_trans h.next k.next, fun hw => k.wf (h.wf hw)⟩
theorem Fw.mono {F G : List Nat} {a b : S} (h : Fw F a b) (hs : ∀ g ∈ F, g ∈ G) : Fw G a b := ⟨fun g B hg hb => h.keep g B (fun hf => hg (hs g hf)) hb, h.ro, h.next, h.wf⟩
theorem Fw.ex {F : List Nat} {a s s' : S} (h : Fw F s s') (he : Ex a s) : Ex a s' := fun f vs hf => h.ro f vs (he f vs hf)
theorem Fw.ble {F : List Nat} {s s' : S} (h : Fw F s s') : Nat.ble s.next s'.next = true := Nat.ble_eq_true_of_le h.next
theorem Fw.alloc (F : List Nat) {s : S} (hw : WF s) (B : bZ) : Fw F s (s.alloc B) := by
 refine ⟨fun g C _ hg => ?_, fun g vs hg => ?_, by rw [S.next_alloc]; omega, fun _ g C hg => ?_⟩
 ·rw [S.get_alloc, if_neg (by have := hw g C hg; omega)]; exact hg
 ·rw [S.get_alloc, if_neg (by have := hw g _ hg; omega)]; exact hg
 ·rw [S.get_alloc] at hg
  rw [S.next_alloc]
  split at hg
  ·omega
  ·have := hw g C hg; omega
theorem Fw.put {F : List Nat} {s : S} {f : Nat} {B0 : bZ} (hf : f ∈ F) (h0 : s.get f = some B0) (hr : ∀ vs, B0 ≠ .ro vs) (B : bZ) : Fw F s (s.put f B) := by
 refine ⟨fun g C hg hb => ?_, fun g vs hb => ?_, by rw [S.next_put]; exact Nat.le_refl _, fun hw g C hg => ?_⟩
 ·rw [S.get_put, if_neg (fun e => hg (by rw [← e]; exact hf))]; exact hb
 ·rw [S.get_put, if_neg (fun e => by subst e; rw [h0] at hb; exact hr vs (Option.some.inj hb))]; exact hb
 ·rw [S.get_put] at hg
  rw [S.next_put]
  split at hg
  ·rename_i e; subst e; exact hw _ _ h0
  ·exact hw g C hg
theorem Fw.drop {F : List Nat} {s s' : S} {f : Nat} (h : Fw (f :: F) s s') (hf : s.next ≤ f) (hw : WF s) : Fw F s s' :=
 ⟨fun g B hg hb => h.keep g B (fun hm => by
  rcases List.mem_cons.1 hm with rfl | hm
  ·have := hw g B hb; omega
  ·exact hg hm) hb, h.ro, h.next, h.wf⟩
def DZ (s : S) : List (Nat × bZ) → Prop
 | [] => True
 | (f, B) :: m => (s.get f = some B ∧ (∀ vs, B ≠ .ro vs) ∧ ∀ x ∈ m, x.1 ≠ f) ∧ DZ s m
structure Me (F : List Nat) (s0 s : S) (m : List (Nat × bZ)) : Prop where
 wf0 : WF s0
 fw : Fw F s0 s
 own : DZ s m
 hi : ∀ x ∈ m, s0.next ≤ x.1 ∨ x.1 ∈ F
theorem DZ.at : ∀ {s : S} {m : List (Nat × bZ)} {i : Nat} {f : Nat} {B : bZ}, DZ s m → m[i]? = some (f, B) → s.get f = some B
 | s, [], i, f, B, _, hi => by simp at hi
 | s, (g, C) :: m, 0, f, B, h, hi => by simp at hi; obtain ⟨rfl, rfl⟩ := hi; exact h.1.1
 | s, (g, C) :: m, i + 1, f, B, h, hi => by simp at hi; exact DZ.at h.2 hi
theorem Me.at {F : List Nat} {s0 s : S} {m : List (Nat × bZ)} (h : Me F s0 s m) (i : Nat) {f : Nat} {B : bZ} (hi : m[i]? = some (f, B)) : s.get f = some B := h.own.at hi
theorem Me.wf {F : List Nat} {s0 s : S} {m : List (Nat × bZ)} (h : Me F s0 s m) : WF s := h.fw.wf h.wf0
theorem DZ.mem : ∀ {s : S} {m : List (Nat × bZ)} {x : Nat × bZ}, DZ s m → x ∈ m → s.get x.1 = some x.2
 | s, [], x, _, hx => by cases hx
 | s, (g, C) :: m, x, h, hx => by
  rcases List.mem_cons.1 hx with rfl | hx
  ·exact h.1.1
  ·exact DZ.mem h.2 hx
theorem DZ.keep : ∀ {s s' : S} {m : List (Nat × bZ)}, DZ s m → (∀ x ∈ m, s'.get x.1 = some x.2) → DZ s' m
 | s, s', [], _, _ => trivial
 | s, s', (g, C) :: m, h, k => ⟨⟨k (g, C) (by simp), h.1.2⟩, DZ.keep h.2 fun x hx => k x (List.mem_cons_of_mem _ hx)⟩
theorem Me.start {F : List Nat} {s : S} (hw : WF s) : Me F s s [] := ⟨hw, Fw.refl F s, trivial, by simp⟩
theorem Me.alloc {F : List Nat} {s0 s : S} {m : List (Nat × bZ)} (h : Me F s0 s m) {B : bZ} (hr : ∀ vs, B ≠ .ro vs) : Me F s0 (s.alloc B) ((s.next, B) :: m) := by
 have hf := Fw.alloc F h.wf B
 refine ⟨h.wf0, h.fw.trans hf, ⟨⟨by rw [S.get_alloc, if_pos rfl], hr, fun x hx => ?_⟩, h.own.keep fun x hx => ?_⟩, fun x hx => ?_⟩
 ·have := h.wf _ _ (h.own.mem hx); omega
 ·exact (Fw.alloc [] h.wf B).keep _ _ (by simp) (h.own.mem hx)
 ·rcases List.mem_cons.1 hx with rfl | hx
  ·exact .inl h.fw.next
  ·exact h.hi x hx
theorem Me.call {F : List Nat} {s0 s s' : S} {m : List (Nat × bZ)} (h : Me F s0 s m) (hf : Fw [] s s') : Me F s0 s' m :=
 ⟨h.wf0, h.fw.trans (hf.mono (by simp)), h.own.keep fun x hx => hf.keep _ _ (by simp) (h.own.mem hx), h.hi⟩
theorem DZ.set : ∀ {s s' : S} {m : List (Nat × bZ)} {i f : Nat} {B B' : bZ}, DZ s m → m[i]? = some (f, B) → (∀ vs, B' ≠ .ro vs) → s'.get f = some B' → (∀ g C, g ≠ f → s.get g = some C → s'.get g = some C) → DZ s' (m.set i (f, B'))
 | s, s', [], i, f, B, B', _, hi, _, _, _ => by simp at hi
 | s, s', (g, C) :: m, 0, f, B, B', h, hi, hr, h1, h2 => by
  simp at hi; obtain ⟨rfl, rfl⟩ := hi
  exact ⟨⟨h1, hr, h.1.2.2⟩, h.2.keep fun x hx => h2 _ _ (h.1.2.2 x hx) (h.2.mem hx)⟩
 | s, s', (g, C) :: m, i + 1, f, B, B', h, hi, hr, h1, h2 => by
  simp at hi
  have hm : (f, B) ∈ m := List.mem_of_getElem? hi
  have hne : f ≠ g := h.1.2.2 _ hm
  refine ⟨⟨h2 _ _ (fun e => hne e.symm) h.1.1, h.1.2.1, fun x hx => ?_⟩, DZ.set h.2 hi hr h1 h2⟩
  rcases List.mem_or_eq_of_mem_set hx with hx | rfl
  ·exact h.1.2.2 x hx
  ·exact hne
theorem DZ.ne : ∀ {s : S} {m : List (Nat × bZ)} {i f : Nat} {B : bZ}, DZ s m → m[i]? = some (f, B) → ∀ vs, B ≠ .ro vs
 | s, [], i, f, B, _, hi => by simp at hi
 | s, (g, C) :: m, 0, f, B, h, hi => by simp at hi; obtain ⟨rfl, rfl⟩ := hi; exact h.1.2.1
 | s, (g, C) :: m, i + 1, f, B, h, hi => by simp at hi; exact DZ.ne h.2 hi
theorem Me.call1 {F : List Nat} {s0 s s' : S} {m : List (Nat × bZ)} (h : Me F s0 s m) (i : Nat) {f : Nat} {B B' : bZ} (hi : m[i]? = some (f, B)) (hr : ∀ vs, B' ≠ .ro vs) (hf : Fw [f] s s') (hB : s'.get f = some B') : Me F s0 s' (m.set i (f, B')) := by
 have hm : (f, B) ∈ m := List.mem_of_getElem? hi
 refine ⟨h.wf0, ?_, h.own.set hi hr hB fun g C hg hC => hf.keep g C (by simpa using hg) hC, fun x hx => ?_⟩
 ·rcases h.hi _ hm with hh | hh
  ·have h1 : Fw (f :: F) s0 s' := (h.fw.mono (fun g hg => List.mem_cons_of_mem _ hg)).trans (hf.mono (fun g hg => by simp at hg; subst hg; simp))
   exact h1.drop hh h.wf0
  ·exact h.fw.trans (hf.mono (fun g hg => by simp at hg; subst hg; exact hh))
 ·rcases List.mem_or_eq_of_mem_set hx with hx | rfl
  ·exact h.hi x hx
  ·exact h.hi (f, B) hm
theorem Me.put {F : List Nat} {s0 s : S} {m : List (Nat × bZ)} (h : Me F s0 s m) (i : Nat) {f : Nat} {B : bZ} (hi : m[i]? = some (f, B)) {B' : bZ} (hr : ∀ vs, B' ≠ .ro vs) : Me F s0 (s.put f B') (m.set i (f, B')) :=
 h.call1 i hi hr (Fw.put (by simp) (h.at i hi) (h.own.ne hi) B') (by rw [S.get_put, if_pos rfl])
section
variable {s : S} {f : Nat} {e : TypeId} {sb : Bool} {nv : Nat} {cs : List V}
theorem GO (c : Nat) : Nat.ble 0 c = true := Nat.ble_eq_true_of_le (Nat.zero_le c)
theorem wO (h : s.get f = some (.cells e sb nv [⟨0, 0, cs⟩])) (c : Nat) : cO s ⟨f, 0, c⟩ = cs[c]? := by
 unfold cO; rw [h]; simp [bw, GO]
theorem QP (h : s.get f = some (.cells e sb nv [⟨0, 0, cs⟩])) (c n : Nat) : loadCells s ⟨f, 0, c⟩ n = aW n (cs.drop c) := by
 unfold loadCells; rw [h]; simp [bw, GO]
theorem EL (h : s.get f = some (.cells e sb nv [⟨0, 0, cs⟩])) (c : Nat) (new : List V) (h1 : new.all V.one = true) {cs' : List V} (h2 : bK cs c new = some cs') : storeCells s ⟨f, 0, c⟩ new = some (s.put f (.cells e sb nv [⟨0, 0, cs'⟩])) := by
 unfold storeCells; rw [h]; simp [bw, h1, h2, GO]
end
theorem cy (s : S) (B : bZ) : (s.alloc B).get s.next = some B := by rw [S.get_alloc, if_pos rfl]
theorem aY (n : Int) (h : -9223372036854775808 ≤ n ∧ n ≤ 9223372036854775807) : IntKind.i64.wrap n = n := IntWalk.i64_in n h
theorem Xu : (true == true) = true := rfl
theorem Xw : (false == true) = false := rfl
variable {E : cx} {f : FuncId} {fn : Func} {t : T V} {i : Item} {k : List Item} {ds : List ei} {up : Option Md} {rd : Option Nat} {s : S} {Q : dz → Prop}
def Wp (E : cx) (f : FuncId) (fn : Func) (t : T V) (todo : List Item) (ds : List ei) (up : Option Md) (rd : Option Nat) (s : S) (Q : dz → Prop) : Prop := ∃ o, Fr E f fn t todo ds up rd s o ∧ Q o
def Cw (E : cx) (f : FuncId) (args : List V) (s : S) (Q : V → S → Prop) : Prop := ∃ v s', Ca E f args s v s' ∧ Q v s'
def sq (Q : V → S → Prop) : dz → Prop := fun o => ∃ v s, o = ⟨.returned v, none, s⟩ ∧ Q v s
theorem Wp.map {t' : T V} {k' : List Item} {ds' : List ei} {up' : Option Md} {s' : S} (h : Wp E f fn t' k' ds' up' rd s' Q) (m : ∀ o, Fr E f fn t' k' ds' up' rd s' o → Fr E f fn t k ds up rd s o) : Wp E f fn t k ds up rd s Q := by
 obtain ⟨o, h1, h2⟩ := h; exact ⟨o, m o h1, h2⟩
theorem aM {a b : Code} (h : Wp E f fn t (.code a :: .code b :: k) ds up rd s Q) : Wp E f fn t (.code (.seq a b) :: k) ds up rd s Q := h.map fun _ => Ur
theorem iR (h : Wp E f fn t k ds up rd s Q) : Wp E f fn t (.code .skip :: k) ds up rd s Q := h.map fun _ => RM
theorem ce {id : Nat} {c : Code} (h : Wp E f fn t (.code c :: .inBlock id :: k) ds up rd s Q) : Wp E f fn t (.code (.block id c) :: k) ds up rd s Q := h.map fun _ => PO
theorem cE {id : Nat} (h : Wp E f fn t k ds up rd s Q) : Wp E f fn t (.inBlock id :: k) ds up rd s Q := h.map fun _ => IR
theorem NR {c : Code} (h : Wp E f fn t (.code c :: .inScope c :: k) ds up rd s Q) : Wp E f fn t (.code (.scope c) :: k) ds up rd s Q := h.map fun _ => PJ
theorem Hn {c : Code} (h : Wp E f fn t k ds up rd s Q) : Wp E f fn t (.inScope c :: k) ds up rd s Q := h.map fun _ => IQ
theorem NV {l : Nat} (h : Wp E f fn t k ds up rd s Q) : Wp E f fn t (.code (.label l) :: k) ds up rd s Q := h.map fun _ => PL
theorem ck {c : Operand} {a b : Code} (q : Bool) (hc : eval t c = some (.bool q)) (h1 : q = true → Wp E f fn t (.code a :: k) ds up rd s Q) (h2 : q = false → Wp E f fn t (.code b :: k) ds up rd s Q) : Wp E f fn t (.code (.cond c a b) :: k) ds up rd s Q := by
 cases q with
 | true => exact (h1 rfl).map fun _ => RL hc
 | false => exact (h2 rfl).map fun _ => PM hc
theorem oN {id : Nat} {k' : List Item} (hx : exitTo id k = some k') (h : Wp E f fn t k' ds up rd s Q) : Wp E f fn t (.code (.exit id) :: k) ds up rd s Q := h.map fun _ => RQ hx
theorem ar {id : Nat} {ops : Array Oper} {t' : T V} {ds' : List ei} {up' : Option Md} {s' : S} (hd : gY ops fn.ntmps = true) (hr : ij E ops (bI (lim E)) (er (lim E)) rd ops.toList t ds up s = some (.on t' ds' up' s'))
 (h : Wp E f fn t' k ds' up' rd s' Q) : Wp E f fn t (.code (.region id ops false) :: k) ds up rd s Q := h.map fun _ => Nb hd hr
theorem gd {id : Nat} {ops : Array Oper} {t' : T V} {ds' : List ei} {up' : Option Md} {s' : S} (sc : List (Option Nat × Nat)) (hd : gY ops fn.ntmps = true)
 (hsc : zH E.P ops = some sc) (hr : dw E ops (bI (lim E)) ds up sc [s] t s = some (.on t' ds' up' s')) (h : Wp E f fn t' k ds' up' rd s' Q) : Wp E f fn t (.code (.region id ops true) :: k) ds up rd s Q := h.map fun _ => Us sc hd hsc hr
theorem Ts {Q : V → S → Prop} (v : V) (hv : de E.P fn t s = some v) (h : Q v s) : Wp E f fn t (.code .ret :: k) [] none none s (sq Q) := ⟨_, CQ hv, v, s, rfl, h⟩
theorem gy {Q : V → S → Prop} (v : V) (i : Tmp) (hr : fn.results = #[.tmp i]) (hv : t.get (eV i) = some v) (h : Q v s) : Wp E f fn t (.code .ret :: k) [] none none s (sq Q) := ⟨_, RN hr hv, v, s, rfl, h⟩
theorem gR {c : Code} (I : Nat → T V → S → Prop)
 (step : ∀ j t s, I j t s → (∀ j' t' s', j' < j → I j' t' s' → Wp E f fn t' (.inLoop c :: k) ds up rd s' Q) → Wp E f fn t (.code c :: .inLoop c :: k) ds up rd s Q) :
 ∀ (n : Nat) (t : T V) (s : S), I n t s → Wp E f fn t (.code (.loop c) :: k) ds up rd s Q := by
 intro n
 induction n using Nat.strongRecOn with
 | ind n ih =>
  intro t s h
  refine (step n t s h fun j' t' s' hj hI => ?_).map fun _ => RO
  refine (ih j' hj t' s' hI).map fun o ho => ?_
  unfold Fr at ho ⊢
  rw [eN] at ho ⊢
  exact ho
theorem jl {args : List V} {Q : V → S → Prop} {c : Code} (ho : E.orc f args s = none) (hf : E.P.funcs[f]? = some fn) (hb : fn.body = some c) (hn : (fn.name == "runtime.NumGoroutine") = false)
 (h : Wp E f fn (aO args 0 .leaf id) [.code c] [] none none s (sq Q)) : Cw E f args s Q := by
 obtain ⟨o, h1, v, s', rfl, h2⟩ := h
 exact ⟨v, s', Qj ho hf hb hn h1, h2⟩
theorem Cw.mono {args : List V} {Q Q' : V → S → Prop} (h : Cw E f args s Q) (m : ∀ v s', Q v s' → Q' v s') : Cw E f args s Q' := by
 obtain ⟨v, s', h1, h2⟩ := h; exact ⟨v, s', h1, m v s' h2⟩
section
variable {E : cx} {ops : Array Oper} {rec : fO} {recR : qK} {rd : Option Nat} {o : Oper} {t : T V} {ds : List ei} {up : Option Md} {s s' : S} {k : RK} {d : Option Tmp} {v : V}
theorem af : mQ E rec recR rd o t ds up s k (some true) = et rec recR rd o.dst t ds up k (aG o.op E t s) := rfl
theorem mP : mQ E rec recR rd o t ds up s k (some false) = k (putD t o.dst V.undef) ds up s := by simp only [mQ, dA]
theorem al : et rec recR rd d t ds up k (some (.val v s)) = k (putD t d v) ds up s := by simp only [et, dA]
theorem fE : et rec recR rd d t ds up k (some (.skip s)) = k (putD t d V.undef) ds up s := by simp only [et, dA]
theorem bR {f : FuncId} {args : List V} : et rec recR rd d t ds up k (some (.enter f args s)) = eZ d t ds up k (rec f args none s) := rfl
theorem Cz {l : Nat} {args : List V} : et rec recR rd d t ds up k (some (.round l args s)) = eZ d t ds up k (recR l args s) := rfl
theorem cu {u : Option Md} : eZ d t ds up k (some ⟨.returned v, u, s⟩) = k (putD t d v) ds up s := by simp only [eZ, dA]
def BV (d : Option Tmp) (t : T V) (k : T V → S → Option fQ) : Option (V × S) → Option fQ
 | some (v, s) => k (putD t d v) s
 | none => none
def wi (E : cx) (ops : Array Oper) (h : List S) (t : T V) (s : S) (k : T V → S → Option fQ) : Option Oper → Option fQ
 | some o => BV o.dst t k (cr E h t s o (ba ops t o))
 | none => none
def BW (s s' : S) (d : Option Tmp) (t : T V) (v : V) (k : S → T V → S → Option fQ) : Bool → Option fQ
 | true => k s' (putD t d v) s'
 | false => none
def ra (s : S) (d : Option Tmp) (t : T V) (k : S → T V → S → Option fQ) : Option (V × S) → Option fQ
 | some (v, s') => BW s s' d t v k (Nat.ble s.next s'.next)
 | none => none
def Ic (E : cx) (ops : Array Oper) (rec : fO) (t : T V) (s : S) (k : S → T V → S → Option fQ) : Option Oper → Option fQ
 | some o => ra s o.dst t k (dY E rec t s o (ba ops t o))
 | none => none
def KJ (E : cx) (ops : Array Oper) (rec : fO) (ds : List ei) (up : Option Md) (r : List (Option Nat × Nat)) (h : List S) (t : T V) (s : S) : Option fQ := dw E ops rec ds up r h t s
def KK (E : cx) (ops : Array Oper) (rec : fO) (ds : List ei) (up : Option Md) (r : List (Option Nat × Nat)) (h : List S) (s1 : S) (t : T V) (s : S) : Option fQ := dw E ops rec ds up r (s1 :: h) t s
theorem ef {c i : Nat} {r : List (Option Nat × Nat)} {h : List S} : dw E ops rec ds up ((some c, i) :: r) h t s = wi E ops (h.take c) t s (KJ E ops rec ds up r h) (ops[i]?) := by
 rw [Cj]
 cases ops[i]? with
 | none => rfl
 | some o =>
  simp only [wi]
  cases cr E (h.take c) t s o (ba ops t o) with
  | none => rfl
  | some x => rfl
theorem ii {i : Nat} {r : List (Option Nat × Nat)} {h : List S} : dw E ops rec ds up ((none, i) :: r) h t s = Ic E ops rec t s (KK E ops rec ds up r h) (ops[i]?) := by
 rw [Iw]
 cases ops[i]? with
 | none => rfl
 | some o =>
  simp only [Ic]
  cases dY E rec t s o (ba ops t o) with
  | none => rfl
  | some x =>
   obtain ⟨v, s'⟩ := x
   simp only [ra]
   cases Nat.ble s.next s'.next <;> rfl
theorem cI {r : List (Option Nat × Nat)} {h : List S} : KJ E ops rec ds up r h t s = dw E ops rec ds up r h t s := rfl
theorem eY {r : List (Option Nat × Nat)} {h : List S} {s1 : S} : KK E ops rec ds up r h s1 t s = dw E ops rec ds up r (s1 :: h) t s := rfl
theorem bC {h : List S} {k : T V → S → Option fQ} : wi E ops h t s k (some o) = BV o.dst t k (cr E h t s o (ba ops t o)) := rfl
theorem bQ {k : T V → S → Option fQ} : BV d t k (some (v, s)) = k (putD t d v) s := rfl
theorem ey {k : S → T V → S → Option fQ} : Ic E ops rec t s k (some o) = ra s o.dst t k (dY E rec t s o (ba ops t o)) := rfl
theorem dC {k : S → T V → S → Option fQ} : ra s d t k (some (v, s')) = BW s s' d t v k (Nat.ble s.next s'.next) := rfl
theorem dT {k : S → T V → S → Option fQ} : BW s s' d t v k true = k s' (putD t d v) s' := rfl
theorem aS {h : List S} : cr E h t s o (some true) = jg E h t s o (aC E.P o.op) := rfl
theorem tj {h : List S} : cr E h t s o (some false) = some (V.undef, s) := rfl
theorem dX : dY E rec t s o (some true) = kT rec (aG o.op E t s) := rfl
theorem yY : dY E rec t s o (some false) = some (V.undef, s) := rfl
theorem Ar : kT rec (some (.val v s)) = some (v, s) := rfl
theorem gJ : kT rec (some (.skip s)) = some (V.undef, s) := rfl
theorem jj {f : FuncId} {args : List V} : kT rec (some (.enter f args s)) = oA (rec f args none s) := rfl
theorem ku {u : Option Md} : oA (some ⟨.returned v, u, s⟩) = some (v, s) := rfl
theorem cK {h : List S} : jg E h t s o 0 = qR s (aG o.op E t s) := rfl
theorem eG {h : List S} {x : S} : jg E [x] t s o 1 = kf s (dK E t o [x]) := rfl
theorem xg {h : List S} : jg E h t s o 2 = qS (aG o.op E t s) := rfl
theorem cg : qR s (some (.val v s')) = some (v, s) := rfl
theorem tF : qS (some (.val v s')) = some (v, s') := rfl
theorem bD : kf s (some v) = some (v, s) := rfl
def Cp : Option Nx → Option V
 | some (.val v _) => some v
 | _ => none
theorem cJ : Cp (some (.val v s)) = some v := rfl
theorem bN {x : S} : dK E t o [x] = Cp (aG o.op E t x) := by
 simp only [dK, em]
 cases aG o.op E t x with
 | none => rfl
 | some n => cases n <;> rfl
end
def xb (t : T V) (want : Bool) : Option Tmp → Option Bool
 | some d => guardB want (t.get (eV d))
 | none => none
 where
  guardB (want : Bool) : Option V → Option Bool
   | some (.bool b) => some (b == want)
   | some (.tuple _) => some false
   | _ => none
theorem ac {ops : Array Oper} {t : T V} {dst : Option Tmp} {op : Op} {ty : TypeId} {pos : String} {aft : Array Edge} : ba ops t ⟨dst, op, ty, pos, aft, none⟩ = some true := rfl
theorem fS {ops : Array Oper} {t : T V} {dst : Option Tmp} {op : Op} {ty : TypeId} {pos : String} {aft : Array Edge} {j : Nat} {w : Bool} : ba ops t ⟨dst, op, ty, pos, aft, some (j, w)⟩ = xb t w ((ops[j]?).bind (·.dst)) := by
 simp only [ba]
 cases (ops[j]?).bind (·.dst) with
 | none => rfl
 | some d =>
  simp only [xb]
  cases t.get (eV d) with
  | none => rfl
  | some v => cases v <;> rfl
theorem gU {t : T V} {w : Bool} {d : Tmp} : xb t w (some d) = xb.guardB w (t.get (eV d)) := rfl
theorem gV {w b : Bool} : xb.guardB w (some (.bool b)) = some (b == w) := rfl
mutual
theorem wk : ∀ v : V, bn.sameV v v = true
 | .bool _ => by simp [bn.sameV]
 | .int _ _ => by simp [bn.sameV]
 | .str _ => by simp [bn.sameV]
 | .ptr a => by simp [bn.sameV]
 | .nilptr => rfl
 | .slice .. => by simp [bn.sameV]
 | .nilslice => rfl
 | .map _ => by simp [bn.sameV]
 | .nilmap => rfl
 | .nilFunc => rfl
 | .nilIface => rfl
 | .func f a b => by simp [bn.sameV, fC a, fC b]
 | .iface t v => by simp [bn.sameV, wk v]
 | .agg a => by simp [bn.sameV, fC a]
 | .tuple a => by simp [bn.sameV, fC a]
 | .atom a => by simp [bn.sameV]
theorem fC : ∀ l : List V, bn l l = true
 | [] => rfl
 | v :: l => by simp [bn, wk v, fC l]
end
def wt : Option V → Option V → Option V
 | some v, some w => bif bn [v] [w] then some v else none
 | _, _ => none
theorem kJ {E : cx} {t : T V} {o : Oper} {x y : S} {r : List S} : dK E t o (x :: y :: r) = wt (Cp (aG o.op E t x)) (dK E t o (y :: r)) := by
 simp only [dK, em]
 cases aG o.op E t x with
 | none => rfl
 | some n =>
  cases n <;> try rfl
  simp only [Cp]
  cases dK E t o (y :: r) <;> rfl
theorem iU (v : V) : wt (some v) (some v) = some v := by simp [wt, fC]
theorem dt (s : S) : wz (some s) = some (.skip s) := rfl
theorem lj : ∀ (l : List V) (n : Nat), l.length = n → aW n l = some l
 | [], 0, _ => rfl
 | [], _ + 1, h => by simp at h
 | _ :: _, 0, h => by simp at h
 | x :: l, n + 1, h => by simp [aW, lj l n (by simpa using h)]
theorem jo (n : Nat) : Nat.ble n n = true := Nat.ble_eq_true_of_le (Nat.le_refl n)
theorem sg (s : S) (f : Nat) (B : bZ) : Nat.ble s.next (s.put f B).next = true := by rw [S.next_put]; exact jo _
theorem JM (s : S) (B : bZ) : Nat.ble s.next (s.alloc B).next = true := by rw [S.next_alloc]; exact Nat.ble_eq_true_of_le (Nat.le_succ _)
theorem Me.start1 {F : List Nat} {s : S} (hw : WF s) {f : Nat} {B : bZ} (hf : f ∈ F) (hB : s.get f = some B) (hr : ∀ vs, B ≠ .ro vs) : Me F s s [(f, B)] :=
 ⟨hw, Fw.refl F s, ⟨⟨hB, hr, by simp⟩, trivial⟩, fun x hx => by simp at hx; subst hx; exact .inr hf⟩
end Go.AI
namespace Go.AI
theorem wI {i : Nat} (h : i < 9223372036854775807) : IntKind.wrap .i64 (((i : Nat) : Int) + 1) = ((i + 1 : Nat) : Int) := by
 rw [show ((i : Nat) : Int) + 1 = ((i + 1 : Nat) : Int) by omega]; exact aY _ ⟨by omega, by omega⟩
end Go.AI
