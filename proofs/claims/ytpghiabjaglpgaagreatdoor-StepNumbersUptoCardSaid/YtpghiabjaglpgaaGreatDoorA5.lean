/- The evaluator by which runs of the program are reckoned, and that it is sound: part 5. No conditions beyond those of the row. -/
import Derived.Test.YtpghiabjaglpgaaGreatDoorA4
import Derived.Orders
set_option linter.all false
noncomputable section
namespace Go.AI
mutual
theorem vX:∀ {x y:V},aR.sameV x y=true->x=y
 |.bool a,y,h=>by cases y<;>simp[aR.sameV]at h;rw[h]
 |.int j a,y,h=>by cases y<;>simp[aR.sameV]at h;rw[h.1,h.2]
 |.str a,y,h=>by cases y<;>simp[aR.sameV]at h;rw[h]
 |.ptr a,y,h=>by
  cases y<;>simp[aR.sameV]at h
  rename_i b
  obtain⟨⟨h1,h2⟩,h3⟩:=h
  cases a;cases b;simp_all
 |.nilptr,y,h=>by cases y<;>simp[aR.sameV]at h;rfl
 |.slice a z n c sz,y,h=>by
  cases y<;>simp[aR.sameV]at h
  rename_i b y m d sy
  cases a;cases b;simp_all
 |.nilslice,y,h=>by cases y<;>simp[aR.sameV]at h;rfl
 |.map a,y,h=>by cases y<;>simp[aR.sameV]at h;rw[h]
 |.nilmap,y,h=>by cases y<;>simp[aR.sameV]at h;rfl
 |.nilFunc,y,h=>by cases y<;>simp[aR.sameV]at h;rfl
 |.nilIface,y,h=>by cases y<;>simp[aR.sameV]at h;rfl
 |.func f a b,y,h=>by
  cases y<;>simp[aR.sameV]at h
  rename_i g c d
  obtain⟨⟨h1,h2⟩,h3⟩:=h
  rw[h1,cv h2,cv h3]
 |.iface t v,y,h=>by
  cases y<;>simp[aR.sameV]at h
  rw[h.1,vX h.2]
 |.agg a,y,h=>by
  cases y<;>simp[aR.sameV]at h
  rw[cv h]
 |.atom a,y,h=>by cases y<;>simp[aR.sameV]at h;rw[h]
 |.tuple a,y,h=>by
  cases y<;>simp[aR.sameV]at h
  rw[cv h]
theorem cv:∀ {x y:List V},aR x y=true->x=y
 |[],y,h=>by cases y<;>simp[aR]at h;rfl
 |v::x,y,h=>by
  cases y with
  |nil=>simp[aR]at h
  |cons u y =>
   simp only[aR,Bool.and_eq_true]at h
   rw[vX h.1,cv h.2]
end
theorem qi{E:cU}{t:T V}{o:Oper}:∀ {l:List S} {v:V},fO E t o l=some v->∀ s∈l,∃ s1,cT E t s o=some (.val v s1)
 |[],v,h=>by cases h
 |[s],v,h=>fun s' hs=>by
  simp at hs;subst hs
  simp only[fO]at h
  split at h
  ·rename_i u s1 hu;cases h;exact⟨s1,hu⟩
  ·cases h
 |s::s2::r,v,h=>fun s' hs=>by
  simp only[fO]at h
  split at h
  ·rename_i u s1 hu
   split at h
   ·rename_i y hy
    cases hb:aR [u] [y]with
    |false=>rw[hb]at h;cases h
    |true =>
     rw[hb]at h
     cases h
     have:=cv hb
     simp at this
     subst this
     rcases List.mem_cons.1 hs with rfl|hs
     ·exact⟨s1,hu⟩
     ·exact qi hy s' hs
   ·cases h
  ·cases h
theorem yj{E:cU}{rec:gA}{t:T V}{s:S}{o:Oper}{b:Option Bool}{v:V}{s':S}:jP E rec t s o b=some (.val v s')↔eU E rec t s o b=some (v,s'):=by
 cases b with
 |none=>simp[jP,eU]
 |some b=>cases b with
  |false=>simp[jP,eU]
  |true =>
   simp only[jP,eU]
   cases cT E t s o with
   |none=>simp[pD,km]
   |some x=>cases x with
    |enter f args s1 =>
     simp only[pD,km]
     cases rec f args none s1 with
     |none=>simp[qT,sK]
     |some out=>obtain⟨e,u,s2⟩:=out;cases e<;>simp[qT,sK]
    |_=>simp[pD,km]
structure Ev where
 i:Nat
 o:Oper
 v:V
 t:T V
 a:S
 b:S
section
variable(E:cU)(rec:gA)(ops:Array Oper)(t0:T V)(s0:S)
def jk(o:Oper):Prop:=aD E.P o.op=3
def bN:List Ev->S
 |[]=>s0
 |e::_=>e.b
def Kh:List Ev->Prop
 |[]=>True
 |e::_=>jk E e.o
def nE(Y:List Ev)(t:T V):Prop:=∀ d,(∃ q∈Y,q.o.dst=some d/\t.get (et d)=some q.v)\/((∀ q∈Y,q.o.dst≠some d)/\t.get (et d)=t0.get (et d))
def Vv(Y:List Ev)(e:Ev):Prop :=
 (aD E.P e.o.op=0/\e.b=e.a/\∃ s1,cT E e.t e.a e.o=some (.val e.v s1)) \/
 (aD E.P e.o.op=1/\e.b=e.a/\∀ Z F,Y=Z++F->Kh E F->(∀ q∈Z,jk E q.o->¬ kH ops e.i q.i)->∃ s1,cT E e.t (bN s0 F) e.o=some (.val e.v s1)) \/
 (aD E.P e.o.op=2/\cT E e.t e.a e.o=some (.val e.v e.b))
def Pp(Y:List Ev)(e:Ev):Prop :=
 (¬ jk E e.o/\((bw ops e.t e.o=some false/\e.v=V.undef/\e.b=e.a)\/(bw ops e.t e.o=some true/\Vv E ops s0 Y e))) \/
 (jk E e.o/\eU E rec e.t e.a e.o (bw ops e.t e.o)=some (e.v,e.b)/\e.a.next<=e.b.next/\∀ q∈Y,kH ops e.i q.i)
structure Du(Y:List Ev)(e:Ev):Prop where
 op:ops[e.i]? = some e.o
 pre:∀ k,kH ops e.i k->∃ q∈Y,q.i=k
 new:∀ q∈Y,q.i≠e.i
 slots:nE t0 Y e.t
 st:e.a=bN s0 Y
 step:Pp E rec ops s0 Y e
def dA:List Ev->Prop
 |[]=>True
 |e::Y=>Du E rec ops t0 s0 Y e/\dA Y
def dg(n:Nat):List Ev->List (Nat×S)
 |[]=>[(n,s0)]
 |e::Y=>if aD E.P e.o.op=3 then(e.i,e.b)::dg n Y else dg n Y
end
section
variable{E:cU}{rec:gA}{ops:Array Oper}{t0:T V}{s0:S}
theorem nE.put{Y:List Ev}{t:T V}(h:nE t0 Y t)(e:Ev):nE t0 (e::Y) (putD t e.o.dst e.v):=by
 intro d
 rw[EJ]
 by_cases hd:e.o.dst=some d
 ·rw[if_pos hd]
  exact .inl ⟨e,by simp,hd,rfl⟩
 ·rw[if_neg hd]
  rcases h d with⟨q,h1,h2,h3⟩|⟨h1,h2⟩
  ·exact .inl ⟨q,List.mem_cons_of_mem _ h1,h2,h3⟩
  ·refine .inr ⟨fun q hq=>?_,h2⟩
   rcases List.mem_cons.1 hq with rfl|hq
   ·exact hd
   ·exact h1 q hq
theorem xg{m n:Nat}:∀ {Z F:List Ev},Kh E F->(∀ q∈Z,jk E q.o->¬ m.testBit q.i=true)->bN s0 F∈mK m (dg E s0 n (Z++F))
 |[],[],_,_=>by simp[dg,mK,bN]
 |[],e::F,h,_=>by
  have h:aD E.P e.o.op=3:=h
  simp[dg,h,mK,bN]
 |z::Z,F,h,hz=>by
  have ih:=xg (n:=n) (Z:=Z) h (fun q hq=>hz q (List.mem_cons_of_mem _ hq))
  simp only[List.cons_append,dg]
  split
  ·rename_i hk
   have:=hz z (by simp) hk
   have hb:m.testBit z.i=false:=by simpa using this
   simp only[mK,hb,cond_false]
   exact List.mem_cons_of_mem _ ih
  ·exact ih
theorem CB{ms:List Nat}(hms:ms=jv ops.toList []){Y:List Ev}{t:T V}{s:S}{i n:Nat}{o:Oper}{v:V}{s':S}(hk:¬ jk E o)
 (hs:s=bN s0 Y) (e:iM E (dg E s0 n Y) (ms.getD i 0) t s o (bw ops t o)=some (v,s')):Pp E rec ops s0 Y ⟨i,o,v,t,s,s'⟩:=by
 left
 refine⟨hk,?_⟩
 unfold iM at e
 split at e
 ·rename_i hw
  right
  refine⟨hw,?_⟩
  unfold CC at e
  split at e
  ·rename_i hk0
   left
   unfold uY at e
   split at e
   ·rename_i u s1 hu;cases e;exact⟨hk0,rfl,s1,hu⟩
   ·cases e
  ·rename_i hk1
   right;left
   unfold qh at e
   split at e
   ·rename_i u hu
    cases e
    refine⟨hk1,rfl,fun Z F hY hF hZ=>?_⟩
    subst hY
    refine qi hu _ (xg hF fun q hq ha hb=>hZ q hq ha ?_)
    subst hms
    exact hb
   ·cases e
  ·rename_i hk2
   right;right
   unfold uZ at e
   split at e
   ·rename_i u s1 hu;cases e;exact⟨hk2,hu⟩
   ·cases e
  ·cases e
 ·rename_i hw
  cases e
  exact .inl ⟨hw,rfl,rfl⟩
 ·cases e
theorem iP(d i k:Nat):(Nat.lor d (Nat.pow 2 i)).testBit k=(d.testBit k||decide (i=k)):=by
 show(d ||| 2 ^ i).testBit k=_
 rw[Nat.testBit_or,Nat.testBit_two_pow]
def sW(done:Nat)(Y:List Ev):Prop:=∀ k,done.testBit k=true↔∃ q∈Y,q.i=k
theorem sW.cons{done:Nat}{Y:List Ev}(h:sW done Y)(e:Ev):sW (Nat.lor done (Nat.pow 2 e.i)) (e::Y):=by
 intro k
 rw[iP,Bool.or_eq_true,h k]
 simp only[decide_eq_true_eq]
 constructor
 ·rintro(⟨q,h1,h2⟩|h)
  ·exact⟨q,List.mem_cons_of_mem _ h1,h2⟩
  ·exact⟨e,by simp,h⟩
 ·rintro⟨q,hq,h2⟩
  rcases List.mem_cons.1 hq with rfl|hq
  ·exact .inr h2
  ·exact .inl ⟨q,hq,h2⟩
structure St(E:cU)(rec:gA)(ops:Array Oper)(t0:T V)(s0:S)(Y:List Ev)(done:Nat)(t:T V)(s:S):Prop where
 run:dA E rec ops t0 s0 Y
 done:sW done Y
 slots:nE t0 Y t
 st:s=bN s0 Y
theorem jL{n:Nat}:∀ {Z Y:List Ev},(∀ q∈Z,¬ jk E q.o)->dg E s0 n (Z++Y)=dg E s0 n Y
 |[],_,_=>rfl
 |z::Z,Y,h=>by
  have hz:¬ aD E.P z.o.op=3:=h z (by simp)
  simp only[List.cons_append,dg,if_neg hz]
  exact jL fun q hq=>h q (List.mem_cons_of_mem _ hq)
theorem mw(hE:fH ops){ms:List Nat}(hms:ms=jv ops.toList []){effs:Nat}(heffs:∀ i o,ops[i]? = some o->jk E o->effs.testBit i=true){m n:Nat}(hm:∀ i k,m.testBit i=true->kH ops i k->m.testBit k=true){Y0:List Ev} :
 ∀(l:List Oper) (i:Nat),ops.toList.drop i=l->∀(Y:List Ev) (done:Nat) (t:T V) (s:S),St E rec ops t0 s0 Y done t s->dg E s0 n Y=dg E s0 n Y0->(∀ k,k<i->m.testBit k=true->done.testBit k=true) ->
  ∀ done' t' s',cw E ops ms effs (dg E s0 n Y0) m (cK l i) done t s=some (done',t',s') ->
   ∃ Z,St E rec ops t0 s0 (Z++Y) done' t' s'/\(∀ q∈Z,¬ jk E q.o/\m.testBit q.i=true)/\∀ k,k<ops.size->m.testBit k=true->done'.testBit k=true
 |[],i,hl,Y,done,t,s,hS,hh,hd,done',t',s',e=>by
  simp only[cK,cw,Option.some.injEq,Prod.mk.injEq]at e
  obtain⟨rfl,rfl,rfl⟩:=e
  refine⟨[],hS,by simp,fun k hk hb=>hd k ?_ hb⟩
  have:=List.drop_eq_nil_iff.1 hl
  simp at this
  omega
 |o::l,i,hl,Y,done,t,s,hS,hh,hd,done',t',s',e=>by
  have ho:ops[i]? = some o:=by
   have:(ops.toList.drop i)[0]? = some o:=by rw[hl];rfl
   simpa using this
  have hl':ops.toList.drop (i+1)=l:=by
   rw[<- List.tail_drop,hl];rfl
  simp only[cK,cw]at e
  cases hb:(!(m.testBit i)||done.testBit i)with
  |true =>
   rw[hb]at e
   simp only[cond_true]at e
   refine mw hE hms heffs hm l (i+1) hl' Y done t s hS hh (fun k hk hkb=>?_) done' t' s' e
   by_cases hki:k=i
   ·subst hki;rw[hkb]at hb;simpa using hb
   ·exact hd k (by omega) hkb
  |false =>
   rw[hb]at e
   simp only[cond_false]at e
   simp only[Bool.or_eq_false_iff,Bool.not_eq_false']at hb
   cases hf:effs.testBit i with
   |true=>rw[hf]at e;cases e
   |false =>
    rw[hf]at e
    simp only[cond_false]at e
    have hk:¬ jk E o:=fun h=>by have:=heffs i o ho h;rw[hf]at this;cases this
    split at e
    ·rename_i v s1 hfl
     rw[bZ]at e
     have hev:Du E rec ops t0 s0 Y ⟨i,o,v,t,s,s1⟩:=by
      refine⟨ho,fun k hk=>(hS.done k).1 (hd k (rU hE i k hk) (hm i k hb.1 hk)),fun q hq hqi=>?_,hS.slots,hS.st,?_⟩
      ·have:=(hS.done i).2 ⟨q,hq,hqi⟩
       rw[hb.2]at this;cases this
      ·rw[<- hh]at hfl
       exact CB hms hk hS.st hfl
     have hS':St E rec ops t0 s0 (⟨i,o,v,t,s,s1⟩::Y) (Nat.lor done (Nat.pow 2 i)) (putD t o.dst v) s1:=⟨⟨hev,hS.run⟩,hS.done.cons ⟨i,o,v,t,s,s1⟩,hS.slots.put ⟨i,o,v,t,s,s1⟩,rfl⟩
     have hhist:dg E s0 n (⟨i,o,v,t,s,s1⟩::Y)=dg E s0 n Y0:=by
      have hk':¬ aD E.P o.op=3:=hk
      simp only[dg,if_neg hk'];exact hh
     obtain⟨Z,h1,h2,h3⟩:=mw hE hms heffs hm l (i+1) hl' _ _ _ _ hS' hhist (fun k hk' hkb=>by
      rw[iP]
      by_cases hki:i=k
      ·simp[hki]
      ·rw[hd k (by omega) hkb];rfl) done' t' s' e
     refine⟨Z++[⟨i,o,v,t,s,s1⟩],by simpa using h1,fun q hq=>?_,h3⟩
     rcases List.mem_append.1 hq with hq|hq
     ·exact h2 q hq
     ·simp at hq;subst hq;exact⟨hk,hb.1⟩
    ·cases e
def Vx(ops:Array Oper):List Ev->Prop
 |[]=>True
 |e::Y=>∀ q∈Y,kH ops e.i q.i
theorem dA.at:∀ {X:List Ev} {e:Ev} {Y:List Ev},dA E rec ops t0 s0 (X++e::Y)->Du E rec ops t0 s0 Y e/\dA E rec ops t0 s0 Y
 |[],_,_,h=>h
 |_::_,_,_,h=>dA.at h.2
def Pr(E:cU)(rec:gA)(ops:Array Oper)(t0:T V)(s0:S)(ds:List dX)(up:Option Md)(r:kG):Prop :=
 ∃(i:Nat) (o:Oper) (Z Y:List Ev) (done:Nat) (t1:T V) (c:List Dt) (s2:S),
  r=.panicked c (fo done (cK ops.toList 0) t1) ds up s2/\ops[i]? = some o/\jk E o/\dA E rec ops t0 s0 (Z++Y)/\sW done Y/\nE t0 Y t1 /\
  jP E rec t1 (bN s0 Y) o (bw ops t1 o)=some (.pan c s2)/\(∀ q∈Y,kH ops i q.i)/\(∀ k,kH ops i k->∃ q∈Y,q.i=k)/\(∀ q∈Z,¬ jk E q.o)/\(∀ q∈Z++Y,q.i≠i) /\
  ∀ k,k<ops.size->k≠i->¬ kH ops k i->∃ q∈Z++Y,q.i=k
theorem qL{ms:List Nat}{i k:Nat}:∀ {l:List (Nat×Oper)},(dO ms i l).testBit k=true↔(∃ x∈l,x.1=k)/\(ms.getD k 0).testBit i=false/\k≠i
 |[]=>by simp[dO]
 |(a,o)::r=>by
  simp only[dO]
  have ih:=qL (ms:=ms) (i:=i) (k:=k) (l:=r)
  cases hb:((ms.getD a 0).testBit i||Nat.beq a i)with
  |true =>
   simp only[cond_true]
   rw[ih]
   constructor
   ·rintro⟨⟨x,h1,h2⟩,h3⟩
    exact⟨⟨x,List.mem_cons_of_mem _ h1,h2⟩,h3⟩
   ·rintro⟨⟨x,h1,h2⟩,h3,h4⟩
    rcases List.mem_cons.1 h1 with rfl|h1
    ·exfalso
     simp only at h2
     subst h2
     simp only[Bool.or_eq_true]at hb
     rcases hb with hb|hb
     ·rw[h3]at hb;cases hb
     ·exact h4 (Nat.eq_of_beq_eq_true hb)
    ·exact⟨⟨x,h1,h2⟩,h3,h4⟩
  |false =>
   simp only[cond_false]
   have hor:(Nat.lor (Nat.pow 2 a) (dO ms i r)).testBit k=(decide (a=k)||(dO ms i r).testBit k):=by
    show(2 ^ a ||| dO ms i r).testBit k=_
    rw[Nat.testBit_or,Nat.testBit_two_pow]
   rw[hor,Bool.or_eq_true,ih]
   simp only[Bool.or_eq_false_iff]at hb
   constructor
   ·rintro(h|⟨⟨x,h1,h2⟩,h3⟩)
    ·have h:a=k:=by simpa using h
     subst h
     refine⟨⟨(a,o),by simp,rfl⟩,hb.1,fun h=>?_⟩
     have h2:=hb.2
     rw[h,Nat.beq_refl]at h2;cases h2
    ·exact⟨⟨x,List.mem_cons_of_mem _ h1,h2⟩,h3⟩
   ·rintro⟨⟨x,h1,h2⟩,h3⟩
    rcases List.mem_cons.1 h1 with rfl|h1
    ·exact .inl (by simpa using h2)
    ·exact .inr ⟨⟨x,h1,h2⟩,h3⟩
theorem JA(hE:fH ops){ms:List Nat}(hms:ms=jv ops.toList []){effs n:Nat}(heffs:∀ i o,ops[i]? = some o->jk E o->effs.testBit i=true){ds:List dX}{up:Option Md} :
 ∀(es:List (Nat×Oper)),(∀ x∈es,ops[x.1]? = some x.2/\jk E x.2)->Be ms (es.map (·.1))=true->∀(Y:List Ev) (done:Nat) (t:T V) (s:S),St E rec ops t0 s0 Y done t s->Kh E Y->Vx ops Y ->
  (∀ e Y' x r,Y=e::Y'->es=x::r->kH ops x.1 e.i)->∀ r,fN E ops ms effs (cK ops.toList 0) rec ds up es (dg E s0 n Y) done t s=some r ->
   (∃ L t' s',r=.on t' ds up s'/\dA E rec ops t0 s0 L/\nE t0 L t'/\s'=bN s0 L/\∀ k,k<ops.size->∃ q∈L,q.i=k)\/Pr E rec ops t0 s0 ds up r
 |[],hes,hef,Y,done,t,s,hS,hF,hB,hP,r,e=>by
  simp only[fN]at e
  split at e
  ·rename_i d1 t1 s1 hp
   cases e
   have hbits:∀ k,(Nat.pow 2 ops.size - 1).testBit k=decide (k<ops.size):=fun k=>by
    show(2 ^ ops.size - 1).testBit k=_
    rw[Nat.testBit_two_pow_sub_one]
   obtain⟨Z,h1,h2,h3⟩:=mw hE hms heffs (m:=Nat.pow 2 ops.size - 1) (n:=n) (fun i k hi hk=>by
    rw[hbits]at hi ⊢
    have:=rU hE i k hk
    simp at hi ⊢;omega) ops.toList 0 rfl Y done t s hS rfl (fun k hk=>absurd hk (Nat.not_lt_zero _)) _ _ _ hp
   refine .inl ⟨_,t1,s1,rfl,h1.run,h1.slots,h1.st,fun k hk=>(h1.done k).1 (h3 k hk ?_)⟩
   rw[hbits];simpa using hk
  ·cases e
 |(i,o)::r',hes,hef,Y,done,t,s,hS,hF,hB,hP,r,e=>by
  simp only[fN]at e
  obtain⟨ho,hk⟩:=hes (i,o) (by simp)
  simp only at ho hk
  have hpre:∀ k,(ms.getD i 0).testBit k=true↔kH ops i k:=fun k=>by subst hms;rfl
  split at e
  ·rename_i d1 t1 s1 hp
   obtain⟨Z,h1,h2,h3⟩:=mw hE hms heffs (m:=ms.getD i 0) (n:=n) (fun a k ha hk=>by
    rw[hpre]at ha ⊢
    exact rT hE i a k ha hk) ops.toList 0 rfl Y done t s hS rfl (fun k hk=>absurd hk (Nat.not_lt_zero _)) _ _ _ hp
   have hall:∀ q∈Z++Y,kH ops i q.i:=by
    intro q hq
    rcases List.mem_append.1 hq with hq|hq
    ·exact(hpre _).1 (h2 q hq).2
    ·cases Y with
     |nil=>cases hq
     |cons e0 Y' =>
      have h0:=hP e0 Y' (i,o) r' rfl rfl
      rcases List.mem_cons.1 hq with rfl|hq
      ·exact h0
      ·exact rT hE i e0.i q.i h0 (hB q hq)
   have hisz:i<ops.size:=by
    rcases Nat.lt_or_ge i ops.size with h|h
    ·exact h
    ·rw[Array.getElem?_eq_none h]at ho;cases ho
   split at e
   ·rename_i v s2 hst0
    have hst:=yj.1 hst0
    cases hc:(Nat.ble s1.next s2.next&&!(d1.testBit i)&&effs.testBit i)with
    |false=>rw[hc]at e;cases e
    |true =>
     rw[hc]at e
     simp only[cond_true]at e
     rw[bZ]at e
     simp only[Bool.and_eq_true,Bool.not_eq_true']at hc
     have hev:Du E rec ops t0 s0 (Z++Y) ⟨i,o,v,t1,s1,s2⟩:=by
      refine⟨ho,fun k hk=>(h1.done k).1 (h3 k ?_ ((hpre k).2 hk)),fun q hq hqi=>?_,h1.slots,h1.st,.inr ⟨hk,hst,Nat.le_of_ble_eq_true hc.1.1,hall⟩⟩
      ·have:=rU hE i k hk
       have:i<ops.size:=by
        rcases Nat.lt_or_ge i ops.size with h|h
        ·exact h
        ·rw[Array.getElem?_eq_none h]at ho;cases ho
       omega
      ·have:=(h1.done i).2 ⟨q,hq,hqi⟩
       rw[hc.1.2]at this;cases this
     have hhist:dg E s0 n (⟨i,o,v,t1,s1,s2⟩::(Z++Y))=(i,s2)::dg E s0 n Y:=by
      have hk':aD E.P o.op=3:=hk
      simp only[dg,if_pos hk']
      rw[jL fun q hq=>(h2 q hq).1]
     rw[<- hhist]at e
     refine JA hE hms heffs r' (fun x hx=>hes x (List.mem_cons_of_mem _ hx)) ?_ (⟨i,o,v,t1,s1,s2⟩::(Z++Y)) _ _ _ ⟨⟨hev,h1.run⟩,h1.done.cons ⟨i,o,v,t1,s1,s2⟩,h1.slots.put ⟨i,o,v,t1,s1,s2⟩,rfl⟩ hk hall ?_ r e
     ·cases r' with
      |nil=>rfl
      |cons x r'' =>
       simp only[List.map_cons,Be,Bool.and_eq_true]at hef
       exact hef.2
     ·intro e1 Y1 x r1 hY hr
      cases hY;subst hr
      simp only[List.map_cons,Be,Bool.and_eq_true]at hef
      have:=hef.1
      subst hms
      exact this
   ·rename_i c s2 hst
    cases hdi:d1.testBit i with
    |true=>rw[hdi]at e;cases e
    |false =>
     rw[hdi]at e
     simp only[cond_false]at e
     cases hph:cw E ops ms effs (dg E s0 n Y) (dO ms i (cK ops.toList 0)) (cK ops.toList 0) d1 t1 s1 with
     |none=>rw[hph]at e;cases e
     |some x =>
      rw[hph]at e
      obtain⟨d2,t2,s3⟩:=x
      simp only[MU,Option.some.injEq]at e
      have hfm:∀ k,(dO ms i (cK ops.toList 0)).testBit k=true↔(∃ x∈cK ops.toList 0,x.1=k)/\¬ kH ops k i/\k≠i:=fun k=>by
       rw[qL]
       have:(ms.getD k 0).testBit i=false↔¬ kH ops k i:=by
        rw[<- Bool.not_eq_true];subst hms;exact Iff.rfl
       rw[this]
      have hh1:dg E s0 n (Z++Y)=dg E s0 n Y:=jL fun q hq=>(h2 q hq).1
      obtain⟨Z2,g1,g2,g3⟩:=mw hE hms heffs (m:=dO ms i (cK ops.toList 0)) (n:=n) (Y0:=Y) (fun a k ha hk=>by
       rw[hfm]at ha ⊢
       obtain⟨⟨x,x1,x2⟩,p1,p2⟩:=ha
       have hka:=rU hE a k hk
       refine⟨?_,fun hki=>p1 (rT hE a k i hk hki),fun hki=>p1 (by rw[<- hki];exact hk)⟩
       have hxa:ops[a]? = some x.2:=by rw[<- x2];exact dF.1 x1
       have:a<ops.size:=by
        rcases Nat.lt_or_ge a ops.size with h|h
        ·exact h
        ·rw[Array.getElem?_eq_none h]at hxa;cases hxa
       exact⟨(k,ops[k]'(by omega)),dF.2 (by simp),rfl⟩) ops.toList 0 rfl (Z++Y) d1 t1 s1 h1 hh1 (fun k hk=>absurd hk (Nat.not_lt_zero _)) _ _ _ hph
      refine .inr ⟨i,o,Z2,Z++Y,d1,t1,c,s2,e.symm,ho,hk,g1.run,h1.done,h1.slots,by rw[<- h1.st];exact hst,hall,fun k hk=>(h1.done k).1 (h3 k ?_ ((hpre k).2 hk)),fun q hq=>(g2 q hq).1,fun q hq=>?_,fun k hks hki hp=>?_⟩
      ·have:=rU hE i k hk
       omega
      ·rcases List.mem_append.1 hq with hq|hq
       ·exact((hfm _).1 (g2 q hq).2).2.2
       ·have:=rU hE i q.i (hall q hq)
        omega
      ·refine(g1.done k).1 (g3 k hks ((hfm k).2 ⟨⟨(k,ops[k]'hks),dF.2 (by simp[hks]),rfl⟩,hp,hki⟩))
   ·cases e
  ·cases e
theorem xy(k:Nat):∀(es:List (Nat×Oper)) (s:Nat),(es.foldl (fun s x=>Nat.lor s (Nat.pow 2 x.1)) s).testBit k=true↔s.testBit k=true\/∃ x∈es,x.1=k
 |[],s=>by simp
 |x::es,s=>by
  rw[List.foldl_cons,xy k es,iP]
  simp only[Bool.or_eq_true,decide_eq_true_eq,List.mem_cons,exists_eq_or_imp]
  constructor
  ·rintro((h|h)|h)
   ·exact .inl h
   ·exact .inr (.inl h)
   ·exact .inr (.inr h)
  ·rintro(h|h|h)
   ·exact .inl (.inl h)
   ·exact .inl (.inr h)
   ·exact .inr h
theorem CM{t:T V}{ds:List dX}{up:Option Md}{s:S}{recR:zM}{r:kG}(e:gL E ops rec recR t ds up s=some r) :
 jQ ops/\((∃ L t' s',r=.on t' ds up s'/\dA E rec ops t s L/\nE t L t'/\s'=bN s L/\∀ k,k<ops.size->∃ q∈L,q.i=k)\/Pr E rec ops t s ds up r):=by
 unfold gL at e
 split at e
 ·rename_i ms l es mask hp
  simp only[MR]at hp
  cases hc:(HC (jv ops.toList []) (cK ops.toList 0)&&Be (jv ops.toList []) ((qS E.P (cK ops.toList 0)).map (·.1)))with
  |false=>rw[hc]at hp;cases hp
  |true =>
   rw[hc]at hp
   simp only[cond_true,Option.some.injEq,Vt.mk.injEq]at hp
   obtain⟨rfl,rfl,rfl,rfl⟩:=hp
   simp only[Bool.and_eq_true]at hc
   have hD:=Fx hc.1
   refine⟨hD,?_⟩
   refine JA (n:=ops.size) hD.back rfl (fun i o ho hk=>?_) _ (fun x hx=>?_) hc.2 [] 0 t s ⟨trivial,fun k=>by simp,fun d=>.inr ⟨by simp,rfl⟩,rfl⟩ trivial trivial (fun e Y' x r h=>by cases h) r e
   ·rw[xy]
    refine .inr ⟨(i,o),?_,rfl⟩
    unfold qS
    rw[List.mem_filter]
    have hk:aD E.P o.op=3:=hk
    exact⟨dF.2 ho,by simp[hk]⟩
   ·unfold qS at hx
    rw[List.mem_filter]at hx
    obtain⟨x1,x2⟩:=x
    exact⟨dF.1 hx.1,by have h:=hx.2;simp at h;exact h⟩
 ·cases e
end
end Go.AI
namespace Go.AI
def aB.to(ρ:aB)(n:Nat):aB:=fun f v=>if f<n then ρ f v else none
theorem aB.to_le(ρ:aB){n m:Nat}(h:n<=m):(ρ.to n).le (ρ.to m):=fun f v l e=>by
 unfold aB.to at e ⊢
 split at e
 ·rw[if_pos (by omega)];exact e
 ·cases e
theorem aB.to_le_self(ρ:aB)(n:Nat):(ρ.to n).le ρ:=fun f v l e=>by
 unfold aB.to at e
 split at e
 ·exact e
 ·cases e
theorem aB.to_mono{ρ ρ':aB}(h:ρ.le ρ')(n:Nat):(ρ.to n).le (ρ'.to n):=fun f v l e=>by
 unfold aB.to at e ⊢
 split at e
 ·rename_i hf;rw[if_pos hf];exact h _ _ _ e
 ·cases e
theorem aB.to_lt{ρ:aB}{n f v:Nat}{l:ze}(e:ρ.to n f v=some l):f<n/\ρ f v=some l:=by
 unfold aB.to at e
 split at e
 ·rename_i h;exact⟨h,e⟩
 ·cases e
theorem aB.to_of{ρ:aB}{n f v:Nat}(h:f<n):ρ.to n f v=ρ f v:=by unfold aB.to;rw[if_pos h]
theorem aB.to_ge{ρ:aB}{n f v:Nat}(h:n<=f):ρ.to n f v=none:=by unfold aB.to;rw[if_neg (by omega)]
theorem aB.to_all{ρ:aB}{n:Nat}(h:∀ f v,n<=f->ρ f v=none):ρ.to n=ρ:=by
 funext f v
 by_cases hf:f<n
 ·exact aB.to_of hf
 ·rw[aB.to_ge (by omega),h f v (by omega)]
theorem HR.frame{ρ:aB}{s:S}{w w':World}(h:HR ρ s w)(hs:w.heap.size<=w'.heap.size)(hh:∀ b,b<w.heap.size->w'.heap[b]? = w.heap[b]?):HR ρ s w' :=
 ⟨h.fresh,h.inj,fun f v l e=>Nat.lt_of_lt_of_le (h.low f v l e) hs,fun f B hB=>(h.blk f B hB).keep ρ.le_refl (fun _ hv=>hv) (fun v l e=>hh _ (h.low _ _ _ e)),h.dom,h.rw⟩
def XU(ρ:aB):Prop:=∀ f v l f' v' l',ρ f v=some l->ρ f' v'=some l'->l.b=l'.b->f=f'/\l.base=l'.base
def XT(ρ:aB)(w:World):Prop:=∀ f v l,ρ f v=some l->l.b<w.heap.size
theorem HR.widen{ρ:aB}{s:S}{w:World}{n:Nat}(h:HR (ρ.to s.next) s w)(hi:XU ρ)(hl:XT ρ w)(hn:s.next<=n):HR (ρ.to n) ⟨s.h,n⟩ w:=by
 refine⟨fun f v hf=>aB.to_ge hf,fun f v l f' v' l' e e'=>hi _ _ _ _ _ _ (aB.to_lt e).2 (aB.to_lt e').2,fun f v l e=>hl _ _ _ (aB.to_lt e).2,fun f B hB=>?_,fun f B hB=>Nat.lt_of_lt_of_le (h.dom f B (by rw[S.get_eq]at hB ⊢;exact hB)) hn,fun f B hB hnr v l hl=>?_⟩
 rotate_left
 ·have hB':s.get f=some B:=by rw[S.get_eq]at hB ⊢;exact hB
  exact h.rw f B hB' hnr v l (by rw[aB.to_of (h.dom f B hB')];exact(aB.to_lt hl).2)
 have hB':s.get f=some B:=by rw[S.get_eq]at hB ⊢;exact hB
 have hf:=h.dom f B hB'
 refine(h.blk f B hB').keep (aB.to_le ρ hn) (fun v hv=>?_) (fun _ _ _=>rfl)
 rw[aB.to_of hf]at hv
 rw[aB.to_of (by omega)];exact hv
theorem HR.bare{ρ:aB}{w:World}{n:Nat}(hi:XU ρ)(hl:XT ρ w):HR (ρ.to n) ⟨.leaf,n⟩ w :=
 ⟨fun f v hf=>aB.to_ge hf,fun f v l f' v' l' e e'=>hi _ _ _ _ _ _ (aB.to_lt e).2 (aB.to_lt e').2,fun f v l e=>hl _ _ _ (aB.to_lt e).2,fun f B hB=>by(rw[S.get_eq,T.get_leaf]at hB;cases hB),fun f B hB=>by(rw[S.get_eq,T.get_leaf]at hB;cases hB),fun f B hB=>by(rw[S.get_eq,T.get_leaf]at hB;cases hB)⟩
theorem ck{s s':S}{x:Option V}{v:V}{s1:S}(e:bj s x=some (.val v s1)):bj s' x=some (.val v s'):=by
 cases x with
 |none=>cases e
 |some u=>cases e;rfl
theorem KZ{E:cU}{t:T V}{s:S}(s':S)(o:Oper)(hk:aD E.P o.op=0){v:V}{s1:S}(e:cT E t s o=some (.val v s1)):cT E t s' o=some (.val v s'):=by
 obtain⟨dst,op,type,pos,after,guard⟩:=o
 unfold cT at e ⊢
 simp only at e hk ⊢
 cases op<;>simp only[cS]at e ⊢<;>try(cases e;done)
 case move x=>exact ck e
 case assign x=>exact ck e
 case pick c a b =>
  unfold lC at e ⊢
  split at e
  ·exact ck e
  ·cases e
 case build ty parts=>exact ck e
 case nilCheck x=>exact ck e
 case binOp op ty x y z =>
  have hq:mJ op=false:=by
   simp only[aD]at hk
   cases hb:mJ op with
   |false=>rfl
   |true=>rw[hb]at hk;cases hk
  unfold fp at e ⊢
  cases hx:eval t x with
  |none=>rw[hx]at e;cases e
  |some a =>
   cases hy:eval t y with
   |none=>rw[hx,hy]at e;cases e
   |some b =>
    rw[hx,hy]at e
    simp only at e ⊢
    cases hg:eT E.P op ty x y a b with
    |false=>rw[hg]at e;cases e
    |true =>
     rw[hg]at e
     simp only[cond_true]at e ⊢
     have:∀ ok ok',ff E.P ok op ty a b=ff E.P ok' op ty a b:=by
      intro ok ok'
      unfold ff
      split
      ·rfl
      ·rfl
      ·cases op<;>simp[mJ]at hq<;>rfl
     rw[this (bz s') (bz s)]
     exact ck e
 case unOp op ty x=>exact ck e
 case convert src dst x =>
  unfold ga at e ⊢
  split at e
  ·rename_i x' hx'
   unfold ia at e ⊢
   unfold gU at e ⊢
   cases hs:E.P.underlying src with
   |none=>simp[hs]at e
   |some ds =>
    cases hd:E.P.underlying dst with
    |none=>simp[hs,hd]at e
    |some dd =>
     simp only[hs,hd]at e ⊢
     cases dd<;>simp only at e ⊢<;>try(cases e;done)
     case int k=>cases x'<;>simp only at e ⊢<;>first|(cases e;done)|(cases e;rfl)
     case string=>simp[aD,hd]at hk
     case slice el=>simp[aD,hd]at hk
  ·cases e
 case makeInterface ty x=>exact ck e
 case makeFunc fn first cap=>exact ck e
 case slice ty x lo hi mx=>exact ck e
 case fieldAddr ty x f=>exact ck e
 case field ty x f=>exact ck e
 case indexAddr ty x i=>exact ck e
 case index ty x i=>exact ck e
 case typeAssert x xt ty ok=>exact ck e
 case extract x i=>exact ck e
 case call c =>
  simp only[aD]at hk
  split at hk<;>cases hk
 all_goals (first|(simp[aD]at hk;done)|(exfalso;revert hk;simp[aD]))
def only(t:T V):List Tmp->T V
 |[]=>.leaf
 |d::r=>(only t r).set (t.get (et d)) (et d)
theorem mB(t:T V):∀(l:List Tmp) (d:Tmp),(only t l).get (et d)=if d∈l then t.get (et d)else none
 |[],d=>by simp[only,T.get_leaf]
 |x::r,d=>by
  simp only[only]
  rw[T.get_setN,mB t r d]
  by_cases h:x=d
  ·subst h;simp
  ·rw[if_neg h]
   have:d≠x:=fun e=>h e.symm
   simp[this]
def nP(ops:Array Oper)(o:Oper):List Tmp:=match o.guard with
 |some (j,_)=>((ops[j]?).bind (·.dst)).toList
 |none=>[]
def looks(ops:Array Oper)(o:Oper):List Tmp:=sees o++nP ops o
theorem Kt{t:T V}{ops:Array Oper}{o:Oper}{x:Operand}(hx:x∈o.op.operands):eval t x=eval (only t (looks ops o)) x:=by
 cases x with
 |tmp d =>
  simp only[eval]
  rw[mB,if_pos]
  unfold looks sees
  refine List.mem_append.2 (.inl ?_)
  rw[List.mem_filterMap]
  exact⟨.tmp d,by simpa using hx,rfl⟩
 |const v=>rfl
 |global g=>rfl
 |func f=>rfl
theorem iL{E:cU}{ops:Array Oper}{t:T V}{s:S}{o:Oper}:cT E (only t (looks ops o)) s o=cT E t s o :=
 (Hv o fun _ hx=>Kt hx).symm
theorem js{ops:Array Oper}{t:T V}{o:Oper}:bw ops (only t (looks ops o)) o=bw ops t o:=by
 unfold bw
 split
 ·rfl
 ·rename_i j want hg
  split
  ·rename_i d hd
   rw[mB,if_pos]
   unfold looks nP
   refine List.mem_append.2 (.inr ?_)
   rw[hg];simp[hd]
  ·rfl
theorem rl{α:Type}{c:Bool}{x:Option α}{y:α}(h:(bif c then x else none)=some y):x=some y:=by cases c<;>first|(cases h;done)|exact h
theorem Hw{E:cU}{t:T V}{s:S}(o:Oper)(hk:aD E.P o.op=2){v:V}{s1:S}(e:cT E t s o=some (.val v s1)):∃ B,s1=s.alloc B:=by
 obtain⟨dst,op,type,pos,after,guard⟩:=o
 unfold cT at e
 simp only at e hk
 cases op<;>simp only[cS]at e<;>try(cases e;done)
 case alloc elem =>
  unfold iG oG aW aV at e
  split at e
  ·cases e;exact⟨_,rfl⟩
  ·cases e
 case box elem x =>
  unfold qZ oG aW aV at e
  split at e
  ·cases e;exact⟨_,rfl⟩
  ·cases e
 case buildSlice ty len parts =>
  unfold ce at e
  split at e
  ·split at e
   ·split at e
    ·split at e
     ·have e:=rl e
      unfold jV aW aV at e
      split at e
      ·cases e;exact⟨_,rfl⟩
      ·cases e
     ·cases e
    ·cases e
   ·cases e
  ·cases e
 case makeMap ty r =>
  cases r with
  |none=>cases e;exact⟨_,rfl⟩
  |some _=>cases e
 case makeSlice ty l c =>
  unfold dR aW aV at e
  split at e
  ·split at e
   ·split at e
    ·split at e
     ·split at e
      ·have e:=rl e
       cases e;exact⟨_,rfl⟩
      ·cases e
     ·cases e
    ·cases e
   ·cases e
  ·cases e
 case convert src dst x =>
  unfold ga ia gU at e
  split at e
  ·rename_i x' hx'
   cases hd:E.P.underlying dst with
   |none=>simp[aD,hd]at hk
   |some d =>
    cases d<;>simp[aD,hd]at hk
    cases hs:E.P.underlying src with
    |none=>simp[hs]at e
    |some ds =>
     simp only[hs,hd]at e
     cases x'<;>simp only[nF]at e<;>try(cases e;done)
     cases ds<;>simp only[aV]at e<;>try(cases e;done)
     split at e
     ·rename_i hh
      have hh:=rl hh
      cases hh;cases e;exact⟨_,rfl⟩
     ·cases e
  ·cases e
 case binOp op ty x y z=>simp only[aD]at hk;cases hb:mJ op<;>simp[hb]at hk
 case call c=>simp only[aD]at hk;split at hk<;>simp at hk
 all_goals simp[aD]at hk
section
variable{E:cU}{rec:gA}{ops:Array Oper}{t0:T V}{s0:S}
theorem Du.next_le{Y:List Ev}{e:Ev}(h:Du E rec ops t0 s0 Y e):e.a.next<=e.b.next:=by
 rcases h.step with⟨_,⟨_,_,hb⟩|⟨_,⟨_,hb,_⟩|⟨_,hb,_⟩|⟨hk,hb⟩⟩⟩|⟨_,_,hb,_⟩
 ·rw[hb];exact Nat.le_refl _
 ·rw[hb];exact Nat.le_refl _
 ·rw[hb];exact Nat.le_refl _
 ·obtain⟨B,hB⟩:=Hw e.o hk hb
  rw[hB,S.next_alloc];omega
 ·exact hb
theorem dA.next_le:∀ {X Y:List Ev},dA E rec ops t0 s0 (X++Y)->(bN s0 Y).next<=(bN s0 (X++Y)).next
 |[],_,_=>Nat.le_refl _
 |e::X,Y,h=>by
  refine Nat.le_trans (dA.next_le h.2) ?_
  have:=h.1.next_le
  rw[h.1.st]at this
  exact this
theorem dA.suf:∀ {X Y:List Ev},dA E rec ops t0 s0 (X++Y)->dA E rec ops t0 s0 Y
 |[],_,h=>h
 |_::X,_,h=>dA.suf (X:=X) h.2
theorem dA.before{Y:List Ev}{e:Ev}(h:Du E rec ops t0 s0 Y e)(hR:dA E rec ops t0 s0 Y){q:Ev}(hq:q∈Y):q.b.next<=e.a.next:=by
 obtain⟨Y1,Y2,rfl⟩:=List.append_of_mem hq
 rw[h.st]
 exact dA.next_le (Y:=q::Y2) hR
theorem dA.start{Y:List Ev}{e:Ev}(h:Du E rec ops t0 s0 Y e)(hR:dA E rec ops t0 s0 Y):s0.next<=e.a.next:=by
 rw[h.st]
 have h1:dA E rec ops t0 s0 (Y++[]):=by simpa using hR
 have h2:=dA.next_le h1
 rw[List.append_nil]at h2
 exact h2
theorem dA.ok{L:List Ev}(h:dA E rec ops t0 s0 L){e:Ev}(he:e∈L):∃ X Y,L=X++e::Y/\Du E rec ops t0 s0 Y e/\dA E rec ops t0 s0 Y:=by
 obtain⟨X,Y,rfl⟩:=List.append_of_mem he
 obtain⟨h1,h2⟩:=dA.at h
 exact⟨X,Y,rfl,h1,h2⟩
theorem dA.uniq{L:List Ev}(h:dA E rec ops t0 s0 L){a b:Ev}(ha:a∈L)(hb:b∈L)(hi:a.i=b.i):a=b:=by
 induction L with
 |nil=>cases ha
 |cons e Y ih =>
  rcases List.mem_cons.1 ha with rfl|ha'
  ·rcases List.mem_cons.1 hb with rfl|hb'
   ·rfl
   ·exact absurd hi.symm (h.1.new b hb')
  ·rcases List.mem_cons.1 hb with rfl|hb'
   ·exact absurd hi (h.1.new a ha')
   ·exact ih h.2 ha' hb'
structure vH(E:cU)(t0:T V)(s0:S)(ρ0:aB)(w0:World)(X F:List Ev)(R:Nat->Prop)(ρ:aB)(w:World)(tm:Array Value):Prop where
 front:Kh E F
 inF:∀ e∈F,R e.i
 noE:∀ e∈X,R e.i->¬ jk E e.o
 vals:∀ e∈X++F,R e.i->∃ y,den (ρ.to e.b.next) e.v=some y/\∀ d,e.o.dst=some d->tm[d]? = some y
 olds:∀ d x,t0.get (et d)=some x->(∀ e∈X++F,R e.i->e.o.dst≠some d)->∃ y,den (ρ.to s0.next) x=some y/\tm[d]? = some y
 blks:∀ e∈X,R e.i->e.b=e.a\/∃ B,e.b=e.a.alloc B/\yZ (ρ.to e.b.next) w e.a.next B/\∀ v l,ρ e.a.next v=some l->¬ l.ro
 hr:HR (ρ.to (bN s0 F).next) (bN s0 F) w
 inj:XU ρ
 low:XT ρ w
 fresh:∀ f v,ρ f v≠none->f<(bN s0 F).next\/∃ e∈X,R e.i/\f=e.a.next/\f<e.b.next
 fr:FR ρ0 w0 ρ w
theorem vH.reg{ρ0:aB}{w0:World}{X F:List Ev}{R:Nat->Prop}{ρ:aB}{w:World}{tm:Array Value}(h:vH E t0 s0 ρ0 w0 X F R ρ w tm) :
 ∀ {X1 Z:List Ev},X=X1++Z->dA E rec ops t0 s0 (Z++F)->(∀ e∈Z,R e.i)->HR (ρ.to (bN s0 (Z++F)).next) (bN s0 (Z++F)) w
 |_,[],_,_,_=>h.hr
 |X1,e::Z,hX,hR,hin=>by
  have ih:=vH.reg h (X1:=X1++[e]) (Z:=Z) (by simpa using hX) hR.2 fun q hq=>hin q (List.mem_cons_of_mem _ hq)
  have hst:e.a=bN s0 (Z++F):=hR.1.st
  rw[<- hst]at ih
  show HR (ρ.to e.b.next) e.b w
  rcases h.blks e (by rw[hX];simp) (hin e (by simp))with hb|⟨B,hb,hB,hro⟩
  ·rw[hb];exact ih
  ·rw[hb]at hB ⊢
   rw[S.next_alloc]at hB ⊢
   refine⟨fun f v hf=>aB.to_ge (by rw[S.next_alloc]at hf;exact hf),fun f v l f' v' l' e1 e2=>h.inj _ _ _ _ _ _ (aB.to_lt e1).2 (aB.to_lt e2).2,fun f v l e1=>h.low _ _ _ (aB.to_lt e1).2,fun f B' hg=>?_,fun f B' hg=>?_,fun f B' hg hnr v l hl=>?_⟩
   ·rw[S.get_alloc]at hg
    split at hg
    ·rename_i he;cases hg;subst he;exact hB
    ·rename_i he
     have hf:=ih.dom f B' hg
     refine(ih.blk f B' hg).keep (aB.to_le ρ (Nat.le_succ _)) (fun v hv=>?_) (fun _ _ _=>rfl)
     rw[aB.to_of hf]at hv
     rw[aB.to_of (by omega)];exact hv
   ·rw[S.get_alloc]at hg
    rw[S.next_alloc]
    split at hg
    ·omega
    ·have:=ih.dom f B' hg;omega
   ·rw[S.get_alloc]at hg
    split at hg
    ·rename_i he;subst he;exact hro v l (aB.to_lt hl).2
    ·exact ih.rw f B' hg hnr v l (by rw[aB.to_of (ih.dom f B' hg)];exact(aB.to_lt hl).2)
theorem vH.env{ρ0:aB}{w0:World}{X1 X2 F:List Ev}{e:Ev}{R:Nat->Prop}{ρ:aB}{w:World}{tm:Array Value}(hD:jQ ops)(h:vH E t0 s0 ρ0 w0 (X1++e::X2) F R ρ w tm)
 (hR:dA E rec ops t0 s0 (X1++e::(X2++F))) (hn:¬ R e.i) (hcl:im ops R) (hpre:∀ k,kH ops e.i k->R k):TR (ρ.to e.a.next) (only e.t (looks ops e.o)) tm:=by
 obtain⟨hev,hRY⟩:=dA.at hR
 have hL:X1++e::X2++F=X1++e::(X2++F):=by simp
 intro d x hx
 rw[mB]at hx
 split at hx
 ·rename_i hd
  have hord:∀ q oq,ops[q]? = some oq->oq.dst=some d->q≠e.i->kH ops e.i q\/kH ops q e.i:=by
   intro q oq hq hdq hqi
   rcases List.mem_append.1 hd with hd|hd
   ·exact hD.sees e.i q e.o oq d hev.op hq (fun h=>hqi h.symm) hdq hd
   ·unfold nP at hd
    split at hd
    ·rename_i g b hg
     have hgd:((ops[g]?).bind (·.dst))=some d:=by simpa using hd
     cases hog:ops[g]? with
     |none=>rw[hog]at hgd;cases hgd
     |some og =>
      rw[hog]at hgd
      by_cases hgq:g=q
      ·subst hgq;exact .inl (hD.guard e.i e.o g b hev.op hg)
      ·exact absurd hgd (hD.dst g q og oq d hog hq hgq hdq)
    ·simp at hd
  rcases hev.slots d with⟨q,q1,q2,q3⟩|⟨q1,q2⟩
  ·rw[q3]at hx;cases hx
   obtain⟨Ya,Yb,hY,hqev,_⟩:=dA.ok hRY q1
   have hqi:q.i≠e.i:=hev.new q q1
   rcases hord q.i q.o hqev.op q2 hqi with p|p
   ·obtain⟨y,y1,y2⟩:=h.vals q (by rw[hL];simp;right;right;simpa using q1) (hpre _ p)
    exact⟨y,bk (aB.to_le ρ (dA.before hev hRY q1)) _ _ y1,y2 d q2⟩
   ·obtain⟨z,z1,z2⟩:=hqev.pre e.i p
    exact absurd z2 (hev.new z (by rw[hY];simp;right;right;exact z1))
  ·rw[q2]at hx
   obtain⟨y,y1,y2⟩:=h.olds d x hx (fun q hq hr hdq=>by
    rw[hL]at hq
    obtain⟨_,Y',_,k1,_⟩:=dA.ok hR hq
    by_cases hqi:q.i=e.i
    ·rw[hqi]at hr;exact hn hr
    ·rcases hord q.i q.o k1.op hdq hqi with p|p
     ·obtain⟨z,z1,z2⟩:=hev.pre _ p
      have hz:z=q:=dA.uniq hR (by simp;right;right;simpa using z1) hq z2
      subst hz
      exact q1 z z1 hdq
     ·exact hn (hcl q.i e.i hr p))
   exact⟨y,bk (aB.to_le ρ (dA.start hev hRY)) _ _ y1,y2⟩
 ·cases hx
end
section
variable{E:cU}{rec:gA}{ops:Array Oper}{t0:T V}{s0:S}{ρ0:aB}{w0:World}
theorem Ah{tm:Array Value}{o:Option Tmp}{y:Value}{d:Tmp}(h:o=some d)(hd:d<tm.size):(gj tm o y)[d]? = some y:=by
 subst h;simp[gj,hd]
theorem lg{tm:Array Value}{o:Option Tmp}{y:Value}{d:Tmp}(h:o≠some d):(gj tm o y)[d]? = tm[d]?:=by
 cases o with
 |none=>rfl
 |some i =>
  unfold gj
  exact Array.getElem?_setIfInBounds_ne (fun e=>h (by rw[e]))
section
variable{X1 X2 F:List Ev}{e:Ev}{R:Nat->Prop}{ρ:aB}{w:World}{tm:Array Value}
theorem nK{q:Ev}:q∈X1++e::X2++F↔q∈X1++e::(X2++F):=by simp
theorem Bf(hD:jQ ops)(hR:dA E rec ops t0 s0 (X1++e::(X2++F))){q:Ev}(hq:q∈X1++e::(X2++F))(hi:q.i≠e.i){d:Tmp}(hd:q.o.dst=some d):e.o.dst≠some d:=by
 obtain⟨_,_,_,k1,_⟩:=dA.ok hR hq
 have k2:=(dA.at hR).1
 exact hD.dst e.i q.i e.o q.o d k2.op k1.op (fun h=>hi h.symm) hd
theorem after(hR:dA E rec ops t0 s0 (X1++e::(X2++F))){q:Ev}(hq:q∈X1):e.b.next<=q.a.next:=by
 obtain⟨Xa,Xb,rfl⟩:=List.append_of_mem hq
 have h2:dA E rec ops t0 s0 (Xa++q::(Xb++e::(X2++F))):=by simpa using hR
 obtain⟨k1,k2⟩:=dA.at h2
 exact dA.before k1 k2 (by simp)
theorem vH.step(hD:jQ ops)(h:vH E t0 s0 ρ0 w0 (X1++e::X2) F R ρ w tm)(hR:dA E rec ops t0 s0 (X1++e::(X2++F)))(hk:¬ jk E e.o)(hn:¬ R e.i){ρ':aB}{w':World}{y:Value}
 (hle:ρ.le ρ') (hkeep:∀ f v,ρ' f v≠none->ρ f v≠none\/(f=e.a.next/\f<e.b.next)) (hsame:∀ f v,f≠e.a.next->ρ' f v=ρ f v)
 (hwh:∀ b,b<w.heap.size->w'.heap[b]? = w.heap[b]?) (hinj:XU ρ') (hlow:XT ρ' w') (hfr:FR ρ w ρ' w')
 (hv:den (ρ'.to e.b.next) e.v=some y) (hb:e.b=e.a\/∃ B,e.b=e.a.alloc B/\yZ (ρ'.to e.b.next) w' e.a.next B/\∀ v l,ρ' e.a.next v=some l->¬ l.ro) (hdst:∀ d,e.o.dst=some d->d<tm.size) :
 vH E t0 s0 ρ0 w0 (X1++e::X2) F (with1 R e.i) ρ' w' (gj tm e.o.dst y):=by
 obtain⟨hev,hRY⟩:=dA.at hR
 have hNF:(bN s0 F).next<=e.a.next:=by rw[hev.st];exact dA.next_le hRY
 have uniq:∀ q,q∈X1++e::(X2++F)->q.i=e.i->q=e:=fun q hq hi=>dA.uniq hR hq (by simp) hi
 refine⟨h.front,fun q hq=>.inl (h.inF q hq),fun q hq hr=>?_,fun q hq hr=>?_,fun d x hx hno=>?_,fun q hq hr=>?_,?_,hinj,hlow,fun f v hf=>?_,h.fr.trans hfr⟩
 ·rcases hr with hr|hr
  ·exact h.noE q hq hr
  ·have:=uniq q (by rw[<- nK];exact List.mem_append_left _ hq) hr
   subst this;exact hk
 ·by_cases hi:q.i=e.i
  ·have:=uniq q (nK.1 hq) hi
   subst this
   exact⟨y,hv,fun d hd=>Ah hd (hdst d hd)⟩
  ·have hr:R q.i:=hr.resolve_right hi
   obtain⟨z,z1,z2⟩:=h.vals q hq hr
   exact⟨z,bk (aB.to_mono hle _) _ _ z1,fun d hd=>by rw[lg (Bf hD hR (nK.1 hq) hi hd)];exact z2 d hd⟩
 ·obtain⟨z,z1,z2⟩:=h.olds d x hx fun q hq hr=>hno q hq (.inl hr)
  refine⟨z,bk (aB.to_mono hle _) _ _ z1,?_⟩
  rw[lg (hno e (by simp) (.inr rfl))];exact z2
 ·by_cases hi:q.i=e.i
  ·have:=uniq q (nK.1 (List.mem_append_left _ hq)) hi
   subst this;exact hb
  ·have hr:R q.i:=hr.resolve_right hi
   rcases h.blks q hq hr with hqb|⟨B,hqb,hB,hro⟩
   ·exact .inl hqb
   ·have hne0:q.a.next=e.a.next->∀ v l,ρ' q.a.next v=some l->ρ q.a.next v≠none:=by
     intro hne v l hl hv
     have hqn:q.b.next=q.a.next+1:=by rw[hqb,S.next_alloc]
     rcases hkeep q.a.next v (by rw[hl];exact fun h=>by cases h)with hc|⟨_,hc⟩
     ·exact hc hv
     ·rcases List.mem_append.1 hq with hq1|hq1
      ·have:=after hR hq1;omega
      ·rcases List.mem_cons.1 hq1 with rfl|hq1
       ·exact hi rfl
       ·have:=dA.before hev hRY (List.mem_append_left F hq1);omega
    refine .inr ⟨B,hqb,hB.keep (aB.to_mono hle _) (fun v hv=>?_) (fun v l hl=>hwh _ (h.low _ _ _ (aB.to_lt hl).2)),fun v l hl=>?_⟩
    rotate_left
    ·cases hq0:ρ q.a.next v with
     |none =>
      exfalso
      by_cases hne:q.a.next=e.a.next
      ·exact hne0 hne v l hl hq0
      ·rw[hsame _ _ hne,hq0]at hl;cases hl
     |some l0 =>
      have:=hle _ _ _ hq0
      rw[hl]at this;cases this
      exact hro v l hq0
    have hqn:q.b.next=q.a.next+1:=by rw[hqb,S.next_alloc]
    rw[aB.to_of (by omega)]at hv ⊢
    by_cases hne:q.a.next=e.a.next
    ·cases hq':ρ' q.a.next v with
     |none=>rfl
     |some l =>
      exfalso
      rcases hkeep q.a.next v (by rw[hq'];exact fun h=>by cases h)with hc|⟨_,hc⟩
      ·exact hc hv
      ·rcases List.mem_append.1 hq with hq1|hq1
       ·have:=after hR hq1;omega
       ·rcases List.mem_cons.1 hq1 with rfl|hq1
        ·exact hi rfl
        ·have:=dA.before hev hRY (List.mem_append_left F hq1);omega
    ·rw[hsame _ _ hne];exact hv
 ·have:ρ'.to (bN s0 F).next=ρ.to (bN s0 F).next:=by
   funext f v
   by_cases hf:f<(bN s0 F).next
   ·rw[aB.to_of hf,aB.to_of hf,hsame f v (by omega)]
   ·rw[aB.to_ge (by omega),aB.to_ge (by omega)]
  rw[this]
  exact h.hr.frame hfr.size hwh
 ·rcases hkeep f v hf with hf|⟨h1,h2⟩
  ·rcases h.fresh f v hf with hf|⟨q,q1,q2,q3⟩
   ·exact .inl hf
   ·exact .inr ⟨q,q1,.inl q2,q3⟩
  ·exact .inr ⟨e,by simp,.inr rfl,h1,h2⟩
theorem vH.float(hD:jQ ops)(h:vH E t0 s0 ρ0 w0 (X1++e::X2) F R ρ w tm)(hR:dA E rec ops t0 s0 (X1++e::(X2++F)))(hk:¬ jk E e.o)(hn:¬ R e.i)(hcl:im ops R)(hpre:∀ k,kH ops e.i k->R k)
 (hdst:∀ d,e.o.dst=some d->d<tm.size) :
 (Region.wanted e.o (yielded ops tm)=false/\vH E t0 s0 ρ0 w0 (X1++e::X2) F (with1 R e.i) ρ w (gj tm e.o.dst undef)) \/
 (Region.wanted e.o (yielded ops tm)=true/\∃ y w' ρ',(execOp (rv tm) e.o).run E.P w=.ok (.value y) w'/\vH E t0 s0 ρ0 w0 (X1++e::X2) F (with1 R e.i) ρ' w' (gj tm e.o.dst y)):=by
 obtain⟨hev,hRY⟩:=dA.at hR
 have hT:=h.env hD hR hn hcl hpre
 have hNF:(bN s0 F).next<=e.a.next:=by rw[hev.st];exact dA.next_le hRY
 have wsp:∀ b,bw ops e.t e.o=some b->Region.wanted e.o (yielded ops tm)=b:=fun b hb=>by
  rw[<- js]at hb
  exact ei (fr:={ (default:Frame)with tmps:=tm }) hT hb
 have plain:∀ y,den (ρ.to e.b.next) e.v=some y->e.b=e.a->vH E t0 s0 ρ0 w0 (X1++e::X2) F (with1 R e.i) ρ w (gj tm e.o.dst y):=fun y hv hb =>
  vH.step hD h hR hk hn ρ.le_refl (fun f v hf=>.inl hf) (fun _ _ _=>rfl) (fun _ _=>rfl) h.inj h.low (FR.refl ρ w) hv (.inl hb) hdst
 rcases hev.step with⟨_,⟨hw,hv,hb⟩|⟨hw,hf⟩⟩|⟨hk',_⟩
 ·left
  refine⟨wsp _ hw,plain undef ?_ hb⟩
  rw[hv];rfl
 ·right
  refine⟨wsp _ hw,?_⟩
  rcases hf with⟨hk0,hb,s1,hd⟩|⟨hk1,hb,hd⟩|⟨hk2,hd⟩
  ·rw[<- iL (ops:=ops)]at hd
   have hd':=KZ ⟨.leaf,e.a.next⟩ e.o hk0 hd
   obtain⟨v,y,h1,h2,h3⟩:=Ao (HR.bare h.inj h.low) hT e.o (by omega) hd'
   cases h1
   exact⟨y,w,ρ,h2,plain y (by rw[hb];exact h3) hb⟩
  ·obtain⟨s1,hd⟩:=hd X2 F rfl h.front fun q hq hqe hp=>h.noE q (by simp[hq]) (hpre _ hp) hqe
   rw[<- iL (ops:=ops)]at hd
   have hd':=KY (n':=e.a.next) (h:=(bN s0 F).h) (n:=(bN s0 F).next) e.o (by omega) hd
   obtain⟨v,y,h1,h2,h3⟩:=Ao (h.hr.widen h.inj h.low hNF) hT e.o (by omega) hd'
   cases h1
   exact⟨y,w,ρ,h2,plain y (by rw[hb];exact h3) hb⟩
  ·rw[<- iL (ops:=ops)]at hd
   obtain⟨mk,B,hm,y,obj,lim,n,hrun,hmk⟩:=Ks (w:=w) hT e.o hk2 hd
   have hm':=hm e.a
   simp only at hm'
   rw[hm']at hd
   injection hd with hd;injection hd with hd1 hd2
   have hbn:e.b.next=e.a.next+1:=by rw[<- hd2,S.next_alloc]
   have hfree:∀ v,ρ e.a.next v=none:=by
    intro v
    cases hr:ρ e.a.next v with
    |none=>rfl
    |some l =>
     exfalso
     rcases h.fresh e.a.next v (by rw[hr];exact fun h=>by cases h)with hf|⟨q,q1,q2,q3,q4⟩
     ·omega
     ·rcases List.mem_append.1 q1 with hq1|hq1
      ·have:=after hR hq1;omega
      ·rcases List.mem_cons.1 hq1 with rfl|hq1
       ·exact hn q2
       ·have:=dA.before hev hRY (List.mem_append_left F hq1);omega
   let ρ':=ρ.put e.a.next 0 ⟨w.heap.size,0,lim⟩
   have hle:ρ.le ρ':=aB.le_put _ (hfree 0)
   have hto:(ρ.to e.a.next).le (ρ'.to e.b.next):=aB.le_trans (aB.to_mono hle _) (aB.to_le ρ' (by omega))
   obtain⟨hv,hblk⟩:=hmk (ρ'.to e.b.next) e.a.next hto (by rw[aB.to_of (by omega)];exact aB.put_same _ _ _ _) (fun v hv=>by
    rw[aB.to_of (by omega)]
    show ρ.put _ _ _ _ _=none
    unfold aB.put;rw[if_neg (by omega)];exact hfree v)
   have hhp:∀ b,b<w.heap.size->(({ w with drawn:=n }:World).alloc obj).heap[b]? = w.heap[b]?:=fun b hb=>gF { w with drawn:=n } obj hb
   refine⟨y,_,ρ',hrun,vH.step hD h hR hk hn hle (fun f v hf=>?_) (fun f v hf=>?_) hhp ?_ ?_ ?_ (by rw[<- hd1];exact hv) (.inr ⟨B,hd2.symm,hblk _ ?_,fun v l hl=>?_⟩) hdst⟩
   ·cases hr:ρ' f v with
    |none=>exact absurd hr hf
    |some l =>
     rcases aB.of_put hr with⟨h1,_,_⟩|h1
     ·exact .inr ⟨h1,by omega⟩
     ·exact .inl (by rw[h1];exact fun h=>by cases h)
   ·show ρ.put _ _ _ _ _=_
    unfold aB.put;rw[if_neg (fun h=>hf h.1)]
   ·intro f v l f' v' l' e1 e2 hb
    rcases aB.of_put e1 with⟨rfl,rfl,rfl⟩|e1
    ·rcases aB.of_put e2 with⟨rfl,rfl,rfl⟩|e2
     ·exact⟨rfl,rfl⟩
     ·have:=h.low _ _ _ e2;simp at hb;omega
    ·rcases aB.of_put e2 with⟨rfl,rfl,rfl⟩|e2
     ·have:=h.low _ _ _ e1;simp at hb;omega
     ·exact h.inj _ _ _ _ _ _ e1 e2 hb
   ·intro f v l e1
    rcases aB.of_put e1 with⟨rfl,rfl,rfl⟩|e1
    ·simp
    ·have:=h.low _ _ _ e1;simp;omega
   ·refine⟨hle,by simp,rfl,rfl,rfl,fun b hb _=>hhp b hb,fun f v l e1 hl=>?_⟩
    rcases aB.of_put e1 with⟨rfl,rfl,rfl⟩|e1
    ·simp at hl
    ·exact⟨f,v,l,e1,rfl,id⟩
   ·exact dN { w with drawn:=n } obj
   ·rcases aB.of_put hl with⟨_,rfl,rfl⟩|hl
    ·show ¬(lim<0);omega
    ·rw[hfree v]at hl;cases hl
 ·exact absurd hk' hk
theorem vH.effect(hD:jQ ops)(h:vH E t0 s0 ρ0 w0 (X1++e::X2) F R ρ w tm)(hR:dA E rec ops t0 s0 (X1++e::(X2++F)))(hk:jk E e.o)(hn:¬ R e.i)(hX2:∀ q∈X2,R q.i){ρ1:aB}{w':World}{y:Value}
 (h1:HR ρ1 e.b w') (h2:FR (ρ.to e.a.next) w ρ1 w') (hv:den ρ1 e.v=some y) (hdst:∀ d,e.o.dst=some d->d<tm.size) :
 ∃ ρ',vH E t0 s0 ρ0 w0 X1 (e::(X2++F)) (with1 R e.i) ρ' w' (gj tm e.o.dst y):=by
 obtain⟨hev,hRY⟩:=dA.at hR
 have hNF:(bN s0 F).next<=e.a.next:=by rw[hev.st];exact dA.next_le hRY
 have hab:=hev.next_le
 have uniq:∀ q,q∈X1++e::(X2++F)->q.i=e.i->q=e:=fun q hq hi=>dA.uniq hR hq (by simp) hi
 have notX1:∀ q∈X1,q.i≠e.i:=by
  intro q hq hi
  have:=uniq q (by simp[hq]) hi
  subst this
  obtain⟨Xa,Xb,rfl⟩:=List.append_of_mem hq
  have h2:dA E rec ops t0 s0 (Xa++q::(Xb++q::(X2++F))):=by simpa using hR
  exact(dA.at h2).1.new q (by simp) rfl
 have early:∀ f v,ρ f v≠none->f<e.a.next\/(e.b.next<=f/\∃ q∈X1,R q.i/\f=q.a.next/\f<q.b.next):=by
  intro f v hf
  rcases h.fresh f v hf with hf|⟨q,q1,q2,q3,q4⟩
  ·exact .inl (by omega)
  ·rcases List.mem_append.1 q1 with hq1|hq1
   ·have:=after hR hq1
    exact .inr ⟨by omega,q,hq1,q2,q3,q4⟩
   ·rcases List.mem_cons.1 hq1 with rfl|hq1
    ·exact absurd q2 hn
    ·have:=dA.before hev hRY (List.mem_append_left F hq1)
     exact .inl (by omega)
 let ρ':aB:=fun f v=>if f<e.b.next then ρ1 f v else ρ f v
 have ρlt:∀ {f v},f<e.b.next->ρ' f v=ρ1 f v:=fun {f v} hf=>by show(if _ then _ else _)=_;rw[if_pos hf]
 have ρge:∀ {f v},e.b.next<=f->ρ' f v=ρ f v:=fun {f v} hf=>by show(if _ then _ else _)=_;rw[if_neg (by omega)]
 have hto:ρ'.to e.b.next=ρ1:=by
  funext f v
  by_cases hf:f<e.b.next
  ·rw[aB.to_of hf,ρlt hf]
  ·rw[aB.to_ge (by omega),h1.fresh f v (by omega)]
 have hle:ρ.le ρ':=fun f v l hl=>by
  rcases early f v (by rw[hl];exact fun h=>by cases h)with hf|⟨hf,_⟩
  ·rw[ρlt (by omega)]
   exact h2.ext f v l (by rw[aB.to_of hf];exact hl)
  ·rw[ρge hf];exact hl
 have hfr:FR ρ w ρ' w':=by
  refine⟨hle,h2.size,h2.os,h2.tape,h2.output,fun b hb hno=>h2.same b hb fun f v l hl hro=>hno f v l (aB.to_lt hl).2 hro,fun f v l hl hb=>?_⟩
  by_cases hf:f<e.b.next
  ·rw[ρlt hf]at hl
   obtain⟨f',v',l',k1,k2⟩:=h2.new f v l hl hb
   exact⟨f',v',l',(aB.to_lt k1).2,k2⟩
  ·rw[ρge (by omega)]at hl
   exact⟨f,v,l,hl,rfl,id⟩
 have apart:∀ f v l f' v' l',f<e.b.next->e.b.next<=f'->ρ' f v=some l->ρ' f' v'=some l'->l.b≠l'.b:=by
  intro f v l f' v' l' hf hf' e1 e2 hb
  rw[ρlt hf]at e1
  rw[ρge hf']at e2
  have hl:=h.low _ _ _ e2
  obtain⟨f2,v2,l2,k1,k2,_⟩:=h2.new f v l e1 (by omega)
  obtain⟨k3,k4⟩:=aB.to_lt k1
  have:=(h.inj _ _ _ _ _ _ k4 e2 (by omega)).1
  omega
 refine⟨ρ',hk,fun q hq=>?_,fun q hq hr=>?_,fun q hq hr=>?_,fun d x hx hno=>?_,fun q hq hr=>?_,?_,?_,?_,fun f v hf=>?_,h.fr.trans hfr⟩
 ·rcases List.mem_cons.1 hq with rfl|hq
  ·exact .inr rfl
  ·rcases List.mem_append.1 hq with hq|hq
   ·exact .inl (hX2 q hq)
   ·exact .inl (h.inF q hq)
 ·exact h.noE q (by simp[hq]) (hr.resolve_right (notX1 q hq))
 ·by_cases hi:q.i=e.i
  ·have:=uniq q hq hi
   subst this
   exact⟨y,by rw[hto];exact hv,fun d hd=>Ah hd (hdst d hd)⟩
  ·have hr:R q.i:=hr.resolve_right hi
   obtain⟨z,z1,z2⟩:=h.vals q (nK.2 hq) hr
   exact⟨z,bk (aB.to_mono hle _) _ _ z1,fun d hd=>by rw[lg (Bf hD hR hq hi hd)];exact z2 d hd⟩
 ·obtain⟨z,z1,z2⟩:=h.olds d x hx fun q hq hr=>hno q (nK.1 hq) (.inl hr)
  refine⟨z,bk (aB.to_mono hle _) _ _ z1,?_⟩
  rw[lg (hno e (by simp) (.inr rfl))];exact z2
 ·have hr:R q.i:=hr.resolve_right (notX1 q hq)
  have haf:=after hR hq
  rcases h.blks q (by simp[hq]) hr with hqb|⟨B,hqb,hB,hro⟩
  ·exact .inl hqb
  ·have hqn:q.b.next=q.a.next+1:=by rw[hqb,S.next_alloc]
   refine .inr ⟨B,hqb,hB.keep (aB.to_mono hle _) (fun v hv=>?_) (fun v l hl=>?_),fun v l hl=>hro v l (by rw[ρge haf]at hl;exact hl)⟩
   ·rw[aB.to_of (by omega)]at hv ⊢
    rw[ρge haf];exact hv
   ·have hl':=(aB.to_lt hl).2
    refine h2.same _ (h.low _ _ _ hl') fun f v' l' hf _ hb=>?_
    obtain⟨k1,k2⟩:=aB.to_lt hf
    have:=(h.inj _ _ _ _ _ _ k2 hl' hb).1
    omega
 ·show HR (ρ'.to e.b.next) e.b w'
  rw[hto];exact h1
 ·intro f v l f' v' l' e1 e2 hb
  by_cases hf:f<e.b.next
  ·by_cases hf':f'<e.b.next
   ·rw[ρlt hf]at e1;rw[ρlt hf']at e2
    exact h1.inj _ _ _ _ _ _ e1 e2 hb
   ·exact absurd hb (apart _ _ _ _ _ _ hf (by omega) e1 e2)
  ·by_cases hf':f'<e.b.next
   ·exact absurd hb.symm (apart _ _ _ _ _ _ hf' (by omega) e2 e1)
   ·rw[ρge (by omega)]at e1 e2
    exact h.inj _ _ _ _ _ _ e1 e2 hb
 ·intro f v l e1
  by_cases hf:f<e.b.next
  ·rw[ρlt hf]at e1;exact h1.low _ _ _ e1
  ·rw[ρge (by omega)]at e1
   exact Nat.lt_of_lt_of_le (h.low _ _ _ e1) h2.size
 ·show f<e.b.next\/_
  by_cases hfe:f<e.b.next
  ·exact .inl hfe
  ·rw[ρge (by omega)]at hf
   rcases early f v hf with hf|⟨_,q,q1,q2,q3⟩
   ·exact absurd (Nat.lt_of_lt_of_le hf hab) hfe
   ·exact .inr ⟨q,q1,.inl q2,q3⟩
end
end
def left:List Bool->Nat
 |[]=>0
 |true::r=>left r
 |false::r=>left r+1
theorem wM:∀(l:List Bool) (i:Nat),l[i]? = some false->left (l.set i true)+1=left l
 |[],i,h=>by simp at h
 |b::r,0,h=>by simp at h;subst h;simp[left]
 |b::r,i+1,h=>by
  have:=wM r i (by simpa using h)
  cases b<;>simp[left]<;>omega
theorem sh:∀(l:List Bool),left l=0->∀ i:Nat,l[i]?≠some false
 |[],_,i=>by simp
 |true::r,h,0=>by simp
 |false::r,h,_=>by simp[left]at h
 |true::r,h,i+1=>by simpa using sh r h i
theorem iT:∀ n,left (List.replicate n false)=n
 |0=>rfl
 |n+1=>by simp[List.replicate_succ,left,iT n]
def bP(listed:Array Bool):Nat->Prop:=fun i=>listed[i]? = some true
section
variable{P:Program}{ops:Array Oper}{listed:Array Bool}
theorem wH{i:Nat}(hs:i<listed.size):bP (listed.setIfInBounds i true)=with1 (bP listed) i:=by
 funext k
 unfold bP with1
 apply propext
 by_cases h:i=k
 ·subst h;simp[hs]
 ·rw[Array.getElem?_setIfInBounds_ne h]
  constructor
  ·exact fun h=>.inl h
  ·rintro(h1|h1)
   ·exact h1
   ·exact absurd h1.symm h
theorem Au{i:Nat}(hs:listed.size=ops.size)(h:i∈Region.ready .any ops listed):∃ o,ops[i]? = some o/\listed[i]? = some false/\∀ e∈o.after,Region.binds .any e=true->bP listed e.on:=by
 unfold Region.ready at h
 rw[List.mem_filter]at h
 obtain⟨h1,h2⟩:=h
 have hi:i<ops.size:=by simpa using h1
 simp only[Bool.and_eq_true,Bool.not_eq_true']at h2
 obtain⟨h2,h3⟩:=h2
 refine⟨ops[i],by simp[hi],?_,?_⟩
 ·have:i<listed.size:=by omega
  rw[Array.getElem?_eq_getElem this]
  rw[Array.getD_eq_getD_getElem?,Array.getElem?_eq_getElem this]at h2
  simpa using h2
 ·rw[Array.getElem?_eq_getElem hi]at h3
  simp only[Option.map_some,Option.getD_some]at h3
  rw[Array.all_eq_true']at h3
  intro e he hb
  have:=h3 e he
  rw[hb]at this
  simp only[Bool.not_true,Bool.false_or]at this
  unfold bP
  rw[Array.getD_eq_getD_getElem?]at this
  cases hl:listed[e.on]? with
  |none=>rw[hl]at this;cases this
  |some b=>rw[hl]at this;simp at this;rw[this]
theorem Af(hE:fH ops)(hs:listed.size=ops.size)(h:Region.ready .any ops listed=[]):∀ i,i<ops.size->bP listed i:=by
 intro i
 induction i using Nat.strongRecOn with
 |ind i ih =>
  intro hi
  have hi':i<listed.size:=by omega
  cases hb:listed[i]with
  |true=>unfold bP;rw[Array.getElem?_eq_getElem hi',hb]
  |false =>
   exfalso
   have:i∈Region.ready .any ops listed:=by
    unfold Region.ready
    rw[List.mem_filter]
    refine⟨by simpa using hi,?_⟩
    simp only[Bool.and_eq_true,Bool.not_eq_true']
    refine⟨by rw[Array.getD_eq_getD_getElem?,Array.getElem?_eq_getElem hi',hb];rfl,?_⟩
    rw[Array.getElem?_eq_getElem hi]
    simp only[Option.map_some,Option.getD_some]
    rw[Array.all_eq_true']
    intro e he
    cases hbi:Region.binds .any e with
    |false=>rfl
    |true =>
     have hlt:=hE i ops[i] (by simp[hi]) e he hbi
     have:=ih e.on hlt (by omega)
     unfold bP at this
     rw[Array.getD_eq_getD_getElem?,this]
     rfl
   rw[h]at this
   cases this
theorem wh(hE:fH ops){R:Nat->Prop}(hcl:im ops R){i:Nat}{o:Oper}(ho:ops[i]? = some o)(h:∀ e∈o.after,Region.binds .any e=true->R e.on):∀ k,kH ops i k->R k:=by
 intro k hk
 obtain⟨e,h1,h2,h3⟩:=(vi hE ho).1 hk
 rcases h3 with rfl|h3
 ·exact h e h1 h2
 ·exact hcl e.on k (h e h1 h2) h3
end
section
variable{E:cU}{ih:rG->S->Option eo}{ops:Array Oper}{t0:T V}{s0:S}{ρ0:aB}{w0:World}{f:FuncId}{fn:Func}{k:List Item}{rd:Option Nat}{ds:List dX}{up:Option Md}{cs:List Frame}
theorem KR{fr:Frame}{i:Nat}{rest:List Nat}{o:Oper}(hF:jl E.P ρ0 f fn .leaf (.inRegion ops (i::rest)::k) ds .run up rd fr cs)(ho:ops[i]? = some o)(y:Value) :
 jl E.P ρ0 f fn .leaf (.inRegion ops rest::k) ds .run up rd (fr.finish y) cs/\(fr.finish y).tmps=gj fr.tmps o.dst y:=by
 rw[AX (hF.todo rfl) ho]
 refine⟨⟨hF.name,hF.func,TR.leaf _ _,?_,fun _=>rfl,hF.ds,hF.md,hF.rd,hF.up⟩,rfl⟩
 show fn.ntmps<=(gj fr.tmps o.dst y).size
 have:=hF.size
 unfold gj
 split<;>simpa using this
theorem MH(hE:gZ E)(hg:Good E.P ih)(hD:jQ ops)(hdst:kn ops fn.ntmps=true){L:List Ev}(hR:dA E (bt ih) ops t0 s0 L)(hall:∀ k,k<ops.size->∃ q∈L,q.i=k){t':T V}(hS:nE t0 L t') :
 ∀(fuel τ:Nat) (listed:Array Bool) (X F:List Ev) (ρ:aB) (w:World) (fr:Frame),L=X++F->listed.size=ops.size->left listed.toList<=fuel->im ops (bP listed) ->
  vH E t0 s0 ρ0 w0 X F (bP listed) ρ w fr.tmps->jl E.P ρ0 f fn .leaf (.inRegion ops (Region.linearise.go .any ops fuel τ listed [])::k) ds .run up rd fr cs ->
  ∃ ρ' w' fr',Steps E.P (lone fr cs w) (lone fr' cs w')/\FR ρ0 w0 ρ' w'/\HR ρ' (bN s0 L) w'/\jl E.P ρ' f fn t' k ds .run up rd fr' cs:=by
 have fin:∀(listed:Array Bool) (X F:List Ev) (ρ:aB) (w:World) (fr:Frame),L=X++F->(∀ i,i<ops.size->bP listed i)->vH E t0 s0 ρ0 w0 X F (bP listed) ρ w fr.tmps ->
  jl E.P ρ0 f fn .leaf (.inRegion ops []::k) ds .run up rd fr cs->∃ ρ' w' fr',Steps E.P (lone fr cs w) (lone fr' cs w')/\FR ρ0 w0 ρ' w'/\HR ρ' (bN s0 L) w'/\jl E.P ρ' f fn t' k ds .run up rd fr' cs:=by
  intro listed X F ρ w fr hL hfull hI hF
  have hin:∀ e∈L,bP listed e.i:=fun e he=>by
   obtain⟨_,_,_,k1,_⟩:=dA.ok hR he
   exact hfull e.i (by
    rcases Nat.lt_or_ge e.i ops.size with h|h
    ·exact h
    ·have:=k1.op;rw[Array.getElem?_eq_none h]at this;cases this)
  have hreg:=hI.reg (X1:=[]) (Z:=X) (by simp) (by rw[<- hL];exact hR) fun e he=>hin e (by rw[hL];simp[he])
  rw[<- hL]at hreg
  have hfresh:∀ f v,(bN s0 L).next<=f->ρ f v=none:=by
   intro f v hf
   cases hr:ρ f v with
   |none=>rfl
   |some l =>
    exfalso
    have hFn:(bN s0 F).next<=(bN s0 L).next:=by rw[hL]at hR ⊢;exact dA.next_le hR
    rcases hI.fresh f v (by rw[hr];exact fun h=>by cases h)with h1|⟨q,q1,q2,q3,q4⟩
    ·omega
    ·have hq:q∈L:=by rw[hL];simp[q1]
     obtain⟨Xa,Y,hLa,k1,k2⟩:=dA.ok hR hq
     have:(bN s0 (q::Y)).next<=(bN s0 L).next:=by rw[hLa]at hR ⊢;exact dA.next_le hR
     have:q.b.next<=(bN s0 L).next:=this
     omega
  rw[aB.to_all hfresh]at hreg
  refine⟨ρ,w,_,.one (pU (xu hF) (hF.todo rfl)),hI.fr,hreg,?_⟩
  have hF':=(hF.mono hI.fr.ext).to k
  refine⟨hF'.name,hF'.func,fun d x hx=>?_,hF'.size,hF'.todo,hF'.ds,hF'.md,hF'.rd,hF'.up⟩
  rcases hS d with⟨q,q1,q2,q3⟩|⟨q1,q2⟩
  ·rw[q3]at hx;cases hx
   obtain⟨y,y1,y2⟩:=hI.vals q (by rw[<- hL];exact q1) (hin q q1)
   exact⟨y,bk (aB.to_le_self ρ _) _ _ y1,y2 d q2⟩
  ·rw[q2]at hx
   obtain⟨y,y1,y2⟩:=hI.olds d x hx fun q hq _=>q1 q (by rw[hL];exact hq)
   exact⟨y,bk (aB.to_le_self ρ _) _ _ y1,y2⟩
 intro fuel
 induction fuel with
 |zero =>
  intro τ listed X F ρ w fr hL hs hleft hcl hI hF
  refine fin listed X F ρ w fr hL (fun i hi=>?_) hI (by simpa[Region.linearise.go]using hF)
  have:=sh listed.toList (by omega) i
  have hi':i<listed.size:=by omega
  unfold bP
  rw[Array.getElem?_eq_getElem hi']
  cases hb:listed[i]with
  |true=>rfl
  |false=>exfalso;apply this;rw[Array.getElem?_toList,Array.getElem?_eq_getElem hi',hb]
 |succ fuel ihf =>
  intro τ listed X F ρ w fr hL hs hleft hcl hI hF
  simp only[Region.linearise.go]at hF
  change jl E.P ρ0 f fn .leaf (.inRegion ops (match(Region.ready .any ops listed)[τ%(Region.ready .any ops listed).length]? with
   |some i=>Region.linearise.go .any ops fuel (τ / (Region.ready .any ops listed).length) (listed.setIfInBounds i true) [i]
   |none=>[].reverse)::k) ds .run up rd fr cs at hF
  cases hi:(Region.ready .any ops listed)[τ%(Region.ready .any ops listed).length]? with
  |none =>
   have hnil:Region.ready .any ops listed=[]:=by
    cases hr:Region.ready .any ops listed with
    |nil=>rfl
    |cons x xs =>
     rw[hr]at hi
     have hlt:τ%(x::xs).length<(x::xs).length:=Nat.mod_lt _ (by simp)
     simp at hi
     simp at hlt
     omega
   rw[hi]at hF
   exact fin listed X F ρ w fr hL (Af hD.back hs hnil) hI hF
  |some i =>
   rw[hi]at hF
   simp only at hF
   rw[linearise_go_acc,List.reverse_singleton,List.singleton_append]at hF
   obtain⟨o,ho,hfalse,hed⟩:=Au hs (List.mem_of_getElem? hi)
   have hn:¬ bP listed i:=fun h=>by unfold bP at h;rw[hfalse]at h;cases h
   have hpre:=wh hD.back hcl ho hed
   have hisz:i<listed.size:=by
    rcases Nat.lt_or_ge i listed.size with h|h
    ·exact h
    ·rw[Array.getElem?_eq_none h]at hfalse;cases hfalse
   obtain⟨e,heL,hei⟩:=hall i (by omega)
   subst hei
   obtain⟨_,_,_,hev0,_⟩:=dA.ok hR heL
   have heo:e.o=o:=by have:=hev0.op;rw[ho]at this;cases this;rfl
   subst heo
   have heX:e∈X:=by
    rw[hL]at heL
    rcases List.mem_append.1 heL with h|h
    ·exact h
    ·exact absurd (hI.inF e h) hn
   obtain⟨X1,X2,rfl⟩:=List.append_of_mem heX
   have hL':L=X1++e::(X2++F):=by rw[hL];simp
   have hR':=hR
   rw[hL']at hR'
   obtain⟨hev,hRY⟩:=dA.at hR'
   have hdst':∀ d,e.o.dst=some d->d<fr.tmps.size:=fun d hd=>Nat.lt_of_lt_of_le (pE hdst ho d hd) hF.size
   have hm:=xu hF
   have htd:=hF.todo rfl
   have hsz':(listed.setIfInBounds e.i true).size=ops.size:=by simpa using hs
   have hleft':left (listed.setIfInBounds e.i true).toList<=fuel:=by
    have:=wM listed.toList e.i (by rw[Array.getElem?_toList];exact hfalse)
    rw[Array.toList_setIfInBounds];omega
   have hset:=wH hisz
   have hcl':im ops (bP (listed.setIfInBounds e.i true)):=by rw[hset];exact hcl.with1 hpre
   by_cases hk:jk E e.o
   ·
    have hstep:eU E (bt ih) e.t e.a e.o (bw ops e.t e.o)=some (e.v,e.b)/\∀ q∈X2++F,kH ops e.i q.i:=by
     rcases hev.step with⟨hk',_⟩|⟨_,h1,_,h2⟩
     ·exact absurd hk hk'
     ·exact⟨h1,h2⟩
    obtain⟨hst,hXF⟩:=hstep
    have hX2:∀ q∈X2,bP listed q.i:=fun q hq=>hpre _ (hXF q (by simp[hq]))
    have hreg:=hI.reg (X1:=X1++[e]) (Z:=X2) (by simp) hRY hX2
    rw[<- hev.st]at hreg
    have hT:=hI.env hD hR' hn hcl hpre
    have wsp:∀ b,bw ops e.t e.o=some b->Region.wanted e.o (yielded ops fr.tmps)=b:=fun b hb=>by
     rw[<- js]at hb
     exact ei hT hb
    have go:∀(ρ1:aB) (w1:World) (y:Value),Steps E.P (lone fr cs w) (lone (fr.finish y) cs w1)->HR ρ1 e.b w1->FR (ρ.to e.a.next) w ρ1 w1->den ρ1 e.v=some y ->
     ∃ ρ' w' fr',Steps E.P (lone fr cs w) (lone fr' cs w')/\FR ρ0 w0 ρ' w'/\HR ρ' (bN s0 L) w'/\jl E.P ρ' f fn t' k ds .run up rd fr' cs:=by
     intro ρ1 w1 y hsteps h1 h2 h3
     obtain⟨ρ',hI'⟩:=hI.effect hD hR' hk hn hX2 h1 h2 h3 hdst'
     obtain⟨hF',htm⟩:=KR hF ho y
     rw[<- hset,<- htm]at hI'
     obtain⟨ρ2,w2,fr2,a1,a2⟩:=ihf (τ / (Region.ready .any ops listed).length) _ X1 (e::(X2++F)) ρ' w1 (fr.finish y) hL' hsz' hleft' hcl' hI' hF'
     exact⟨ρ2,w2,fr2,hsteps.trans a1,a2⟩
    unfold eU at hst
    split at hst
    ·rename_i hw
     have hwant:=wsp _ hw
     rw[<- iL (ops:=ops)]at hst
     cases hdo:cT E (only e.t (looks ops e.o)) e.a e.o with
     |none=>rw[hdo]at hst;cases hst
     |some nx =>
      rw[hdo]at hst
      have hop:=lj hE hreg hT e.o hdo
      have hstg:(∀ c,e.o.op≠.defer c)->stepG E.P true { frame:=fr,callers:=cs,status:=.running,dying:=none } w=stepG.apply E.P true fr cs none (execOp (rv fr.tmps) e.o) w:=fun q=>gt hm htd ho hwant (.inr q)
      cases nx with
      |val v s1 =>
       simp only[km,Option.some.injEq,Prod.mk.injEq]at hst
       obtain⟨hst1,hst2⟩:=hst
       obtain⟨ρ1,y,w1,h1,h2,h3,h4⟩:=hop
       have hst:=hstg (cG hdo (fun d s'=>by intro h;cases h))
       exact go ρ1 w1 y (.one (nw hst h1)) (by rw[<- hst2];exact h3) h4 (by rw[<- hst1];exact h2)
      |skip s1 =>
       simp only[km,Option.some.injEq,Prod.mk.injEq]at hst
       obtain⟨hst1,hst2⟩:=hst
       obtain⟨ρ1,w1,h1,h3,h4⟩:=hop
       have hst:=hstg (cG hdo (fun d s'=>by intro h;cases h))
       exact go ρ1 w1 undef (.one (Dh hst h1)) (by rw[<- hst2];exact h3) h4 (by rw[<- hst1];rfl)
      |enter g args s1 =>
       obtain⟨ys,h1,h2,h3⟩:=hop
       have hstx:=hstg (cG hdo (fun d s'=>by intro h;cases h))
       simp only[km]at hst
       cases hr:bt ih g args none s1 with
       |none=>rw[hr]at hst;cases hst
       |some out =>
        rw[hr]at hst
        obtain⟨hcall,hfin⟩:=jW hg h3 h1 hr
        rw[hcall]at h2
        obtain⟨ρ1,w1,en,j1,j2,j3,j4⟩:=hfin fr cs
        have hsteps:Steps E.P (lone fr cs w) (lone (bW fr en) cs w1):=.head (ru htd hstx h2) j4
        obtain⟨oe,oup,os⟩:=out
        cases oe with
        |panicked c=>cases hst
        |returned v =>
         simp only[sK,Option.some.injEq,Prod.mk.injEq]at hst
         obtain⟨hst1,hst2⟩:=hst
         cases en with
         |returned y=>exact go ρ1 w1 y hsteps (by rw[<- hst2];exact j1) j2 (by rw[<- hst1];exact j3)
         |panicked _=>exact j3.elim
         |outgrown=>exact j3.elim
      |round l args s1=>cases hst
      |defer df s1=>cases hst
      |recover s1=>cases hst
      |panic v s1=>cases hst
    ·rename_i hw
     have hwant:=wsp _ hw
     simp only[Option.some.injEq,Prod.mk.injEq]at hst
     obtain⟨hst1,hst2⟩:=hst
     exact go (ρ.to e.a.next) w undef (.one (gK hm htd (by simp[ho,hwant]))) (by rw[<- hst2];exact hreg) (FR.refl _ _) (by rw[<- hst1];rfl)
    ·cases hst
   ·
    rcases hI.float hD hR' hk hn hcl hpre hdst' with⟨hwant,hI'⟩|⟨hwant,y,w1,ρ1,hrun,hI'⟩
    ·obtain⟨hF',htm⟩:=KR hF ho undef
     rw[<- hset,<- htm]at hI'
     obtain⟨ρ2,w2,fr2,a1,a2⟩:=ihf (τ / (Region.ready .any ops listed).length) _ (X1++e::X2) F ρ w (fr.finish undef) hL hsz' hleft' hcl' hI' hF'
     exact⟨ρ2,w2,fr2,(Steps.one (gK hm htd (by simp[ho,hwant]))).trans a1,a2⟩
    ·obtain⟨hF',htm⟩:=KR hF ho y
     rw[<- hset,<- htm]at hI'
     obtain⟨ρ2,w2,fr2,a1,a2⟩:=ihf (τ / (Region.ready .any ops listed).length) _ (X1++e::X2) F ρ1 w1 (fr.finish y) hL hsz' hleft' hcl' hI' hF'
     have hnd:∀ c,e.o.op≠.defer c:=fun c hc=>by
      apply hk
      show aD E.P e.o.op=3
      rw[hc];rfl
     exact⟨ρ2,w2,fr2,(Steps.one (nw (gt hm htd ho hwant (.inr hnd)) hrun)).trans a1,a2⟩
theorem Mj{P:Program}{fr:Frame}{cs:List Frame}{w:World}{id:Nat}(hm:fr.mode=.run)(ht:fr.todo=.code (.region id ops true)::k) :
 step P (lone fr cs w)=.next (lone { fr with todo:=.inRegion ops (Region.schedule (P.follows .mixedOrders) ops (w.tape w.drawn (.order fr.fn id)))::k } cs { w with drawn:=w.drawn+1 }) :=
 step_lone_go (by simp[stepG,stepG.exec,hm,ht,choose,Sem.run,Question.forced,Question.cut])
end
section
variable{E:cU}{ih:rG->S->Option eo}{ops:Array Oper}{t0:T V}{s0:S}{ρ0:aB}{w0:World}{f:FuncId}{fn:Func}{k:List Item}{rd:Option Nat}{ds:List dX}{up:Option Md}{cs:List Frame}
theorem iF{done:Nat}{d:Tmp}{x:V}:∀ {l:List (Nat×Oper)} {t:T V},(fo done l t).get (et d)=some x->t.get (et d)=some x/\∀ a o,(a,o)∈l->o.dst=some d->done.testBit a=true
 |[],t,h=>⟨h,fun _ _ h=>by cases h⟩
 |(a,o)::r,t,h=>by
  simp only[fo]at h
  cases hb:done.testBit a with
  |true =>
   rw[hb]at h
   obtain⟨h1,h2⟩:=iF h
   refine⟨h1,fun a' o' hm hd=>?_⟩
   rcases List.mem_cons.1 hm with hm|hm
   ·cases hm;exact hb
   ·exact h2 a' o' hm hd
  |false =>
   rw[hb]at h
   simp only[cond_false]at h
   cases ho:o.dst with
   |none =>
    rw[ho]at h
    obtain⟨h1,h2⟩:=iF h
    refine⟨h1,fun a' o' hm hd=>?_⟩
    rcases List.mem_cons.1 hm with hm|hm
    ·cases hm;rw[ho]at hd;cases hd
    ·exact h2 a' o' hm hd
   |some e =>
    rw[ho]at h
    simp only at h
    rw[T.setK_eq]at h
    obtain⟨h1,h2⟩:=iF h
    rw[T.get_setN]at h1
    by_cases hed:e=d
    ·rw[if_pos hed]at h1;cases h1
    ·rw[if_neg hed]at h1
     refine⟨h1,fun a' o' hm hd=>?_⟩
     rcases List.mem_cons.1 hm with hm|hm
     ·cases hm;rw[ho]at hd;cases hd;exact absurd rfl hed
     ·exact h2 a' o' hm hd
theorem FR.to_start{ρ:aB}{w:World}{n:Nat}(h:FR ρ0 w0 ρ w)(h0:∀ f v,n<=f->ρ0 f v=none):FR ρ0 w0 (ρ.to n) w :=
 ⟨fun f v l e=>by
  have hf:f<n:=Nat.lt_of_not_le fun hc=>by rw[h0 f v hc]at e;cases e
  rw[aB.to_of hf];exact h.ext f v l e,h.size,h.os,h.tape,h.output,h.same,fun f v l e hl=>h.new f v l (aB.to_lt e).2 hl⟩
theorem vH.envP{rec:gA}{Z X2 F:List Ev}{i:Nat}{o:Oper}{t1:T V}{R:Nat->Prop}{ρ:aB}{w:World}{tm:Array Value}(hD:jQ ops)(h:vH E t0 s0 ρ0 w0 (Z++X2) F R ρ w tm)
 (hR:dA E rec ops t0 s0 (Z++(X2++F))) (ho:ops[i]? = some o) (hpY:∀ k,kH ops i k->∃ q∈X2++F,q.i=k) (hnew:∀ q∈Z++(X2++F),q.i≠i) (hslots:nE t0 (X2++F) t1)
 (hn:¬ R i) (hcl:im ops R) (hpre:∀ k,kH ops i k->R k):TR (ρ.to (bN s0 (X2++F)).next) (only t1 (looks ops o)) tm:=by
 have hL:Z++X2++F=Z++(X2++F):=by simp
 have hRY:dA E rec ops t0 s0 (X2++F):=dA.suf hR
 intro d x hx
 rw[mB]at hx
 split at hx
 ·rename_i hd
  have hord:∀ q oq,ops[q]? = some oq->oq.dst=some d->q≠i->kH ops i q\/kH ops q i:=by
   intro q oq hq hdq hqi
   rcases List.mem_append.1 hd with hd|hd
   ·exact hD.sees i q o oq d ho hq (fun h=>hqi h.symm) hdq hd
   ·unfold nP at hd
    split at hd
    ·rename_i g b hg
     have hgd:((ops[g]?).bind (·.dst))=some d:=by simpa using hd
     cases hog:ops[g]? with
     |none=>rw[hog]at hgd;cases hgd
     |some og =>
      rw[hog]at hgd
      by_cases hgq:g=q
      ·subst hgq;exact .inl (hD.guard i o g b ho hg)
      ·exact absurd hgd (hD.dst g q og oq d hog hq hgq hdq)
    ·simp at hd
  have hle:∀ q∈X2++F,q.b.next<=(bN s0 (X2++F)).next:=fun q hq=>by
   obtain⟨Y1,Y2,hY⟩:=List.append_of_mem hq
   rw[hY]at hRY ⊢
   exact dA.next_le (Y:=q::Y2) hRY
  rcases hslots d with⟨q,q1,q2,q3⟩|⟨q1,q2⟩
  ·rw[q3]at hx;cases hx
   obtain⟨Ya,Yb,hY,hqev,_⟩:=dA.ok hRY q1
   have hqi:q.i≠i:=hnew q (List.mem_append_right _ q1)
   rcases hord q.i q.o hqev.op q2 hqi with p|p
   ·obtain⟨y,y1,y2⟩:=h.vals q (by rw[hL];exact List.mem_append_right _ q1) (hpre _ p)
    exact⟨y,bk (aB.to_le ρ (hle q q1)) _ _ y1,y2 d q2⟩
   ·obtain⟨z,z1,z2⟩:=hqev.pre i p
    exact absurd z2 (hnew z (List.mem_append_right _ (by rw[hY];simp[z1])))
  ·rw[q2]at hx
   obtain⟨y,y1,y2⟩:=h.olds d x hx (fun q hq hr hdq=>by
    rw[hL]at hq
    obtain⟨_,Y',_,k1,_⟩:=dA.ok hR hq
    rcases hord q.i q.o k1.op hdq (hnew q hq)with p|p
    ·obtain⟨z,z1,z2⟩:=hpY _ p
     have hz:z=q:=dA.uniq hR (List.mem_append_right _ z1) hq z2
     subst hz
     exact q1 z z1 hdq
    ·exact hn (hcl q.i i hr p))
   refine⟨y,bk (aB.to_le ρ ?_) _ _ y1,y2⟩
   have h1:dA E rec ops t0 s0 ((X2++F)++[]):=by simpa using hRY
   have h2:=dA.next_le h1
   rw[List.append_nil]at h2
   exact h2
 ·cases hx
theorem MI(hE:gZ E)(hg:Good E.P ih)(hD:jQ ops)(hdst:kn ops fn.ntmps=true)(h0:∀ f v,s0.next<=f->ρ0 f v=none){i0:Nat}{o0:Oper}{Z0 Y0:List Ev}{done:Nat}{t1:T V}{c:List Dt}{s2:S}
 (ho0:ops[i0]? = some o0) (hk0:jk E o0) (hR:dA E (bt ih) ops t0 s0 (Z0++Y0)) (hdone:sW done Y0) (hS:nE t0 Y0 t1) (hpan:jP E (bt ih) t1 (bN s0 Y0) o0 (bw ops t1 o0)=some (.pan c s2))
 (hpY1:∀ q∈Y0,kH ops i0 q.i) (hpY:∀ k,kH ops i0 k->∃ q∈Y0,q.i=k) (hZ:∀ q∈Z0,¬ jk E q.o) (hnew:∀ q∈Z0++Y0,q.i≠i0) (hall:∀ k,k<ops.size->k≠i0->¬ kH ops k i0->∃ q∈Z0++Y0,q.i=k) :
 ∀(fuel τ:Nat) (listed:Array Bool) (X F:List Ev) (ρ:aB) (w:World) (fr:Frame),Z0++Y0=X++F->listed.size=ops.size->left listed.toList<=fuel->im ops (bP listed)->¬ bP listed i0 ->
  vH E t0 s0 ρ0 w0 X F (bP listed) ρ w fr.tmps->jl E.P ρ0 f fn .leaf (.inRegion ops (Region.linearise.go .any ops fuel τ listed [])::k) ds .run up rd fr cs ->
  ∃ ρ' w' fr',Steps E.P (lone fr cs w) (lone fr' cs w')/\FR ρ0 w0 ρ' w'/\HR ρ' s2 w'/\jl E.P ρ' f fn (fo done (cK ops.toList 0) t1) k ds (.panicking c) up rd fr' cs:=by
 have hi0:i0<ops.size:=by
  rcases Nat.lt_or_ge i0 ops.size with h|h
  ·exact h
  ·rw[Array.getElem?_eq_none h]at ho0;cases ho0
 intro fuel
 induction fuel with
 |zero =>
  intro τ listed X F ρ w fr hL hs hleft hcl hni hI hF
  exfalso
  have:=sh listed.toList (by omega) i0
  have hi':i0<listed.size:=by omega
  apply hni
  unfold bP
  rw[Array.getElem?_eq_getElem hi']
  cases hb:listed[i0]with
  |true=>rfl
  |false=>exfalso;apply this;rw[Array.getElem?_toList,Array.getElem?_eq_getElem hi',hb]
 |succ fuel ihf =>
  intro τ listed X F ρ w fr hL hs hleft hcl hni hI hF
  simp only[Region.linearise.go]at hF
  change jl E.P ρ0 f fn .leaf (.inRegion ops (match(Region.ready .any ops listed)[τ%(Region.ready .any ops listed).length]? with
   |some i=>Region.linearise.go .any ops fuel (τ / (Region.ready .any ops listed).length) (listed.setIfInBounds i true) [i]
   |none=>[].reverse)::k) ds .run up rd fr cs at hF
  cases hi:(Region.ready .any ops listed)[τ%(Region.ready .any ops listed).length]? with
  |none =>
   exfalso
   have hnil:Region.ready .any ops listed=[]:=by
    cases hr:Region.ready .any ops listed with
    |nil=>rfl
    |cons x xs =>
     rw[hr]at hi
     have hlt:τ%(x::xs).length<(x::xs).length:=Nat.mod_lt _ (by simp)
     simp at hi
     simp at hlt
     omega
   exact hni (Af hD.back hs hnil i0 hi0)
  |some i =>
   rw[hi]at hF
   simp only at hF
   rw[linearise_go_acc,List.reverse_singleton,List.singleton_append]at hF
   obtain⟨o,ho,hfalse,hed⟩:=Au hs (List.mem_of_getElem? hi)
   have hn:¬ bP listed i:=fun h=>by unfold bP at h;rw[hfalse]at h;cases h
   have hpre:=wh hD.back hcl ho hed
   have hisz:i<listed.size:=by
    rcases Nat.lt_or_ge i listed.size with h|h
    ·exact h
    ·rw[Array.getElem?_eq_none h]at hfalse;cases hfalse
   have hm:=xu hF
   have htd:=hF.todo rfl
   by_cases hii:i=i0
   ·
    subst hii
    rw[ho0]at ho
    cases ho
    obtain⟨X2,hX2,hY0⟩:∃ X2,X=Z0++X2/\Y0=X2++F:=by
     rcases List.append_eq_append_iff.1 hL with⟨a,h1,h2⟩|⟨a,h1,h2⟩
     ·exact⟨a,h1,h2⟩
     ·cases a with
      |nil=>exact⟨[],by simpa using h1.symm,by simpa using h2.symm⟩
      |cons e a =>
       exfalso
       subst h2
       have hfe:jk E e.o:=hI.front
       exact hZ e (by rw[h1];simp) hfe
    subst hX2;subst hY0
    have hRY:dA E (bt ih) ops t0 s0 (X2++F):=dA.suf hR
    have hreg:=hI.reg (X1:=Z0) (Z:=X2) rfl hRY fun q hq=>hpre _ (hpY1 q (List.mem_append_left _ hq))
    have hT:=hI.envP hD hR ho0 hpY hnew hS hn hcl hpre
    have wsp:∀ b,bw ops t1 o0=some b->Region.wanted o0 (yielded ops fr.tmps)=b:=fun b hb=>by
     rw[<- js]at hb
     exact ei hT hb
    have hFR0:FR ρ0 w0 (ρ.to (bN s0 (X2++F)).next) w:=hI.fr.to_start fun f v hf=>h0 f v (by
     have h1:dA E (bt ih) ops t0 s0 ((X2++F)++[]):=by simpa using hRY
     have h2:=dA.next_le h1
     rw[List.append_nil]at h2
     exact Nat.le_trans h2 hf)
    have tr:∀ ρ1:aB,(ρ.to (bN s0 (X2++F)).next).le ρ1->TR ρ1 (fo done (cK ops.toList 0) t1) fr.tmps:=fun ρ1 hle d x hx=>by
     obtain⟨hx1,hx2⟩:=iF hx
     have hle2:∀ q∈X2++F,q.b.next<=(bN s0 (X2++F)).next:=fun q hq=>by
      obtain⟨Y1,Y2,hY⟩:=List.append_of_mem hq
      rw[hY]at hRY ⊢
      exact dA.next_le (Y:=q::Y2) hRY
     rcases hS d with⟨q,q1,q2,q3⟩|⟨q1,q2⟩
     ·rw[q3]at hx1;cases hx1
      obtain⟨y,y1,y2⟩:=hI.vals q (by rw[List.append_assoc];exact List.mem_append_right _ q1) (hpre _ (hpY1 q q1))
      exact⟨y,bk (aB.le_trans (aB.to_le ρ (hle2 q q1)) hle) _ _ y1,y2 d q2⟩
     ·rw[q2]at hx1
      obtain⟨y,y1,y2⟩:=hI.olds d x hx1 fun q hq hr hdq=>by
       rw[List.append_assoc]at hq
       obtain⟨_,_,_,k1,_⟩:=dA.ok hR hq
       have:=hx2 q.i q.o (dF.2 k1.op) hdq
       obtain⟨z,z1,z2⟩:=(hdone q.i).1 this
       have hz:z=q:=dA.uniq hR (List.mem_append_right _ z1) hq z2
       subst hz
       exact q1 z z1 hdq
      have h1:dA E (bt ih) ops t0 s0 ((X2++F)++[]):=by simpa using hRY
      have h2:=dA.next_le h1
      rw[List.append_nil]at h2
      exact⟨y,bk (aB.le_trans (aB.to_le ρ h2) hle) _ _ y1,y2⟩
    unfold jP at hpan
    split at hpan
    ·rename_i hw
     have hwant:=wsp _ hw
     rw[<- iL (ops:=ops)]at hpan
     cases hdo:cT E (only t1 (looks ops o0)) (bN s0 (X2++F)) o0 with
     |none=>rw[hdo]at hpan;cases hpan
     |some nx =>
      rw[hdo]at hpan
      have hop:=lj hE hreg hT o0 hdo
      have hstg:(∀ c,o0.op≠.defer c)->stepG E.P true { frame:=fr,callers:=cs,status:=.running,dying:=none } w=stepG.apply E.P true fr cs none (execOp (rv fr.tmps) o0) w:=fun q=>gt hm htd ho0 hwant (.inr q)
      cases nx with
      |enter g args s1 =>
       obtain⟨ys,h1,h2,h3⟩:=hop
       have hstx:=hstg (cG hdo (fun d s'=>by intro h;cases h))
       simp only[pD]at hpan
       cases hr:bt ih g args none s1 with
       |none=>rw[hr]at hpan;cases hpan
       |some out =>
        rw[hr]at hpan
        obtain⟨hcall,hfin⟩:=jW hg h3 h1 hr
        rw[hcall]at h2
        obtain⟨ρ1,w1,en,j1,j2,j3,j4⟩:=hfin fr cs
        have hsteps:Steps E.P (lone fr cs w) (lone (bW fr en) cs w1):=.head (ru htd hstx h2) j4
        obtain⟨oe,oup,os⟩:=out
        cases oe with
        |returned v=>cases hpan
        |panicked c' =>
         simp only[qT,Option.some.injEq,LC.pan.injEq]at hpan
         obtain⟨rfl,rfl⟩:=hpan
         cases en with
         |returned _=>exact j3.elim
         |outgrown=>exact j3.elim
         |panicked ch =>
          have hfr:=hFR0.trans j2
          have hF1:=hF.mono hfr.ext
          exact⟨ρ1,w1,_,hsteps,hfr,j1,⟨hF1.name.symm▸(by rw[bW,bb hm]),hF1.func,by rw[bW,bb hm];exact tr ρ1 j2.ext,by rw[bW,bb hm];exact hF1.size,(fun q=>by cases q),by rw[bW,bb hm];exact hF1.ds,by rw[bW,bb hm];exact j3,by rw[bW,bb hm];exact hF1.rd,by rw[bW,bb hm];exact hF1.up⟩⟩
      |panic v s1 =>
       simp only[pD,Option.some.injEq,LC.pan.injEq]at hpan
       obtain⟨rfl,rfl⟩:=hpan
       obtain⟨y,h1,h2,h3⟩:=hop
       have hstx:=hstg (cG hdo (fun d s'=>by intro h;cases h))
       refine⟨ρ.to (bN s0 (X2++F)).next,w,_,.one (FQ hstx h2),hFR0,h3,?_⟩
       rw[bb hm]
       have hF1:=hF.mono hFR0.ext
       exact⟨hF1.name,hF1.func,tr _ (aB.le_refl _),hF1.size,(fun q=>by cases q),hF1.ds,⟨⟨h1,rfl,rfl⟩,trivial⟩,hF1.rd,hF1.up⟩
      |val v s1=>cases hpan
      |skip s1=>cases hpan
      |round l args s1=>cases hpan
      |defer df s1=>cases hpan
      |recover s1=>cases hpan
    ·cases hpan
    ·cases hpan
   ·
    obtain⟨e,heL,hei⟩:=hall i (by omega) hii fun h=>hni (hpre _ h)
    subst hei
    have hL0:=hL
    obtain⟨_,_,_,hev0,_⟩:=dA.ok hR heL
    have heo:e.o=o:=by have:=hev0.op;rw[ho]at this;cases this;rfl
    subst heo
    have heX:e∈X:=by
     rw[hL]at heL
     rcases List.mem_append.1 heL with h|h
     ·exact h
     ·exact absurd (hI.inF e h) hn
    obtain⟨X1,X2,rfl⟩:=List.append_of_mem heX
    have hL':Z0++Y0=X1++e::(X2++F):=by rw[hL];simp
    have hR':=hR
    rw[hL']at hR'
    obtain⟨hev,hRY⟩:=dA.at hR'
    have hdst':∀ d,e.o.dst=some d->d<fr.tmps.size:=fun d hd=>Nat.lt_of_lt_of_le (pE hdst ho d hd) hF.size
    have hsz':(listed.setIfInBounds e.i true).size=ops.size:=by simpa using hs
    have hleft':left (listed.setIfInBounds e.i true).toList<=fuel:=by
     have:=wM listed.toList e.i (by rw[Array.getElem?_toList];exact hfalse)
     rw[Array.toList_setIfInBounds];omega
    have hset:=wH hisz
    have hcl':im ops (bP (listed.setIfInBounds e.i true)):=by rw[hset];exact hcl.with1 hpre
    have hni':¬ bP (listed.setIfInBounds e.i true) i0:=by
     rw[hset]
     rintro(h|h)
     ·exact hni h
     ·exact hii h.symm
    by_cases hk:jk E e.o
    ·
     have hstep:eU E (bt ih) e.t e.a e.o (bw ops e.t e.o)=some (e.v,e.b)/\∀ q∈X2++F,kH ops e.i q.i:=by
      rcases hev.step with⟨hk',_⟩|⟨_,h1,_,h2⟩
      ·exact absurd hk hk'
      ·exact⟨h1,h2⟩
     obtain⟨hst,hXF⟩:=hstep
     have hX2:∀ q∈X2,bP listed q.i:=fun q hq=>hpre _ (hXF q (by simp[hq]))
     have hreg:=hI.reg (X1:=X1++[e]) (Z:=X2) (by simp) hRY hX2
     rw[<- hev.st]at hreg
     have hT:=hI.env hD hR' hn hcl hpre
     have wsp:∀ b,bw ops e.t e.o=some b->Region.wanted e.o (yielded ops fr.tmps)=b:=fun b hb=>by
      rw[<- js]at hb
      exact ei hT hb
     have go:∀(ρ1:aB) (w1:World) (y:Value),Steps E.P (lone fr cs w) (lone (fr.finish y) cs w1)->HR ρ1 e.b w1->FR (ρ.to e.a.next) w ρ1 w1->den ρ1 e.v=some y ->
      ∃ ρ' w' fr',Steps E.P (lone fr cs w) (lone fr' cs w')/\FR ρ0 w0 ρ' w'/\HR ρ' s2 w'/\jl E.P ρ' f fn (fo done (cK ops.toList 0) t1) k ds (.panicking c) up rd fr' cs:=by
      intro ρ1 w1 y hsteps h1 h2 h3
      obtain⟨ρ',hI'⟩:=hI.effect hD hR' hk hn hX2 h1 h2 h3 hdst'
      obtain⟨hF',htm⟩:=KR hF ho y
      rw[<- hset,<- htm]at hI'
      obtain⟨ρ2,w2,fr2,a1,a2⟩:=ihf (τ / (Region.ready .any ops listed).length) _ X1 (e::(X2++F)) ρ' w1 (fr.finish y) hL' hsz' hleft' hcl' hni' hI' hF'
      exact⟨ρ2,w2,fr2,hsteps.trans a1,a2⟩
     unfold eU at hst
     split at hst
     ·rename_i hw
      have hwant:=wsp _ hw
      rw[<- iL (ops:=ops)]at hst
      cases hdo:cT E (only e.t (looks ops e.o)) e.a e.o with
      |none=>rw[hdo]at hst;cases hst
      |some nx =>
       rw[hdo]at hst
       have hop:=lj hE hreg hT e.o hdo
       have hstg:(∀ c,e.o.op≠.defer c)->stepG E.P true { frame:=fr,callers:=cs,status:=.running,dying:=none } w=stepG.apply E.P true fr cs none (execOp (rv fr.tmps) e.o) w:=fun q=>gt hm htd ho hwant (.inr q)
       cases nx with
       |val v s1 =>
        simp only[km,Option.some.injEq,Prod.mk.injEq]at hst
        obtain⟨hst1,hst2⟩:=hst
        obtain⟨ρ1,y,w1,h1,h2,h3,h4⟩:=hop
        have hst:=hstg (cG hdo (fun d s'=>by intro h;cases h))
        exact go ρ1 w1 y (.one (nw hst h1)) (by rw[<- hst2];exact h3) h4 (by rw[<- hst1];exact h2)
       |skip s1 =>
        simp only[km,Option.some.injEq,Prod.mk.injEq]at hst
        obtain⟨hst1,hst2⟩:=hst
        obtain⟨ρ1,w1,h1,h3,h4⟩:=hop
        have hst:=hstg (cG hdo (fun d s'=>by intro h;cases h))
        exact go ρ1 w1 undef (.one (Dh hst h1)) (by rw[<- hst2];exact h3) h4 (by rw[<- hst1];rfl)
       |enter g args s1 =>
        obtain⟨ys,h1,h2,h3⟩:=hop
        have hstx:=hstg (cG hdo (fun d s'=>by intro h;cases h))
        simp only[km]at hst
        cases hr:bt ih g args none s1 with
        |none=>rw[hr]at hst;cases hst
        |some out =>
         rw[hr]at hst
         obtain⟨hcall,hfin⟩:=jW hg h3 h1 hr
         rw[hcall]at h2
         obtain⟨ρ1,w1,en,j1,j2,j3,j4⟩:=hfin fr cs
         have hsteps:Steps E.P (lone fr cs w) (lone (bW fr en) cs w1):=.head (ru htd hstx h2) j4
         obtain⟨oe,oup,os⟩:=out
         cases oe with
         |panicked c=>cases hst
         |returned v =>
          simp only[sK,Option.some.injEq,Prod.mk.injEq]at hst
          obtain⟨hst1,hst2⟩:=hst
          cases en with
          |returned y=>exact go ρ1 w1 y hsteps (by rw[<- hst2];exact j1) j2 (by rw[<- hst1];exact j3)
          |panicked _=>exact j3.elim
          |outgrown=>exact j3.elim
       |round l args s1=>cases hst
       |defer df s1=>cases hst
       |recover s1=>cases hst
       |panic v s1=>cases hst
     ·rename_i hw
      have hwant:=wsp _ hw
      simp only[Option.some.injEq,Prod.mk.injEq]at hst
      obtain⟨hst1,hst2⟩:=hst
      exact go (ρ.to e.a.next) w undef (.one (gK hm htd (by simp[ho,hwant]))) (by rw[<- hst2];exact hreg) (FR.refl _ _) (by rw[<- hst1];rfl)
     ·cases hst
    ·
     rcases hI.float hD hR' hk hn hcl hpre hdst' with⟨hwant,hI'⟩|⟨hwant,y,w1,ρ1,hrun,hI'⟩
     ·obtain⟨hF',htm⟩:=KR hF ho undef
      rw[<- hset,<- htm]at hI'
      obtain⟨ρ2,w2,fr2,a1,a2⟩:=ihf (τ / (Region.ready .any ops listed).length) _ (X1++e::X2) F ρ w (fr.finish undef) hL hsz' hleft' hcl' hni' hI' hF'
      exact⟨ρ2,w2,fr2,(Steps.one (gK hm htd (by simp[ho,hwant]))).trans a1,a2⟩
     ·obtain⟨hF',htm⟩:=KR hF ho y
      rw[<- hset,<- htm]at hI'
      obtain⟨ρ2,w2,fr2,a1,a2⟩:=ihf (τ / (Region.ready .any ops listed).length) _ (X1++e::X2) F ρ1 w1 (fr.finish y) hL hsz' hleft' hcl' hni' hI' hF'
      have hnd:∀ c,e.o.op≠.defer c:=fun c hc=>by
       apply hk
       show aD E.P e.o.op=3
       rw[hc];rfl
      exact⟨ρ2,w2,fr2,(Steps.one (nw (gt hm htd ho hwant (.inr hnd)) hrun)).trans a1,a2⟩
theorem Fi(hE:gZ E)(hmix:E.P.follows .mixedOrders=true):dH E:=by
 intro ih hg f fn id ops k rd t ds up s r hdst e ρ w fr cs h hF
 obtain⟨hD,hcase⟩:=CM e
 have hm:=xu hF
 have ht:=hF.todo rfl
 have hstep:=Mj (P:=E.P) (cs:=cs) (w:=w) hm ht
 rw[hmix]at hstep
 simp only[Region.schedule,Bool.true_or,if_true,Region.linearise]at hstep
 have hno:∀ i,¬ bP (Array.replicate ops.size false) i:=by
  intro i hi
  unfold bP at hi
  rw[Array.getElem?_replicate]at hi
  split at hi<;>cases hi
 have hI0:∀ L,vH E t s ρ w L [] (bP (Array.replicate ops.size false)) ρ { w with drawn:=w.drawn+1 } fr.tmps:=by
  intro L
  have hto:ρ.to s.next=ρ:=aB.to_all fun f v hf=>h.fresh f v hf
  refine⟨trivial,by simp,fun e _ hr=>absurd hr (hno _),fun e _ hr=>absurd hr (hno _),fun d x hx _=>?_,fun e _ hr=>absurd hr (hno _),?_,h.inj,h.low,fun f v hf=>.inl ?_,FR.drawn w _⟩
  ·rw[hto];exact hF.tr d x hx
  ·show HR (ρ.to s.next) s _
   rw[hto];exact h.drawn _
  ·show f<s.next
   exact Nat.lt_of_not_le fun hc=>hf (h.fresh f v hc)
 have hF0:jl E.P ρ f fn .leaf (.inRegion ops (Region.linearise.go .any ops ops.size (w.tape w.drawn (.order fr.fn id)) (Array.replicate ops.size false) [])::k) ds .run up rd { fr with todo:=.inRegion ops (Region.linearise.go .any ops ops.size (w.tape w.drawn (.order fr.fn id)) (Array.replicate ops.size false) [])::k } cs :=
  ⟨hF.name,hF.func,TR.leaf _ _,hF.size,fun _=>rfl,hF.ds,hF.md,hF.rd,hF.up⟩
 have hcl0:im ops (bP (Array.replicate ops.size false)):=fun i k hi=>absurd hi (hno _)
 rcases hcase with⟨L,t',s',rfl,hR,hS,rfl,hall⟩|⟨i0,o0,Z0,Y0,done,t1,c,s2,rfl,ho0,hk0,hR,hdone,hS,hpan,hpY1,hpY,hZ,hnew,hall⟩
 ·obtain⟨ρ',w',fr',a1,a2,a3,a4⟩:=MH (ih:=ih) (f:=f) (fn:=fn) (k:=k) (rd:=rd) (ds:=ds) (up:=up) (cs:=cs) (ρ0:=ρ) (w0:=w) hE hg hD hdst hR hall hS ops.size _ (Array.replicate ops.size false) L [] ρ { w with drawn:=w.drawn+1 } { fr with todo:=.inRegion ops (Region.linearise.go .any ops ops.size (w.tape w.drawn (.order fr.fn id)) (Array.replicate ops.size false) [])::k } (by simp) (by simp)
   (by simp[iT]) hcl0 (hI0 L) hF0
  exact⟨ρ',w',fr',cs,.head hstep a1,a2,rB.refl hF,a3,a4,rfl⟩
 ·obtain⟨ρ',w',fr',a1,a2,a3,a4⟩:=MI (ih:=ih) (f:=f) (fn:=fn) (k:=k) (rd:=rd) (ds:=ds) (up:=up) (cs:=cs) (ρ0:=ρ) (w0:=w) hE hg hD hdst (fun f v hf=>h.fresh f v hf) ho0 hk0 hR hdone hS hpan hpY1 hpY hZ hnew hall ops.size _ (Array.replicate ops.size false) (Z0++Y0) [] ρ { w with drawn:=w.drawn+1 } { fr with todo:=.inRegion ops (Region.linearise.go .any ops ops.size (w.tape w.drawn (.order fr.fn id)) (Array.replicate ops.size false) [])::k } (by simp) (by simp)
   (by simp[iT]) hcl0 (hno _) (hI0 _) hF0
  exact⟨ρ',w',fr',cs,.head hstep a1,a2,rB.refl hF,a3,a4,rfl⟩
end
def aB.no:aB:=fun _ _=>none
theorem HR.empty(w:World)(n:Nat):HR aB.no ⟨.leaf,n⟩ w :=
 ⟨fun _ _ _=>rfl,fun _ _ _ _ _ _ e=>(by cases e),fun _ _ _ e=>(by cases e),fun f B hB=>by(rw[S.get_eq,T.get_leaf]at hB;cases hB),fun f B hB=>by(rw[S.get_eq,T.get_leaf]at hB;cases hB),fun f B hB=>by(rw[S.get_eq,T.get_leaf]at hB;cases hB)⟩
theorem yA{P:Program}{f:FuncId}{args:List V}{s:S}{v:V}{u:Option Md}{s':S}(h:fB P f args none s ⟨.returned v,u,s'⟩){ρ:aB}{w:World}{ys:List Value}(hr:HR ρ s w)(hd:aN ρ args=some ys) :
 Calls P f ys.toArray w fun e w'=>∃ ρ' y,e=.returned y/\den ρ' v=some y/\HR ρ' s' w'/\FR ρ w ρ' w':=by
 intro cs
 obtain⟨_,h2⟩:=h ρ w ys hr hd
 obtain⟨ρ',w',k1,k2,fr',e,k3,k4,k5,k6⟩:=h2 cs (fun u hu=>by cases hu)
 cases e with
 |panicked _=>exact k3.elim
 |outgrown=>exact k3.elim
 |returned y=>exact⟨.returned y,w',fr',⟨ρ',y,rfl,k3,k1,k2⟩,k4,k5,k6⟩
theorem FR.keeps{w:World}{ρ':aB}{w':World}(h:FR aB.no w ρ' w'):∀ b,b<w.heap.size->w'.heap[b]? = w.heap[b]?:=fun b hb=>h.same b hb fun f v l e=>by cases e
theorem DL{P:Program}{f:FuncId}{args:List V}{v:V}{n:Nat}{s1:S}(h:fB P f args none ⟨.leaf,n⟩ ⟨.returned v,none,s1⟩)
 (ha:∀ ρ ys,aN ρ args=some ys->aN aB.no args=some ys) (hv:∀ ρ y,den ρ v=some y->∀ ρ',den ρ' v=some y) (s:S):fB P f args none s ⟨.returned v,none,s⟩:=by
 intro ρ w ys hr hd
 obtain⟨h1,h2⟩:=h aB.no w ys (HR.empty w n) (ha ρ ys hd)
 refine⟨h1,fun cs hup=>?_⟩
 obtain⟨ρ',w',k1,k2,fr',e,k3,k4,k5,k6⟩:=h2 cs (fun u hu=>by cases hu)
 refine⟨ρ,w',hr.frame k2.size k2.keeps,⟨ρ.le_refl,k2.size,k2.os,k2.tape,k2.output,fun b hb _=>k2.keeps b hb,fun f v l e _=>⟨f,v,l,e,rfl,id⟩⟩,fr',e,?_,k4,k5,k6⟩
 cases e with
 |panicked _=>exact k3.elim
 |outgrown=>exact k3.elim
 |returned y=>exact hv _ _ k3 _
def VE(a s:S):Prop:=(∀ f B,a.get f=some B->s.get f=some B)/\s.next<=a.next
theorem HR.sub{ρ:aB}{a s:S}{w:World}(h:HR ρ s w)(hs:VE a s):HR ρ a w :=
 ⟨fun f v hf=>h.fresh f v (Nat.le_trans hs.2 hf),h.inj,h.low,fun f B hB=>h.blk f B (hs.1 f B hB),fun f B hB=>Nat.lt_of_lt_of_le (h.dom f B (hs.1 f B hB)) hs.2,fun f B hB=>h.rw f B (hs.1 f B hB)⟩
theorem Gs{P:Program}{f:FuncId}{args:List V}{v:V}{a a' s b:S}(h:fB P f args none a ⟨.returned v,none,a'⟩)(h1:VE a s)(h2:VE b a'):fB P f args none s ⟨.returned v,none,b⟩:=by
 intro ρ w ys hr hd
 obtain⟨k1,k2⟩:=h ρ w ys (hr.sub h1) hd
 refine⟨k1,fun cs hup=>?_⟩
 obtain⟨ρ',w',j1,j2,fr',e,j3,j4,j5,j6⟩:=k2 cs (fun u hu=>by cases hu)
 exact⟨ρ',w',j1.sub h2,j2,fr',e,j3,j4,j5,j6⟩
def BL(u v:mb):Bool:=Nat.beq u.v v.v&&Nat.beq u.lo v.lo&&aR u.cells v.cells
def pZ:List mb->List mb->Bool
 |[],[]=>true
 |u::r,v::q=>BL u v&&pZ r q
 |_,_=>false
def BN(x y:oz):Bool:=aR [x.key,x.val] [y.key,y.val]&&Nat.beq x.born y.born
def qa:List oz->List oz->Bool
 |[],[]=>true
 |u::r,v::q=>BN u v&&qa r q
 |_,_=>false
def BP:dB->dB->Bool
 |.cells e sb nv vs,.cells e' sb' nv' vs'=>Nat.beq e e'&&(sb==sb')&&Nat.beq nv nv'&&pZ vs vs'
 |.map es c,.map es' c'=>qa es es'&&Nat.beq c c'
 |.gone,.gone=>true
 |_,_=>false
def Mu:Option dB->Option dB->Bool
 |none,_=>true
 |some a,some b=>BP a b
 |some _,none=>false
def Me:T dB->T dB->Bool
 |.leaf,_=>true
 |.node l v r,.node l' v' r'=>Mu v v'&&Me l l'&&Me r r'
 |.node _ _ _,.leaf=>false
def PI(a s:S):Bool:=Nat.ble s.next a.next&&Me a.h s.h
theorem BK{u v:mb}(h:BL u v=true):u=v:=by
 unfold BL at h
 simp only[Bool.and_eq_true]at h
 cases u;cases v
 simp only at h
 rw[Nat.eq_of_beq_eq_true h.1.1,Nat.eq_of_beq_eq_true h.1.2,cv h.2]
theorem oC:∀ {a b:List mb},pZ a b=true->a=b
 |[],[],_=>rfl
 |[],_::_,h=>by cases h
 |_::_,[],h=>by cases h
 |u::r,v::q,h=>by
  simp only[pZ,Bool.and_eq_true]at h
  rw[BK h.1,oC h.2]
theorem BM{u v:oz}(h:BN u v=true):u=v:=by
 unfold BN at h
 simp only[Bool.and_eq_true]at h
 have h1:=cv h.1
 have h2:=Nat.eq_of_beq_eq_true h.2
 cases u;cases v
 simp only[List.cons.injEq,and_true]at h1 h2
 rw[h1.1,h1.2,h2]
theorem oD:∀ {a b:List oz},qa a b=true->a=b
 |[],[],_=>rfl
 |[],_::_,h=>by cases h
 |_::_,[],h=>by cases h
 |u::r,v::q,h=>by
  simp only[qa,Bool.and_eq_true]at h
  rw[BM h.1,oD h.2]
theorem BO:∀ {a b:dB},BP a b=true->a=b:=by
 intro a b h
 unfold BP at h
 split at h
 ·simp only[Bool.and_eq_true,beq_iff_eq]at h
  rw[Nat.eq_of_beq_eq_true h.1.1.1,h.1.1.2,Nat.eq_of_beq_eq_true h.1.2,oC h.2]
 ·simp only[Bool.and_eq_true]at h
  rw[oD h.1,Nat.eq_of_beq_eq_true h.2]
 ·rfl
 ·cases h
theorem rL:∀ {a b:T dB},Me a b=true->∀ p B,a.get p=some B->b.get p=some B
 |.leaf,_,_,p,B,e=>by rw[T.get_leaf]at e;cases e
 |.node _ _ _,.leaf,h,_,_,_=>by cases h
 |.node l v r,.node l' v' r',h,p,B,e=>by
  simp only[Me,Bool.and_eq_true]at h
  cases p with
  |o =>
   rw[T.get_o]at e ⊢
   subst e
   cases v' with
   |none=>have:=h.1.1;cases this
   |some B'=>rw[BO (a:=B) (b:=B') h.1.1]
  |l p=>rw[T.get_l]at e ⊢;exact rL h.1.2 p B e
  |r p=>rw[T.get_r]at e ⊢;exact rL h.2 p B e
theorem zX{a s:S}(h:PI a s=true):VE a s:=by
 unfold PI at h
 simp only[Bool.and_eq_true]at h
 exact⟨fun f B hB=>by rw[S.get_eq]at hB ⊢;exact rL h.2 _ B hB,Nat.le_of_ble_eq_true h.1⟩
end Go.AI
