/- Lemmas. No conditions. -/
import Derived.Test.YtpghiabjaglpgaaGreatDoorA1
import Derived.Orders
import Derived.Test.YtpghiabjaglpgaaGreatDoorChecked
set_option linter.all false
noncomputable section
namespace Go.AI
section
variable{t:T V}{h:T ef}{n n':Nat}
def bB{x y:Option V}(a:x=y){v:V}{s1:S}(e:bS ⟨h,n⟩ x=some (.val v s1)):bS ⟨h,n'⟩ y=some (.val v ⟨h,n'⟩):=by
 subst a;cases x with
 |none=>cases e
 |some u=>cases e;rfl
def Hx{P:Program}{ty:TypeId}{a:Ad}:loadVar P ⟨h,n⟩ ty a=loadVar P ⟨h,n'⟩ ty a:=rfl
def Bp{a:Ad}{k:Nat}:loadCells ⟨h,n⟩ a k=loadCells ⟨h,n'⟩ a k:=rfl
def RT{P:Program}{ty:TypeId}{x:V}:mu P ty ⟨h,n⟩ x=mu P ty ⟨h,n'⟩ x:=rfl
def Sp{E:dX}(o:Oper)(hk:aT E.P o.op<=1){v:V}{s1:S}(e:ep E t ⟨h,n⟩ o=some (.val v s1)):ep E t ⟨h,n'⟩ o=some (.val v ⟨h,n'⟩):=by
 obtain⟨dst,op,type,pos,after,guard⟩:=o;unfold ep at e ⊢;simp only at e hk ⊢;cases op<;>simp only[dF]at e ⊢<;>try(cases e;done)
 case move x=>exact bB rfl e
 case assign x=>exact bB rfl e
 case pick c a b =>
  unfold nI at e ⊢;split at e
  .exact bB rfl e
  .cases e
 case build ty parts=>exact bB rfl e
 case load ty x =>
  unfold jC at e ⊢;split at e
  .exact bB Hx e
  .cases e
 case nilCheck x=>exact bB rfl e
 case binOp op ty x y z=>exact bB rfl e
 case unOp op ty x=>exact bB rfl e
 case convert g dst x =>
  unfold iz at e ⊢;split at e
  .rename_i p hx';unfold jx at e ⊢;unfold kM at e ⊢;cases j:E.P.underlying g with
   |none=>simp[j]at e
   |some ds =>
    cases m:E.P.underlying dst with
    |none=>simp[j,m]at e
    |some dd =>
     simp only[j,m]at e ⊢;cases dd<;>simp only at e ⊢<;>try(cases e;done)
     case int k=>cases p<;>simp only at e ⊢<;>first|(cases e;done)|(cases e;rfl)
     case string =>
      unfold EM at e ⊢;cases p<;>simp only at e ⊢<;>try(first|(cases e;done)|(cases e;rfl))
      case slice a z len cap sz =>
       rw[Bp (n':=n')]at e;cases ds<;>simp only at e ⊢<;>try(cases e;done)
       rename_i el;split at e
       .rename_i y s2 hy;cases hb:io E.P el with
        |false=>rw[hb]at hy;cases hy
        |true =>
         rw[hb]at hy;simp only[ge]at hy ⊢;cases d:Nat.beq sz 0 with
         |true=>rw[d]at hy;cases hy
         |false =>
         rw[d]at hy;simp only[Xi]at hy ⊢;split at hy
         .rename_i l hl;cases hy;cases e;rfl
         .cases hy
       .cases e
      case nilslice =>
       cases ds<;>simp only at e ⊢<;>try(cases e;done)
       rename_i el;cases hb:io E.P el with
       |false=>rw[hb]at e;cases e
       |true=>rw[hb]at e;cases e;rfl
     case slice el=>simp[aT,m]at hk
  .cases e
 case makeInterface ty x=>exact bB rfl e
 case makeFunc fn first cap=>exact bB rfl e
 case slice ty x lo hi mx=>exact bB rfl e
 case fieldAddr ty x f=>exact bB rfl e
 case field ty x f=>exact bB rfl e
 case indexAddr ty x i=>exact bB rfl e
 case index ty x i=>exact bB rfl e
 case lookup ty x k ok=>exact bB rfl e
 case typeAssert x xt ty ok=>exact bB rfl e
 case extract x i=>exact bB rfl e
 case call c =>
  unfold iU at e ⊢;split at e
  .rename_i args ha;split at e
   .rename_i b hc;have hb:b=.len\/b=.cap\/b=.max\/b=.min:=by grind [aT]
    rcases hb with rfl|rfl|rfl|rfl<;>simp only[jL]at e ⊢
    .split at e
     .split at e
      .exact bB RT e
      .cases e
     .cases e
    .split at e
     .split at e
      .exact bB rfl e
      .cases e
     .cases e
    .exact bB rfl e
    .exact bB rfl e
   .rename_i f hc;simp[aT,hc]at hk
   .cases e
  .cases e
 all_goals (first|(simp[aT]at hk;done)|(exfalso;revert hk;simp[aT]))
def FT(acc:List Nat)(k:Nat):∀(l:List Edge) (s:Nat),(l.foldl (λs e=>bif Region.binds .any e then Nat.lor s (Nat.lor (Nat.pow 2 e.on) (acc.getD e.on 0))else s) s).testBit k=true ↔
 s.testBit k=true\/∃ e∈l,Region.binds .any e=true/\(k=e.on\/(acc.getD e.on 0).testBit k=true)
 |[],s=>by simp
 |e::l,s=>by
  rw[apD,FT acc k l];cases hb:Region.binds .any e with
  |false =>grind
  |true =>
   simp only[ge,afS,exists_eq_or_imp,hb,aoU];have:(Nat.lor s (Nat.lor (Nat.pow 2 e.on) (acc.getD e.on 0))).testBit k=(s.testBit k||(decide (e.on=k)||(acc.getD e.on 0).testBit k)):=by simp_all[Nat.testBit_two_pow]
   grind
def MC(o:Oper)(acc:List Nat)(k:Nat):(rL o acc).testBit k=true↔∃ e∈o.after,Region.binds .any e=true/\(k=e.on\/(acc.getD e.on 0).testBit k=true):=by unfold rL;rw[FT];simp
def vf:∀(l:List Oper) (acc:List Nat),∃ r,lm l acc=acc++r/\r.length=l.length/\∀ j o,l[j]? = some o->r[j]? = some (rL o (acc++r.take j))
 |[],acc=>⟨[],by simp[lm],rfl,λj o h=>by simp at h⟩
 |o::l,acc=>by
  obtain⟨r,b,c,h3⟩:=vf l (acc++[rL o acc]);refine⟨rL o acc::r,by simp[lm,b],by simp[c],λj o' a=>?_⟩;cases j with
  |zero=>simp at a;subst a;simp
  |succ j =>grind
def uI(ops:Array Oper)(i k:Nat):Prop:=((lm ops.toList []).getD i 0).testBit k=true
def Vo{ops:Array Oper}{i:Nat}{o:Oper}(ho:ops[i]? = some o):(lm ops.toList []).getD i 0=rL o ((lm ops.toList []).take i):=by obtain⟨r,h1,h2,h3⟩:=vf ops.toList [];simp_all
def gW(ops:Array Oper):Prop:=∀ i o,ops[i]? = some o->∀ e∈o.after,Region.binds .any e=true->e.on<i
def Rn{l:List Nat}{i j:Nat}(h:j<i):(l.take i).getD j 0=l.getD j 0:=by grind
def zD{ops:Array Oper}(c:gW ops){i k:Nat}{o:Oper}(ho:ops[i]? = some o):uI ops i k↔∃ e∈o.after,Region.binds .any e=true/\(k=e.on\/uI ops e.on k):=by
 unfold uI;rw[Vo ho,MC];constructor
 .grind
 .rintro⟨e,a,b,d⟩;refine⟨e,a,b,?_⟩;rw[Rn (c i o ho e a b)];exact d
def OZ{ops:Array Oper}{i k:Nat}(h:uI ops i k):∃ o,ops[i]? = some o:=by
 cases ho:ops[i]? with
 |some o=>exact⟨o,rfl⟩
 |none =>
  exfalso;unfold uI at h;obtain⟨r,h1,h2,h3⟩:=vf ops.toList []
  grind
def LZ{ops:Array Oper}(a:gW ops):∀(i k:Nat),uI ops i k->k<i:=by
 intro i;induction i using Nat.strongRecOn with
 |ind i ih =>
  intro k h;obtain⟨o,ho⟩:=OZ h;obtain⟨e,b,c,h3⟩:=(zD a ho).1 h;have hb:=a i o ho e b c
  grind
def Fd{ops:Array Oper}(a:gW ops):∀(i k m:Nat),uI ops i k->uI ops k m->uI ops i m:=by
 intro i;induction i using Nat.strongRecOn with
 |ind i ih =>
  intro k m h hm;obtain⟨o,ho⟩:=OZ h;obtain⟨e,c,d,b⟩:=(zD a ho).1 h;refine(zD a ho).2 ⟨e,c,d,.inr ?_⟩;rcases b with rfl|b
  .exact hm
  .exact ih e.on (a i o ho e c d) k m b hm
def Bf:∀ {l:List Oper} {i k:Nat} {o:Oper},(k,o)∈gw l i↔i<=k/\l[k - i]? = some o
 |[],i,k,o=>by simp[gw]
 |x::l,i,k,o=>by
  simp only[gw,afS,aoz];rw[Bf (l:=l) (i:=i+1)]
  grind
def iO{ops:Array Oper}{k:Nat}{o:Oper}:(k,o)∈gw ops.toList 0↔ops[k]? = some o:=by rw[Bf];simp
structure pO(ops:Array Oper):Prop where
 back:gW ops
 guard:∀(i:Nat) (o:Oper) (g:Nat) (b:Bool),ops[i]? = some o->o.guard=some (g,b)->uI ops i g
 dst:∀(i j:Nat) (o q:Oper) (d:Tmp),ops[i]? = some o->ops[j]? = some q->i≠j->q.dst=some d->o.dst≠some d
 sees:∀(i j:Nat) (o q:Oper) (d:Tmp),ops[i]? = some o->ops[j]? = some q->i≠j->q.dst=some d->d∈sees o->uI ops i j\/uI ops j i
def KH{ops:Array Oper}(h:Nw (lm ops.toList []) (gw ops.toList 0)=true):pO ops:=by
 have key:∀ i o,ops[i]? = some o->_:=λi o ho=>anN.1 h (i,o) (iO.2 ho);refine⟨λi o ho e r hb=>?_,λi o g b ho s=>?_,λi j o q d ho c l p=>?_,λi j o q d ho c l p u=>?_⟩
 .have:=key i o ho;simp only[abk]at this;have a:=anN.1 this.1.1 e (by simpa using r);simp_all
 .have:=key i o ho;simp only[abk]at this;have a:=this.1.2;rw[s]at a;exact a
 .have:=key i o ho;simp only[abk]at this;have a:=anN.1 this.2 (j,q) (iO.2 c);simp_all
 .have:=key i o ho;simp only[abk]at this;have a:=anN.1 this.2 (j,q) (iO.2 c);have hb:Nat.beq i j=false:=by grind [Nat.eq_of_beq_eq_true]
  simp only[hb,p,aop,abk]at a;have m:=a.2;have hc:(sees o).contains d=true:=by simpa using u
  rw[hc]at m;simp only[age,aop,apC]at m;exact m
def jG(ops:Array Oper)(R:Nat->Prop):Prop:=∀ i k,R i->uI ops i k->R k
def with1(R:Nat->Prop)(i:Nat):Nat->Prop:=λk=>R k\/k=i
def jG.with1{ops:Array Oper}{R:Nat->Prop}(h:jG ops R){i:Nat}(hi:∀ k,uI ops i k->R k):jG ops (with1 R i):=by
 intro a k b hk;rcases b with b|rfl
 .exact .inl (h a k b hk)
 .exact .inl (hi k hk)
def JZ(t:T V)(d:Option Tmp)(v:V)(i:Nat):(putD t d v).get (fQ i)=if d=some i then some v else t.get (fQ i):=Wl t d (some v) i
end
section
mutual
theorem AE:∀ {x y:V},bw.sameV x y=true->x=y
 |.bool a,y,h=>by cases y<;>simp[bw.sameV]at h;rw[h]
 |.int j a,y,h=>by cases y<;>simp[bw.sameV]at h;rw[h.1,h.2]
 |.str a,y,h=>by cases y<;>simp[bw.sameV]at h;rw[h]
 |.ptr a,y,h=>by cases y<;>simp[bw.sameV]at h;rename_i b;obtain⟨⟨i,l⟩,o⟩:=h;cases a;cases b;simp_all
 |.nilptr,y,h=>by cases y<;>simp[bw.sameV]at h;rfl
 |.slice a z n c sz,y,h=>by cases y<;>simp[bw.sameV]at h;rename_i b y m d sy;cases a;cases b;simp_all
 |.nilslice,y,h=>by cases y<;>simp[bw.sameV]at h;rfl
 |.map a,y,h=>by cases y<;>simp[bw.sameV]at h;rw[h]
 |.nilmap,y,h=>by cases y<;>simp[bw.sameV]at h;rfl
 |.nilFunc,y,h=>by cases y<;>simp[bw.sameV]at h;rfl
 |.nilIface,y,h=>by cases y<;>simp[bw.sameV]at h;rfl
 |.func f a b,y,h=>by cases y<;>simp[bw.sameV]at h;rename_i g c d;obtain⟨⟨i,l⟩,o⟩:=h;rw[i,dg l,dg o]
 |.iface t v,y,h=>by cases y<;>simp[bw.sameV]at h;rw[h.1,AE h.2]
 |.agg a,y,h=>by cases y<;>simp[bw.sameV]at h;rw[dg h]
 |.atom a,y,h=>by cases y<;>simp[bw.sameV]at h;rw[h]
 |.tuple a,y,h=>by cases y<;>simp[bw.sameV]at h;rw[dg h]
theorem dg:∀ {x y:List V},bw x y=true->x=y
 |[],y,h=>by cases y<;>simp[bw]at h;rfl
 |v::x,y,h=>by
  cases y with
  |nil=>simp[bw]at h
  |cons u y =>simp only[bw,abk]at h;rw[AE h.1,dg h.2]
end
def tc{E:dX}{t:T V}{o:Oper}:∀ {l:List S} {v:V},ii E t o l=some v->∀ s∈l,∃ s1,ep E t s o=some (.val v s1)
 |[],v,h=>by cases h
 |[s],v,h=>λs' a=>by grind [ii]
 |s::s2::r,v,h=>λs' a=>by
  simp only[ii]at h;split at h
  .rename_i u s1 hu;split at h
   .rename_i y hy;cases hb:bw [u] [y]with
    |false=>rw[hb]at h;cases h
    |true =>
     rw[hb]at h;cases h;have:=dg hb;simp at this;subst this;rcases afS.1 a with rfl|a
     .grind
     .exact tc hy s' a
   .cases h
  .cases h
structure Ev where
 i:Nat
 o:Oper
 v:V
 t:T V
 a:S
 b:S
section
variable(E:dX)(rec:kV)(ops:Array Oper)(t0:T V)(s0:S)
def pP(o:Oper):Prop:=aT E.P o.op=3
def dc:List Ev->S
 |[]=>s0
 |e::_=>e.b
def Rk:List Ev->Prop
 |[]=>True
 |e::_=>pP E e.o
def yE(Y:List Ev)(t:T V):Prop:=∀ d,(∃ q∈Y,q.o.dst=some d/\t.get (fQ d)=some q.v)\/((∀ q∈Y,q.o.dst≠some d)/\t.get (fQ d)=t0.get (fQ d))
def afU(Y:List Ev)(e:Ev):Prop :=
 (aT E.P e.o.op=0/\e.b=e.a/\∃ s1,ep E e.t e.a e.o=some (.val e.v s1)) \/
 (aT E.P e.o.op=1/\e.b=e.a/\∀ Z F,Y=Z++F->Rk E F->(∀ q∈Z,pP E q.o->¬ uI ops e.i q.i)->∃ s1,ep E e.t (dc s0 F) e.o=some (.val e.v s1)) \/
 (aT E.P e.o.op=2/\ep E e.t e.a e.o=some (.val e.v e.b))
def XO(Y:List Ev)(e:Ev):Prop :=
 (¬ pP E e.o/\((cK ops e.t e.o=some false/\e.v=V.undef/\e.b=e.a)\/(cK ops e.t e.o=some true/\afU E ops s0 Y e))) \/
 (pP E e.o/\jf E rec e.t e.a e.o (cK ops e.t e.o)=some (e.v,e.b)/\e.a.next<=e.b.next/\∀ q∈Y,uI ops e.i q.i)
structure IJ(Y:List Ev)(e:Ev):Prop where
 op:ops[e.i]? = some e.o
 pre:∀ k,uI ops e.i k->∃ q∈Y,q.i=k
 new:∀ q∈Y,q.i≠e.i
 slots:yE t0 Y e.t
 st:e.a=dc s0 Y
 step:XO E rec ops s0 Y e
def gy:List Ev->Prop
 |[]=>True
 |e::Y=>IJ E rec ops t0 s0 Y e/\gy Y
def eN(n:Nat):List Ev->List (Nat×S)
 |[]=>[(n,s0)]
 |e::Y=>if aT E.P e.o.op=3 then(e.i,e.b)::eN n Y else eN n Y
end
section
variable{E:dX}{rec:kV}{ops:Array Oper}{t0:T V}{s0:S}
theorem yE.put{Y:List Ev}{t:T V}(h:yE t0 Y t)(e:Ev):yE t0 (e::Y) (putD t e.o.dst e.v):=by
 intro d;rw[JZ];by_cases a:e.o.dst=some d
 .grind
 .rw[ajD a];rcases h d with⟨q,b,c,h3⟩|⟨b,c⟩
  .grind
  grind
def BJ{m n:Nat}:∀ {Z F:List Ev},Rk E F->(∀ q∈Z,pP E q.o->¬ m.testBit q.i=true)->dc s0 F∈pi m (eN E s0 n (Z++F))
 |[],[],_,_=>by simp[eN,pi,dc]
 |[],e::F,h,_=>by have h:aT E.P e.o.op=3:=h;simp[eN,h,pi,dc]
 |z::Z,F,h,a=>by
  have ih:=BJ (n:=n) (Z:=Z) h (λq b=>a q (acl _ b));simp only[ajo,eN];split
  .rename_i hk;have:=a z (by simp) hk
   grind [pi]
  .exact ih
def HJ{ms:List Nat}(b:ms=lm ops.toList []){Y:List Ev}{t:T V}{s:S}{i n:Nat}{o:Oper}{v:V}{s':S}(hk:¬ pP E o)
 (hs:s=dc s0 Y) (e:kg E (eN E s0 n Y) (ms.getD i 0) t s o (cK ops t o)=some (v,s')):XO E rec ops s0 Y ⟨i,o,v,t,s,s'⟩:=by
 left;refine⟨hk,?_⟩;unfold kg at e;split at e
 .rename_i c;right;refine⟨c,?_⟩;unfold HK at e;split at e
  .rename_i d;left;unfold zj at e;split at e
   .rename_i u s1 a;cases e;exact⟨d,rfl,s1,a⟩
   .cases e
  .rename_i g;right;left;unfold sZ at e;split at e
   .rename_i u a;cases e;refine⟨g,rfl,λZ F l m p=>?_⟩;subst l;refine tc a _ (BJ m λq r x hb=>p q r x ?_);subst b;exact hb
   .cases e
  .rename_i j;right;right;unfold zl at e;split at e
   .rename_i u s1 a;cases e;exact⟨j,a⟩
   .cases e
  .cases e
 .rename_i c;cases e;exact .inl ⟨c,rfl,rfl⟩
 .cases e
def km(d i k:Nat):(Nat.lor d (Nat.pow 2 i)).testBit k=(d.testBit k||decide (i=k)):=by simp_all[Nat.testBit_two_pow]
def IK(done:Nat)(Y:List Ev):Prop:=∀ k,done.testBit k=true↔∃ q∈Y,q.i=k
def IK.cons{done:Nat}{Y:List Ev}(h:IK done Y)(e:Ev):IK (Nat.lor done (Nat.pow 2 e.i)) (e::Y):=by
 intro k;rw[km,apC,h k]
 grind
structure St(E:dX)(rec:kV)(ops:Array Oper)(t0:T V)(s0:S)(Y:List Ev)(done:Nat)(t:T V)(s:S):Prop where
 run:gy E rec ops t0 s0 Y
 done:IK done Y
 slots:yE t0 Y t
 st:s=dc s0 Y
theorem qQ{n:Nat}:∀ {Z Y:List Ev},(∀ q∈Z,¬ pP E q.o)->eN E s0 n (Z++Y)=eN E s0 n Y
 |[],_,_=>rfl
 |z::Z,Y,h=>by have hz:¬ aT E.P z.o.op=3:=h z (by simp);simp_all[eN,qQ,acl]
def tg(p:gW ops){ms:List Nat}(b:ms=lm ops.toList []){effs:Nat}(heffs:∀ i o,ops[i]? = some o->pP E o->effs.testBit i=true){m n:Nat}(hm:∀ i k,m.testBit i=true->uI ops i k->m.testBit k=true){Y0:List Ev} :
 ∀(l:List Oper) (i:Nat),ops.toList.drop i=l->∀(Y:List Ev) (done:Nat) (t:T V) (s:S),St E rec ops t0 s0 Y done t s->eN E s0 n Y=eN E s0 n Y0->(∀ k,k<i->m.testBit k=true->done.testBit k=true) ->
  ∀ done' t' s',ei E ops ms effs (eN E s0 n Y0) m (gw l i) done t s=some (done',t',s') ->
   ∃ Z,St E rec ops t0 s0 (Z++Y) done' t' s'/\(∀ q∈Z,¬ pP E q.o/\m.testBit q.i=true)/\∀ k,k<ops.size->m.testBit k=true->done'.testBit k=true
 |[],i,hl,Y,done,t,s,a,r,j,done',t',s',e=>by
  simp only[gw,ei,acf,aoz]at e;obtain⟨rfl,rfl,rfl⟩:=e;refine⟨[],a,by simp,λk hk hb=>j k ?_ hb⟩;have:=List.drop_eq_nil_iff.1 hl
  grind
 |o::l,i,hl,Y,done,t,s,a,r,j,done',t',s',e=>by
  have ho:ops[i]? = some o:=by
   have:(ops.toList.drop i)[0]? = some o:=by rw[hl];rfl
   grind
  have c:ops.toList.drop (i+1)=l:=by grind [List.tail_drop]
  simp only[gw,ei]at e;cases hb:(!(m.testBit i)||done.testBit i)with
  |true =>
   rw[hb]at e;simp only[ge]at e;refine tg p b heffs hm l (i+1) c Y done t s a r (λk hk d=>?_) done' t' s' e
   grind
  |false =>
   rw[hb]at e;simp only[Xi]at e;simp only[aow,Bool.not_eq_false']at hb;cases u:effs.testBit i with
   |true=>rw[u]at e;cases e
   |false =>
    rw[u]at e;simp only[Xi]at e;have hk:¬ pP E o:=λh=>by have:=heffs i o ho h;rw[u]at this;cases this
    split at e
    .rename_i v s1 g;rw[cO]at e;have x:IJ E rec ops t0 s0 Y ⟨i,o,v,t,s,s1⟩:=by
      refine⟨ho,λk hk=>(a.done k).1 (j k (LZ p i k hk) (hm i k hb.1 hk)),λq G y=>?_,a.slots,a.st,?_⟩
      .have:=(a.done i).2 ⟨q,G,y⟩
       grind
      .rw[<- r]at g;exact HJ b hk a.st g
     have z:St E rec ops t0 s0 (⟨i,o,v,t,s,s1⟩::Y) (Nat.lor done (Nat.pow 2 i)) (putD t o.dst v) s1:=⟨⟨x,a.run⟩,a.done.cons ⟨i,o,v,t,s,s1⟩,a.slots.put ⟨i,o,v,t,s,s1⟩,rfl⟩;have hhist:eN E s0 n (⟨i,o,v,t,s,s1⟩::Y)=eN E s0 n Y0:=by
      have A:¬ aT E.P o.op=3:=hk
      grind [eN]
     obtain⟨Z,H,h2,I⟩:=tg p b heffs hm l (i+1) c _ _ _ _ z hhist (λk A d=>by
      rw[km];by_cases B:i=k
      .simp[B]
      .rw[j k (by omega) d];rfl) done' t' s' e
     refine⟨Z++[⟨i,o,v,t,s,s1⟩],by simpa using H,λq G=>?_,I⟩
     grind
    .cases e
def afW(ops:Array Oper):List Ev->Prop
 |[]=>True
 |e::Y=>∀ q∈Y,uI ops e.i q.i
theorem gy.at:∀ {X:List Ev} {e:Ev} {Y:List Ev},gy E rec ops t0 s0 (X++e::Y)->IJ E rec ops t0 s0 Y e/\gy E rec ops t0 s0 Y
 |[],_,_,h=>h
 |_::_,_,_,h=>gy.at h.2
def Qn(l:gW ops){ms:List Nat}(b:ms=lm ops.toList []){effs n:Nat}(heffs:∀ i o,ops[i]? = some o->pP E o->effs.testBit i=true){ds:List ft}{up:Option Md} :
 ∀(es:List (Nat×Oper)),(∀ x∈es,ops[x.1]? = some x.2/\pP E x.2)->Gd ms (es.map (·.1))=true->∀(Y:List Ev) (done:Nat) (t:T V) (s:S),St E rec ops t0 s0 Y done t s->Rk E Y->afW ops Y ->
  (∀ e Y' x r,Y=e::Y'->es=x::r->uI ops x.1 e.i)->∀ r,ig E ops ms effs (gw ops.toList 0) rec ds up es (eN E s0 n Y) done t s=some r ->
   (∃ L t' s',r=.on t' ds up s'/\gy E rec ops t0 s0 L/\yE t0 L t'/\s'=dc s0 L/\∀ k,k<ops.size->∃ q∈L,q.i=k)
 |[],p,u,Y,done,t,s,z,K,hB,H,r,e=>by
  simp only[ig]at e;split at e
  .rename_i I y s1 hp;cases e;have hbits:∀ k,(Nat.pow 2 ops.size - 1).testBit k=decide (k<ops.size):=λk=>by simp_all
   obtain⟨Z,c,M,A⟩:=tg l b heffs (m:=Nat.pow 2 ops.size - 1) (n:=n) (λi k hi hk=>by rw[hbits]at hi ⊢;have:=LZ l i k hk;simp at hi ⊢;omega) ops.toList 0 rfl Y done t s z rfl (λk hk=>absurd hk (Nat.not_lt_zero _)) _ _ _ hp
   refine⟨_,y,s1,rfl,c.run,c.slots,c.st,λk hk=>(c.done k).1 (A k hk ?_)⟩
   grind
  .cases e
 |(i,o)::B,p,u,Y,done,t,s,z,K,hB,H,r,e=>by
  simp only[ig]at e;obtain⟨ho,hk⟩:=p (i,o) (by simp);simp only at ho hk;have d:∀ k,(ms.getD i 0).testBit k=true↔uI ops i k:=λk=>by subst b;rfl
  split at e
  .rename_i I y s1 hp
   obtain⟨Z,c,M,A⟩:=tg l b heffs (m:=ms.getD i 0) (n:=n) (λa k J hk=>by rw[d]at J ⊢;exact Fd l i a k J hk) ops.toList 0 rfl Y done t s z rfl (λk hk=>absurd hk (Nat.not_lt_zero _)) _ _ _ hp
   have g:∀ q∈Z++Y,uI ops i q.i:=by
    intro q j;rcases ajK.1 j with j|j
    .grind
    .cases Y with
     |nil=>cases j
     |cons e0 Y' =>
      have h0:=H e0 Y' (i,o) B rfl rfl;rcases afS.1 j with rfl|j
      .exact h0
      .exact Fd l i e0.i q.i h0 (hB q j)
   have hisz:i<ops.size:=by grind
   split at e
   .rename_i v s2 hst;cases hc:(Nat.ble s1.next s2.next&&!(I.testBit i)&&effs.testBit i)with
    |false=>rw[hc]at e;cases e
    |true =>
     rw[hc]at e;simp only[ge]at e;rw[cO]at e;simp only[abk,aoe]at hc;have G:IJ E rec ops t0 s0 (Z++Y) ⟨i,o,v,y,s1,s2⟩:=by
      refine⟨ho,λk hk=>(c.done k).1 (A k ?_ ((d k).2 hk)),λq j hqi=>?_,c.slots,c.st,.inr ⟨hk,hst,act hc.1.1,g⟩⟩
      .have:=LZ l i k hk
       grind
      grind
     have hhist:eN E s0 n (⟨i,o,v,y,s1,s2⟩::(Z++Y))=(i,s2)::eN E s0 n Y:=by
      have hk':aT E.P o.op=3:=hk
      grind [eN,qQ]
     rw[<- hhist]at e;refine Qn l b heffs B (λx N=>p x (acl _ N)) ?_ (⟨i,o,v,y,s1,s2⟩::(Z++Y)) _ _ _ ⟨⟨G,c.run⟩,c.done.cons ⟨i,o,v,y,s1,s2⟩,c.slots.put ⟨i,o,v,y,s1,s2⟩,rfl⟩ hk g ?_ r e
     .cases B with
      |nil=>rfl
      |cons x r'' =>simp_all[Gd]
     .intro e1 Y1 x r1 O hr;cases O;subst hr;simp only[ads,Gd,abk]at u;have:=u.1;subst b;exact this
   .cases e
  .cases e
def BR(k:Nat):∀(es:List (Nat×Oper)) (s:Nat),(es.foldl (λs x=>Nat.lor s (Nat.pow 2 x.1)) s).testBit k=true↔s.testBit k=true\/∃ x∈es,x.1=k
 |[],s=>by simp
 |x::es,s=>by
  rw[apD,BR k es,km]
  grind
def HY{t:T V}{ds:List ft}{up:Option Md}{s:S}{recR:EB}{r:ol}(e:jh E ops rec recR t ds up s=some r) :
 pO ops/\∃ L t' s',r=.on t' ds up s'/\gy E rec ops t s L/\yE t L t'/\s'=dc s L/\∀ k,k<ops.size->∃ q∈L,q.i=k:=by
 unfold jh at e;split at e
 .rename_i ms l es mask hp;simp only[UL]at hp;cases hc:(Nw (lm ops.toList []) (gw ops.toList 0)&&Gd (lm ops.toList []) ((ue E.P (gw ops.toList 0)).map (·.1)))with
  |false=>rw[hc]at hp;cases hp
  |true =>
   rw[hc]at hp;simp only[ge,acf,ajx.mk.injEq]at hp;obtain⟨rfl,rfl,rfl,rfl⟩:=hp;simp only[abk]at hc;have hD:=KH hc.1;refine⟨hD,?_⟩;refine Qn (n:=ops.size) hD.back rfl (λi o ho hk=>?_) _ (λx a=>?_) hc.2 [] 0 t s ⟨trivial,λk=>by simp,λd=>.inr ⟨by simp,rfl⟩,rfl⟩ trivial trivial (λe Y' x r h=>by cases h) r e
   .rw[BR];refine .inr ⟨(i,o),?_,rfl⟩;unfold ue;rw[aoL];have hk:aT E.P o.op=3:=hk;exact⟨iO.2 ho,by simp[hk]⟩
   .unfold ue at a;rw[aoL]at a;obtain⟨x1,x2⟩:=x;exact⟨iO.1 a.1,by have h:=a.2;simp at h;exact h⟩
 .cases e
end
end
section
def aS.to(ρ:aS)(n:Nat):aS:=λf v=>if f<n then ρ f v else none
def aS.to_le(ρ:aS){n m:Nat}(h:n<=m):(ρ.to n).le (ρ.to m):=λf v l e=>by grind [aS.to]
def aS.to_le_self(ρ:aS)(n:Nat):(ρ.to n).le ρ:=λf v l e=>by grind [aS.to]
def aS.to_mono{ρ ρ':aS}(h:ρ.le ρ')(n:Nat):(ρ.to n).le (ρ'.to n):=λf v l e=>by
 unfold aS.to at e ⊢;split at e
 .rename_i a;rw[akJ a];exact h _ _ _ e
 .cases e
def aS.to_lt{ρ:aS}{n f v:Nat}{l:DT}(e:ρ.to n f v=some l):f<n/\ρ f v=some l:=by grind [aS.to]
theorem aS.to_of{ρ:aS}{n f v:Nat}(h:f<n):ρ.to n f v=ρ f v:=by unfold aS.to;rw[akJ h]
theorem aS.to_ge{ρ:aS}{n f v:Nat}(h:n<=f):ρ.to n f v=none:=by unfold aS.to;rw[ajD (by omega)]
def aS.to_all{ρ:aS}{n:Nat}(h:∀ f v,n<=f->ρ f v=none):ρ.to n=ρ:=by grind [aS.to_of,aS.to_ge]
def HR.frame{ρ:aS}{s:S}{w w':World}(h:HR ρ s w)(a:w.heap.size<=w'.heap.size)(c:∀ b,b<w.heap.size->w'.heap[b]? = w.heap[b]?):HR ρ s w' :=
 ⟨h.fresh,h.inj,λf v l e=>ajN (h.low f v l e) a,λf B hB=>(h.blk f B hB).keep ρ.le_refl (λ_ d=>d) (λv l e=>c _ (h.low _ _ _ e)),h.dom,h.rw⟩
def Inj(ρ:aS):Prop:=∀ f v l f' v' l',ρ f v=some l->ρ f' v'=some l'->l.b=l'.b->f=f'/\l.base=l'.base
def Low(ρ:aS)(w:World):Prop:=∀ f v l,ρ f v=some l->l.b<w.heap.size
def HR.widen{ρ:aS}{s:S}{w:World}{n:Nat}(h:HR (ρ.to s.next) s w)(hi:Inj ρ)(hl:Low ρ w)(c:s.next<=n):HR (ρ.to n) ⟨s.h,n⟩ w:=by
 refine⟨λf v d=>aS.to_ge d,λf v l f' v' l' e g=>hi _ _ _ _ _ _ (aS.to_lt e).2 (aS.to_lt g).2,λf v l e=>hl _ _ _ (aS.to_lt e).2,λf B hB=>?_,λf B hB=>ajN (h.dom f B (by rw[S.get_eq]at hB ⊢;exact hB)) c,λf B hB b v l hl=>?_⟩
 rotate_left
 .have a:s.get f=some B:=by rw[S.get_eq]at hB ⊢;exact hB
  exact h.rw f B a b v l (by rw[aS.to_of (h.dom f B a)];exact(aS.to_lt hl).2)
 have a:s.get f=some B:=by rw[S.get_eq]at hB ⊢;exact hB
 have d:=h.dom f B a;refine(h.blk f B a).keep (aS.to_le ρ c) (λv hv=>?_) (λ_ _ _=>rfl)
 grind [aS.to_of]
def HR.bare{ρ:aS}{w:World}{n:Nat}(hi:Inj ρ)(hl:Low ρ w):HR (ρ.to n) ⟨.leaf,n⟩ w :=
 ⟨λf v a=>aS.to_ge a,λf v l f' v' l' e b=>hi _ _ _ _ _ _ (aS.to_lt e).2 (aS.to_lt b).2,λf v l e=>hl _ _ _ (aS.to_lt e).2,λf B hB=>by(rw[S.get_eq,T.get_leaf]at hB;cases hB),λf B hB=>by(rw[S.get_eq,T.get_leaf]at hB;cases hB),λf B hB=>by(rw[S.get_eq,T.get_leaf]at hB;cases hB)⟩
def cS{s s':S}{x:Option V}{v:V}{s1:S}(e:bS s x=some (.val v s1)):bS s' x=some (.val v s'):=by
 cases x with
 |none=>cases e
 |some u=>cases e;rfl
def Sq{E:dX}{t:T V}{s:S}(s':S)(o:Oper)(hk:aT E.P o.op=0){v:V}{s1:S}(e:ep E t s o=some (.val v s1)):ep E t s' o=some (.val v s'):=by
 obtain⟨dst,op,type,pos,after,guard⟩:=o;unfold ep at e ⊢;simp only at e hk ⊢;cases op<;>simp only[dF]at e ⊢<;>try(cases e;done)
 case move x=>exact cS e
 case assign x=>exact cS e
 case pick c a b =>
  unfold nI at e ⊢;split at e
  .exact cS e
  .cases e
 case build ty parts=>exact cS e
 case nilCheck x=>exact cS e
 case binOp op ty x y z =>
  have hq:vE op=false:=by grind [aT]
  unfold gC at e ⊢;cases g:eval t x with
  |none=>rw[g]at e;cases e
  |some a =>
   cases hy:eval t y with
   |none=>rw[g,hy]at e;cases e
   |some b =>
    rw[g,hy]at e;simp only at e ⊢;cases m:iq E.P op ty x y a b with
    |false=>rw[m]at e;cases e
    |true =>
     rw[m]at e;simp only[ge]at e ⊢;have:∀ ok ok',gx E.P ok op ty a b=gx E.P ok' op ty a b:=by
      intro ok ok';unfold gx
      grind [vE]
     rw[this (bX s') (bX s)];exact cS e
 case unOp op ty x=>exact cS e
 case convert j dst x =>
  unfold iz at e ⊢;split at e
  .rename_i p hx';unfold jx at e ⊢;unfold kM at e ⊢;cases l:E.P.underlying j with
   |none=>simp[l]at e
   |some ds =>
    cases d:E.P.underlying dst with
    |none=>simp[l,d]at e
    |some dd =>
     simp only[l,d]at e ⊢;cases dd<;>simp only at e ⊢<;>try(cases e;done)
     case int k=>cases p<;>simp only at e ⊢<;>first|(cases e;done)|(cases e;rfl)
     case string=>simp[aT,d]at hk
     case slice el=>simp[aT,d]at hk
  .cases e
 case makeInterface ty x=>exact cS e
 case makeFunc fn first cap=>exact cS e
 case slice ty x lo hi mx=>exact cS e
 case fieldAddr ty x f=>exact cS e
 case field ty x f=>exact cS e
 case indexAddr ty x i=>exact cS e
 case index ty x i=>exact cS e
 case typeAssert x xt ty ok=>exact cS e
 case extract x i=>exact cS e
 case call c =>simp only[aT]at hk;split at hk<;>cases hk
 all_goals (first|(simp[aT]at hk;done)|(exfalso;revert hk;simp[aT]))
def only(t:T V):List Tmp->T V
 |[]=>.leaf
 |d::r=>(only t r).set (t.get (fQ d)) (fQ d)
theorem tq(t:T V):∀(l:List Tmp) (d:Tmp),(only t l).get (fQ d)=if d∈l then t.get (fQ d)else none
 |[],d=>by simp[only,T.get_leaf]
 |x::r,d=>by
  simp only[only];rw[T.get_setN,tq t r d]
  grind
def vI(ops:Array Oper)(o:Oper):List Tmp:=match o.guard with
 |some (j,_)=>((ops[j]?).bind (·.dst)).toList
 |none=>[]
def looks(ops:Array Oper)(o:Oper):List Tmp:=sees o++vI ops o
def RB{t:T V}{ops:Array Oper}{o:Oper}{x:Operand}(a:x∈o.op.operands):eval t x=eval (only t (looks ops o)) x:=by
 cases x with
 |tmp d =>simp only[eval];rw[tq,akJ];unfold looks sees;refine ajK.2 (.inl ?_);rw[List.mem_filterMap];exact⟨.tmp d,by simpa using a,rfl⟩
 |const v=>rfl
 |global g=>rfl
 |func f=>rfl
def pW{E:dX}{ops:Array Oper}{t:T V}{s:S}{o:Oper}:ep E (only t (looks ops o)) s o=ep E t s o :=
 (Nn o λ_ a=>RB a).symm
theorem wm{ops:Array Oper}{t:T V}{o:Oper}:cK ops (only t (looks ops o)) o=cK ops t o:=by grind [cK,tq,looks,vI]
def Dv{α:Type}{c:Bool}{x:Option α}{y:α}(h:(bif c then x else none)=some y):x=some y:=by cases c<;>first|(cases h;done)|exact h
theorem Np{E:dX}{t:T V}{s:S}(o:Oper)(hk:aT E.P o.op=2){v:V}{s1:S}(e:ep E t s o=some (.val v s1)):∃ B,s1=s.alloc B:=by
 obtain⟨dst,op,type,pos,after,guard⟩:=o;unfold ep at e;simp only at e hk;cases op<;>simp only[dF]at e<;>try(cases e;done)
 case alloc elem =>
  unfold jU qM bE bD at e;split at e
  .cases e;exact⟨_,rfl⟩
  .cases e
 case box elem x =>
  unfold uk qM bE bD at e;split at e
  .cases e;exact⟨_,rfl⟩
  .cases e
 case buildSlice ty len parts =>
  unfold cP at e;split at e
  .split at e
   .split at e
    .split at e
     .have e:=Dv e;unfold me bE bD at e;split at e
      .cases e;exact⟨_,rfl⟩
      .cases e
     .cases e
    .cases e
   .cases e
  .cases e
 case makeMap ty r =>
  cases r with
  |none=>cases e;exact⟨_,rfl⟩
  |some _=>cases e
 case makeSlice ty l c =>
  unfold eR bE bD at e;split at e
  .split at e
   .split at e
    .split at e
     .split at e
      .have e:=Dv e;cases e;exact⟨_,rfl⟩
      .cases e
     .cases e
    .cases e
   .cases e
  .cases e
 case convert a dst x =>
  unfold iz jx kM at e;split at e
  .rename_i j hx';cases b:E.P.underlying dst with
   |none=>simp[aT,b]at hk
   |some d =>
    cases d<;>simp[aT,b]at hk;cases i:E.P.underlying a with
    |none=>simp[i]at e
    |some ds =>
     simp only[i,b]at e;cases j<;>simp only[pQ]at e<;>try(cases e;done)
     cases ds<;>simp only[bD]at e<;>try(cases e;done)
     split at e
     .rename_i g;have g:=Dv g;cases g;cases e;exact⟨_,rfl⟩
     .cases e
  .cases e
 case binOp op ty x y z=>simp only[aT]at hk;cases hb:vE op<;>simp[hb]at hk
 case call c=>simp only[aT]at hk;split at hk<;>simp at hk
 all_goals simp[aT]at hk
section
variable{E:dX}{rec:kV}{ops:Array Oper}{t0:T V}{s0:S}
def IJ.next_le{Y:List Ev}{e:Ev}(h:IJ E rec ops t0 s0 Y e):e.a.next<=e.b.next:=by
 rcases h.step with⟨_,⟨_,_,hb⟩|⟨_,⟨_,hb,_⟩|⟨_,hb,_⟩|⟨hk,hb⟩⟩⟩|⟨_,_,hb,_⟩
 .grind
 .grind
 .grind
 .grind [Np,S.next_alloc]
 .exact hb
def gy.next_le:∀ {X Y:List Ev},gy E rec ops t0 s0 (X++Y)->(dc s0 Y).next<=(dc s0 (X++Y)).next
 |[],_,_=>abH _
 |e::X,Y,h=>by refine akG (gy.next_le h.2) ?_;have:=h.1.next_le;rw[h.1.st]at this;exact this
def gy.suf:∀ {X Y:List Ev},gy E rec ops t0 s0 (X++Y)->gy E rec ops t0 s0 Y
 |[],_,h=>h
 |_::X,_,h=>gy.suf (X:=X) h.2
def gy.before{Y:List Ev}{e:Ev}(h:IJ E rec ops t0 s0 Y e)(c:gy E rec ops t0 s0 Y){q:Ev}(d:q∈Y):q.b.next<=e.a.next:=by obtain⟨Y1,Y2,rfl⟩:=apb d;rw[h.st];exact gy.next_le (Y:=q::Y2) c
def gy.start{Y:List Ev}{e:Ev}(h:IJ E rec ops t0 s0 Y e)(c:gy E rec ops t0 s0 Y):s0.next<=e.a.next:=by
 rw[h.st];have d:gy E rec ops t0 s0 (Y++[]):=by simpa using c
 have b:=gy.next_le d;rw[ajH]at b;exact b
def gy.ok{L:List Ev}(h:gy E rec ops t0 s0 L){e:Ev}(a:e∈L):∃ X Y,L=X++e::Y/\IJ E rec ops t0 s0 Y e/\gy E rec ops t0 s0 Y:=by
 obtain⟨X,Y,rfl⟩:=apb a
 grind [gy.at]
def gy.uniq{L:List Ev}(h:gy E rec ops t0 s0 L){a b:Ev}(g:a∈L)(hb:b∈L)(hi:a.i=b.i):a=b:=by
 induction L with
 |nil=>cases g
 |cons e Y ih =>
  rcases afS.1 g with rfl|d
  .rcases afS.1 hb with rfl|c
   .rfl
   .exact absurd hi.symm (h.1.new b c)
  .rcases afS.1 hb with rfl|c
   .exact absurd hi (h.1.new a d)
   .exact ih h.2 d c
structure ED(E:dX)(t0:T V)(s0:S)(ρ0:aS)(w0:World)(X F:List Ev)(R:Nat->Prop)(ρ:aS)(w:World)(tm:Array Value):Prop where
 front:Rk E F
 inF:∀ e∈F,R e.i
 noE:∀ e∈X,R e.i->¬ pP E e.o
 vals:∀ e∈X++F,R e.i->∃ y,den (ρ.to e.b.next) e.v=some y/\∀ d,e.o.dst=some d->tm[d]? = some y
 olds:∀ d x,t0.get (fQ d)=some x->(∀ e∈X++F,R e.i->e.o.dst≠some d)->∃ y,den (ρ.to s0.next) x=some y/\tm[d]? = some y
 blks:∀ e∈X,R e.i->e.b=e.a\/∃ B,e.b=e.a.alloc B/\DP (ρ.to e.b.next) w e.a.next B/\∀ v l,ρ e.a.next v=some l->¬ l.ro
 hr:HR (ρ.to (dc s0 F).next) (dc s0 F) w
 inj:Inj ρ
 low:Low ρ w
 fresh:∀ f v,ρ f v≠none->f<(dc s0 F).next\/∃ e∈X,R e.i/\f=e.a.next/\f<e.b.next
 fr:FR ρ0 w0 ρ w
def ED.reg{ρ0:aS}{w0:World}{X F:List Ev}{R:Nat->Prop}{ρ:aS}{w:World}{tm:Array Value}(h:ED E t0 s0 ρ0 w0 X F R ρ w tm) :
 ∀ {X1 Z:List Ev},X=X1++Z->gy E rec ops t0 s0 (Z++F)->(∀ e∈Z,R e.i)->HR (ρ.to (dc s0 (Z++F)).next) (dc s0 (Z++F)) w
 |_,[],_,_,_=>h.hr
 |X1,e::Z,p,r,d=>by
  have ih:=ED.reg h (X1:=X1++[e]) (Z:=Z) (by simpa using p) r.2 λq u=>d q (acl _ u);have hst:e.a=dc s0 (Z++F):=r.1.st;rw[<- hst]at ih;show HR (ρ.to e.b.next) e.b w;rcases h.blks e (by rw[p];simp) (d e (by simp))with hb|⟨B,hb,hB,g⟩
  .grind
  .rw[hb]at hB ⊢;rw[S.next_alloc]at hB ⊢;refine⟨λf v j=>aS.to_ge (by rw[S.next_alloc]at j;exact j),λf v l f' v' l' m x=>h.inj _ _ _ _ _ _ (aS.to_lt m).2 (aS.to_lt x).2,λf v l m=>h.low _ _ _ (aS.to_lt m).2,λf B' c=>?_,λf B' c=>?_,λf B' c o v l hl=>?_⟩
   .rw[S.get_alloc]at c;split at c
    .grind
    .rename_i s;have j:=ih.dom f B' c;refine(ih.blk f B' c).keep (aS.to_le ρ (Nat.le_succ _)) (λv hv=>?_) (λ_ _ _=>rfl)
     grind [aS.to_of]
   .rw[S.get_alloc]at c;rw[S.next_alloc];split at c
    .omega
    .have:=ih.dom f B' c;omega
   .rw[S.get_alloc]at c;split at c
    .rename_i s;subst s;exact g v l (aS.to_lt hl).2
    .exact ih.rw f B' c o v l (by rw[aS.to_of (ih.dom f B' c)];exact(aS.to_lt hl).2)
def ED.env{ρ0:aS}{w0:World}{X1 X2 F:List Ev}{e:Ev}{R:Nat->Prop}{ρ:aS}{w:World}{tm:Array Value}(hD:pO ops)(h:ED E t0 s0 ρ0 w0 (X1++e::X2) F R ρ w tm)
 (M:gy E rec ops t0 s0 (X1++e::(X2++F))) (W:¬ R e.i) (N:jG ops R) (I:∀ k,uI ops e.i k->R k):TR (ρ.to e.a.next) (only e.t (looks ops e.o)) tm:=by
 obtain⟨c,v⟩:=gy.at M;have X:X1++e::X2++F=X1++e::(X2++F):=by simp
 intro d x A;rw[tq]at A;split at A
 .rename_i r;have s:∀ q oq,ops[q]? = some oq->oq.dst=some d->q≠e.i->uI ops e.i q\/uI ops q e.i:=by
   intro q oq G l j;rcases ajK.1 r with r|r
   .exact hD.sees e.i q e.o oq d c.op G (λh=>j h.symm) l r
   .unfold vI at r;split at r
    .rename_i g b Y;have m:((ops[g]?).bind (·.dst))=some d:=by simpa using r
     cases B:ops[g]? with
     |none=>rw[B]at m;cases m
     |some og =>
      rw[B]at m;by_cases J:g=q
      .subst J;exact .inl (hD.guard e.i e.o g b c.op Y)
      .exact absurd m (hD.dst g q og oq d B G J l)
    .simp at r
  rcases c.slots d with⟨q,H,K,Z⟩|⟨H,K⟩
  .rw[Z]at A;cases A;obtain⟨Ya,Yb,hY,u,_⟩:=gy.ok v H;have j:q.i≠e.i:=c.new q H;rcases s q.i q.o u.op K j with p|p
   .obtain⟨y,O,Q⟩:=h.vals q (by rw[X];simp;right;right;simpa using H) (I _ p);exact⟨y,cr (aS.to_le ρ (gy.before c v H)) _ _ O,Q d K⟩
   .obtain⟨z,L,U⟩:=u.pre e.i p;exact absurd U (c.new z (by rw[hY];simp;right;right;exact L))
  .rw[K]at A
   obtain⟨y,O,Q⟩:=h.olds d x A (λq G hr l=>by
    rw[X]at G;obtain⟨_,Y',_,k1,_⟩:=gy.ok M G;by_cases j:q.i=e.i
    .rw[j]at hr;exact W hr
    .rcases s q.i q.o k1.op l j with p|p
     .obtain⟨z,L,U⟩:=c.pre _ p;have hz:z=q:=gy.uniq M (by simp;right;right;simpa using L) G U;subst hz;exact H z L l
     .exact W (N q.i e.i hr p))
   exact⟨y,cr (aS.to_le ρ (gy.start c v)) _ _ O,Q⟩
 .cases A
end
section
variable{E:dX}{rec:kV}{ops:Array Oper}{t0:T V}{s0:S}{ρ0:aS}{w0:World}
def Fb{tm:Array Value}{o:Option Tmp}{y:Value}{d:Tmp}(h:o=some d)(hd:d<tm.size):(gX tm o y)[d]? = some y:=by grind [gX]
def mY{tm:Array Value}{o:Option Tmp}{y:Value}{d:Tmp}(h:o≠some d):(gX tm o y)[d]? = tm[d]?:=by
 cases o with
 |none=>rfl
 |some i =>unfold gX;exact aoX (λe=>h (by rw[e]))
section
variable{X1 X2 F:List Ev}{e:Ev}{R:Nat->Prop}{ρ:aS}{w:World}{tm:Array Value}
def pY{q:Ev}:q∈X1++e::X2++F↔q∈X1++e::(X2++F):=by simp
def Ge(hD:pO ops)(a:gy E rec ops t0 s0 (X1++e::(X2++F))){q:Ev}(b:q∈X1++e::(X2++F))(hi:q.i≠e.i){d:Tmp}(c:q.o.dst=some d):e.o.dst≠some d:=by obtain⟨_,_,_,g,_⟩:=gy.ok a b;have j:=(gy.at a).1;exact hD.dst e.i q.i e.o q.o d j.op g.op (λh=>hi h.symm) c
def after(c:gy E rec ops t0 s0 (X1++e::(X2++F))){q:Ev}(d:q∈X1):e.b.next<=q.a.next:=by
 obtain⟨Xa,Xb,rfl⟩:=apb d;have g:gy E rec ops t0 s0 (Xa++q::(Xb++e::(X2++F))):=by simpa using c
 obtain⟨i,j⟩:=gy.at g;exact gy.before i j (by simp)
def ED.step(hD:pO ops)(h:ED E t0 s0 ρ0 w0 (X1++e::X2) F R ρ w tm)(G:gy E rec ops t0 s0 (X1++e::(X2++F)))(hk:¬ pP E e.o)(hn:¬ R e.i){ρ':aS}{w':World}{y:Value}
 (p:ρ.le ρ') (hkeep:∀ f v,ρ' f v≠none->ρ f v≠none\/(f=e.a.next/\f<e.b.next)) (hsame:∀ f v,f≠e.a.next->ρ' f v=ρ f v)
 (H:∀ b,b<w.heap.size->w'.heap[b]? = w.heap[b]?) (I:Inj ρ') (J:Low ρ' w') (K:FR ρ w ρ' w')
 (s:den (ρ'.to e.b.next) e.v=some y) (hb:e.b=e.a\/∃ B,e.b=e.a.alloc B/\DP (ρ'.to e.b.next) w' e.a.next B/\∀ v l,ρ' e.a.next v=some l->¬ l.ro) (L:∀ d,e.o.dst=some d->d<tm.size) :
 ED E t0 s0 ρ0 w0 (X1++e::X2) F (with1 R e.i) ρ' w' (gX tm e.o.dst y):=by
 obtain⟨u,A⟩:=gy.at G;have hNF:(dc s0 F).next<=e.a.next:=by rw[u.st];exact gy.next_le A
 have uniq:∀ q,q∈X1++e::(X2++F)->q.i=e.i->q=e:=λq g hi=>gy.uniq G g (by simp) hi;refine⟨h.front,λq g=>.inl (h.inF q g),λq g hr=>?_,λq g hr=>?_,λd x hx M=>?_,λq g hr=>?_,?_,I,J,λf v N=>?_,h.fr.trans K⟩
 .rcases hr with hr|hr
  .exact h.noE q g hr
  .have:=uniq q (by rw[<- pY];exact aoa _ g) hr;subst this;exact hk
 .by_cases hi:q.i=e.i
  .have:=uniq q (pY.1 g) hi;subst this;exact⟨y,s,λd O=>Fb O (L d O)⟩
  .have hr:R q.i:=hr.resolve_right hi;obtain⟨z,U,W⟩:=h.vals q g hr;exact⟨z,cr (aS.to_mono p _) _ _ U,λd O=>by rw[mY (Ge hD G (pY.1 g) hi O)];exact W d O⟩
 .obtain⟨z,U,W⟩:=h.olds d x hx λq g hr=>M q g (.inl hr);refine⟨z,cr (aS.to_mono p _) _ _ U,?_⟩;rw[mY (M e (by simp) (.inr rfl))];exact W
 .by_cases hi:q.i=e.i
  .have:=uniq q (pY.1 (aoa _ g)) hi;subst this;exact hb
  .have hr:R q.i:=hr.resolve_right hi;rcases h.blks q g hr with j|⟨B,j,hB,X⟩
   .exact .inl j
   .have Q:q.a.next=e.a.next->∀ v l,ρ' q.a.next v=some l->ρ q.a.next v≠none:=by
     intro m v l hl s;have Y:q.b.next=q.a.next+1:=by rw[j,S.next_alloc]
     rcases hkeep q.a.next v (by rw[hl];exact λh=>by cases h)with hc|⟨_,hc⟩
     .exact hc s
     .rcases ajK.1 g with c|c
      .have:=after G c;omega
      .rcases afS.1 c with rfl|c
       .exact hi rfl
       .have:=gy.before u A (aoa F c);omega
    refine .inr ⟨B,j,hB.keep (aS.to_mono p _) (λv s=>?_) (λv l hl=>H _ (h.low _ _ _ (aS.to_lt hl).2)),λv l hl=>?_⟩
    rotate_left
    .cases r:ρ q.a.next v with
     |none =>
      exfalso;by_cases m:q.a.next=e.a.next
      .exact Q m v l hl r
      .rw[hsame _ _ m,r]at hl;cases hl
     |some l0 =>have:=p _ _ _ r;rw[hl]at this;cases this;exact X v l r
    have Y:q.b.next=q.a.next+1:=by rw[j,S.next_alloc]
    rw[aS.to_of (by omega)]at s ⊢;by_cases m:q.a.next=e.a.next
    .cases Z:ρ' q.a.next v with
     |none=>rfl
     |some l =>
      exfalso;rcases hkeep q.a.next v (by rw[Z];exact λh=>by cases h)with hc|⟨_,hc⟩
      .exact hc s
      .rcases ajK.1 g with c|c
       .have:=after G c;omega
       .rcases afS.1 c with rfl|c
        .exact hi rfl
        .have:=gy.before u A (aoa F c);omega
    .rw[hsame _ _ m];exact s
 .have:ρ'.to (dc s0 F).next=ρ.to (dc s0 F).next:=by grind [aS.to_of,aS.to_ge]
  rw[this];exact h.hr.frame K.size H
 .rcases hkeep f v N with N|⟨h1,h2⟩
  .rcases h.fresh f v N with N|⟨q,q1,q2,q3⟩
   .exact .inl N
   .exact .inr ⟨q,q1,.inl q2,q3⟩
  .exact .inr ⟨e,by simp,.inr rfl,h1,h2⟩
def ED.float(hD:pO ops)(h:ED E t0 s0 ρ0 w0 (X1++e::X2) F R ρ w tm)(H:gy E rec ops t0 s0 (X1++e::(X2++F)))(hk:¬ pP E e.o)(O:¬ R e.i)(U:jG ops R)(m:∀ k,uI ops e.i k->R k)
 (p:∀ d,e.o.dst=some d->d<tm.size) :
 (Region.wanted e.o (yielded ops tm)=false/\ED E t0 s0 ρ0 w0 (X1++e::X2) F (with1 R e.i) ρ w (gX tm e.o.dst undef)) \/
 (Region.wanted e.o (yielded ops tm)=true/\∃ y w' ρ',(execOp (rv tm) e.o).run E.P w=.ok (.value y) w'/\ED E t0 s0 ρ0 w0 (X1++e::X2) F (with1 R e.i) ρ' w' (gX tm e.o.dst y)):=by
 obtain⟨s,I⟩:=gy.at H;have Q:=h.env hD H O U m;have W:(dc s0 F).next<=e.a.next:=by rw[s.st];exact gy.next_le I
 have wsp:∀ b,cK ops e.t e.o=some b->Region.wanted e.o (yielded ops tm)=b:=λb hb=>by rw[<- wm]at hb;exact iZ (fr:={ (default:Frame)with tmps:=tm }) Q hb
 have plain:∀ y,den (ρ.to e.b.next) e.v=some y->e.b=e.a->ED E t0 s0 ρ0 w0 (X1++e::X2) F (with1 R e.i) ρ w (gX tm e.o.dst y):=λy A hb =>ED.step hD h H hk O ρ.le_refl (λf v r=>.inl r) (λ_ _ _=>rfl) (λ_ _=>rfl) h.inj h.low (FR.refl ρ w) A (.inl hb) p
 rcases s.step with⟨_,⟨X,A,hb⟩|⟨X,r⟩⟩|⟨Y,_⟩
 .left;refine⟨wsp _ X,plain undef ?_ hb⟩;rw[A];rfl
 .right;refine⟨wsp _ X,?_⟩;rcases r with⟨Z,hb,s1,c⟩|⟨hk1,hb,c⟩|⟨hk2,c⟩
  .rw[<- pW (ops:=ops)]at c;have u:=Sq ⟨.leaf,e.a.next⟩ e.o Z c;obtain⟨v,y,x,h2,h3⟩:=Fi (HR.bare h.inj h.low) Q e.o (by omega) u;cases x;exact⟨y,w,ρ,h2,plain y (by rw[hb];exact h3) hb⟩
  .obtain⟨s1,c⟩:=c X2 F rfl h.front λq hq hqe hp=>h.noE q (by simp[hq]) (m _ hp) hqe;rw[<- pW (ops:=ops)]at c;have u:=Sp (n':=e.a.next) (h:=(dc s0 F).h) (n:=(dc s0 F).next) e.o (by omega) c;obtain⟨v,y,x,h2,h3⟩:=Fi (h.hr.widen h.inj h.low W) Q e.o (by omega) u;cases x;exact⟨y,w,ρ,h2,plain y (by rw[hb];exact h3) hb⟩
  .rw[<- pW (ops:=ops)]at c;obtain⟨mk,B,hm,y,obj,lim,n,J,hmk⟩:=RA (w:=w) Q e.o hk2 c;have K:=hm e.a;simp only at K;rw[K]at c;injection c with c;injection c with hd1 L
   have hbn:e.b.next=e.a.next+1:=by rw[<- L,S.next_alloc]
   have hfree:∀ v,ρ e.a.next v=none:=by
    intro v;cases hr:ρ e.a.next v with
    |none=>rfl
    |some l =>
     exfalso;rcases h.fresh e.a.next v (by rw[hr];exact λh=>by cases h)with r|⟨q,q1,q2,q3,q4⟩
     .omega
     .rcases ajK.1 q1 with j|j
      .have:=after H j;omega
      .rcases afS.1 j with rfl|j
       .exact O q2
       .have:=gy.before s I (aoa F j);omega
   let ρ':=ρ.put e.a.next 0 ⟨w.heap.size,0,lim⟩
   have z:ρ.le ρ':=aS.le_put _ (hfree 0);have hto:(ρ.to e.a.next).le (ρ'.to e.b.next):=aS.le_trans (aS.to_mono z _) (aS.to_le ρ' (by omega))
   obtain⟨A,M⟩:=hmk (ρ'.to e.b.next) e.a.next hto (by rw[aS.to_of (by omega)];exact aS.put_same _ _ _ _) (λv A=>by rw[aS.to_of (by omega)];show ρ.put _ _ _ _ _=none;unfold aS.put;rw[ajD (by omega)];exact hfree v)
   have N:∀ b,b<w.heap.size->(({ w with drawn:=n }:World).alloc obj).heap[b]? = w.heap[b]?:=λb hb=>jd { w with drawn:=n } obj hb;refine⟨y,_,ρ',J,ED.step hD h H hk O z (λf v r=>?_) (λf v r=>?_) N ?_ ?_ ?_ (by rw[<- hd1];exact A) (.inr ⟨B,L.symm,M _ ?_,λv l hl=>?_⟩) p⟩
   .cases hr:ρ' f v with
    |none=>exact absurd hr r
    |some l =>
     rcases aS.of_put hr with⟨x,_,_⟩|x
     .exact .inr ⟨x,by omega⟩
     .exact .inl (by rw[x];exact λh=>by cases h)
   .show ρ.put _ _ _ _ _=_;unfold aS.put;rw[ajD (λh=>r h.1)]
   .intro f v l f' v' l' g G hb;rcases aS.of_put g with⟨rfl,rfl,rfl⟩|g
    .rcases aS.of_put G with⟨rfl,rfl,rfl⟩|G
     .exact⟨rfl,rfl⟩
     .have:=h.low _ _ _ G;simp at hb;omega
    .rcases aS.of_put G with⟨rfl,rfl,rfl⟩|G
     .have:=h.low _ _ _ g;simp at hb;omega
     .exact h.inj _ _ _ _ _ _ g G hb
   .intro f v l g;rcases aS.of_put g with⟨rfl,rfl,rfl⟩|g
    .simp
    .have:=h.low _ _ _ g;simp;omega
   .refine⟨z,by simp,rfl,rfl,rfl,λb hb _=>N b hb,λf v l g hl=>?_⟩;rcases aS.of_put g with⟨rfl,rfl,rfl⟩|g
    .simp at hl
    .exact⟨f,v,l,g,rfl,id⟩
   .exact eO { w with drawn:=n } obj
   .rcases aS.of_put hl with⟨_,rfl,rfl⟩|hl
    .show ¬(lim<0);omega
    .rw[hfree v]at hl;cases hl
 .exact absurd Y hk
def ED.effect(hD:pO ops)(h:ED E t0 s0 ρ0 w0 (X1++e::X2) F R ρ w tm)(J:gy E rec ops t0 s0 (X1++e::(X2++F)))(hk:pP E e.o)(hn:¬ R e.i)(hX2:∀ q∈X2,R q.i){ρ1:aS}{w':World}{y:Value}
 (W:HR ρ1 e.b w') (m:FR (ρ.to e.a.next) w ρ1 w') (X:den ρ1 e.v=some y) (K:∀ d,e.o.dst=some d->d<tm.size) :
 ∃ ρ',ED E t0 s0 ρ0 w0 X1 (e::(X2++F)) (with1 R e.i) ρ' w' (gX tm e.o.dst y):=by
 obtain⟨H,L⟩:=gy.at J;have hNF:(dc s0 F).next<=e.a.next:=by rw[H.st];exact gy.next_le L
 have hab:=H.next_le;have uniq:∀ q,q∈X1++e::(X2++F)->q.i=e.i->q=e:=λq c hi=>gy.uniq J c (by simp) hi;have notX1:∀ q∈X1,q.i≠e.i:=by
  intro q c hi;have:=uniq q (by simp[c]) hi;subst this;obtain⟨Xa,Xb,rfl⟩:=apb c;have m:gy E rec ops t0 s0 (Xa++q::(Xb++q::(X2++F))):=by simpa using J
  exact(gy.at m).1.new q (by simp) rfl
 have early:∀ f v,ρ f v≠none->f<e.a.next\/(e.b.next<=f/\∃ q∈X1,R q.i/\f=q.a.next/\f<q.b.next):=by
  intro f v g;rcases h.fresh f v g with g|⟨q,q1,q2,q3,q4⟩
  .grind
  .rcases ajK.1 q1 with p|p
   .have:=after J p
    grind
   .rcases afS.1 p with rfl|p
    .grind
    .have:=gy.before H L (aoa F p)
     grind
 let ρ':aS:=λf v=>if f<e.b.next then ρ1 f v else ρ f v
 have ρlt:∀ {f v},f<e.b.next->ρ' f v=ρ1 f v:=λ{f v} g=>by show(if _ then _ else _)=_;rw[akJ g]
 have ρge:∀ {f v},e.b.next<=f->ρ' f v=ρ f v:=λ{f v} g=>by show(if _ then _ else _)=_;rw[ajD (by omega)]
 have M:ρ'.to e.b.next=ρ1:=by
  funext f v;by_cases g:f<e.b.next
  .grind [aS.to_of]
  .rw[aS.to_ge (by omega),W.fresh f v (by omega)]
 have u:ρ.le ρ':=λf v l hl=>by
  rcases early f v (by rw[hl];exact λh=>by cases h)with g|⟨g,_⟩
  .rw[ρlt (by omega)];exact m.ext f v l (by rw[aS.to_of g];exact hl)
  grind
 have hfr:FR ρ w ρ' w':=by
  refine⟨u,m.size,m.os,m.tape,m.output,λb hb A=>m.same b hb λf v l hl I=>A f v l (aS.to_lt hl).2 I,λf v l hl hb=>?_⟩;by_cases g:f<e.b.next
  .rw[ρlt g]at hl;obtain⟨f',v',l',Y,Z⟩:=m.new f v l hl hb;exact⟨f',v',l',(aS.to_lt Y).2,Z⟩
  grind
 have apart:∀ f v l f' v' l',f<e.b.next->e.b.next<=f'->ρ' f v=some l->ρ' f' v'=some l'->l.b≠l'.b:=by intro f v l f' v' l' g r j s hb;rw[ρlt g]at j;rw[ρge r]at s;have hl:=h.low _ _ _ s;obtain⟨f2,v2,l2,Y,Z,_⟩:=m.new f v l j (by omega);obtain⟨k3,k4⟩:=aS.to_lt Y;have:=(h.inj _ _ _ _ _ _ k4 s (by omega)).1;omega
 refine⟨ρ',hk,λq c=>?_,λq c hr=>?_,λq c hr=>?_,λd x hx A=>?_,λq c hr=>?_,?_,?_,?_,λf v g=>?_,h.fr.trans hfr⟩
 .rcases afS.1 c with rfl|c
  .exact .inr rfl
  .rcases ajK.1 c with c|c
   .exact .inl (hX2 q c)
   .exact .inl (h.inF q c)
 .exact h.noE q (by simp[c]) (hr.resolve_right (notX1 q c))
 .by_cases hi:q.i=e.i
  .have:=uniq q c hi;subst this;exact⟨y,by rw[M];exact X,λd N=>Fb N (K d N)⟩
  .have hr:R q.i:=hr.resolve_right hi;obtain⟨z,z1,z2⟩:=h.vals q (pY.2 c) hr;exact⟨z,cr (aS.to_mono u _) _ _ z1,λd N=>by rw[mY (Ge hD J c hi N)];exact z2 d N⟩
 .obtain⟨z,z1,z2⟩:=h.olds d x hx λq c hr=>A q (pY.1 c) (.inl hr);refine⟨z,cr (aS.to_mono u _) _ _ z1,?_⟩;rw[mY (A e (by simp) (.inr rfl))];exact z2
 .have hr:R q.i:=hr.resolve_right (notX1 q c);have O:=after J c;rcases h.blks q (by simp[c]) hr with G|⟨B,G,hB,I⟩
  .exact .inl G
  .have hqn:q.b.next=q.a.next+1:=by rw[G,S.next_alloc]
   refine .inr ⟨B,G,hB.keep (aS.to_mono u _) (λv X=>?_) (λv l hl=>?_),λv l hl=>I v l (by rw[ρge O]at hl;exact hl)⟩
   .rw[aS.to_of (by omega)]at X ⊢;rw[ρge O];exact X
   .have Q:=(aS.to_lt hl).2;refine m.same _ (h.low _ _ _ Q) λf v' l' g _ hb=>?_;obtain⟨Y,Z⟩:=aS.to_lt g;have:=(h.inj _ _ _ _ _ _ Z Q hb).1;omega
 .show HR (ρ'.to e.b.next) e.b w';rw[M];exact W
 .intro f v l f' v' l' j s hb;by_cases g:f<e.b.next
  .by_cases r:f'<e.b.next
   .rw[ρlt g]at j;rw[ρlt r]at s;exact W.inj _ _ _ _ _ _ j s hb
   .exact absurd hb (apart _ _ _ _ _ _ g (by omega) j s)
  .by_cases r:f'<e.b.next
   .exact absurd hb.symm (apart _ _ _ _ _ _ r (by omega) s j)
   .rw[ρge (by omega)]at j s;exact h.inj _ _ _ _ _ _ j s hb
 .intro f v l j;by_cases g:f<e.b.next
  .rw[ρlt g]at j;exact W.low _ _ _ j
  .rw[ρge (by omega)]at j;exact ajN (h.low _ _ _ j) m.size
 .show f<e.b.next\/_;by_cases U:f<e.b.next
  .exact .inl U
  .rw[ρge (by omega)]at g;rcases early f v g with g|⟨_,q,q1,q2,q3⟩
   .exact absurd (ajN g hab) U
   .exact .inr ⟨q,q1,.inl q2,q3⟩
end
end
def left:List Bool->Nat
 |[]=>0
 |true::r=>left r
 |false::r=>left r+1
def JJ:∀(l:List Bool) (i:Nat),l[i]? = some false->left (l.set i true)+1=left l
 |[],i,h=>by simp at h
 |b::r,0,h=>by simp at h;subst h;simp[left]
 |b::r,i+1,h=>by have:=JJ r i (by simpa using h);cases b<;>simp[left]<;>omega
def FA:∀(l:List Bool),left l=0->∀ i:Nat,l[i]?≠some false
 |[],_,i=>by simp
 |true::r,h,0=>by simp
 |false::r,h,_=>by simp[left]at h
 |true::r,h,i+1=>by simpa using FA r h i
def pd:∀ n,left (List.replicate n false)=n
 |0=>rfl
 |n+1=>by simp[aok,left,pd n]
def ee(listed:Array Bool):Nat->Prop:=λi=>listed[i]? = some true
section
variable{P:Program}{ops:Array Oper}{listed:Array Bool}
def ME{i:Nat}(b:i<listed.size):ee (listed.setIfInBounds i true)=with1 (ee listed) i:=by
 funext k;unfold ee with1;apply propext;by_cases h:i=k
 .subst h;simp[b]
 .rw[aoX h];constructor
  .exact λh=>.inl h
  .rintro(a|a)
   .exact a
   .exact absurd a.symm h
def RO{i:Nat}(hs:listed.size=ops.size)(h:i∈Region.ready .any ops listed):∃ o,ops[i]? = some o/\listed[i]? = some false/\∀ e∈o.after,Region.binds .any e=true->ee listed e.on:=by
 unfold Region.ready at h;rw[aoL]at h;obtain⟨c,b⟩:=h;have hi:i<ops.size:=by simpa using c
 simp only[abk,aoe]at b;obtain⟨b,a⟩:=b;refine⟨ops[i],by simp[hi],?_,?_⟩
 .simp_all
 .rw[anY hi]at a;simp only[aoh,aor]at a;rw[Array.all_eq_true']at a;intro e d hb;have:=a e d;rw[hb]at this;simp only[age,aop]at this;unfold ee;rw[aph]at this
  grind
def Rw(d:gW ops)(hs:listed.size=ops.size)(h:Region.ready .any ops listed=[]):∀ i,i<ops.size->ee listed i:=by
 intro i;induction i using Nat.strongRecOn with
 |ind i ih =>
  intro hi;have a:i<listed.size:=by omega
  cases hb:listed[i]with
  |true=>unfold ee;rw[anY a,hb]
  |false =>
   exfalso;have:i∈Region.ready .any ops listed:=by
    unfold Region.ready;rw[aoL];refine⟨by simpa using hi,?_⟩;simp only[abk,aoe];refine⟨by rw[aph,anY a,hb];rfl,?_⟩;rw[anY hi];simp only[aoh,aor];rw[Array.all_eq_true'];intro e g;cases b:Region.binds .any e with
    |false=>rfl
    |true =>have c:=d i ops[i] (by simp[hi]) e g b;have:=ih e.on c (by omega);unfold ee at this;simp_all
   grind
def Ma(c:gW ops){R:Nat->Prop}(a:jG ops R){i:Nat}{o:Oper}(ho:ops[i]? = some o)(h:∀ e∈o.after,Region.binds .any e=true->R e.on):∀ k,uI ops i k->R k:=by
 intro k hk;obtain⟨e,d,g,b⟩:=(zD c ho).1 hk;rcases b with rfl|b
 .grind
 .exact a e.on k (h e d g) b
end
section
variable{E:dX}{ih:uD->S->Option fM}{ops:Array Oper}{t0:T V}{s0:S}{ρ0:aS}{w0:World}{f:FuncId}{fn:Func}{k:List Item}{rd:Option Nat}{ds:List ft}{up:Option Md}{cs:List Frame}
def aeB{fr:Frame}{i:Nat}{rest:List Nat}{o:Oper}(a:lX E.P ρ0 f fn .leaf (.inRegion ops (i::rest)::k) ds .run up rd fr cs)(ho:ops[i]? = some o)(y:Value) :
 lX E.P ρ0 f fn .leaf (.inRegion ops rest::k) ds .run up rd (fr.finish y) cs/\(fr.finish y).tmps=gX fr.tmps o.dst y:=by
 rw[FX (a.todo rfl) ho];refine⟨⟨a.name,a.func,TR.leaf _ _,?_,λ_=>rfl,a.ds,a.md,a.rd,a.up⟩,rfl⟩;show fn.ntmps<=(gX fr.tmps o.dst y).size;have:=a.size;unfold gX;split<;>simpa using this
def Ux(hE:jM E)(hg:Good E.P ih)(hD:pO ops)(hdst:ob ops fn.ntmps=true){L:List Ev}(hR:gy E (cD ih) ops t0 s0 L)(hall:∀ k,k<ops.size->∃ q∈L,q.i=k){t':T V}(hS:yE t0 L t') :
 ∀(m τ:Nat) (listed:Array Bool) (X F:List Ev) (ρ:aS) (w:World) (fr:Frame),L=X++F->listed.size=ops.size->left listed.toList<=m->jG ops (ee listed) ->
  ED E t0 s0 ρ0 w0 X F (ee listed) ρ w fr.tmps->lX E.P ρ0 f fn .leaf (.inRegion ops (Region.linearise.go .any ops m τ listed [])::k) ds .run up rd fr cs ->
  ∃ ρ' w' fr',Steps E.P (lone fr cs w) (lone fr' cs w')/\FR ρ0 w0 ρ' w'/\HR ρ' (dc s0 L) w'/\lX E.P ρ' f fn t' k ds .run up rd fr' cs:=by
 have fin:∀(listed:Array Bool) (X F:List Ev) (ρ:aS) (w:World) (fr:Frame),L=X++F->(∀ i,i<ops.size->ee listed i)->ED E t0 s0 ρ0 w0 X F (ee listed) ρ w fr.tmps ->
  lX E.P ρ0 f fn .leaf (.inRegion ops []::k) ds .run up rd fr cs->∃ ρ' w' fr',Steps E.P (lone fr cs w) (lone fr' cs w')/\FR ρ0 w0 ρ' w'/\HR ρ' (dc s0 L) w'/\lX E.P ρ' f fn t' k ds .run up rd fr' cs:=by
  intro listed X F ρ w fr A hfull B u;have hin:∀ e∈L,ee listed e.i:=λe he=>by
   obtain⟨_,_,_,k1,_⟩:=gy.ok hR he
   exact hfull e.i (by
    rcases aoN e.i ops.size with h|h
    .exact h
    .have:=k1.op;rw[Array.getElem?_eq_none h]at this;cases this)
  have p:=B.reg (X1:=[]) (Z:=X) (by simp) (by rw[<- A];exact hR) λe he=>hin e (by rw[A];simp[he]);rw[<- A]at p;have hfresh:∀ f v,(dc s0 L).next<=f->ρ f v=none:=by
   intro f v hf;cases hr:ρ f v with
   |none=>rfl
   |some l =>
    exfalso;have hFn:(dc s0 F).next<=(dc s0 L).next:=by rw[A]at hR ⊢;exact gy.next_le hR
    rcases B.fresh f v (by rw[hr];exact λh=>by cases h)with h1|⟨q,q1,q2,q3,q4⟩
    .omega
    .have hq:q∈L:=by rw[A];simp[q1]
     obtain⟨Xa,Y,hLa,k1,k2⟩:=gy.ok hR hq;have:(dc s0 (q::Y)).next<=(dc s0 L).next:=by rw[hLa]at hR ⊢;exact gy.next_le hR
     have:q.b.next<=(dc s0 L).next:=this;omega
  rw[aS.to_all hfresh]at p;refine⟨ρ,w,_,.one (sN (El u) (u.todo rfl)),B.fr,p,?_⟩;have j:=(u.mono B.fr.ext).to k;refine⟨j.name,j.func,λd x hx=>?_,j.size,j.todo,j.ds,j.md,j.rd,j.up⟩;rcases hS d with⟨q,q1,q2,q3⟩|⟨q1,q2⟩
  .rw[q3]at hx;cases hx;obtain⟨y,y1,y2⟩:=B.vals q (by rw[<- A];exact q1) (hin q q1);exact⟨y,cr (aS.to_le_self ρ _) _ _ y1,y2 d q2⟩
  .rw[q2]at hx;obtain⟨y,y1,y2⟩:=B.olds d x hx λq hq _=>q1 q (by rw[A];exact hq);exact⟨y,cr (aS.to_le_self ρ _) _ _ y1,y2⟩
 intro m;induction m with
 |zero =>
  intro τ listed X F ρ w fr A hs hleft K B u;refine fin listed X F ρ w fr A (λi hi=>?_) B (by simpa[Region.linearise.go]using u);have:=FA listed.toList (by omega) i;have hi':i<listed.size:=by omega
  unfold ee;rw[anY hi'];cases hb:listed[i]with
  |true=>rfl
  |false=>exfalso;apply this;rw[akF,anY hi',hb]
 |succ m ihf =>
  intro τ listed X F ρ w fr A hs hleft K B u;simp only[Region.linearise.go]at u
  change lX E.P ρ0 f fn .leaf (.inRegion ops (match(Region.ready .any ops listed)[τ%(Region.ready .any ops listed).length]? with
   |some i=>Region.linearise.go .any ops m (τ / (Region.ready .any ops listed).length) (listed.setIfInBounds i true) [i]
   |none=>[].reverse)::k) ds .run up rd fr cs at u
  cases hi:(Region.ready .any ops listed)[τ%(Region.ready .any ops listed).length]? with
  |none =>
   have hnil:Region.ready .any ops listed=[]:=by
    cases hr:Region.ready .any ops listed with
    |nil=>rfl
    |cons x xs =>grind [Nat.mod_lt]
   rw[hi]at u;exact fin listed X F ρ w fr A (Rw hD.back hs hnil) B u
  |some i =>
   rw[hi]at u;simp only at u;rw[linearise_go_acc,List.reverse_singleton,ans]at u;obtain⟨o,ho,hfalse,hed⟩:=RO hs (akV hi);have hn:¬ ee listed i:=λh=>by unfold ee at h;rw[hfalse]at h;cases h
   have G:=Ma hD.back K ho hed;have hisz:i<listed.size:=by grind
   obtain⟨e,heL,hei⟩:=hall i (by omega);subst hei;obtain⟨_,_,_,hev0,_⟩:=gy.ok hR heL;have heo:e.o=o:=by have:=hev0.op;rw[ho]at this;cases this;rfl
   subst heo;have heX:e∈X:=by
    rw[A]at heL;rcases ajK.1 heL with h|h
    .exact h
    .exact absurd (B.inF e h) hn
   obtain⟨X1,X2,rfl⟩:=apb heX;have hL':L=X1++e::(X2++F):=by rw[A];simp
   have M:=hR;rw[hL']at M;obtain⟨hev,hRY⟩:=gy.at M;have N:∀ d,e.o.dst=some d->d<fr.tmps.size:=λd hd=>ajN (CW hdst ho d hd) u.size;have hm:=El u;have O:=u.todo rfl;have Q:(listed.setIfInBounds e.i true).size=ops.size:=by simpa using hs
   have hleft':left (listed.setIfInBounds e.i true).toList<=m:=by
    have:=JJ listed.toList e.i (by rw[akF];exact hfalse)
    grind
   have H:=ME hisz;have U:jG ops (ee (listed.setIfInBounds e.i true)):=by rw[H];exact K.with1 G
   by_cases hk:pP E e.o
   .
    have hstep:jf E (cD ih) e.t e.a e.o (cK ops e.t e.o)=some (e.v,e.b)/\∀ q∈X2++F,uI ops e.i q.i:=by
     rcases hev.step with⟨hk',_⟩|⟨_,h1,_,h2⟩
     .grind
     grind
    obtain⟨hst,hXF⟩:=hstep;have hX2:∀ q∈X2,ee listed q.i:=λq hq=>G _ (hXF q (by simp[hq]));have p:=B.reg (X1:=X1++[e]) (Z:=X2) (by simp) hRY hX2;rw[<- hev.st]at p;have hT:=B.env hD M hn K G;have wsp:∀ b,cK ops e.t e.o=some b->Region.wanted e.o (yielded ops fr.tmps)=b:=λb hb=>by grind [wm,iZ]
    have go:∀(ρ1:aS) (I:World) (y:Value),Steps E.P (lone fr cs w) (lone (fr.finish y) cs I)->HR ρ1 e.b I->FR (ρ.to e.a.next) w ρ1 I->den ρ1 e.v=some y ->
     ∃ ρ' w' fr',Steps E.P (lone fr cs w) (lone fr' cs w')/\FR ρ0 w0 ρ' w'/\HR ρ' (dc s0 L) w'/\lX E.P ρ' f fn t' k ds .run up rd fr' cs:=by
     intro ρ1 I y hsteps h1 h2 h3;obtain⟨ρ',z⟩:=B.effect hD M hk hn hX2 h1 h2 h3 N;obtain⟨j,W⟩:=aeB u ho y;rw[<- H,<- W]at z;obtain⟨ρ2,w2,fr2,a1,a2⟩:=ihf (τ / (Region.ready .any ops listed).length) _ X1 (e::(X2++F)) ρ' I (fr.finish y) hL' Q hleft' U z j;exact⟨ρ2,w2,fr2,hsteps.trans a1,a2⟩
    unfold jf at hst;split at hst
    .rename_i hw;have hwant:=wsp _ hw;rw[<- pW (ops:=ops)]at hst;cases J:ep E (only e.t (looks ops e.o)) e.a e.o with
     |none=>rw[J]at hst;cases hst
     |some nx =>
      rw[J]at hst;have hop:=AW hE p hT e.o J;have hstg:(∀ c,e.o.op≠.defer c)->stepG E.P true { frame:=fr,callers:=cs,status:=.running,dying:=none } w=stepG.apply E.P true fr cs none (execOp (rv fr.tmps) e.o) w:=λq=>rz hm O ho hwant (.inr q);cases nx with
      |val v s1 =>simp only[yx,acf,aoz]at hst;obtain⟨r,s⟩:=hst;obtain⟨ρ1,y,I,h1,h2,h3,h4⟩:=hop;have hst:=hstg (gn J (λd s'=>by intro h;cases h));exact go ρ1 I y (.one (DC hst h1)) (by rw[<- s];exact h3) h4 (by rw[<- r];exact h2)
      |skip s1 =>simp only[yx,acf,aoz]at hst;obtain⟨r,s⟩:=hst;obtain⟨ρ1,I,h1,h3,h4⟩:=hop;have hst:=hstg (gn J (λd s'=>by intro h;cases h));exact go ρ1 I undef (.one (QY hst h1)) (by rw[<- s];exact h3) h4 (by rw[<- r];rfl)
      |enter g args s1 =>
       obtain⟨ys,h1,h2,h3⟩:=hop;have hstx:=hstg (gn J (λd s'=>by intro h;cases h));simp only[yx]at hst;cases hr:cD ih g args none s1 with
       |none=>rw[hr]at hst;cases hst
       |some out =>
        rw[hr]at hst;obtain⟨hcall,hfin⟩:=uT hg h3 h1 hr;rw[hcall]at h2;obtain⟨ρ1,I,en,j1,j2,j3,j4⟩:=hfin fr cs;have hsteps:Steps E.P (lone fr cs w) (lone (ew fr en) cs I):=.head (Ld O hstx h2) j4;obtain⟨oe,oup,os⟩:=out;cases oe with
        |panicked c=>cases hst
        |returned v =>
         simp only[HW,acf,aoz]at hst;obtain⟨r,s⟩:=hst;cases en with
         |returned y=>exact go ρ1 I y hsteps (by rw[<- s];exact j1) j2 (by rw[<- r];exact j3)
         |panicked _=>exact j3.elim
         |outgrown=>exact j3.elim
      |round l args s1=>cases hst
      |defer df s1=>cases hst
      |recover s1=>cases hst
      |panic v s1=>cases hst
    .rename_i hw;have hwant:=wsp _ hw;simp only[acf,aoz]at hst;obtain⟨r,s⟩:=hst;exact go (ρ.to e.a.next) w undef (.one (oD hm O (by simp[ho,hwant]))) (by rw[<- s];exact p) (FR.refl _ _) (by rw[<- r];rfl)
    .cases hst
   .
    rcases B.float hD M hk hn K G N with⟨hwant,z⟩|⟨hwant,y,I,ρ1,hrun,z⟩
    .obtain⟨j,W⟩:=aeB u ho undef;rw[<- H,<- W]at z;obtain⟨ρ2,w2,fr2,a1,a2⟩:=ihf (τ / (Region.ready .any ops listed).length) _ (X1++e::X2) F ρ w (fr.finish undef) A Q hleft' U z j;exact⟨ρ2,w2,fr2,(Steps.one (oD hm O (by simp[ho,hwant]))).trans a1,a2⟩
    .obtain⟨j,W⟩:=aeB u ho y;rw[<- H,<- W]at z;obtain⟨ρ2,w2,fr2,a1,a2⟩:=ihf (τ / (Region.ready .any ops listed).length) _ (X1++e::X2) F ρ1 I (fr.finish y) A Q hleft' U z j;have hnd:∀ c,e.o.op≠.defer c:=λc hc=>by apply hk;show aT E.P e.o.op=3;rw[hc];rfl
     exact⟨ρ2,w2,fr2,(Steps.one (DC (rz hm O ho hwant (.inr hnd)) hrun)).trans a1,a2⟩
def TN{P:Program}{fr:Frame}{cs:List Frame}{w:World}{id:Nat}(hm:fr.mode=.run)(a:fr.todo=.code (.region id ops true)::k) :
 step P (lone fr cs w)=.next (lone { fr with todo:=.inRegion ops (Region.schedule (P.follows .mixedOrders) ops (w.tape w.drawn (.order fr.fn id)))::k } cs { w with drawn:=w.drawn+1 }) :=
 ajO (by simp[stepG,stepG.exec,hm,a,choose,Sem.run,Question.forced,Question.cut])
end
section
variable{E:dX}{ih:uD->S->Option fM}{ops:Array Oper}{t0:T V}{s0:S}{ρ0:aS}{w0:World}{f:FuncId}{fn:Func}{k:List Item}{rd:Option Nat}{ds:List ft}{up:Option Md}{cs:List Frame}
def Kw(u:jM E)(c:E.P.follows .mixedOrders=true):eC E:=by
 intro ih y f fn id ops k rd t ds up s r g e ρ w fr cs h a;obtain⟨hD,hcase⟩:=HY e;have hm:=El a;have z:=a.todo rfl;have hstep:=TN (P:=E.P) (cs:=cs) (w:=w) hm z;rw[c]at hstep;simp only[Region.schedule,Bool.true_or,apn,Region.linearise]at hstep;have b:∀ i,¬ ee (Array.replicate ops.size false) i:=by intro i hi;unfold ee at hi;rw[Array.getElem?_replicate]at hi;split at hi<;>cases hi
 have o:∀ L,ED E t s ρ w L [] (ee (Array.replicate ops.size false)) ρ { w with drawn:=w.drawn+1 } fr.tmps:=by
  intro L;have j:ρ.to s.next=ρ:=aS.to_all λf v p=>h.fresh f v p;refine⟨trivial,by simp,λe _ hr=>absurd hr (b _),λe _ hr=>absurd hr (b _),λd x A _=>?_,λe _ hr=>absurd hr (b _),?_,h.inj,h.low,λf v p=>.inl ?_,FR.drawn w _⟩
  .rw[j];exact a.tr d x A
  .show HR (ρ.to s.next) s _;rw[j];exact h.drawn _
  .show f<s.next;exact apu λhc=>p (h.fresh f v hc)
 have q:lX E.P ρ f fn .leaf (.inRegion ops (Region.linearise.go .any ops ops.size (w.tape w.drawn (.order fr.fn id)) (Array.replicate ops.size false) [])::k) ds .run up rd { fr with todo:=.inRegion ops (Region.linearise.go .any ops ops.size (w.tape w.drawn (.order fr.fn id)) (Array.replicate ops.size false) [])::k } cs :=
  ⟨a.name,a.func,TR.leaf _ _,a.size,λ_=>rfl,a.ds,a.md,a.rd,a.up⟩
 have l:jG ops (ee (Array.replicate ops.size false)):=λi k hi=>absurd hi (b _);obtain⟨L,t',s',rfl,B,G,rfl,m⟩:=hcase
 .obtain⟨ρ',w',fr',H,I,J,K⟩:=Ux (ih:=ih) (f:=f) (fn:=fn) (k:=k) (rd:=rd) (ds:=ds) (up:=up) (cs:=cs) (ρ0:=ρ) (w0:=w) u y hD g B m G ops.size _ (Array.replicate ops.size false) L [] ρ { w with drawn:=w.drawn+1 } { fr with todo:=.inRegion ops (Region.linearise.go .any ops ops.size (w.tape w.drawn (.order fr.fn id)) (Array.replicate ops.size false) [])::k } (by simp) (by simp)
   (by simp[pd]) l (o L) q
  exact⟨ρ',w',fr',cs,.head hstep H,I,wb.refl a,J,K,rfl⟩
end
def aS.no:aS:=λ_ _=>none
def HR.empty(w:World)(n:Nat):HR aS.no ⟨.leaf,n⟩ w :=
 ⟨λ_ _ _=>rfl,λ_ _ _ _ _ _ e=>(by cases e),λ_ _ _ e=>(by cases e),λf B hB=>by(rw[S.get_eq,T.get_leaf]at hB;cases hB),λf B hB=>by(rw[S.get_eq,T.get_leaf]at hB;cases hB),λf B hB=>by(rw[S.get_eq,T.get_leaf]at hB;cases hB)⟩
def Dm{P:Program}{f:FuncId}{args:List V}{s:S}{v:V}{u:Option Md}{s':S}(h:gP P f args none s ⟨.returned v,u,s'⟩){ρ:aS}{w:World}{ys:List Value}(hr:HR ρ s w)(b:br ρ args=some ys) :
 Calls P f ys.toArray w λe w'=>∃ ρ' y,e=.returned y/\den ρ' v=some y/\HR ρ' s' w'/\FR ρ w ρ' w':=by
 intro cs;obtain⟨_,c⟩:=h ρ w ys hr b;obtain⟨ρ',w',d,g,fr',e,a,i,j,l⟩:=c cs (λu m=>by cases m);cases e with
 |panicked _=>exact a.elim
 |outgrown=>exact a.elim
 |returned y=>exact⟨.returned y,w',fr',⟨ρ',y,rfl,a,d,g⟩,i,j,l⟩
def FR.keeps{w:World}{ρ':aS}{w':World}(h:FR aS.no w ρ' w'):∀ b,b<w.heap.size->w'.heap[b]? = w.heap[b]?:=λb hb=>h.same b hb λf v l e=>by cases e
def IZ{P:Program}{f:FuncId}{args:List V}{v:V}{n:Nat}{s1:S}(h:gP P f args none ⟨.leaf,n⟩ ⟨.returned v,none,s1⟩)
 (d:∀ ρ ys,br ρ args=some ys->br aS.no args=some ys) (g:∀ ρ y,den ρ v=some y->∀ ρ',den ρ' v=some y) (s:S):gP P f args none s ⟨.returned v,none,s⟩:=by
 intro ρ w ys hr i;obtain⟨j,m⟩:=h aS.no w ys (HR.empty w n) (d ρ ys i);refine⟨j,λcs hup=>?_⟩;obtain⟨ρ',w',k1,a,fr',e,c,o,p,q⟩:=m cs (λu r=>by cases r);refine⟨ρ,w',hr.frame a.size a.keeps,⟨ρ.le_refl,a.size,a.os,a.tape,a.output,λb hb _=>a.keeps b hb,λf v l e _=>⟨f,v,l,e,rfl,id⟩⟩,fr',e,?_,o,p,q⟩;cases e with
 |panicked _=>exact c.elim
 |outgrown=>exact c.elim
 |returned y=>exact g _ _ c _
def Sub(a s:S):Prop:=(∀ f B,a.get f=some B->s.get f=some B)/\s.next<=a.next
def HR.sub{ρ:aS}{a s:S}{w:World}(h:HR ρ s w)(b:Sub a s):HR ρ a w :=
 ⟨λf v c=>h.fresh f v (akG b.2 c),h.inj,h.low,λf B hB=>h.blk f B (b.1 f B hB),λf B hB=>ajN (h.dom f B (b.1 f B hB)) b.2,λf B hB=>h.rw f B (b.1 f B hB)⟩
def LL{P:Program}{f:FuncId}{args:List V}{v:V}{a c s b:S}(h:gP P f args none a ⟨.returned v,none,c⟩)(d:Sub a s)(g:Sub b c):gP P f args none s ⟨.returned v,none,b⟩:=by intro ρ w ys hr i;obtain⟨j,l⟩:=h ρ w ys (hr.sub d) i;refine⟨j,λcs hup=>?_⟩;obtain⟨ρ',w',m,o,fr',e,p,q,r,x⟩:=l cs (λu y=>by cases y);exact⟨ρ',w',m.sub g,o,fr',e,p,q,r,x⟩
def GS(u v:om):Bool:=Nat.beq u.v v.v&&Nat.beq u.lo v.lo&&bw u.cells v.cells
def sR:List om->List om->Bool
 |[],[]=>true
 |u::r,v::q=>GS u v&&sR r q
 |_,_=>false
def GU(x y:qE):Bool:=bw [x.key,x.val] [y.key,y.val]&&Nat.beq x.born y.born
def sS:List qE->List qE->Bool
 |[],[]=>true
 |u::r,v::q=>GU u v&&sS r q
 |_,_=>false
def GW:ef->ef->Bool
 |.cells e sb nv vs,.cells a sb' nv' vs'=>Nat.beq e a&&(sb==sb')&&Nat.beq nv nv'&&sR vs vs'
 |.map es c,.map es' b=>sS es es'&&Nat.beq c b
 |.gone,.gone=>true
 |_,_=>false
def Ua:Option ef->Option ef->Bool
 |none,_=>true
 |some a,some b=>GW a b
 |some _,none=>false
def TF:T ef->T ef->Bool
 |.leaf,_=>true
 |.node l v r,.node l' v' a=>Ua v v'&&TF l l'&&TF r a
 |.node _ _ _,.leaf=>false
def Yj(a s:S):Bool:=Nat.ble s.next a.next&&TF a.h s.h
def GR{u v:om}(h:GS u v=true):u=v:=by
 unfold GS at h;simp only[abk]at h;cases u;cases v
 grind [Nat.eq_of_beq_eq_true,dg]
theorem qH:∀ {a b:List om},sR a b=true->a=b
 |[],[],_=>rfl
 |[],_::_,h=>by cases h
 |_::_,[],h=>by cases h
 |u::r,v::q,h=>by simp only[sR,abk]at h;rw[GR h.1,qH h.2]
def GT{u v:qE}(h:GU u v=true):u=v:=by
 unfold GU at h;simp only[abk]at h;have h1:=dg h.1;have h2:=abj h.2;cases u;cases v
 grind
def qI:∀ {a b:List qE},sS a b=true->a=b
 |[],[],_=>rfl
 |[],_::_,h=>by cases h
 |_::_,[],h=>by cases h
 |u::r,v::q,h=>by simp only[sS,abk]at h;rw[GT h.1,qI h.2]
def GV:∀ {a b:ef},GW a b=true->a=b:=by
 intro a b h;unfold GW at h;split at h
 .simp only[abk,apG]at h
  grind [Nat.eq_of_beq_eq_true,qH]
 .simp only[abk]at h;rw[qI h.1,abj h.2]
 .rfl
 .cases h
def uL:∀ {a b:T ef},TF a b=true->∀ p B,a.get p=some B->b.get p=some B
 |.leaf,_,_,p,B,e=>by rw[T.get_leaf]at e;cases e
 |.node _ _ _,.leaf,h,_,_,_=>by cases h
 |.node l v r,.node l' v' r',h,p,B,e=>by
  simp only[TF,abk]at h;cases p with
  |o =>
   rw[T.get_o]at e ⊢;subst e;cases v' with
   |none=>have:=h.1.1;cases this
   |some B'=>rw[GV (a:=B) (b:=B') h.1.1]
  |l p=>rw[T.get_l]at e ⊢;exact uL h.1.2 p B e
  |r p=>rw[T.get_r]at e ⊢;exact uL h.2 p B e
def EO{a s:S}(h:Yj a s=true):Sub a s:=by unfold Yj at h;simp only[abk]at h;exact⟨λf B hB=>by rw[S.get_eq]at hB ⊢;exact uL h.2 _ B hB,act h.1⟩
def lM(E:dX)(n:Nat)(f:FuncId)(args:List V)(a:S)(v:V)(b:S):Bool :=
 match rC E n (.call f args none) a with
 |some ⟨.returned v',none,s'⟩=>bw [v] [v']&&Yj b s'
 |_=>false
def eo{E:dX}(d:jM E)(g:uA E)(hD:eC E){n:Nat}{f:FuncId}{args:List V}{a:S}{v:V}{b:S}(h:lM E n f args a v b=true){s:S}(i:Sub a s):gP E.P f args none s ⟨.returned v,none,b⟩:=by
 unfold lM at h;split at h
 .rename_i v' s' hr;simp only[abk]at h;have c:=dg h.1;simp at c;subst c;exact LL (mU d g hD n _ _ _ hr) i (EO h.2)
 .cases h
def uZ(E:dX)(n:Nat)(f:FuncId)(args:List V)(v:V):Bool :=
 match rC E n (.call f args none) ⟨.leaf,0⟩with
 |some ⟨.returned v',none,_⟩=>bw [v] [v']
 |_=>false
def V.flat:V->Bool
 |.bool _=>true
 |.int _ _=>true
 |.str _=>true
 |.nilptr=>true
 |.nilslice=>true
 |.nilmap=>true
 |.nilFunc=>true
 |.nilIface=>true
 |_=>false
def Ke{v:V}(h:v.flat=true):∀ ρ y,den ρ v=some y->∀ ρ',den ρ' v=some y:=by intro ρ y e ρ';cases v<;>simp[V.flat]at h<;>exact e
def FW:∀ {l:List V},l.all V.flat=true->∀ ρ ys,br ρ l=some ys->br aS.no l=some ys
 |[],_,_,_,e=>e
 |v::l,h,ρ,ys,e=>by simp only[aof,abk]at h;obtain⟨y,q,a,b,rfl⟩:=bt.1 e;exact bt.2 ⟨y,q,Ke h.1 _ _ a _,FW h.2 _ _ b,rfl⟩
def jQ{E:dX}(b:jM E)(c:uA E)(hD:eC E){n:Nat}{f:FuncId}{args:List V}{v:V}(h:uZ E n f args v=true)(d:args.all V.flat=true)(g:v.flat=true)(s:S):gP E.P f args none s ⟨.returned v,none,s⟩:=by
 unfold uZ at h;split at h
 .rename_i v' s' hr;have a:=dg h;simp at a;subst a;exact IZ (mU b c hD n _ _ _ hr) (FW d) (Ke g) s
 .cases h
structure lJ where
 f:FuncId
 args:List V
 a:S
 v:V
 b:S
def lJ.fits(k:lJ)(f:FuncId)(args:List V)(s:S):Bool:=Nat.beq f k.f&&(bw args k.args&&Yj k.a s)
def zO:List lJ->FuncId->List V->S->Option (V×S)
 |[],_,_,_=>none
 |k::r,f,args,s=>bif k.fits f args s then some (k.v,k.b)else zO r f args s
def tJ:∀ {l:List lJ} {f:FuncId} {args:List V} {s:S} {v:V} {s':S},zO l f args s=some (v,s')->∃ k∈l,k.f=f/\k.args=args/\Sub k.a s/\k.v=v/\k.b=s'
 |[],_,_,_,_,_,h=>by cases h
 |k::r,f,args,s,v,s',h=>by
  simp only[zO]at h;cases hb:k.fits f args s with
  |true =>rw[hb]at h;cases h;unfold lJ.fits at hb;simp only[abk]at hb;exact⟨k,by simp,(abj hb.1).symm,(dg hb.2.1).symm,EO hb.2.2,rfl,rfl⟩
  |false =>rw[hb]at h;obtain⟨c,d,g⟩:=tJ h;exact⟨c,acl _ d,g⟩
def iP(a:FuncId)(l:List (List Nat×V))(f:FuncId)(args:List V)(s:S):Option (V×S):=bif Nat.beq f a then look args l else none
 where
  look:List V->List (List Nat×V)->Option (V×S)
   |[.str x],(y,v)::r=>bif x==y then some (v,s)else look [.str x] r
   |_,_=>none
def Ft{s:S}:∀ {l:List (List Nat×V)} {args:List V} {v:V} {s':S},iP.look s args l=some (v,s')->∃ x,args=[.str x]/\(x,v)∈l/\s'=s
 |[],args,v,s',h=>by
  have:iP.look s args []=none:=by cases args with
   |nil=>rfl
   |cons a r=>cases a<;>cases r<;>rfl
  rw[this]at h;cases h
 |(y,u)::r,args,v,s',h=>by
  unfold iP.look at h;split at h
  .rename_i x y' u' r' b;cases b;cases hb:(x==y)with
   |true =>
    rw[hb]at h;cases h;have:x=y:=by simpa using hb
    subst this;exact⟨x,rfl,by simp,rfl⟩
   |false =>rw[hb]at h;obtain⟨c,d,g,i⟩:=Ft h;exact⟨c,d,acl _ g,i⟩
  .cases h
def By{a:FuncId}{l:List (List Nat×V)}{f:FuncId}{args:List V}{s:S}{v:V}{s':S}(h:iP a l f args s=some (v,s')):f=a/\∃ x,args=[.str x]/\(x,v)∈l/\s'=s:=by
 unfold iP at h;cases hb:Nat.beq f a with
 |false=>rw[hb]at h;cases h
 |true=>rw[hb]at h;exact⟨abj hb,Ft h⟩
end
end Go.AI
namespace Go.Proofs.YtpghiabjaglpgaaGreatDoor
open Go.AI
def HT:dX:={ P:=Tryz.prog,ext:=λf=>bif Nat.beq f 363 then some .indexByte else bif Nat.beq f 380 then some .count else none,orc:=λ_ _ _=>none }
def kinds:List (List Nat×V):=[([102],.int .i64 2),([111],.int .i64 2),([120],.int .i64 2)]
def pB:dX:={ P:=Tryz.prog,ext:=HT.ext,orc:=iP 253 kinds }
def mixed:Tryz.prog.follows .mixedOrders=true:=by kernel_rfl
def afk:(Tryz.f363.name == "runtime.NumGoroutine")=false/\Extern.findNext Tryz.f363=none/\Extern.find Tryz.f363=some NU.indexByte.entry:=⟨by kernel_rfl,by kernel_rfl,by kernel_rfl⟩
def afl:(Tryz.f380.name == "runtime.NumGoroutine")=false/\Extern.findNext Tryz.f380=none/\Extern.find Tryz.f380=some NU.count.entry:=⟨by kernel_rfl,by kernel_rfl,by kernel_rfl⟩
def iw{E:dX}(d:E.P=Tryz.prog)(g:E.ext=HT.ext):jM E:=by
 refine⟨λf k fn h a _=>?_⟩;rw[g]at h;rw[d]at a;simp only[HT]at h;cases b:Nat.beq f 363 with
 |true =>rw[b]at h;cases h;have:=abj b;subst this;rw[Tryz.func363]at a;cases a;exact afk
 |false =>
  rw[b]at h;cases c:Nat.beq f 380 with
  |true =>rw[c]at h;cases h;have:=abj c;subst this;rw[Tryz.func380]at a;cases a;exact afl
  |false=>rw[c]at h;cases h
def eQ{E:dX}(a:E.P=Tryz.prog)(b:E.ext=HT.ext):eC E:=Kw (iw a b) (by rw[a];exact mixed)
def adp:uA HT:=⟨λ_ _ _ _ _ h=>by cases h⟩
def aii:uZ HT 4000 253 [.str [102]] (.int .i64 2)=true:=by kernel_rfl
def aih:uZ HT 4000 253 [.str [111]] (.int .i64 2)=true:=by kernel_rfl
def aig:uZ HT 4000 253 [.str [120]] (.int .i64 2)=true:=by kernel_rfl
def Hj:uA pB:=by
 refine⟨λf args s v s' h=>?_⟩;obtain⟨rfl,x,rfl,hm,rfl⟩:=By h;simp only[kinds,afS,apy,or_false,aoz]at hm;rcases hm with⟨rfl,rfl⟩|⟨rfl,rfl⟩|⟨rfl,rfl⟩
 .exact jQ (iw rfl rfl) adp (eQ rfl rfl) aii rfl rfl _
 .exact jQ (iw rfl rfl) adp (eQ rfl rfl) aih rfl rfl _
 .exact jQ (iw rfl rfl) adp (eQ rfl rfl) aig rfl rfl _
