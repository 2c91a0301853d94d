/- Lemmas. No conditions. -/
import Derived.Test.YtjbplagjmopllaaGreatDoorA1
import Derived.Orders
import Derived.Test.YtjbplagjmopllaaGreatDoorChecked
set_option linter.all false
noncomputable section
namespace Go.AI
section
section ops
variable{s:S}{t t':T V}
theorem iZ:∀ {l:List Operand},(∀ x∈l,eval t x=eval t' x)->iq t l=iq t' l
 |[],_=>rfl
 |x::r,h=>by simp_all[iZ,abi,iq]
theorem nU:∀ {l:List (Nat×Operand)},(∀ x∈l,eval t x.2=eval t' x.2)->eG t l=eG t' l
 |[],_=>rfl
 |(i,x)::r,h=>by have ih:=nU (l:=r) λy hy=>h y (abi _ hy);simp_all[eG]
theorem pM{x:Option Operand}(h:∀ y,x=some y->eval t y=eval t' y):mu t x=mu t' x:=by
 cases x with
 |none=>rfl
 |some y=>simp only[mu,h y rfl]
theorem KA{E:dI}(o:Oper)(h:∀ x∈o.op.operands,eval t x=eval t' x):dC E t s o=dC E t' s o:=by
 obtain⟨dst,op,type,pos,after,guard⟩:=o;unfold dC;simp only at h ⊢;cases op<;>simp only[Op.operands]at h<;>simp only[dj]<;>try rfl
 case move x=>rw[h x (by simp)]
 case assign x=>rw[h x (by simp)]
 case pick c a b =>
  have g:∀ q:Bool,eval t (bif q then a else b)=eval t' (bif q then a else b):=λq=>by cases q<;>exact h _ (by simp)
  simp only[nX,h c (by simp),g]
 case box elem x=>rw[h x (by simp)]
 case build ty parts=>rw[nU λx d=>h x.2 (by simp;exact⟨x.1,by simpa using d⟩)]
 case buildSlice ty len parts=>rw[nU λx d=>h x.2 (by simp;exact⟨x.1,by simpa using d⟩)]
 case load ty x=>rw[h x (by simp)]
 case store ty x y=>rw[h x (by simp),h y (by simp)]
 case nilCheck x=>rw[h x (by simp)]
 case binOp op ty x y z=>rw[h x (by simp),h y (by simp)]
 case unOp op ty x=>rw[h x (by simp)]
 case convert src dst x=>rw[h x (by simp)]
 case makeInterface ty x=>rw[h x (by simp)]
 case makeFunc fn first cap=>rw[iZ λx d=>h x (by simp;left;simpa using d),iZ (l:=cap.toList) λx d=>h x (by simp;right;simpa using d)]
 case makeMap ty r=>cases r<;>rfl
 case makeSlice ty l c=>rw[h l (by simp),h c (by simp)]
 case slice ty x lo hi mx =>rw[h x (by simp),pM (x:=lo) λy hy=>h y (by subst hy;simp),pM (x:=hi) λy hy=>h y (by subst hy;simp),pM (x:=mx) λy hy=>h y (by subst hy;simp)]
 case fieldAddr ty x f=>rw[h x (by simp)]
 case field ty x f=>rw[h x (by simp)]
 case indexAddr ty x i=>rw[h x (by simp),h i (by simp)]
 case index ty x i=>rw[h x (by simp),h i (by simp)]
 case lookup ty x k ok=>rw[h x (by simp),h k (by simp)]
 case mapUpdate ty m k x=>rw[h m (by simp),h k (by simp),h x (by simp)]
 case insert ty m k x=>rw[h m (by simp),h k (by simp),h x (by simp)]
 case typeAssert x xt ty ok=>rw[h x (by simp)]
 case extract x i=>rw[h x (by simp)]
 case call c =>
  rw[iZ λx d=>h x (by simp only[Call.operands];exact Array.mem_append.2 (.inr (by simpa using d)))];unfold iI;split
  .split
   .rfl
   .rename_i f hc;rw[h f (by simp[Call.operands,hc])]
   .rfl
  .rfl
 case defer c =>
  rw[iZ λx d=>h x (by simp only[Call.operands];exact Array.mem_append.2 (.inr (by simpa using d)))];unfold qG;split
  .split
   .rename_i f hc;rw[h f (by simp[Call.operands,hc])]
   .rfl
  .rfl
 grind
end ops
variable{t:T V}{h:T dY}{n n':Nat}
theorem bv{x y:Option V}(a:x=y){v:V}{s1:S}(e:bL ⟨h,n⟩ x=some (.val v s1)):bL ⟨h,n'⟩ y=some (.val v ⟨h,n'⟩):=by
 subst a;cases x with
 |none=>cases e
 |some u=>cases e;rfl
theorem EX{P:Program}{ty:TypeId}{a:Ad}:loadVar P ⟨h,n⟩ ty a=loadVar P ⟨h,n'⟩ ty a:=rfl
theorem zL{a:Ad}{k:Nat}:loadCells ⟨h,n⟩ a k=loadCells ⟨h,n'⟩ a k:=rfl
theorem NY{P:Program}{ty:TypeId}{x:V}:jz P ty ⟨h,n⟩ x=jz P ty ⟨h,n'⟩ x:=rfl
theorem Oo{E:dI}(o:Oper)(hk:aL E.P o.op<=1){v:V}{s1:S}(e:dC E t ⟨h,n⟩ o=some (.val v s1)):dC E t ⟨h,n'⟩ o=some (.val v ⟨h,n'⟩):=by
 obtain⟨dst,op,type,pos,after,guard⟩:=o;unfold dC at e ⊢;simp only at e hk ⊢;cases op<;>simp only[dj]at e ⊢<;>try(cases e;done)
 case move x=>exact bv rfl e
 case assign x=>exact bv rfl e
 case pick c a b =>
  unfold nX at e ⊢;split at e
  .exact bv rfl e
  .cases e
 case build ty parts=>exact bv rfl e
 case load ty x =>
  unfold jm at e ⊢;split at e
  .exact bv EX e
  .cases e
 case nilCheck x=>exact bv rfl e
 case binOp op ty x y z=>exact bv rfl e
 case unOp op ty x=>exact bv rfl e
 case convert g dst x =>
  unfold gZ at e ⊢;split at e
  .rename_i p hx';unfold jj at e ⊢;unfold kz at e ⊢;cases j:E.P.underlying g with
   |none=>simp[j]at e
   |some ds =>
    cases m:E.P.underlying dst with
    |none=>simp[j,m]at e
    |some dd =>
     simp only[j,m]at e ⊢;cases dd<;>simp only at e ⊢<;>try(cases e;done)
     case int k=>cases p<;>simp only at e ⊢<;>first|(cases e;done)|(cases e;rfl)
     case string =>
      unfold CG at e ⊢;cases p<;>simp only at e ⊢<;>try(first|(cases e;done)|(cases e;rfl))
      case slice a z len cap sz =>
       rw[zL (n':=n')]at e;cases ds<;>simp only at e ⊢<;>try(cases e;done)
       rename_i el;split at e
       .rename_i y s2 hy;cases hb:gQ E.P el with
        |false=>rw[hb]at hy;cases hy
        |true =>
         rw[hb]at hy;simp only[ge]at hy ⊢;cases d:Nat.beq sz 0 with
         |true=>rw[d]at hy;cases hy
         |false =>
         rw[d]at hy;simp only[SE]at hy ⊢;split at hy
         .rename_i l hl;cases hy;cases e;rfl
         .cases hy
       .cases e
      case nilslice =>
       cases ds<;>simp only at e ⊢<;>try(cases e;done)
       rename_i el;cases hb:gQ E.P el with
       |false=>rw[hb]at e;cases e
       |true=>rw[hb]at e;cases e;rfl
     case slice el=>simp[aL,m]at hk
  .cases e
 case makeInterface ty x=>exact bv rfl e
 case makeFunc fn first cap=>exact bv rfl e
 case slice ty x lo hi mx=>exact bv rfl e
 case fieldAddr ty x f=>exact bv rfl e
 case field ty x f=>exact bv rfl e
 case indexAddr ty x i=>exact bv rfl e
 case index ty x i=>exact bv rfl e
 case lookup ty x k ok=>exact bv rfl e
 case typeAssert x xt ty ok=>exact bv rfl e
 case extract x i=>exact bv rfl e
 case call c =>
  unfold iI at e ⊢;split at e
  .rename_i args ha;split at e
   .rename_i b hc;have hb:b=.len\/b=.cap\/b=.max\/b=.min:=by grind [aL]
    rcases hb with rfl|rfl|rfl|rfl<;>simp only[jq]at e ⊢
    .split at e
     .split at e
      .exact bv NY e
      .cases e
     .cases e
    .split at e
     .split at e
      .exact bv rfl e
      .cases e
     .cases e
    .exact bv rfl e
    .exact bv rfl e
   .rename_i f hc;simp[aL,hc]at hk
   .cases e
  .cases e
 all_goals (first|(simp[aL]at hk;done)|(exfalso;revert hk;simp[aL]))
theorem Dv(acc:List Nat)(k:Nat):∀(l:List Edge) (s:Nat),(l.foldl (λs e=>bif Region.binds .any e then Nat.lor s (Nat.lor (Nat.pow 2 e.on) (acc.getD e.on 0))else s) s).testBit k=true ↔
 s.testBit k=true\/∃ e∈l,Region.binds .any e=true/\(k=e.on\/(acc.getD e.on 0).testBit k=true)
 |[],s=>by simp
 |e::l,s=>by
  rw[akm,Dv acc k l];cases hb:Region.binds .any e with
  |false =>grind
  |true =>
   simp only[ge,abn,exists_eq_or_imp,hb,ajR];have:(Nat.lor s (Nat.lor (Nat.pow 2 e.on) (acc.getD e.on 0))).testBit k=(s.testBit k||(decide (e.on=k)||(acc.getD e.on 0).testBit k)):=by simp_all[Nat.testBit_two_pow]
   grind
theorem JX(o:Oper)(acc:List Nat)(k:Nat):(rR o acc).testBit k=true↔∃ e∈o.after,Region.binds .any e=true/\(k=e.on\/(acc.getD e.on 0).testBit k=true):=by unfold rR;rw[Dv];simp
theorem uO:∀(l:List Oper) (acc:List Nat),∃ r,lj l acc=acc++r/\r.length=l.length/\∀ j o,l[j]? = some o->r[j]? = some (rR o (acc++r.take j))
 |[],acc=>⟨[],by simp[lj],rfl,λj o h=>by simp at h⟩
 |o::l,acc=>by
  obtain⟨r,b,c,h3⟩:=uO l (acc++[rR o acc]);refine⟨rR o acc::r,by simp[lj,b],by simp[c],λj o' a=>?_⟩;cases j with
  |zero=>simp at a;subst a;simp
  |succ j =>grind
def mJ(ops:Array Oper)(i k:Nat):Prop:=((lj ops.toList []).getD i 0).testBit k=true
theorem Rc{ops:Array Oper}{i:Nat}{o:Oper}(ho:ops[i]? = some o):(lj ops.toList []).getD i 0=rR o ((lj ops.toList []).take i):=by obtain⟨r,h1,h2,h3⟩:=uO ops.toList [];simp_all
def gB(ops:Array Oper):Prop:=∀ i o,ops[i]? = some o->∀ e∈o.after,Region.binds .any e=true->e.on<i
theorem NE{l:List Nat}{i j:Nat}(h:j<i):(l.take i).getD j 0=l.getD j 0:=by grind
theorem xO{ops:Array Oper}(c:gB ops){i k:Nat}{o:Oper}(ho:ops[i]? = some o):mJ ops i k↔∃ e∈o.after,Region.binds .any e=true/\(k=e.on\/mJ ops e.on k):=by
 unfold mJ;rw[Rc ho,JX];constructor
 .grind
 .rintro⟨e,a,b,d⟩;refine⟨e,a,b,?_⟩;rw[NE (c i o ho e a b)];exact d
theorem LT{ops:Array Oper}{i k:Nat}(h:mJ ops i k):∃ o,ops[i]? = some o:=by
 cases ho:ops[i]? with
 |some o=>exact⟨o,rfl⟩
 |none =>
  exfalso;unfold mJ at h;obtain⟨r,h1,h2,h3⟩:=uO ops.toList []
  grind
theorem uG{ops:Array Oper}(a:gB ops):∀(i k:Nat),mJ ops i k->k<i:=by
 intro i;induction i using Nat.strongRecOn with
 |ind i ih =>
  intro k h;obtain⟨o,ho⟩:=LT h;obtain⟨e,b,c,h3⟩:=(xO a ho).1 h;have hb:=a i o ho e b c
  grind
theorem uF{ops:Array Oper}(a:gB ops):∀(i k m:Nat),mJ ops i k->mJ ops k m->mJ ops i m:=by
 intro i;induction i using Nat.strongRecOn with
 |ind i ih =>
  intro k m h hm;obtain⟨o,ho⟩:=LT h;obtain⟨e,c,d,b⟩:=(xO a ho).1 h;refine(xO a ho).2 ⟨e,c,d,.inr ?_⟩;rcases b with rfl|b
  .exact hm
  .exact ih e.on (a i o ho e c d) k m b hm
theorem zw:∀ {l:List Oper} {i k:Nat} {o:Oper},(k,o)∈cS l i↔i<=k/\l[k - i]? = some o
 |[],i,k,o=>by simp[cS]
 |x::l,i,k,o=>by
  simp only[cS,abn,aiQ];rw[zw (l:=l) (i:=i+1)]
  grind
theorem eh{ops:Array Oper}{k:Nat}{o:Oper}:(k,o)∈cS ops.toList 0↔ops[k]? = some o:=by rw[zw];simp
structure lV(ops:Array Oper):Prop where
 back:gB ops
 guard:∀(i:Nat) (o:Oper) (g:Nat) (b:Bool),ops[i]? = some o->o.guard=some (g,b)->mJ ops i g
 dst:∀(i j:Nat) (o q:Oper) (d:Tmp),ops[i]? = some o->ops[j]? = some q->i≠j->q.dst=some d->o.dst≠some d
 sees:∀(i j:Nat) (o q:Oper) (d:Tmp),ops[i]? = some o->ops[j]? = some q->i≠j->q.dst=some d->d∈sees o->mJ ops i j\/mJ ops j i
theorem Ii{ops:Array Oper}(h:KG (lj ops.toList []) (cS ops.toList 0)=true):lV ops:=by
 have key:∀ i o,ops[i]? = some o->_:=λi o ho=>afx.1 h (i,o) (eh.2 ho);refine⟨λi o ho e r hb=>?_,λi o g b ho u=>?_,λi j o q d ho c l p=>?_,λi j o q d ho c l p v=>?_⟩
 .have:=key i o ho;simp only[aaV]at this;have a:=afx.1 this.1.1 e (by simpa using r);simp_all
 .have:=key i o ho;simp only[aaV]at this;have a:=this.1.2;rw[u]at a;exact a
 .have:=key i o ho;simp only[aaV]at this;have a:=afx.1 this.2 (j,q) (eh.2 c);simp_all
 .have:=key i o ho;simp only[aaV]at this;have a:=afx.1 this.2 (j,q) (eh.2 c);have hb:Nat.beq i j=false:=by grind [Nat.eq_of_beq_eq_true]
  simp only[hb,p,ajj,aaV]at a;have m:=a.2;have hc:(sees o).contains d=true:=by simpa using v
  rw[hc]at m;simp only[aep,ajj,ajm]at m;exact m
def gv(ops:Array Oper)(R:Nat->Prop):Prop:=∀ i k,R i->mJ ops i k->R k
def with1(R:Nat->Prop)(i:Nat):Nat->Prop:=λk=>R k\/k=i
theorem gv.with1{ops:Array Oper}{R:Nat->Prop}(h:gv ops R){i:Nat}(hi:∀ k,mJ ops i k->R k):gv ops (with1 R i):=by
 intro a k b hk;rcases b with b|rfl
 .exact .inl (h a k b hk)
 .exact .inl (hi k hk)
theorem HC(t:T V)(d:Option Tmp)(v:V)(i:Nat):(putD t d v).get (eX i)=if d=some i then some v else t.get (eX i):=RW t d (some v) i
end
section
mutual
theorem yM:∀ {x y:V},bq.sameV x y=true->x=y
 |.bool a,y,h=>by cases y<;>simp[bq.sameV]at h;rw[h]
 |.int j a,y,h=>by cases y<;>simp[bq.sameV]at h;rw[h.1,h.2]
 |.str a,y,h=>by cases y<;>simp[bq.sameV]at h;rw[h]
 |.ptr a,y,h=>by cases y<;>simp[bq.sameV]at h;rename_i b;obtain⟨⟨i,l⟩,o⟩:=h;cases a;cases b;simp_all
 |.nilptr,y,h=>by cases y<;>simp[bq.sameV]at h;rfl
 |.slice a z n c sz,y,h=>by cases y<;>simp[bq.sameV]at h;rename_i b y m d sy;cases a;cases b;simp_all
 |.nilslice,y,h=>by cases y<;>simp[bq.sameV]at h;rfl
 |.map a,y,h=>by cases y<;>simp[bq.sameV]at h;rw[h]
 |.nilmap,y,h=>by cases y<;>simp[bq.sameV]at h;rfl
 |.nilFunc,y,h=>by cases y<;>simp[bq.sameV]at h;rfl
 |.nilIface,y,h=>by cases y<;>simp[bq.sameV]at h;rfl
 |.func f a b,y,h=>by cases y<;>simp[bq.sameV]at h;rename_i g c d;obtain⟨⟨i,l⟩,o⟩:=h;rw[i,dc l,dc o]
 |.iface t v,y,h=>by cases y<;>simp[bq.sameV]at h;rw[h.1,yM h.2]
 |.agg a,y,h=>by cases y<;>simp[bq.sameV]at h;rw[dc h]
 |.atom a,y,h=>by cases y<;>simp[bq.sameV]at h;rw[h]
 |.tuple a,y,h=>by cases y<;>simp[bq.sameV]at h;rw[dc h]
theorem dc:∀ {x y:List V},bq x y=true->x=y
 |[],y,h=>by cases y<;>simp[bq]at h;rfl
 |v::x,y,h=>by
  cases y with
  |nil=>simp[bq]at h
  |cons u y =>simp only[bq,aaV]at h;rw[yM h.1,dc h.2]
end
theorem sZ{E:dI}{t:T V}{o:Oper}:∀ {l:List S} {v:V},gL E t o l=some v->∀ s∈l,∃ s1,dC E t s o=some (.val v s1)
 |[],v,h=>by cases h
 |[s],v,h=>λs' a=>by grind [gL]
 |s::s2::r,v,h=>λs' a=>by
  simp only[gL]at h;split at h
  .rename_i u s1 hu;split at h
   .rename_i y hy;cases hb:bq [u] [y]with
    |false=>rw[hb]at h;cases h
    |true =>
     rw[hb]at h;cases h;have:=dc hb;simp at this;subst this;rcases abn.1 a with rfl|a
     .grind
     .exact sZ hy s' a
   .cases h
  .cases h
theorem Ky{E:dI}{rec:iK}{t:T V}{s:S}{o:Oper}{b:Option Bool}{v:V}{s':S}:gX E rec t s o b=some (.val v s')↔jE E rec t s o b=some (v,s'):=by
 cases b with
 |none=>simp[gX,jE]
 |some b=>cases b with
  |false=>simp[gX,jE]
  |true =>
   simp only[gX,jE];cases dC E t s o with
   |none=>simp[kn,ru]
   |some x=>cases x with
    |enter f args s1 =>
     simp only[kn,ru];cases rec f args none s1 with
     |none=>simp[nW,AZ]
     |some out=>obtain⟨e,u,s2⟩:=out;cases e<;>simp[nW,AZ]
    |_=>simp[kn,ru]
structure Ev where
 i:Nat
 o:Oper
 v:V
 t:T V
 a:S
 b:S
section
variable(E:dI)(rec:iK)(ops:Array Oper)(t0:T V)(s0:S)
def kJ(o:Oper):Prop:=aL E.P o.op=3
def cy:List Ev->S
 |[]=>s0
 |e::_=>e.b
def NA:List Ev->Prop
 |[]=>True
 |e::_=>kJ E e.o
def qd(Y:List Ev)(t:T V):Prop:=∀ d,(∃ q∈Y,q.o.dst=some d/\t.get (eX d)=some q.v)\/((∀ q∈Y,q.o.dst≠some d)/\t.get (eX d)=t0.get (eX d))
def aaZ(Y:List Ev)(e:Ev):Prop :=
 (aL E.P e.o.op=0/\e.b=e.a/\∃ s1,dC E e.t e.a e.o=some (.val e.v s1)) \/
 (aL E.P e.o.op=1/\e.b=e.a/\∀ Z F,Y=Z++F->NA E F->(∀ q∈Z,kJ E q.o->¬ mJ ops e.i q.i)->∃ s1,dC E e.t (cy s0 F) e.o=some (.val e.v s1)) \/
 (aL E.P e.o.op=2/\dC E e.t e.a e.o=some (.val e.v e.b))
def Tb(Y:List Ev)(e:Ev):Prop :=
 (¬ kJ E e.o/\((bT ops e.t e.o=some false/\e.v=V.undef/\e.b=e.a)\/(bT ops e.t e.o=some true/\aaZ E ops s0 Y e))) \/
 (kJ E e.o/\jE E rec e.t e.a e.o (bT ops e.t e.o)=some (e.v,e.b)/\e.a.next<=e.b.next/\∀ q∈Y,mJ ops e.i q.i)
structure Gn(Y:List Ev)(e:Ev):Prop where
 op:ops[e.i]? = some e.o
 pre:∀ k,mJ ops e.i k->∃ q∈Y,q.i=k
 new:∀ q∈Y,q.i≠e.i
 slots:qd t0 Y e.t
 st:e.a=cy s0 Y
 step:Tb E rec ops s0 Y e
def ef:List Ev->Prop
 |[]=>True
 |e::Y=>Gn E rec ops t0 s0 Y e/\ef Y
def dR(n:Nat):List Ev->List (Nat×S)
 |[]=>[(n,s0)]
 |e::Y=>if aL E.P e.o.op=3 then(e.i,e.b)::dR n Y else dR n Y
end
section
variable{E:dI}{rec:iK}{ops:Array Oper}{t0:T V}{s0:S}
theorem qd.put{Y:List Ev}{t:T V}(h:qd t0 Y t)(e:Ev):qd t0 (e::Y) (putD t e.o.dst e.v):=by
 intro d;rw[HC];by_cases a:e.o.dst=some d
 .grind
 .rw[afp a];rcases h d with⟨q,b,c,h3⟩|⟨b,c⟩
  .grind
  grind
theorem Ah{m n:Nat}:∀ {Z F:List Ev},NA E F->(∀ q∈Z,kJ E q.o->¬ m.testBit q.i=true)->cy s0 F∈pF m (dR E s0 n (Z++F))
 |[],[],_,_=>by simp[dR,pF,cy]
 |[],e::F,h,_=>by have h:aL E.P e.o.op=3:=h;simp[dR,h,pF,cy]
 |z::Z,F,h,a=>by
  have ih:=Ah (n:=n) (Z:=Z) h (λq b=>a q (abi _ b));simp only[agp,dR];split
  .rename_i hk;have:=a z (by simp) hk
   grind [pF]
  .exact ih
theorem Fk{ms:List Nat}(b:ms=lj ops.toList []){Y:List Ev}{t:T V}{s:S}{i n:Nat}{o:Oper}{v:V}{s':S}(hk:¬ kJ E o)
 (hs:s=cy s0 Y) (e:jQ E (dR E s0 n Y) (ms.getD i 0) t s o (bT ops t o)=some (v,s')):Tb E rec ops s0 Y ⟨i,o,v,t,s,s'⟩:=by
 left;refine⟨hk,?_⟩;unfold jQ at e;split at e
 .rename_i c;right;refine⟨c,?_⟩;unfold Fl at e;split at e
  .rename_i d;left;unfold sF at e;split at e
   .rename_i u s1 a;cases e;exact⟨d,rfl,s1,a⟩
   .cases e
  .rename_i g;right;left;unfold sY at e;split at e
   .rename_i u a;cases e;refine⟨g,rfl,λZ F l m p=>?_⟩;subst l;refine sZ a _ (Ah m λq r x hb=>p q r x ?_);subst b;exact hb
   .cases e
  .rename_i j;right;right;unfold xA at e;split at e
   .rename_i u s1 a;cases e;exact⟨j,a⟩
   .cases e
  .cases e
 .rename_i c;cases e;exact .inl ⟨c,rfl,rfl⟩
 .cases e
theorem gG(d i k:Nat):(Nat.lor d (Nat.pow 2 i)).testBit k=(d.testBit k||decide (i=k)):=by simp_all[Nat.testBit_two_pow]
def vT(done:Nat)(Y:List Ev):Prop:=∀ k,done.testBit k=true↔∃ q∈Y,q.i=k
theorem vT.cons{done:Nat}{Y:List Ev}(h:vT done Y)(e:Ev):vT (Nat.lor done (Nat.pow 2 e.i)) (e::Y):=by
 intro k;rw[gG,ajm,h k]
 grind
structure St(E:dI)(rec:iK)(ops:Array Oper)(t0:T V)(s0:S)(Y:List Ev)(done:Nat)(t:T V)(s:S):Prop where
 run:ef E rec ops t0 s0 Y
 done:vT done Y
 slots:qd t0 Y t
 st:s=cy s0 Y
theorem lR{n:Nat}:∀ {Z Y:List Ev},(∀ q∈Z,¬ kJ E q.o)->dR E s0 n (Z++Y)=dR E s0 n Y
 |[],_,_=>rfl
 |z::Z,Y,h=>by have hz:¬ aL E.P z.o.op=3:=h z (by simp);simp_all[dR,lR,abi]
theorem pi(p:gB ops){ms:List Nat}(b:ms=lj ops.toList []){effs:Nat}(heffs:∀ i o,ops[i]? = some o->kJ E o->effs.testBit i=true){m n:Nat}(hm:∀ i k,m.testBit i=true->mJ ops i k->m.testBit k=true){Y0:List Ev} :
 ∀(l:List Oper) (i:Nat),ops.toList.drop i=l->∀(Y:List Ev) (done:Nat) (t:T V) (s:S),St E rec ops t0 s0 Y done t s->dR E s0 n Y=dR E s0 n Y0->(∀ k,k<i->m.testBit k=true->done.testBit k=true) ->
  ∀ done' t' s',cz E ops ms effs (dR E s0 n Y0) m (cS l i) done t s=some (done',t',s') ->
   ∃ Z,St E rec ops t0 s0 (Z++Y) done' t' s'/\(∀ q∈Z,¬ kJ E q.o/\m.testBit q.i=true)/\∀ k,k<ops.size->m.testBit k=true->done'.testBit k=true
 |[],i,hl,Y,done,t,s,a,r,j,done',t',s',e=>by
  simp only[cS,cz,abf,aiQ]at e;obtain⟨rfl,rfl,rfl⟩:=e;refine⟨[],a,by simp,λk hk hb=>j k ?_ hb⟩;have:=List.drop_eq_nil_iff.1 hl
  grind
 |o::l,i,hl,Y,done,t,s,a,r,j,done',t',s',e=>by
  have ho:ops[i]? = some o:=by
   have:(ops.toList.drop i)[0]? = some o:=by rw[hl];rfl
   grind
  have c:ops.toList.drop (i+1)=l:=by grind [List.tail_drop]
  simp only[cS,cz]at e;cases hb:(!(m.testBit i)||done.testBit i)with
  |true =>
   rw[hb]at e;simp only[ge]at e;refine pi p b heffs hm l (i+1) c Y done t s a r (λk hk d=>?_) done' t' s' e
   grind
  |false =>
   rw[hb]at e;simp only[SE]at e;simp only[aiX,Bool.not_eq_false']at hb;cases u:effs.testBit i with
   |true=>rw[u]at e;cases e
   |false =>
    rw[u]at e;simp only[SE]at e;have hk:¬ kJ E o:=λh=>by have:=heffs i o ho h;rw[u]at this;cases this
    split at e
    .rename_i v s1 g;rw[cI]at e;have x:Gn E rec ops t0 s0 Y ⟨i,o,v,t,s,s1⟩:=by
      refine⟨ho,λk hk=>(a.done k).1 (j k (uG p i k hk) (hm i k hb.1 hk)),λq G y=>?_,a.slots,a.st,?_⟩
      .have:=(a.done i).2 ⟨q,G,y⟩
       grind
      .rw[<- r]at g;exact Fk b hk a.st g
     have z:St E rec ops t0 s0 (⟨i,o,v,t,s,s1⟩::Y) (Nat.lor done (Nat.pow 2 i)) (putD t o.dst v) s1:=⟨⟨x,a.run⟩,a.done.cons ⟨i,o,v,t,s,s1⟩,a.slots.put ⟨i,o,v,t,s,s1⟩,rfl⟩;have hhist:dR E s0 n (⟨i,o,v,t,s,s1⟩::Y)=dR E s0 n Y0:=by
      have A:¬ aL E.P o.op=3:=hk
      grind [dR]
     obtain⟨Z,H,h2,I⟩:=pi p b heffs hm l (i+1) c _ _ _ _ z hhist (λk A d=>by
      rw[gG];by_cases B:i=k
      .simp[B]
      .rw[j k (by omega) d];rfl) done' t' s' e
     refine⟨Z++[⟨i,o,v,t,s,s1⟩],by simpa using H,λq G=>?_,I⟩
     grind
    .cases e
def abd(ops:Array Oper):List Ev->Prop
 |[]=>True
 |e::Y=>∀ q∈Y,mJ ops e.i q.i
theorem ef.at:∀ {X:List Ev} {e:Ev} {Y:List Ev},ef E rec ops t0 s0 (X++e::Y)->Gn E rec ops t0 s0 Y e/\ef E rec ops t0 s0 Y
 |[],_,_,h=>h
 |_::_,_,_,h=>ef.at h.2
def Tf(E:dI)(rec:iK)(ops:Array Oper)(t0:T V)(s0:S)(ds:List eO)(up:Option Md)(r:kO):Prop :=
 ∃(i:Nat) (o:Oper) (Z Y:List Ev) (done:Nat) (a:T V) (c:List Gm) (s2:S),
  r=.panicked c (dU done (cS ops.toList 0) a) ds up s2/\ops[i]? = some o/\kJ E o/\ef E rec ops t0 s0 (Z++Y)/\vT done Y/\qd t0 Y a /\
  gX E rec a (cy s0 Y) o (bT ops a o)=some (.pan c s2)/\(∀ q∈Y,mJ ops i q.i)/\(∀ k,mJ ops i k->∃ q∈Y,q.i=k)/\(∀ q∈Z,¬ kJ E q.o)/\(∀ q∈Z++Y,q.i≠i) /\
  ∀ k,k<ops.size->k≠i->¬ mJ ops k i->∃ q∈Z++Y,q.i=k
theorem nN{ms:List Nat}{i k:Nat}:∀ {l:List (Nat×Oper)},(dT ms i l).testBit k=true↔(∃ x∈l,x.1=k)/\(ms.getD k 0).testBit i=false/\k≠i
 |[]=>by simp[dT]
 |(a,o)::r=>by
  simp only[dT];have ih:=nN (ms:=ms) (i:=i) (k:=k) (l:=r);cases hb:((ms.getD a 0).testBit i||Nat.beq a i)with
  |true =>
   simp only[ge];rw[ih];constructor
   .rintro⟨⟨x,c,b⟩,d⟩;exact⟨⟨x,abi _ c,b⟩,d⟩
   .rintro⟨⟨x,c,b⟩,d,j⟩;rcases abn.1 c with rfl|c
    .exfalso;simp only at b;subst b;simp only[ajm]at hb;rcases hb with hb|hb
     .rw[d]at hb;cases hb
     .exact j (aaO hb)
    .exact⟨⟨x,c,b⟩,d,j⟩
  |false =>
   simp only[SE];have g:(Nat.lor (Nat.pow 2 a) (dT ms i r)).testBit k=(decide (a=k)||(dT ms i r).testBit k):=by show(2 ^ a ||| dT ms i r).testBit k=_;rw[Nat.testBit_or,Nat.testBit_two_pow]
   rw[g,ajm,ih];simp only[aiX]at hb;constructor
   .rintro(h|⟨⟨x,c,b⟩,d⟩)
    .have h:a=k:=by simpa using h
     subst h;refine⟨⟨(a,o),by simp,rfl⟩,hb.1,λh=>?_⟩;have b:=hb.2;rw[h,acD]at b;cases b
    .exact⟨⟨x,abi _ c,b⟩,d⟩
   .rintro⟨⟨x,c,b⟩,d⟩;rcases abn.1 c with rfl|c
    .exact .inl (by simpa using b)
    .exact .inr ⟨⟨x,c,b⟩,d⟩
theorem MM(p:gB ops){ms:List Nat}(g:ms=lj ops.toList []){effs n:Nat}(heffs:∀ i o,ops[i]? = some o->kJ E o->effs.testBit i=true){ds:List eO}{up:Option Md} :
 ∀(es:List (Nat×Oper)),(∀ x∈es,ops[x.1]? = some x.2/\kJ E x.2)->DI ms (es.map (·.1))=true->∀(Y:List Ev) (done:Nat) (t:T V) (s:S),St E rec ops t0 s0 Y done t s->NA E Y->abd ops Y ->
  (∀ e Y' x r,Y=e::Y'->es=x::r->mJ ops x.1 e.i)->∀ r,gJ E ops ms effs (cS ops.toList 0) rec ds up es (dR E s0 n Y) done t s=some r ->
   (∃ L t' s',r=.on t' ds up s'/\ef E rec ops t0 s0 L/\qd t0 L t'/\s'=cy s0 L/\∀ k,k<ops.size->∃ q∈L,q.i=k)\/Tf E rec ops t0 s0 ds up r
 |[],A,u,Y,done,t,s,U,hF,hB,hP,r,e=>by
  simp only[gJ]at e;split at e
  .rename_i I z s1 hp;cases e;have hbits:∀ k,(Nat.pow 2 ops.size - 1).testBit k=decide (k<ops.size):=λk=>by show(2 ^ ops.size - 1).testBit k=_;rw[Nat.testBit_two_pow_sub_one]
   obtain⟨Z,d,O,Q⟩:=pi p g heffs (m:=Nat.pow 2 ops.size - 1) (n:=n) (λi k hi hk=>by rw[hbits]at hi ⊢;have:=uG p i k hk;simp at hi ⊢;omega) ops.toList 0 rfl Y done t s U rfl (λk hk=>absurd hk (Nat.not_lt_zero _)) _ _ _ hp
   refine .inl ⟨_,z,s1,rfl,d.run,d.slots,d.st,λk hk=>(d.done k).1 (Q k hk ?_)⟩;rw[hbits];simpa using hk
  .cases e
 |(i,o)::W,A,u,Y,done,t,s,U,hF,hB,hP,r,e=>by
  simp only[gJ]at e;obtain⟨ho,hk⟩:=A (i,o) (by simp);simp only at ho hk;have j:∀ k,(ms.getD i 0).testBit k=true↔mJ ops i k:=λk=>by subst g;rfl
  split at e
  .rename_i I z s1 hp
   obtain⟨Z,d,O,Q⟩:=pi p g heffs (m:=ms.getD i 0) (n:=n) (λa k J hk=>by rw[j]at J ⊢;exact uF p i a k J hk) ops.toList 0 rfl Y done t s U rfl (λk hk=>absurd hk (Nat.not_lt_zero _)) _ _ _ hp
   have l:∀ q∈Z++Y,mJ ops i q.i:=by
    intro q b;rcases aeS.1 b with b|b
    .exact(j _).1 (O q b).2
    .cases Y with
     |nil=>cases b
     |cons e0 Y' =>
      have h0:=hP e0 Y' (i,o) W rfl rfl;rcases abn.1 b with rfl|b
      .exact h0
      .exact uF p i e0.i q.i h0 (hB q b)
   have hisz:i<ops.size:=by
    rcases aiU i ops.size with h|h
    .exact h
    .rw[ajb h]at ho;cases ho
   split at e
   .rename_i v s2 K;have hst:=Ky.1 K;cases hc:(Nat.ble s1.next s2.next&&!(I.testBit i)&&effs.testBit i)with
    |false=>rw[hc]at e;cases e
    |true =>
     rw[hc]at e;simp only[ge]at e;rw[cI]at e;simp only[aaV,aiG]at hc;have X:Gn E rec ops t0 s0 (Z++Y) ⟨i,o,v,z,s1,s2⟩:=by
      refine⟨ho,λk hk=>(d.done k).1 (Q k ?_ ((j k).2 hk)),λq b hqi=>?_,d.slots,d.st,.inr ⟨hk,hst,abh hc.1.1,l⟩⟩
      .have:=uG p i k hk;have:i<ops.size:=by
        rcases aiU i ops.size with h|h
        .exact h
        .rw[ajb h]at ho;cases ho
       omega
      .have:=(d.done i).2 ⟨q,b,hqi⟩;rw[hc.1.2]at this;cases this
     have hhist:dR E s0 n (⟨i,o,v,z,s1,s2⟩::(Z++Y))=(i,s2)::dR E s0 n Y:=by have hk':aL E.P o.op=3:=hk;simp only[dR,agC hk'];rw[lR λq b=>(O q b).1]
     rw[<- hhist]at e;refine MM p g heffs W (λx hx=>A x (abi _ hx)) ?_ (⟨i,o,v,z,s1,s2⟩::(Z++Y)) _ _ _ ⟨⟨X,d.run⟩,d.done.cons ⟨i,o,v,z,s1,s2⟩,d.slots.put ⟨i,o,v,z,s1,s2⟩,rfl⟩ hk l ?_ r e
     .cases W with
      |nil=>rfl
      |cons x r'' =>simp only[acg,DI,aaV]at u;exact u.2
     .intro e1 Y1 x r1 hY hr;cases hY;subst hr;simp only[acg,DI,aaV]at u;have:=u.1;subst g;exact this
   .rename_i c s2 hst;cases M:I.testBit i with
    |true=>rw[M]at e;cases e
    |false =>
     rw[M]at e;simp only[SE]at e;cases B:cz E ops ms effs (dR E s0 n Y) (dT ms i (cS ops.toList 0)) (cS ops.toList 0) I z s1 with
     |none=>rw[B]at e;cases e
     |some x =>
      rw[B]at e;obtain⟨d2,t2,s3⟩:=x;simp only[LX,abf]at e;have G:∀ k,(dT ms i (cS ops.toList 0)).testBit k=true↔(∃ x∈cS ops.toList 0,x.1=k)/\¬ mJ ops k i/\k≠i:=λk=>by
       rw[nN];have:(ms.getD k 0).testBit i=false↔¬ mJ ops k i:=by rw[<- Bool.not_eq_true];subst g;exact Iff.rfl
       rw[this]
      have hh1:dR E s0 n (Z++Y)=dR E s0 n Y:=lR λq b=>(O q b).1
      obtain⟨Z2,g1,g2,g3⟩:=pi p g heffs (m:=dT ms i (cS ops.toList 0)) (n:=n) (Y0:=Y) (λa k J hk=>by
       rw[G]at J ⊢;obtain⟨⟨x,x1,x2⟩,p1,p2⟩:=J;have hka:=uG p a k hk;refine⟨?_,λy=>p1 (uF p a k i hk y),λy=>p1 (by rw[<- y];exact hk)⟩;have N:ops[a]? = some x.2:=by rw[<- x2];exact eh.1 x1
       have:a<ops.size:=by
        rcases aiU a ops.size with h|h
        .exact h
        .rw[ajb h]at N;cases N
       exact⟨(k,ops[k]'(by omega)),eh.2 (by simp),rfl⟩) ops.toList 0 rfl (Z++Y) I z s1 d hh1 (λk hk=>absurd hk (Nat.not_lt_zero _)) _ _ _ B
      refine .inr ⟨i,o,Z2,Z++Y,I,z,c,s2,e.symm,ho,hk,g1.run,d.done,d.slots,by rw[<- d.st];exact hst,l,λk hk=>(d.done k).1 (Q k ?_ ((j k).2 hk)),λq b=>(g2 q b).1,λq b=>?_,λk H y hp=>?_⟩
      .have:=uG p i k hk;omega
      .rcases aeS.1 b with b|b
       .exact((G _).1 (g2 q b).2).2.2
       .have:=uG p i q.i (l q b);omega
      .refine(g1.done k).1 (g3 k H ((G k).2 ⟨⟨(k,ops[k]'H),eh.2 (by simp[H]),rfl⟩,hp,y⟩))
   .cases e
  .cases e
theorem Am(k:Nat):∀(es:List (Nat×Oper)) (s:Nat),(es.foldl (λs x=>Nat.lor s (Nat.pow 2 x.1)) s).testBit k=true↔s.testBit k=true\/∃ x∈es,x.1=k
 |[],s=>by simp
 |x::es,s=>by
  rw[akm,Am k es,gG]
  grind
theorem FD{t:T V}{ds:List eO}{up:Option Md}{s:S}{recR:Cx}{r:kO}(e:iS E ops rec recR t ds up s=some r) :
 lV ops/\((∃ L t' s',r=.on t' ds up s'/\ef E rec ops t s L/\qd t L t'/\s'=cy s L/\∀ k,k<ops.size->∃ q∈L,q.i=k)\/Tf E rec ops t s ds up r):=by
 unfold iS at e;split at e
 .rename_i ms l es mask hp;simp only[Qs]at hp;cases hc:(KG (lj ops.toList []) (cS ops.toList 0)&&DI (lj ops.toList []) ((tT E.P (cS ops.toList 0)).map (·.1)))with
  |false=>rw[hc]at hp;cases hp
  |true =>
   rw[hc]at hp;simp only[ge,abf,aff.mk.injEq]at hp;obtain⟨rfl,rfl,rfl,rfl⟩:=hp;simp only[aaV]at hc;have hD:=Ii hc.1;refine⟨hD,?_⟩;refine MM (n:=ops.size) hD.back rfl (λi o ho hk=>?_) _ (λx a=>?_) hc.2 [] 0 t s ⟨trivial,λk=>by simp,λd=>.inr ⟨by simp,rfl⟩,rfl⟩ trivial trivial (λe Y' x r h=>by cases h) r e
   .rw[Am];refine .inr ⟨(i,o),?_,rfl⟩;unfold tT;rw[ajn];have hk:aL E.P o.op=3:=hk;exact⟨eh.2 ho,by simp[hk]⟩
   .unfold tT at a;rw[ajn]at a;obtain⟨x1,x2⟩:=x;exact⟨eh.1 a.1,by have h:=a.2;simp at h;exact h⟩
 .cases e
end
end
section
def aJ.to(ρ:aJ)(n:Nat):aJ:=λf v=>if f<n then ρ f v else none
theorem aJ.to_le(ρ:aJ){n m:Nat}(h:n<=m):(ρ.to n).le (ρ.to m):=λf v l e=>by grind [aJ.to]
theorem aJ.to_le_self(ρ:aJ)(n:Nat):(ρ.to n).le ρ:=λf v l e=>by grind [aJ.to]
theorem aJ.to_mono{ρ ρ':aJ}(h:ρ.le ρ')(n:Nat):(ρ.to n).le (ρ'.to n):=λf v l e=>by
 unfold aJ.to at e ⊢;split at e
 .rename_i a;rw[agC a];exact h _ _ _ e
 .cases e
theorem aJ.to_lt{ρ:aJ}{n f v:Nat}{l:BR}(e:ρ.to n f v=some l):f<n/\ρ f v=some l:=by grind [aJ.to]
theorem aJ.to_of{ρ:aJ}{n f v:Nat}(h:f<n):ρ.to n f v=ρ f v:=by unfold aJ.to;rw[agC h]
theorem aJ.to_ge{ρ:aJ}{n f v:Nat}(h:n<=f):ρ.to n f v=none:=by unfold aJ.to;rw[afp (by omega)]
theorem aJ.to_all{ρ:aJ}{n:Nat}(h:∀ f v,n<=f->ρ f v=none):ρ.to n=ρ:=by grind [aJ.to_of,aJ.to_ge]
theorem HR.frame{ρ:aJ}{s:S}{w w':World}(h:HR ρ s w)(a:w.heap.size<=w'.heap.size)(c:∀ b,b<w.heap.size->w'.heap[b]? = w.heap[b]?):HR ρ s w' :=
 ⟨h.fresh,h.inj,λf v l e=>afs (h.low f v l e) a,λf B hB=>(h.blk f B hB).keep ρ.le_refl (λ_ d=>d) (λv l e=>c _ (h.low _ _ _ e)),h.dom,h.rw⟩
def Inj(ρ:aJ):Prop:=∀ f v l f' v' l',ρ f v=some l->ρ f' v'=some l'->l.b=l'.b->f=f'/\l.base=l'.base
def Low(ρ:aJ)(w:World):Prop:=∀ f v l,ρ f v=some l->l.b<w.heap.size
theorem HR.widen{ρ:aJ}{s:S}{w:World}{n:Nat}(h:HR (ρ.to s.next) s w)(hi:Inj ρ)(hl:Low ρ w)(c:s.next<=n):HR (ρ.to n) ⟨s.h,n⟩ w:=by
 refine⟨λf v d=>aJ.to_ge d,λf v l f' v' l' e g=>hi _ _ _ _ _ _ (aJ.to_lt e).2 (aJ.to_lt g).2,λf v l e=>hl _ _ _ (aJ.to_lt e).2,λf B hB=>?_,λf B hB=>afs (h.dom f B (by rw[S.get_eq]at hB ⊢;exact hB)) c,λf B hB b v l hl=>?_⟩
 rotate_left
 .have a:s.get f=some B:=by rw[S.get_eq]at hB ⊢;exact hB
  exact h.rw f B a b v l (by rw[aJ.to_of (h.dom f B a)];exact(aJ.to_lt hl).2)
 have a:s.get f=some B:=by rw[S.get_eq]at hB ⊢;exact hB
 have d:=h.dom f B a;refine(h.blk f B a).keep (aJ.to_le ρ c) (λv hv=>?_) (λ_ _ _=>rfl)
 grind [aJ.to_of]
theorem HR.bare{ρ:aJ}{w:World}{n:Nat}(hi:Inj ρ)(hl:Low ρ w):HR (ρ.to n) ⟨.leaf,n⟩ w :=
 ⟨λf v a=>aJ.to_ge a,λf v l f' v' l' e b=>hi _ _ _ _ _ _ (aJ.to_lt e).2 (aJ.to_lt b).2,λf v l e=>hl _ _ _ (aJ.to_lt e).2,λf B hB=>by(rw[S.get_eq,T.get_leaf]at hB;cases hB),λf B hB=>by(rw[S.get_eq,T.get_leaf]at hB;cases hB),λf B hB=>by(rw[S.get_eq,T.get_leaf]at hB;cases hB)⟩
theorem cQ{s s':S}{x:Option V}{v:V}{s1:S}(e:bL s x=some (.val v s1)):bL s' x=some (.val v s'):=by
 cases x with
 |none=>cases e
 |some u=>cases e;rfl
theorem Oq{E:dI}{t:T V}{s:S}(s':S)(o:Oper)(hk:aL E.P o.op=0){v:V}{s1:S}(e:dC E t s o=some (.val v s1)):dC E t s' o=some (.val v s'):=by
 obtain⟨dst,op,type,pos,after,guard⟩:=o;unfold dC at e ⊢;simp only at e hk ⊢;cases op<;>simp only[dj]at e ⊢<;>try(cases e;done)
 case move x=>exact cQ e
 case assign x=>exact cQ e
 case pick c a b =>
  unfold nX at e ⊢;split at e
  .exact cQ e
  .cases e
 case build ty parts=>exact cQ e
 case nilCheck x=>exact cQ e
 case binOp op ty x y z =>
  have hq:rY op=false:=by grind [aL]
  unfold gk at e ⊢;cases g:eval t x with
  |none=>rw[g]at e;cases e
  |some a =>
   cases hy:eval t y with
   |none=>rw[g,hy]at e;cases e
   |some b =>
    rw[g,hy]at e;simp only at e ⊢;cases m:gS E.P op ty x y a b with
    |false=>rw[m]at e;cases e
    |true =>
     rw[m]at e;simp only[ge]at e ⊢;have:∀ ok ok',gb E.P ok op ty a b=gb E.P ok' op ty a b:=by
      intro ok ok';unfold gb
      grind [rY]
     rw[this (bU s') (bU s)];exact cQ e
 case unOp op ty x=>exact cQ e
 case convert j dst x =>
  unfold gZ at e ⊢;split at e
  .rename_i p hx';unfold jj at e ⊢;unfold kz at e ⊢;cases l:E.P.underlying j with
   |none=>simp[l]at e
   |some ds =>
    cases d:E.P.underlying dst with
    |none=>simp[l,d]at e
    |some dd =>
     simp only[l,d]at e ⊢;cases dd<;>simp only at e ⊢<;>try(cases e;done)
     case int k=>cases p<;>simp only at e ⊢<;>first|(cases e;done)|(cases e;rfl)
     case string=>simp[aL,d]at hk
     case slice el=>simp[aL,d]at hk
  .cases e
 case makeInterface ty x=>exact cQ e
 case makeFunc fn first cap=>exact cQ e
 case slice ty x lo hi mx=>exact cQ e
 case fieldAddr ty x f=>exact cQ e
 case field ty x f=>exact cQ e
 case indexAddr ty x i=>exact cQ e
 case index ty x i=>exact cQ e
 case typeAssert x xt ty ok=>exact cQ e
 case extract x i=>exact cQ e
 case call c =>simp only[aL]at hk;split at hk<;>cases hk
 all_goals (first|(simp[aL]at hk;done)|(exfalso;revert hk;simp[aL]))
def only(t:T V):List Tmp->T V
 |[]=>.leaf
 |d::r=>(only t r).set (t.get (eX d)) (eX d)
theorem po(t:T V):∀(l:List Tmp) (d:Tmp),(only t l).get (eX d)=if d∈l then t.get (eX d)else none
 |[],d=>by simp[only,T.get_leaf]
 |x::r,d=>by
  simp only[only];rw[T.get_setN,po t r d]
  grind
def qy(ops:Array Oper)(o:Oper):List Tmp:=match o.guard with
 |some (j,_)=>((ops[j]?).bind (·.dst)).toList
 |none=>[]
def looks(ops:Array Oper)(o:Oper):List Tmp:=sees o++qy ops o
theorem NQ{t:T V}{ops:Array Oper}{o:Oper}{x:Operand}(a:x∈o.op.operands):eval t x=eval (only t (looks ops o)) x:=by
 cases x with
 |tmp d =>simp only[eval];rw[po,agC];unfold looks sees;refine aeS.2 (.inl ?_);rw[List.mem_filterMap];exact⟨.tmp d,by simpa using a,rfl⟩
 |const v=>rfl
 |global g=>rfl
 |func f=>rfl
theorem jP{E:dI}{ops:Array Oper}{t:T V}{s:S}{o:Oper}:dC E (only t (looks ops o)) s o=dC E t s o :=
 (KA o λ_ a=>NQ a).symm
theorem kZ{ops:Array Oper}{t:T V}{o:Oper}:bT ops (only t (looks ops o)) o=bT ops t o:=by grind [bT,po,looks,qy]
theorem By{α:Type}{c:Bool}{x:Option α}{y:α}(h:(bif c then x else none)=some y):x=some y:=by cases c<;>first|(cases h;done)|exact h
theorem KB{E:dI}{t:T V}{s:S}(o:Oper)(hk:aL E.P o.op=2){v:V}{s1:S}(e:dC E t s o=some (.val v s1)):∃ B,s1=s.alloc B:=by
 obtain⟨dst,op,type,pos,after,guard⟩:=o;unfold dC at e;simp only at e hk;cases op<;>simp only[dj]at e<;>try(cases e;done)
 case alloc elem =>
  unfold jG rh bA bz at e;split at e
  .cases e;exact⟨_,rfl⟩
  .cases e
 case box elem x =>
  unfold ua rh bA bz at e;split at e
  .cases e;exact⟨_,rfl⟩
  .cases e
 case buildSlice ty len parts =>
  unfold cJ at e;split at e
  .split at e
   .split at e
    .split at e
     .have e:=By e;unfold mf bA bz at e;split at e
      .cases e;exact⟨_,rfl⟩
      .cases e
     .cases e
    .cases e
   .cases e
  .cases e
 case makeMap ty r =>
  cases r with
  |none=>cases e;exact⟨_,rfl⟩
  |some _=>cases e
 case makeSlice ty l c =>
  unfold eI bA bz at e;split at e
  .split at e
   .split at e
    .split at e
     .split at e
      .have e:=By e;cases e;exact⟨_,rfl⟩
      .cases e
     .cases e
    .cases e
   .cases e
  .cases e
 case convert a dst x =>
  unfold gZ jj kz at e;split at e
  .rename_i j hx';cases b:E.P.underlying dst with
   |none=>simp[aL,b]at hk
   |some d =>
    cases d<;>simp[aL,b]at hk;cases i:E.P.underlying a with
    |none=>simp[i]at e
    |some ds =>
     simp only[i,b]at e;cases j<;>simp only[qj]at e<;>try(cases e;done)
     cases ds<;>simp only[bz]at e<;>try(cases e;done)
     split at e
     .rename_i g;have g:=By g;cases g;cases e;exact⟨_,rfl⟩
     .cases e
  .cases e
 case binOp op ty x y z=>simp only[aL]at hk;cases hb:rY op<;>simp[hb]at hk
 case call c=>simp only[aL]at hk;split at hk<;>simp at hk
 all_goals simp[aL]at hk
section
variable{E:dI}{rec:iK}{ops:Array Oper}{t0:T V}{s0:S}
theorem Gn.next_le{Y:List Ev}{e:Ev}(h:Gn E rec ops t0 s0 Y e):e.a.next<=e.b.next:=by
 rcases h.step with⟨_,⟨_,_,hb⟩|⟨_,⟨_,hb,_⟩|⟨_,hb,_⟩|⟨hk,hb⟩⟩⟩|⟨_,_,hb,_⟩
 .grind
 .grind
 .grind
 .grind [KB,S.next_alloc]
 .exact hb
theorem ef.next_le:∀ {X Y:List Ev},ef E rec ops t0 s0 (X++Y)->(cy s0 Y).next<=(cy s0 (X++Y)).next
 |[],_,_=>aaW _
 |e::X,Y,h=>by refine acd (ef.next_le h.2) ?_;have:=h.1.next_le;rw[h.1.st]at this;exact this
theorem ef.suf:∀ {X Y:List Ev},ef E rec ops t0 s0 (X++Y)->ef E rec ops t0 s0 Y
 |[],_,h=>h
 |_::X,_,h=>ef.suf (X:=X) h.2
theorem ef.before{Y:List Ev}{e:Ev}(h:Gn E rec ops t0 s0 Y e)(c:ef E rec ops t0 s0 Y){q:Ev}(d:q∈Y):q.b.next<=e.a.next:=by obtain⟨Y1,Y2,rfl⟩:=aje d;rw[h.st];exact ef.next_le (Y:=q::Y2) c
theorem ef.start{Y:List Ev}{e:Ev}(h:Gn E rec ops t0 s0 Y e)(c:ef E rec ops t0 s0 Y):s0.next<=e.a.next:=by
 rw[h.st];have d:ef E rec ops t0 s0 (Y++[]):=by simpa using c
 have b:=ef.next_le d;rw[afq]at b;exact b
theorem ef.ok{L:List Ev}(h:ef E rec ops t0 s0 L){e:Ev}(a:e∈L):∃ X Y,L=X++e::Y/\Gn E rec ops t0 s0 Y e/\ef E rec ops t0 s0 Y:=by
 obtain⟨X,Y,rfl⟩:=aje a
 grind [ef.at]
theorem ef.uniq{L:List Ev}(h:ef E rec ops t0 s0 L){a b:Ev}(g:a∈L)(hb:b∈L)(hi:a.i=b.i):a=b:=by
 induction L with
 |nil=>cases g
 |cons e Y ih =>
  rcases abn.1 g with rfl|d
  .rcases abn.1 hb with rfl|c
   .rfl
   .exact absurd hi.symm (h.1.new b c)
  .rcases abn.1 hb with rfl|c
   .exact absurd hi (h.1.new a d)
   .exact ih h.2 d c
structure yu(E:dI)(t0:T V)(s0:S)(ρ0:aJ)(w0:World)(X F:List Ev)(R:Nat->Prop)(ρ:aJ)(w:World)(tm:Array Value):Prop where
 front:NA E F
 inF:∀ e∈F,R e.i
 noE:∀ e∈X,R e.i->¬ kJ E e.o
 vals:∀ e∈X++F,R e.i->∃ y,den (ρ.to e.b.next) e.v=some y/\∀ d,e.o.dst=some d->tm[d]? = some y
 olds:∀ d x,t0.get (eX d)=some x->(∀ e∈X++F,R e.i->e.o.dst≠some d)->∃ y,den (ρ.to s0.next) x=some y/\tm[d]? = some y
 blks:∀ e∈X,R e.i->e.b=e.a\/∃ B,e.b=e.a.alloc B/\BO (ρ.to e.b.next) w e.a.next B/\∀ v l,ρ e.a.next v=some l->¬ l.ro
 hr:HR (ρ.to (cy s0 F).next) (cy s0 F) w
 inj:Inj ρ
 low:Low ρ w
 fresh:∀ f v,ρ f v≠none->f<(cy s0 F).next\/∃ e∈X,R e.i/\f=e.a.next/\f<e.b.next
 fr:FR ρ0 w0 ρ w
theorem yu.reg{ρ0:aJ}{w0:World}{X F:List Ev}{R:Nat->Prop}{ρ:aJ}{w:World}{tm:Array Value}(h:yu E t0 s0 ρ0 w0 X F R ρ w tm) :
 ∀ {X1 Z:List Ev},X=X1++Z->ef E rec ops t0 s0 (Z++F)->(∀ e∈Z,R e.i)->HR (ρ.to (cy s0 (Z++F)).next) (cy s0 (Z++F)) w
 |_,[],_,_,_=>h.hr
 |X1,e::Z,p,r,d=>by
  have ih:=yu.reg h (X1:=X1++[e]) (Z:=Z) (by simpa using p) r.2 λq x=>d q (abi _ x);have hst:e.a=cy s0 (Z++F):=r.1.st;rw[<- hst]at ih;show HR (ρ.to e.b.next) e.b w;rcases h.blks e (by rw[p];simp) (d e (by simp))with hb|⟨B,hb,hB,g⟩
  .grind
  .rw[hb]at hB ⊢;rw[S.next_alloc]at hB ⊢;refine⟨λf v j=>aJ.to_ge (by rw[S.next_alloc]at j;exact j),λf v l f' v' l' m y=>h.inj _ _ _ _ _ _ (aJ.to_lt m).2 (aJ.to_lt y).2,λf v l m=>h.low _ _ _ (aJ.to_lt m).2,λf B' c=>?_,λf B' c=>?_,λf B' c o v l hl=>?_⟩
   .rw[S.get_alloc]at c;split at c
    .grind
    .rename_i u;have j:=ih.dom f B' c;refine(ih.blk f B' c).keep (aJ.to_le ρ (Nat.le_succ _)) (λv hv=>?_) (λ_ _ _=>rfl)
     grind [aJ.to_of]
   .rw[S.get_alloc]at c;rw[S.next_alloc];split at c
    .omega
    .have:=ih.dom f B' c;omega
   .rw[S.get_alloc]at c;split at c
    .rename_i u;subst u;exact g v l (aJ.to_lt hl).2
    .exact ih.rw f B' c o v l (by rw[aJ.to_of (ih.dom f B' c)];exact(aJ.to_lt hl).2)
theorem yu.env{ρ0:aJ}{w0:World}{X1 X2 F:List Ev}{e:Ev}{R:Nat->Prop}{ρ:aJ}{w:World}{tm:Array Value}(hD:lV ops)(h:yu E t0 s0 ρ0 w0 (X1++e::X2) F R ρ w tm)
 (N:ef E rec ops t0 s0 (X1++e::(X2++F))) (X:¬ R e.i) (O:gv ops R) (J:∀ k,mJ ops e.i k->R k):TR (ρ.to e.a.next) (only e.t (looks ops e.o)) tm:=by
 obtain⟨c,A⟩:=ef.at N;have Y:X1++e::X2++F=X1++e::(X2++F):=by simp
 intro d x B;rw[po]at B;split at B
 .rename_i r;have u:∀ q oq,ops[q]? = some oq->oq.dst=some d->q≠e.i->mJ ops e.i q\/mJ ops q e.i:=by
   intro q oq H l j;rcases aeS.1 r with r|r
   .exact hD.sees e.i q e.o oq d c.op H (λh=>j h.symm) l r
   .unfold qy at r;split at r
    .rename_i g b Z;have m:((ops[g]?).bind (·.dst))=some d:=by simpa using r
     cases G:ops[g]? with
     |none=>rw[G]at m;cases m
     |some og =>
      rw[G]at m;by_cases K:g=q
      .subst K;exact .inl (hD.guard e.i e.o g b c.op Z)
      .exact absurd m (hD.dst g q og oq d G H K l)
    .simp at r
  rcases c.slots d with⟨q,I,L,q3⟩|⟨I,L⟩
  .rw[q3]at B;cases B;obtain⟨Ya,Yb,hY,v,_⟩:=ef.ok A I;have j:q.i≠e.i:=c.new q I;rcases u q.i q.o v.op L j with p|p
   .obtain⟨y,Q,U⟩:=h.vals q (by rw[Y];simp;right;right;simpa using I) (J _ p);exact⟨y,bM (aJ.to_le ρ (ef.before c A I)) _ _ Q,U d L⟩
   .obtain⟨z,M,W⟩:=v.pre e.i p;exact absurd W (c.new z (by rw[hY];simp;right;right;exact M))
  .rw[L]at B
   obtain⟨y,Q,U⟩:=h.olds d x B (λq H hr l=>by
    rw[Y]at H;obtain⟨_,Y',_,k1,_⟩:=ef.ok N H;by_cases j:q.i=e.i
    .rw[j]at hr;exact X hr
    .rcases u q.i q.o k1.op l j with p|p
     .obtain⟨z,M,W⟩:=c.pre _ p;have hz:z=q:=ef.uniq N (by simp;right;right;simpa using M) H W;subst hz;exact I z M l
     .exact X (O q.i e.i hr p))
   exact⟨y,bM (aJ.to_le ρ (ef.start c A)) _ _ Q,U⟩
 .cases B
end
section
variable{E:dI}{rec:iK}{ops:Array Oper}{t0:T V}{s0:S}{ρ0:aJ}{w0:World}
theorem CP{tm:Array Value}{o:Option Tmp}{y:Value}{d:Tmp}(h:o=some d)(hd:d<tm.size):(iB tm o y)[d]? = some y:=by grind [iB]
theorem nu{tm:Array Value}{o:Option Tmp}{y:Value}{d:Tmp}(h:o≠some d):(iB tm o y)[d]? = tm[d]?:=by
 cases o with
 |none=>rfl
 |some i =>unfold iB;exact ajI (λe=>h (by rw[e]))
section
variable{X1 X2 F:List Ev}{e:Ev}{R:Nat->Prop}{ρ:aJ}{w:World}{tm:Array Value}
theorem qp{q:Ev}:q∈X1++e::X2++F↔q∈X1++e::(X2++F):=by simp
theorem DJ(hD:lV ops)(a:ef E rec ops t0 s0 (X1++e::(X2++F))){q:Ev}(b:q∈X1++e::(X2++F))(hi:q.i≠e.i){d:Tmp}(c:q.o.dst=some d):e.o.dst≠some d:=by obtain⟨_,_,_,g,_⟩:=ef.ok a b;have j:=(ef.at a).1;exact hD.dst e.i q.i e.o q.o d j.op g.op (λh=>hi h.symm) c
theorem after(c:ef E rec ops t0 s0 (X1++e::(X2++F))){q:Ev}(d:q∈X1):e.b.next<=q.a.next:=by
 obtain⟨Xa,Xb,rfl⟩:=aje d;have g:ef E rec ops t0 s0 (Xa++q::(Xb++e::(X2++F))):=by simpa using c
 obtain⟨i,j⟩:=ef.at g;exact ef.before i j (by simp)
theorem yu.step(hD:lV ops)(h:yu E t0 s0 ρ0 w0 (X1++e::X2) F R ρ w tm)(H:ef E rec ops t0 s0 (X1++e::(X2++F)))(hk:¬ kJ E e.o)(hn:¬ R e.i){ρ':aJ}{w':World}{y:Value}
 (p:ρ.le ρ') (hkeep:∀ f v,ρ' f v≠none->ρ f v≠none\/(f=e.a.next/\f<e.b.next)) (hsame:∀ f v,f≠e.a.next->ρ' f v=ρ f v)
 (I:∀ b,b<w.heap.size->w'.heap[b]? = w.heap[b]?) (J:Inj ρ') (K:Low ρ' w') (L:FR ρ w ρ' w')
 (u:den (ρ'.to e.b.next) e.v=some y) (hb:e.b=e.a\/∃ B,e.b=e.a.alloc B/\BO (ρ'.to e.b.next) w' e.a.next B/\∀ v l,ρ' e.a.next v=some l->¬ l.ro) (M:∀ d,e.o.dst=some d->d<tm.size) :
 yu E t0 s0 ρ0 w0 (X1++e::X2) F (with1 R e.i) ρ' w' (iB tm e.o.dst y):=by
 obtain⟨A,G⟩:=ef.at H;have hNF:(cy s0 F).next<=e.a.next:=by rw[A.st];exact ef.next_le G
 have uniq:∀ q,q∈X1++e::(X2++F)->q.i=e.i->q=e:=λq g hi=>ef.uniq H g (by simp) hi;refine⟨h.front,λq g=>.inl (h.inF q g),λq g hr=>?_,λq g hr=>?_,λd x hx N=>?_,λq g hr=>?_,?_,J,K,λf v O=>?_,h.fr.trans L⟩
 .rcases hr with hr|hr
  .exact h.noE q g hr
  .have:=uniq q (by rw[<- qp];exact aim _ g) hr;subst this;exact hk
 .by_cases hi:q.i=e.i
  .have:=uniq q (qp.1 g) hi;subst this;exact⟨y,u,λd Q=>CP Q (M d Q)⟩
  .have hr:R q.i:=hr.resolve_right hi;obtain⟨z,W,X⟩:=h.vals q g hr;exact⟨z,bM (aJ.to_mono p _) _ _ W,λd Q=>by rw[nu (DJ hD H (qp.1 g) hi Q)];exact X d Q⟩
 .obtain⟨z,W,X⟩:=h.olds d x hx λq g hr=>N q g (.inl hr);refine⟨z,bM (aJ.to_mono p _) _ _ W,?_⟩;rw[nu (N e (by simp) (.inr rfl))];exact X
 .by_cases hi:q.i=e.i
  .have:=uniq q (qp.1 (aim _ g)) hi;subst this;exact hb
  .have hr:R q.i:=hr.resolve_right hi;rcases h.blks q g hr with j|⟨B,j,hB,Y⟩
   .exact .inl j
   .have U:q.a.next=e.a.next->∀ v l,ρ' q.a.next v=some l->ρ q.a.next v≠none:=by
     intro m v l hl u;have Z:q.b.next=q.a.next+1:=by rw[j,S.next_alloc]
     rcases hkeep q.a.next v (by rw[hl];exact λh=>by cases h)with hc|⟨_,hc⟩
     .exact hc u
     .rcases aeS.1 g with c|c
      .have:=after H c;omega
      .rcases abn.1 c with rfl|c
       .exact hi rfl
       .have:=ef.before A G (aim F c);omega
    refine .inr ⟨B,j,hB.keep (aJ.to_mono p _) (λv u=>?_) (λv l hl=>I _ (h.low _ _ _ (aJ.to_lt hl).2)),λv l hl=>?_⟩
    rotate_left
    .cases r:ρ q.a.next v with
     |none =>
      exfalso;by_cases m:q.a.next=e.a.next
      .exact U m v l hl r
      .rw[hsame _ _ m,r]at hl;cases hl
     |some l0 =>have:=p _ _ _ r;rw[hl]at this;cases this;exact Y v l r
    have Z:q.b.next=q.a.next+1:=by rw[j,S.next_alloc]
    rw[aJ.to_of (by omega)]at u ⊢;by_cases m:q.a.next=e.a.next
    .cases hq':ρ' q.a.next v with
     |none=>rfl
     |some l =>
      exfalso;rcases hkeep q.a.next v (by rw[hq'];exact λh=>by cases h)with hc|⟨_,hc⟩
      .exact hc u
      .rcases aeS.1 g with c|c
       .have:=after H c;omega
       .rcases abn.1 c with rfl|c
        .exact hi rfl
        .have:=ef.before A G (aim F c);omega
    .rw[hsame _ _ m];exact u
 .have:ρ'.to (cy s0 F).next=ρ.to (cy s0 F).next:=by grind [aJ.to_of,aJ.to_ge]
  rw[this];exact h.hr.frame L.size I
 .rcases hkeep f v O with O|⟨h1,h2⟩
  .rcases h.fresh f v O with O|⟨q,q1,q2,q3⟩
   .exact .inl O
   .exact .inr ⟨q,q1,.inl q2,q3⟩
  .exact .inr ⟨e,by simp,.inr rfl,h1,h2⟩
theorem yu.float(hD:lV ops)(h:yu E t0 s0 ρ0 w0 (X1++e::X2) F R ρ w tm)(I:ef E rec ops t0 s0 (X1++e::(X2++F)))(hk:¬ kJ E e.o)(Q:¬ R e.i)(W:gv ops R)(m:∀ k,mJ ops e.i k->R k)
 (p:∀ d,e.o.dst=some d->d<tm.size) :
 (Region.wanted e.o (yielded ops tm)=false/\yu E t0 s0 ρ0 w0 (X1++e::X2) F (with1 R e.i) ρ w (iB tm e.o.dst undef)) \/
 (Region.wanted e.o (yielded ops tm)=true/\∃ y w' ρ',(execOp (rv tm) e.o).run E.P w=.ok (.value y) w'/\yu E t0 s0 ρ0 w0 (X1++e::X2) F (with1 R e.i) ρ' w' (iB tm e.o.dst y)):=by
 obtain⟨u,J⟩:=ef.at I;have U:=h.env hD I Q W m;have X:(cy s0 F).next<=e.a.next:=by rw[u.st];exact ef.next_le J
 have wsp:∀ b,bT ops e.t e.o=some b->Region.wanted e.o (yielded ops tm)=b:=λb hb=>by rw[<- kZ]at hb;exact fj (fr:={ (default:Frame)with tmps:=tm }) U hb
 have plain:∀ y,den (ρ.to e.b.next) e.v=some y->e.b=e.a->yu E t0 s0 ρ0 w0 (X1++e::X2) F (with1 R e.i) ρ w (iB tm e.o.dst y):=λy G hb =>yu.step hD h I hk Q ρ.le_refl (λf v r=>.inl r) (λ_ _ _=>rfl) (λ_ _=>rfl) h.inj h.low (FR.refl ρ w) G (.inl hb) p
 rcases u.step with⟨_,⟨Y,G,hb⟩|⟨Y,r⟩⟩|⟨Z,_⟩
 .left;refine⟨wsp _ Y,plain undef ?_ hb⟩;rw[G];rfl
 .right;refine⟨wsp _ Y,?_⟩;rcases r with⟨hk0,hb,s1,c⟩|⟨hk1,hb,c⟩|⟨hk2,c⟩
  .rw[<- jP (ops:=ops)]at c;have x:=Oq ⟨.leaf,e.a.next⟩ e.o hk0 c;obtain⟨v,y,z,h2,h3⟩:=CV (HR.bare h.inj h.low) U e.o (by omega) x;cases z;exact⟨y,w,ρ,h2,plain y (by rw[hb];exact h3) hb⟩
  .obtain⟨s1,c⟩:=c X2 F rfl h.front λq hq hqe hp=>h.noE q (by simp[hq]) (m _ hp) hqe;rw[<- jP (ops:=ops)]at c;have x:=Oo (n':=e.a.next) (h:=(cy s0 F).h) (n:=(cy s0 F).next) e.o (by omega) c;obtain⟨v,y,z,h2,h3⟩:=CV (h.hr.widen h.inj h.low X) U e.o (by omega) x;cases z;exact⟨y,w,ρ,h2,plain y (by rw[hb];exact h3) hb⟩
  .rw[<- jP (ops:=ops)]at c;obtain⟨mk,B,hm,y,obj,lim,n,K,hmk⟩:=NP (w:=w) U e.o hk2 c;have L:=hm e.a;simp only at L;rw[L]at c;injection c with c;injection c with hd1 M
   have hbn:e.b.next=e.a.next+1:=by rw[<- M,S.next_alloc]
   have hfree:∀ v,ρ e.a.next v=none:=by
    intro v;cases hr:ρ e.a.next v with
    |none=>rfl
    |some l =>
     exfalso;rcases h.fresh e.a.next v (by rw[hr];exact λh=>by cases h)with r|⟨q,q1,q2,q3,q4⟩
     .omega
     .rcases aeS.1 q1 with j|j
      .have:=after I j;omega
      .rcases abn.1 j with rfl|j
       .exact Q q2
       .have:=ef.before u J (aim F j);omega
   let ρ':=ρ.put e.a.next 0 ⟨w.heap.size,0,lim⟩
   have A:ρ.le ρ':=aJ.le_put _ (hfree 0);have hto:(ρ.to e.a.next).le (ρ'.to e.b.next):=aJ.le_trans (aJ.to_mono A _) (aJ.to_le ρ' (by omega))
   obtain⟨G,N⟩:=hmk (ρ'.to e.b.next) e.a.next hto (by rw[aJ.to_of (by omega)];exact aJ.put_same _ _ _ _) (λv G=>by rw[aJ.to_of (by omega)];show ρ.put _ _ _ _ _=none;unfold aJ.put;rw[afp (by omega)];exact hfree v)
   have O:∀ b,b<w.heap.size->(({ w with drawn:=n }:World).alloc obj).heap[b]? = w.heap[b]?:=λb hb=>iP { w with drawn:=n } obj hb;refine⟨y,_,ρ',K,yu.step hD h I hk Q A (λf v r=>?_) (λf v r=>?_) O ?_ ?_ ?_ (by rw[<- hd1];exact G) (.inr ⟨B,M.symm,N _ ?_,λv l hl=>?_⟩) p⟩
   .cases hr:ρ' f v with
    |none=>exact absurd hr r
    |some l =>
     rcases aJ.of_put hr with⟨z,_,_⟩|z
     .exact .inr ⟨z,by omega⟩
     .exact .inl (by rw[z];exact λh=>by cases h)
   .show ρ.put _ _ _ _ _=_;unfold aJ.put;rw[afp (λh=>r h.1)]
   .intro f v l f' v' l' g H hb;rcases aJ.of_put g with⟨rfl,rfl,rfl⟩|g
    .rcases aJ.of_put H with⟨rfl,rfl,rfl⟩|H
     .exact⟨rfl,rfl⟩
     .have:=h.low _ _ _ H;simp at hb;omega
    .rcases aJ.of_put H with⟨rfl,rfl,rfl⟩|H
     .have:=h.low _ _ _ g;simp at hb;omega
     .exact h.inj _ _ _ _ _ _ g H hb
   .intro f v l g;rcases aJ.of_put g with⟨rfl,rfl,rfl⟩|g
    .simp
    .have:=h.low _ _ _ g;simp;omega
   .refine⟨A,by simp,rfl,rfl,rfl,λb hb _=>O b hb,λf v l g hl=>?_⟩;rcases aJ.of_put g with⟨rfl,rfl,rfl⟩|g
    .simp at hl
    .exact⟨f,v,l,g,rfl,id⟩
   .exact eD { w with drawn:=n } obj
   .rcases aJ.of_put hl with⟨_,rfl,rfl⟩|hl
    .show ¬(lim<0);omega
    .rw[hfree v]at hl;cases hl
 .exact absurd Z hk
theorem yu.effect(hD:lV ops)(h:yu E t0 s0 ρ0 w0 (X1++e::X2) F R ρ w tm)(K:ef E rec ops t0 s0 (X1++e::(X2++F)))(hk:kJ E e.o)(hn:¬ R e.i)(hX2:∀ q∈X2,R q.i){ρ1:aJ}{w':World}{y:Value}
 (X:HR ρ1 e.b w') (m:FR (ρ.to e.a.next) w ρ1 w') (Y:den ρ1 e.v=some y) (L:∀ d,e.o.dst=some d->d<tm.size) :
 ∃ ρ',yu E t0 s0 ρ0 w0 X1 (e::(X2++F)) (with1 R e.i) ρ' w' (iB tm e.o.dst y):=by
 obtain⟨I,M⟩:=ef.at K;have hNF:(cy s0 F).next<=e.a.next:=by rw[I.st];exact ef.next_le M
 have hab:=I.next_le;have uniq:∀ q,q∈X1++e::(X2++F)->q.i=e.i->q=e:=λq c hi=>ef.uniq K c (by simp) hi;have notX1:∀ q∈X1,q.i≠e.i:=by
  intro q c hi;have:=uniq q (by simp[c]) hi;subst this;obtain⟨Xa,Xb,rfl⟩:=aje c;have m:ef E rec ops t0 s0 (Xa++q::(Xb++q::(X2++F))):=by simpa using K
  exact(ef.at m).1.new q (by simp) rfl
 have early:∀ f v,ρ f v≠none->f<e.a.next\/(e.b.next<=f/\∃ q∈X1,R q.i/\f=q.a.next/\f<q.b.next):=by
  intro f v g;rcases h.fresh f v g with g|⟨q,q1,q2,q3,q4⟩
  .grind
  .rcases aeS.1 q1 with p|p
   .have:=after K p
    grind
   .rcases abn.1 p with rfl|p
    .grind
    .have:=ef.before I M (aim F p)
     grind
 let ρ':aJ:=λf v=>if f<e.b.next then ρ1 f v else ρ f v
 have ρlt:∀ {f v},f<e.b.next->ρ' f v=ρ1 f v:=λ{f v} g=>by show(if _ then _ else _)=_;rw[agC g]
 have ρge:∀ {f v},e.b.next<=f->ρ' f v=ρ f v:=λ{f v} g=>by show(if _ then _ else _)=_;rw[afp (by omega)]
 have N:ρ'.to e.b.next=ρ1:=by
  funext f v;by_cases g:f<e.b.next
  .grind [aJ.to_of]
  .rw[aJ.to_ge (by omega),X.fresh f v (by omega)]
 have A:ρ.le ρ':=λf v l hl=>by
  rcases early f v (by rw[hl];exact λh=>by cases h)with g|⟨g,_⟩
  .rw[ρlt (by omega)];exact m.ext f v l (by rw[aJ.to_of g];exact hl)
  grind
 have hfr:FR ρ w ρ' w':=by
  refine⟨A,m.size,m.os,m.tape,m.output,λb hb G=>m.same b hb λf v l hl J=>G f v l (aJ.to_lt hl).2 J,λf v l hl hb=>?_⟩;by_cases g:f<e.b.next
  .rw[ρlt g]at hl;obtain⟨f',v',l',Z,k2⟩:=m.new f v l hl hb;exact⟨f',v',l',(aJ.to_lt Z).2,k2⟩
  grind
 have apart:∀ f v l f' v' l',f<e.b.next->e.b.next<=f'->ρ' f v=some l->ρ' f' v'=some l'->l.b≠l'.b:=by intro f v l f' v' l' g r j u hb;rw[ρlt g]at j;rw[ρge r]at u;have hl:=h.low _ _ _ u;obtain⟨f2,v2,l2,Z,k2,_⟩:=m.new f v l j (by omega);obtain⟨k3,k4⟩:=aJ.to_lt Z;have:=(h.inj _ _ _ _ _ _ k4 u (by omega)).1;omega
 refine⟨ρ',hk,λq c=>?_,λq c hr=>?_,λq c hr=>?_,λd x hx G=>?_,λq c hr=>?_,?_,?_,?_,λf v g=>?_,h.fr.trans hfr⟩
 .rcases abn.1 c with rfl|c
  .exact .inr rfl
  .rcases aeS.1 c with c|c
   .exact .inl (hX2 q c)
   .exact .inl (h.inF q c)
 .exact h.noE q (by simp[c]) (hr.resolve_right (notX1 q c))
 .by_cases hi:q.i=e.i
  .have:=uniq q c hi;subst this;exact⟨y,by rw[N];exact Y,λd O=>CP O (L d O)⟩
  .have hr:R q.i:=hr.resolve_right hi;obtain⟨z,z1,z2⟩:=h.vals q (qp.2 c) hr;exact⟨z,bM (aJ.to_mono A _) _ _ z1,λd O=>by rw[nu (DJ hD K c hi O)];exact z2 d O⟩
 .obtain⟨z,z1,z2⟩:=h.olds d x hx λq c hr=>G q (qp.1 c) (.inl hr);refine⟨z,bM (aJ.to_mono A _) _ _ z1,?_⟩;rw[nu (G e (by simp) (.inr rfl))];exact z2
 .have hr:R q.i:=hr.resolve_right (notX1 q c);have Q:=after K c;rcases h.blks q (by simp[c]) hr with H|⟨B,H,hB,J⟩
  .exact .inl H
  .have hqn:q.b.next=q.a.next+1:=by rw[H,S.next_alloc]
   refine .inr ⟨B,H,hB.keep (aJ.to_mono A _) (λv Y=>?_) (λv l hl=>?_),λv l hl=>J v l (by rw[ρge Q]at hl;exact hl)⟩
   .rw[aJ.to_of (by omega)]at Y ⊢;rw[ρge Q];exact Y
   .have U:=(aJ.to_lt hl).2;refine m.same _ (h.low _ _ _ U) λf v' l' g _ hb=>?_;obtain⟨Z,k2⟩:=aJ.to_lt g;have:=(h.inj _ _ _ _ _ _ k2 U hb).1;omega
 .show HR (ρ'.to e.b.next) e.b w';rw[N];exact X
 .intro f v l f' v' l' j u hb;by_cases g:f<e.b.next
  .by_cases r:f'<e.b.next
   .rw[ρlt g]at j;rw[ρlt r]at u;exact X.inj _ _ _ _ _ _ j u hb
   .exact absurd hb (apart _ _ _ _ _ _ g (by omega) j u)
  .by_cases r:f'<e.b.next
   .exact absurd hb.symm (apart _ _ _ _ _ _ r (by omega) u j)
   .rw[ρge (by omega)]at j u;exact h.inj _ _ _ _ _ _ j u hb
 .intro f v l j;by_cases g:f<e.b.next
  .rw[ρlt g]at j;exact X.low _ _ _ j
  .rw[ρge (by omega)]at j;exact afs (h.low _ _ _ j) m.size
 .show f<e.b.next\/_;by_cases W:f<e.b.next
  .exact .inl W
  .rw[ρge (by omega)]at g;rcases early f v g with g|⟨_,q,q1,q2,q3⟩
   .exact absurd (afs g hab) W
   .exact .inr ⟨q,q1,.inl q2,q3⟩
end
end
def left:List Bool->Nat
 |[]=>0
 |true::r=>left r
 |false::r=>left r+1
theorem zR:∀(l:List Bool) (i:Nat),l[i]? = some false->left (l.set i true)+1=left l
 |[],i,h=>by simp at h
 |b::r,0,h=>by simp at h;subst h;simp[left]
 |b::r,i+1,h=>by have:=zR r i (by simpa using h);cases b<;>simp[left]<;>omega
theorem uP:∀(l:List Bool),left l=0->∀ i:Nat,l[i]?≠some false
 |[],_,i=>by simp
 |true::r,h,0=>by simp
 |false::r,h,_=>by simp[left]at h
 |true::r,h,i+1=>by simpa using uP r h i
theorem jZ:∀ n,left (List.replicate n false)=n
 |0=>rfl
 |n+1=>by simp[aju,left,jZ n]
def cx(listed:Array Bool):Nat->Prop:=λi=>listed[i]? = some true
section
variable{P:Program}{ops:Array Oper}{listed:Array Bool}
theorem zN{i:Nat}(b:i<listed.size):cx (listed.setIfInBounds i true)=with1 (cx listed) i:=by
 funext k;unfold cx with1;apply propext;by_cases h:i=k
 .subst h;simp[b]
 .rw[ajI h];constructor
  .exact λh=>.inl h
  .rintro(a|a)
   .exact a
   .exact absurd a.symm h
theorem Dc{i:Nat}(hs:listed.size=ops.size)(h:i∈Region.ready .any ops listed):∃ o,ops[i]? = some o/\listed[i]? = some false/\∀ e∈o.after,Region.binds .any e=true->cx listed e.on:=by
 unfold Region.ready at h;rw[ajn]at h;obtain⟨c,b⟩:=h;have hi:i<ops.size:=by simpa using c
 simp only[aaV,aiG]at b;obtain⟨b,a⟩:=b;refine⟨ops[i],by simp[hi],?_,?_⟩
 .simp_all
 .rw[agq hi]at a;simp only[aiB,ajv]at a;rw[Array.all_eq_true']at a;intro e d hb;have:=a e d;rw[hb]at this;simp only[aep,ajj]at this;unfold cx;rw[ajT]at this
  grind
theorem CN(d:gB ops)(hs:listed.size=ops.size)(h:Region.ready .any ops listed=[]):∀ i,i<ops.size->cx listed i:=by
 intro i;induction i using Nat.strongRecOn with
 |ind i ih =>
  intro hi;have a:i<listed.size:=by omega
  cases hb:listed[i]with
  |true=>unfold cx;rw[agq a,hb]
  |false =>
   exfalso;have:i∈Region.ready .any ops listed:=by
    unfold Region.ready;rw[ajn];refine⟨by simpa using hi,?_⟩;simp only[aaV,aiG];refine⟨by rw[ajT,agq a,hb];rfl,?_⟩;rw[agq hi];simp only[aiB,ajv];rw[Array.all_eq_true'];intro e g;cases b:Region.binds .any e with
    |false=>rfl
    |true =>have c:=d i ops[i] (by simp[hi]) e g b;have:=ih e.on c (by omega);unfold cx at this;simp_all
   grind
theorem ze(c:gB ops){R:Nat->Prop}(a:gv ops R){i:Nat}{o:Oper}(ho:ops[i]? = some o)(h:∀ e∈o.after,Region.binds .any e=true->R e.on):∀ k,mJ ops i k->R k:=by
 intro k hk;obtain⟨e,d,g,b⟩:=(xO c ho).1 hk;rcases b with rfl|b
 .grind
 .exact a e.on k (h e d g) b
end
section
variable{E:dI}{ih:uv->S->Option ft}{ops:Array Oper}{t0:T V}{s0:S}{ρ0:aJ}{w0:World}{f:FuncId}{fn:Func}{k:List Item}{rd:Option Nat}{ds:List eO}{up:Option Md}{cs:List Frame}
theorem Oi{fr:Frame}{i:Nat}{rest:List Nat}{o:Oper}(a:kK E.P ρ0 f fn .leaf (.inRegion ops (i::rest)::k) ds .run up rd fr cs)(ho:ops[i]? = some o)(y:Value) :
 kK E.P ρ0 f fn .leaf (.inRegion ops rest::k) ds .run up rd (fr.finish y) cs/\(fr.finish y).tmps=iB fr.tmps o.dst y:=by
 rw[Dy (a.todo rfl) ho];refine⟨⟨a.name,a.func,TR.leaf _ _,?_,λ_=>rfl,a.ds,a.md,a.rd,a.up⟩,rfl⟩;show fn.ntmps<=(iB fr.tmps o.dst y).size;have:=a.size;unfold iB;split<;>simpa using this
theorem Qh(hE:jf E)(hg:Good E.P ih)(hD:lV ops)(hdst:mw ops fn.ntmps=true){L:List Ev}(hR:ef E (bO ih) ops t0 s0 L)(hall:∀ k,k<ops.size->∃ q∈L,q.i=k){t':T V}(hS:qd t0 L t') :
 ∀(m τ:Nat) (listed:Array Bool) (X F:List Ev) (ρ:aJ) (w:World) (fr:Frame),L=X++F->listed.size=ops.size->left listed.toList<=m->gv ops (cx listed) ->
  yu E t0 s0 ρ0 w0 X F (cx listed) ρ w fr.tmps->kK E.P ρ0 f fn .leaf (.inRegion ops (Region.linearise.go .any ops m τ listed [])::k) ds .run up rd fr cs ->
  ∃ ρ' w' fr',Steps E.P (lone fr cs w) (lone fr' cs w')/\FR ρ0 w0 ρ' w'/\HR ρ' (cy s0 L) w'/\kK E.P ρ' f fn t' k ds .run up rd fr' cs:=by
 have fin:∀(listed:Array Bool) (X F:List Ev) (ρ:aJ) (w:World) (fr:Frame),L=X++F->(∀ i,i<ops.size->cx listed i)->yu E t0 s0 ρ0 w0 X F (cx listed) ρ w fr.tmps ->
  kK E.P ρ0 f fn .leaf (.inRegion ops []::k) ds .run up rd fr cs->∃ ρ' w' fr',Steps E.P (lone fr cs w) (lone fr' cs w')/\FR ρ0 w0 ρ' w'/\HR ρ' (cy s0 L) w'/\kK E.P ρ' f fn t' k ds .run up rd fr' cs:=by
  intro listed X F ρ w fr B hfull G z;have hin:∀ e∈L,cx listed e.i:=λe he=>by
   obtain⟨_,_,_,k1,_⟩:=ef.ok hR he
   exact hfull e.i (by
    rcases aiU e.i ops.size with h|h
    .exact h
    .have:=k1.op;rw[ajb h]at this;cases this)
  have p:=G.reg (X1:=[]) (Z:=X) (by simp) (by rw[<- B];exact hR) λe he=>hin e (by rw[B];simp[he]);rw[<- B]at p;have hfresh:∀ f v,(cy s0 L).next<=f->ρ f v=none:=by
   intro f v hf;cases hr:ρ f v with
   |none=>rfl
   |some l =>
    exfalso;have hFn:(cy s0 F).next<=(cy s0 L).next:=by rw[B]at hR ⊢;exact ef.next_le hR
    rcases G.fresh f v (by rw[hr];exact λh=>by cases h)with h1|⟨q,q1,q2,q3,q4⟩
    .omega
    .have hq:q∈L:=by rw[B];simp[q1]
     obtain⟨Xa,Y,hLa,k1,k2⟩:=ef.ok hR hq;have:(cy s0 (q::Y)).next<=(cy s0 L).next:=by rw[hLa]at hR ⊢;exact ef.next_le hR
     have:q.b.next<=(cy s0 L).next:=this;omega
  rw[aJ.to_all hfresh]at p;refine⟨ρ,w,_,.one (sL (Ak z) (z.todo rfl)),G.fr,p,?_⟩;have j:=(z.mono G.fr.ext).to k;refine⟨j.name,j.func,λd x hx=>?_,j.size,j.todo,j.ds,j.md,j.rd,j.up⟩;rcases hS d with⟨q,q1,q2,q3⟩|⟨q1,q2⟩
  .rw[q3]at hx;cases hx;obtain⟨y,y1,y2⟩:=G.vals q (by rw[<- B];exact q1) (hin q q1);exact⟨y,bM (aJ.to_le_self ρ _) _ _ y1,y2 d q2⟩
  .rw[q2]at hx;obtain⟨y,y1,y2⟩:=G.olds d x hx λq hq _=>q1 q (by rw[B];exact hq);exact⟨y,bM (aJ.to_le_self ρ _) _ _ y1,y2⟩
 intro m;induction m with
 |zero =>
  intro τ listed X F ρ w fr B hs hleft M G z;refine fin listed X F ρ w fr B (λi hi=>?_) G (by simpa[Region.linearise.go]using z);have:=uP listed.toList (by omega) i;have hi':i<listed.size:=by omega
  unfold cx;rw[agq hi'];cases hb:listed[i]with
  |true=>rfl
  |false=>exfalso;apply this;rw[afo,agq hi',hb]
 |succ m ihf =>
  intro τ listed X F ρ w fr B hs hleft M G z;simp only[Region.linearise.go]at z
  change kK E.P ρ0 f fn .leaf (.inRegion ops (match(Region.ready .any ops listed)[τ%(Region.ready .any ops listed).length]? with
   |some i=>Region.linearise.go .any ops m (τ / (Region.ready .any ops listed).length) (listed.setIfInBounds i true) [i]
   |none=>[].reverse)::k) ds .run up rd fr cs at z
  cases hi:(Region.ready .any ops listed)[τ%(Region.ready .any ops listed).length]? with
  |none =>
   have hnil:Region.ready .any ops listed=[]:=by
    cases hr:Region.ready .any ops listed with
    |nil=>rfl
    |cons x xs =>grind [Nat.mod_lt]
   rw[hi]at z;exact fin listed X F ρ w fr B (CN hD.back hs hnil) G z
  |some i =>
   rw[hi]at z;simp only at z;rw[linearise_go_acc,ajN,afL]at z;obtain⟨o,ho,hfalse,hed⟩:=Dc hs (aeE hi);have hn:¬ cx listed i:=λh=>by unfold cx at h;rw[hfalse]at h;cases h
   have H:=ze hD.back M ho hed;have hisz:i<listed.size:=by grind
   obtain⟨e,heL,hei⟩:=hall i (by omega);subst hei;obtain⟨_,_,_,hev0,_⟩:=ef.ok hR heL;have heo:e.o=o:=by have:=hev0.op;rw[ho]at this;cases this;rfl
   subst heo;have heX:e∈X:=by
    rw[B]at heL;rcases aeS.1 heL with h|h
    .exact h
    .exact absurd (G.inF e h) hn
   obtain⟨X1,X2,rfl⟩:=aje heX;have hL':L=X1++e::(X2++F):=by rw[B];simp
   have N:=hR;rw[hL']at N;obtain⟨hev,hRY⟩:=ef.at N;have O:∀ d,e.o.dst=some d->d<fr.tmps.size:=λd hd=>afs (so hdst ho d hd) z.size;have hm:=Ak z;have Q:=z.todo rfl;have U:(listed.setIfInBounds e.i true).size=ops.size:=by simpa using hs
   have hleft':left (listed.setIfInBounds e.i true).toList<=m:=by
    have:=zR listed.toList e.i (by rw[afo];exact hfalse)
    grind
   have I:=zN hisz;have W:gv ops (cx (listed.setIfInBounds e.i true)):=by rw[I];exact M.with1 H
   by_cases hk:kJ E e.o
   .
    have hstep:jE E (bO ih) e.t e.a e.o (bT ops e.t e.o)=some (e.v,e.b)/\∀ q∈X2++F,mJ ops e.i q.i:=by
     rcases hev.step with⟨hk',_⟩|⟨_,h1,_,h2⟩
     .grind
     grind
    obtain⟨hst,hXF⟩:=hstep;have hX2:∀ q∈X2,cx listed q.i:=λq hq=>H _ (hXF q (by simp[hq]));have p:=G.reg (X1:=X1++[e]) (Z:=X2) (by simp) hRY hX2;rw[<- hev.st]at p;have hT:=G.env hD N hn M H;have wsp:∀ b,bT ops e.t e.o=some b->Region.wanted e.o (yielded ops fr.tmps)=b:=λb hb=>by grind [kZ,fj]
    have go:∀(ρ1:aJ) (J:World) (y:Value),Steps E.P (lone fr cs w) (lone (fr.finish y) cs J)->HR ρ1 e.b J->FR (ρ.to e.a.next) w ρ1 J->den ρ1 e.v=some y ->
     ∃ ρ' w' fr',Steps E.P (lone fr cs w) (lone fr' cs w')/\FR ρ0 w0 ρ' w'/\HR ρ' (cy s0 L) w'/\kK E.P ρ' f fn t' k ds .run up rd fr' cs:=by
     intro ρ1 J y hsteps h1 h2 h3;obtain⟨ρ',A⟩:=G.effect hD N hk hn hX2 h1 h2 h3 O;obtain⟨j,htm⟩:=Oi z ho y;rw[<- I,<- htm]at A;obtain⟨ρ2,w2,fr2,a1,a2⟩:=ihf (τ / (Region.ready .any ops listed).length) _ X1 (e::(X2++F)) ρ' J (fr.finish y) hL' U hleft' W A j;exact⟨ρ2,w2,fr2,hsteps.trans a1,a2⟩
    unfold jE at hst;split at hst
    .rename_i hw;have hwant:=wsp _ hw;rw[<- jP (ops:=ops)]at hst;cases K:dC E (only e.t (looks ops e.o)) e.a e.o with
     |none=>rw[K]at hst;cases hst
     |some nx =>
      rw[K]at hst;have hop:=nD hE p hT e.o K;have hstg:(∀ c,e.o.op≠.defer c)->stepG E.P true { frame:=fr,callers:=cs,status:=.running,dying:=none } w=stepG.apply E.P true fr cs none (execOp (rv fr.tmps) e.o) w:=λq=>iw hm Q ho hwant (.inr q);cases nx with
      |val v s1 =>simp only[ru,abf,aiQ]at hst;obtain⟨r,u⟩:=hst;obtain⟨ρ1,y,J,h1,h2,h3,h4⟩:=hop;have hst:=hstg (dr K (λd s'=>by intro h;cases h));exact go ρ1 J y (.one (qa hst h1)) (by rw[<- u];exact h3) h4 (by rw[<- r];exact h2)
      |skip s1 =>simp only[ru,abf,aiQ]at hst;obtain⟨r,u⟩:=hst;obtain⟨ρ1,J,h1,h3,h4⟩:=hop;have hst:=hstg (dr K (λd s'=>by intro h;cases h));exact go ρ1 J undef (.one (Gb hst h1)) (by rw[<- u];exact h3) h4 (by rw[<- r];rfl)
      |enter g args s1 =>
       obtain⟨ys,h1,h2,h3⟩:=hop;have hstx:=hstg (dr K (λd s'=>by intro h;cases h));simp only[ru]at hst;cases hr:bO ih g args none s1 with
       |none=>rw[hr]at hst;cases hst
       |some out =>
        rw[hr]at hst;obtain⟨hcall,hfin⟩:=mg hg h3 h1 hr;rw[hcall]at h2;obtain⟨ρ1,J,en,j1,j2,j3,j4⟩:=hfin fr cs;have hsteps:Steps E.P (lone fr cs w) (lone (cF fr en) cs J):=.head (um Q hstx h2) j4;obtain⟨oe,oup,os⟩:=out;cases oe with
        |panicked c=>cases hst
        |returned v =>
         simp only[AZ,abf,aiQ]at hst;obtain⟨r,u⟩:=hst;cases en with
         |returned y=>exact go ρ1 J y hsteps (by rw[<- u];exact j1) j2 (by rw[<- r];exact j3)
         |panicked _=>exact j3.elim
         |outgrown=>exact j3.elim
      |round l args s1=>cases hst
      |defer df s1=>cases hst
      |recover s1=>cases hst
      |panic v s1=>cases hst
    .rename_i hw;have hwant:=wsp _ hw;simp only[abf,aiQ]at hst;obtain⟨r,u⟩:=hst;exact go (ρ.to e.a.next) w undef (.one (iR hm Q (by simp[ho,hwant]))) (by rw[<- u];exact p) (FR.refl _ _) (by rw[<- r];rfl)
    .cases hst
   .
    rcases G.float hD N hk hn M H O with⟨hwant,A⟩|⟨hwant,y,J,ρ1,hrun,A⟩
    .obtain⟨j,htm⟩:=Oi z ho undef;rw[<- I,<- htm]at A;obtain⟨ρ2,w2,fr2,a1,a2⟩:=ihf (τ / (Region.ready .any ops listed).length) _ (X1++e::X2) F ρ w (fr.finish undef) B U hleft' W A j;exact⟨ρ2,w2,fr2,(Steps.one (iR hm Q (by simp[ho,hwant]))).trans a1,a2⟩
    .obtain⟨j,htm⟩:=Oi z ho y;rw[<- I,<- htm]at A;obtain⟨ρ2,w2,fr2,a1,a2⟩:=ihf (τ / (Region.ready .any ops listed).length) _ (X1++e::X2) F ρ1 J (fr.finish y) B U hleft' W A j;have hnd:∀ c,e.o.op≠.defer c:=λc hc=>by apply hk;show aL E.P e.o.op=3;rw[hc];rfl
     exact⟨ρ2,w2,fr2,(Steps.one (qa (iw hm Q ho hwant (.inr hnd)) hrun)).trans a1,a2⟩
theorem PN{P:Program}{fr:Frame}{cs:List Frame}{w:World}{id:Nat}(hm:fr.mode=.run)(a:fr.todo=.code (.region id ops true)::k) :
 step P (lone fr cs w)=.next (lone { fr with todo:=.inRegion ops (Region.schedule (P.follows .mixedOrders) ops (w.tape w.drawn (.order fr.fn id)))::k } cs { w with drawn:=w.drawn+1 }) :=
 afr (by simp[stepG,stepG.exec,hm,a,choose,Sem.run,Question.forced,Question.cut])
end
section
variable{E:dI}{ih:uv->S->Option ft}{ops:Array Oper}{t0:T V}{s0:S}{ρ0:aJ}{w0:World}{f:FuncId}{fn:Func}{k:List Item}{rd:Option Nat}{ds:List eO}{up:Option Md}{cs:List Frame}
theorem jF{done:Nat}{d:Tmp}{x:V}:∀ {l:List (Nat×Oper)} {t:T V},(dU done l t).get (eX d)=some x->t.get (eX d)=some x/\∀ a o,(a,o)∈l->o.dst=some d->done.testBit a=true
 |[],t,h=>⟨h,λ_ _ h=>by cases h⟩
 |(a,o)::r,t,h=>by
  simp only[dU]at h;cases hb:done.testBit a with
  |true =>
   rw[hb]at h;obtain⟨b,i⟩:=jF h;refine⟨b,λj o' hm c=>?_⟩;rcases abn.1 hm with hm|hm
   .cases hm;exact hb
   .exact i j o' hm c
  |false =>
   rw[hb]at h;simp only[SE]at h;cases ho:o.dst with
   |none =>
    rw[ho]at h;obtain⟨b,i⟩:=jF h;refine⟨b,λj o' hm c=>?_⟩;rcases abn.1 hm with hm|hm
    .cases hm;rw[ho]at c;cases c
    .exact i j o' hm c
   |some e =>
    rw[ho]at h;simp only at h;rw[T.setK_eq]at h;obtain⟨b,i⟩:=jF h;rw[T.get_setN]at b;by_cases g:e=d
    .rw[agC g]at b;cases b
    .rw[afp g]at b;refine⟨b,λj o' hm c=>?_⟩;rcases abn.1 hm with hm|hm
     .cases hm;rw[ho]at c;cases c;exact absurd rfl g
     .exact i j o' hm c
theorem FR.to_start{ρ:aJ}{w:World}{n:Nat}(h:FR ρ0 w0 ρ w)(h0:∀ f v,n<=f->ρ0 f v=none):FR ρ0 w0 (ρ.to n) w :=
 ⟨λf v l e=>by
  have a:f<n:=ajZ λhc=>by rw[h0 f v hc]at e;cases e
  rw[aJ.to_of a];exact h.ext f v l e,h.size,h.os,h.tape,h.output,h.same,λf v l e hl=>h.new f v l (aJ.to_lt e).2 hl⟩
theorem yu.envP{rec:iK}{Z X2 F:List Ev}{i:Nat}{o:Oper}{t1:T V}{R:Nat->Prop}{ρ:aJ}{w:World}{tm:Array Value}(hD:lV ops)(h:yu E t0 s0 ρ0 w0 (Z++X2) F R ρ w tm)
 (M:ef E rec ops t0 s0 (Z++(X2++F))) (ho:ops[i]? = some o) (N:∀ k,mJ ops i k->∃ q∈X2++F,q.i=k) (a:∀ q∈Z++(X2++F),q.i≠i) (hslots:qd t0 (X2++F) t1)
 (hn:¬ R i) (O:gv ops R) (I:∀ k,mJ ops i k->R k):TR (ρ.to (cy s0 (X2++F)).next) (only t1 (looks ops o)) tm:=by
 have hL:Z++X2++F=Z++(X2++F):=by simp
 have j:ef E rec ops t0 s0 (X2++F):=ef.suf M;intro d x A;rw[po]at A;split at A
 .rename_i r;have u:∀ q oq,ops[q]? = some oq->oq.dst=some d->q≠i->mJ ops i q\/mJ ops q i:=by
   intro q oq l c B;rcases aeS.1 r with r|r
   .exact hD.sees i q o oq d ho l (λh=>B h.symm) c r
   .unfold qy at r;split at r
    .rename_i g b hg;have m:((ops[g]?).bind (·.dst))=some d:=by simpa using r
     cases G:ops[g]? with
     |none=>rw[G]at m;cases m
     |some og =>
      rw[G]at m;by_cases J:g=q
      .subst J;exact .inl (hD.guard i o g b ho hg)
      .exact absurd m (hD.dst g q og oq d G l J c)
    .simp at r
  have Q:∀ q∈X2++F,q.b.next<=(cy s0 (X2++F)).next:=λq l=>by obtain⟨Y1,Y2,U⟩:=aje l;rw[U]at j ⊢;exact ef.next_le (Y:=q::Y2) j
  rcases hslots d with⟨q,H,K,q3⟩|⟨H,K⟩
  .rw[q3]at A;cases A;obtain⟨Ya,Yb,U,v,_⟩:=ef.ok j H;have B:q.i≠i:=a q (afv _ H);rcases u q.i q.o v.op K B with p|p
   .obtain⟨y,W,X⟩:=h.vals q (by rw[hL];exact afv _ H) (I _ p);exact⟨y,bM (aJ.to_le ρ (Q q H)) _ _ W,X d K⟩
   .obtain⟨z,L,z2⟩:=v.pre i p;exact absurd z2 (a z (afv _ (by rw[U];simp[L])))
  .rw[K]at A
   obtain⟨y,W,X⟩:=h.olds d x A (λq l hr c=>by
    rw[hL]at l;obtain⟨_,Y',_,k1,_⟩:=ef.ok M l;rcases u q.i q.o k1.op c (a q l)with p|p
    .obtain⟨z,L,z2⟩:=N _ p;have hz:z=q:=ef.uniq M (afv _ L) l z2;subst hz;exact H z L c
    .exact hn (O q.i i hr p))
   refine⟨y,bM (aJ.to_le ρ ?_) _ _ W,X⟩;have h1:ef E rec ops t0 s0 ((X2++F)++[]):=by simpa using j
   have h2:=ef.next_le h1;rw[afq]at h2;exact h2
 .cases A
theorem Qi(hE:jf E)(hg:Good E.P ih)(hD:lV ops)(hdst:mw ops fn.ntmps=true)(h0:∀ f v,s0.next<=f->ρ0 f v=none){O:Nat}{o0:Oper}{Z0 Y0:List Ev}{done:Nat}{t1:T V}{c:List Gm}{s2:S}
 (ho0:ops[O]? = some o0) (hk0:kJ E o0) (hR:ef E (bO ih) ops t0 s0 (Z0++Y0)) (hdone:vT done Y0) (hS:qd t0 Y0 t1) (j:gX E (bO ih) t1 (cy s0 Y0) o0 (bT ops t1 o0)=some (.pan c s2))
 (hpY1:∀ q∈Y0,mJ ops O q.i) (hpY:∀ k,mJ ops O k->∃ q∈Y0,q.i=k) (hZ:∀ q∈Z0,¬ kJ E q.o) (hnew:∀ q∈Z0++Y0,q.i≠O) (hall:∀ k,k<ops.size->k≠O->¬ mJ ops k O->∃ q∈Z0++Y0,q.i=k) :
 ∀(A τ:Nat) (listed:Array Bool) (X F:List Ev) (ρ:aJ) (w:World) (fr:Frame),Z0++Y0=X++F->listed.size=ops.size->left listed.toList<=A->gv ops (cx listed)->¬ cx listed O ->
  yu E t0 s0 ρ0 w0 X F (cx listed) ρ w fr.tmps->kK E.P ρ0 f fn .leaf (.inRegion ops (Region.linearise.go .any ops A τ listed [])::k) ds .run up rd fr cs ->
  ∃ ρ' w' fr',Steps E.P (lone fr cs w) (lone fr' cs w')/\FR ρ0 w0 ρ' w'/\HR ρ' s2 w'/\kK E.P ρ' f fn (dU done (cS ops.toList 0) t1) k ds (.panicking c) up rd fr' cs:=by
 have hi0:O<ops.size:=by
  rcases aiU O ops.size with h|h
  .exact h
  .rw[ajb h]at ho0;cases ho0
 intro A;induction A with
 |zero =>
  intro τ listed X F ρ w fr hL hs hleft hcl hni hI W;exfalso;have:=uP listed.toList (by omega) O;have hi':O<listed.size:=by omega
  apply hni;unfold cx;rw[agq hi'];cases hb:listed[O]with
  |true=>rfl
  |false=>exfalso;apply this;rw[afo,agq hi',hb]
 |succ A ihf =>
  intro τ listed X F ρ w fr hL hs hleft hcl hni hI W;simp only[Region.linearise.go]at W
  change kK E.P ρ0 f fn .leaf (.inRegion ops (match(Region.ready .any ops listed)[τ%(Region.ready .any ops listed).length]? with
   |some i=>Region.linearise.go .any ops A (τ / (Region.ready .any ops listed).length) (listed.setIfInBounds i true) [i]
   |none=>[].reverse)::k) ds .run up rd fr cs at W
  cases hi:(Region.ready .any ops listed)[τ%(Region.ready .any ops listed).length]? with
  |none =>
   exfalso;have hnil:Region.ready .any ops listed=[]:=by
    cases hr:Region.ready .any ops listed with
    |nil=>rfl
    |cons x xs =>rw[hr]at hi;have hlt:τ%(x::xs).length<(x::xs).length:=Nat.mod_lt _ (by simp);simp at hi;simp at hlt;omega
   exact hni (CN hD.back hs hnil O hi0)
  |some i =>
   rw[hi]at W;simp only at W;rw[linearise_go_acc,ajN,afL]at W;obtain⟨o,ho,hfalse,hed⟩:=Dc hs (aeE hi);have hn:¬ cx listed i:=λh=>by unfold cx at h;rw[hfalse]at h;cases h
   have p:=ze hD.back hcl ho hed;have hisz:i<listed.size:=by
    rcases aiU i listed.size with h|h
    .exact h
    .rw[ajb h]at hfalse;cases hfalse
   have hm:=Ak W;have Q:=W.todo rfl;by_cases hii:i=O
   .
    subst hii;rw[ho0]at ho;cases ho;obtain⟨X2,hX2,hY0⟩:∃ X2,X=Z0++X2/\Y0=X2++F:=by
     rcases List.append_eq_append_iff.1 hL with⟨a,H,u⟩|⟨a,H,u⟩
     .exact⟨a,H,u⟩
     .cases a with
      |nil=>exact⟨[],by simpa using H.symm,by simpa using u.symm⟩
      |cons e a =>exfalso;subst u;have hfe:kJ E e.o:=hI.front;exact hZ e (by rw[H];simp) hfe
    subst hX2;subst hY0;have U:ef E (bO ih) ops t0 s0 (X2++F):=ef.suf hR;have J:=hI.reg (X1:=Z0) (Z:=X2) rfl U λq hq=>p _ (hpY1 q (aim _ hq));have hT:=hI.envP hD hR ho0 hpY hnew hS hn hcl p;have wsp:∀ b,bT ops t1 o0=some b->Region.wanted o0 (yielded ops fr.tmps)=b:=λb hb=>by rw[<- kZ]at hb;exact fj hT hb
    have hFR0:FR ρ0 w0 (ρ.to (cy s0 (X2++F)).next) w:=hI.fr.to_start λf v hf=>h0 f v (by
     have H:ef E (bO ih) ops t0 s0 ((X2++F)++[]):=by simpa using U
     have u:=ef.next_le H;rw[afq]at u;exact acd u hf)
    have tr:∀ ρ1:aJ,(ρ.to (cy s0 (X2++F)).next).le ρ1->TR ρ1 (dU done (cS ops.toList 0) t1) fr.tmps:=λρ1 hle d x hx=>by
     obtain⟨hx1,hx2⟩:=jF hx;have hle2:∀ q∈X2++F,q.b.next<=(cy s0 (X2++F)).next:=λq hq=>by obtain⟨Y1,Y2,hY⟩:=aje hq;rw[hY]at U ⊢;exact ef.next_le (Y:=q::Y2) U
     rcases hS d with⟨q,q1,q2,q3⟩|⟨q1,q2⟩
     .rw[q3]at hx1;cases hx1;obtain⟨y,y1,y2⟩:=hI.vals q (by rw[aft];exact afv _ q1) (p _ (hpY1 q q1));exact⟨y,bM (aJ.le_trans (aJ.to_le ρ (hle2 q q1)) hle) _ _ y1,y2 d q2⟩
     .rw[q2]at hx1;obtain⟨y,y1,y2⟩:=hI.olds d x hx1 λq hq hr hdq=>by rw[aft]at hq;obtain⟨_,_,_,k1,_⟩:=ef.ok hR hq;have:=hx2 q.i q.o (eh.2 k1.op) hdq;obtain⟨z,z1,z2⟩:=(hdone q.i).1 this;have hz:z=q:=ef.uniq hR (afv _ z1) hq z2;subst hz;exact q1 z z1 hdq
      have H:ef E (bO ih) ops t0 s0 ((X2++F)++[]):=by simpa using U
      have u:=ef.next_le H;rw[afq]at u;exact⟨y,bM (aJ.le_trans (aJ.to_le ρ u) hle) _ _ y1,y2⟩
    unfold gX at j;split at j
    .rename_i hw;have hwant:=wsp _ hw;rw[<- jP (ops:=ops)]at j;cases r:dC E (only t1 (looks ops o0)) (cy s0 (X2++F)) o0 with
     |none=>rw[r]at j;cases j
     |some nx =>
      rw[r]at j;have hop:=nD hE J hT o0 r;have I:(∀ c,o0.op≠.defer c)->stepG E.P true { frame:=fr,callers:=cs,status:=.running,dying:=none } w=stepG.apply E.P true fr cs none (execOp (rv fr.tmps) o0) w:=λq=>iw hm Q ho0 hwant (.inr q);cases nx with
      |enter g args s1 =>
       obtain⟨ys,H,u,h3⟩:=hop;have K:=I (dr r (λd s'=>by intro h;cases h));simp only[kn]at j;cases hr:bO ih g args none s1 with
       |none=>rw[hr]at j;cases j
       |some out =>
        rw[hr]at j;obtain⟨hcall,hfin⟩:=mg hg h3 H hr;rw[hcall]at u;obtain⟨ρ1,L,en,j1,j2,j3,j4⟩:=hfin fr cs;have hsteps:Steps E.P (lone fr cs w) (lone (cF fr en) cs L):=.head (um Q K u) j4;obtain⟨oe,oup,os⟩:=out;cases oe with
        |returned v=>cases j
        |panicked c' =>
         simp only[nW,abf,OY.pan.injEq]at j;obtain⟨rfl,rfl⟩:=j;cases en with
         |returned _=>exact j3.elim
         |outgrown=>exact j3.elim
         |panicked ch =>have hfr:=hFR0.trans j2;have m:=W.mono hfr.ext;exact⟨ρ1,L,_,hsteps,hfr,j1,⟨m.name.symm▸(by rw[cF,bC hm]),m.func,by rw[cF,bC hm];exact tr ρ1 j2.ext,by rw[cF,bC hm];exact m.size,(λq=>by cases q),by rw[cF,bC hm];exact m.ds,by rw[cF,bC hm];exact j3,by rw[cF,bC hm];exact m.rd,by rw[cF,bC hm];exact m.up⟩⟩
      |panic v s1 =>simp only[kn,abf,OY.pan.injEq]at j;obtain⟨rfl,rfl⟩:=j;obtain⟨y,H,u,h3⟩:=hop;have K:=I (dr r (λd s'=>by intro h;cases h));refine⟨ρ.to (cy s0 (X2++F)).next,w,_,.one (IF K u),hFR0,h3,?_⟩;rw[bC hm];have m:=W.mono hFR0.ext;exact⟨m.name,m.func,tr _ (aJ.le_refl _),m.size,(λq=>by cases q),m.ds,⟨⟨H,rfl,rfl⟩,trivial⟩,m.rd,m.up⟩
      |val v s1=>cases j
      |skip s1=>cases j
      |round l args s1=>cases j
      |defer df s1=>cases j
      |recover s1=>cases j
    .cases j
    .cases j
   .
    obtain⟨e,heL,hei⟩:=hall i (by omega) hii λh=>hni (p _ h);subst hei;have hL0:=hL;obtain⟨_,_,_,hev0,_⟩:=ef.ok hR heL;have heo:e.o=o:=by have:=hev0.op;rw[ho]at this;cases this;rfl
    subst heo;have heX:e∈X:=by
     rw[hL]at heL;rcases aeS.1 heL with h|h
     .exact h
     .exact absurd (hI.inF e h) hn
    obtain⟨X1,X2,rfl⟩:=aje heX;have hL':Z0++Y0=X1++e::(X2++F):=by rw[hL];simp
    have hR':=hR;rw[hL']at hR';obtain⟨hev,U⟩:=ef.at hR';have hdst':∀ d,e.o.dst=some d->d<fr.tmps.size:=λd hd=>afs (so hdst ho d hd) W.size;have hsz':(listed.setIfInBounds e.i true).size=ops.size:=by simpa using hs
    have hleft':left (listed.setIfInBounds e.i true).toList<=A:=by have:=zR listed.toList e.i (by rw[afo];exact hfalse);rw[Array.toList_setIfInBounds];omega
    have M:=zN hisz;have hcl':gv ops (cx (listed.setIfInBounds e.i true)):=by rw[M];exact hcl.with1 p
    have hni':¬ cx (listed.setIfInBounds e.i true) O:=by
     rw[M];rintro(h|h)
     .exact hni h
     .exact hii h.symm
    by_cases hk:kJ E e.o
    .
     have hstep:jE E (bO ih) e.t e.a e.o (bT ops e.t e.o)=some (e.v,e.b)/\∀ q∈X2++F,mJ ops e.i q.i:=by
      rcases hev.step with⟨hk',_⟩|⟨_,H,_,u⟩
      .exact absurd hk hk'
      .exact⟨H,u⟩
     obtain⟨hst,hXF⟩:=hstep;have hX2:∀ q∈X2,cx listed q.i:=λq hq=>p _ (hXF q (by simp[hq]));have J:=hI.reg (X1:=X1++[e]) (Z:=X2) (by simp) U hX2;rw[<- hev.st]at J;have hT:=hI.env hD hR' hn hcl p;have wsp:∀ b,bT ops e.t e.o=some b->Region.wanted e.o (yielded ops fr.tmps)=b:=λb hb=>by rw[<- kZ]at hb;exact fj hT hb
     have go:∀(ρ1:aJ) (L:World) (y:Value),Steps E.P (lone fr cs w) (lone (fr.finish y) cs L)->HR ρ1 e.b L->FR (ρ.to e.a.next) w ρ1 L->den ρ1 e.v=some y ->
      ∃ ρ' w' fr',Steps E.P (lone fr cs w) (lone fr' cs w')/\FR ρ0 w0 ρ' w'/\HR ρ' s2 w'/\kK E.P ρ' f fn (dU done (cS ops.toList 0) t1) k ds (.panicking c) up rd fr' cs:=by
      intro ρ1 L y hsteps H u h3;obtain⟨ρ',N⟩:=hI.effect hD hR' hk hn hX2 H u h3 hdst';obtain⟨hF',htm⟩:=Oi W ho y;rw[<- M,<- htm]at N;obtain⟨ρ2,w2,fr2,a1,a2⟩:=ihf (τ / (Region.ready .any ops listed).length) _ X1 (e::(X2++F)) ρ' L (fr.finish y) hL' hsz' hleft' hcl' hni' N hF';exact⟨ρ2,w2,fr2,hsteps.trans a1,a2⟩
     unfold jE at hst;split at hst
     .rename_i hw;have hwant:=wsp _ hw;rw[<- jP (ops:=ops)]at hst;cases r:dC E (only e.t (looks ops e.o)) e.a e.o with
      |none=>rw[r]at hst;cases hst
      |some nx =>
       rw[r]at hst;have hop:=nD hE J hT e.o r;have I:(∀ c,e.o.op≠.defer c)->stepG E.P true { frame:=fr,callers:=cs,status:=.running,dying:=none } w=stepG.apply E.P true fr cs none (execOp (rv fr.tmps) e.o) w:=λq=>iw hm Q ho hwant (.inr q);cases nx with
       |val v s1 =>simp only[ru,abf,aiQ]at hst;obtain⟨B,G⟩:=hst;obtain⟨ρ1,y,L,H,u,h3,h4⟩:=hop;have hst:=I (dr r (λd s'=>by intro h;cases h));exact go ρ1 L y (.one (qa hst H)) (by rw[<- G];exact h3) h4 (by rw[<- B];exact u)
       |skip s1 =>simp only[ru,abf,aiQ]at hst;obtain⟨B,G⟩:=hst;obtain⟨ρ1,L,H,h3,h4⟩:=hop;have hst:=I (dr r (λd s'=>by intro h;cases h));exact go ρ1 L undef (.one (Gb hst H)) (by rw[<- G];exact h3) h4 (by rw[<- B];rfl)
       |enter g args s1 =>
        obtain⟨ys,H,u,h3⟩:=hop;have K:=I (dr r (λd s'=>by intro h;cases h));simp only[ru]at hst;cases hr:bO ih g args none s1 with
        |none=>rw[hr]at hst;cases hst
        |some out =>
         rw[hr]at hst;obtain⟨hcall,hfin⟩:=mg hg h3 H hr;rw[hcall]at u;obtain⟨ρ1,L,en,j1,j2,j3,j4⟩:=hfin fr cs;have hsteps:Steps E.P (lone fr cs w) (lone (cF fr en) cs L):=.head (um Q K u) j4;obtain⟨oe,oup,os⟩:=out;cases oe with
         |panicked c=>cases hst
         |returned v =>
          simp only[AZ,abf,aiQ]at hst;obtain⟨B,G⟩:=hst;cases en with
          |returned y=>exact go ρ1 L y hsteps (by rw[<- G];exact j1) j2 (by rw[<- B];exact j3)
          |panicked _=>exact j3.elim
          |outgrown=>exact j3.elim
       |round l args s1=>cases hst
       |defer df s1=>cases hst
       |recover s1=>cases hst
       |panic v s1=>cases hst
     .rename_i hw;have hwant:=wsp _ hw;simp only[abf,aiQ]at hst;obtain⟨B,G⟩:=hst;exact go (ρ.to e.a.next) w undef (.one (iR hm Q (by simp[ho,hwant]))) (by rw[<- G];exact J) (FR.refl _ _) (by rw[<- B];rfl)
     .cases hst
    .
     rcases hI.float hD hR' hk hn hcl p hdst' with⟨hwant,N⟩|⟨hwant,y,L,ρ1,hrun,N⟩
     .obtain⟨hF',htm⟩:=Oi W ho undef;rw[<- M,<- htm]at N;obtain⟨ρ2,w2,fr2,a1,a2⟩:=ihf (τ / (Region.ready .any ops listed).length) _ (X1++e::X2) F ρ w (fr.finish undef) hL hsz' hleft' hcl' hni' N hF';exact⟨ρ2,w2,fr2,(Steps.one (iR hm Q (by simp[ho,hwant]))).trans a1,a2⟩
     .obtain⟨hF',htm⟩:=Oi W ho y;rw[<- M,<- htm]at N;obtain⟨ρ2,w2,fr2,a1,a2⟩:=ihf (τ / (Region.ready .any ops listed).length) _ (X1++e::X2) F ρ1 L (fr.finish y) hL hsz' hleft' hcl' hni' N hF';have hnd:∀ c,e.o.op≠.defer c:=λc hc=>by apply hk;show aL E.P e.o.op=3;rw[hc];rfl
      exact⟨ρ2,w2,fr2,(Steps.one (qa (iw hm Q ho hwant (.inr hnd)) hrun)).trans a1,a2⟩
theorem HW(Q:jf E)(m:E.P.follows .mixedOrders=true):ej E:=by
 intro ih U f fn id ops k rd t ds up s r j e ρ w fr cs h a;obtain⟨hD,hcase⟩:=FD e;have hm:=Ak a;have W:=a.todo rfl;have hstep:=PN (P:=E.P) (cs:=cs) (w:=w) hm W;rw[m]at hstep;simp only[Region.schedule,Bool.true_or,ajY,Region.linearise]at hstep;have b:∀ i,¬ cx (Array.replicate ops.size false) i:=by intro i hi;unfold cx at hi;rw[Array.getElem?_replicate]at hi;split at hi<;>cases hi
 have o:∀ L,yu E t s ρ w L [] (cx (Array.replicate ops.size false)) ρ { w with drawn:=w.drawn+1 } fr.tmps:=by
  intro L;have p:ρ.to s.next=ρ:=aJ.to_all λf v q=>h.fresh f v q;refine⟨trivial,by simp,λe _ hr=>absurd hr (b _),λe _ hr=>absurd hr (b _),λd x X _=>?_,λe _ hr=>absurd hr (b _),?_,h.inj,h.low,λf v q=>.inl ?_,FR.drawn w _⟩
  .rw[p];exact a.tr d x X
  .show HR (ρ.to s.next) s _;rw[p];exact h.drawn _
  .show f<s.next;exact ajZ λhc=>q (h.fresh f v hc)
 have u:kK E.P ρ f fn .leaf (.inRegion ops (Region.linearise.go .any ops ops.size (w.tape w.drawn (.order fr.fn id)) (Array.replicate ops.size false) [])::k) ds .run up rd { fr with todo:=.inRegion ops (Region.linearise.go .any ops ops.size (w.tape w.drawn (.order fr.fn id)) (Array.replicate ops.size false) [])::k } cs :=
  ⟨a.name,a.func,TR.leaf _ _,a.size,λ_=>rfl,a.ds,a.md,a.rd,a.up⟩
 have l:gv ops (cx (Array.replicate ops.size false)):=λi k hi=>absurd hi (b _);rcases hcase with⟨L,t',s',rfl,B,G,rfl,g⟩|⟨i0,o0,Z0,Y0,done,t1,c,s2,rfl,H,I,B,hdone,G,y,z,J,Y,A,g⟩
 .obtain⟨ρ',w',fr',K,M,N,O⟩:=Qh (ih:=ih) (f:=f) (fn:=fn) (k:=k) (rd:=rd) (ds:=ds) (up:=up) (cs:=cs) (ρ0:=ρ) (w0:=w) Q U hD j B g G ops.size _ (Array.replicate ops.size false) L [] ρ { w with drawn:=w.drawn+1 } { fr with todo:=.inRegion ops (Region.linearise.go .any ops ops.size (w.tape w.drawn (.order fr.fn id)) (Array.replicate ops.size false) [])::k } (by simp) (by simp)
   (by simp[jZ]) l (o L) u
  exact⟨ρ',w',fr',cs,.head hstep K,M,ur.refl a,N,O,rfl⟩
 .obtain⟨ρ',w',fr',K,M,N,O⟩:=Qi (ih:=ih) (f:=f) (fn:=fn) (k:=k) (rd:=rd) (ds:=ds) (up:=up) (cs:=cs) (ρ0:=ρ) (w0:=w) Q U hD j (λf v q=>h.fresh f v q) H I B hdone G y z J Y A g ops.size _ (Array.replicate ops.size false) (Z0++Y0) [] ρ { w with drawn:=w.drawn+1 } { fr with todo:=.inRegion ops (Region.linearise.go .any ops ops.size (w.tape w.drawn (.order fr.fn id)) (Array.replicate ops.size false) [])::k } (by simp) (by simp)
   (by simp[jZ]) l (b _) (o _) u
  exact⟨ρ',w',fr',cs,.head hstep K,M,ur.refl a,N,O,rfl⟩
end
def aJ.no:aJ:=λ_ _=>none
theorem HR.empty(w:World)(n:Nat):HR aJ.no ⟨.leaf,n⟩ w :=
 ⟨λ_ _ _=>rfl,λ_ _ _ _ _ _ e=>(by cases e),λ_ _ _ e=>(by cases e),λf B hB=>by(rw[S.get_eq,T.get_leaf]at hB;cases hB),λf B hB=>by(rw[S.get_eq,T.get_leaf]at hB;cases hB),λf B hB=>by(rw[S.get_eq,T.get_leaf]at hB;cases hB)⟩
theorem Bn{P:Program}{f:FuncId}{args:List V}{s:S}{v:V}{u:Option Md}{s':S}(h:gu P f args none s ⟨.returned v,u,s'⟩){ρ:aJ}{w:World}{ys:List Value}(hr:HR ρ s w)(b:bg ρ args=some ys) :
 Calls P f ys.toArray w λe w'=>∃ ρ' y,e=.returned y/\den ρ' v=some y/\HR ρ' s' w'/\FR ρ w ρ' w':=by
 intro cs;obtain⟨_,c⟩:=h ρ w ys hr b;obtain⟨ρ',w',d,g,fr',e,a,i,j,l⟩:=c cs (λu m=>by cases m);cases e with
 |panicked _=>exact a.elim
 |outgrown=>exact a.elim
 |returned y=>exact⟨.returned y,w',fr',⟨ρ',y,rfl,a,d,g⟩,i,j,l⟩
theorem FR.keeps{w:World}{ρ':aJ}{w':World}(h:FR aJ.no w ρ' w'):∀ b,b<w.heap.size->w'.heap[b]? = w.heap[b]?:=λb hb=>h.same b hb λf v l e=>by cases e
theorem GH{P:Program}{f:FuncId}{args:List V}{v:V}{n:Nat}{s1:S}(h:gu P f args none ⟨.leaf,n⟩ ⟨.returned v,none,s1⟩)
 (d:∀ ρ ys,bg ρ args=some ys->bg aJ.no args=some ys) (g:∀ ρ y,den ρ v=some y->∀ ρ',den ρ' v=some y) (s:S):gu P f args none s ⟨.returned v,none,s⟩:=by
 intro ρ w ys hr i;obtain⟨j,m⟩:=h aJ.no w ys (HR.empty w n) (d ρ ys i);refine⟨j,λcs hup=>?_⟩;obtain⟨ρ',w',k1,a,fr',e,c,o,p,q⟩:=m cs (λu r=>by cases r);refine⟨ρ,w',hr.frame a.size a.keeps,⟨ρ.le_refl,a.size,a.os,a.tape,a.output,λb hb _=>a.keeps b hb,λf v l e _=>⟨f,v,l,e,rfl,id⟩⟩,fr',e,?_,o,p,q⟩;cases e with
 |panicked _=>exact c.elim
 |outgrown=>exact c.elim
 |returned y=>exact g _ _ c _
def Sub(a s:S):Prop:=(∀ f B,a.get f=some B->s.get f=some B)/\s.next<=a.next
theorem HR.sub{ρ:aJ}{a s:S}{w:World}(h:HR ρ s w)(b:Sub a s):HR ρ a w :=
 ⟨λf v c=>h.fresh f v (acd b.2 c),h.inj,h.low,λf B hB=>h.blk f B (b.1 f B hB),λf B hB=>afs (h.dom f B (b.1 f B hB)) b.2,λf B hB=>h.rw f B (b.1 f B hB)⟩
theorem Jr{P:Program}{f:FuncId}{args:List V}{v:V}{a c s b:S}(h:gu P f args none a ⟨.returned v,none,c⟩)(d:Sub a s)(g:Sub b c):gu P f args none s ⟨.returned v,none,b⟩:=by intro ρ w ys hr i;obtain⟨j,l⟩:=h ρ w ys (hr.sub d) i;refine⟨j,λcs hup=>?_⟩;obtain⟨ρ',w',m,o,fr',e,p,q,r,x⟩:=l cs (λu y=>by cases y);exact⟨ρ',w',m.sub g,o,fr',e,p,q,r,x⟩
def Es(u v:oJ):Bool:=Nat.beq u.v v.v&&Nat.beq u.lo v.lo&&bq u.cells v.cells
def sP:List oJ->List oJ->Bool
 |[],[]=>true
 |u::r,v::q=>Es u v&&sP r q
 |_,_=>false
def Eu(x y:qT):Bool:=bq [x.key,x.val] [y.key,y.val]&&Nat.beq x.born y.born
def sQ:List qT->List qT->Bool
 |[],[]=>true
 |u::r,v::q=>Eu u v&&sQ r q
 |_,_=>false
def Ey:dY->dY->Bool
 |.cells e sb nv vs,.cells a sb' nv' vs'=>Nat.beq e a&&(sb==sb')&&Nat.beq nv nv'&&sP vs vs'
 |.map es c,.map es' b=>sQ es es'&&Nat.beq c b
 |.gone,.gone=>true
 |_,_=>false
def PU:Option dY->Option dY->Bool
 |none,_=>true
 |some a,some b=>Ey a b
 |some _,none=>false
def PH:T dY->T dY->Bool
 |.leaf,_=>true
 |.node l v r,.node l' v' a=>PU v v'&&PH l l'&&PH r a
 |.node _ _ _,.leaf=>false
def TE(a s:S):Bool:=Nat.ble s.next a.next&&PH a.h s.h
theorem Er{u v:oJ}(h:Es u v=true):u=v:=by
 unfold Es at h;simp only[aaV]at h;cases u;cases v
 grind [Nat.eq_of_beq_eq_true,dc]
theorem qX:∀ {a b:List oJ},sP a b=true->a=b
 |[],[],_=>rfl
 |[],_::_,h=>by cases h
 |_::_,[],h=>by cases h
 |u::r,v::q,h=>by simp only[sP,aaV]at h;rw[Er h.1,qX h.2]
theorem Et{u v:qT}(h:Eu u v=true):u=v:=by
 unfold Eu at h;simp only[aaV]at h;have h1:=dc h.1;have h2:=aaO h.2;cases u;cases v
 grind
theorem qY:∀ {a b:List qT},sQ a b=true->a=b
 |[],[],_=>rfl
 |[],_::_,h=>by cases h
 |_::_,[],h=>by cases h
 |u::r,v::q,h=>by simp only[sQ,aaV]at h;rw[Et h.1,qY h.2]
theorem Ew:∀ {a b:dY},Ey a b=true->a=b:=by
 intro a b h;unfold Ey at h;split at h
 .simp only[aaV,ajX]at h
  grind [Nat.eq_of_beq_eq_true,qX]
 .simp only[aaV]at h;rw[qY h.1,aaO h.2]
 .rfl
 .cases h
theorem uz:∀ {a b:T dY},PH a b=true->∀ p B,a.get p=some B->b.get p=some B
 |.leaf,_,_,p,B,e=>by rw[T.get_leaf]at e;cases e
 |.node _ _ _,.leaf,h,_,_,_=>by cases h
 |.node l v r,.node l' v' r',h,p,B,e=>by
  simp only[PH,aaV]at h;cases p with
  |o =>
   rw[T.get_o]at e ⊢;subst e;cases v' with
   |none=>have:=h.1.1;cases this
   |some B'=>rw[Ew (a:=B) (b:=B') h.1.1]
  |l p=>rw[T.get_l]at e ⊢;exact uz h.1.2 p B e
  |r p=>rw[T.get_r]at e ⊢;exact uz h.2 p B e
theorem CI{a s:S}(h:TE a s=true):Sub a s:=by unfold TE at h;simp only[aaV]at h;exact⟨λf B hB=>by rw[S.get_eq]at hB ⊢;exact uz h.2 _ B hB,abh h.1⟩
def lO(E:dI)(n:Nat)(f:FuncId)(args:List V)(a:S)(v:V)(b:S):Bool :=
 match rK E n (.call f args none) a with
 |some ⟨.returned v',none,s'⟩=>bq [v] [v']&&TE b s'
 |_=>false
theorem ec{E:dI}(d:jf E)(g:ut E)(hD:ej E){n:Nat}{f:FuncId}{args:List V}{a:S}{v:V}{b:S}(h:lO E n f args a v b=true){s:S}(i:Sub a s):gu E.P f args none s ⟨.returned v,none,b⟩:=by
 unfold lO at h;split at h
 .rename_i v' s' hr;simp only[aaV]at h;have c:=dc h.1;simp at c;subst c;exact Jr (mY d g hD n _ _ _ hr) i (CI h.2)
 .cases h
def uL(E:dI)(n:Nat)(f:FuncId)(args:List V)(v:V):Bool :=
 match rK E n (.call f args none) ⟨.leaf,0⟩with
 |some ⟨.returned v',none,_⟩=>bq [v] [v']
 |_=>false
def V.flat:V->Bool
 |.bool _=>true
 |.int _ _=>true
 |.str _=>true
 |.nilptr=>true
 |.nilslice=>true
 |.nilmap=>true
 |.nilFunc=>true
 |.nilIface=>true
 |_=>false
theorem HG{v:V}(h:v.flat=true):∀ ρ y,den ρ v=some y->∀ ρ',den ρ' v=some y:=by intro ρ y e ρ';cases v<;>simp[V.flat]at h<;>exact e
theorem Dw:∀ {l:List V},l.all V.flat=true->∀ ρ ys,bg ρ l=some ys->bg aJ.no l=some ys
 |[],_,_,_,e=>e
 |v::l,h,ρ,ys,e=>by simp only[akc,aaV]at h;obtain⟨y,q,a,b,rfl⟩:=bp.1 e;exact bp.2 ⟨y,q,HG h.1 _ _ a _,Dw h.2 _ _ b,rfl⟩
theorem ju{E:dI}(b:jf E)(c:ut E)(hD:ej E){n:Nat}{f:FuncId}{args:List V}{v:V}(h:uL E n f args v=true)(d:args.all V.flat=true)(g:v.flat=true)(s:S):gu E.P f args none s ⟨.returned v,none,s⟩:=by
 unfold uL at h;split at h
 .rename_i v' s' hr;have a:=dc h;simp at a;subst a;exact GH (mY b c hD n _ _ _ hr) (Dw d) (HG g) s
 .cases h
structure lN where
 f:FuncId
 args:List V
 a:S
 v:V
 b:S
def lN.fits(k:lN)(f:FuncId)(args:List V)(s:S):Bool:=Nat.beq f k.f&&(bq args k.args&&TE k.a s)
def xY:List lN->FuncId->List V->S->Option (V×S)
 |[],_,_,_=>none
 |k::r,f,args,s=>bif k.fits f args s then some (k.v,k.b)else xY r f args s
theorem tF:∀ {l:List lN} {f:FuncId} {args:List V} {s:S} {v:V} {s':S},xY l f args s=some (v,s')->∃ k∈l,k.f=f/\k.args=args/\Sub k.a s/\k.v=v/\k.b=s'
 |[],_,_,_,_,_,h=>by cases h
 |k::r,f,args,s,v,s',h=>by
  simp only[xY]at h;cases hb:k.fits f args s with
  |true =>rw[hb]at h;cases h;unfold lN.fits at hb;simp only[aaV]at hb;exact⟨k,by simp,(aaO hb.1).symm,(dc hb.2.1).symm,CI hb.2.2,rfl,rfl⟩
  |false =>rw[hb]at h;obtain⟨c,d,g⟩:=tF h;exact⟨c,abi _ d,g⟩
def iD(a:FuncId)(l:List (List Nat×V))(f:FuncId)(args:List V)(s:S):Option (V×S):=bif Nat.beq f a then look args l else none
 where
  look:List V->List (List Nat×V)->Option (V×S)
   |[.str x],(y,v)::r=>bif x==y then some (v,s)else look [.str x] r
   |_,_=>none
theorem Dg{s:S}:∀ {l:List (List Nat×V)} {args:List V} {v:V} {s':S},iD.look s args l=some (v,s')->∃ x,args=[.str x]/\(x,v)∈l/\s'=s
 |[],args,v,s',h=>by
  have:iD.look s args []=none:=by cases args with
   |nil=>rfl
   |cons a r=>cases a<;>cases r<;>rfl
  rw[this]at h;cases h
 |(y,u)::r,args,v,s',h=>by
  unfold iD.look at h;split at h
  .rename_i x y' u' r' b;cases b;cases hb:(x==y)with
   |true =>
    rw[hb]at h;cases h;have:x=y:=by simpa using hb
    subst this;exact⟨x,rfl,by simp,rfl⟩
   |false =>rw[hb]at h;obtain⟨c,d,g,i⟩:=Dg h;exact⟨c,d,abi _ g,i⟩
  .cases h
theorem zV{a:FuncId}{l:List (List Nat×V)}{f:FuncId}{args:List V}{s:S}{v:V}{s':S}(h:iD a l f args s=some (v,s')):f=a/\∃ x,args=[.str x]/\(x,v)∈l/\s'=s:=by
 unfold iD at h;cases hb:Nat.beq f a with
 |false=>rw[hb]at h;cases h
 |true=>rw[hb]at h;exact⟨aaO hb,Dg h⟩
end
end Go.AI
namespace Go.Proofs.YtjbplagjmopllaaGreatDoor
open Go.AI
def FA:dI:={ P:=Tryz.prog,ext:=λf=>bif Nat.beq f 257 then some .indexByte else bif Nat.beq f 274 then some .count else none,orc:=λ_ _ _=>none }
def kinds:List (List Nat×V):=[([102],.int .i64 2),([111],.int .i64 2),([120],.int .i64 2)]
def pO:dI:={ P:=Tryz.prog,ext:=FA.ext,orc:=iD 142 kinds }
theorem mixed:Tryz.prog.follows .mixedOrders=true:=by kernel_rfl
theorem aap:(Tryz.f257.name == "runtime.NumGoroutine")=false/\Extern.findNext Tryz.f257=none/\Extern.find Tryz.f257=some Lc.indexByte.entry:=⟨by kernel_rfl,by kernel_rfl,by kernel_rfl⟩
theorem aaq:(Tryz.f274.name == "runtime.NumGoroutine")=false/\Extern.findNext Tryz.f274=none/\Extern.find Tryz.f274=some Lc.count.entry:=⟨by kernel_rfl,by kernel_rfl,by kernel_rfl⟩
theorem gW{E:dI}(d:E.P=Tryz.prog)(g:E.ext=FA.ext):jf E:=by
 refine⟨λf k fn h a _=>?_⟩;rw[g]at h;rw[d]at a;simp only[FA]at h;cases b:Nat.beq f 257 with
 |true =>rw[b]at h;cases h;have:=aaO b;subst this;rw[Tryz.func257]at a;cases a;exact aap
 |false =>
  rw[b]at h;cases c:Nat.beq f 274 with
  |true =>rw[c]at h;cases h;have:=aaO c;subst this;rw[Tryz.func274]at a;cases a;exact aaq
  |false=>rw[c]at h;cases h
theorem eH{E:dI}(a:E.P=Tryz.prog)(b:E.ext=FA.ext):ej E:=HW (gW a b) (by rw[a];exact mixed)
theorem YT:ut FA:=⟨λ_ _ _ _ _ h=>by cases h⟩
theorem adp:uL FA 4000 142 [.str [102]] (.int .i64 2)=true:=by kernel_rfl
theorem ado:uL FA 4000 142 [.str [111]] (.int .i64 2)=true:=by kernel_rfl
theorem adn:uL FA 4000 142 [.str [120]] (.int .i64 2)=true:=by kernel_rfl
theorem EI:ut pO:=by
 refine⟨λf args s v s' h=>?_⟩;obtain⟨rfl,x,rfl,hm,rfl⟩:=zV h;simp only[kinds,abn,akh,or_false,aiQ]at hm;rcases hm with⟨rfl,rfl⟩|⟨rfl,rfl⟩|⟨rfl,rfl⟩
 .exact ju (gW rfl rfl) YT (eH rfl rfl) adp rfl rfl _
 .exact ju (gW rfl rfl) YT (eH rfl rfl) ado rfl rfl _
 .exact ju (gW rfl rfl) YT (eH rfl rfl) adn rfl rfl _
