/- Lemmas. No conditions. -/
import Derived.Test.YtpghiabjaglpgaaGreatDoorA4
import Derived.Orders
set_option linter.all false
noncomputable section
namespace Go.AI
mutual
def ze:∀ {x y:V},bp.sameV x y=true->x=y
 |.bool a,y,h=>by cases y<;>simp[bp.sameV]at h;rw[h]
 |.int j a,y,h=>by cases y<;>simp[bp.sameV]at h;rw[h.1,h.2]
 |.str a,y,h=>by cases y<;>simp[bp.sameV]at h;rw[h]
 |.ptr a,y,h=>by cases y<;>simp[bp.sameV]at h;rename_i b;obtain⟨⟨i,l⟩,o⟩:=h;cases a;cases b;simp_all
 |.nilptr,y,h=>by cases y<;>simp[bp.sameV]at h;rfl
 |.slice a z n c sz,y,h=>by cases y<;>simp[bp.sameV]at h;rename_i b y m d sy;cases a;cases b;simp_all
 |.nilslice,y,h=>by cases y<;>simp[bp.sameV]at h;rfl
 |.map a,y,h=>by cases y<;>simp[bp.sameV]at h;rw[h]
 |.nilmap,y,h=>by cases y<;>simp[bp.sameV]at h;rfl
 |.nilFunc,y,h=>by cases y<;>simp[bp.sameV]at h;rfl
 |.nilIface,y,h=>by cases y<;>simp[bp.sameV]at h;rfl
 |.func f a b,y,h=>by cases y<;>simp[bp.sameV]at h;rename_i g c d;obtain⟨⟨i,l⟩,o⟩:=h;rw[i,cY l,cY o]
 |.iface t v,y,h=>by cases y<;>simp[bp.sameV]at h;rw[h.1,ze h.2]
 |.agg a,y,h=>by cases y<;>simp[bp.sameV]at h;rw[cY h]
 |.atom a,y,h=>by cases y<;>simp[bp.sameV]at h;rw[h]
 |.tuple a,y,h=>by cases y<;>simp[bp.sameV]at h;rw[cY h]
def cY:∀ {x y:List V},bp x y=true->x=y
 |[],y,h=>by cases y<;>simp[bp]at h;rfl
 |v::x,y,h=>by
  cases y with
  |nil=>simp[bp]at h
  |cons u y =>simp only[bp,abA]at h;rw[ze h.1,cY h.2]
end
def sj{E:dL}{t:T V}{o:Oper}:∀ {l:List S} {v:V},gL E t o l=some v->∀ s∈l,∃ s1,dI E t s o=some (.val v s1)
 |[],v,h=>by cases h
 |[s],v,h=>fun s' a=>by
  simp at a;subst a;simp only[gL]at h;split at h
  ·rename_i u s1 b;cases h;exact⟨s1,b⟩
  ·cases h
 |s::s2::r,v,h=>fun s' a=>by
  simp only[gL]at h;split at h
  ·rename_i u s1 b;split at h
   ·rename_i y hy;cases hb:bp [u] [y]with
    |false=>rw[hb]at h;cases h
    |true =>
     rw[hb]at h;cases h;have:=cY hb;simp at this;subst this;rcases aff.1 a with rfl|a
     ·exact⟨s1,b⟩
     ·exact sj hy s' a
   ·cases h
  ·cases h
def Br{E:dL}{rec:iC}{t:T V}{s:S}{o:Oper}{b:Option Bool}{v:V}{s':S}:lA E rec t s o b=some (.val v s')↔fV E rec t s o b=some (v,s'):=by
 cases b with
 |none=>simp[lA,fV]
 |some b=>cases b with
  |false=>simp[lA,fV]
  |true =>
   simp only[lA,fV];cases dI E t s o with
   |none=>simp[ry,lW]
   |some x=>cases x with
    |enter f args s1 =>
     simp only[ry,lW];cases rec f args none s1 with
     |none=>simp[sZ,uK]
     |some out=>obtain⟨e,u,s2⟩:=out;cases e<;>simp[sZ,uK]
    |_=>simp[ry,lW]
structure Ev where
 i:Nat
 o:Oper
 v:V
 t:T V
 a:S
 b:S
section
variable(E:dL)(rec:iC)(ops:Array Oper)(t0:T V)(s0:S)
def kE(o:Oper):Prop:=aP E.P o.op=3
def cw:List Ev->S
 |[]=>s0
 |e::_=>e.b
def Oe:List Ev->Prop
 |[]=>True
 |e::_=>kE E e.o
def pC(Y:List Ev)(t:T V):Prop:=∀ d,(∃ q∈Y,q.o.dst=some d/\t.get (fu d)=some q.v)\/((∀ q∈Y,q.o.dst≠some d)/\t.get (fu d)=t0.get (fu d))
def abu(Y:List Ev)(e:Ev):Prop :=
 (aP E.P e.o.op=0/\e.b=e.a/\∃ s1,dI E e.t e.a e.o=some (.val e.v s1)) \/
 (aP E.P e.o.op=1/\e.b=e.a/\∀ Z F,Y=Z++F->Oe E F->(∀ q∈Z,kE E q.o->¬ mh ops e.i q.i)->∃ s1,dI E e.t (cw s0 F) e.o=some (.val e.v s1)) \/
 (aP E.P e.o.op=2/\dI E e.t e.a e.o=some (.val e.v e.b))
def Ua(Y:List Ev)(e:Ev):Prop :=
 (¬ kE E e.o/\((bT ops e.t e.o=some false/\e.v=V.undef/\e.b=e.a)\/(bT ops e.t e.o=some true/\abu E ops s0 Y e))) \/
 (kE E e.o/\fV E rec e.t e.a e.o (bT ops e.t e.o)=some (e.v,e.b)/\e.a.next<=e.b.next/\∀ q∈Y,mh ops e.i q.i)
structure GO(Y:List Ev)(e:Ev):Prop where
 op:ops[e.i]? = some e.o
 pre:∀ k,mh ops e.i k->∃ q∈Y,q.i=k
 new:∀ q∈Y,q.i≠e.i
 slots:pC t0 Y e.t
 st:e.a=cw s0 Y
 step:Ua E rec ops s0 Y e
def eg:List Ev->Prop
 |[]=>True
 |e::Y=>GO E rec ops t0 s0 Y e/\eg Y
def dS(n:Nat):List Ev->List (Nat×S)
 |[]=>[(n,s0)]
 |e::Y=>if aP E.P e.o.op=3 then(e.i,e.b)::dS n Y else dS n Y
end
section
variable{E:dL}{rec:iC}{ops:Array Oper}{t0:T V}{s0:S}
def pC.put{Y:List Ev}{t:T V}(h:pC t0 Y t)(e:Ev):pC t0 (e::Y) (putD t e.o.dst e.v):=by
 intro d;rw[Ig];by_cases a:e.o.dst=some d
 ·rw[aeM a];exact .inl ⟨e,by simp,a,rfl⟩
 ·rw[aeD a];rcases h d with⟨q,b,c,i⟩|⟨b,c⟩
  ·exact .inl ⟨q,abE _ b,c,i⟩
  ·refine .inr ⟨fun q g=>?_,c⟩;rcases aff.1 g with rfl|g
   ·exact a
   ·exact b q g
def At{m n:Nat}:∀ {Z F:List Ev},Oe E F->(∀ q∈Z,kE E q.o->¬ m.testBit q.i=true)->cw s0 F∈oQ m (dS E s0 n (Z++F))
 |[],[],_,_=>by simp[dS,oQ,cw]
 |[],e::F,h,_=>by have h:aP E.P e.o.op=3:=h;simp[dS,h,oQ,cw]
 |z::Z,F,h,a=>by
  have ih:=At (n:=n) (Z:=Z) h (fun q b=>a q (abE _ b));simp only[aiL,dS];split
  ·rename_i hk;have:=a z (by simp) hk;have hb:m.testBit z.i=false:=by simpa using this
   simp only[oQ,hb,TD];exact abE _ ih
  ·exact ih
def FN{ms:List Nat}(b:ms=kR ops.toList []){Y:List Ev}{t:T V}{s:S}{i n:Nat}{o:Oper}{v:V}{s':S}(hk:¬ kE E o)
 (hs:s=cw s0 Y) (e:jR E (dS E s0 n Y) (ms.getD i 0) t s o (bT ops t o)=some (v,s')):Ua E rec ops s0 Y ⟨i,o,v,t,s,s'⟩:=by
 left;refine⟨hk,?_⟩;unfold jR at e;split at e
 ·rename_i c;right;refine⟨c,?_⟩;unfold FO at e;split at e
  ·rename_i d;left;unfold xW at e;split at e
   ·rename_i u s1 a;cases e;exact⟨d,rfl,s1,a⟩
   ·cases e
  ·rename_i g;right;left;unfold si at e;split at e
   ·rename_i u a;cases e;refine⟨g,rfl,fun Z F j l m=>?_⟩;subst j;refine sj a _ (At l fun q p r hb=>m q p r ?_);subst b;exact hb
   ·cases e
  ·rename_i h;right;right;unfold xX at e;split at e
   ·rename_i u s1 a;cases e;exact⟨h,a⟩
   ·cases e
  ·cases e
 ·rename_i c;cases e;exact .inl ⟨c,rfl,rfl⟩
 ·cases e
def jU(d i k:Nat):(Nat.lor d (Nat.pow 2 i)).testBit k=(d.testBit k||decide (i=k)):=by show(d ||| 2 ^ i).testBit k=_;rw[akZ,Nat.testBit_two_pow]
def uX(done:Nat)(Y:List Ev):Prop:=∀ k,done.testBit k=true↔∃ q∈Y,q.i=k
def uX.cons{done:Nat}{Y:List Ev}(h:uX done Y)(e:Ev):uX (Nat.lor done (Nat.pow 2 e.i)) (e::Y):=by
 intro k;rw[jU,ajD,h k];simp only[ajJ];constructor
 ·rintro(⟨q,c,a⟩|h)
  ·exact⟨q,abE _ c,a⟩
  ·exact⟨e,by simp,h⟩
 ·rintro⟨q,b,a⟩;rcases aff.1 b with rfl|b
  ·exact .inr a
  ·exact .inl ⟨q,b,a⟩
structure St(E:dL)(rec:iC)(ops:Array Oper)(t0:T V)(s0:S)(Y:List Ev)(done:Nat)(t:T V)(s:S):Prop where
 run:eg E rec ops t0 s0 Y
 done:uX done Y
 slots:pC t0 Y t
 st:s=cw s0 Y
def ls{n:Nat}:∀ {Z Y:List Ev},(∀ q∈Z,¬ kE E q.o)->dS E s0 n (Z++Y)=dS E s0 n Y
 |[],_,_=>rfl
 |z::Z,Y,h=>by have a:¬ aP E.P z.o.op=3:=h z (by simp);simp only[aiL,dS,aeD a];exact ls fun q b=>h q (abE _ b)
def oA(y:gC ops){ms:List Nat}(d:ms=kR ops.toList []){effs:Nat}(heffs:∀ i o,ops[i]? = some o->kE E o->effs.testBit i=true){m n:Nat}(hm:∀ i k,m.testBit i=true->mh ops i k->m.testBit k=true){Y0:List Ev} :
 ∀(l:List Oper) (i:Nat),ops.toList.drop i=l->∀(Y:List Ev) (done:Nat) (t:T V) (s:S),St E rec ops t0 s0 Y done t s->dS E s0 n Y=dS E s0 n Y0->(∀ k,k<i->m.testBit k=true->done.testBit k=true) ->
  ∀ done' t' s',cZ E ops ms effs (dS E s0 n Y0) m (dy l i) done t s=some (done',t',s') ->
   ∃ Z,St E rec ops t0 s0 (Z++Y) done' t' s'/\(∀ q∈Z,¬ kE E q.o/\m.testBit q.i=true)/\∀ k,k<ops.size->m.testBit k=true->done'.testBit k=true
 |[],i,hl,Y,done,t,s,a,x,j,done',t',s',e=>by simp only[dy,cZ,abB,ajr]at e;obtain⟨rfl,rfl,rfl⟩:=e;refine⟨[],a,by simp,fun k hk hb=>j k ?_ hb⟩;have:=List.drop_eq_nil_iff.1 hl;simp at this;omega
 |o::l,i,hl,Y,done,t,s,a,x,j,done',t',s',e=>by
  have ho:ops[i]? = some o:=by
   have:(ops.toList.drop i)[0]? = some o:=by rw[hl];rfl
   simpa using this
  have p:ops.toList.drop (i+1)=l:=by rw[<- List.tail_drop,hl];rfl
  simp only[dy,cZ]at e;cases hb:(!(m.testBit i)||done.testBit i)with
  |true =>
   rw[hb]at e;simp only[ge]at e;refine oA y d heffs hm l (i+1) p Y done t s a x (fun k hk b=>?_) done' t' s' e;by_cases g:k=i
   ·subst g;rw[b]at hb;simpa using hb
   ·exact j k (by omega) b
  |false =>
   rw[hb]at e;simp only[TD]at e;simp only[ajC,Bool.not_eq_false']at hb;cases z:effs.testBit i with
   |true=>rw[z]at e;cases e
   |false =>
    rw[z]at e;simp only[TD]at e;have hk:¬ kE E o:=fun h=>by have:=heffs i o ho h;rw[z]at this;cases this
    split at e
    ·rename_i v s1 r;rw[cI]at e;have A:GO E rec ops t0 s0 Y ⟨i,o,v,t,s,s1⟩:=by
      refine⟨ho,fun k hk=>(a.done k).1 (j k (ue y i k hk) (hm i k hb.1 hk)),fun q c B=>?_,a.slots,a.st,?_⟩
      ·have:=(a.done i).2 ⟨q,c,B⟩;rw[hb.2]at this;cases this
      ·rw[<- x]at r;exact FN d hk a.st r
     have G:St E rec ops t0 s0 (⟨i,o,v,t,s,s1⟩::Y) (Nat.lor done (Nat.pow 2 i)) (putD t o.dst v) s1:=⟨⟨A,a.run⟩,a.done.cons ⟨i,o,v,t,s,s1⟩,a.slots.put ⟨i,o,v,t,s,s1⟩,rfl⟩;have hhist:dS E s0 n (⟨i,o,v,t,s,s1⟩::Y)=dS E s0 n Y0:=by have u:¬ aP E.P o.op=3:=hk;simp only[dS,aeD u];exact x
     obtain⟨Z,H,I,J⟩:=oA y d heffs hm l (i+1) p _ _ _ _ G hhist (fun k u b=>by
      rw[jU];by_cases g:i=k
      ·simp[g]
      ·rw[j k (by omega) b];rfl) done' t' s' e
     refine⟨Z++[⟨i,o,v,t,s,s1⟩],by simpa using H,fun q c=>?_,J⟩;rcases aiq.1 c with c|c
     ·exact I q c
     ·simp at c;subst c;exact⟨hk,hb.1⟩
    ·cases e
def abx(ops:Array Oper):List Ev->Prop
 |[]=>True
 |e::Y=>∀ q∈Y,mh ops e.i q.i
def eg.at:∀ {X:List Ev} {e:Ev} {Y:List Ev},eg E rec ops t0 s0 (X++e::Y)->GO E rec ops t0 s0 Y e/\eg E rec ops t0 s0 Y
 |[],_,_,h=>h
 |_::_,_,_,h=>eg.at h.2
def Ud(E:dL)(rec:iC)(ops:Array Oper)(t0:T V)(s0:S)(ds:List eS)(up:Option Md)(r:mg):Prop :=
 ∃(i:Nat) (o:Oper) (Z Y:List Ev) (done:Nat) (a:T V) (c:List GN) (s2:S),
  r=.panicked c (gj done (dy ops.toList 0) a) ds up s2/\ops[i]? = some o/\kE E o/\eg E rec ops t0 s0 (Z++Y)/\uX done Y/\pC t0 Y a /\
  lA E rec a (cw s0 Y) o (bT ops a o)=some (.pan c s2)/\(∀ q∈Y,mh ops i q.i)/\(∀ k,mh ops i k->∃ q∈Y,q.i=k)/\(∀ q∈Z,¬ kE E q.o)/\(∀ q∈Z++Y,q.i≠i) /\
  ∀ k,k<ops.size->k≠i->¬ mh ops k i->∃ q∈Z++Y,q.i=k
def sP{ms:List Nat}{i k:Nat}:∀ {l:List (Nat×Oper)},(eH ms i l).testBit k=true↔(∃ x∈l,x.1=k)/\(ms.getD k 0).testBit i=false/\k≠i
 |[]=>by simp[eH]
 |(a,o)::r=>by
  simp only[eH];have ih:=sP (ms:=ms) (i:=i) (k:=k) (l:=r);cases hb:((ms.getD a 0).testBit i||Nat.beq a i)with
  |true =>
   simp only[ge];rw[ih];constructor
   ·rintro⟨⟨x,c,b⟩,d⟩;exact⟨⟨x,abE _ c,b⟩,d⟩
   ·rintro⟨⟨x,c,b⟩,d,j⟩;rcases aff.1 c with rfl|c
    ·exfalso;simp only at b;subst b;simp only[ajD]at hb;rcases hb with hb|hb
     ·rw[d]at hb;cases hb
     ·exact j (abr hb)
    ·exact⟨⟨x,c,b⟩,d,j⟩
  |false =>
   simp only[TD];have g:(Nat.lor (Nat.pow 2 a) (eH ms i r)).testBit k=(decide (a=k)||(eH ms i r).testBit k):=by show(2 ^ a ||| eH ms i r).testBit k=_;rw[akZ,Nat.testBit_two_pow]
   rw[g,ajD,ih];simp only[ajC]at hb;constructor
   ·rintro(h|⟨⟨x,c,b⟩,d⟩)
    ·have h:a=k:=by simpa using h
     subst h;refine⟨⟨(a,o),by simp,rfl⟩,hb.1,fun h=>?_⟩;have b:=hb.2;rw[h,aiw]at b;cases b
    ·exact⟨⟨x,abE _ c,b⟩,d⟩
   ·rintro⟨⟨x,c,b⟩,d⟩;rcases aff.1 c with rfl|c
    ·exact .inl (by simpa using b)
    ·exact .inr ⟨⟨x,c,b⟩,d⟩
def Nt(p:gC ops){ms:List Nat}(g:ms=kR ops.toList []){effs n:Nat}(heffs:∀ i o,ops[i]? = some o->kE E o->effs.testBit i=true){ds:List eS}{up:Option Md} :
 ∀(es:List (Nat×Oper)),(∀ x∈es,ops[x.1]? = some x.2/\kE E x.2)->Ed ms (es.map (·.1))=true->∀(Y:List Ev) (done:Nat) (t:T V) (s:S),St E rec ops t0 s0 Y done t s->Oe E Y->abx ops Y ->
  (∀ e Y' x r,Y=e::Y'->es=x::r->mh ops x.1 e.i)->∀ r,gK E ops ms effs (dy ops.toList 0) rec ds up es (dS E s0 n Y) done t s=some r ->
   (∃ L t' s',r=.on t' ds up s'/\eg E rec ops t0 s0 L/\pC t0 L t'/\s'=cw s0 L/\∀ k,k<ops.size->∃ q∈L,q.i=k)\/Ud E rec ops t0 s0 ds up r
 |[],A,u,Y,done,t,s,U,hF,hB,hP,r,e=>by
  simp only[gK]at e;split at e
  ·rename_i I z s1 hp;cases e;have hbits:∀ k,(Nat.pow 2 ops.size - 1).testBit k=decide (k<ops.size):=fun k=>by show(2 ^ ops.size - 1).testBit k=_;rw[Nat.testBit_two_pow_sub_one]
   obtain⟨Z,d,O,Q⟩:=oA p g heffs (m:=Nat.pow 2 ops.size - 1) (n:=n) (fun i k hi hk=>by rw[hbits]at hi ⊢;have:=ue p i k hk;simp at hi ⊢;omega) ops.toList 0 rfl Y done t s U rfl (fun k hk=>absurd hk (Nat.not_lt_zero _)) _ _ _ hp
   refine .inl ⟨_,z,s1,rfl,d.run,d.slots,d.st,fun k hk=>(d.done k).1 (Q k hk ?_)⟩;rw[hbits];simpa using hk
  ·cases e
 |(i,o)::W,A,u,Y,done,t,s,U,hF,hB,hP,r,e=>by
  simp only[gK]at e;obtain⟨ho,hk⟩:=A (i,o) (by simp);simp only at ho hk;have j:∀ k,(ms.getD i 0).testBit k=true↔mh ops i k:=fun k=>by subst g;rfl
  split at e
  ·rename_i I z s1 hp
   obtain⟨Z,d,O,Q⟩:=oA p g heffs (m:=ms.getD i 0) (n:=n) (fun a k J hk=>by rw[j]at J ⊢;exact ud p i a k J hk) ops.toList 0 rfl Y done t s U rfl (fun k hk=>absurd hk (Nat.not_lt_zero _)) _ _ _ hp
   have l:∀ q∈Z++Y,mh ops i q.i:=by
    intro q b;rcases aiq.1 b with b|b
    ·exact(j _).1 (O q b).2
    ·cases Y with
     |nil=>cases b
     |cons e0 Y' =>
      have h0:=hP e0 Y' (i,o) W rfl rfl;rcases aff.1 b with rfl|b
      ·exact h0
      ·exact ud p i e0.i q.i h0 (hB q b)
   have hisz:i<ops.size:=by
    rcases aiA i ops.size with h|h
    ·exact h
    ·rw[ajH h]at ho;cases ho
   split at e
   ·rename_i v s2 K;have hst:=Br.1 K;cases hc:(Nat.ble s1.next s2.next&&!(I.testBit i)&&effs.testBit i)with
    |false=>rw[hc]at e;cases e
    |true =>
     rw[hc]at e;simp only[ge]at e;rw[cI]at e;simp only[abA,ajv]at hc;have X:GO E rec ops t0 s0 (Z++Y) ⟨i,o,v,z,s1,s2⟩:=by
      refine⟨ho,fun k hk=>(d.done k).1 (Q k ?_ ((j k).2 hk)),fun q b hqi=>?_,d.slots,d.st,.inr ⟨hk,hst,aeb hc.1.1,l⟩⟩
      ·have:=ue p i k hk;have:i<ops.size:=by
        rcases aiA i ops.size with h|h
        ·exact h
        ·rw[ajH h]at ho;cases ho
       omega
      ·have:=(d.done i).2 ⟨q,b,hqi⟩;rw[hc.1.2]at this;cases this
     have hhist:dS E s0 n (⟨i,o,v,z,s1,s2⟩::(Z++Y))=(i,s2)::dS E s0 n Y:=by have hk':aP E.P o.op=3:=hk;simp only[dS,aeM hk'];rw[ls fun q b=>(O q b).1]
     rw[<- hhist]at e;refine Nt p g heffs W (fun x hx=>A x (abE _ hx)) ?_ (⟨i,o,v,z,s1,s2⟩::(Z++Y)) _ _ _ ⟨⟨X,d.run⟩,d.done.cons ⟨i,o,v,z,s1,s2⟩,d.slots.put ⟨i,o,v,z,s1,s2⟩,rfl⟩ hk l ?_ r e
     ·cases W with
      |nil=>rfl
      |cons x r'' =>simp only[aeL,Ed,abA]at u;exact u.2
     ·intro e1 Y1 x r1 hY hr;cases hY;subst hr;simp only[aeL,Ed,abA]at u;have:=u.1;subst g;exact this
   ·rename_i c s2 hst;cases M:I.testBit i with
    |true=>rw[M]at e;cases e
    |false =>
     rw[M]at e;simp only[TD]at e;cases B:cZ E ops ms effs (dS E s0 n Y) (eH ms i (dy ops.toList 0)) (dy ops.toList 0) I z s1 with
     |none=>rw[B]at e;cases e
     |some x =>
      rw[B]at e;obtain⟨d2,t2,s3⟩:=x;simp only[Rn,abB]at e;have G:∀ k,(eH ms i (dy ops.toList 0)).testBit k=true↔(∃ x∈dy ops.toList 0,x.1=k)/\¬ mh ops k i/\k≠i:=fun k=>by
       rw[sP];have:(ms.getD k 0).testBit i=false↔¬ mh ops k i:=by rw[<- Bool.not_eq_true];subst g;exact Iff.rfl
       rw[this]
      have hh1:dS E s0 n (Z++Y)=dS E s0 n Y:=ls fun q b=>(O q b).1
      obtain⟨Z2,g1,g2,g3⟩:=oA p g heffs (m:=eH ms i (dy ops.toList 0)) (n:=n) (Y0:=Y) (fun a k J hk=>by
       rw[G]at J ⊢;obtain⟨⟨x,x1,x2⟩,p1,p2⟩:=J;have hka:=ue p a k hk;refine⟨?_,fun y=>p1 (ud p a k i hk y),fun y=>p1 (by rw[<- y];exact hk)⟩;have N:ops[a]? = some x.2:=by rw[<- x2];exact ep.1 x1
       have:a<ops.size:=by
        rcases aiA a ops.size with h|h
        ·exact h
        ·rw[ajH h]at N;cases N
       exact⟨(k,ops[k]'(by omega)),ep.2 (by simp),rfl⟩) ops.toList 0 rfl (Z++Y) I z s1 d hh1 (fun k hk=>absurd hk (Nat.not_lt_zero _)) _ _ _ B
      refine .inr ⟨i,o,Z2,Z++Y,I,z,c,s2,e.symm,ho,hk,g1.run,d.done,d.slots,by rw[<- d.st];exact hst,l,fun k hk=>(d.done k).1 (Q k ?_ ((j k).2 hk)),fun q b=>(g2 q b).1,fun q b=>?_,fun k H y hp=>?_⟩
      ·have:=ue p i k hk;omega
      ·rcases aiq.1 b with b|b
       ·exact((G _).1 (g2 q b).2).2.2
       ·have:=ue p i q.i (l q b);omega
      ·refine(g1.done k).1 (g3 k H ((G k).2 ⟨⟨(k,ops[k]'H),ep.2 (by simp[H]),rfl⟩,hp,y⟩))
   ·cases e
  ·cases e
def AF(k:Nat):∀(es:List (Nat×Oper)) (s:Nat),(es.foldl (fun s x=>Nat.lor s (Nat.pow 2 x.1)) s).testBit k=true↔s.testBit k=true\/∃ x∈es,x.1=k
 |[],s=>by simp
 |x::es,s=>by
  rw[akI,AF k es,jU];simp only[ajD,ajJ,aff,exists_eq_or_imp];constructor
  ·rintro((h|h)|h)
   ·exact .inl h
   ·exact .inr (.inl h)
   ·exact .inr (.inr h)
  ·rintro(h|h|h)
   ·exact .inl (.inl h)
   ·exact .inl (.inr h)
   ·exact .inr h
def Gb{t:T V}{ds:List eS}{up:Option Md}{s:S}{recR:CL}{r:mg}(e:iK E ops rec recR t ds up s=some r) :
 lC ops/\((∃ L t' s',r=.on t' ds up s'/\eg E rec ops t s L/\pC t L t'/\s'=cw s L/\∀ k,k<ops.size->∃ q∈L,q.i=k)\/Ud E rec ops t s ds up r):=by
 unfold iK at e;split at e
 ·rename_i ms l es mask hp;simp only[Rj]at hp;cases hc:(Le (kR ops.toList []) (dy ops.toList 0)&&Ed (kR ops.toList []) ((sY E.P (dy ops.toList 0)).map (·.1)))with
  |false=>rw[hc]at hp;cases hp
  |true =>
   rw[hc]at hp;simp only[ge,abB,abs.mk.injEq]at hp;obtain⟨rfl,rfl,rfl,rfl⟩:=hp;simp only[abA]at hc;have hD:=IQ hc.1;refine⟨hD,?_⟩;refine Nt (n:=ops.size) hD.back rfl (fun i o ho hk=>?_) _ (fun x a=>?_) hc.2 [] 0 t s ⟨trivial,fun k=>by simp,fun d=>.inr ⟨by simp,rfl⟩,rfl⟩ trivial trivial (fun e Y' x r h=>by cases h) r e
   ·rw[AF];refine .inr ⟨(i,o),?_,rfl⟩;unfold sY;rw[akd];have hk:aP E.P o.op=3:=hk;exact⟨ep.2 ho,by simp[hk]⟩
   ·unfold sY at a;rw[akd]at a;obtain⟨x1,x2⟩:=x;exact⟨ep.1 a.1,by have h:=a.2;simp at h;exact h⟩
 ·cases e
end
end Go.AI
namespace Go.AI
def aN.to(ρ:aN)(n:Nat):aN:=fun f v=>if f<n then ρ f v else none
def aN.to_le(ρ:aN){n m:Nat}(h:n<=m):(ρ.to n).le (ρ.to m):=fun f v l e=>by
 unfold aN.to at e ⊢;split at e
 ·rw[aeM (by omega)];exact e
 ·cases e
def aN.to_le_self(ρ:aN)(n:Nat):(ρ.to n).le ρ:=fun f v l e=>by
 unfold aN.to at e;split at e
 ·exact e
 ·cases e
def aN.to_mono{ρ ρ':aN}(h:ρ.le ρ')(n:Nat):(ρ.to n).le (ρ'.to n):=fun f v l e=>by
 unfold aN.to at e ⊢;split at e
 ·rename_i a;rw[aeM a];exact h _ _ _ e
 ·cases e
def aN.to_lt{ρ:aN}{n f v:Nat}{l:Ch}(e:ρ.to n f v=some l):f<n/\ρ f v=some l:=by
 unfold aN.to at e;split at e
 ·rename_i h;exact⟨h,e⟩
 ·cases e
def aN.to_of{ρ:aN}{n f v:Nat}(h:f<n):ρ.to n f v=ρ f v:=by unfold aN.to;rw[aeM h]
def aN.to_ge{ρ:aN}{n f v:Nat}(h:n<=f):ρ.to n f v=none:=by unfold aN.to;rw[aeD (by omega)]
def aN.to_all{ρ:aN}{n:Nat}(h:∀ f v,n<=f->ρ f v=none):ρ.to n=ρ:=by
 funext f v;by_cases a:f<n
 ·exact aN.to_of a
 ·rw[aN.to_ge (by omega),h f v (by omega)]
def HR.frame{ρ:aN}{s:S}{w w':World}(h:HR ρ s w)(a:w.heap.size<=w'.heap.size)(c:∀ b,b<w.heap.size->w'.heap[b]? = w.heap[b]?):HR ρ s w' :=
 ⟨h.fresh,h.inj,fun f v l e=>aiN (h.low f v l e) a,fun f B hB=>(h.blk f B hB).keep ρ.le_refl (fun _ d=>d) (fun v l e=>c _ (h.low _ _ _ e)),h.dom,h.rw⟩
def Inj(ρ:aN):Prop:=∀ f v l f' v' l',ρ f v=some l->ρ f' v'=some l'->l.b=l'.b->f=f'/\l.base=l'.base
def Low(ρ:aN)(w:World):Prop:=∀ f v l,ρ f v=some l->l.b<w.heap.size
def HR.widen{ρ:aN}{s:S}{w:World}{n:Nat}(h:HR (ρ.to s.next) s w)(hi:Inj ρ)(hl:Low ρ w)(d:s.next<=n):HR (ρ.to n) ⟨s.h,n⟩ w:=by
 refine⟨fun f v b=>aN.to_ge b,fun f v l f' v' l' e i=>hi _ _ _ _ _ _ (aN.to_lt e).2 (aN.to_lt i).2,fun f v l e=>hl _ _ _ (aN.to_lt e).2,fun f B hB=>?_,fun f B hB=>aiN (h.dom f B (by rw[S.get_eq]at hB ⊢;exact hB)) d,fun f B hB c v l hl=>?_⟩
 rotate_left
 ·have a:s.get f=some B:=by rw[S.get_eq]at hB ⊢;exact hB
  exact h.rw f B a c v l (by rw[aN.to_of (h.dom f B a)];exact(aN.to_lt hl).2)
 have a:s.get f=some B:=by rw[S.get_eq]at hB ⊢;exact hB
 have b:=h.dom f B a;refine(h.blk f B a).keep (aN.to_le ρ d) (fun v g=>?_) (fun _ _ _=>rfl);rw[aN.to_of b]at g;rw[aN.to_of (by omega)];exact g
def HR.bare{ρ:aN}{w:World}{n:Nat}(hi:Inj ρ)(hl:Low ρ w):HR (ρ.to n) ⟨.leaf,n⟩ w :=
 ⟨fun f v a=>aN.to_ge a,fun f v l f' v' l' e b=>hi _ _ _ _ _ _ (aN.to_lt e).2 (aN.to_lt b).2,fun f v l e=>hl _ _ _ (aN.to_lt e).2,fun f B hB=>by(rw[S.get_eq,T.get_leaf]at hB;cases hB),fun f B hB=>by(rw[S.get_eq,T.get_leaf]at hB;cases hB),fun f B hB=>by(rw[S.get_eq,T.get_leaf]at hB;cases hB)⟩
def cO{s s':S}{x:Option V}{v:V}{s1:S}(e:bM s x=some (.val v s1)):bM s' x=some (.val v s'):=by
 cases x with
 |none=>cases e
 |some u=>cases e;rfl
def Pd{E:dL}{t:T V}{s:S}(s':S)(o:Oper)(hk:aP E.P o.op=0){v:V}{s1:S}(e:dI E t s o=some (.val v s1)):dI E t s' o=some (.val v s'):=by
 obtain⟨dst,op,type,pos,after,guard⟩:=o;unfold dI at e ⊢;simp only at e hk ⊢;cases op<;>simp only[dH]at e ⊢<;>try(cases e;done)
 case move x=>exact cO e
 case assign x=>exact cO e
 case pick c a b =>
  unfold nc at e ⊢;split at e
  ·exact cO e
  ·cases e
 case build ty parts=>exact cO e
 case nilCheck x=>exact cO e
 case binOp op ty x y z =>
  have m:oP op=false:=by
   simp only[aP]at hk;cases hb:oP op with
   |false=>rfl
   |true=>rw[hb]at hk;cases hk
  unfold gk at e ⊢;cases g:eval t x with
  |none=>rw[g]at e;cases e
  |some a =>
   cases hy:eval t y with
   |none=>rw[g,hy]at e;cases e
   |some b =>
    rw[g,hy]at e;simp only at e ⊢;cases l:fU E.P op ty x y a b with
    |false=>rw[l]at e;cases e
    |true =>
     rw[l]at e;simp only[ge]at e ⊢;have:∀ ok ok',gc E.P ok op ty a b=gc E.P ok' op ty a b:=by
      intro ok ok';unfold gc;split
      ·rfl
      ·rfl
      ·cases op<;>simp[oP]at m<;>rfl
     rw[this (bU s') (bU s)];exact cO e
 case unOp op ty x=>exact cO e
 case convert h dst x =>
  unfold gY at e ⊢;split at e
  ·rename_i n hx';unfold ji at e ⊢;unfold iU at e ⊢;cases j:E.P.underlying h with
   |none=>simp[j]at e
   |some ds =>
    cases d:E.P.underlying dst with
    |none=>simp[j,d]at e
    |some dd =>
     simp only[j,d]at e ⊢;cases dd<;>simp only at e ⊢<;>try(cases e;done)
     case int k=>cases n<;>simp only at e ⊢<;>first|(cases e;done)|(cases e;rfl)
     case string=>simp[aP,d]at hk
     case slice el=>simp[aP,d]at hk
  ·cases e
 case makeInterface ty x=>exact cO e
 case makeFunc fn first cap=>exact cO e
 case slice ty x lo hi mx=>exact cO e
 case fieldAddr ty x f=>exact cO e
 case field ty x f=>exact cO e
 case indexAddr ty x i=>exact cO e
 case index ty x i=>exact cO e
 case typeAssert x xt ty ok=>exact cO e
 case extract x i=>exact cO e
 case call c =>simp only[aP]at hk;split at hk<;>cases hk
 all_goals (first|(simp[aP]at hk;done)|(exfalso;revert hk;simp[aP]))
def only(t:T V):List Tmp->T V
 |[]=>.leaf
 |d::r=>(only t r).set (t.get (fu d)) (fu d)
def oF(t:T V):∀(l:List Tmp) (d:Tmp),(only t l).get (fu d)=if d∈l then t.get (fu d)else none
 |[],d=>by simp[only,T.get_leaf]
 |x::r,d=>by
  simp only[only];rw[T.get_setN,oF t r d];by_cases h:x=d
  ·subst h;simp
  ·rw[aeD h];have:d≠x:=fun e=>h e.symm;simp[this]
def pM(ops:Array Oper)(o:Oper):List Tmp:=match o.guard with
 |some (j,_)=>((ops[j]?).bind (·.dst)).toList
 |none=>[]
def looks(ops:Array Oper)(o:Oper):List Tmp:=sees o++pM ops o
def Ou{t:T V}{ops:Array Oper}{o:Oper}{x:Operand}(a:x∈o.op.operands):eval t x=eval (only t (looks ops o)) x:=by
 cases x with
 |tmp d =>simp only[eval];rw[oF,aeM];unfold looks sees;refine aiq.2 (.inl ?_);rw[List.mem_filterMap];exact⟨.tmp d,by simpa using a,rfl⟩
 |const v=>rfl
 |global g=>rfl
 |func f=>rfl
def jP{E:dL}{ops:Array Oper}{t:T V}{s:S}{o:Oper}:dI E (only t (looks ops o)) s o=dI E t s o :=
 (KX o fun _ a=>Ou a).symm
def kP{ops:Array Oper}{t:T V}{o:Oper}:bT ops (only t (looks ops o)) o=bT ops t o:=by
 unfold bT;split
 ·rfl
 ·rename_i j want a;split
  ·rename_i d b;rw[oF,aeM];unfold looks pM;refine aiq.2 (.inr ?_);rw[a];simp[b]
  ·rfl
def tC{α:Type}{c:Bool}{x:Option α}{y:α}(h:(bif c then x else none)=some y):x=some y:=by cases c<;>first|(cases h;done)|exact h
def KY{E:dL}{t:T V}{s:S}(o:Oper)(hk:aP E.P o.op=2){v:V}{s1:S}(e:dI E t s o=some (.val v s1)):∃ B,s1=s.alloc B:=by
 obtain⟨dst,op,type,pos,after,guard⟩:=o;unfold dI at e;simp only at e hk;cases op<;>simp only[dH]at e<;>try(cases e;done)
 case alloc elem =>
  unfold jK qt bz bw at e;split at e
  ·cases e;exact⟨_,rfl⟩
  ·cases e
 case box elem x =>
  unfold tj qt bz bw at e;split at e
  ·cases e;exact⟨_,rfl⟩
  ·cases e
 case buildSlice ty len parts =>
  unfold cL at e;split at e
  ·split at e
   ·split at e
    ·split at e
     ·have e:=tC e;unfold lH bz bw at e;split at e
      ·cases e;exact⟨_,rfl⟩
      ·cases e
     ·cases e
    ·cases e
   ·cases e
  ·cases e
 case makeMap ty r =>
  cases r with
  |none=>cases e;exact⟨_,rfl⟩
  |some _=>cases e
 case makeSlice ty l c =>
  unfold eK bz bw at e;split at e
  ·split at e
   ·split at e
    ·split at e
     ·split at e
      ·have e:=tC e;cases e;exact⟨_,rfl⟩
      ·cases e
     ·cases e
    ·cases e
   ·cases e
  ·cases e
 case convert a dst x =>
  unfold gY ji iU at e;split at e
  ·rename_i i hx';cases b:E.P.underlying dst with
   |none=>simp[aP,b]at hk
   |some d =>
    cases d<;>simp[aP,b]at hk;cases h:E.P.underlying a with
    |none=>simp[h]at e
    |some ds =>
     simp only[h,b]at e;cases i<;>simp only[pD]at e<;>try(cases e;done)
     cases ds<;>simp only[bw]at e<;>try(cases e;done)
     split at e
     ·rename_i g;have g:=tC g;cases g;cases e;exact⟨_,rfl⟩
     ·cases e
  ·cases e
 case binOp op ty x y z=>simp only[aP]at hk;cases hb:oP op<;>simp[hb]at hk
 case call c=>simp only[aP]at hk;split at hk<;>simp at hk
 all_goals simp[aP]at hk
section
variable{E:dL}{rec:iC}{ops:Array Oper}{t0:T V}{s0:S}
def GO.next_le{Y:List Ev}{e:Ev}(h:GO E rec ops t0 s0 Y e):e.a.next<=e.b.next:=by
 rcases h.step with⟨_,⟨_,_,hb⟩|⟨_,⟨_,hb,_⟩|⟨_,hb,_⟩|⟨hk,hb⟩⟩⟩|⟨_,_,hb,_⟩
 ·rw[hb];exact abD _
 ·rw[hb];exact abD _
 ·rw[hb];exact abD _
 ·obtain⟨B,hB⟩:=KY e.o hk hb;rw[hB,S.next_alloc];omega
 ·exact hb
def eg.next_le:∀ {X Y:List Ev},eg E rec ops t0 s0 (X++Y)->(cw s0 Y).next<=(cw s0 (X++Y)).next
 |[],_,_=>abD _
 |e::X,Y,h=>by refine ajd (eg.next_le h.2) ?_;have:=h.1.next_le;rw[h.1.st]at this;exact this
def eg.suf:∀ {X Y:List Ev},eg E rec ops t0 s0 (X++Y)->eg E rec ops t0 s0 Y
 |[],_,h=>h
 |_::X,_,h=>eg.suf (X:=X) h.2
def eg.before{Y:List Ev}{e:Ev}(h:GO E rec ops t0 s0 Y e)(c:eg E rec ops t0 s0 Y){q:Ev}(d:q∈Y):q.b.next<=e.a.next:=by obtain⟨Y1,Y2,rfl⟩:=ajM d;rw[h.st];exact eg.next_le (Y:=q::Y2) c
def eg.start{Y:List Ev}{e:Ev}(h:GO E rec ops t0 s0 Y e)(c:eg E rec ops t0 s0 Y):s0.next<=e.a.next:=by
 rw[h.st];have d:eg E rec ops t0 s0 (Y++[]):=by simpa using c
 have b:=eg.next_le d;rw[aic]at b;exact b
def eg.ok{L:List Ev}(h:eg E rec ops t0 s0 L){e:Ev}(a:e∈L):∃ X Y,L=X++e::Y/\GO E rec ops t0 s0 Y e/\eg E rec ops t0 s0 Y:=by obtain⟨X,Y,rfl⟩:=ajM a;obtain⟨b,c⟩:=eg.at h;exact⟨X,Y,rfl,b,c⟩
def eg.uniq{L:List Ev}(h:eg E rec ops t0 s0 L){a b:Ev}(g:a∈L)(hb:b∈L)(hi:a.i=b.i):a=b:=by
 induction L with
 |nil=>cases g
 |cons e Y ih =>
  rcases aff.1 g with rfl|d
  ·rcases aff.1 hb with rfl|c
   ·rfl
   ·exact absurd hi.symm (h.1.new b c)
  ·rcases aff.1 hb with rfl|c
   ·exact absurd hi (h.1.new a d)
   ·exact ih h.2 d c
structure yI(E:dL)(t0:T V)(s0:S)(ρ0:aN)(w0:World)(X F:List Ev)(R:Nat->Prop)(ρ:aN)(w:World)(tm:Array Value):Prop where
 front:Oe E F
 inF:∀ e∈F,R e.i
 noE:∀ e∈X,R e.i->¬ kE E e.o
 vals:∀ e∈X++F,R e.i->∃ y,den (ρ.to e.b.next) e.v=some y/\∀ d,e.o.dst=some d->tm[d]? = some y
 olds:∀ d x,t0.get (fu d)=some x->(∀ e∈X++F,R e.i->e.o.dst≠some d)->∃ y,den (ρ.to s0.next) x=some y/\tm[d]? = some y
 blks:∀ e∈X,R e.i->e.b=e.a\/∃ B,e.b=e.a.alloc B/\Cb (ρ.to e.b.next) w e.a.next B/\∀ v l,ρ e.a.next v=some l->¬ l.ro
 hr:HR (ρ.to (cw s0 F).next) (cw s0 F) w
 inj:Inj ρ
 low:Low ρ w
 fresh:∀ f v,ρ f v≠none->f<(cw s0 F).next\/∃ e∈X,R e.i/\f=e.a.next/\f<e.b.next
 fr:FR ρ0 w0 ρ w
def yI.reg{ρ0:aN}{w0:World}{X F:List Ev}{R:Nat->Prop}{ρ:aN}{w:World}{tm:Array Value}(h:yI E t0 s0 ρ0 w0 X F R ρ w tm) :
 ∀ {X1 Z:List Ev},X=X1++Z->eg E rec ops t0 s0 (Z++F)->(∀ e∈Z,R e.i)->HR (ρ.to (cw s0 (Z++F)).next) (cw s0 (Z++F)) w
 |_,[],_,_,_=>h.hr
 |X1,e::Z,p,r,d=>by
  have ih:=yI.reg h (X1:=X1++[e]) (Z:=Z) (by simpa using p) r.2 fun q t=>d q (abE _ t);have hst:e.a=cw s0 (Z++F):=r.1.st;rw[<- hst]at ih;show HR (ρ.to e.b.next) e.b w;rcases h.blks e (by rw[p];simp) (d e (by simp))with hb|⟨B,hb,hB,m⟩
  ·rw[hb];exact ih
  ·rw[hb]at hB ⊢;rw[S.next_alloc]at hB ⊢;refine⟨fun f v g=>aN.to_ge (by rw[S.next_alloc]at g;exact g),fun f v l f' v' l' n u=>h.inj _ _ _ _ _ _ (aN.to_lt n).2 (aN.to_lt u).2,fun f v l n=>h.low _ _ _ (aN.to_lt n).2,fun f B' c=>?_,fun f B' c=>?_,fun f B' c o v l hl=>?_⟩
   ·rw[S.get_alloc]at c;split at c
    ·rename_i j;cases c;subst j;exact hB
    ·rename_i j;have g:=ih.dom f B' c;refine(ih.blk f B' c).keep (aN.to_le ρ (Nat.le_succ _)) (fun v s=>?_) (fun _ _ _=>rfl);rw[aN.to_of g]at s;rw[aN.to_of (by omega)];exact s
   ·rw[S.get_alloc]at c;rw[S.next_alloc];split at c
    ·omega
    ·have:=ih.dom f B' c;omega
   ·rw[S.get_alloc]at c;split at c
    ·rename_i j;subst j;exact m v l (aN.to_lt hl).2
    ·exact ih.rw f B' c o v l (by rw[aN.to_of (ih.dom f B' c)];exact(aN.to_lt hl).2)
def yI.env{ρ0:aN}{w0:World}{X1 X2 F:List Ev}{e:Ev}{R:Nat->Prop}{ρ:aN}{w:World}{tm:Array Value}(hD:lC ops)(h:yI E t0 s0 ρ0 w0 (X1++e::X2) F R ρ w tm)
 (L:eg E rec ops t0 s0 (X1++e::(X2++F))) (U:¬ R e.i) (M:jt ops R) (H:∀ k,mh ops e.i k->R k):TR (ρ.to e.a.next) (only e.t (looks ops e.o)) tm:=by
 obtain⟨c,u⟩:=eg.at L;have W:X1++e::X2++F=X1++e::(X2++F):=by simp
 intro d x v;rw[oF]at v;split at v
 ·rename_i n;have r:∀ q oq,ops[q]? = some oq->oq.dst=some d->q≠e.i->mh ops e.i q\/mh ops q e.i:=by
   intro q oq B l j;rcases aiq.1 n with n|n
   ·exact hD.sees e.i q e.o oq d c.op B (fun h=>j h.symm) l n
   ·unfold pM at n;split at n
    ·rename_i g b X;have m:((ops[g]?).bind (·.dst))=some d:=by simpa using n
     cases A:ops[g]? with
     |none=>rw[A]at m;cases m
     |some og =>
      rw[A]at m;by_cases I:g=q
      ·subst I;exact .inl (hD.guard e.i e.o g b c.op X)
      ·exact absurd m (hD.dst g q og oq d A B I l)
    ·simp at n
  rcases c.slots d with⟨q,G,J,Y⟩|⟨G,J⟩
  ·rw[Y]at v;cases v;obtain⟨Ya,Yb,Z,s,_⟩:=eg.ok u G;have j:q.i≠e.i:=c.new q G;rcases r q.i q.o s.op J j with p|p
   ·obtain⟨y,N,O⟩:=h.vals q (by rw[W];simp;right;right;simpa using G) (H _ p);exact⟨y,bN (aN.to_le ρ (eg.before c u G)) _ _ N,O d J⟩
   ·obtain⟨z,K,Q⟩:=s.pre e.i p;exact absurd Q (c.new z (by rw[Z];simp;right;right;exact K))
  ·rw[J]at v
   obtain⟨y,N,O⟩:=h.olds d x v (fun q B hr l=>by
    rw[W]at B;obtain⟨_,Y',_,k1,_⟩:=eg.ok L B;by_cases j:q.i=e.i
    ·rw[j]at hr;exact U hr
    ·rcases r q.i q.o k1.op l j with p|p
     ·obtain⟨z,K,Q⟩:=c.pre _ p;have hz:z=q:=eg.uniq L (by simp;right;right;simpa using K) B Q;subst hz;exact G z K l
     ·exact U (M q.i e.i hr p))
   exact⟨y,bN (aN.to_le ρ (eg.start c u)) _ _ N,O⟩
 ·cases v
end
section
variable{E:dL}{rec:iC}{ops:Array Oper}{t0:T V}{s0:S}{ρ0:aN}{w0:World}
def Di{tm:Array Value}{o:Option Tmp}{y:Value}{d:Tmp}(h:o=some d)(a:d<tm.size):(gt tm o y)[d]? = some y:=by subst h;simp[gt,a]
def mI{tm:Array Value}{o:Option Tmp}{y:Value}{d:Tmp}(h:o≠some d):(gt tm o y)[d]? = tm[d]?:=by
 cases o with
 |none=>rfl
 |some i =>unfold gt;exact akn (fun e=>h (by rw[e]))
section
variable{X1 X2 F:List Ev}{e:Ev}{R:Nat->Prop}{ρ:aN}{w:World}{tm:Array Value}
def pI{q:Ev}:q∈X1++e::X2++F↔q∈X1++e::(X2++F):=by simp
def Ee(hD:lC ops)(a:eg E rec ops t0 s0 (X1++e::(X2++F))){q:Ev}(b:q∈X1++e::(X2++F))(hi:q.i≠e.i){d:Tmp}(c:q.o.dst=some d):e.o.dst≠some d:=by obtain⟨_,_,_,g,_⟩:=eg.ok a b;have j:=(eg.at a).1;exact hD.dst e.i q.i e.o q.o d j.op g.op (fun h=>hi h.symm) c
def after(c:eg E rec ops t0 s0 (X1++e::(X2++F))){q:Ev}(d:q∈X1):e.b.next<=q.a.next:=by
 obtain⟨Xa,Xb,rfl⟩:=ajM d;have g:eg E rec ops t0 s0 (Xa++q::(Xb++e::(X2++F))):=by simpa using c
 obtain⟨h,i⟩:=eg.at g;exact eg.before h i (by simp)
def yI.step(hD:lC ops)(h:yI E t0 s0 ρ0 w0 (X1++e::X2) F R ρ w tm)(A:eg E rec ops t0 s0 (X1++e::(X2++F)))(hk:¬ kE E e.o)(hn:¬ R e.i){ρ':aN}{w':World}{y:Value}
 (n:ρ.le ρ') (hkeep:∀ f v,ρ' f v≠none->ρ f v≠none\/(f=e.a.next/\f<e.b.next)) (hsame:∀ f v,f≠e.a.next->ρ' f v=ρ f v)
 (G:∀ b,b<w.heap.size->w'.heap[b]? = w.heap[b]?) (H:Inj ρ') (I:Low ρ' w') (J:FR ρ w ρ' w')
 (s:den (ρ'.to e.b.next) e.v=some y) (hb:e.b=e.a\/∃ B,e.b=e.a.alloc B/\Cb (ρ'.to e.b.next) w' e.a.next B/\∀ v l,ρ' e.a.next v=some l->¬ l.ro) (K:∀ d,e.o.dst=some d->d<tm.size) :
 yI E t0 s0 ρ0 w0 (X1++e::X2) F (with1 R e.i) ρ' w' (gt tm e.o.dst y):=by
 obtain⟨t,u⟩:=eg.at A;have hNF:(cw s0 F).next<=e.a.next:=by rw[t.st];exact eg.next_le u
 have uniq:∀ q,q∈X1++e::(X2++F)->q.i=e.i->q=e:=fun q g hi=>eg.uniq A g (by simp) hi;refine⟨h.front,fun q g=>.inl (h.inF q g),fun q g hr=>?_,fun q g hr=>?_,fun d x Y L=>?_,fun q g hr=>?_,?_,H,I,fun f v r=>?_,h.fr.trans J⟩
 ·rcases hr with hr|hr
  ·exact h.noE q g hr
  ·have:=uniq q (by rw[<- pI];exact aiT _ g) hr;subst this;exact hk
 ·by_cases hi:q.i=e.i
  ·have:=uniq q (pI.1 g) hi;subst this;exact⟨y,s,fun d M=>Di M (K d M)⟩
  ·have hr:R q.i:=hr.resolve_right hi;obtain⟨z,O,Q⟩:=h.vals q g hr;exact⟨z,bN (aN.to_mono n _) _ _ O,fun d M=>by rw[mI (Ee hD A (pI.1 g) hi M)];exact Q d M⟩
 ·obtain⟨z,O,Q⟩:=h.olds d x Y fun q g hr=>L q g (.inl hr);refine⟨z,bN (aN.to_mono n _) _ _ O,?_⟩;rw[mI (L e (by simp) (.inr rfl))];exact Q
 ·by_cases hi:q.i=e.i
  ·have:=uniq q (pI.1 (aiT _ g)) hi;subst this;exact hb
  ·have hr:R q.i:=hr.resolve_right hi;rcases h.blks q g hr with j|⟨B,j,hB,U⟩
   ·exact .inl j
   ·have N:q.a.next=e.a.next->∀ v l,ρ' q.a.next v=some l->ρ q.a.next v≠none:=by
     intro m v l hl s;have W:q.b.next=q.a.next+1:=by rw[j,S.next_alloc]
     rcases hkeep q.a.next v (by rw[hl];exact fun h=>by cases h)with hc|⟨_,hc⟩
     ·exact hc s
     ·rcases aiq.1 g with c|c
      ·have:=after A c;omega
      ·rcases aff.1 c with rfl|c
       ·exact hi rfl
       ·have:=eg.before t u (aiT F c);omega
    refine .inr ⟨B,j,hB.keep (aN.to_mono n _) (fun v s=>?_) (fun v l hl=>G _ (h.low _ _ _ (aN.to_lt hl).2)),fun v l hl=>?_⟩
    rotate_left
    ·cases p:ρ q.a.next v with
     |none =>
      exfalso;by_cases m:q.a.next=e.a.next
      ·exact N m v l hl p
      ·rw[hsame _ _ m,p]at hl;cases hl
     |some l0 =>have:=n _ _ _ p;rw[hl]at this;cases this;exact U v l p
    have W:q.b.next=q.a.next+1:=by rw[j,S.next_alloc]
    rw[aN.to_of (by omega)]at s ⊢;by_cases m:q.a.next=e.a.next
    ·cases X:ρ' q.a.next v with
     |none=>rfl
     |some l =>
      exfalso;rcases hkeep q.a.next v (by rw[X];exact fun h=>by cases h)with hc|⟨_,hc⟩
      ·exact hc s
      ·rcases aiq.1 g with c|c
       ·have:=after A c;omega
       ·rcases aff.1 c with rfl|c
        ·exact hi rfl
        ·have:=eg.before t u (aiT F c);omega
    ·rw[hsame _ _ m];exact s
 ·have:ρ'.to (cw s0 F).next=ρ.to (cw s0 F).next:=by
   funext f v;by_cases r:f<(cw s0 F).next
   ·rw[aN.to_of r,aN.to_of r,hsame f v (by omega)]
   ·rw[aN.to_ge (by omega),aN.to_ge (by omega)]
  rw[this];exact h.hr.frame J.size G
 ·rcases hkeep f v r with r|⟨Z,h2⟩
  ·rcases h.fresh f v r with r|⟨q,q1,q2,q3⟩
   ·exact .inl r
   ·exact .inr ⟨q,q1,.inl q2,q3⟩
  ·exact .inr ⟨e,by simp,.inr rfl,Z,h2⟩
def yI.float(hD:lC ops)(h:yI E t0 s0 ρ0 w0 (X1++e::X2) F R ρ w tm)(H:eg E rec ops t0 s0 (X1++e::(X2++F)))(hk:¬ kE E e.o)(O:¬ R e.i)(U:jt ops R)(m:∀ k,mh ops e.i k->R k)
 (p:∀ d,e.o.dst=some d->d<tm.size) :
 (Region.wanted e.o (yielded ops tm)=false/\yI E t0 s0 ρ0 w0 (X1++e::X2) F (with1 R e.i) ρ w (gt tm e.o.dst undef)) \/
 (Region.wanted e.o (yielded ops tm)=true/\∃ y w' ρ',(execOp (rv tm) e.o).run E.P w=.ok (.value y) w'/\yI E t0 s0 ρ0 w0 (X1++e::X2) F (with1 R e.i) ρ' w' (gt tm e.o.dst y)):=by
 obtain⟨s,I⟩:=eg.at H;have Q:=h.env hD H O U m;have W:(cw s0 F).next<=e.a.next:=by rw[s.st];exact eg.next_le I
 have wsp:∀ b,bT ops e.t e.o=some b->Region.wanted e.o (yielded ops tm)=b:=fun b hb=>by rw[<- kP]at hb;exact fg (fr:={ (default:Frame)with tmps:=tm }) Q hb
 have plain:∀ y,den (ρ.to e.b.next) e.v=some y->e.b=e.a->yI E t0 s0 ρ0 w0 (X1++e::X2) F (with1 R e.i) ρ w (gt tm e.o.dst y):=fun y A hb =>yI.step hD h H hk O ρ.le_refl (fun f v r=>.inl r) (fun _ _ _=>rfl) (fun _ _=>rfl) h.inj h.low (FR.refl ρ w) A (.inl hb) p
 rcases s.step with⟨_,⟨X,A,hb⟩|⟨X,r⟩⟩|⟨Y,_⟩
 ·left;refine⟨wsp _ X,plain undef ?_ hb⟩;rw[A];rfl
 ·right;refine⟨wsp _ X,?_⟩;rcases r with⟨Z,hb,s1,c⟩|⟨hk1,hb,c⟩|⟨hk2,c⟩
  ·rw[<- jP (ops:=ops)]at c;have u:=Pd ⟨.leaf,e.a.next⟩ e.o Z c;obtain⟨v,y,x,h2,h3⟩:=Dn (HR.bare h.inj h.low) Q e.o (by omega) u;cases x;exact⟨y,w,ρ,h2,plain y (by rw[hb];exact h3) hb⟩
  ·obtain⟨s1,c⟩:=c X2 F rfl h.front fun q hq hqe hp=>h.noE q (by simp[hq]) (m _ hp) hqe;rw[<- jP (ops:=ops)]at c;have u:=Pc (n':=e.a.next) (h:=(cw s0 F).h) (n:=(cw s0 F).next) e.o (by omega) c;obtain⟨v,y,x,h2,h3⟩:=Dn (h.hr.widen h.inj h.low W) Q e.o (by omega) u;cases x;exact⟨y,w,ρ,h2,plain y (by rw[hb];exact h3) hb⟩
  ·rw[<- jP (ops:=ops)]at c;obtain⟨mk,B,hm,y,obj,lim,n,J,hmk⟩:=Ot (w:=w) Q e.o hk2 c;have K:=hm e.a;simp only at K;rw[K]at c;injection c with c;injection c with hd1 L
   have hbn:e.b.next=e.a.next+1:=by rw[<- L,S.next_alloc]
   have hfree:∀ v,ρ e.a.next v=none:=by
    intro v;cases hr:ρ e.a.next v with
    |none=>rfl
    |some l =>
     exfalso;rcases h.fresh e.a.next v (by rw[hr];exact fun h=>by cases h)with r|⟨q,q1,q2,q3,q4⟩
     ·omega
     ·rcases aiq.1 q1 with j|j
      ·have:=after H j;omega
      ·rcases aff.1 j with rfl|j
       ·exact O q2
       ·have:=eg.before s I (aiT F j);omega
   let ρ':=ρ.put e.a.next 0 ⟨w.heap.size,0,lim⟩
   have z:ρ.le ρ':=aN.le_put _ (hfree 0);have hto:(ρ.to e.a.next).le (ρ'.to e.b.next):=aN.le_trans (aN.to_mono z _) (aN.to_le ρ' (by omega))
   obtain⟨A,M⟩:=hmk (ρ'.to e.b.next) e.a.next hto (by rw[aN.to_of (by omega)];exact aN.put_same _ _ _ _) (fun v A=>by rw[aN.to_of (by omega)];show ρ.put _ _ _ _ _=none;unfold aN.put;rw[aeD (by omega)];exact hfree v)
   have N:∀ b,b<w.heap.size->(({ w with drawn:=n }:World).alloc obj).heap[b]? = w.heap[b]?:=fun b hb=>iG { w with drawn:=n } obj hb;refine⟨y,_,ρ',J,yI.step hD h H hk O z (fun f v r=>?_) (fun f v r=>?_) N ?_ ?_ ?_ (by rw[<- hd1];exact A) (.inr ⟨B,L.symm,M _ ?_,fun v l hl=>?_⟩) p⟩
   ·cases hr:ρ' f v with
    |none=>exact absurd hr r
    |some l =>
     rcases aN.of_put hr with⟨x,_,_⟩|x
     ·exact .inr ⟨x,by omega⟩
     ·exact .inl (by rw[x];exact fun h=>by cases h)
   ·show ρ.put _ _ _ _ _=_;unfold aN.put;rw[aeD (fun h=>r h.1)]
   ·intro f v l f' v' l' g G hb;rcases aN.of_put g with⟨rfl,rfl,rfl⟩|g
    ·rcases aN.of_put G with⟨rfl,rfl,rfl⟩|G
     ·exact⟨rfl,rfl⟩
     ·have:=h.low _ _ _ G;simp at hb;omega
    ·rcases aN.of_put G with⟨rfl,rfl,rfl⟩|G
     ·have:=h.low _ _ _ g;simp at hb;omega
     ·exact h.inj _ _ _ _ _ _ g G hb
   ·intro f v l g;rcases aN.of_put g with⟨rfl,rfl,rfl⟩|g
    ·simp
    ·have:=h.low _ _ _ g;simp;omega
   ·refine⟨z,by simp,rfl,rfl,rfl,fun b hb _=>N b hb,fun f v l g hl=>?_⟩;rcases aN.of_put g with⟨rfl,rfl,rfl⟩|g
    ·simp at hl
    ·exact⟨f,v,l,g,rfl,id⟩
   ·exact eF { w with drawn:=n } obj
   ·rcases aN.of_put hl with⟨_,rfl,rfl⟩|hl
    ·show ¬(lim<0);omega
    ·rw[hfree v]at hl;cases hl
 ·exact absurd Y hk
def yI.effect(hD:lC ops)(h:yI E t0 s0 ρ0 w0 (X1++e::X2) F R ρ w tm)(H:eg E rec ops t0 s0 (X1++e::(X2++F)))(hk:kE E e.o)(hn:¬ R e.i)(Z:∀ q∈X2,R q.i){ρ1:aN}{w':World}{y:Value}
 (Q:HR ρ1 e.b w') (n:FR (ρ.to e.a.next) w ρ1 w') (U:den ρ1 e.v=some y) (I:∀ d,e.o.dst=some d->d<tm.size) :
 ∃ ρ',yI E t0 s0 ρ0 w0 X1 (e::(X2++F)) (with1 R e.i) ρ' w' (gt tm e.o.dst y):=by
 obtain⟨A,J⟩:=eg.at H;have hNF:(cw s0 F).next<=e.a.next:=by rw[A.st];exact eg.next_le J
 have hab:=A.next_le;have uniq:∀ q,q∈X1++e::(X2++F)->q.i=e.i->q=e:=fun q g hi=>eg.uniq H g (by simp) hi;have notX1:∀ q∈X1,q.i≠e.i:=by
  intro q g hi;have:=uniq q (by simp[g]) hi;subst this;obtain⟨Xa,Xb,rfl⟩:=ajM g;have n:eg E rec ops t0 s0 (Xa++q::(Xb++q::(X2++F))):=by simpa using H
  exact(eg.at n).1.new q (by simp) rfl
 have early:∀ f v,ρ f v≠none->f<e.a.next\/(e.b.next<=f/\∃ q∈X1,R q.i/\f=q.a.next/\f<q.b.next):=by
  intro f v c;rcases h.fresh f v c with c|⟨q,q1,W,q3,q4⟩
  ·exact .inl (by omega)
  ·rcases aiq.1 q1 with m|m
   ·have:=after H m;exact .inr ⟨by omega,q,m,W,q3,q4⟩
   ·rcases aff.1 m with rfl|m
    ·exact absurd W hn
    ·have:=eg.before A J (aiT F m);exact .inl (by omega)
 let ρ':aN:=fun f v=>if f<e.b.next then ρ1 f v else ρ f v
 have ρlt:∀ {f v},f<e.b.next->ρ' f v=ρ1 f v:=fun {f v} c=>by show(if _ then _ else _)=_;rw[aeM c]
 have ρge:∀ {f v},e.b.next<=f->ρ' f v=ρ f v:=fun {f v} c=>by show(if _ then _ else _)=_;rw[aeD (by omega)]
 have K:ρ'.to e.b.next=ρ1:=by
  funext f v;by_cases c:f<e.b.next
  ·rw[aN.to_of c,ρlt c]
  ·rw[aN.to_ge (by omega),Q.fresh f v (by omega)]
 have s:ρ.le ρ':=fun f v l hl=>by
  rcases early f v (by rw[hl];exact fun h=>by cases h)with c|⟨c,_⟩
  ·rw[ρlt (by omega)];exact n.ext f v l (by rw[aN.to_of c];exact hl)
  ·rw[ρge c];exact hl
 have hfr:FR ρ w ρ' w':=by
  refine⟨s,n.size,n.os,n.tape,n.output,fun b hb t=>n.same b hb fun f v l hl G=>t f v l (aN.to_lt hl).2 G,fun f v l hl hb=>?_⟩;by_cases c:f<e.b.next
  ·rw[ρlt c]at hl;obtain⟨f',v',l',X,Y⟩:=n.new f v l hl hb;exact⟨f',v',l',(aN.to_lt X).2,Y⟩
  ·rw[ρge (by omega)]at hl;exact⟨f,v,l,hl,rfl,id⟩
 have apart:∀ f v l f' v' l',f<e.b.next->e.b.next<=f'->ρ' f v=some l->ρ' f' v'=some l'->l.b≠l'.b:=by intro f v l f' v' l' c p j r hb;rw[ρlt c]at j;rw[ρge p]at r;have hl:=h.low _ _ _ r;obtain⟨f2,v2,l2,X,Y,_⟩:=n.new f v l j (by omega);obtain⟨k3,k4⟩:=aN.to_lt X;have:=(h.inj _ _ _ _ _ _ k4 r (by omega)).1;omega
 refine⟨ρ',hk,fun q g=>?_,fun q g hr=>?_,fun q g hr=>?_,fun d x hx t=>?_,fun q g hr=>?_,?_,?_,?_,fun f v c=>?_,h.fr.trans hfr⟩
 ·rcases aff.1 g with rfl|g
  ·exact .inr rfl
  ·rcases aiq.1 g with g|g
   ·exact .inl (Z q g)
   ·exact .inl (h.inF q g)
 ·exact h.noE q (by simp[g]) (hr.resolve_right (notX1 q g))
 ·by_cases hi:q.i=e.i
  ·have:=uniq q g hi;subst this;exact⟨y,by rw[K];exact U,fun d L=>Di L (I d L)⟩
  ·have hr:R q.i:=hr.resolve_right hi;obtain⟨z,z1,z2⟩:=h.vals q (pI.2 g) hr;exact⟨z,bN (aN.to_mono s _) _ _ z1,fun d L=>by rw[mI (Ee hD H g hi L)];exact z2 d L⟩
 ·obtain⟨z,z1,z2⟩:=h.olds d x hx fun q g hr=>t q (pI.1 g) (.inl hr);refine⟨z,bN (aN.to_mono s _) _ _ z1,?_⟩;rw[mI (t e (by simp) (.inr rfl))];exact z2
 ·have hr:R q.i:=hr.resolve_right (notX1 q g);have M:=after H g;rcases h.blks q (by simp[g]) hr with u|⟨B,u,hB,G⟩
  ·exact .inl u
  ·have hqn:q.b.next=q.a.next+1:=by rw[u,S.next_alloc]
   refine .inr ⟨B,u,hB.keep (aN.to_mono s _) (fun v U=>?_) (fun v l hl=>?_),fun v l hl=>G v l (by rw[ρge M]at hl;exact hl)⟩
   ·rw[aN.to_of (by omega)]at U ⊢;rw[ρge M];exact U
   ·have N:=(aN.to_lt hl).2;refine n.same _ (h.low _ _ _ N) fun f v' l' c _ hb=>?_;obtain⟨X,Y⟩:=aN.to_lt c;have:=(h.inj _ _ _ _ _ _ Y N hb).1;omega
 ·show HR (ρ'.to e.b.next) e.b w';rw[K];exact Q
 ·intro f v l f' v' l' j r hb;by_cases c:f<e.b.next
  ·by_cases p:f'<e.b.next
   ·rw[ρlt c]at j;rw[ρlt p]at r;exact Q.inj _ _ _ _ _ _ j r hb
   ·exact absurd hb (apart _ _ _ _ _ _ c (by omega) j r)
  ·by_cases p:f'<e.b.next
   ·exact absurd hb.symm (apart _ _ _ _ _ _ p (by omega) r j)
   ·rw[ρge (by omega)]at j r;exact h.inj _ _ _ _ _ _ j r hb
 ·intro f v l j;by_cases c:f<e.b.next
  ·rw[ρlt c]at j;exact Q.low _ _ _ j
  ·rw[ρge (by omega)]at j;exact aiN (h.low _ _ _ j) n.size
 ·show f<e.b.next\/_;by_cases O:f<e.b.next
  ·exact .inl O
  ·rw[ρge (by omega)]at c;rcases early f v c with c|⟨_,q,q1,W,q3⟩
   ·exact absurd (aiN c hab) O
   ·exact .inr ⟨q,q1,.inl W,q3⟩
end
end
def left:List Bool->Nat
 |[]=>0
 |true::r=>left r
 |false::r=>left r+1
def Ac:∀(l:List Bool) (i:Nat),l[i]? = some false->left (l.set i true)+1=left l
 |[],i,h=>by simp at h
 |b::r,0,h=>by simp at h;subst h;simp[left]
 |b::r,i+1,h=>by have:=Ac r i (by simpa using h);cases b<;>simp[left]<;>omega
def un:∀(l:List Bool),left l=0->∀ i:Nat,l[i]?≠some false
 |[],_,i=>by simp
 |true::r,h,0=>by simp
 |false::r,h,_=>by simp[left]at h
 |true::r,h,i+1=>by simpa using un r h i
def jX:∀ n,left (List.replicate n false)=n
 |0=>rfl
 |n+1=>by simp[ajU,left,jX n]
def cz(listed:Array Bool):Nat->Prop:=fun i=>listed[i]? = some true
section
variable{P:Program}{ops:Array Oper}{listed:Array Bool}
def zX{i:Nat}(b:i<listed.size):cz (listed.setIfInBounds i true)=with1 (cz listed) i:=by
 funext k;unfold cz with1;apply propext;by_cases h:i=k
 ·subst h;simp[b]
 ·rw[akn h];constructor
  ·exact fun h=>.inl h
  ·rintro(a|a)
   ·exact a
   ·exact absurd a.symm h
def Ds{i:Nat}(hs:listed.size=ops.size)(h:i∈Region.ready .any ops listed):∃ o,ops[i]? = some o/\listed[i]? = some false/\∀ e∈o.after,Region.binds .any e=true->cz listed e.on:=by
 unfold Region.ready at h;rw[akd]at h;obtain⟨d,a⟩:=h;have hi:i<ops.size:=by simpa using d
 simp only[abA,ajv]at a;obtain⟨a,c⟩:=a;refine⟨ops[i],by simp[hi],?_,?_⟩
 ·have:i<listed.size:=by omega
  rw[aiP this];rw[ajP,aiP this]at a;simpa using a
 ·rw[aiP hi]at c;simp only[ajl,ajG]at c;rw[Array.all_eq_true']at c;intro e g hb;have:=c e g;rw[hb]at this;simp only[aid,ajf]at this;unfold cz;rw[ajP]at this;cases hl:listed[e.on]? with
  |none=>rw[hl]at this;cases this
  |some b=>rw[hl]at this;simp at this;rw[this]
def Df(d:gC ops)(hs:listed.size=ops.size)(h:Region.ready .any ops listed=[]):∀ i,i<ops.size->cz listed i:=by
 intro i;induction i using Nat.strongRecOn with
 |ind i ih =>
  intro hi;have a:i<listed.size:=by omega
  cases hb:listed[i]with
  |true=>unfold cz;rw[aiP a,hb]
  |false =>
   exfalso;have:i∈Region.ready .any ops listed:=by
    unfold Region.ready;rw[akd];refine⟨by simpa using hi,?_⟩;simp only[abA,ajv];refine⟨by rw[ajP,aiP a,hb];rfl,?_⟩;rw[aiP hi];simp only[ajl,ajG];rw[Array.all_eq_true'];intro e g;cases b:Region.binds .any e with
    |false=>rfl
    |true =>have c:=d i ops[i] (by simp[hi]) e g b;have:=ih e.on c (by omega);unfold cz at this;rw[ajP,this];rfl
   rw[h]at this;cases this
def zu(g:gC ops){R:Nat->Prop}(a:jt ops R){i:Nat}{o:Oper}(ho:ops[i]? = some o)(h:∀ e∈o.after,Region.binds .any e=true->R e.on):∀ k,mh ops i k->R k:=by
 intro k hk;obtain⟨e,c,d,b⟩:=(yl g ho).1 hk;rcases b with rfl|b
 ·exact h e c d
 ·exact a e.on k (h e c d) b
end
section
variable{E:dL}{ih:tR->S->Option fo}{ops:Array Oper}{t0:T V}{s0:S}{ρ0:aN}{w0:World}{f:FuncId}{fn:Func}{k:List Item}{rd:Option Nat}{ds:List eS}{up:Option Md}{cs:List Frame}
def OV{fr:Frame}{i:Nat}{rest:List Nat}{o:Oper}(a:kG E.P ρ0 f fn .leaf (.inRegion ops (i::rest)::k) ds .run up rd fr cs)(ho:ops[i]? = some o)(y:Value) :
 kG E.P ρ0 f fn .leaf (.inRegion ops rest::k) ds .run up rd (fr.finish y) cs/\(fr.finish y).tmps=gt fr.tmps o.dst y:=by
 rw[DX (a.todo rfl) ho];refine⟨⟨a.name,a.func,TR.leaf _ _,?_,fun _=>rfl,a.ds,a.md,a.rd,a.up⟩,rfl⟩;show fn.ntmps<=(gt fr.tmps o.dst y).size;have:=a.size;unfold gt;split<;>simpa using this
def QW(hE:jc E)(hg:Good E.P ih)(hD:lC ops)(hdst:lX ops fn.ntmps=true){L:List Ev}(hR:eg E (bR ih) ops t0 s0 L)(hall:∀ k,k<ops.size->∃ q∈L,q.i=k){t':T V}(hS:pC t0 L t') :
 ∀(m τ:Nat) (listed:Array Bool) (X F:List Ev) (ρ:aN) (w:World) (fr:Frame),L=X++F->listed.size=ops.size->left listed.toList<=m->jt ops (cz listed) ->
  yI E t0 s0 ρ0 w0 X F (cz listed) ρ w fr.tmps->kG E.P ρ0 f fn .leaf (.inRegion ops (Region.linearise.go .any ops m τ listed [])::k) ds .run up rd fr cs ->
  ∃ ρ' w' fr',Steps E.P (lone fr cs w) (lone fr' cs w')/\FR ρ0 w0 ρ' w'/\HR ρ' (cw s0 L) w'/\kG E.P ρ' f fn t' k ds .run up rd fr' cs:=by
 have fin:∀(listed:Array Bool) (X F:List Ev) (ρ:aN) (w:World) (fr:Frame),L=X++F->(∀ i,i<ops.size->cz listed i)->yI E t0 s0 ρ0 w0 X F (cz listed) ρ w fr.tmps ->
  kG E.P ρ0 f fn .leaf (.inRegion ops []::k) ds .run up rd fr cs->∃ ρ' w' fr',Steps E.P (lone fr cs w) (lone fr' cs w')/\FR ρ0 w0 ρ' w'/\HR ρ' (cw s0 L) w'/\kG E.P ρ' f fn t' k ds .run up rd fr' cs:=by
  intro listed X F ρ w fr z hfull A s;have hin:∀ e∈L,cz listed e.i:=fun e he=>by
   obtain⟨_,_,_,k1,_⟩:=eg.ok hR he
   exact hfull e.i (by
    rcases aiA e.i ops.size with h|h
    ·exact h
    ·have:=k1.op;rw[ajH h]at this;cases this)
  have n:=A.reg (X1:=[]) (Z:=X) (by simp) (by rw[<- z];exact hR) fun e he=>hin e (by rw[z];simp[he]);rw[<- z]at n;have hfresh:∀ f v,(cw s0 L).next<=f->ρ f v=none:=by
   intro f v hf;cases hr:ρ f v with
   |none=>rfl
   |some l =>
    exfalso;have hFn:(cw s0 F).next<=(cw s0 L).next:=by rw[z]at hR ⊢;exact eg.next_le hR
    rcases A.fresh f v (by rw[hr];exact fun h=>by cases h)with h1|⟨q,q1,q2,q3,q4⟩
    ·omega
    ·have hq:q∈L:=by rw[z];simp[q1]
     obtain⟨Xa,Y,hLa,k1,k2⟩:=eg.ok hR hq;have:(cw s0 (q::Y)).next<=(cw s0 L).next:=by rw[hLa]at hR ⊢;exact eg.next_le hR
     have:q.b.next<=(cw s0 L).next:=this;omega
  rw[aN.to_all hfresh]at n;refine⟨ρ,w,_,.one (rR (AC s) (s.todo rfl)),A.fr,n,?_⟩;have j:=(s.mono A.fr.ext).to k;refine⟨j.name,j.func,fun d x hx=>?_,j.size,j.todo,j.ds,j.md,j.rd,j.up⟩;rcases hS d with⟨q,q1,q2,q3⟩|⟨q1,q2⟩
  ·rw[q3]at hx;cases hx;obtain⟨y,y1,y2⟩:=A.vals q (by rw[<- z];exact q1) (hin q q1);exact⟨y,bN (aN.to_le_self ρ _) _ _ y1,y2 d q2⟩
  ·rw[q2]at hx;obtain⟨y,y1,y2⟩:=A.olds d x hx fun q hq _=>q1 q (by rw[z];exact hq);exact⟨y,bN (aN.to_le_self ρ _) _ _ y1,y2⟩
 intro m;induction m with
 |zero =>
  intro τ listed X F ρ w fr z hs hleft J A s;refine fin listed X F ρ w fr z (fun i hi=>?_) A (by simpa[Region.linearise.go]using s);have:=un listed.toList (by omega) i;have hi':i<listed.size:=by omega
  unfold cz;rw[aiP hi'];cases hb:listed[i]with
  |true=>rfl
  |false=>exfalso;apply this;rw[aiB,aiP hi',hb]
 |succ m ihf =>
  intro τ listed X F ρ w fr z hs hleft J A s;simp only[Region.linearise.go]at s
  change kG E.P ρ0 f fn .leaf (.inRegion ops (match(Region.ready .any ops listed)[τ%(Region.ready .any ops listed).length]? with
   |some i=>Region.linearise.go .any ops m (τ / (Region.ready .any ops listed).length) (listed.setIfInBounds i true) [i]
   |none=>[].reverse)::k) ds .run up rd fr cs at s
  cases hi:(Region.ready .any ops listed)[τ%(Region.ready .any ops listed).length]? with
  |none =>
   have hnil:Region.ready .any ops listed=[]:=by
    cases hr:Region.ready .any ops listed with
    |nil=>rfl
    |cons x xs =>rw[hr]at hi;have hlt:τ%(x::xs).length<(x::xs).length:=Nat.mod_lt _ (by simp);simp at hi;simp at hlt;omega
   rw[hi]at s;exact fin listed X F ρ w fr z (Df hD.back hs hnil) A s
  |some i =>
   rw[hi]at s;simp only at s;rw[linearise_go_acc,List.reverse_singleton,aiG]at s;obtain⟨o,ho,hfalse,hed⟩:=Ds hs (aiR hi);have hn:¬ cz listed i:=fun h=>by unfold cz at h;rw[hfalse]at h;cases h
   have B:=zu hD.back J ho hed;have hisz:i<listed.size:=by
    rcases aiA i listed.size with h|h
    ·exact h
    ·rw[ajH h]at hfalse;cases hfalse
   obtain⟨e,heL,hei⟩:=hall i (by omega);subst hei;obtain⟨_,_,_,hev0,_⟩:=eg.ok hR heL;have heo:e.o=o:=by have:=hev0.op;rw[ho]at this;cases this;rfl
   subst heo;have heX:e∈X:=by
    rw[z]at heL;rcases aiq.1 heL with h|h
    ·exact h
    ·exact absurd (A.inF e h) hn
   obtain⟨X1,X2,rfl⟩:=ajM heX;have hL':L=X1++e::(X2++F):=by rw[z];simp
   have K:=hR;rw[hL']at K;obtain⟨hev,hRY⟩:=eg.at K;have M:∀ d,e.o.dst=some d->d<fr.tmps.size:=fun d hd=>aiN (rz hdst ho d hd) s.size;have hm:=AC s;have N:=s.todo rfl;have O:(listed.setIfInBounds e.i true).size=ops.size:=by simpa using hs
   have hleft':left (listed.setIfInBounds e.i true).toList<=m:=by have:=Ac listed.toList e.i (by rw[aiB];exact hfalse);rw[Array.toList_setIfInBounds];omega
   have G:=zX hisz;have Q:jt ops (cz (listed.setIfInBounds e.i true)):=by rw[G];exact J.with1 B
   by_cases hk:kE E e.o
   ·
    have hstep:fV E (bR ih) e.t e.a e.o (bT ops e.t e.o)=some (e.v,e.b)/\∀ q∈X2++F,mh ops e.i q.i:=by
     rcases hev.step with⟨hk',_⟩|⟨_,h1,_,h2⟩
     ·exact absurd hk hk'
     ·exact⟨h1,h2⟩
    obtain⟨hst,hXF⟩:=hstep;have hX2:∀ q∈X2,cz listed q.i:=fun q hq=>B _ (hXF q (by simp[hq]));have n:=A.reg (X1:=X1++[e]) (Z:=X2) (by simp) hRY hX2;rw[<- hev.st]at n;have hT:=A.env hD K hn J B;have wsp:∀ b,bT ops e.t e.o=some b->Region.wanted e.o (yielded ops fr.tmps)=b:=fun b hb=>by rw[<- kP]at hb;exact fg hT hb
    have go:∀(ρ1:aN) (H:World) (y:Value),Steps E.P (lone fr cs w) (lone (fr.finish y) cs H)->HR ρ1 e.b H->FR (ρ.to e.a.next) w ρ1 H->den ρ1 e.v=some y ->
     ∃ ρ' w' fr',Steps E.P (lone fr cs w) (lone fr' cs w')/\FR ρ0 w0 ρ' w'/\HR ρ' (cw s0 L) w'/\kG E.P ρ' f fn t' k ds .run up rd fr' cs:=by
     intro ρ1 H y hsteps h1 h2 h3;obtain⟨ρ',u⟩:=A.effect hD K hk hn hX2 h1 h2 h3 M;obtain⟨j,U⟩:=OV s ho y;rw[<- G,<- U]at u;obtain⟨ρ2,w2,fr2,a1,a2⟩:=ihf (τ / (Region.ready .any ops listed).length) _ X1 (e::(X2++F)) ρ' H (fr.finish y) hL' O hleft' Q u j;exact⟨ρ2,w2,fr2,hsteps.trans a1,a2⟩
    unfold fV at hst;split at hst
    ·rename_i hw;have hwant:=wsp _ hw;rw[<- jP (ops:=ops)]at hst;cases I:dI E (only e.t (looks ops e.o)) e.a e.o with
     |none=>rw[I]at hst;cases hst
     |some nx =>
      rw[I]at hst;have hop:=mL hE n hT e.o I;have W:(∀ c,e.o.op≠.defer c)->stepG E.P true { frame:=fr,callers:=cs,status:=.running,dying:=none } w=stepG.apply E.P true fr cs none (execOp (rv fr.tmps) e.o) w:=fun q=>ip hm N ho hwant (.inr q);cases nx with
      |val v s1 =>simp only[lW,abB,ajr]at hst;obtain⟨p,r⟩:=hst;obtain⟨ρ1,y,H,h1,h2,h3,h4⟩:=hop;have hst:=W (dr I (fun d s'=>by intro h;cases h));exact go ρ1 H y (.one (py hst h1)) (by rw[<- r];exact h3) h4 (by rw[<- p];exact h2)
      |skip s1 =>simp only[lW,abB,ajr]at hst;obtain⟨p,r⟩:=hst;obtain⟨ρ1,H,h1,h3,h4⟩:=hop;have hst:=W (dr I (fun d s'=>by intro h;cases h));exact go ρ1 H undef (.one (GA hst h1)) (by rw[<- r];exact h3) h4 (by rw[<- p];rfl)
      |enter g args s1 =>
       obtain⟨ys,h1,h2,h3⟩:=hop;have hstx:=W (dr I (fun d s'=>by intro h;cases h));simp only[lW]at hst;cases hr:bR ih g args none s1 with
       |none=>rw[hr]at hst;cases hst
       |some out =>
        rw[hr]at hst;obtain⟨hcall,hfin⟩:=lI hg h3 h1 hr;rw[hcall]at h2;obtain⟨ρ1,H,en,j1,j2,j3,j4⟩:=hfin fr cs;have hsteps:Steps E.P (lone fr cs w) (lone (cG fr en) cs H):=.head (tG N hstx h2) j4;obtain⟨oe,oup,os⟩:=out;cases oe with
        |panicked c=>cases hst
        |returned v =>
         simp only[uK,abB,ajr]at hst;obtain⟨p,r⟩:=hst;cases en with
         |returned y=>exact go ρ1 H y hsteps (by rw[<- r];exact j1) j2 (by rw[<- p];exact j3)
         |panicked _=>exact j3.elim
         |outgrown=>exact j3.elim
      |round l args s1=>cases hst
      |defer df s1=>cases hst
      |recover s1=>cases hst
      |panic v s1=>cases hst
    ·rename_i hw;have hwant:=wsp _ hw;simp only[abB,ajr]at hst;obtain⟨p,r⟩:=hst;exact go (ρ.to e.a.next) w undef (.one (iJ hm N (by simp[ho,hwant]))) (by rw[<- r];exact n) (FR.refl _ _) (by rw[<- p];rfl)
    ·cases hst
   ·
    rcases A.float hD K hk hn J B M with⟨hwant,u⟩|⟨hwant,y,H,ρ1,hrun,u⟩
    ·obtain⟨j,U⟩:=OV s ho undef;rw[<- G,<- U]at u;obtain⟨ρ2,w2,fr2,a1,a2⟩:=ihf (τ / (Region.ready .any ops listed).length) _ (X1++e::X2) F ρ w (fr.finish undef) z O hleft' Q u j;exact⟨ρ2,w2,fr2,(Steps.one (iJ hm N (by simp[ho,hwant]))).trans a1,a2⟩
    ·obtain⟨j,U⟩:=OV s ho y;rw[<- G,<- U]at u;obtain⟨ρ2,w2,fr2,a1,a2⟩:=ihf (τ / (Region.ready .any ops listed).length) _ (X1++e::X2) F ρ1 H (fr.finish y) z O hleft' Q u j;have hnd:∀ c,e.o.op≠.defer c:=fun c hc=>by apply hk;show aP E.P e.o.op=3;rw[hc];rfl
     exact⟨ρ2,w2,fr2,(Steps.one (py (ip hm N ho hwant (.inr hnd)) hrun)).trans a1,a2⟩
def Qu{P:Program}{fr:Frame}{cs:List Frame}{w:World}{id:Nat}(hm:fr.mode=.run)(a:fr.todo=.code (.region id ops true)::k) :
 step P (lone fr cs w)=.next (lone { fr with todo:=.inRegion ops (Region.schedule (P.follows .mixedOrders) ops (w.tape w.drawn (.order fr.fn id)))::k } cs { w with drawn:=w.drawn+1 }) :=
 aiI (by simp[stepG,stepG.exec,hm,a,choose,Sem.run,Question.forced,Question.cut])
end
section
variable{E:dL}{ih:tR->S->Option fo}{ops:Array Oper}{t0:T V}{s0:S}{ρ0:aN}{w0:World}{f:FuncId}{fn:Func}{k:List Item}{rd:Option Nat}{ds:List eS}{up:Option Md}{cs:List Frame}
def jJ{done:Nat}{d:Tmp}{x:V}:∀ {l:List (Nat×Oper)} {t:T V},(gj done l t).get (fu d)=some x->t.get (fu d)=some x/\∀ a o,(a,o)∈l->o.dst=some d->done.testBit a=true
 |[],t,h=>⟨h,fun _ _ h=>by cases h⟩
 |(a,o)::r,t,h=>by
  simp only[gj]at h;cases hb:done.testBit a with
  |true =>
   rw[hb]at h;obtain⟨b,i⟩:=jJ h;refine⟨b,fun j o' hm c=>?_⟩;rcases aff.1 hm with hm|hm
   ·cases hm;exact hb
   ·exact i j o' hm c
  |false =>
   rw[hb]at h;simp only[TD]at h;cases ho:o.dst with
   |none =>
    rw[ho]at h;obtain⟨b,i⟩:=jJ h;refine⟨b,fun j o' hm c=>?_⟩;rcases aff.1 hm with hm|hm
    ·cases hm;rw[ho]at c;cases c
    ·exact i j o' hm c
   |some e =>
    rw[ho]at h;simp only at h;rw[T.setK_eq]at h;obtain⟨b,i⟩:=jJ h;rw[T.get_setN]at b;by_cases g:e=d
    ·rw[aeM g]at b;cases b
    ·rw[aeD g]at b;refine⟨b,fun j o' hm c=>?_⟩;rcases aff.1 hm with hm|hm
     ·cases hm;rw[ho]at c;cases c;exact absurd rfl g
     ·exact i j o' hm c
def FR.to_start{ρ:aN}{w:World}{n:Nat}(h:FR ρ0 w0 ρ w)(h0:∀ f v,n<=f->ρ0 f v=none):FR ρ0 w0 (ρ.to n) w :=
 ⟨fun f v l e=>by
  have a:f<n:=akD fun hc=>by rw[h0 f v hc]at e;cases e
  rw[aN.to_of a];exact h.ext f v l e,h.size,h.os,h.tape,h.output,h.same,fun f v l e hl=>h.new f v l (aN.to_lt e).2 hl⟩
def yI.envP{rec:iC}{Z X2 F:List Ev}{i:Nat}{o:Oper}{W:T V}{R:Nat->Prop}{ρ:aN}{w:World}{tm:Array Value}(hD:lC ops)(h:yI E t0 s0 ρ0 w0 (Z++X2) F R ρ w tm)
 (J:eg E rec ops t0 s0 (Z++(X2++F))) (ho:ops[i]? = some o) (K:∀ k,mh ops i k->∃ q∈X2++F,q.i=k) (a:∀ q∈Z++(X2++F),q.i≠i) (hslots:pC t0 (X2++F) W)
 (hn:¬ R i) (L:jt ops R) (B:∀ k,mh ops i k->R k):TR (ρ.to (cw s0 (X2++F)).next) (only W (looks ops o)) tm:=by
 have X:Z++X2++F=Z++(X2++F):=by simp
 have j:eg E rec ops t0 s0 (X2++F):=eg.suf J;intro d x t;rw[oF]at t;split at t
 ·rename_i n;have r:∀ q oq,ops[q]? = some oq->oq.dst=some d->q≠i->mh ops i q\/mh ops q i:=by
   intro q oq l c u;rcases aiq.1 n with n|n
   ·exact hD.sees i q o oq d ho l (fun h=>u h.symm) c n
   ·unfold pM at n;split at n
    ·rename_i g b hg;have m:((ops[g]?).bind (·.dst))=some d:=by simpa using n
     cases v:ops[g]? with
     |none=>rw[v]at m;cases m
     |some og =>
      rw[v]at m;by_cases G:g=q
      ·subst G;exact .inl (hD.guard i o g b ho hg)
      ·exact absurd m (hD.dst g q og oq d v l G c)
    ·simp at n
  have M:∀ q∈X2++F,q.b.next<=(cw s0 (X2++F)).next:=fun q l=>by obtain⟨Y1,Y2,N⟩:=ajM l;rw[N]at j ⊢;exact eg.next_le (Y:=q::Y2) j
  rcases hslots d with⟨q,A,H,q3⟩|⟨A,H⟩
  ·rw[q3]at t;cases t;obtain⟨Ya,Yb,N,s,_⟩:=eg.ok j A;have u:q.i≠i:=a q (aiH _ A);rcases r q.i q.o s.op H u with p|p
   ·obtain⟨y,O,Q⟩:=h.vals q (by rw[X];exact aiH _ A) (B _ p);exact⟨y,bN (aN.to_le ρ (M q A)) _ _ O,Q d H⟩
   ·obtain⟨z,I,U⟩:=s.pre i p;exact absurd U (a z (aiH _ (by rw[N];simp[I])))
  ·rw[H]at t
   obtain⟨y,O,Q⟩:=h.olds d x t (fun q l hr c=>by
    rw[X]at l;obtain⟨_,Y',_,k1,_⟩:=eg.ok J l;rcases r q.i q.o k1.op c (a q l)with p|p
    ·obtain⟨z,I,U⟩:=K _ p;have hz:z=q:=eg.uniq J (aiH _ I) l U;subst hz;exact A z I c
    ·exact hn (L q.i i hr p))
   refine⟨y,bN (aN.to_le ρ ?_) _ _ O,Q⟩;have h1:eg E rec ops t0 s0 ((X2++F)++[]):=by simpa using j
   have h2:=eg.next_le h1;rw[aic]at h2;exact h2
 ·cases t
def QX(hE:jc E)(hg:Good E.P ih)(hD:lC ops)(hdst:lX ops fn.ntmps=true)(h0:∀ f v,s0.next<=f->ρ0 f v=none){M:Nat}{o0:Oper}{Z0 Y0:List Ev}{done:Nat}{t1:T V}{c:List GN}{s2:S}
 (ho0:ops[M]? = some o0) (hk0:kE E o0) (hR:eg E (bR ih) ops t0 s0 (Z0++Y0)) (hdone:uX done Y0) (hS:pC t0 Y0 t1) (j:lA E (bR ih) t1 (cw s0 Y0) o0 (bT ops t1 o0)=some (.pan c s2))
 (hpY1:∀ q∈Y0,mh ops M q.i) (hpY:∀ k,mh ops M k->∃ q∈Y0,q.i=k) (hZ:∀ q∈Z0,¬ kE E q.o) (hnew:∀ q∈Z0++Y0,q.i≠M) (hall:∀ k,k<ops.size->k≠M->¬ mh ops k M->∃ q∈Z0++Y0,q.i=k) :
 ∀(s τ:Nat) (listed:Array Bool) (X F:List Ev) (ρ:aN) (w:World) (fr:Frame),Z0++Y0=X++F->listed.size=ops.size->left listed.toList<=s->jt ops (cz listed)->¬ cz listed M ->
  yI E t0 s0 ρ0 w0 X F (cz listed) ρ w fr.tmps->kG E.P ρ0 f fn .leaf (.inRegion ops (Region.linearise.go .any ops s τ listed [])::k) ds .run up rd fr cs ->
  ∃ ρ' w' fr',Steps E.P (lone fr cs w) (lone fr' cs w')/\FR ρ0 w0 ρ' w'/\HR ρ' s2 w'/\kG E.P ρ' f fn (gj done (dy ops.toList 0) t1) k ds (.panicking c) up rd fr' cs:=by
 have hi0:M<ops.size:=by
  rcases aiA M ops.size with h|h
  ·exact h
  ·rw[ajH h]at ho0;cases ho0
 intro s;induction s with
 |zero =>
  intro τ listed X F ρ w fr hL hs hleft U hni hI Q;exfalso;have:=un listed.toList (by omega) M;have hi':M<listed.size:=by omega
  apply hni;unfold cz;rw[aiP hi'];cases hb:listed[M]with
  |true=>rfl
  |false=>exfalso;apply this;rw[aiB,aiP hi',hb]
 |succ s ihf =>
  intro τ listed X F ρ w fr hL hs hleft U hni hI Q;simp only[Region.linearise.go]at Q
  change kG E.P ρ0 f fn .leaf (.inRegion ops (match(Region.ready .any ops listed)[τ%(Region.ready .any ops listed).length]? with
   |some i=>Region.linearise.go .any ops s (τ / (Region.ready .any ops listed).length) (listed.setIfInBounds i true) [i]
   |none=>[].reverse)::k) ds .run up rd fr cs at Q
  cases hi:(Region.ready .any ops listed)[τ%(Region.ready .any ops listed).length]? with
  |none =>
   exfalso;have hnil:Region.ready .any ops listed=[]:=by
    cases hr:Region.ready .any ops listed with
    |nil=>rfl
    |cons x xs =>rw[hr]at hi;have hlt:τ%(x::xs).length<(x::xs).length:=Nat.mod_lt _ (by simp);simp at hi;simp at hlt;omega
   exact hni (Df hD.back hs hnil M hi0)
  |some i =>
   rw[hi]at Q;simp only at Q;rw[linearise_go_acc,List.reverse_singleton,aiG]at Q;obtain⟨o,ho,hfalse,hed⟩:=Ds hs (aiR hi);have hn:¬ cz listed i:=fun h=>by unfold cz at h;rw[hfalse]at h;cases h
   have n:=zu hD.back U ho hed;have hisz:i<listed.size:=by
    rcases aiA i listed.size with h|h
    ·exact h
    ·rw[ajH h]at hfalse;cases hfalse
   have hm:=AC Q;have N:=Q.todo rfl;by_cases hii:i=M
   ·
    subst hii;rw[ho0]at ho;cases ho;obtain⟨X2,hX2,hY0⟩:∃ X2,X=Z0++X2/\Y0=X2++F:=by
     rcases List.append_eq_append_iff.1 hL with⟨a,B,r⟩|⟨a,B,r⟩
     ·exact⟨a,B,r⟩
     ·cases a with
      |nil=>exact⟨[],by simpa using B.symm,by simpa using r.symm⟩
      |cons e a =>exfalso;subst r;have hfe:kE E e.o:=hI.front;exact hZ e (by rw[B];simp) hfe
    subst hX2;subst hY0;have O:eg E (bR ih) ops t0 s0 (X2++F):=eg.suf hR;have H:=hI.reg (X1:=Z0) (Z:=X2) rfl O fun q hq=>n _ (hpY1 q (aiT _ hq));have hT:=hI.envP hD hR ho0 hpY hnew hS hn U n;have wsp:∀ b,bT ops t1 o0=some b->Region.wanted o0 (yielded ops fr.tmps)=b:=fun b hb=>by rw[<- kP]at hb;exact fg hT hb
    have hFR0:FR ρ0 w0 (ρ.to (cw s0 (X2++F)).next) w:=hI.fr.to_start fun f v hf=>h0 f v (by
     have B:eg E (bR ih) ops t0 s0 ((X2++F)++[]):=by simpa using O
     have r:=eg.next_le B;rw[aic]at r;exact ajd r hf)
    have tr:∀ ρ1:aN,(ρ.to (cw s0 (X2++F)).next).le ρ1->TR ρ1 (gj done (dy ops.toList 0) t1) fr.tmps:=fun ρ1 hle d x hx=>by
     obtain⟨hx1,hx2⟩:=jJ hx;have hle2:∀ q∈X2++F,q.b.next<=(cw s0 (X2++F)).next:=fun q hq=>by obtain⟨Y1,Y2,hY⟩:=ajM hq;rw[hY]at O ⊢;exact eg.next_le (Y:=q::Y2) O
     rcases hS d with⟨q,q1,q2,q3⟩|⟨q1,q2⟩
     ·rw[q3]at hx1;cases hx1;obtain⟨y,y1,y2⟩:=hI.vals q (by rw[aix];exact aiH _ q1) (n _ (hpY1 q q1));exact⟨y,bN (aN.le_trans (aN.to_le ρ (hle2 q q1)) hle) _ _ y1,y2 d q2⟩
     ·rw[q2]at hx1;obtain⟨y,y1,y2⟩:=hI.olds d x hx1 fun q hq hr hdq=>by rw[aix]at hq;obtain⟨_,_,_,k1,_⟩:=eg.ok hR hq;have:=hx2 q.i q.o (ep.2 k1.op) hdq;obtain⟨z,z1,z2⟩:=(hdone q.i).1 this;have hz:z=q:=eg.uniq hR (aiH _ z1) hq z2;subst hz;exact q1 z z1 hdq
      have B:eg E (bR ih) ops t0 s0 ((X2++F)++[]):=by simpa using O
      have r:=eg.next_le B;rw[aic]at r;exact⟨y,bN (aN.le_trans (aN.to_le ρ r) hle) _ _ y1,y2⟩
    unfold lA at j;split at j
    ·rename_i hw;have hwant:=wsp _ hw;rw[<- jP (ops:=ops)]at j;cases p:dI E (only t1 (looks ops o0)) (cw s0 (X2++F)) o0 with
     |none=>rw[p]at j;cases j
     |some nx =>
      rw[p]at j;have W:=mL hE H hT o0 p;have G:(∀ c,o0.op≠.defer c)->stepG E.P true { frame:=fr,callers:=cs,status:=.running,dying:=none } w=stepG.apply E.P true fr cs none (execOp (rv fr.tmps) o0) w:=fun q=>ip hm N ho0 hwant (.inr q);cases nx with
      |enter g args s1 =>
       obtain⟨ys,B,r,h3⟩:=W;have I:=G (dr p (fun d s'=>by intro h;cases h));simp only[ry]at j;cases hr:bR ih g args none s1 with
       |none=>rw[hr]at j;cases j
       |some out =>
        rw[hr]at j;obtain⟨hcall,hfin⟩:=lI hg h3 B hr;rw[hcall]at r;obtain⟨ρ1,J,en,j1,j2,j3,j4⟩:=hfin fr cs;have hsteps:Steps E.P (lone fr cs w) (lone (cG fr en) cs J):=.head (tG N I r) j4;obtain⟨oe,oup,os⟩:=out;cases oe with
        |returned v=>cases j
        |panicked c' =>
         simp only[sZ,abB,PM.pan.injEq]at j;obtain⟨rfl,rfl⟩:=j;cases en with
         |returned _=>exact j3.elim
         |outgrown=>exact j3.elim
         |panicked ch =>have hfr:=hFR0.trans j2;have m:=Q.mono hfr.ext;exact⟨ρ1,J,_,hsteps,hfr,j1,⟨m.name.symm▸(by rw[cG,bE hm]),m.func,by rw[cG,bE hm];exact tr ρ1 j2.ext,by rw[cG,bE hm];exact m.size,(fun q=>by cases q),by rw[cG,bE hm];exact m.ds,by rw[cG,bE hm];exact j3,by rw[cG,bE hm];exact m.rd,by rw[cG,bE hm];exact m.up⟩⟩
      |panic v s1 =>simp only[ry,abB,PM.pan.injEq]at j;obtain⟨rfl,rfl⟩:=j;obtain⟨y,B,r,h3⟩:=W;have I:=G (dr p (fun d s'=>by intro h;cases h));refine⟨ρ.to (cw s0 (X2++F)).next,w,_,.one (Jl I r),hFR0,h3,?_⟩;rw[bE hm];have m:=Q.mono hFR0.ext;exact⟨m.name,m.func,tr _ (aN.le_refl _),m.size,(fun q=>by cases q),m.ds,⟨⟨B,rfl,rfl⟩,trivial⟩,m.rd,m.up⟩
      |val v s1=>cases j
      |skip s1=>cases j
      |round l args s1=>cases j
      |defer df s1=>cases j
      |recover s1=>cases j
    ·cases j
    ·cases j
   ·
    obtain⟨e,heL,hei⟩:=hall i (by omega) hii fun h=>hni (n _ h);subst hei;have hL0:=hL;obtain⟨_,_,_,hev0,_⟩:=eg.ok hR heL;have heo:e.o=o:=by have:=hev0.op;rw[ho]at this;cases this;rfl
    subst heo;have heX:e∈X:=by
     rw[hL]at heL;rcases aiq.1 heL with h|h
     ·exact h
     ·exact absurd (hI.inF e h) hn
    obtain⟨X1,X2,rfl⟩:=ajM heX;have hL':Z0++Y0=X1++e::(X2++F):=by rw[hL];simp
    have hR':=hR;rw[hL']at hR';obtain⟨hev,O⟩:=eg.at hR';have hdst':∀ d,e.o.dst=some d->d<fr.tmps.size:=fun d hd=>aiN (rz hdst ho d hd) Q.size;have hsz':(listed.setIfInBounds e.i true).size=ops.size:=by simpa using hs
    have hleft':left (listed.setIfInBounds e.i true).toList<=s:=by have:=Ac listed.toList e.i (by rw[aiB];exact hfalse);rw[Array.toList_setIfInBounds];omega
    have K:=zX hisz;have hcl':jt ops (cz (listed.setIfInBounds e.i true)):=by rw[K];exact U.with1 n
    have hni':¬ cz (listed.setIfInBounds e.i true) M:=by
     rw[K];rintro(h|h)
     ·exact hni h
     ·exact hii h.symm
    by_cases hk:kE E e.o
    ·
     have hstep:fV E (bR ih) e.t e.a e.o (bT ops e.t e.o)=some (e.v,e.b)/\∀ q∈X2++F,mh ops e.i q.i:=by
      rcases hev.step with⟨hk',_⟩|⟨_,B,_,r⟩
      ·exact absurd hk hk'
      ·exact⟨B,r⟩
     obtain⟨hst,hXF⟩:=hstep;have hX2:∀ q∈X2,cz listed q.i:=fun q hq=>n _ (hXF q (by simp[hq]));have H:=hI.reg (X1:=X1++[e]) (Z:=X2) (by simp) O hX2;rw[<- hev.st]at H;have hT:=hI.env hD hR' hn U n;have wsp:∀ b,bT ops e.t e.o=some b->Region.wanted e.o (yielded ops fr.tmps)=b:=fun b hb=>by rw[<- kP]at hb;exact fg hT hb
     have go:∀(ρ1:aN) (J:World) (y:Value),Steps E.P (lone fr cs w) (lone (fr.finish y) cs J)->HR ρ1 e.b J->FR (ρ.to e.a.next) w ρ1 J->den ρ1 e.v=some y ->
      ∃ ρ' w' fr',Steps E.P (lone fr cs w) (lone fr' cs w')/\FR ρ0 w0 ρ' w'/\HR ρ' s2 w'/\kG E.P ρ' f fn (gj done (dy ops.toList 0) t1) k ds (.panicking c) up rd fr' cs:=by
      intro ρ1 J y hsteps B r h3;obtain⟨ρ',L⟩:=hI.effect hD hR' hk hn hX2 B r h3 hdst';obtain⟨hF',htm⟩:=OV Q ho y;rw[<- K,<- htm]at L;obtain⟨ρ2,w2,fr2,a1,a2⟩:=ihf (τ / (Region.ready .any ops listed).length) _ X1 (e::(X2++F)) ρ' J (fr.finish y) hL' hsz' hleft' hcl' hni' L hF';exact⟨ρ2,w2,fr2,hsteps.trans a1,a2⟩
     unfold fV at hst;split at hst
     ·rename_i hw;have hwant:=wsp _ hw;rw[<- jP (ops:=ops)]at hst;cases p:dI E (only e.t (looks ops e.o)) e.a e.o with
      |none=>rw[p]at hst;cases hst
      |some nx =>
       rw[p]at hst;have W:=mL hE H hT e.o p;have G:(∀ c,e.o.op≠.defer c)->stepG E.P true { frame:=fr,callers:=cs,status:=.running,dying:=none } w=stepG.apply E.P true fr cs none (execOp (rv fr.tmps) e.o) w:=fun q=>ip hm N ho hwant (.inr q);cases nx with
       |val v s1 =>simp only[lW,abB,ajr]at hst;obtain⟨u,A⟩:=hst;obtain⟨ρ1,y,J,B,r,h3,h4⟩:=W;have hst:=G (dr p (fun d s'=>by intro h;cases h));exact go ρ1 J y (.one (py hst B)) (by rw[<- A];exact h3) h4 (by rw[<- u];exact r)
       |skip s1 =>simp only[lW,abB,ajr]at hst;obtain⟨u,A⟩:=hst;obtain⟨ρ1,J,B,h3,h4⟩:=W;have hst:=G (dr p (fun d s'=>by intro h;cases h));exact go ρ1 J undef (.one (GA hst B)) (by rw[<- A];exact h3) h4 (by rw[<- u];rfl)
       |enter g args s1 =>
        obtain⟨ys,B,r,h3⟩:=W;have I:=G (dr p (fun d s'=>by intro h;cases h));simp only[lW]at hst;cases hr:bR ih g args none s1 with
        |none=>rw[hr]at hst;cases hst
        |some out =>
         rw[hr]at hst;obtain⟨hcall,hfin⟩:=lI hg h3 B hr;rw[hcall]at r;obtain⟨ρ1,J,en,j1,j2,j3,j4⟩:=hfin fr cs;have hsteps:Steps E.P (lone fr cs w) (lone (cG fr en) cs J):=.head (tG N I r) j4;obtain⟨oe,oup,os⟩:=out;cases oe with
         |panicked c=>cases hst
         |returned v =>
          simp only[uK,abB,ajr]at hst;obtain⟨u,A⟩:=hst;cases en with
          |returned y=>exact go ρ1 J y hsteps (by rw[<- A];exact j1) j2 (by rw[<- u];exact j3)
          |panicked _=>exact j3.elim
          |outgrown=>exact j3.elim
       |round l args s1=>cases hst
       |defer df s1=>cases hst
       |recover s1=>cases hst
       |panic v s1=>cases hst
     ·rename_i hw;have hwant:=wsp _ hw;simp only[abB,ajr]at hst;obtain⟨u,A⟩:=hst;exact go (ρ.to e.a.next) w undef (.one (iJ hm N (by simp[ho,hwant]))) (by rw[<- A];exact H) (FR.refl _ _) (by rw[<- u];rfl)
     ·cases hst
    ·
     rcases hI.float hD hR' hk hn U n hdst' with⟨hwant,L⟩|⟨hwant,y,J,ρ1,hrun,L⟩
     ·obtain⟨hF',htm⟩:=OV Q ho undef;rw[<- K,<- htm]at L;obtain⟨ρ2,w2,fr2,a1,a2⟩:=ihf (τ / (Region.ready .any ops listed).length) _ (X1++e::X2) F ρ w (fr.finish undef) hL hsz' hleft' hcl' hni' L hF';exact⟨ρ2,w2,fr2,(Steps.one (iJ hm N (by simp[ho,hwant]))).trans a1,a2⟩
     ·obtain⟨hF',htm⟩:=OV Q ho y;rw[<- K,<- htm]at L;obtain⟨ρ2,w2,fr2,a1,a2⟩:=ihf (τ / (Region.ready .any ops listed).length) _ (X1++e::X2) F ρ1 J (fr.finish y) hL hsz' hleft' hcl' hni' L hF';have hnd:∀ c,e.o.op≠.defer c:=fun c hc=>by apply hk;show aP E.P e.o.op=3;rw[hc];rfl
      exact⟨ρ2,w2,fr2,(Steps.one (py (ip hm N ho hwant (.inr hnd)) hrun)).trans a1,a2⟩
def IE(O:jc E)(m:E.P.follows .mixedOrders=true):eu E:=by
 intro ih Q f fn id ops k rd t ds up s r j e ρ w fr cs h a;obtain⟨hD,hcase⟩:=Gb e;have hm:=AC a;have U:=a.todo rfl;have hstep:=Qu (P:=E.P) (cs:=cs) (w:=w) hm U;rw[m]at hstep;simp only[Region.schedule,akO,akC,Region.linearise]at hstep;have b:∀ i,¬ cz (Array.replicate ops.size false) i:=by intro i hi;unfold cz at hi;rw[Array.getElem?_replicate]at hi;split at hi<;>cases hi
 have n:∀ L,yI E t s ρ w L [] (cz (Array.replicate ops.size false)) ρ { w with drawn:=w.drawn+1 } fr.tmps:=by
  intro L;have o:ρ.to s.next=ρ:=aN.to_all fun f v p=>h.fresh f v p;refine⟨trivial,by simp,fun e _ hr=>absurd hr (b _),fun e _ hr=>absurd hr (b _),fun d x W _=>?_,fun e _ hr=>absurd hr (b _),?_,h.inj,h.low,fun f v p=>.inl ?_,FR.drawn w _⟩
  ·rw[o];exact a.tr d x W
  ·show HR (ρ.to s.next) s _;rw[o];exact h.drawn _
  ·show f<s.next;exact akD fun hc=>p (h.fresh f v hc)
 have q:kG E.P ρ f fn .leaf (.inRegion ops (Region.linearise.go .any ops ops.size (w.tape w.drawn (.order fr.fn id)) (Array.replicate ops.size false) [])::k) ds .run up rd { fr with todo:=.inRegion ops (Region.linearise.go .any ops ops.size (w.tape w.drawn (.order fr.fn id)) (Array.replicate ops.size false) [])::k } cs :=
  ⟨a.name,a.func,TR.leaf _ _,a.size,fun _=>rfl,a.ds,a.md,a.rd,a.up⟩
 have l:jt ops (cz (Array.replicate ops.size false)):=fun i k hi=>absurd hi (b _);rcases hcase with⟨L,t',s',rfl,A,B,rfl,g⟩|⟨i0,o0,Z0,Y0,done,t1,c,s2,rfl,G,H,A,hdone,B,u,y,I,X,z,g⟩
 ·obtain⟨ρ',w',fr',J,K,M,N⟩:=QW (ih:=ih) (f:=f) (fn:=fn) (k:=k) (rd:=rd) (ds:=ds) (up:=up) (cs:=cs) (ρ0:=ρ) (w0:=w) O Q hD j A g B ops.size _ (Array.replicate ops.size false) L [] ρ { w with drawn:=w.drawn+1 } { fr with todo:=.inRegion ops (Region.linearise.go .any ops ops.size (w.tape w.drawn (.order fr.fn id)) (Array.replicate ops.size false) [])::k } (by simp) (by simp)
   (by simp[jX]) l (n L) q
  exact⟨ρ',w',fr',cs,.head hstep J,K,tL.refl a,M,N,rfl⟩
 ·obtain⟨ρ',w',fr',J,K,M,N⟩:=QX (ih:=ih) (f:=f) (fn:=fn) (k:=k) (rd:=rd) (ds:=ds) (up:=up) (cs:=cs) (ρ0:=ρ) (w0:=w) O Q hD j (fun f v p=>h.fresh f v p) G H A hdone B u y I X z g ops.size _ (Array.replicate ops.size false) (Z0++Y0) [] ρ { w with drawn:=w.drawn+1 } { fr with todo:=.inRegion ops (Region.linearise.go .any ops ops.size (w.tape w.drawn (.order fr.fn id)) (Array.replicate ops.size false) [])::k } (by simp) (by simp)
   (by simp[jX]) l (b _) (n _) q
  exact⟨ρ',w',fr',cs,.head hstep J,K,tL.refl a,M,N,rfl⟩
end
def aN.no:aN:=fun _ _=>none
def HR.empty(w:World)(n:Nat):HR aN.no ⟨.leaf,n⟩ w :=
 ⟨fun _ _ _=>rfl,fun _ _ _ _ _ _ e=>(by cases e),fun _ _ _ e=>(by cases e),fun f B hB=>by(rw[S.get_eq,T.get_leaf]at hB;cases hB),fun f B hB=>by(rw[S.get_eq,T.get_leaf]at hB;cases hB),fun f B hB=>by(rw[S.get_eq,T.get_leaf]at hB;cases hB)⟩
def BC{P:Program}{f:FuncId}{args:List V}{s:S}{v:V}{u:Option Md}{s':S}(h:gv P f args none s ⟨.returned v,u,s'⟩){ρ:aN}{w:World}{ys:List Value}(hr:HR ρ s w)(b:bd ρ args=some ys) :
 Calls P f ys.toArray w fun e w'=>∃ ρ' y,e=.returned y/\den ρ' v=some y/\HR ρ' s' w'/\FR ρ w ρ' w':=by
 intro cs;obtain⟨_,c⟩:=h ρ w ys hr b;obtain⟨ρ',w',d,g,fr',e,a,i,j,l⟩:=c cs (fun u m=>by cases m);cases e with
 |panicked _=>exact a.elim
 |outgrown=>exact a.elim
 |returned y=>exact⟨.returned y,w',fr',⟨ρ',y,rfl,a,d,g⟩,i,j,l⟩
def FR.keeps{w:World}{ρ':aN}{w':World}(h:FR aN.no w ρ' w'):∀ b,b<w.heap.size->w'.heap[b]? = w.heap[b]?:=fun b hb=>h.same b hb fun f v l e=>by cases e
def Hg{P:Program}{f:FuncId}{args:List V}{v:V}{n:Nat}{s1:S}(h:gv P f args none ⟨.leaf,n⟩ ⟨.returned v,none,s1⟩)
 (d:∀ ρ ys,bd ρ args=some ys->bd aN.no args=some ys) (g:∀ ρ y,den ρ v=some y->∀ ρ',den ρ' v=some y) (s:S):gv P f args none s ⟨.returned v,none,s⟩:=by
 intro ρ w ys hr i;obtain⟨j,m⟩:=h aN.no w ys (HR.empty w n) (d ρ ys i);refine⟨j,fun cs hup=>?_⟩;obtain⟨ρ',w',k1,a,fr',e,c,o,p,q⟩:=m cs (fun u r=>by cases r);refine⟨ρ,w',hr.frame a.size a.keeps,⟨ρ.le_refl,a.size,a.os,a.tape,a.output,fun b hb _=>a.keeps b hb,fun f v l e _=>⟨f,v,l,e,rfl,id⟩⟩,fr',e,?_,o,p,q⟩;cases e with
 |panicked _=>exact c.elim
 |outgrown=>exact c.elim
 |returned y=>exact g _ _ c _
def Sub(a s:S):Prop:=(∀ f B,a.get f=some B->s.get f=some B)/\s.next<=a.next
def HR.sub{ρ:aN}{a s:S}{w:World}(h:HR ρ s w)(b:Sub a s):HR ρ a w :=
 ⟨fun f v c=>h.fresh f v (ajd b.2 c),h.inj,h.low,fun f B hB=>h.blk f B (b.1 f B hB),fun f B hB=>aiN (h.dom f B (b.1 f B hB)) b.2,fun f B hB=>h.rw f B (b.1 f B hB)⟩
def JM{P:Program}{f:FuncId}{args:List V}{v:V}{a c s b:S}(h:gv P f args none a ⟨.returned v,none,c⟩)(d:Sub a s)(g:Sub b c):gv P f args none s ⟨.returned v,none,b⟩:=by intro ρ w ys hr i;obtain⟨j,l⟩:=h ρ w ys (hr.sub d) i;refine⟨j,fun cs hup=>?_⟩;obtain⟨ρ',w',m,n,fr',e,o,p,q,r⟩:=l cs (fun u t=>by cases t);exact⟨ρ',w',m.sub g,n,fr',e,o,p,q,r⟩
def ER(u v:nW):Bool:=Nat.beq u.v v.v&&Nat.beq u.lo v.lo&&bp u.cells v.cells
def rW:List nW->List nW->Bool
 |[],[]=>true
 |u::r,v::q=>ER u v&&rW r q
 |_,_=>false
def ET(x y:qi):Bool:=bp [x.key,x.val] [y.key,y.val]&&Nat.beq x.born y.born
def rX:List qi->List qi->Bool
 |[],[]=>true
 |u::r,v::q=>ET u v&&rX r q
 |_,_=>false
def EV:eh->eh->Bool
 |.cells e sb nv vs,.cells a sb' nv' vs'=>Nat.beq e a&&(sb==sb')&&Nat.beq nv nv'&&rW vs vs'
 |.map es c,.map es' b=>rX es es'&&Nat.beq c b
 |.gone,.gone=>true
 |_,_=>false
def QF:Option eh->Option eh->Bool
 |none,_=>true
 |some a,some b=>EV a b
 |some _,none=>false
def Qn:T eh->T eh->Bool
 |.leaf,_=>true
 |.node l v r,.node l' v' a=>QF v v'&&Qn l l'&&Qn r a
 |.node _ _ _,.leaf=>false
def Uu(a s:S):Bool:=Nat.ble s.next a.next&&Qn a.h s.h
def EQ{u v:nW}(h:ER u v=true):u=v:=by unfold ER at h;simp only[abA]at h;cases u;cases v;simp only at h;rw[abr h.1.1,abr h.1.2,cY h.2]
def ql:∀ {a b:List nW},rW a b=true->a=b
 |[],[],_=>rfl
 |[],_::_,h=>by cases h
 |_::_,[],h=>by cases h
 |u::r,v::q,h=>by simp only[rW,abA]at h;rw[EQ h.1,ql h.2]
def ES{u v:qi}(h:ET u v=true):u=v:=by unfold ET at h;simp only[abA]at h;have a:=cY h.1;have b:=abr h.2;cases u;cases v;simp only[ajV,akx]at a b;rw[a.1,a.2,b]
def qm:∀ {a b:List qi},rX a b=true->a=b
 |[],[],_=>rfl
 |[],_::_,h=>by cases h
 |_::_,[],h=>by cases h
 |u::r,v::q,h=>by simp only[rX,abA]at h;rw[ES h.1,qm h.2]
def EU:∀ {a b:eh},EV a b=true->a=b:=by
 intro a b h;unfold EV at h;split at h
 ·simp only[abA,akr]at h;rw[abr h.1.1.1,h.1.1.2,abr h.1.2,ql h.2]
 ·simp only[abA]at h;rw[qm h.1,abr h.2]
 ·rfl
 ·cases h
def tV:∀ {a b:T eh},Qn a b=true->∀ p B,a.get p=some B->b.get p=some B
 |.leaf,_,_,p,B,e=>by rw[T.get_leaf]at e;cases e
 |.node _ _ _,.leaf,h,_,_,_=>by cases h
 |.node l v r,.node l' v' r',h,p,B,e=>by
  simp only[Qn,abA]at h;cases p with
  |o =>
   rw[T.get_o]at e ⊢;subst e;cases v' with
   |none=>have:=h.1.1;cases this
   |some B'=>rw[EU (a:=B) (b:=B') h.1.1]
  |l p=>rw[T.get_l]at e ⊢;exact tV h.1.2 p B e
  |r p=>rw[T.get_r]at e ⊢;exact tV h.2 p B e
def CY{a s:S}(h:Uu a s=true):Sub a s:=by unfold Uu at h;simp only[abA]at h;exact⟨fun f B hB=>by rw[S.get_eq]at hB ⊢;exact tV h.2 _ B hB,aeb h.1⟩
end Go.AI
