/- Deep values: an evaluator over what rows hold, and that it is sound: part 2. No conditions beyond those of the row. -/
import Derived.Test.YtpghiabjaglpgaaGreatDoorD1
import Derived.Test.YtpghiabjaglpgaaGreatDoorA7
set_option linter.all false
noncomputable section
namespace Go.AI
structure Gh where
 O:List (Option (Nat×Nat))
 H:DH
 Pv:List Nat
 s:S
def Gh.Imm(g:Gh)(f:Nat):Prop:=f<g.s.next/\f∉g.Pv/\∀(o v:Nat),g.O[o]? = some (some (f,v))->∃ sz cap l,g.H[o]? = some (DB.buf sz false cap l)
def aK(vs:List V):Prop:=vs.all V.one=true
def HI(cap:Bool)(n:Nat):Option Nat:=bif cap then some n else none
def Pw(g:Gh)(sz o n:Nat)(v:V):Prop:=∃ st cap l,g.H[o]? = some (DB.buf sz st cap l)/\n<=l.length /\
 ((n=0/\(v=.nilslice\/∃ a z sz',v=.slice a z 0 (some 0) sz'))\/(0<n/\∃ f ver ver' cap',g.O[o]? = some (some (f,ver))/\v=.slice ⟨f,ver',0⟩ 0 n cap' sz/\(n=l.length->ver'=ver/\cap'=HI cap n)))
mutual
def RD(g:Gh):D->V->Prop
 |.bool b,v=>v=.bool b
 |.int k n,v=>v=.int k n
 |.str l,v=>v=.str l/\∀ c∈l,c<256
 |.ptr o c,v=>∃ f ver,g.O[o]? = some (some (f,ver))/\v=.ptr ⟨f,0,c⟩
 |.eptr cs c,v=>∃ a vs,v=.ptr (ci a c)/\g.Imm a.f/\loadCells g.s a cs.length=some vs/\RL g cs vs/\aK vs
 |.bptr o n i c,v=>∃ f ver sz st cap l ver',g.O[o]? = some (some (f,ver))/\g.H[o]? = some (DB.buf sz st cap l)/\n<=l.length/\i<n/\v=.ptr ⟨f,ver',i*sz+c⟩/\(n=l.length->ver'=ver)
 |.nilptr,v=>v=.nilptr
 |.row sz l,v=>(l=[]/\v=.nilslice)\/(l=[]/\∃ a z sz',v=.slice a z 0 (some 0) sz') \/
  ∃ a z cap,v=.slice a z l.length cap sz/\0<sz/\(cap.isSome=true\/z=a.c)/\(∀ c,cap=some c->l.length<=c)/\(l≠[]->g.Imm a.f)/\RR g a sz l
 |.buf sz o n,v=>Pw g sz o n v
 |.nilrow,v=>v=.nilslice\/∃ a z sz,v=.slice a z 0 (some 0) sz
 |.map o,v=>∃ f ver,g.O[o]? = some (some (f,ver))/\v=.map f
 |.nilmap,v=>v=.nilmap
 |.func fn a b,v=>∃ a' b',v=.func (.func fn) a' b'/\RL g a a'/\RL g b b'
 |.nilFunc,v=>v=.nilFunc
 |.iface t d,v=>∃ v',v=.iface t v'/\RD g d v'
 |.nilIface,v=>v=.nilIface
 |.yld o,v=>∃ f ver,g.O[o]? = some (some (f,ver))/\v=.func (.yield f) [] []
 |.abool,v=>∃ q,v=.bool q
 |.agg cs,v=>∃ vs,v=.agg vs/\RL g cs vs/\aK vs
 |.tuple ds,v=>∃ vs,v=.tuple vs/\RL g ds vs
def RL(g:Gh):List D->List V->Prop
 |[],vs=>vs=[]
 |d::r,vs=>∃ v vs',vs=v::vs'/\RD g d v/\RL g r vs'
def RR(g:Gh)(a:Ad)(sz:Nat):List (List D)->Prop
 |[]=>True
 |cs::r=>(∃ vs,cs.length=sz/\loadCells g.s a sz=some vs/\RL g cs vs/\aK vs)/\RR g (ci a sz) sz r
end
theorem yQ(a:Ad)(m n:Nat):ci (ci a m) n=ci a (m+n):=by simp only[ci,Nat.add_assoc]
theorem Pn(a:Ad)(m:Nat):(ci a m).f=a.f:=rfl
structure ot(g g':Gh):Prop where
 hl:g.H.length<=g'.H.length
 o1:∀(o f v:Nat),g.O[o]? = some (some (f,v))->∃ v',g'.O[o]? = some (some (f,v'))
 buf:∀(o:Nat) sz st cap l,g.H[o]? = some (DB.buf sz st cap l)->∃ st' cap' l',g'.H[o]? = some (DB.buf sz st' cap' l')/\l.length<=l'.length/\(st=false->st'=false)/\(l.length=l'.length->cap'=cap/\g'.O[o]? = g.O[o]?)
 imm:∀ f,g.Imm f->g'.Imm f
 cells:∀ a n vs,g.Imm a.f->loadCells g.s a n=some vs->loadCells g'.s a n=some vs
 next:g.s.next<=g'.s.next
theorem ot.refl(g:Gh):ot g g:=⟨Nat.le_refl _,fun _ _ v h=>⟨v,h⟩,fun _ _ st cap l h=>⟨st,cap,l,h,Nat.le_refl _,id,fun _=>⟨rfl,rfl⟩⟩,fun _ h=>h,fun _ _ _ _ h=>h,Nat.le_refl _⟩
theorem ot.trans{a b c:Gh}(h:ot a b)(k:ot b c):ot a c:=by
 refine⟨Nat.le_trans h.hl k.hl,fun o f v ho=>?_,fun o sz st cap l ho=>?_,fun f hf=>k.imm f (h.imm f hf),fun x n vs hi hx=>k.cells x n vs (h.imm _ hi) (h.cells x n vs hi hx),Nat.le_trans h.next k.next⟩
 ·obtain⟨v',h1⟩:=h.o1 o f v ho;exact k.o1 o f v' h1
 ·obtain⟨st',cap',l',h1,h2,h3,h4⟩:=h.buf o sz st cap l ho
  obtain⟨st2,cap2,l2,k1,k2,k3,k4⟩:=k.buf o sz st' cap' l' h1
  refine⟨st2,cap2,l2,k1,Nat.le_trans h2 k2,fun e=>k3 (h3 e),fun e=>?_⟩
  have e1:l.length=l'.length:=by omega
  have e2:l'.length=l2.length:=by omega
  exact⟨(k4 e2).1.trans (h4 e1).1,(k4 e2).2.trans (h4 e1).2⟩
theorem Pw.mono{g g':Gh}(h:ot g g'){sz o n:Nat}{v:V}(r:Pw g sz o n v):Pw g' sz o n v:=by
 obtain⟨st,cap,l,h1,h2,h3⟩:=r
 obtain⟨st',cap',l',k1,k2,k3,k4⟩:=h.buf o sz st cap l h1
 refine⟨st',cap',l',k1,Nat.le_trans h2 k2,?_⟩
 rcases h3 with h3|⟨h3,f,ver,ver',c,h4,h5,h6⟩
 ·exact .inl h3
 ·obtain⟨v2,h7⟩:=h.o1 o f ver h4
  refine .inr ⟨h3,f,v2,ver',c,h7,h5,fun e=>?_⟩
  obtain⟨j1,j2⟩:=k4 (by omega)
  rw[j2,h4]at h7
  cases h7
  rw[j1]
  exact h6 (by omega)
mutual
theorem RD.mono{g g':Gh}(h:ot g g'):∀ {d:D} {v:V},RD g d v->RD g' d v
 |.bool _,_,r=>by simpa only[RD]using r
 |.int ..,_,r=>by simpa only[RD]using r
 |.str _,_,r=>by simpa only[RD]using r
 |.ptr o c,v,r=>by
  simp only[RD]at r ⊢
  obtain⟨f,ver,h1,h2⟩:=r
  obtain⟨v',h3⟩:=h.o1 o f ver h1
  exact⟨f,v',h3,h2⟩
 |.eptr cs c,v,r=>by
  simp only[RD]at r ⊢
  obtain⟨a,vs,h1,h2,h3,h4,h5⟩:=r
  exact⟨a,vs,h1,h.imm _ h2,h.cells _ _ _ h2 h3,RL.mono h h4,h5⟩
 |.bptr o n i c,v,r=>by
  simp only[RD]at r ⊢
  obtain⟨f,ver,sz,st,cap,l,ver',h1,h2,h3,h4,h5,h6⟩:=r
  obtain⟨st',cap',l',k1,k2,k3,k4⟩:=h.buf o sz st cap l h2
  obtain⟨v2,h7⟩:=h.o1 o f ver h1
  refine⟨f,v2,sz,st',cap',l',ver',h7,k1,by omega,h4,h5,fun e=>?_⟩
  obtain⟨_,j2⟩:=k4 (by omega)
  rw[j2,h1]at h7
  cases h7
  exact h6 (by omega)
 |.nilptr,_,r=>by simpa only[RD]using r
 |.row sz l,v,r=>by
  simp only[RD]at r ⊢
  rcases r with r|r|⟨a,z,cap,h1,h2,h3,h4,h5,h6⟩
  ·exact .inl r
  ·exact .inr (.inl r)
  ·refine .inr (.inr ⟨a,z,cap,h1,h2,h3,h4,fun e=>h.imm _ (h5 e),?_⟩)
   cases hl:l with
   |nil=>simp only[RR]
   |cons x y=>rw[<- hl];exact RR.mono h (h5 (by rw[hl];simp)) h6
 |.buf sz o n,v,r=>by
  simp only[RD]at r ⊢
  exact r.mono h
 |.nilrow,_,r=>by simpa only[RD]using r
 |.map o,v,r=>by
  simp only[RD]at r ⊢
  obtain⟨f,ver,h1,h2⟩:=r
  obtain⟨v',h3⟩:=h.o1 o f ver h1
  exact⟨f,v',h3,h2⟩
 |.nilmap,_,r=>by simpa only[RD]using r
 |.func fn a b,v,r=>by
  simp only[RD]at r ⊢
  obtain⟨a',b',h1,h2,h3⟩:=r
  exact⟨a',b',h1,RL.mono h h2,RL.mono h h3⟩
 |.nilFunc,_,r=>by simpa only[RD]using r
 |.iface t d,v,r=>by
  simp only[RD]at r ⊢
  obtain⟨v',h1,h2⟩:=r
  exact⟨v',h1,RD.mono h h2⟩
 |.nilIface,_,r=>by simpa only[RD]using r
 |.yld o,v,r=>by
  simp only[RD]at r ⊢
  obtain⟨f,ver,h1,h2⟩:=r
  obtain⟨v',h3⟩:=h.o1 o f ver h1
  exact⟨f,v',h3,h2⟩
 |.abool,_,r=>by simpa only[RD]using r
 |.agg cs,v,r=>by
  simp only[RD]at r ⊢
  obtain⟨vs,h1,h2,h3⟩:=r
  exact⟨vs,h1,RL.mono h h2,h3⟩
 |.tuple ds,v,r=>by
  simp only[RD]at r ⊢
  obtain⟨vs,h1,h2⟩:=r
  exact⟨vs,h1,RL.mono h h2⟩
theorem RL.mono{g g':Gh}(h:ot g g'):∀ {ds:List D} {vs:List V},RL g ds vs->RL g' ds vs
 |[],_,r=>by simpa only[RL]using r
 |d::l,vs,r=>by
  simp only[RL]at r ⊢
  obtain⟨v,vs',h1,h2,h3⟩:=r
  exact⟨v,vs',h1,RD.mono h h2,RL.mono h h3⟩
theorem RR.mono{g g':Gh}(h:ot g g'):∀ {l:List (List D)} {a:Ad} {sz:Nat},g.Imm a.f->RR g a sz l->RR g' a sz l
 |[],_,_,_,_=>by simp only[RR]
 |cs::l,a,sz,hi,r=>by
  simp only[RR]at r ⊢
  obtain⟨⟨vs,h1,h2,h3,h4⟩,h5⟩:=r
  exact⟨⟨vs,h1,h.cells _ _ _ hi h2,RL.mono h h3,h4⟩,RR.mono h (by rw[Pn];exact hi) h5⟩
end
theorem RL.len{g:Gh}:∀ {ds:List D} {vs:List V},RL g ds vs->vs.length=ds.length
 |[],_,r=>by simp only[RL]at r;rw[r];rfl
 |d::l,_,r=>by
  simp only[RL]at r
  obtain⟨v,vs',rfl,_,h3⟩:=r
  simp only[List.length_cons,RL.len h3]
theorem RL.at{g:Gh}:∀ {ds:List D} {vs:List V} {i:Nat} {d:D},RL g ds vs->ds[i]? = some d->∃ v,vs[i]? = some v/\RD g d v
 |[],_,i,d,r,h=>by simp at h
 |x::l,_,i,d,r,h=>by
  simp only[RL]at r
  obtain⟨v,vs',rfl,h2,h3⟩:=r
  cases i with
  |zero=>simp at h;subst h;exact⟨v,rfl,h2⟩
  |succ i=>simpa using RL.at h3 (by simpa using h)
theorem RL.append{g:Gh}:∀ {a:List D} {x:List V} {b:List D} {y:List V},RL g a x->RL g b y->RL g (a++b) (x++y)
 |[],_,b,y,h,k=>by simp only[RL]at h;subst h;exact k
 |d::l,_,b,y,h,k=>by
  simp only[RL]at h
  obtain⟨v,vs',rfl,h2,h3⟩:=h
  simp only[List.cons_append,RL]
  exact⟨v,vs'++y,rfl,h2,RL.append h3 k⟩
theorem RL.drop{g:Gh}:∀ {a:List D} {x:List V} (n:Nat),RL g a x->RL g (a.drop n) (x.drop n)
 |a,x,0,h=>h
 |[],_,n+1,h=>by simp only[RL]at h;subst h;simp[RL]
 |d::l,_,n+1,h=>by
  simp only[RL]at h
  obtain⟨v,vs',rfl,_,h3⟩:=h
  simpa using RL.drop n h3
theorem RL.take{g:Gh}:∀ {a:List D} {x:List V} (n:Nat),RL g a x->RL g (a.take n) (x.take n)
 |a,x,0,h=>by simp[RL]
 |[],_,n+1,h=>by simp only[RL]at h;subst h;simp[RL]
 |d::l,_,n+1,h=>by
  simp only[RL]at h
  obtain⟨v,vs',rfl,h2,h3⟩:=h
  simp only[List.take_succ_cons,RL]
  exact⟨v,_,rfl,h2,RL.take n h3⟩
theorem RL.set{g:Gh}:∀ {a:List D} {x:List V} (i:Nat) {d:D} {v:V},RL g a x->RD g d v->RL g (a.set i d) (x.set i v)
 |[],_,i,d,v,h,k=>by simp only[RL]at h;subst h;simp[RL]
 |y::l,_,0,d,v,h,k=>by
  simp only[RL]at h
  obtain⟨w,vs',rfl,h2,h3⟩:=h
  simp only[List.set_cons_zero,RL]
  exact⟨v,vs',rfl,k,h3⟩
 |y::l,_,i+1,d,v,h,k=>by
  simp only[RL]at h
  obtain⟨w,vs',rfl,h2,h3⟩:=h
  simp only[List.set_cons_succ,RL]
  exact⟨w,_,rfl,h2,RL.set i h3 k⟩
theorem RR.at{g:Gh}:∀ {l:List (List D)} {a:Ad} {sz i:Nat} {cs:List D},RR g a sz l->l[i]? = some cs->∃ vs,cs.length=sz/\loadCells g.s (ci a (i*sz)) sz=some vs/\RL g cs vs/\aK vs
 |[],_,_,_,_,_,h=>by simp at h
 |x::l,a,sz,i,cs,r,h=>by
  simp only[RR]at r
  cases i with
  |zero=>simp at h;subst h;rw[Nat.zero_mul];exact r.1
  |succ i =>
   have:=RR.at r.2 (i:=i) (by simpa using h)
   rw[yQ,show sz+i*sz=(i+1)*sz by rw[Nat.add_mul,Nat.one_mul,Nat.add_comm]]at this
   exact this
theorem RR.of{g:Gh}:∀ {l:List (List D)} {a:Ad} {sz:Nat},(∀ i cs,l[i]? = some cs->∃ vs,cs.length=sz/\loadCells g.s (ci a (i*sz)) sz=some vs/\RL g cs vs/\aK vs)->RR g a sz l
 |[],_,_,_=>by simp only[RR]
 |x::l,a,sz,h=>by
  simp only[RR]
  refine⟨?_,RR.of fun i cs hx=>?_⟩
  ·have:=h 0 x rfl;rw[Nat.zero_mul]at this;exact this
  ·rw[yQ,show sz+i*sz=(i+1)*sz by rw[Nat.add_mul,Nat.one_mul,Nat.add_comm]]
   exact h (i+1) cs (by simpa using hx)
def RS(g:Gh)(LO:List Nat):LD->V->Prop
 |.g d,v=>RD g d v
 |.lp k c,v=>∃ f,LO[k]? = some f/\v=.ptr ⟨f,0,c⟩
 |.u,v=>v=V.undef
theorem RS.mono{g g':Gh}(h:ot g g'){LO:List Nat}{x:LD}{v:V}(r:RS g LO x v):RS g' LO x v:=by
 cases x with
 |g d=>exact RD.mono h r
 |lp k c=>exact r
 |u=>exact r
theorem RS.ext{g:Gh}{LO LO':List Nat}(h:LO <+: LO'){x:LD}{v:V}(r:RS g LO x v):RS g LO' x v:=by
 cases x with
 |g d=>exact r
 |lp k c =>
  obtain⟨f,h1,h2⟩:=r
  obtain⟨m,rfl⟩:=h
  refine⟨f,?_,h2⟩
  rw[List.getElem?_append_left]
  ·exact h1
  ·rcases Nat.lt_or_ge k LO.length with q|q
   ·exact q
   ·rw[List.getElem?_eq_none q]at h1;cases h1
 |u=>exact r
def zN(g:Gh)(LO:List Nat)(t:T LD)(tv:T V):Prop:=∀ i x,t.get (et i)=some x->∃ v,tv.get (et i)=some v/\RS g LO x v
theorem zN.mono{g g':Gh}(h:ot g g'){LO LO':List Nat}(hl:LO <+: LO'){t:T LD}{tv:T V}(r:zN g LO t tv):zN g' LO' t tv:=fun i x hx=>by
 obtain⟨v,h1,h2⟩:=r i x hx
 exact⟨v,h1,(h2.mono h).ext hl⟩
def PvR(g:Gh)(x:Nat×List D)(f:Nat):Prop:=f∈g.Pv/\(x.2=[]\/∃ el vs,g.s.get f=some (.cells el false 1 [⟨0,0,vs⟩])/\RL g x.2 vs/\aK vs)
def VF(g:Gh)(L:LS)(LO:List Nat):Prop:=∀(k:Nat) x f,L[k]? = some x->LO[k]? = some f->PvR g x f
def LR(g:Gh)(L:LS)(LO:List Nat):Prop:=L.length=LO.length/\VF g L LO
def pM(g:Gh):List (D×D)->List oz->Prop
 |[],es=>es=[]
 |(k,v)::r,es=>∃ e es',es=e::es'/\RD g k e.key/\RD g v e.val/\e.key.one=true/\pM g r es'
theorem pM.mono{g g':Gh}(h:ot g g'):∀ {l:List (D×D)} {es:List oz},pM g l es->pM g' l es
 |[],_,r=>r
 |(k,v)::l,_,r=>by
  obtain⟨e,es',h1,h2,h3,h4,h5⟩:=r
  exact⟨e,es',h1,RD.mono h h2,RD.mono h h3,h4,pM.mono h h5⟩
def lQ(g:Gh)(o:Nat):DB->Prop
 |.dead=>False
 |.opq=>∃ f v,g.O[o]? = some (some (f,v))
 |.coll=>∃ f,g.O[o]? = some (some (f,0))/\g.s.get f=some .deferred
 |.loop rdy fn nt t ps a b=>∃ f tv d,g.O[o]? = some (some (f,0))/\g.s.get f=some (.loop (bif rdy then .ready else .busy) none fn tv ps a b d nt)/\zN g [] t tv
 |.cells _ cs=>∃ f el vs,g.O[o]? = some (some (f,0))/\g.s.get f=some (.cells el false 1 [⟨0,0,vs⟩])/\RL g cs vs/\aK vs
 |.map es=>∃ f ents clock,g.O[o]? = some (some (f,0))/\g.s.get f=some (.map ents clock)/\pM g es ents
 |.buf sz _ _ l=>0<sz/\((l=[]/\g.O[o]? = some none)\/(l≠[]/\∃ f ver el nv vers cells,g.O[o]? = some (some (f,ver))/\g.s.get f=some (.cells el false nv vers) /\
  bA vers ver=some ⟨ver,0,cells⟩/\cells.length=l.length*sz/\(∀ u∈vers,u.v<nv/\u.lo+u.cells.length<=cells.length)/\RR g ⟨f,ver,0⟩ sz l))
class fc where
 I:S->Prop
 bl:List Nat
 stb:∀ s s':S,(∀ f∈bl,s'.get f=s.get f)->I s->I s'
variable[fc]
structure Gl(g:Gh):Prop where
 i:fc.I g.s
 b:∀ f∈fc.bl,f<g.s.next/\f∉g.Pv/\∀(o v:Nat),g.O[o]?≠some (some (f,v))
theorem Gl.to{g g':Gh}(h:Gl g)(k:∀ f,f<g.s.next->f∉g.Pv->(∀(o v:Nat),g.O[o]?≠some (some (f,v)))->g'.s.get f=g.s.get f/\f<g'.s.next/\f∉g'.Pv/\∀(o v:Nat),g'.O[o]?≠some (some (f,v))):Gl g' :=
 ⟨fc.stb _ _ (fun f hf=>(k f (h.b f hf).1 (h.b f hf).2.1 (h.b f hf).2.2).1) h.i,fun f hf=>(k f (h.b f hf).1 (h.b f hf).2.1 (h.b f hf).2.2).2⟩
structure Ok(g:Gh):Prop where
 len:g.O.length=g.H.length
 wf:WF g.s
 inj:∀(o o' f v v':Nat),g.O[o]? = some (some (f,v))->g.O[o']? = some (some (f,v'))->o=o'
 lt:∀(o f v:Nat),g.O[o]? = some (some (f,v))->f<g.s.next/\f∉g.Pv
 pv:∀ f∈g.Pv,f<g.s.next
 obj:∀(o:Nat) b,g.H[o]? = some b->lQ g o b
 gl:Gl g
structure Mv(b:Nat)(g g':Gh):Prop where
 le:ot g g'
 out:∀ f,f<b->(∀(o v:Nat),g.O[o]?≠some (some (f,v)))->g'.s.get f=g.s.get f
 fresh:∀(o f v:Nat),g'.O[o]? = some (some (f,v))->f<b->∃ v',g.O[o]? = some (some (f,v'))
 stm:∀(o:Nat) s1 c1 f v,g.H[o]? = some (.cells s1 c1)->g.O[o]? = some (some (f,v))->∃ s2 c2,g'.H[o]? = some (.cells s2 c2)/\s1<=s2/\(s1=s2->c2=c1/\g'.s.get f=g.s.get f)
theorem Mv.refl(b:Nat)(g:Gh):Mv b g g:=⟨.refl g,fun _ _ _=>rfl,fun _ _ v h _=>⟨v,h⟩,fun _ s1 c1 _ _ h _=>⟨s1,c1,h,Nat.le_refl _,fun _=>⟨rfl,rfl⟩⟩⟩
theorem Mv.trans{b:Nat}{x y z:Gh}(h:Mv b x y)(k:Mv b y z):Mv b x z:=by
 refine⟨h.le.trans k.le,fun f hf hn=>?_,fun o f v ho hf=>?_,fun o s1 c1 f v h1 h2=>?_⟩
 ·rw[k.out f hf fun o v e=>?_,h.out f hf hn]
  obtain⟨v',h1⟩:=h.fresh o f v e hf
  exact hn o v' h1
 ·obtain⟨v',h1⟩:=k.fresh o f v ho hf
  exact h.fresh o f v' h1 hf
 ·obtain⟨s2,c2,k1,k2,k3⟩:=h.stm o s1 c1 f v h1 h2
  obtain⟨v',k4⟩:=h.le.o1 o f v h2
  obtain⟨s3,c3,j1,j2,j3⟩:=k.stm o s2 c2 f v' k1 k4
  refine⟨s3,c3,j1,Nat.le_trans k2 j2,fun e=>?_⟩
  obtain⟨i1,i2⟩:=k3 (by omega)
  obtain⟨i3,i4⟩:=j3 (by omega)
  exact⟨i3.trans i1,i4.trans i2⟩
theorem Mv.down{b c:Nat}{g g':Gh}(h:Mv b g g')(hc:c<=b):Mv c g g':=⟨h.le,fun f hf=>h.out f (Nat.lt_of_lt_of_le hf hc),fun o f v ho hf=>h.fresh o f v ho (Nat.lt_of_lt_of_le hf hc),h.stm⟩
structure FI(b:Nat)(P0:List Nat)(g:Gh)(t:T LD)(L:LS)(tv:T V)(LO:List Nat):Prop where
 ok:Ok g
 slots:zN g LO t tv
 own:LR g L LO
 pv:g.Pv=P0++LO
 low:∀ f∈LO,b<=f
 nd:LO.Nodup
 bl:b<=g.s.next
end Go.AI
namespace Go.AI
variable[fc]
theorem cL{s s':S}{a:Ad}(h:s'.get a.f=s.get a.f)(n:Nat):loadCells s' a n=loadCells s a n:=by
 unfold loadCells;rw[h]
theorem RR.keep{g g':Gh}(h:ot g g'):∀ {l:List (List D)} {a:Ad} {sz:Nat},g'.s.get a.f=g.s.get a.f->RR g a sz l->RR g' a sz l
 |[],_,_,_,_=>by simp only[RR]
 |cs::l,a,sz,hi,r=>by
  simp only[RR]at r ⊢
  obtain⟨⟨vs,h1,h2,h3,h4⟩,h5⟩:=r
  exact⟨⟨vs,h1,by rw[cL hi];exact h2,RL.mono h h3,h4⟩,RR.keep h (by rw[Pn];exact hi) h5⟩
theorem lQ.keep{g g':Gh}(h:ot g g'){o:Nat}{b:DB}(hO:g'.O[o]? = g.O[o]?)(hs:∀ f v,g.O[o]? = some (some (f,v))->g'.s.get f=g.s.get f)(r:lQ g o b):lQ g' o b:=by
 cases b with
 |dead=>exact r
 |opq=>obtain⟨f,v,h1⟩:=r;exact⟨f,v,by rw[hO];exact h1⟩
 |coll=>obtain⟨f,h1,h2⟩:=r;exact⟨f,by rw[hO];exact h1,by rw[hs f 0 h1];exact h2⟩
 |loop _ _ _ _ _ _ _=>obtain⟨f,tv,d,h1,h2,h3⟩:=r;exact⟨f,tv,d,by rw[hO];exact h1,by rw[hs f 0 h1];exact h2,h3.mono h List.prefix_rfl⟩
 |cells st cs =>
  obtain⟨f,el,vs,h1,h2,h3,h4⟩:=r
  exact⟨f,el,vs,by rw[hO];exact h1,by rw[hs f 0 h1];exact h2,h3.mono h,h4⟩
 |map es =>
  obtain⟨f,ents,c,h1,h2,h3⟩:=r
  exact⟨f,ents,c,by rw[hO];exact h1,by rw[hs f 0 h1];exact h2,h3.mono h⟩
 |buf sz st cap l =>
  obtain⟨h0,h1|⟨h1,f,ver,el,nv,vers,cells,h2,h3,h4,h5,h6,h7⟩⟩:=r
  ·exact⟨h0,.inl ⟨h1.1,by rw[hO];exact h1.2⟩⟩
  ·exact⟨h0,.inr ⟨h1,f,ver,el,nv,vers,cells,by rw[hO];exact h2,by rw[hs f ver h2];exact h3,h4,h5,h6,h7.keep h (hs f ver h2)⟩⟩
theorem LR.keep{g g':Gh}(h:ot g g'){L:LS}{LO:List Nat}(hp:∀ f∈LO,f∈g'.Pv)(hs:∀ f∈LO,g'.s.get f=g.s.get f)(r:LR g L LO):LR g' L LO:=by
 refine⟨r.1,fun k x f hx hf=>?_⟩
 have hm:=List.mem_of_getElem? hf
 obtain⟨h1,h2⟩:=r.2 k x f hx hf
 refine⟨hp f hm,?_⟩
 rcases h2 with h2|⟨el,vs,h2,h3,h4⟩
 ·exact .inl h2
 ·exact .inr ⟨el,vs,by rw[hs f hm];exact h2,h3.mono h,h4⟩
theorem aH{s:S}{B:dB}{f:Nat}(h:f<s.next):(s.alloc B).get f=s.get f:=by rw[S.get_alloc,if_neg (by omega)]
theorem rx{s:S}{B:dB}{f:Nat}(h:f<s.next):f<(s.alloc B).next:=by rw[S.next_alloc];omega
theorem pO{s:S}(hw:WF s)(B:dB):WF (s.alloc B):=(Fw.alloc [] hw B).wf hw
theorem LL{s:S}(hw:WF s){f:Nat}{B0:dB}(h0:s.get f=some B0)(B:dB):WF (s.put f B):=fun g C hg=>by
 rw[S.get_put]at hg
 rw[S.next_put]
 split at hg
 ·rename_i e;subst e;exact hw _ _ h0
 ·exact hw g C hg
theorem fU{α:Type}(l:List α)(x:α):(l++[x])[l.length]? = some x:=by simp
theorem eG{α:Type}{l:List α}{i:Nat}{x:α}(m:List α)(h:l[i]? = some x):(l++m)[i]? = some x:=by
 rw[List.getElem?_append_left]
 ·exact h
 ·rcases Nat.lt_or_ge i l.length with q|q
  ·exact q
  ·rw[List.getElem?_eq_none q]at h;cases h
theorem bc{α:Type}{l:List α}{i:Nat}{x y:α}(h:(l++[y])[i]? = some x):l[i]? = some x\/(i=l.length/\x=y):=by
 rcases Nat.lt_trichotomy i l.length with q|q|q
 ·rw[List.getElem?_append_left q]at h;exact .inl h
 ·subst q;rw[fU]at h;cases h;exact .inr ⟨rfl,rfl⟩
 ·rw[List.getElem?_eq_none (by simp;omega)]at h;cases h
section
variable{b:Nat}{P0:List Nat}{g:Gh}{t:T LD}{L:LS}{tv:T V}{LO:List Nat}
def Gh.blk(g:Gh)(B:dB):Gh:=⟨g.O,g.H,g.Pv,g.s.alloc B⟩
theorem QY(B:dB){f:Nat}(h:g.Imm f):(g.blk B).Imm f:=⟨by show f<(g.s.alloc B).next;rw[S.next_alloc];have:=h.1;omega,h.2.1,h.2.2⟩
theorem He(B:dB):ot g (g.blk B):=by
 refine⟨Nat.le_refl _,fun _ _ v h=>⟨v,h⟩,fun _ _ st cap l h=>⟨st,cap,l,h,Nat.le_refl _,id,fun _=>⟨rfl,rfl⟩⟩,fun f h=>QY B h,fun a n vs hi hx=>?_,by show _<=(g.s.alloc B).next;rw[S.next_alloc];omega⟩
 rw[<- hx];exact cL (aH hi.1) n
theorem Ok.blk(h:Ok g)(B:dB):Ok (g.blk B):=by
 refine⟨h.len,pO h.wf B,h.inj,fun o f v ho=>⟨?_,(h.lt o f v ho).2⟩,fun f hf=>?_,fun o b hb=>(h.obj o b hb).keep (He B) rfl fun f v ho=>aH (h.lt o f v ho).1,h.gl.to fun f hf hp ho=>⟨aH hf,rx hf,hp,ho⟩⟩
 ·have:=(h.lt o f v ho).1;show f<(g.s.alloc B).next;rw[S.next_alloc];omega
 ·have:=h.pv f hf;show f<(g.s.alloc B).next;rw[S.next_alloc];omega
theorem GV(h:Ok g)(hb:b<=g.s.next)(B:dB):Mv b g (g.blk B):=⟨He B,fun f hf _=>aH (Nat.lt_of_lt_of_le hf hb),fun _ _ v h _=>⟨v,h⟩,fun o s1 c1 f v h1 h2=>⟨s1,c1,h1,Nat.le_refl _,fun _=>⟨rfl,aH (h.lt o f v h2).1⟩⟩⟩
theorem FI.to(h:FI b P0 g t L tv LO){g':Gh}(hok:Ok g')(hm:Mv b g g')(hp:g'.Pv=g.Pv)(hs:∀ f∈LO,g'.s.get f=g.s.get f):FI b P0 g' t L tv LO :=
 ⟨hok,h.slots.mono hm.le List.prefix_rfl,h.own.keep hm.le (fun f hf=>by rw[hp,h.pv];exact List.mem_append_right _ hf) hs,by rw[hp];exact h.pv,h.low,h.nd,Nat.le_trans h.bl hm.le.next⟩
theorem FI.lo_lt(h:FI b P0 g t L tv LO){f:Nat}(hf:f∈LO):f<g.s.next:=h.ok.pv f (by rw[h.pv];exact List.mem_append_right _ hf)
theorem FI.lo_out(h:FI b P0 g t L tv LO){f:Nat}(hf:f∈LO)(o v:Nat):g.O[o]?≠some (some (f,v)):=fun e=>(h.ok.lt o f v e).2 (by rw[h.pv];exact List.mem_append_right _ hf)
theorem FI.blk(h:FI b P0 g t L tv LO)(B:dB):FI b P0 (g.blk B) t L tv LO:=h.to (h.ok.blk B) (GV h.ok h.bl B) rfl fun _ hf=>aH (h.lo_lt hf)
def Gh.obj(g:Gh)(x:DB)(B:dB):Gh:=⟨g.O++[some (g.s.next,0)],g.H++[x],g.Pv,g.s.alloc B⟩
theorem QX(hl:g.O.length=g.H.length)(x:DB)(B:dB){f:Nat}(h:g.Imm f):(g.obj x B).Imm f:=by
 refine⟨by show f<(g.s.alloc B).next;rw[S.next_alloc];have:=h.1;omega,h.2.1,fun o v ho=>?_⟩
 rcases bc ho with ho|⟨_,e⟩
 ·obtain⟨sz,cap,l,h1⟩:=h.2.2 o v ho
  exact⟨sz,cap,l,eG _ h1⟩
 ·simp only[Option.some.injEq,Prod.mk.injEq]at e
  have:=h.1;omega
theorem wP(hl:g.O.length=g.H.length)(x:DB)(B:dB):ot g (g.obj x B):=by
 refine⟨by simp[Gh.obj],fun _ _ v h=>⟨v,eG _ h⟩,fun o _ st cap l h=>⟨st,cap,l,eG _ h,Nat.le_refl _,id,fun _=>⟨rfl,?_⟩⟩,fun f h=>QX hl x B h,fun a n vs hi hx=>?_,by show _<=(g.s.alloc B).next;rw[S.next_alloc];omega⟩
 ·have:o<g.H.length:=by
   rcases Nat.lt_or_ge o g.H.length with q|q
   ·exact q
   ·rw[List.getElem?_eq_none q]at h;cases h
  show(g.O++_)[o]? = _
  rw[List.getElem?_append_left (by omega)]
 ·rw[<- hx];exact cL (aH hi.1) n
theorem Ok.mkobj(h:Ok g){x:DB}{B:dB}(hx:lQ (g.obj x B) g.H.length x):Ok (g.obj x B):=by
 refine⟨by simp[Gh.obj,h.len],pO h.wf B,fun o o' f v v' h1 h2=>?_,fun o f v ho=>?_,fun f hf=>?_,fun o c hc=>?_,h.gl.to fun f hf hp ho=>⟨aH hf,rx hf,hp,fun o v k=>?_⟩⟩
 ·rcases bc h1 with h1|⟨e1,e2⟩<;>rcases bc h2 with h2|⟨e3,e4⟩
  ·exact h.inj o o' f v v' h1 h2
  ·cases e4;have:=(h.lt o _ v h1).1;omega
  ·cases e2;have:=(h.lt o' _ v' h2).1;omega
  ·omega
 ·rcases bc ho with ho|⟨_,e⟩
  ·exact⟨by have:=(h.lt o f v ho).1;show f<(g.s.alloc B).next;rw[S.next_alloc];omega,(h.lt o f v ho).2⟩
  ·cases e
   exact⟨by show g.s.next<(g.s.alloc B).next;rw[S.next_alloc];omega,fun hp=>by have:=h.pv _ hp;omega⟩
 ·have:=h.pv f hf;show f<(g.s.alloc B).next;rw[S.next_alloc];omega
 ·rcases bc hc with hc|⟨e1,e2⟩
  ·have hlt:o<g.O.length:=by
    rw[h.len]
    rcases Nat.lt_or_ge o g.H.length with q|q
    ·exact q
    ·rw[List.getElem?_eq_none q]at hc;cases hc
   exact(h.obj o c hc).keep (wP h.len x B) (by show(g.O++_)[o]? = _;rw[List.getElem?_append_left hlt]) fun f v ho=>aH (h.lt o f v ho).1
  ·subst e1;subst e2;exact hx
 ·rcases bc k with k|⟨_,e⟩
  ·exact ho o v k
  ·cases e;omega
theorem pm(h:Ok g)(hb:b<=g.s.next)(x:DB)(B:dB):Mv b g (g.obj x B):=by
 refine⟨wP h.len x B,fun f hf _=>aH (Nat.lt_of_lt_of_le hf hb),fun o f v ho hf=>?_,fun o s1 c1 f v h1 h2=>⟨s1,c1,eG _ h1,Nat.le_refl _,fun _=>⟨rfl,aH (h.lt o f v h2).1⟩⟩⟩
 rcases bc ho with ho|⟨_,e⟩
 ·exact⟨v,ho⟩
 ·cases e;omega
theorem FI.mkobj(h:FI b P0 g t L tv LO){x:DB}{B:dB}(hx:lQ (g.obj x B) g.H.length x):FI b P0 (g.obj x B) t L tv LO :=
 h.to (h.ok.mkobj hx) (pm h.ok h.bl x B) rfl fun _ hf=>aH (h.lo_lt hf)
theorem mD(h:Ok g)(x:DB)(B:dB):(g.obj x B).O[g.H.length]? = some (some (g.s.next,0)):=by
 show(g.O++_)[_]? = _;rw[<- h.len];exact fU _ _
theorem qt(x:DB)(B:dB):(g.obj x B).s.get g.s.next=some B:=fV _ _
def Gh.prv(g:Gh)(B:dB):Gh:=⟨g.O,g.H,g.Pv++[g.s.next],g.s.alloc B⟩
theorem Hd(B:dB):ot g (g.prv B):=by
 refine⟨Nat.le_refl _,fun _ _ v h=>⟨v,h⟩,fun _ _ st cap l h=>⟨st,cap,l,h,Nat.le_refl _,id,fun _=>⟨rfl,rfl⟩⟩,fun f h=>⟨?_,fun hm=>?_,h.2.2⟩,fun a n vs hi hx=>?_,by show _<=(g.s.alloc B).next;rw[S.next_alloc];omega⟩
 ·show f<(g.s.alloc B).next;rw[S.next_alloc];have:=h.1;omega
 ·rcases List.mem_append.1 hm with hm|hm
  ·exact h.2.1 hm
  ·simp at hm;have:=h.1;omega
 ·rw[<- hx];exact cL (aH hi.1) n
theorem Ok.prv(h:Ok g)(B:dB):Ok (g.prv B):=by
 refine⟨h.len,pO h.wf B,h.inj,fun o f v ho=>⟨?_,fun hm=>?_⟩,fun f hf=>?_,fun o b hb=>(h.obj o b hb).keep (Hd B) rfl fun f v ho=>aH (h.lt o f v ho).1,h.gl.to fun f hf hp ho=>⟨aH hf,rx hf,fun hm=>?_,ho⟩⟩
 ·have:=(h.lt o f v ho).1;show f<(g.s.alloc B).next;rw[S.next_alloc];omega
 ·rcases List.mem_append.1 hm with hm|hm
  ·exact(h.lt o f v ho).2 hm
  ·simp at hm;have:=(h.lt o f v ho).1;omega
 ·show f<(g.s.alloc B).next
  rw[S.next_alloc]
  rcases List.mem_append.1 hf with hf|hf
  ·have:=h.pv f hf;omega
  ·simp at hf;omega
 ·rcases List.mem_append.1 hm with hm|hm
  ·exact hp hm
  ·simp at hm;omega
theorem TU(h:Ok g)(hb:b<=g.s.next)(B:dB):Mv b g (g.prv B):=⟨Hd B,fun f hf _=>aH (Nat.lt_of_lt_of_le hf hb),fun _ _ v h _=>⟨v,h⟩,fun o s1 c1 f v h1 h2=>⟨s1,c1,h1,Nat.le_refl _,fun _=>⟨rfl,aH (h.lt o f v h2).1⟩⟩⟩
theorem FI.prv(h:FI b P0 g t L tv LO){el:TypeId}{cs:List D}{vs:List V}{st:Nat}(hr:RL g cs vs)(ho:aK vs) :
 FI b P0 (g.prv (.cells el false 1 [⟨0,0,vs⟩])) t (L++[(st,cs)]) tv (LO++[g.s.next]):=by
 have hle:=Hd (g:=g) (.cells el false 1 [⟨0,0,vs⟩])
 have hlt:∀ f∈LO,f<g.s.next:=fun f hf=>h.lo_lt hf
 refine⟨h.ok.prv _,h.slots.mono hle (List.prefix_append _ _),⟨by simp[h.own.1],fun k x f hx hf=>?_⟩,by show g.Pv++_=_;rw[h.pv,List.append_assoc],fun f hf=>?_,?_,Nat.le_trans h.bl hle.next⟩
 ·rcases bc hx with hx|⟨e1,e2⟩
  ·rcases bc hf with hf|⟨e3,_⟩
   ·have hm:=List.mem_of_getElem? hf
    obtain⟨h1,h2⟩:=h.own.2 k x f hx hf
    refine⟨List.mem_append_left _ h1,?_⟩
    rcases h2 with h2|⟨el',vs',h2,h3,h4⟩
    ·exact .inl h2
    ·exact .inr ⟨el',vs',by show(g.s.alloc _).get f=_;rw[aH (hlt f hm)];exact h2,h3.mono hle,h4⟩
   ·subst e3
    rw[<- h.own.1,List.getElem?_eq_none (Nat.le_refl _)]at hx;cases hx
  ·subst e1;subst e2
   rw[h.own.1,fU]at hf
   cases hf
   exact⟨List.mem_append_right _ (by simp),.inr ⟨el,vs,fV _ _,hr.mono hle,ho⟩⟩
 ·rcases List.mem_append.1 hf with hf|hf
  ·exact h.low f hf
  ·simp at hf;subst hf;exact h.bl
 ·rw[List.nodup_append]
  exact⟨h.nd,by simp,fun x hx y hy e=>by simp at hy;subst hy;subst e;have:=hlt _ hx;omega⟩
def Gh.pput(g:Gh)(f:Nat)(B:dB):Gh:=⟨g.O,g.H,g.Pv,g.s.put f B⟩
theorem Cs{f:Nat}(hf:f∈g.Pv)(B:dB):ot g (g.pput f B):=by
 refine⟨Nat.le_refl _,fun _ _ v h=>⟨v,h⟩,fun _ _ st cap l h=>⟨st,cap,l,h,Nat.le_refl _,id,fun _=>⟨rfl,rfl⟩⟩,fun f' h=>⟨by show f'<(g.s.put f B).next;rw[S.next_put];exact h.1,h.2.1,h.2.2⟩,fun a n vs hi hx=>?_,by show _<=(g.s.put f B).next;rw[S.next_put];exact Nat.le_refl _⟩
 rw[<- hx]
 exact cL (by show(g.s.put f B).get _=_;rw[S.get_put,if_neg (fun e=>hi.2.1 (by rw[<- e];exact hf))]) n
theorem cm{s:S}{f f':Nat}{B:dB}(h:f≠f'):(s.put f B).get f'=s.get f':=by rw[S.get_put,if_neg h]
theorem dZ{s:S}{f:Nat}{B:dB}:(s.put f B).get f=some B:=by rw[S.get_put,if_pos rfl]
theorem Ok.pput(h:Ok g){f:Nat}(hf:f∈g.Pv){B0:dB}(h0:g.s.get f=some B0)(B:dB):Ok (g.pput f B):=by
 refine⟨h.len,LL h.wf h0 B,h.inj,fun o f' v ho=>⟨by show f'<(g.s.put f B).next;rw[S.next_put];exact(h.lt o f' v ho).1,(h.lt o f' v ho).2⟩,fun f' hf'=>by show f'<(g.s.put f B).next;rw[S.next_put];exact h.pv f' hf',fun o b hb=>(h.obj o b hb).keep (Cs hf B) rfl fun f' v ho=>cm fun e=>(h.lt o f' v ho).2 (by rw[<- e];exact hf),h.gl.to fun f' h1 hp ho=>⟨cm fun e=>hp (by rw[<- e];exact hf),by show f'<(g.s.put f B).next;rw[S.next_put];exact h1,hp,ho⟩⟩
theorem Qz(h:Ok g){f:Nat}(hf:f∈g.Pv)(hb:b<=f)(B:dB):Mv b g (g.pput f B):=⟨Cs hf B,fun f' hf' _=>cm (by omega),fun _ _ v h _=>⟨v,h⟩,fun o s1 c1 f' v h1 h2=>⟨s1,c1,h1,Nat.le_refl _,fun _=>⟨rfl,cm fun e=>(h.lt o f' v h2).2 (by rw[<- e];exact hf)⟩⟩⟩
theorem rZ:∀ {l:List Nat} (_:l.Nodup) {i j x:Nat} (_:l[i]? = some x) (_:l[j]? = some x),i=j
 |[],_,i,_,_,h1,_=>by simp at h1
 |y::l,h,i,j,x,h1,h2=>by
  rw[List.nodup_cons]at h
  cases i with
  |zero=>cases j with
   |zero=>rfl
   |succ j =>
    simp only[List.getElem?_cons_zero,Option.some.injEq,List.getElem?_cons_succ]at h1 h2
    subst h1
    exact(h.1 (List.mem_of_getElem? h2)).elim
  |succ i=>cases j with
   |zero =>
    simp only[List.getElem?_cons_zero,Option.some.injEq,List.getElem?_cons_succ]at h1 h2
    subst h2
    exact(h.1 (List.mem_of_getElem? h1)).elim
   |succ j =>
    simp only[List.getElem?_cons_succ]at h1 h2
    rw[rZ h.2 h1 h2]
theorem FI.pput(h:FI b P0 g t L tv LO){k f st:Nat}{el:TypeId}{cs:List D}{vs0 vs:List V}(hk:LO[k]? = some f)(h0:g.s.get f=some (.cells el false 1 [⟨0,0,vs0⟩]))(hr:RL g cs vs)(ho:aK vs) :
 FI b P0 (g.pput f (.cells el false 1 [⟨0,0,vs⟩])) t (L.set k (st,cs)) tv LO:=by
 have hm:=List.mem_of_getElem? hk
 have hp:f∈g.Pv:=by rw[h.pv];exact List.mem_append_right _ hm
 have hle:=Cs hp (.cells el false 1 [⟨0,0,vs⟩])
 refine⟨h.ok.pput hp h0 _,h.slots.mono hle List.prefix_rfl,⟨by rw[List.length_set];exact h.own.1,fun k' x f' hx hf'=>?_⟩,h.pv,h.low,h.nd,Nat.le_trans h.bl hle.next⟩
 have hm':=List.mem_of_getElem? hf'
 rw[List.getElem?_set]at hx
 split at hx
 ·rename_i e
  subst e
  rw[hk]at hf'
  cases hf'
  split at hx
  ·cases hx
   exact⟨hp,.inr ⟨el,vs,dZ,hr.mono hle,ho⟩⟩
  ·cases hx
 ·rename_i hne
  obtain⟨h1,h2⟩:=h.own.2 k' x f' hx hf'
  refine⟨h1,?_⟩
  rcases h2 with h2|⟨el',vs',h2,h3,h4⟩
  ·exact .inl h2
  ·exact .inr ⟨el',vs',by show(g.s.put f _).get f'=_;rw[cm (fun e=>hne (rZ h.nd hk (by rw[e];exact hf')))];exact h2,h3.mono hle,h4⟩
end
end Go.AI
namespace Go.AI
variable[fc]
theorem dY{α:Type}{l:List α}{i j:Nat}{x y:α}(h:(l.set i x)[j]? = some y):(i=j/\y=x)\/(i≠j/\l[j]? = some y):=by
 rw[List.getElem?_set]at h
 split at h
 ·rename_i e
  split at h
  ·cases h;exact .inl ⟨e,rfl⟩
  ·cases h
 ·rename_i e;exact .inr ⟨e,h⟩
theorem bF{α:Type}{l:List α}{i:Nat}{x y:α}(h:l[i]? = some y):(l.set i x)[i]? = some x:=by
 rw[List.getElem?_set,if_pos rfl,if_pos]
 rcases Nat.lt_or_ge i l.length with q|q
 ·exact q
 ·rw[List.getElem?_eq_none q]at h;cases h
theorem fe{α:Type}{l:List α}{i j:Nat}{x:α}(h:i≠j):(l.set i x)[j]? = l[j]?:=by rw[List.getElem?_set,if_neg h]
def XL(ver ver':Nat)(x0 x:DB):Prop:=∀ sz st cap l,x0=.buf sz st cap l->∃ st' cap' l',x=.buf sz st' cap' l'/\l.length<=l'.length/\(st=false->st'=false)/\(l.length=l'.length->cap'=cap/\ver'=ver)
section
variable{b:Nat}{P0:List Nat}{g:Gh}{t:T LD}{L:LS}{tv:T V}{LO:List Nat}{o f ver ver':Nat}{x0 x:DB}{B0 B:dB}
def Gh.oput(g:Gh)(o:Nat)(x:DB)(f ver':Nat)(B:dB):Gh:=⟨g.O.set o (some (f,ver')),g.H.set o x,g.Pv,g.s.put f B⟩
structure uX(g:Gh)(o:Nat)(x:DB)(f ver ver':Nat)(x0:DB)(B0 B:dB):Prop where
 ho:g.O[o]? = some (some (f,ver))
 hx0:g.H[o]? = some x0
 h0:g.s.get f=some B0
 hb:XL ver ver' x0 x
 hi:∀ a n vs,g.Imm a.f->a.f=f->loadCells g.s a n=some vs->loadCells (g.s.put f B) a n=some vs
 hst:∀ s1 c1,x0=.cells s1 c1->∃ c2,x=.cells (s1+1) c2
theorem ls(h:Ok g)(c:uX g o x f ver ver' x0 B0 B):ot g (g.oput o x f ver' B):=by
 refine⟨by show _<=(g.H.set o x).length;rw[List.length_set];exact Nat.le_refl _,fun o' f' v h1=>?_,fun o' sz st cap l h1=>?_,fun f' h1=>⟨by show f'<(g.s.put f B).next;rw[S.next_put];exact h1.1,h1.2.1,fun o' v h2=>?_⟩,fun a n vs hi hx=>?_,by show _<=(g.s.put f B).next;rw[S.next_put];exact Nat.le_refl _⟩
 ·by_cases e:o=o'
  ·subst e
   rw[c.ho]at h1;cases h1
   exact⟨ver',bF c.ho⟩
  ·exact⟨v,by show(g.O.set o _)[o']? = _;rw[fe e];exact h1⟩
 ·by_cases e:o=o'
  ·subst e
   rw[c.hx0]at h1;cases h1
   obtain⟨st',cap',l',k1,k2,k3,k4⟩:=c.hb sz st cap l rfl
   refine⟨st',cap',l',by rw[<- k1];exact bF c.hx0,k2,k3,fun e=>?_⟩
   obtain⟨k5,k6⟩:=k4 e
   exact⟨k5,by rw[c.ho,k6];exact bF c.ho⟩
  ·exact⟨st,cap,l,by show(g.H.set o _)[o']? = _;rw[fe e];exact h1,Nat.le_refl _,id,fun _=>⟨rfl,by show(g.O.set o _)[o']? = _;rw[fe e]⟩⟩
 ·rcases dY h2 with⟨e,e2⟩|⟨e,h2⟩
  ·subst e
   cases e2
   obtain⟨sz,cap,l,h3⟩:=h1.2.2 o ver c.ho
   rw[c.hx0]at h3;cases h3
   obtain⟨st',cap',l',k1,k2,k3,k4⟩:=c.hb sz false cap l rfl
   rw[k3 rfl]at k1
   exact⟨sz,cap',l',by rw[<- k1];exact bF c.hx0⟩
  ·obtain⟨sz,cap,l,h3⟩:=h1.2.2 o' v h2
   exact⟨sz,cap,l,by show(g.H.set o _)[o']? = _;rw[fe e];exact h3⟩
 ·by_cases e:a.f=f
  ·exact c.hi a n vs hi e hx
  ·rw[<- hx];exact cL (cm (Ne.symm e)) n
theorem Ok.oput(h:Ok g)(c:uX g o x f ver ver' x0 B0 B)(hx:lQ (g.oput o x f ver' B) o x):Ok (g.oput o x f ver' B):=by
 refine⟨by simp[Gh.oput,h.len],LL h.wf c.h0 B,fun o1 o2 f' v v' h1 h2=>?_,fun o' f' v h1=>?_,fun f' hf'=>by show f'<(g.s.put f B).next;rw[S.next_put];exact h.pv f' hf',fun o' y hy=>?_,h.gl.to fun f' h1 hp ho=>⟨cm fun e=>ho o ver (by rw[<- e];exact c.ho),by show f'<(g.s.put f B).next;rw[S.next_put];exact h1,hp,fun o' v k=>?_⟩⟩
 rotate_right 1
 ·rcases dY k with⟨e,e2⟩|⟨e,k⟩
  ·cases e2;exact ho o ver c.ho
  ·exact ho o' v k
 ·rcases dY h1 with⟨e,e2⟩|⟨e,h1⟩<;>rcases dY h2 with⟨e3,e4⟩|⟨e3,h2⟩
  ·exact e.symm.trans e3
  ·cases e2;rw[<- e];exact h.inj o o2 f ver v' c.ho h2
  ·cases e4;rw[<- e3];exact h.inj o1 o f v ver h1 c.ho
  ·exact h.inj o1 o2 f' v v' h1 h2
 ·rcases dY h1 with⟨e,e2⟩|⟨e,h1⟩
  ·cases e2
   exact⟨by show f<(g.s.put f B).next;rw[S.next_put];exact(h.lt o f ver c.ho).1,(h.lt o f ver c.ho).2⟩
  ·exact⟨by show f'<(g.s.put f B).next;rw[S.next_put];exact(h.lt o' f' v h1).1,(h.lt o' f' v h1).2⟩
 ·rcases dY hy with⟨e,e2⟩|⟨e,hy⟩
  ·subst e;subst e2;exact hx
  ·exact(h.obj o' y hy).keep (ls h c) (by show(g.O.set o _)[o']? = _;rw[fe e]) fun f' v h1=>cm fun q=>e (h.inj o o' f ver v c.ho (by rw[q];exact h1))
theorem ju(h:Ok g)(c:uX g o x f ver ver' x0 B0 B):Mv b g (g.oput o x f ver' B):=by
 refine⟨ls h c,fun f' _ hn=>cm fun e=>hn o ver (by rw[<- e];exact c.ho),fun o' f' v h1 _=>?_,fun o' s1 c1 f' v h1 h2=>?_⟩
 rcases dY h1 with⟨e,e2⟩|⟨e,h1⟩
 ·subst e;cases e2;exact⟨ver,c.ho⟩
 ·exact⟨v,h1⟩
 ·by_cases e:o=o'
  ·subst e
   rw[c.hx0]at h1
   obtain⟨c2,h3⟩:=c.hst s1 c1 (Option.some.inj h1)
   exact⟨s1+1,c2,by rw[<- h3];exact bF c.hx0,Nat.le_succ _,fun q=>by omega⟩
  ·exact⟨s1,c1,by show(g.H.set o _)[o']? = _;rw[fe e];exact h1,Nat.le_refl _,fun _=>⟨rfl,cm fun q=>e (h.inj o o' f ver v c.ho (by rw[q];exact h2))⟩⟩
theorem FI.oput(h:FI b P0 g t L tv LO)(c:uX g o x f ver ver' x0 B0 B)(hx:lQ (g.oput o x f ver' B) o x):FI b P0 (g.oput o x f ver' B) t L tv LO :=
 h.to (h.ok.oput c hx) (ju h.ok c) rfl fun f' hf'=>cm fun e=>h.lo_out hf' o ver (by rw[<- e];exact c.ho)
def Gh.bnew(g:Gh)(o:Nat)(x:DB)(B:dB):Gh:=⟨g.O.set o (some (g.s.next,0)),g.H.set o x,g.Pv,g.s.alloc B⟩
theorem Ct(h:Ok g){sz:Nat}{st cap st' cap':Bool}{l:List (List D)}(hO:g.O[o]? = some none)(h0:g.H[o]? = some (.buf sz st cap []))(hx:x=.buf sz st' cap' l)(hs:st=false->st'=false)(hl:l≠[]):ot g (g.bnew o x B):=by
 refine⟨by show _<=(g.H.set o x).length;rw[List.length_set];exact Nat.le_refl _,fun o' f' v h1=>?_,fun o' sz' gi cap1 l1 h1=>?_,fun f' h1=>⟨by show f'<(g.s.alloc B).next;rw[S.next_alloc];have:=h1.1;omega,h1.2.1,fun o' v h2=>?_⟩,fun a n vs hi hx=>?_,by show _<=(g.s.alloc B).next;rw[S.next_alloc];omega⟩
 ·have e:o≠o':=fun e=>by subst e;rw[hO]at h1;cases h1
  exact⟨v,by show(g.O.set o _)[o']? = _;rw[fe e];exact h1⟩
 ·by_cases e:o=o'
  ·subst e
   rw[h0]at h1;cases h1
   refine⟨st',cap',l,by rw[<- hx];exact bF h0,by simp,hs,fun e=>?_⟩
   exact(hl (List.eq_nil_of_length_eq_zero (by simpa using e.symm))).elim
  ·exact⟨gi,cap1,l1,by show(g.H.set o _)[o']? = _;rw[fe e];exact h1,Nat.le_refl _,id,fun _=>⟨rfl,by show(g.O.set o _)[o']? = _;rw[fe e]⟩⟩
 ·rcases dY h2 with⟨e,e2⟩|⟨e,h2⟩
  ·simp only[Option.some.injEq,Prod.mk.injEq]at e2
   have:=h1.1;omega
  ·obtain⟨sz1,cap1,l1,h3⟩:=h1.2.2 o' v h2
   exact⟨sz1,cap1,l1,by show(g.H.set o _)[o']? = _;rw[fe (fun e=>by subst e;rw[hO]at h2;cases h2)];exact h3⟩
 ·rw[<- hx];exact cL (aH hi.1) n
theorem Ok.bnew(h:Ok g){sz:Nat}{st cap st' cap':Bool}{l:List (List D)}(hO:g.O[o]? = some none)(h0:g.H[o]? = some (.buf sz st cap []))(hx:x=.buf sz st' cap' l)(hs:st=false->st'=false)(hl:l≠[])(hr:lQ (g.bnew o x B) o x):Ok (g.bnew o x B):=by
 refine⟨by simp[Gh.bnew,h.len],pO h.wf B,fun o1 o2 f' v v' h1 h2=>?_,fun o' f' v h1=>?_,fun f' hf'=>?_,fun o' y hy=>?_,h.gl.to fun f' h1 hp ho=>⟨aH h1,rx h1,hp,fun o' v k=>?_⟩⟩
 rotate_right 1
 ·rcases dY k with⟨e,e2⟩|⟨e,k⟩
  ·cases e2;omega
  ·exact ho o' v k
 ·rcases dY h1 with⟨e,e2⟩|⟨e,h1⟩<;>rcases dY h2 with⟨e3,e4⟩|⟨e3,h2⟩
  ·exact e.symm.trans e3
  ·cases e2;have:=(h.lt o2 _ v' h2).1;omega
  ·cases e4;have:=(h.lt o1 _ v h1).1;omega
  ·exact h.inj o1 o2 f' v v' h1 h2
 ·rcases dY h1 with⟨e,e2⟩|⟨e,h1⟩
  ·cases e2
   exact⟨by show g.s.next<(g.s.alloc B).next;rw[S.next_alloc];omega,fun hp=>by have:=h.pv _ hp;omega⟩
  ·exact⟨by have:=(h.lt o' f' v h1).1;show f'<(g.s.alloc B).next;rw[S.next_alloc];omega,(h.lt o' f' v h1).2⟩
 ·have:=h.pv f' hf';show f'<(g.s.alloc B).next;rw[S.next_alloc];omega
 ·rcases dY hy with⟨e,e2⟩|⟨e,hy⟩
  ·subst e;subst e2;exact hr
  ·exact(h.obj o' y hy).keep (Ct h hO h0 hx hs hl) (by show(g.O.set o _)[o']? = _;rw[fe e]) fun f' v h1=>aH (h.lt o' f' v h1).1
theorem Jc(h:Ok g)(hb:b<=g.s.next){sz:Nat}{st cap st' cap':Bool}{l:List (List D)}(hO:g.O[o]? = some none)(h0:g.H[o]? = some (.buf sz st cap []))(hx:x=.buf sz st' cap' l)(hs:st=false->st'=false)(hl:l≠[]):Mv b g (g.bnew o x B):=by
 refine⟨Ct h hO h0 hx hs hl,fun f hf _=>aH (Nat.lt_of_lt_of_le hf hb),fun o' f v ho hf=>?_,fun o' s1 c1 f v h1 h2=>?_⟩
 ·rcases dY ho with⟨_,e⟩|⟨_,ho⟩
  ·cases e;omega
  ·exact⟨v,ho⟩
 ·have e:o≠o':=fun e=>by subst e;rw[h0]at h1;cases h1
  exact⟨s1,c1,by show(g.H.set o _)[o']? = _;rw[fe e];exact h1,Nat.le_refl _,fun _=>⟨rfl,aH (h.lt o' f v h2).1⟩⟩
theorem FI.bnew(h:FI b P0 g t L tv LO){sz:Nat}{st cap st' cap':Bool}{l:List (List D)}(hO:g.O[o]? = some none)(h0:g.H[o]? = some (.buf sz st cap []))(hx:x=.buf sz st' cap' l)(hs:st=false->st'=false)(hl:l≠[])(hr:lQ (g.bnew o x B) o x):FI b P0 (g.bnew o x B) t L tv LO :=
 h.to (h.ok.bnew hO h0 hx hs hl hr) (Jc h.ok h.bl hO h0 hx hs hl) rfl fun _ hf=>aH (h.lo_lt hf)
def Gh.frz(g:Gh)(o sz:Nat)(cap:Bool)(l:List (List D)):Gh:=⟨g.O,g.H.set o (.buf sz false cap l),g.Pv,g.s⟩
theorem sj{sz:Nat}{st cap:Bool}{l:List (List D)}(h0:g.H[o]? = some (.buf sz st cap l)):ot g (g.frz o sz cap l):=by
 refine⟨by show _<=(g.H.set o _).length;rw[List.length_set];exact Nat.le_refl _,fun o' f' v h1=>⟨v,h1⟩,fun o' sz' gi cap1 l1 h1=>?_,fun f' h1=>⟨h1.1,h1.2.1,fun o' v h2=>?_⟩,fun a n vs hi hx=>hx,Nat.le_refl _⟩
 ·by_cases e:o=o'
  ·subst e
   rw[h0]at h1;cases h1
   exact⟨false,cap,l,bF h0,Nat.le_refl _,fun _=>rfl,fun _=>⟨rfl,rfl⟩⟩
  ·exact⟨gi,cap1,l1,by show(g.H.set o _)[o']? = _;rw[fe e];exact h1,Nat.le_refl _,id,fun _=>⟨rfl,rfl⟩⟩
 ·by_cases e:o=o'
  ·subst e;exact⟨sz,cap,l,bF h0⟩
  ·obtain⟨sz1,cap1,l1,h3⟩:=h1.2.2 o' v h2
   exact⟨sz1,cap1,l1,by show(g.H.set o _)[o']? = _;rw[fe e];exact h3⟩
theorem Ok.frz(h:Ok g){sz:Nat}{st cap:Bool}{l:List (List D)}(h0:g.H[o]? = some (.buf sz st cap l)):Ok (g.frz o sz cap l):=by
 refine⟨by simp[Gh.frz,h.len],h.wf,h.inj,h.lt,h.pv,fun o' y hy=>?_,h.gl.to fun f h1 hp ho=>⟨rfl,h1,hp,ho⟩⟩
 rcases dY hy with⟨e,e2⟩|⟨e,hy⟩
 ·subst e;subst e2
  exact(h.obj o _ h0).keep (b:=.buf sz st cap l) (sj h0) rfl (fun _ _ _=>rfl)
 ·exact(h.obj o' y hy).keep (sj h0) rfl fun _ _ _=>rfl
theorem GU{sz:Nat}{st cap:Bool}{l:List (List D)}(h0:g.H[o]? = some (.buf sz st cap l)):Mv b g (g.frz o sz cap l):=⟨sj h0,fun _ _ _=>rfl,fun _ _ v h _=>⟨v,h⟩,fun o' s1 c1 f v h1 _=>⟨s1,c1,by show(g.H.set o _)[o']? = _;rw[fe (fun e=>by subst e;rw[h0]at h1;cases h1)];exact h1,Nat.le_refl _,fun _=>⟨rfl,rfl⟩⟩⟩
theorem FI.frz(h:FI b P0 g t L tv LO){sz:Nat}{st cap:Bool}{l:List (List D)}(h0:g.H[o]? = some (.buf sz st cap l)):FI b P0 (g.frz o sz cap l) t L tv LO :=
 h.to (h.ok.frz h0) (GU h0) rfl fun _ _=>rfl
theorem Cz(h:Ok g){sz:Nat}{st cap:Bool}{l:List (List D)}(h0:g.H[o]? = some (.buf sz st cap l)){n:Nat}(hn:n=l.length){v:V}(hv:Pw g sz o n v):RD (g.frz o sz cap l) (.row sz l) v:=by
 obtain⟨st',cap',l',k1,k2,k3⟩:=hv
 rw[h0]at k1;cases k1
 simp only[RD]
 rcases k3 with⟨e1,e2⟩|⟨e1,f,ver,ver2,c,e2,e3,e4⟩
 ·have hl:l=[]:=List.eq_nil_of_length_eq_zero (by omega)
  subst hl
  rcases e2 with rfl|⟨a,z,sz',rfl⟩
  ·exact .inl ⟨rfl,rfl⟩
  ·exact .inr (.inl ⟨rfl,a,z,sz',rfl⟩)
 ·obtain⟨e5,e6⟩:=e4 hn
  subst e5 e6
  obtain⟨i0,i1|⟨i1,f',ver',el,nv,vers,cells,i2,i3,i4,i5,i6,i7⟩⟩:=h.obj o _ h0
  ·rw[i1.1]at hn;simp at hn;omega
  ·rw[e2]at i2;cases i2
   subst e3 hn
   refine .inr (.inr ⟨⟨f,ver2,0⟩,0,HI cap l.length,rfl,i0,.inr rfl,fun c hc=>?_,fun _=>⟨(h.lt o f ver2 e2).1,(h.lt o f ver2 e2).2,fun o' v' ho'=>?_⟩,i7.keep (sj h0) rfl⟩)
   ·cases cap with
    |true=>cases hc;exact Nat.le_refl _
    |false=>cases hc
   ·rw[h.inj o' o f v' ver2 ho' e2]
    exact⟨sz,cap,l,bF h0⟩
def Gh.acc(g:Gh)(sz:Nat)(cap:Bool):Gh:=⟨g.O++[none],g.H++[.buf sz true cap []],g.Pv,g.s⟩
theorem NH(h:Ok g)(sz:Nat)(cap:Bool):ot g (g.acc sz cap):=by
 refine⟨by simp[Gh.acc],fun _ _ v h=>⟨v,eG _ h⟩,fun o _ st cap l h1=>⟨st,cap,l,eG _ h1,Nat.le_refl _,id,fun _=>⟨rfl,?_⟩⟩,fun f h1=>⟨h1.1,h1.2.1,fun o v ho=>?_⟩,fun a n vs hi hx=>hx,Nat.le_refl _⟩
 ·have:o<g.H.length:=by
   rcases Nat.lt_or_ge o g.H.length with q|q
   ·exact q
   ·rw[List.getElem?_eq_none q]at h1;cases h1
  show(g.O++_)[o]? = _
  rw[List.getElem?_append_left (by rw[h.len];exact this)]
 ·rcases bc ho with ho|⟨_,e⟩
  ·obtain⟨sz,cap,l,h2⟩:=h1.2.2 o v ho
   exact⟨sz,cap,l,eG _ h2⟩
  ·cases e
theorem Ok.acc(h:Ok g){sz:Nat}(hs:0<sz)(cap:Bool):Ok (g.acc sz cap):=by
 refine⟨by simp[Gh.acc,h.len],h.wf,fun o o' f v v' h1 h2=>?_,fun o f v ho=>?_,h.pv,fun o c hc=>?_,h.gl.to fun f h1 hp ho=>⟨rfl,h1,hp,fun o v k=>?_⟩⟩
 rotate_right 1
 ·rcases bc k with k|⟨_,e⟩
  ·exact ho o v k
  ·cases e
 ·rcases bc h1 with h1|⟨e1,e2⟩<;>rcases bc h2 with h2|⟨e3,e4⟩
  ·exact h.inj o o' f v v' h1 h2
  ·cases e4
  ·cases e2
  ·cases e2
 ·rcases bc ho with ho|⟨_,e⟩
  ·exact h.lt o f v ho
  ·cases e
 ·rcases bc hc with hc|⟨e1,e2⟩
  ·have hlt:o<g.O.length:=by
    rw[h.len]
    rcases Nat.lt_or_ge o g.H.length with q|q
    ·exact q
    ·rw[List.getElem?_eq_none q]at hc;cases hc
   exact(h.obj o c hc).keep (NH h sz cap) (by show(g.O++_)[o]? = _;rw[List.getElem?_append_left hlt]) fun _ _ _=>rfl
  ·subst e1;subst e2
   exact⟨hs,.inl ⟨rfl,by show(g.O++_)[_]? = _;rw[<- h.len];exact fU _ _⟩⟩
theorem GW(h:Ok g)(sz:Nat)(cap:Bool):Mv b g (g.acc sz cap):=by
 refine⟨NH h sz cap,fun _ _ _=>rfl,fun o f v ho _=>?_,fun o s1 c1 f v h1 _=>⟨s1,c1,eG _ h1,Nat.le_refl _,fun _=>⟨rfl,rfl⟩⟩⟩
 rcases bc ho with ho|⟨_,e⟩
 ·exact⟨v,ho⟩
 ·cases e
theorem FI.acc(h:FI b P0 g t L tv LO){sz:Nat}(hs:0<sz)(cap:Bool):FI b P0 (g.acc sz cap) t L tv LO:=h.to (h.ok.acc hs cap) (GW h.ok sz cap) rfl fun _ _=>rfl
end
end Go.AI
namespace Go.AI
variable[fc]
variable{g:Gh}{LO:List Nat}{t:T LD}{tv:T V}{P:Program}{out:il}
theorem ej{v:V}{vs:List V}:aK (v::vs)↔v.one=true/\aK vs:=by unfold aK;simp
theorem Eg{a b:List V}(h:aK a)(hs:∀ v∈b,v∈a):aK b:=List.all_eq_true.2 fun v hv=>List.all_eq_true.1 h v (hs v hv)
theorem rX{vs:List V}(h:aK vs)(n:Nat):aK (vs.drop n):=Eg h fun _=>List.mem_of_mem_drop
theorem rW{vs:List V}(h:aK vs)(n:Nat):aK (vs.take n):=Eg h fun _=>List.mem_of_mem_take
theorem wm{a b:List V}(h:aK a)(k:aK b):aK (a++b):=by unfold aK at *;rw[List.all_append,h,k];rfl
theorem HD:∀ {v:V} {d:D},Rz v=some d->RD g d v/\v.one=true:=by
 intro v d h
 unfold Rz at h
 split at h
 ·cases h;exact⟨by simp only[RD],rfl⟩
 ·cases h;exact⟨by simp only[RD],rfl⟩
 ·rename_i l
  cases hb:l.all (fun c=>Nat.blt c 256)with
  |false=>rw[hb]at h;cases h
  |true =>
   rw[hb]at h;cases h
   refine⟨?_,rfl⟩
   simp only[RD]
   refine⟨trivial,fun c hc=>?_⟩
   have:=List.all_eq_true.1 hb c hc
   exact Nat.le_of_ble_eq_true this
 ·cases h;exact⟨by simp only[RD],rfl⟩
 ·cases h;exact⟨by simp only[RD];exact .inl trivial,rfl⟩
 ·cases h;exact⟨by simp only[RD],rfl⟩
 ·rename_i fn a b
  split at h
  ·cases hb:(a.isEmpty&&b.isEmpty)with
   |false=>rw[hb]at h;cases h
   |true =>
    rw[hb]at h;cases h
    simp only[Bool.and_eq_true,List.isEmpty_iff]at hb
    obtain⟨rfl,rfl⟩:=hb
    exact⟨by simp only[RD];exact⟨[],[],rfl,by simp only[RL],by simp only[RL]⟩,rfl⟩
  ·cases h
 ·cases h;exact⟨by simp only[RD],rfl⟩
 ·cases h;exact⟨by simp only[RD],rfl⟩
 ·cases h
theorem CV:∀ {vs:List V} {ds:List D},JL vs=some ds->RL g ds vs/\aK vs
 |[],ds,h=>by cases h;exact⟨by simp only[RL],rfl⟩
 |v::r,ds,h=>by
  simp only[JL]at h
  split at h
  ·rename_i d hd
   split at h
   ·rename_i l hl
    cases h
    obtain⟨h1,h2⟩:=HD (g:=g) hd
    obtain⟨h3,h4⟩:=CV hl
    exact⟨by simp only[RL];exact⟨v,r,rfl,h1,h3⟩,ej.2 ⟨h2,h4⟩⟩
   ·cases h
  ·cases h
theorem OD{v:V}{d:D}(h:VC v=some d):RD g d v:=by
 unfold VC at h
 split at h
 ·split at h
  ·rename_i cs l hl
   cases h
   obtain⟨h1,h2⟩:=CV (g:=g) hl
   simp only[RD];exact⟨_,rfl,h1,h2⟩
  ·cases h
 ·exact(HD h).1
theorem RL.one1{d:D}{v:V}(h:RD g d v):RL g [d] [v]:=by simp only[RL];exact⟨v,[],rfl,h,rfl⟩
theorem rh{v:V}(h:v.one=true):v.cells=[v]:=by cases v<;>first|rfl|cases h
theorem Lb{v:V}{d:D}(h:VC v=some d):RL g d.cells v.cells/\aK v.cells:=by
 unfold VC at h
 split at h
 ·split at h
  ·rename_i cs l hl
   cases h
   exact CV hl
  ·cases h
 ·rename_i hne
  obtain⟨h1,h2⟩:=HD (g:=g) h
  rw[rh h2]
  refine⟨?_,ej.2 ⟨h2,rfl⟩⟩
  have:d.cells=[d]:=by
   cases d<;>first|rfl|skip
   simp only[RD]at h1
   obtain⟨vs,rfl,_⟩:=h1
   cases h2
  rw[this];exact RL.one1 h1
theorem iK{ty:TypeId}{d:D}(h:oB P ty=some d):∃ z,zero P ty=some z/\RD g d z/\RL g d.cells z.cells/\aK z.cells:=by
 unfold oB at h
 split at h
 ·rename_i z hz;exact⟨z,hz,OD h,Lb h⟩
 ·cases h
def Bx(g:Gh)(LO:List Nat)(t:T LD)(tv:T V)(x:Operand):Prop:=∀ y,iu t x=some y->∃ v,eval tv x=some v/\RS g LO y v
theorem zN.op(h:zN g LO t tv)(x:Operand):Bx g LO t tv x:=by
 intro y hy
 cases x with
 |tmp i=>exact h i y hy
 |const c =>
  simp only[iu]at hy
  split at hy
  ·rename_i v hv
   split at hy
   ·rename_i d hd;cases hy;exact⟨v,hv,OD hd⟩
   ·cases hy
  ·cases hy
 |global _=>cases hy
 |func f=>cases hy;exact⟨_,rfl,by show RD _ _ _;simp only[RD];exact⟨[],[],rfl,by simp only[RL],by simp only[RL]⟩⟩
theorem bd{x:Operand}{κ:D->ai}(h:gD (iu t x) κ=some out)(hr:Bx g LO t tv x):∃ d v,κ d=some out/\iu t x=some (.g d)/\eval tv x=some v/\RD g d v:=by
 unfold gD at h
 split at h
 ·rename_i d hd
  obtain⟨v,h1,h2⟩:=hr _ hd
  exact⟨d,v,h,hd,h1,h2⟩
 ·cases h
theorem lu{x:Operand}{κ:LD->ai}(h:lD (iu t x) κ=some out)(hr:Bx g LO t tv x):∃ d v,κ d=some out/\iu t x=some d/\eval tv x=some v/\RS g LO d v:=by
 unfold lD at h
 split at h
 ·rename_i d hd
  obtain⟨v,h1,h2⟩:=hr _ hd
  exact⟨d,v,h,hd,h1,h2⟩
 ·cases h
theorem jb:∀ {l:List Operand} {κ:List D->ai},Fd t l κ=some out->(∀ x∈l,Bx g LO t tv x)->∃ ds vs,κ ds=some out/\gn tv l=some vs/\RL g ds vs
 |[],κ,h,_=>⟨[],[],h,rfl,by simp only[RL]⟩
 |x::r,κ,h,hr=>by
  simp only[Fd]at h
  obtain⟨d,v,h1,_,h2,h3⟩:=bd h (hr x List.mem_cons_self)
  obtain⟨ds,vs,k1,k2,k3⟩:=jb h1 fun y hy=>hr y (List.mem_cons_of_mem _ hy)
  exact⟨d::ds,v::vs,k1,by simp only[gn,h2,k2],by simp only[RL];exact⟨v,vs,rfl,h3,k3⟩⟩
theorem ec{b:Bool}{κ:ai}(h:boK b κ=some out):b=true/\κ=some out:=by
 cases b with
 |false=>cases h
 |true=>exact⟨rfl,h⟩
theorem aG{b:Bool}{κ:ai}(h:cond b κ none=some out):b=true/\κ=some out:=by
 cases b with
 |false=>cases h
 |true=>exact⟨rfl,h⟩
theorem iH{cs:List D}{c:Nat}{κ:D->ai}(h:ah cs c κ=some out):∃ d,cs[c]? = some d/\κ d=some out:=by
 unfold ah at h
 split at h
 ·rename_i d hd;exact⟨d,hd,h⟩
 ·cases h
theorem gq:∀ {n:Nat} {cs:List D} {c:Nat} {κ:List D->ai},zW n cs c κ=some out->κ ((cs.drop c).take n)=some out/\(n=0\/c+n<=cs.length)
 |0,cs,c,κ,h=>⟨by simp only[zW]at h;simpa using h,.inl rfl⟩
 |n+1,cs,c,κ,h=>by
  simp only[zW]at h
  obtain⟨d,h1,h2⟩:=iH h
  have hc:c<cs.length:=by
   rcases Nat.lt_or_ge c cs.length with q|q
   ·exact q
   ·rw[List.getElem?_eq_none q]at h1;cases h1
  obtain⟨h3,h4⟩:=gq h2
  refine⟨?_,.inr (by omega)⟩
  rw[List.drop_eq_getElem_cons hc,List.take_succ_cons]
  rw[List.getElem?_eq_getElem hc]at h1
  cases h1
  exact h3
theorem kM:∀ {l:List V} {n:Nat},n<=l.length->aU n l=some (l.take n)
 |l,0,_=>rfl
 |[],n+1,h=>by simp at h
 |x::l,n+1,h=>by simp only[aU,kM (l:=l) (n:=n) (by simpa using h),Option.map,List.take_succ_cons]
theorem gE{s:S}{a:Ad}{N:Nat}{vs:List V}(h:loadCells s a N=some vs){c n:Nat}(hc:c+n<=N):loadCells s (ci a c) n=some ((vs.drop c).take n):=by
 have key:∀(u:mb),(bif Nat.ble u.lo a.c then aU N (u.cells.drop (a.c - u.lo))else none)=some vs->(bif Nat.ble u.lo (a.c+c)then aU n (u.cells.drop (a.c+c - u.lo))else none)=some ((vs.drop c).take n):=fun u hu=>by
  cases hb:Nat.ble u.lo a.c with
  |false=>rw[hb]at hu;cases hu
  |true =>
   rw[hb]at hu
   have hle:=Nat.le_of_ble_eq_true hb
   obtain⟨rfl,h2⟩:=cW hu
   rw[show Nat.ble u.lo (a.c+c)=true from Nat.ble_eq_true_of_le (by omega)]
   simp only[cond_true,List.length_drop]at h2 ⊢
   rw[kM (by rw[List.length_drop];omega)]
   congr 1
   rw[List.drop_take,List.drop_drop,List.take_take,show a.c+c - u.lo=a.c - u.lo+c by omega,Nat.min_eq_left (by omega)]
 unfold loadCells at h ⊢
 simp only[ci]
 split at h
 ·split at h
  ·rename_i u hu;exact key u h
  ·cases h
 ·split at h
  ·rename_i u hu;exact key u h
  ·cases h
 ·cases h
theorem lq{s:S}{a:Ad}{N:Nat}{vs:List V}(h:loadCells s a N=some vs){c:Nat}{v:V}(hc:vs[c]? = some v):mI s (ci a c)=some v:=by
 have key:∀(u:mb),(bif Nat.ble u.lo a.c then aU N (u.cells.drop (a.c - u.lo))else none)=some vs->(bif Nat.ble u.lo (a.c+c)then u.cells[a.c+c - u.lo]? else none)=some v:=fun u hu=>by
  cases hb:Nat.ble u.lo a.c with
  |false=>rw[hb]at hu;cases hu
  |true =>
   rw[hb]at hu
   have hle:=Nat.le_of_ble_eq_true hb
   obtain⟨rfl,h2⟩:=cW hu
   rw[show Nat.ble u.lo (a.c+c)=true from Nat.ble_eq_true_of_le (by omega)]
   simp only[cond_true]
   rw[List.getElem?_take]at hc
   split at hc
   ·rw[List.getElem?_drop]at hc
    rw[show a.c+c - u.lo=a.c - u.lo+c by omega];exact hc
   ·cases hc
 unfold loadCells at h
 unfold mI
 simp only[ci]
 split at h
 ·split at h
  ·rename_i u hu;exact key u h
  ·cases h
 ·split at h
  ·rename_i u hu;exact key u h
  ·cases h
 ·cases h
theorem zt{s:S}{a:Ad}{N:Nat}{vs:List V}(h:loadCells s a N=some vs):vs.length=N:=by
 have key:∀(u:mb),(bif Nat.ble u.lo a.c then aU N (u.cells.drop (a.c - u.lo))else none)=some vs->vs.length=N:=fun u hu=>by
  cases hb:Nat.ble u.lo a.c with
  |false=>rw[hb]at hu;cases hu
  |true =>
   rw[hb]at hu
   obtain⟨rfl,h2⟩:=cW hu
   rw[List.length_take];omega
 unfold loadCells at h
 split at h
 ·split at h
  ·rename_i u hu;exact key u h
  ·cases h
 ·split at h
  ·rename_i u hu;exact key u h
  ·cases h
 ·cases h
theorem lm{s:S}{ty:TypeId}{cs:List D}{c:Nat}{κ:D->ai}(h:cZ P ty cs c κ=some out){a:Ad}{vs:List V}(hl:loadCells s a cs.length=some vs)(hr:RL g cs vs)(ho:aK vs) :
 ∃ d v,κ d=some out/\loadVar P s ty (ci a c)=some v/\RD g d v:=by
 unfold cZ at h
 unfold loadVar
 split at h
 ·rename_i ha
  split at h
  ·rename_i n hn
   obtain⟨hn0,h⟩:=aG h
   obtain⟨h1,h2⟩:=gq h
   have hn0:=Nat.le_of_ble_eq_true hn0
   refine⟨_,.agg ((vs.drop c).take n),h1,?_,?_⟩
   ·rw[ha,hn]
    simp only[Option.bind]
    rw[gE hl (by omega)];rfl
   ·simp only[RD]
    exact⟨_,rfl,(hr.drop c).take n,rW (rX ho c) n⟩
  ·cases h
 ·rename_i ha
  obtain⟨d,h1,h2⟩:=iH h
  obtain⟨v,h3,h4⟩:=hr.at h1
  exact⟨d,v,h2,by rw[ha];exact lq hl h3,h4⟩
 ·cases h
end Go.AI
namespace Go.AI
theorem pS:∀ {p q:List Nat},(∀ z∈p,z<256)->(∀ z∈q,z<256)->jT p q=some (decide (p=q))
 |[],[],_,_=>rfl
 |[],_::_,_,_=>rfl
 |_::_,[],_,_=>rfl
 |x::p,y::q,hp,hq=>by
  have ih:=pS (p:=p) (q:=q) (fun z hz=>hp z (List.mem_cons_of_mem _ hz)) (fun z hz=>hq z (List.mem_cons_of_mem _ hz))
  have hx:Nat.blt x 256=true:=Nat.ble_eq_true_of_le (hp x (by simp))
  have hy:Nat.blt y 256=true:=Nat.ble_eq_true_of_le (hq y (by simp))
  simp only[jT]
  cases hb:Nat.beq x y with
  |true =>
   have:=Nat.eq_of_beq_eq_true hb;subst this
   simp only[cond_true,ih,List.cons.injEq,true_and]
  |false =>
   have hn:x≠y:=fun h=>by subst h;rw[Nat.beq_refl]at hb;cases hb
   simp only[cond_false,hx,hy,Bool.and_self,cond_true,List.cons.injEq,hn,false_and,decide_false]
variable[fc]
variable{g:Gh}{LO:List Nat}{t:T LD}{tv:T V}{P:Program}{out:il}
theorem RC{x:LD}{κ:LD->ai}(h:RE x κ=some out){v:V}(r:RS g LO x v):κ x=some out/\lE (some v)=some v:=by
 unfold RE uR at h
 split at h
 ·obtain⟨f,h1,rfl⟩:=r;exact⟨h,rfl⟩
 ·rename_i d
  have r:RD g d v:=r
  split at h
  ·simp only[RD]at r;obtain⟨f,ver,h1,rfl⟩:=r;exact⟨h,rfl⟩
  ·simp only[RD]at r;obtain⟨a,vs,rfl,_⟩:=r;exact⟨h,rfl⟩
  ·simp only[RD]at r;obtain⟨f,ver,sz,st,cap,l,ver',_,_,_,_,rfl,_⟩:=r;exact⟨h,rfl⟩
  ·simp only[RD]at r;obtain⟨a',b',rfl,_⟩:=r;exact⟨h,rfl⟩
  ·simp only[RD]at r;obtain⟨f,ver,_,rfl⟩:=r;exact⟨h,rfl⟩
  ·cases h
 ·cases h
theorem Rh{x:LD}{off:Nat}{κ:LD->ai}(h:Ri x off κ=some out){v:V}(r:RS g LO x v):∃ x' a,κ x'=some out/\v=.ptr a/\RS g LO x' (.ptr (ci a off)):=by
 unfold Ri dw at h
 split at h
 ·obtain⟨f,h1,rfl⟩:=r;exact⟨_,_,h,rfl,f,h1,rfl⟩
 ·rename_i d
  have r:RD g d v:=r
  split at h
  ·simp only[RD]at r
   obtain⟨f,ver,h1,rfl⟩:=r
   exact⟨_,_,h,rfl,by show RD _ _ _;simp only[RD];exact⟨f,ver,h1,rfl⟩⟩
  ·simp only[RD]at r
   obtain⟨a,vs,rfl,h1⟩:=r
   exact⟨_,_,h,rfl,by show RD _ _ _;simp only[RD];exact⟨a,vs,by rw[yQ],h1⟩⟩
  ·simp only[RD]at r
   obtain⟨f,ver,sz,st,cap,l,ver',h1,h2,h3,h4,rfl,h5⟩:=r
   exact⟨_,_,h,rfl,by show RD _ _ _;simp only[RD];exact⟨f,ver,sz,st,cap,l,ver',h1,h2,h3,h4,by simp only[ci,Nat.add_assoc],h5⟩⟩
  ·cases h
 ·cases h
theorem KT{ty:TypeId}{x:LD}{f:Nat}{κ:LD->ai}(h:xH P ty x f κ=some out){v:V}(r:RS g LO x v):∃ x' v',κ x'=some out/\gT P ty (some v) f=some v'/\RS g LO x' v':=by
 unfold xH at h
 split at h
 ·rename_i fs hu
  split at h
  ·rename_i fd hf
   cases hz:gP fd P with
   |true=>rw[hz]at h;cases h
   |false =>
    rw[hz]at h
    obtain⟨x',a,h1,rfl,h2⟩:=Rh h r
    exact⟨x',_,h1,by simp only[gT,hu,hf,hz,cond_false],h2⟩
  ·cases h
 ·cases h
theorem qn{ty:TypeId}{cs:List D}{c:Nat}{κ:D->ai}(h:cZ P ty cs c κ=some out){vs:List V}(hr:RL g cs vs)(ho:aK vs) :
 ∃ d v,κ d=some out/\ti P ty vs c=some v/\RD g d v:=by
 unfold cZ at h
 unfold ti
 split at h
 ·rename_i ha
  split at h
  ·rename_i n hn
   obtain⟨hn0,h⟩:=aG h
   obtain⟨h1,h2⟩:=gq h
   refine⟨_,.agg ((vs.drop c).take n),h1,by rw[ha,hn];rfl,?_⟩
   simp only[RD]
   exact⟨_,rfl,(hr.drop c).take n,rW (rX ho c) n⟩
  ·cases h
 ·rename_i ha
  obtain⟨d,h1,h2⟩:=iH h
  obtain⟨v,h3,h4⟩:=hr.at h1
  exact⟨d,v,h2,by rw[ha];exact h3,h4⟩
 ·cases h
theorem KS{ty:TypeId}{x:D}{f:Nat}{κ:D->ai}(h:xG P ty x f κ=some out){v:V}(r:RD g x v):∃ d v',κ d=some out/\qY P ty (some v) f=some v'/\RD g d v':=by
 unfold xG at h
 split at h
 ·rename_i fs hu
  split at h
  ·rename_i fd hf
   split at h
   ·simp only[RD]at r
    obtain⟨vs,rfl,h1,h2⟩:=r
    obtain⟨d,v',k1,k2,k3⟩:=qn h h1 h2
    exact⟨d,v',k1,by simp only[qY,hu,hf];exact k2,k3⟩
   ·cases h
  ·cases h
 ·cases h
theorem nJ{n:Int}{κ:Nat->ai}(h:bv n κ=some out):∃ m:Nat,n=(m:Int)/\κ m=some out:=by
 unfold bv at h
 split at h
 ·exact⟨_,rfl,h⟩
 ·cases h
theorem PZ{sz:Nat}{l:List (List D)}{v:V}(r:RD g (.row sz l) v){i:Nat}{cs:List D}(hi:l[i]? = some cs) :
 ∃ a z cap vs,v=.slice a z l.length cap sz/\i<l.length/\g.Imm a.f/\cs.length=sz/\loadCells g.s (ci a (i*sz)) sz=some vs/\RL g cs vs/\aK vs:=by
 have hlt:i<l.length:=by
  rcases Nat.lt_or_ge i l.length with q|q
  ·exact q
  ·rw[List.getElem?_eq_none q]at hi;cases hi
 simp only[RD]at r
 rcases r with⟨rfl,_⟩|⟨rfl,_⟩|⟨a,z,cap,h1,_,_,_,h5,h6⟩
 ·simp at hi
 ·simp at hi
 ·obtain⟨vs,k1,k2,k3,k4⟩:=h6.at hi
  exact⟨a,z,cap,vs,h1,hlt,h5 (by intro e;rw[e]at hi;simp at hi),k1,k2,k3,k4⟩
theorem HL{m n:Nat}(h:m<n):Nat.blt m n=true:=Nat.ble_eq_true_of_le h
theorem KL{ty:TypeId}{x i:D}{κ:D->ai}(h:aJ P ty x i κ=some out){v w:V}(r:RD g x v)(ri:RD g i w):∃ d v',κ d=some out/\fF P ty (some v) (dG (some w))=some v'/\RD g d v':=by
 unfold aJ at h
 split at h
 ·rename_i el hu
  split at h
  ·rename_i sz hs
   split at h
   ·rename_i k n
    simp only[RD]at ri
    subst ri
    unfold NQ at h
    split at h
    ·rename_i s l
     obtain⟨hb,h'⟩:=aG h
     clear h
     obtain rfl:=Nat.eq_of_beq_eq_true hb
     obtain⟨m,rfl,h⟩:=nJ h'
     unfold bC at h
     split at h
     ·rename_i cs hc
      obtain⟨a,z,cap,vs,rfl,h2,h3,h4,h5,h6,h7⟩:=PZ r hc
      refine⟨_,.ptr (ci a (m*s)),h,by simp only[dG,oI,fF,hu,hs,Nat.beq_refl,HL h2,Bool.and_self,cond_true],?_⟩
      simp only[RD]
      exact⟨ci a (m*s),vs,rfl,h3,by rw[h4];exact h5,h6,h7⟩
     ·cases h
    ·rename_i s o n
     obtain⟨hb,h'⟩:=aG h
     clear h
     obtain rfl:=Nat.eq_of_beq_eq_true hb
     obtain⟨m,rfl,h''⟩:=nJ h'
     obtain⟨hb,h⟩:=ec h''
     have hm:m<n:=Nat.le_of_ble_eq_true hb
     simp only[RD]at r
     obtain⟨st,cap,l,h1,h2,⟨h3,_⟩|⟨h3,f,ver,ver',c,h4,rfl,h5⟩⟩:=r
     ·omega
     refine⟨_,.ptr (ci ⟨f,ver',0⟩ (m*s)),h,by simp only[dG,oI,fF,hu,hs,Nat.beq_refl,HL hm,Bool.and_self,cond_true],?_⟩
     simp only[RD]
     exact⟨f,ver,_,st,cap,l,ver',h4,h1,h2,hm,by simp only[ci,Nat.zero_add,Nat.add_zero],fun e=>(h5 e).1⟩
    ·cases h
   ·cases h
  ·cases h
 ·cases h
theorem KK{ty:TypeId}{x i:D}{κ:D->ai}(h:iW P ty x i κ=some out){v w:V}(r:RD g x v)(ri:RD g i w):∃ d v',κ d=some out/\nT P ty (some v) (dG (some w))=some v'/\RD g d v':=by
 unfold iW at h
 split at h
 ·rename_i hu
  split at h
  ·rename_i l
   split at h
   ·rename_i k n
    simp only[RD]at r ri
    obtain⟨rfl,hb⟩:=r
    subst ri
    obtain⟨m,rfl,h'⟩:=nJ h
    clear h
    have h:dW l m κ=some out:=h'
    unfold dW at h
    split at h
    ·rename_i c hc
     refine⟨_,kD c,h,by simp only[dG,oI,nT,hu,hc],?_⟩
     simp only[RD,kD]
    ·cases h
   ·cases h
  ·cases h
 ·rename_i len el hu
  split at h
  ·rename_i cs
   split at h
   ·rename_i sz hs
    split at h
    ·rename_i k n
     simp only[RD]at r ri
     obtain⟨vs,rfl,h1,h2⟩:=r
     subst ri
     obtain⟨m,rfl,h'⟩:=nJ h
     obtain⟨hl,h3⟩:=aG h'
     obtain⟨d,v',k1,k2,k3⟩:=qn h3 h1 h2
     exact⟨d,v',k1,by simp only[dG,oI,nT,hu,hs,hl,cond_true];exact k2,k3⟩
    ·cases h
   ·cases h
  ·cases h
 ·cases h
theorem HN{ty:TypeId}{x:D}{ok:Bool}{κ:D->ai}(h:lN P x ty ok κ=some out){v:V}(r:RD g x v):∃ d v',κ d=some out/\kw P (some v) ty ok=some v'/\RD g d v':=by
 have fail:∀ {κ:D->ai},(bif ok then(match oB P ty with|some z=>κ (.tuple [z,.bool false])|none=>none)else none)=some out->∃ d v',κ d=some out/\eI P ty ok=some v'/\RD g d v':=fun {κ} h=>by
  obtain⟨hk,h⟩:=aG h
  split at h
  ·rename_i z hz
   obtain⟨zv,h1,h2,_⟩:=iK (g:=g) hz
   exact⟨_,.tuple [zv,.bool false],h,by simp only[eI,hk,cond_true,h1],by simp only[RD,RL];exact⟨_,rfl,zv,_,rfl,h2,_,_,rfl,rfl,rfl⟩⟩
  ·cases h
 unfold lN at h
 split at h
 ·cases h
 ·rename_i td hni hu
  have hda:∀ w,kw P (some w) ty ok=match some w with
   |some .nilIface=>eI P ty ok
   |some (.iface t v)=>bif Nat.beq t ty then some (bif ok then .tuple [v,.bool true] else v)else eI P ty ok
   |_=>none:=fun w=>by
    unfold kw
    rw[hu]
    cases td<;>first|rfl|exact(hni _ rfl).elim
  split at h
  ·simp only[RD]at r
   obtain⟨v',rfl,h1⟩:=r
   rename_i t d
   rw[hda]
   simp only
   cases hb:Nat.beq t ty with
   |true =>
    rw[hb]at h
    refine⟨_,_,h,rfl,?_⟩
    cases ok with
    |false=>exact h1
    |true=>simp only[cond_true,RD,RL];exact⟨_,rfl,v',_,rfl,h1,_,_,rfl,rfl,rfl⟩
   |false =>
    rw[hb]at h
    exact fail h
  ·simp only[RD]at r
   subst r
   rw[hda]
   exact fail h
  ·cases h
 ·cases h
theorem Rr{x:D}{i:Nat}{κ:D->ai}(h:fx x i κ=some out){v:V}(r:RD g x v):∃ d v',κ d=some out/\nU (some v) i=some v'/\RD g d v':=by
 unfold fx at h
 split at h
 ·simp only[RD]at r
  obtain⟨vs,rfl,h1⟩:=r
  obtain⟨d,h2,h3⟩:=iH h
  obtain⟨v',h4,h5⟩:=h1.at h2
  exact⟨d,v',h3,h4,h5⟩
 ·cases h
theorem Tc{op:UnOp}{x:D}{κ:D->ai}(h:jR op x κ=some out){v:V}(r:RD g x v):∃ d v',κ d=some out/\LN op v=some v'/\RD g d v':=by
 unfold jR at h
 split at h
 ·split at h
  ·simp only[RD]at r;subst r;exact⟨_,_,h,rfl,by simp only[RD]⟩
  ·cases h
 ·split at h
  ·simp only[RD]at r;subst r;exact⟨_,_,h,rfl,by simp only[RD]⟩
  ·cases h
 ·cases h
theorem OH{src dst:TypeId}{x:D}{κ:D->ai}(h:oV P src dst x κ=some out){v:V}(r:RD g x v)(s:S):∃ d v',κ d=some out/\gU P s src dst v=some (v',s)/\RD g d v':=by
 unfold oV at h
 cases hs:P.underlying src with
 |none=>rw[hs]at h;cases h
 |some ds =>
 rw[hs]at h
 simp only[Option.isNone_some,cond_false]at h
 split at h
 ·rename_i k hu
  split at h
  ·simp only[RD]at r;subst r
   exact⟨_,.int k _,h,by simp only[gU,hs,hu,cb];rfl,by simp only[RD]⟩
  ·cases h
 ·rename_i hu
  split at h
  ·simp only[RD]at r
   obtain⟨rfl,hb⟩:=r
   exact⟨_,.str _,h,by simp only[gU,hs,hu,zU];rfl,by simp only[RD];exact⟨trivial,hb⟩⟩
  ·cases h
 ·cases h
theorem QW{op:BinOp}{k:IntKind}{a b:Int}{κ:D->ai}(h:Ui op k a b κ=some out):∃ d v',κ d=some out/\AJ op k a b=some v'/\RD g d v':=by
 have hz:∀ {κ:ai},boK (!(b==0)) κ=some out->(b==0)=false/\κ=some out:=fun h=>by
  obtain⟨hb,h⟩:=ec h
  exact⟨by cases hq:(b==0)<;>simp[hq]at hb ⊢,h⟩
 cases op
 case add=>exact⟨_,_,h,congrArg some (cb _ _),by simp only[RD]⟩
 case sub=>exact⟨_,_,h,congrArg some (cb _ _),by simp only[RD]⟩
 case mul=>exact⟨_,_,h,congrArg some (cb _ _),by simp only[RD]⟩
 case quo=>obtain⟨h1,h2⟩:=hz h;exact⟨_,.int k (k.wrap (a.tdiv b)),h2,by simp only[AJ,h1,cond_false],by simp only[RD]⟩
 case rem=>obtain⟨h1,h2⟩:=hz h;exact⟨_,.int k (a.tmod b),h2,by simp only[AJ,h1,cond_false],by simp only[RD]⟩
 all_goals first|(cases h;done)|exact⟨_,_,h,rfl,by simp only[RD]⟩
theorem PJ{op:BinOp}{a b:List Nat}{κ:D->ai}(h:Tj op a b κ=some out)(ha:∀ c∈a,c<256)(hb:∀ c∈b,c<256):∃ d v',κ d=some out/\vN op a b=some v'/\RD g d v':=by
 have he:jT a b=some (a==b):=by rw[pS ha hb];congr 1;rw[Bool.eq_iff_iff];simp
 cases op
 case add =>
  obtain⟨hq,h⟩:=ec h
  refine⟨_,.str (a++b),h,by simp only[vN,hq,cond_true],?_⟩
  simp only[RD]
  refine⟨trivial,fun c hc=>?_⟩
  rcases List.mem_append.1 hc with hc|hc
  ·exact ha c hc
  ·exact hb c hc
 case eql=>exact⟨_,.bool (a==b),h,by simp only[vN,he,Option.map],by simp only[RD]⟩
 case neq=>exact⟨_,.bool (!(a==b)),h,by simp only[vN,he,Option.map],by simp only[RD]⟩
 all_goals first|(cases h;done)|exact⟨_,_,h,rfl,by simp only[RD]⟩
theorem Ff{eq:TypeId->D->D->(Bool->ai)->ai}{eqv:TypeId->V->V->Option Bool}(he:∀ ty x y (κ:Bool->ai) (v w:V),eq ty x y κ=some out->RD g x v->RD g y w->∃ q,κ q=some out/\eqv ty v w=some q) :
 ∀ {fs:List Field} {xs ys:List D} {q:Bool} {κ:Bool->ai} {vs ws:List V},Ov P eq fs xs ys q κ=some out->RL g xs vs->aK vs->RL g ys ws->aK ws->∃ p,κ (q&&p)=some out/\(iN P eqv fs vs ws=some p)
 |[],xs,ys,q,κ,vs,ws,h,_,_,_,_=>⟨true,by rw[Bool.and_true];exact h,rfl⟩
 |f::r,xs,ys,q,κ,vs,ws,h,h1,h2,h3,h4=>by
  simp only[Ov]at h
  cases hn:(f.name == "_")with
  |true=>rw[hn]at h;cases h
  |false =>
   rw[hn]at h
   simp only[cond_false]at h
   obtain⟨a,va,k1,k2,k3⟩:=qn h h1 h2
   obtain⟨b,vb,j1,j2,j3⟩:=qn k1 h3 h4
   obtain⟨p,i1,i2⟩:=he _ _ _ _ _ _ j1 k3 j3
   obtain⟨p',i3,i4⟩:=Ff he i1 h1 h2 h3 h4
   refine⟨p&&p',by rw[<- Bool.and_assoc];exact i3,?_⟩
   simp only[iN,hn,cond_false,k2,j2,i2]
   cases p with
   |true=>simpa using i4
   |false=>rfl
theorem CI(okf:Ad->Bool):∀ {d:Nat} {ty:TypeId} {x y:D} {κ:Bool->ai} {v w:V},KX P d ty x y κ=some out->RD g x v->RD g y w->∃ q,κ q=some out/\cF P okf d ty v w=some q
 |0,_,_,_,_,_,_,h,_,_=>by cases h
 |d+1,ty,x,y,κ,v,w,h,r1,r2=>by
  simp only[KX]at h
  unfold cF
  split at h
  ·rename_i fs hu
   split at h
   ·simp only[RD]at r1 r2
    obtain⟨vs,rfl,h1,h2⟩:=r1
    obtain⟨ws,rfl,h3,h4⟩:=r2
    cases hs:P.stoodInHeld ty with
    |true=>rw[hs]at h;cases h
    |false =>
     rw[hs]at h
     simp only[cond_false]at h
     obtain⟨p,k1,k2⟩:=Ff (eqv:=cF P okf d) (fun ty x y κ v w a b c=>CI okf (d:=d) a b c) h h1 h2 h3 h4
     refine⟨p,by simpa using k1,?_⟩
     rw[hu];simp only[cond_false];exact k2
   ·cases h
  ·rename_i hu
   split at h<;>first|(cases h;done)|skip
   all_goals simp only[RD]at r1 r2
   ·subst r1 r2;exact⟨_,h,by rw[hu]⟩
   ·obtain⟨v',rfl,_⟩:=r2;subst r1;exact⟨_,h,by rw[hu]⟩
   ·obtain⟨v',rfl,_⟩:=r1;subst r2;exact⟨_,h,by rw[hu]⟩
  ·rename_i hu
   split at h
   ·simp only[RD]at r1 r2;subst r1 r2;exact⟨_,h,by rw[hu]⟩
   ·cases h
  ·rename_i hu
   split at h
   ·simp only[RD]at r1 r2;subst r1 r2
    obtain⟨hk,h⟩:=aG h
    exact⟨_,h,by rw[hu];simp only[hk,cond_true]⟩
   ·cases h
  ·rename_i hu
   split at h
   ·simp only[RD]at r1 r2
    obtain⟨rfl,ha⟩:=r1
    obtain⟨rfl,hb⟩:=r2
    refine⟨_,h,?_⟩
    rw[hu]
    simp only
    rw[pS ha hb];congr 1;rw[Bool.eq_iff_iff];simp
   ·cases h
  ·rename_i hu
   split at h<;>first|(cases h;done)|skip
   all_goals simp only[RD]at r1 r2
   ·subst r1 r2;exact⟨_,h,by rw[hu]⟩
   ·obtain⟨f,ver,_,rfl⟩:=r2;subst r1;exact⟨_,h,by rw[hu]⟩
   ·obtain⟨a,vs,rfl,_⟩:=r2;subst r1;exact⟨_,h,by rw[hu]⟩
   ·obtain⟨f,ver,sz,st,cap,l,ver',_,_,_,_,rfl,_⟩:=r2;subst r1;exact⟨_,h,by rw[hu]⟩
   ·obtain⟨f,ver,_,rfl⟩:=r1;subst r2;exact⟨_,h,by rw[hu]⟩
   ·obtain⟨a,vs,rfl,_⟩:=r1;subst r2;exact⟨_,h,by rw[hu]⟩
   ·obtain⟨f,ver,sz,st,cap,l,ver',_,_,_,_,rfl,_⟩:=r1;subst r2;exact⟨_,h,by rw[hu]⟩
  ·rename_i hu
   split at h<;>first|(cases h;done)|skip
   all_goals simp only[RD]at r1 r2
   ·subst r1 r2;exact⟨_,h,by rw[hu]⟩
   ·obtain⟨a',b',rfl,_⟩:=r2;subst r1;exact⟨_,h,by rw[hu]⟩
   ·obtain⟨a',b',rfl,_⟩:=r1;subst r2;exact⟨_,h,by rw[hu]⟩
  ·cases h
def XV:V->Nat
 |.bool _=>0|.int ..=>1|.str _=>2|.ptr _=>3|.nilptr=>4|.slice ..=>5|.nilslice=>5|.map _=>6|.nilmap=>7|.func ..=>8|.nilFunc=>9|.iface ..=>10|.nilIface=>11|.agg _=>12|.tuple _=>13|.atom _=>14
def Oy:D->Nat
 |.bool _=>0|.int ..=>1|.str _=>2|.ptr ..=>3|.eptr ..=>3|.bptr ..=>3|.nilptr=>4|.row ..=>5|.buf ..=>5|.nilrow=>5|.map _=>6|.nilmap=>7|.func ..=>8|.nilFunc=>9|.iface ..=>10|.nilIface=>11|.agg _=>12|.tuple _=>13|.yld _=>8|.abool=>0
theorem RD.tag{d:D}{v:V}(r:RD g d v):XV v=Oy d:=by
 cases d<;>simp only[RD]at r
 case bool=>subst r;rfl
 case int=>subst r;rfl
 case str=>obtain⟨rfl,_⟩:=r;rfl
 case ptr=>obtain⟨f,ver,_,rfl⟩:=r;rfl
 case eptr=>obtain⟨a,vs,rfl,_⟩:=r;rfl
 case bptr=>obtain⟨f,ver,sz,st,cap,l,ver',_,_,_,_,rfl,_⟩:=r;rfl
 case nilptr=>subst r;rfl
 case row=>rcases r with⟨_,rfl⟩|⟨_,a,z,sz',rfl⟩|⟨a,z,cap,rfl,_⟩<;>rfl
 case buf=>obtain⟨st,cap,l,_,_,⟨_,rfl|⟨a,z,sz',rfl⟩⟩|⟨_,f,ver,ver',c,_,rfl,_⟩⟩:=r<;>rfl
 case nilrow=>rcases r with rfl|⟨a,z,sz',rfl⟩<;>rfl
 case map=>obtain⟨f,ver,_,rfl⟩:=r;rfl
 case nilmap=>subst r;rfl
 case func=>obtain⟨a',b',rfl,_⟩:=r;rfl
 case nilFunc=>subst r;rfl
 case iface=>obtain⟨v',rfl,_⟩:=r;rfl
 case nilIface=>subst r;rfl
 case agg=>obtain⟨vs,rfl,_⟩:=r;rfl
 case tuple=>obtain⟨vs,rfl,_⟩:=r;rfl
 case yld=>obtain⟨f,ver,_,rfl⟩:=r;rfl
 case abool=>obtain⟨q,rfl⟩:=r;rfl
theorem vf{d:D}{j:IntKind}{n:Int}(r:RD g d (.int j n)):d=.int j n:=by
 have h:=r.tag
 cases d<;>first|(cases h;done)|skip
 simp only[RD]at r
 cases r;rfl
theorem vd{d:D}{l:List Nat}(r:RD g d (.str l)):d=.str l:=by
 have h:=r.tag
 cases d<;>first|(cases h;done)|skip
 simp only[RD]at r
 cases r.1;rfl
theorem DE{d:D}(r:RD g d .nilIface):d=.nilIface:=by
 have h:=r.tag
 cases d<;>first|(cases h;done)|rfl
theorem Ik{d:D}{vs:List V}(r:RD g d (.agg vs)):∃ cs,d=.agg cs:=by
 have h:=r.tag
 cases d<;>first|(cases h;done)|exact⟨_,rfl⟩
theorem RU{op:BinOp}{ty:TypeId}{x y:Operand}{a b:D}{κ:D->ai}(h:aC P op ty (eF x||eF y) a b κ=some out){v w:V}(r1:RD g a v)(r2:RD g b w)(s:S):∃ d v',κ d=some out/\fp P s op ty x y (some v) (some w)=some v'/\RD g d v':=by
 have gen:∀ {κ:D->ai},eT P op ty x y v w=true->(op=.eql->ff P (bz s) op ty v w=(cF P (bz s) 20 ty v w).map .bool)->(op=.neq->ff P (bz s) op ty v w=(cF P (bz s) 20 ty v w).map fun b=>.bool (!b)) ->
  (op=.eql/\(KX P 20 ty a b fun q=>κ (.bool q))=some out\/op=.neq/\(KX P 20 ty a b fun q=>κ (.bool !q))=some out)->∃ d v',κ d=some out/\fp P s op ty x y (some v) (some w)=some v'/\RD g d v':=fun {κ} hg h1 h2 h=>by
  rcases h with⟨e,h⟩|⟨e,h⟩
  ·obtain⟨q,k1,k2⟩:=CI (bz s) h r1 r2
   exact⟨_,.bool q,k1,by simp only[fp,hg,cond_true,h1 e,k2,Option.map],by simp only[RD]⟩
  ·obtain⟨q,k1,k2⟩:=CI (bz s) h r1 r2
   exact⟨_,.bool !q,k1,by simp only[fp,hg,cond_true,h2 e,k2,Option.map],by simp only[RD]⟩
 unfold aC at h
 split at h
 ·rename_i j m k n
  simp only[RD]at r1 r2;subst r1 r2
  cases hs:nN op with
  |true=>rw[hs]at h;cases h
  |false =>
   rw[hs]at h
   simp only[cond_false]at h
   obtain⟨hk,h⟩:=aG h
   obtain⟨d,v',h1,h2,h3⟩:=QW h
   refine⟨d,v',h1,?_,h3⟩
   have:eT P op ty x y (.int j m) (.int k n)=true:=by unfold eT;cases mJ op<;>rfl
   simp only[fp,this,cond_true,ff,hs,cond_false,hk,h2]
 ·simp only[RD]at r1 r2
  obtain⟨rfl,ha⟩:=r1
  obtain⟨rfl,hb⟩:=r2
  obtain⟨d,v',h1,h2,h3⟩:=PJ h ha hb
  refine⟨d,v',h1,?_,h3⟩
  have:∀ p q,eT P op ty x y (.str p) (.str q)=true:=fun p q=>by unfold eT;cases mJ op<;>rfl
  simp only[fp,this,cond_true,ff,h2]
 ·rename_i n1 n2
  obtain⟨hg,h⟩:=aG h
  have hh:op=.eql/\(KX P 20 ty a b fun q=>κ (.bool q))=some out\/op=.neq/\(KX P 20 ty a b fun q=>κ (.bool !q))=some out:=by
   split at h
   ·exact .inl ⟨rfl,h⟩
   ·exact .inr ⟨rfl,h⟩
   ·cases h
  refine gen ?_ (fun e=>?_) (fun e=>?_) hh
  ·unfold Oc at hg
   unfold eT
   cases he:mJ op with
   |false=>rfl
   |true =>
    rw[he]at hg
    simp only[cond_true]at hg ⊢
    split
    ·obtain rfl:=DE r1
     obtain rfl:=DE r2
     exact hg
    ·obtain⟨_,rfl⟩:=Ik r1
     obtain⟨_,rfl⟩:=Ik r2
     exact hg
    ·rfl
  ·subst e
   unfold ff
   split
   ·obtain rfl:=vf r1
    obtain rfl:=vf r2
    exact(n1 _ _ _ _ rfl rfl).elim
   ·obtain rfl:=vd r1
    obtain rfl:=vd r2
    exact(n2 _ _ rfl rfl).elim
   ·rfl
  ·subst e
   unfold ff
   split
   ·obtain rfl:=vf r1
    obtain rfl:=vf r2
    exact(n1 _ _ _ _ rfl rfl).elim
   ·obtain rfl:=vd r1
    obtain rfl:=vd r2
    exact(n2 _ _ rfl rfl).elim
   ·rfl
end Go.AI
namespace Go.AI
variable[fc]
variable{g:Gh}{LO:List Nat}{t:T LD}{tv:T V}{P:Program}{out:il}
theorem RD.one{d:D}{v:V}(r:RD g d v)(h1:Oy d≠12)(h2:Oy d≠13):v.one=true:=by
 have h:=r.tag
 cases v<;>first|rfl|(exfalso;first|exact h1 h.symm|exact h2 h.symm)
theorem lI{n:Nat}{d:D}{κ:List D->ai}(h:ag n d κ=some out){v:V}(r:RD g d v):∃ new,κ new=some out/\RL g new v.cells/\aK v.cells/\v.cells.length=n:=by
 unfold ag at h
 split at h
 ·simp only[RD]at r
  obtain⟨vs,rfl,h1,h2⟩:=r
  obtain⟨hb,h⟩:=aG h
  refine⟨_,h,h1,h2,?_⟩
  rw[<- Nat.eq_of_beq_eq_true hb]
  exact h1.len
 ·cases h
 ·rename_i n1 n2
  obtain⟨hb,h⟩:=aG h
  have h1:v.one=true:=r.one (by cases d<;>first|exact(n1 _ rfl).elim|(exact fun e=>by cases e)) (by cases d<;>first|exact(n2 _ rfl).elim|(exact fun e=>by cases e))
  rw[rh h1]
  exact⟨_,h,RL.one1 r,ej.2 ⟨h1,rfl⟩,(Nat.eq_of_beq_eq_true hb).symm⟩
theorem nI:∀ {cs:List D} {c:Nat} {new cs':List D} {vs ws:List V},lZ cs c new=some cs'->RL g cs vs->aK vs->RL g new ws->aK ws->∃ vs',bR vs c ws=some vs'/\RL g cs' vs'/\aK vs'/\cs'.length=cs.length
 |cs,c,[],cs',vs,ws,h,h1,h2,h3,_=>by
  simp only[RL]at h3;subst h3
  have:cs'=cs:=by cases cs<;>cases c<;>(simp only[lZ]at h;cases h;rfl)
  subst this
  refine⟨vs,?_,h1,h2,rfl⟩
  cases vs<;>cases c<;>rfl
 |x::r,n+1,y::new,cs',vs,ws,h,h1,h2,h3,h4=>by
  simp only[lZ]at h
  split at h
  ·rename_i l hl
   cases h
   simp only[RL]at h1
   obtain⟨v,vs',rfl,k1,k2⟩:=h1
   obtain⟨vs2,j1,j2,j3,j4⟩:=nI hl k2 (ej.1 h2).2 h3 h4
   simp only[RL]at h3
   obtain⟨w,ws',rfl,_,_⟩:=h3
   exact⟨v::vs2,by simp only[bR,j1,Option.map],by simp only[RL];exact⟨v,vs2,rfl,k1,j2⟩,ej.2 ⟨(ej.1 h2).1,j3⟩,by simp only[List.length_cons,j4]⟩
  ·cases h
 |x::r,0,y::new,cs',vs,ws,h,h1,h2,h3,h4=>by
  simp only[lZ]at h
  split at h
  ·rename_i l hl
   cases h
   simp only[RL]at h1 h3
   obtain⟨v,vs',rfl,k1,k2⟩:=h1
   obtain⟨w,ws',rfl,i1,i2⟩:=h3
   obtain⟨vs2,j1,j2,j3,j4⟩:=nI hl k2 (ej.1 h2).2 i2 (ej.1 h4).2
   exact⟨w::vs2,by simp only[bR,j1,Option.map],by simp only[RL];exact⟨w,vs2,rfl,i1,j2⟩,ej.2 ⟨(ej.1 h4).1,j3⟩,by simp only[List.length_cons,j4]⟩
  ·cases h
 |[],c,y::new,cs',vs,ws,h,_,_,_,_=>by cases c<;>(simp only[lZ]at h;cases h)
theorem wj{cs:List D}{c:Nat}{new:List D}{κ:List D->ai}(h:aw cs c new κ=some out){vs ws:List V}(h1:RL g cs vs)(h2:aK vs)(h3:RL g new ws)(h4:aK ws):∃ cs' vs',κ cs'=some out/\bR vs c ws=some vs'/\RL g cs' vs'/\aK vs'/\cs'.length=cs.length:=by
 unfold aw at h
 split at h
 ·rename_i l hl
  obtain⟨vs',k1,k2⟩:=nI hl h1 h2 h3 h4
  exact⟨l,vs',h,k1,k2⟩
 ·cases h
theorem xF(place:Nat->Option (Nat×Nat)):∀ {parts:List (Nat×Operand)} {cs:List D} {κ:List D->ai} {vs:List V},AZ place t parts cs κ=some out->(∀ x∈parts,Bx g LO t tv x.2)->RL g cs vs->aK vs ->
 ∃ cs' vs' ws,κ cs'=some out/\dP tv parts=some ws/\oQ place vs ws=some vs'/\RL g cs' vs'/\aK vs'
 |[],cs,κ,vs,h,_,h1,h2=>⟨cs,vs,[],h,rfl,rfl,h1,h2⟩
 |(i,x)::r,cs,κ,vs,h,ho,h1,h2=>by
  simp only[AZ]at h
  obtain⟨d,v,h,_,k1,k2⟩:=bd h (ho (i,x) List.mem_cons_self)
  split at h
  ·cases h
  ·rename_i off n hp
   obtain⟨hn,h⟩:=aG h
   obtain⟨new,h,k3,k4,k5⟩:=lI h k2
   obtain⟨cs1,vs1,h,k6,k7,k8,_⟩:=wj h h1 h2 k3 k4
   obtain⟨cs2,vs2,ws,j1,j2,j3,j4,j5⟩:=xF place h (fun y hy=>ho y (List.mem_cons_of_mem _ hy)) k7 k8
   refine⟨cs2,vs2,(i,v)::ws,j1,by simp only[dP,k1,j2],?_,j4,j5⟩
   simp only[oQ,hp,k5,Nat.beq_refl,hn,Bool.and_self,cond_true,k6,Option.bind]
   exact j3
theorem Ll{ty:TypeId}{parts:List (Nat×Operand)}{κ:D->ai}(h:yE P t ty parts κ=some out)(ho:∀ x∈parts,Bx g LO t tv x.2):∃ d v,κ d=some out/\nV P ty (dP tv parts)=some v/\RD g d v:=by
 unfold yE at h
 split at h
 ·rename_i z hz
  obtain⟨zv,h1,_,h3,h4⟩:=iK (g:=g) hz
  split at h
  ·rename_i fs hu
   obtain⟨ha,h⟩:=aG h
   obtain⟨cs',vs',ws,k1,k2,k3,k4,k5⟩:=xF _ h ho h3 h4
   exact⟨_,.agg vs',k1,by simp only[nV,h1,k2,hu,ha,cond_true,k3,FW],by simp only[RD];exact⟨vs',rfl,k4,k5⟩⟩
  ·rename_i nn el hu
   split at h
   ·rename_i n hn
    obtain⟨cs',vs',ws,k1,k2,k3,k4,k5⟩:=xF _ h ho h3 h4
    exact⟨_,.agg vs',k1,by simp only[nV,h1,k2,hu,hn,k3,FW],by simp only[RD];exact⟨vs',rfl,k4,k5⟩⟩
   ·cases h
  ·cases h
 ·cases h
def gg(H:DH)(g:Gh):Prop:=∀(o:Nat) b,H[o]? = some b->b=.dead\/g.H[o]? = some b
theorem gg.nil(g:Gh):gg [] g:=fun o b h=>by simp at h
theorem gg.refl(g:Gh):gg g.H g:=fun _ _ h=>.inr h
theorem Cd{H:DH}{o:Nat}{κ:Nat->List D->ai}(h:aA H o κ=some out)(hs:gg H g)(hok:Ok g):∃ st cs f el vs,κ st cs=some out/\H[o]? = some (.cells st cs)/\g.H[o]? = some (.cells st cs)/\g.O[o]? = some (some (f,0))/\g.s.get f=some (.cells el false 1 [⟨0,0,vs⟩])/\RL g cs vs/\aK vs:=by
 unfold aA at h
 split at h
 ·rename_i st cs hc
  have hg:g.H[o]? = some (.cells st cs):=(hs o _ hc).resolve_left (fun e=>by cases e)
  obtain⟨f,el,vs,h1⟩:=hok.obj o _ hg
  exact⟨st,cs,f,el,vs,h,hc,hg,h1⟩
 ·cases h
theorem lK{H:DH}{o n:Nat}{κ:Nat->Bool->Bool->List (List D)->ai}(h:eD H o n κ=some out)(hs:gg H g):∃ sz st cap l,κ sz st cap l=some out/\H[o]? = some (.buf sz st cap l)/\g.H[o]? = some (.buf sz st cap l)/\n=l.length:=by
 unfold eD at h
 split at h
 ·rename_i sz st cap l hc
  obtain⟨hb,h⟩:=aG h
  exact⟨sz,st,cap,l,h,hc,(hs o _ hc).resolve_left (fun e=>by cases e),Nat.eq_of_beq_eq_true hb⟩
 ·cases h
theorem Hf{s:S}{f el:Nat}{vs:List V}(h:s.get f=some (.cells el false 1 [⟨0,0,vs⟩])):loadCells s ⟨f,0,0⟩ vs.length=some vs:=by
 rw[ldn h,List.drop_zero];exact dC _ _ rfl
theorem QP{ty:TypeId}{d:D}{H:DH}{κ:D->ai}(h:eC P ty d H κ=some out)(hs:gg H g)(hok:Ok g){v:V}(r:RD g d v):∃ d' v',κ d'=some out/\ii P g.s ty (some v)=some (.val v' g.s)/\RD g d' v':=by
 unfold eC at h
 split at h
 ·simp only[RD]at r
  obtain⟨a,vs,rfl,h1,h2,h3,h4⟩:=r
  obtain⟨d',v',k1,k2,k3⟩:=lm h h2 h3 h4
  exact⟨d',v',k1,by rw[jd,k2];rfl,k3⟩
 ·rename_i o c
  simp only[RD]at r
  obtain⟨f,ver,h1,rfl⟩:=r
  obtain⟨_,cs,f',el,vs,h,_,_,h2,h3,h4,h5⟩:=Cd h hs hok
  rw[h1]at h2;cases h2
  obtain⟨d',v',k1,k2,k3⟩:=lm h (a:=⟨f,0,0⟩) (by rw[<- h4.len];exact Hf h3) h4 h5
  refine⟨d',v',k1,?_,k3⟩
  rw[jd,show(⟨f,0,c⟩:Ad)=ci ⟨f,0,0⟩ c by simp[ci],k2];rfl
 ·rename_i o n i c
  simp only[RD]at r
  obtain⟨f,ver,sz,st,cap,l,ver',h1,h2,h3,h4,rfl,h5⟩:=r
  obtain⟨sz',st',cap',l',h,_,h6,h7⟩:=lK h hs
  rw[h2]at h6;cases h6
  unfold bC at h
  split at h
  ·rename_i cs hc
   obtain⟨_,i1|⟨i1,f',ver2,el,nv,vers,cells,i2,i3,i4,i5,i6,i7⟩⟩:=hok.obj o _ h2
   ·rw[i1.1]at hc;simp at hc
   ·rw[h1]at i2;cases i2
    rw[h5 h7]
    obtain⟨vs,j1,j2,j3,j4⟩:=i7.at hc
    obtain⟨d',v',k1,k2,k3⟩:=lm h (a:=ci ⟨f,ver,0⟩ (i*sz)) (by rw[j1];exact j2) j3 j4
    refine⟨d',v',k1,?_,k3⟩
    rw[jd,show(⟨f,ver,i*sz+c⟩:Ad)=ci (ci ⟨f,ver,0⟩ (i*sz)) c by simp[ci],k2];rfl
  ·cases h
 ·cases h
theorem Et{ty:TypeId}{x:LD}{L:LS}{H:DH}{κ:D->ai}(h:oK P ty x L H κ=some out)(hs:gg H g)(hok:Ok g)(hl:VF g L LO){v:V}(r:RS g LO x v):∃ d' v',κ d'=some out/\ii P g.s ty (some v)=some (.val v' g.s)/\RD g d' v':=by
 cases x with
 |g d=>exact QP h hs hok r
 |u=>cases h
 |lp k c =>
  simp only[oK]at h
  obtain⟨f,h1,rfl⟩:=r
  split at h
  ·rename_i st cs hc
   obtain⟨_,h2|⟨el,vs,h2,h3,h4⟩⟩:=hl k _ f hc h1
   ·simp only at h2
    subst h2
    exfalso
    unfold cZ at h
    split at h
    ·split at h
     ·rename_i n _
      obtain⟨hn,h⟩:=aG h
      obtain⟨_,q⟩:=gq h
      have:=Nat.le_of_ble_eq_true hn
      simp at q
      omega
     ·cases h
    ·obtain⟨d,q,_⟩:=iH h
     simp at q
    ·cases h
   ·obtain⟨d',v',k1,k2,k3⟩:=lm h (a:=⟨f,0,0⟩) (by rw[<- h3.len];exact Hf h2) h3 h4
    refine⟨d',v',k1,?_,k3⟩
    rw[jd,show(⟨f,0,c⟩:Ad)=ci ⟨f,0,0⟩ c by simp[ci],k2];rfl
  ·cases h
theorem mG{ty el:TypeId}{d:TypeDesc}(h:vl P ty=some (d,el)):∃ kt,P.underlying ty=some (.map kt el)/\P.underlying kt=some d/\zw d=true/\dJ P kt=true:=by
 unfold vl at h
 split at h
 ·rename_i kt el' hu
  split at h
  ·rename_i d' hd
   cases hk:zw d' with
   |false=>rw[hk]at h;cases h
   |true =>
    rw[hk]at h;cases h
    refine⟨kt,hu,hd,hk,?_⟩
    unfold dJ
    rw[hd]
    cases d<;>first|(cases hk;done)|rfl
  ·cases h
 ·cases h
theorem nM{kt:TypeId}{td:TypeDesc}(hu:P.underlying kt=some td)(okf:Ad->Bool){a b:D}{v w:V}{q:Bool}(h:AD a b=some q)(hf:pq td a=true)(r1:RD g a v)(r2:RD g b w):cF P okf 20 kt v w=some q:=by
 unfold AD at h
 unfold cF
 rw[hu]
 split at h
 ·simp only[RD]at r1 r2;subst r1 r2
  revert h
  cases hk:cP _ _ with
  |false=>intro h;cases h
  |true =>
   intro h
   simp only[cond_true]at h
   cases td<;>first|(cases hf;done)|(simp only[hk,cond_true];exact h)
 ·simp only[RD]at r1 r2
  obtain⟨rfl,ha⟩:=r1
  obtain⟨rfl,hb⟩:=r2
  cases h
  cases td<;>first|(cases hf;done)|(simp only;rw[pS ha hb];congr 1;rw[Bool.eq_iff_iff];simp)
 ·simp only[RD]at r1 r2;subst r1 r2
  cases h
  cases td<;>first|(cases hf;done)|rfl
 ·cases h
def XK(g:Gh):Option D->Option V->Prop
 |some d,some v=>RD g d v
 |none,none=>True
 |_,_=>False
theorem pM.find{kt:TypeId}{td:TypeDesc}(hu:P.underlying kt=some td)(okf:Ad->Bool){k:D}{kv:V}(hf:pq td k=true)(rk:RD g k kv):∀ {es:List (D×D)} {ents:List oz} {r:Option D},pM g es ents->KE k es=some r->∃ rv,bS (cF P okf 20 kt) kv ents=some rv/\XK g r rv
 |[],_,r,h,e=>by
  simp only[pM]at h;subst h
  cases e;exact⟨none,rfl,trivial⟩
 |(x,v)::l,_,r,h,e=>by
  simp only[pM]at h
  obtain⟨⟨ke,ve,born⟩,es',rfl,h1,h2,_,h4⟩:=h
  simp only[KE]at e
  split at e
  ·rename_i hq
   cases e
   exact⟨some ve,by simp only[bS,nM hu okf hq hf rk h1,bS.foundKey],h2⟩
  ·rename_i hq
   obtain⟨rv,k1,k2⟩:=pM.find hu okf hf rk h4 e
   exact⟨rv,by simp only[bS,nM hu okf hq hf rk h1,bS.foundKey,k1],k2⟩
  ·cases e
theorem yn{H:DH}{o:Nat}{κ:List (D×D)->ai}(h:qz H o κ=some out)(hs:gg H g)(hok:Ok g):∃ es f ents clock,κ es=some out/\H[o]? = some (.map es)/\g.H[o]? = some (.map es)/\g.O[o]? = some (some (f,0))/\g.s.get f=some (.map ents clock)/\pM g es ents:=by
 unfold qz at h
 split at h
 ·rename_i es hc
  have hg:g.H[o]? = some (.map es):=(hs o _ hc).resolve_left (fun e=>by cases e)
  obtain⟨f,ents,clock,h1,h2,h3⟩:=hok.obj o _ hg
  exact⟨es,f,ents,clock,h,hc,hg,h1,h2,h3⟩
 ·cases h
theorem AQ{el:TypeId}{ok:Bool}{o:Option D}{κ:D->ai}(h:mL P el ok o κ=some out){rv:Option V}(hr:XK g o rv):∃ d v,κ d=some out/\Jt P el ok (some rv)=some v/\RD g d v:=by
 cases o with
 |some d =>
  cases rv with
  |none=>exact hr.elim
  |some v =>
   refine⟨_,_,h,rfl,?_⟩
   cases ok with
   |false=>exact hr
   |true=>simp only[cond_true,RD,RL];exact⟨_,rfl,v,_,rfl,hr,_,_,rfl,rfl,rfl⟩
 |none =>
  cases rv with
  |some _=>exact hr.elim
  |none =>
   simp only[mL]at h
   split at h
   ·rename_i z hz
    obtain⟨zv,h1,h2,_⟩:=iK (g:=g) hz
    refine⟨_,bif ok then .tuple [zv,.bool false] else zv,h,by simp only[Jt,h1],?_⟩
    cases ok with
    |false=>exact h2
    |true=>simp only[cond_true,RD,RL];exact⟨_,rfl,zv,_,rfl,h2,_,_,rfl,rfl,rfl⟩
   ·cases h
theorem Nz{ty:TypeId}{m k:D}{ok:Bool}{H:DH}{κ:D->ai}(h:qC P ty m k ok H κ=some out)(hs:gg H g)(hok:Ok g){mv kv:V}(r1:RD g m mv)(r2:RD g k kv):∃ d v,κ d=some out/\jc P g.s ty (some mv) (some kv) ok=some v/\RD g d v:=by
 unfold qC at h
 split at h
 ·rename_i td el hm
  obtain⟨kt,hu,hk,_,hsk⟩:=mG hm
  split at h
  ·obtain⟨hf,h⟩:=aG h
   simp only[RD]at r1
   obtain⟨f,ver,h1,rfl⟩:=r1
   obtain⟨es,f',ents,clock,h,_,_,h2,h3,h4⟩:=yn h hs hok
   rw[h1]at h2;cases h2
   unfold At at h
   split at h
   ·rename_i r hr
    obtain⟨rv,k1,k2⟩:=h4.find (P:=P) hk (bz g.s) hf r2 hr
    obtain⟨d,v,j1,j2,j3⟩:=AQ h k2
    exact⟨d,v,j1,by simp only[jc,hu,yg,h3,hsk,cond_true,k1];exact j2,j3⟩
   ·cases h
  ·simp only[RD]at r1;subst r1
   obtain⟨d,v,j1,j2,j3⟩:=AQ (g:=g) h (rv:=none) trivial
   exact⟨d,v,j1,by simp only[jc,hu,yg,hsk,cond_true,bS];exact j2,j3⟩
  ·cases h
 ·cases h
theorem pM.len:∀ {es:List (D×D)} {ents:List oz},pM g es ents->ents.length=es.length
 |[],_,h=>by simp only[pM]at h;subst h;rfl
 |(x,v)::l,_,h=>by
  simp only[pM]at h
  obtain⟨e,es',rfl,_,_,_,h4⟩:=h
  simp only[List.length_cons,pM.len h4]
theorem QN{ty:TypeId}{x:D}{H:DH}{κ:D->ai}(h:bY P ty x H κ=some out)(hs:gg H g)(hok:Ok g){v:V}(r:RD g x v):∃ d v',κ d=some out/\kb P ty g.s v=some v'/\RD g d v':=by
 unfold bY at h
 split at h
 ·rename_i hu
  split at h
  ·simp only[RD]at r
   obtain⟨rfl,_⟩:=r
   exact⟨_,.int .i64 _,h,by simp only[kb,hu,cb];rfl,by simp only[RD]⟩
  ·cases h
 ·rename_i hu
  split at h
  ·rename_i l
   simp only[RD]at r
   refine⟨_,.int .i64 (l.length:Nat),h,?_,by simp only[RD]⟩
   rcases r with⟨rfl,rfl⟩|⟨rfl,a,z,sz',rfl⟩|⟨a,z,cap,rfl,_⟩
   ·simp only[kb,hu];rfl
   ·simp only[kb,hu,cb];rfl
   ·simp only[kb,hu,cb]
  ·rename_i n
   simp only[RD]at r
   obtain⟨st,cap,l,_,_,⟨rfl,rfl|⟨a,z,sz',rfl⟩⟩|⟨_,f,ver,ver',c,_,rfl,_⟩⟩:=r
   ·exact⟨_,.int .i64 0,h,by simp only[kb,hu],by simp only[RD];rfl⟩
   ·exact⟨_,.int .i64 0,h,by simp only[kb,hu,cb];rfl,by simp only[RD];rfl⟩
   ·exact⟨_,.int .i64 (n:Nat),h,by simp only[kb,hu,cb],by simp only[RD]⟩
  ·simp only[RD]at r
   refine⟨_,.int .i64 0,h,?_,by simp only[RD]⟩
   rcases r with rfl|⟨a,z,sz',rfl⟩
   ·simp only[kb,hu]
   ·simp only[kb,hu,cb];rfl
  ·cases h
 ·rename_i hu
  split at h
  ·simp only[RD]at r
   obtain⟨f,ver,h1,rfl⟩:=r
   obtain⟨es,f',ents,clock,h,_,_,h2,h3,h4⟩:=yn h hs hok
   rw[h1]at h2;cases h2
   exact⟨_,.int .i64 (es.length:Nat),h,by simp only[kb,hu,h3,h4.len],by simp only[RD]⟩
  ·simp only[RD]at r;subst r
   exact⟨_,.int .i64 0,h,by simp only[kb,hu],by simp only[RD]⟩
  ·cases h
 ·cases h
theorem QE{q:Bool}{x y:D}{κ:D->ai}(h:Ha q x y κ=some out){v w:V}(r1:RD g x v)(r2:RD g y w):∃ d v',κ d=some out/\(bif q then KF v w else KD v w)=some v'/\RD g d v':=by
 unfold Ha at h
 split at h
 ·split at h
  ·simp only[RD]at r1 r2;subst r1 r2
   obtain⟨hk,h⟩:=aG h
   refine⟨_,_,h,?_,by simp only[RD];rfl⟩
   cases q with
   |true=>simp only[cond_true,KF,hk]
   |false=>simp only[cond_false,KD,hk,cond_true]
  ·cases h
 ·cases h
theorem wA{q:Bool}:∀ {l:List D} {x:D} {κ:D->ai} {ws:List V} {v:V},gO q x l κ=some out->RD g x v->RL g l ws->∃ d v',κ d=some out/\ws.foldlM (fun a b=>bif q then KF a b else KD a b) v=some v'/\RD g d v'
 |[],x,κ,ws,v,h,r1,r2=>by simp only[RL]at r2;subst r2;exact⟨x,v,h,rfl,r1⟩
 |y::l,x,κ,ws,v,h,r1,r2=>by
  simp only[RL]at r2
  obtain⟨w,ws',rfl,r3,r4⟩:=r2
  simp only[gO]at h
  obtain⟨d,v1,h,h1,h2⟩:=QE h r1 r3
  obtain⟨d',v',k1,k2,k3⟩:=wA h h2 r4
  exact⟨d',v',k1,by rw[List.foldlM_cons,h1];exact k2,k3⟩
end Go.AI
